/-
  A part of the proofs over this seat: a machine over data (the file in which the theorems stand says what is proved).
-/
import Derived.ChangeCalls
import Derived.KernelRfl
import Derived.Laws.Sem
import Derived.LoopN
import Derived.OpenShut
import Derived.ProofKit
import Derived.Test.YtafmihnhdodekaaGreatReC0
namespace Go.Dm
open Go.RowKit
theorem Mem.apply_toks (m : Mem) (d : Option Tmp) (nv : Nat) (x : T) (ut : List (Nat × Nat)) (rv rt : List Nat) : m.apply d nv { dst := x, ut, rv, rt } = Mem.put { m with tok := gc ut m.tok } d x := by
  cases d with
  | none => simp [Mem.apply, Mem.put, lk]; rfl
  | some d =>
    simp only [Mem.put, Mem.apply, lk, Option.isSome_none, Bool.false_eq_true, and_false, if_false, Option.some.injEq]
    congr 1
    funext t
    by_cases h : d = t
    · simp [h]
    · simp [h, Ne.symm h]
theorem Mem.apply_lent (m : Mem) (d : Option Tmp) (nv id : Nat) (xs : List V) (x : T) (ut : List (Nat × Nat)) (rv rt : List Nat) : m.apply d nv { dst := x, uv := [(id, xs)], ut, rv, rt } =
    Mem.put { m with var := fun i => if i = id then some xs else m.var i, tok := gc ut m.tok } d x := by
  have hv : (m.apply d nv { dst := x, uv := [(id, xs)], ut, rv, rt }).var = fun i => if i = id then some xs else m.var i := by
    funext i
    simp only [Mem.apply, Option.isSome_none, Bool.false_eq_true, and_false, if_false, lk]
    by_cases h : id = i
    · simp [h]
    · simp [h, Ne.symm h]
  cases d with
  | none =>
    simp only [Mem.put]
    rw [← hv]
    simp [Mem.apply, lk]; rfl
  | some d =>
    simp only [Mem.put]
    rw [← hv]
    simp only [Mem.apply, lk, Option.some.injEq]
    congr 1
    funext t
    by_cases h : d = t
    · simp [h]
    · simp [h, Ne.symm h]
theorem lW {γ : Gh} {tok : Nat → Option Nat} {w : World} {ks : List K} {us : List Value} (h : bf (K.rep γ tok w) ks us) : (yy ks).rep γ tok w (pP us) := by
  match ks, us, h with
  | [], [], _ => exact ⟨[], rfl, trivial⟩
  | [k], [u], h => exact h.1
  | k :: k' :: ks, u :: u' :: us, h => exact ⟨u :: u' :: us, rfl, h⟩
  | [], _ :: _, h => exact h.elim
  | [_], [], h => exact h.elim
  | [_], _ :: _ :: _, h => exact h.2.elim
  | _ :: _ :: _, [], h => exact h.elim
  | _ :: _ :: _, [_], h => exact h.2.elim
theorem sS {Fr Fr' N : Nat → Nat → Prop} {w : World} : ∀ {rs : List Res} {us : List Value}, rs.all Res.bare = true → bf (Res.rep Fr N w) rs us → bf (Res.rep Fr' N w) rs us
  | [], [], _, _ => trivial
  | r :: rs, u :: us, hb, h => by
    simp only [List.all_cons, Bool.and_eq_true] at hb
    refine ⟨?_, sS hb.2 h.2⟩
    have h1 := h.1
    unfold Res.bare at hb
    split at hb
    · simpa only [Res.rep, C.rep] using h1
    · simp at hb
  | [], _ :: _, _, h => h.elim
  | _ :: _, [], _, h => h.elim
theorem jv {Fr N : Nat → Nat → Prop} {w : World} {rs : List Res} {us : List Value} (h : bf (Res.rep Fr N w) rs us) {r sz : Nat} {es : List (List C)} {u : Value} (hr : rs[r]? = some (.top sz es)) (hu : us[r]? = some u) {b : Nat} (hb : cB u = some b) : ∃ lo, N b lo := by
  obtain ⟨u', hu', _, base, cap, rfl, _, ht⟩ := h.get r _ hr
  rw [hu] at hu'
  cases hu'
  unfold cB at hb
  split at hb
  · rename_i a n c heq
    split at hb
    · cases hb
    · rename_i hne
      simp only [Value.slice.injEq] at heq
      obtain ⟨h1, h2, h3⟩ := heq
      obtain ⟨b', hb1, hb2, _⟩ := ht.resolve_left (by omega)
      rw [hb1] at h1
      cases h1
      cases hb
      exact ⟨_, hb2⟩
  · cases hb
theorem jJ {F : Fm} {γ : Gh} {m : Mem} {a : Act} {w : World} (h : Rel F γ m a w) {j l : Nat} (hj : m.tok j = some l) (hc : (γ.tk j).cap ≠ l) : ∃ b, (γ.tk j).base.map (·.block) = some b ∧ b < w.heap.size := by
  obtain ⟨b, hb, _, ⟨arr, e, harr, _⟩, _⟩ := (h.toks j l hj).2.resolve_left hc
  refine ⟨b, by rw [hb]; rfl, ?_⟩
  rcases Nat.lt_or_ge b w.heap.size with h | h
  · exact h
  · rw [Array.getElem?_eq_none h] at harr; cases harr
theorem iD {locs : List (Nat × Nat)} {b o : Nat} (h : pJ [] locs b o) : False := by
  obtain ⟨k, cs, p, h1, _⟩ := h
  simp at h1
theorem A.extra {Fr : Nat → Nat → Prop} {w : World} {all : List (Nat × Nat)} : ∀ {cs : List C} {vs : List Value}, bf (C.rep Fr w) cs vs → bf (A.rep Fr w all) (cs.map .c) vs
  | [], [], _ => trivial
  | _ :: _, _ :: _, h => ⟨h.1, A.extra h.2⟩
  | [], _ :: _, h => h.elim
  | _ :: _, [], h => h.elim
theorem Rel.freeze1 {F : Fm} {γ : Gh} {m : Mem} {a : Act} {w : World} (h : Rel F γ m a w) {id b o : Nat} {ys : List V} (hv : m.var id = some ys) (hl : γ.loc id = some (b, o)) :
    let γ' : Gh := { γ with fr := fun b' x => γ.fr b' x ∨ (b' = b ∧ o ≤ x ∧ x < o + ys.length) }
    let m' : Mem := { m with var := fun i => if i = id then some [] else m.var i }
    Rel F γ' m' a w ∧ Ex γ γ' m.tok m'.tok w w := by
  intro γ' m'
  obtain ⟨b', o', h1, h2, h3, h5⟩ := h.vars id ys hv
  rw [hl] at h1; cases h1
  have hex : Ex γ γ' m.tok m'.tok w w := ⟨⟨fun _ _ h => .inl h, fun _ _ _ _ h => h, fun _ _ _ _ h => h⟩, fun _ _ h => h, fun _ _ h => .inl ⟨h, rfl⟩⟩
  refine ⟨?_, hex⟩
  exact {
    defers := h.defers
    size := h.size
    base := h.base
    fr0 := fun b o hx => .inl (h.fr0 b o hx)
    frs := fun b1 x hx => by
      rcases hx with hx | ⟨rfl, hx, hx'⟩
      · exact h.frs b1 x hx
      · have := (h5 (x - o) (by omega)).2
        rw [show o + (x - o) = x by omega] at this
        exact .inr this
    frlt := fun b1 x hx => by
      rcases hx with hx | ⟨rfl, _⟩
      · exact h.frlt b1 x hx
      · exact h.loclt id _ _ hl
    loclt := h.loclt
    tmps := fun t => T.rep.mono hex _ _ (h.tmps t)
    vars := fun i zs hi => by
      by_cases he : i = id
      · subst he
        simp only [m', if_true, Option.some.injEq] at hi
        subst hi
        exact ⟨b, o, hl, ⟨[], trivial, fun j v hj => by simp at hj⟩, fun j hj => by simp at hj, fun j hj => by simp at hj⟩
      · simp only [m', he, if_false] at hi
        obtain ⟨b2, o2, k1, ⟨vs, k2, k3⟩, k4, k5⟩ := h.vars i zs hi
        have hap := h.apart i id zs ys b2 o2 b o he hi hv k1 hl
        refine ⟨b2, o2, k1, ⟨vs, k2.mono (fun x v => V.rep.mono hex x v), k3⟩, k4, fun j hj => ⟨fun hx => ?_, (k5 j hj).2⟩⟩
        rcases hx with hx | ⟨hb, hx, hx'⟩
        · exact (k5 j hj).1 hx
        · omega
    novar := fun i hi => by
      by_cases he : i = id
      · subst he; simp [m'] at hi
      · simp [m', he] at hi; exact h.novar i hi
    lentloc := h.lentloc
    apart := fun i j zs us b1 o1 b2 o2 hij hi hj hl1 hl2 => by
      have key : ∀ k zs', m'.var k = some zs' → ∃ zs, m.var k = some zs ∧ zs'.length ≤ zs.length := fun k zs' hk => by
        by_cases he : k = id
        · subst he
          simp only [m', if_true, Option.some.injEq] at hk
          subst hk
          exact ⟨ys, hv, by simp⟩
        · simp only [m', he, if_false] at hk; exact ⟨zs', hk, Nat.le_refl _⟩
      obtain ⟨zs1, hz1, e1⟩ := key i _ hi
      obtain ⟨zs2, hz2, e2⟩ := key j _ hj
      have := h.apart i j zs1 zs2 b1 o1 b2 o2 hij hz1 hz2 hl1 hl2
      omega
    toks := fun i k hi => by
      obtain ⟨k1, k2⟩ := h.toks i k hi
      refine ⟨k1, ?_⟩
      by_cases hc : (γ.tk i).cap = k
      · exact .inl hc
      · obtain ⟨b2, hbs, hge, harr, hfr⟩ := k2.resolve_left hc
        refine .inr ⟨b2, hbs, hge, harr, fun x hx hq => ?_⟩
        rcases hq with hq | ⟨hb, _⟩
        · exact hfr x hx hq
        · have := h.tvar i k id ys b o hi hv hl hc
          rw [hbs] at this
          exact this (by simp [hb])
    tapart := h.tapart
    tvar := fun i k j zs b1 o1 hi hj hl1 hc => by
      by_cases he : j = id
      · subst he; exact h.tvar i k j ys b1 o1 hi hv hl1 hc
      · simp only [m', he, if_false] at hj; exact h.tvar i k j zs b1 o1 hi hj hl1 hc }
theorem Rel.freeze {F : Fm} {a : Act} {w : World} : ∀ (rs : List Nat) {γ : Gh} {m : Mem}, Rel F γ m a w → (∀ id ∈ rs, (m.var id).isSome = true) →
    ∃ γ' : Gh, γ'.loc = γ.loc ∧ γ'.tk = γ.tk ∧ (∀ b o, γ.fr b o → γ'.fr b o) ∧ (∀ id ∈ rs, ∀ ys b o, m.var id = some ys → γ.loc id = some (b, o) → ∀ j, j < ys.length → γ'.fr b (o + j)) ∧
      Rel F γ' { m with var := fun i => if i ∈ rs then some [] else m.var i } a w ∧ Ex γ γ' m.tok m.tok w w
  | [], γ, m, h, _ => ⟨γ, rfl, rfl, fun _ _ h => h, by simp, by simpa using h, .refl _ _ _⟩
  | id :: rs, γ, m, h, hs => by
    obtain ⟨ys, hv⟩ := Option.isSome_iff_exists.1 (hs id (by simp))
    obtain ⟨b, o, hl, _⟩ := h.vars id ys hv
    obtain ⟨h1, hx1⟩ := h.freeze1 hv hl
    obtain ⟨γ', e1, e2, e3, e4, h2, hx2⟩ := Rel.freeze rs h1 (fun i hi => by
      simp only
      split
      · rfl
      · exact hs i (by simp [hi]))
    refine ⟨γ', e1, e2, fun b o hx => e3 b o (.inl hx), fun i hi zs b1 o1 hz hl1 j hj => ?_, ?_, hx1.trans hx2⟩
    · by_cases he : i = id
      · subst he
        rw [hv] at hz; cases hz
        rw [hl] at hl1; cases hl1
        exact e3 _ _ (.inr ⟨rfl, by omega, by omega⟩)
      · refine e4 i ?_ zs b1 o1 ?_ hl1 j hj
        · simpa [he] using hi
        · simp [he, hz]
    · have : (fun i => if i ∈ rs then some [] else if i = id then some [] else m.var i) = fun i => if i ∈ id :: rs then some [] else m.var i := by
        funext i
        by_cases h3 : i ∈ rs <;> by_cases h4 : i = id <;> simp [h3, h4]
      simp only [this] at h2
      exact h2
theorem pB {m : Mem} : ∀ {caps : List (C ⊕ (Nat × Nat))} {cs : List C}, caps.mapM (lD m) = some cs → ∀ {c : C ⊕ (Nat × Nat)}, c ∈ caps → (lD m c).isSome = true
  | [], _, _, c, hc => by simp at hc
  | d :: ds, cs, h, c, hc => by
    rw [List.mapM_cons] at h
    cases hd : lD m d with
    | none => simp [hd] at h
    | some x =>
      cases hr : ds.mapM (lD m) with
      | none => simp [hd, hr] at h
      | some r =>
        rcases List.mem_cons.1 hc with rfl | hc
        · rw [hd]; rfl
        · exact pB hr hc
theorem gt {P : Program} {m : Mem} : ∀ {tys : List TypeId} {xs : List T} {k : Nat} {as : List A} {ls : List (Nat × Nat × List C)} {rs : List Nat}, cF P m tys xs k = some (as, ls, rs) → ∀ id ∈ rs, (m.var id).isSome = true
  | [], [], k, as, ls, rs, h => by simp only [cF, Option.some.injEq, Prod.mk.injEq] at h; obtain ⟨_, _, rfl⟩ := h; simp
  | t :: ts, x :: xs, k, as, ls, rs, h => by
    have hsn : ∀ {id off : Nat} {cs : List C}, xD m id off = some cs → (m.var id).isSome = true := fun {id off cs} hs => by
      unfold xD at hs
      split at hs
      · rename_i hv; rw [hv]; rfl
      · cases hs
    simp only [cF] at h
    split at h
    · split at h
      · rename_i cs as' ls' rs' hcs hrec
        simp only [Option.some.injEq, Prod.mk.injEq] at h
        obtain ⟨rfl, rfl, rfl⟩ := h
        exact gt hrec
      · cases h
    · split at h
      · split at h
        · split at h
          · rename_i hrec
            simp only [Option.some.injEq, Prod.mk.injEq] at h
            obtain ⟨rfl, rfl, rfl⟩ := h
            exact gt hrec
          · cases h
        · cases h
      · cases h
    · rename_i id off sz n
      split at h
      · rename_i cs hcs
        split at h
        · rename_i hrec
          simp only [Option.some.injEq, Prod.mk.injEq] at h
          obtain ⟨rfl, rfl, rfl⟩ := h
          intro i hi
          rcases List.mem_cons.1 hi with rfl | hi
          · exact hsn hcs
          · exact gt hrec i hi
        · cases h
      · cases h
    · rename_i f caps
      split at h
      · rename_i cs as' ls' rs' hcs hrec
        simp only [Option.some.injEq, Prod.mk.injEq] at h
        obtain ⟨rfl, rfl, rfl⟩ := h
        intro i hi
        rcases List.mem_append.1 hi with hi | hi
        · obtain ⟨c, hc, hi⟩ := List.mem_flatMap.1 hi
          have hc2 := pB hcs hc
          cases c with
          | inl x => simp [gK] at hi
          | inr p =>
            simp only [gK, List.mem_singleton] at hi
            subst hi
            simp only [lD, Option.isSome_map] at hc2
            obtain ⟨cs', hs'⟩ := Option.isSome_iff_exists.1 hc2
            exact hsn hs'
        · exact gt hrec i hi
      · cases h
    · split at h
      · rename_i hrec
        simp only [Option.some.injEq, Prod.mk.injEq] at h
        obtain ⟨rfl, rfl, rfl⟩ := h
        exact gt hrec
      · cases h
    · cases h
  | [], _ :: _, _, _, _, _, h => by simp [cF] at h
  | _ :: _, [], _, _, _, _, h => by simp [cF] at h
theorem Ba (rs : List Nat) (i : Nat) : lk (rs.map fun id => (id, ([] : List V))) i = if i ∈ rs then some [] else none := by
  induction rs with
  | nil => rfl
  | cons id rs ih =>
    simp only [List.map_cons, lk, ih]
    by_cases h : i ∈ rs
    · simp [h]
    · by_cases h2 : id = i
      · subst h2; simp [h]
      · simp [h, h2, Ne.symm h2]
theorem Mem.apply_gone (m : Mem) (d : Option Tmp) (nv : Nat) (rs : List Nat) (x : T) (ut : List (Nat × Nat)) (rv rt : List Nat) : m.apply d nv { dst := x, uv := rs.map fun id => (id, []), ut, rv, rt } =
    Mem.put { m with var := fun i => if i ∈ rs then some [] else m.var i, tok := gc ut m.tok } d x := by
  have hv : (m.apply d nv { dst := x, uv := rs.map fun id => (id, []), ut, rv, rt }).var = fun i => if i ∈ rs then some [] else m.var i := by
    funext i
    simp only [Mem.apply, Option.isSome_none, Bool.false_eq_true, and_false, if_false, Ba]
    by_cases h : i ∈ rs <;> simp [h]
  cases d with
  | none =>
    simp only [Mem.put]
    rw [← hv]
    simp [Mem.apply]; rfl
  | some d =>
    simp only [Mem.put]
    rw [← hv]
    simp only [Mem.apply, Option.some.injEq]
    congr 1
    funext t
    by_cases h : d = t
    · simp [h]
    · simp [h, Ne.symm h]
theorem uC {E : Env} (hE : EnvOk E) {F : Fm} {γ : Gh} {m : Mem} {a : Act} {w : World} (h : Rel F γ m a w) (hg : eG E.gl γ.fr w) {d : Option Tmp} (hd : ∀ t, d = some t → t < F.n) {nv nt : Nat} {g : FuncId} {extra : List C} {ev : List Value}
    (hex : bf (C.rep γ.fr w) extra ev) {tys : List TypeId} {xs : List T} {vs : List Value} (hx : bf (T.rep γ m.tok w) xs vs) {e : Eff} (he : hH E m nt g extra tys xs = some e) (hnt : ∀ i n, (i, n) ∈ e.ut → m.tok i = none) :
    p8 E.P g ∧ Calls E.P g (vs ++ ev).toArray w fun
      | .returned v, w' => ig E F (m.apply d nv e) (a.put d v) w'
      | _, _ => False := by
  unfold hH at he
  split at he
  · rename_i as ls rs hargs
    split at he
    · rename_i res ims hF
      obtain ⟨hent, hmeets'⟩ := hE.call _ _ _ _ _ hF
      have hmeets := hmeets'.plain (pA (dt hargs) (xJ _))
      refine ⟨hent, ?_⟩
      simp only at he
      split at he
      · split at he
        · rename_i hcond
          cases he
          have main : ∀ (Fr : Nat → Nat → Prop), (∀ b o, γ.fr b o → Fr b o) → (∀ b o, Fr b o → b < w.heap.size) → (∀ id ∈ rs, ∀ ys b o, m.var id = some ys → γ.loc id = some (b, o) → ∀ j, j < ys.length → Fr b (o + j)) →
              ((∀ b o, Fr b o → γ.fr b o) ∨ res.all Res.bare = true) →
              Calls E.P g (vs ++ ev).toArray w fun
                | .returned v, w' => ig E F (m.apply d nv { dst := yy (gX nt res).1, ut := (gX nt res).2, rv := rs }) (a.put d v) w'
                | _, _ => False := by
            intro Fr hFr hlt hsn hor
            have hev : Ev γ.fr Fr w w := ⟨hFr, fun _ _ _ _ h => h, fun _ _ _ _ h => h⟩
            obtain ⟨hA, _⟩ := dx (P := E.P) h hFr hargs hx hsn [] (fun j p hj => by simp at hj)
            have hA2 := hA.append (A.extra (all := []) (hex.mono (fun c v hc => C.rep.mono hev c v hc)))
            have hm := hmeets Fr w [] (vs ++ ev) hlt (hg.mono hev) trivial (fun i j cs ds p q _ hi => by simp at hi) hA2
            refine hm.mono fun e w' hpost => ?_
            obtain ⟨us, Fr', rfl, hbb, hf1, hf2, hres, hap, _, _⟩ := hpost
            have hbelow : Below w.heap.size w w' := (hbb.mono (fun b o hi => iD hi) : BelowBut (fun _ _ => False) w w').below
            have fin : ∀ (fr' : Nat → Nat → Prop), (∀ b o, γ.fr b o → fr' b o) → (∀ b o, fr' b o → γ.fr b o ∨ (w.heap.size ≤ b ∧ b < w'.heap.size)) → bf (Res.rep fr' (fun b _ => w.heap.size ≤ b) w') res us →
                ig E F (m.apply d nv { dst := yy (gX nt res).1, ut := (gX nt res).2, rv := rs }) (a.put d (pP us)) w' := by
              intro fr' h1 h2 h3
              obtain ⟨g1, g2⟩ := h.grow hbelow h1 h2
              obtain ⟨γ', k1, k2, k3, k4⟩ := fu (N := fun b _ => w.heap.size ≤ b) (fun b lo hb => .inl (Nat.le_trans h.base.size hb)) g1 h3 hap hnt (fun id xs b o _ hl lo hb => Nat.not_le.2 (h.loclt id b o hl) hb) (fun j l hj hc r sz es u hr hu b hb => by
                obtain ⟨b', hb', hlt'⟩ := jJ h hj hc
                obtain ⟨_, this⟩ := jv h3 hr hu hb
                rw [hb']
                intro heq
                cases heq
                omega)
              refine ⟨γ', ?_, ?_⟩
              · rw [Mem.apply_toks]
                exact k2.put hd (lW k4)
              · exact (hg.mono g2.ev).mono k3.ev
            rcases hor with hor | hor
            · exact fin Fr' (fun b o hx => hf1 b o (hFr b o hx)) (fun b o hx => (hf2 b o hx).imp (hor b o) id) hres
            · exact fin γ.fr (fun _ _ h => h) (fun _ _ h => .inl h) (sS hor hres)
          by_cases hrs : rs = []
          · subst hrs
            exact main γ.fr (fun _ _ h => h) h.frlt (by simp) (.inl (fun _ _ h => h))
          · have hbare : res.all Res.bare = true := by
              cases rs with
              | nil => exact absurd rfl hrs
              | cons _ _ => simpa using hcond
            refine main (fun b x => γ.fr b x ∨ ∃ id ys o, m.var id = some ys ∧ γ.loc id = some (b, o) ∧ o ≤ x ∧ x < o + ys.length) (fun _ _ h => .inl h) (fun b x hx => ?_) (fun id _ ys b o hv hl j hj => .inr ⟨id, ys, o, hv, hl, by omega, by omega⟩) (.inr hbare)
            rcases hx with hx | ⟨id, ys, o, _, hl, _⟩
            · exact h.frlt b x hx
            · exact h.loclt id b o hl
        · cases he
          obtain ⟨γ1, e1, _, e3, e4, hr1, hx1⟩ := h.freeze rs (gt hargs)
          have hev : Ev γ.fr γ1.fr w w := ⟨e3, fun _ _ _ _ h => h, fun _ _ _ _ h => h⟩
          obtain ⟨hA, _⟩ := dx (P := E.P) h e3 hargs hx e4 [] (fun j p hj => by simp at hj)
          have hA2 := hA.append (A.extra (all := []) (hex.mono (fun c v hc => C.rep.mono hev c v hc)))
          have hm := hmeets γ1.fr w [] (vs ++ ev) hr1.frlt (hg.mono hev) trivial (fun i j cs ds p q _ hi => by simp at hi) hA2
          refine hm.mono fun e w' hpost => ?_
          obtain ⟨us, Fr', rfl, hbb, hf1, hf2, hres, hap, _, _⟩ := hpost
          have hbelow : Below w.heap.size w w' := (hbb.mono (fun b o hi => iD hi) : BelowBut (fun _ _ => False) w w').below
          obtain ⟨g1, g2⟩ := hr1.grow hbelow hf1 hf2
          obtain ⟨γ', k1, k2, k3, k4⟩ := fu (N := fun b _ => w.heap.size ≤ b) (fun b lo hb => .inl (Nat.le_trans h.base.size hb)) g1 hres hap hnt (fun id xs b o _ hl lo hb => Nat.not_le.2 (hr1.loclt id b o hl) hb) (fun j l hj hc r sz es u hr hu b hb => by
            obtain ⟨b', hb', hlt'⟩ := jJ hr1 hj hc
            obtain ⟨_, this⟩ := jv hres hr hu hb
            rw [hb']
            intro heq
            cases heq
            omega)
          refine ⟨γ', ?_, ?_⟩
          · rw [Mem.apply_gone]
            exact k2.put hd (lW k4)
          · exact ((hg.mono hev).mono g2.ev).mono k3.ev
      · rename_i id off cs ds
        split at he
        · rename_i ys hv
          split at he
          · rename_i hcond
            obtain ⟨hrs, hdl⟩ := hcond
            have hrs : rs = [] := by simpa using hrs
            subst hrs
            cases he
            obtain ⟨hA, hlok⟩ := dx (P := E.P) h (fun _ _ h => h) hargs hx (by simp) ([(id, off, cs)].map (uE γ)) (fun j p hj => by simpa using hj)
            obtain ⟨ys', b, o, hv', hl, hin, hcs⟩ := hlok (id, off, cs) (by simp)
            have hv' : m.var id = some ys' := hv'
            have hl : γ.loc id = some (b, o) := hl
            have hin : off + cs.length ≤ ys'.length := hin
            have hcs : ((ys'.drop off).take cs.length).mapM V.toC = some cs := hcs
            rw [hv] at hv'; cases hv'
            have hloc : [(id, off, cs)].map (uE γ) = [(b, o + off)] := by simp [uE, hl]
            rw [hloc] at hA
            obtain ⟨b', o', k1, ⟨us0, k2, k3⟩, k4, k5⟩ := h.vars id ys hv
            rw [hl] at k1; cases k1
            have hcv := fW hcs ((k2.drop off).take cs.length)
            have hcl := hcv.length
            have hlent : iV γ.fr w cs (b, o + off) := by
              refine ⟨⟨_, hcv, ll (fS k3 off) _⟩, fun j hj => ?_, fun j hj => ?_⟩
              · have := k4 (off + j) (by omega)
                rwa [show o + (off + j) = o + off + j by omega] at this
              · have := (k5 (off + j) (by omega)).1
                rwa [show o + (off + j) = o + off + j by omega] at this
            have hA2 := hA.append (A.extra (all := [(b, o + off)]) hex)
            have hm := hmeets γ.fr w [(b, o + off)] (vs ++ ev) h.frlt hg ⟨hlent, trivial⟩ (fun i j cs' ds' p q hij hi hj _ _ => by
              have := (List.getElem?_eq_some_iff.1 hi).1
              have := (List.getElem?_eq_some_iff.1 hj).1
              simp at *
              omega) hA2
            refine hm.mono fun e w' hpost => ?_
            obtain ⟨us, Fr', rfl, hbb, hf1, hf2, hres, hap, hback, _⟩ := hpost
            have hbb' : BelowBut (fun b' x => b' = b ∧ o + off ≤ x ∧ x < o + off + ds.length) w w' := hbb.mono (fun b' x hi => by
              obtain ⟨k, cs', p, h1, h2, h3, h4, h5⟩ := hi
              cases k with
              | zero =>
                simp at h1 h2
                subst h1; subst h2
                exact ⟨h3.symm, h4, by rw [hdl]; exact h5⟩
              | succ k => simp at h1)
            obtain ⟨g1, g2⟩ := h.lent hv hl (off := off) (n := ds.length) (by omega) hbb' hf1 hf2 hback.1 rfl
            obtain ⟨γ', q1, q2, q3, q4⟩ := fu (N := fun b _ => w.heap.size ≤ b) (fun b lo hb => .inl (Nat.le_trans h.base.size hb)) g1 hres hap hnt (fun id xs b o _ hl lo hb => Nat.not_le.2 (h.loclt id b o hl) hb) (fun j l hj hc r sz es u hr hu b hb => by
              obtain ⟨b', hb', hlt'⟩ := jJ h hj hc
              obtain ⟨_, this⟩ := jv hres hr hu hb
              rw [hb']
              intro heq
              cases heq
              omega)
            refine ⟨γ', ?_, ?_⟩
            · rw [Mem.apply_lent]
              exact q2.put hd (lW q4)
            · exact (hg.mono g2.ev).mono q3.ev
          · cases he
        · cases he
      · cases he
    · cases he
  · cases he
theorem vG {E : Env} {m : Mem} {nt : Nat} {g : FuncId} {extra : List C} {tys : List TypeId} {xs : List T} {e : Eff} (he : hH E m nt g extra tys xs = some e) : e.rt = [] := by
  unfold hH at he
  split at he
  · split at he
    · simp only at he
      split at he
      · split at he
        · cases he; rfl
        · cases he; rfl
      · split at he
        · split at he
          · cases he; rfl
          · cases he
        · cases he
      · cases he
    · cases he
  · cases he
theorem yU {E : Env} (hE : EnvOk E) {F : Fm} {γ : Gh} {m : Mem} {a : Act} {w : World} (h : Rel F γ m a w) (hg : eG E.gl γ.fr w) {d : Option Tmp} (hd : ∀ t, d = some t → t < F.n) {nv nt : Nat} {g : FuncId} {extra : List C} {ev : List Value}
    (hex : bf (C.rep γ.fr w) extra ev) {tys : List TypeId} {xs : List T} {vs : List Value} (hx : bf (T.rep γ m.tok w) xs vs) {e : Eff} (he : kf E m nt g extra tys xs = some e) (hnt : ∀ i n, (i, n) ∈ e.ut → i ∉ e.rt → m.tok i = none) :
    p8 E.P g ∧ Calls E.P g (vs ++ ev).toArray w fun
      | .returned v, w' => ig E F (m.apply d nv e) (a.put d v) w'
      | _, _ => False := by
  unfold kf at he
  split at he
  · rename_i as hargs
    split at he
    · rename_i as' j n htop
      split at he
      · rename_i res hF
        split at he
        case isFalse => cases he
        rename_i hjn
        cases he
        obtain ⟨hent, hmeets⟩ := hE.call _ _ _ _ _ hF
        refine ⟨hent, ?_⟩
        have hnt' : ∀ i n, (i, n) ∈ (gX nt res).2 → i ≠ j → m.tok i = none := fun i n hi hij => hnt i n (by simp only [lq, List.mem_cons]; exact .inr hi) (by simpa [lq] using hij)
        obtain ⟨hA0, _⟩ := dx (P := E.P) h (fun _ _ h => h) hargs hx (by simp) [] (fun j p hj => by simp at hj)
        have hno := dt hargs
        obtain ⟨hA, htj, hS⟩ := nU h htop hno hA0 hx
        have hA2 := hA.append (A.extra (all := []) hex)
        have hlen := hA.length
        have hS2 : ∀ b o, gT (as' ++ extra.map .c) (vs ++ ev) b o → (γ.tk j).cap ≠ n ∧ (γ.tk j).base.map (·.block) = some b ∧ n * (γ.tk j).sz ≤ o := fun b o ho => hS b o (lA hlen (xJ _) ho)
        have hm := hmeets γ.fr w [] (vs ++ ev) h.frlt hg trivial (fun i j cs ds p q _ hi => by simp at hi) hA2
        refine hm.mono fun e w' hpost => ?_
        obtain ⟨us, Fr', rfl, hbb, hf1, hf2, hres, hap, _, _⟩ := hpost
        obtain ⟨g1, g2⟩ := h.spend htj hS2 (hbb.mono fun b o ho => ho.resolve_left iD) hf1 hf2
        have hjnt : ∀ i l, (i, l) ∈ (gX nt res).2 → i ≠ j := fun i l hi => by
          have := fe hi
          omega
        · obtain ⟨γ', k1, k2, k3, k4⟩ := fu (N := fun b lo => w.heap.size ≤ b ∨ ∀ o, lo ≤ o → gT (as' ++ extra.map .c) (vs ++ ev) b o) (fun b lo hb => by
              rcases hb with hb | hb
              · exact .inl (Nat.le_trans h.base.size hb)
              · obtain ⟨h1, h2, h3⟩ := hS2 b lo (hb lo (Nat.le_refl _))
                obtain ⟨b', hb', hsp, _⟩ := (h.toks j n htj).2.resolve_left h1
                rw [hb'] at h2
                simp only [Option.map_some, Option.some.injEq] at h2
                subst h2
                exact hsp.mono h3) g1 hres hap (fun i l hi => by
              have hij := hjnt i l hi
              show (if i = j then _ else _) = none
              rw [if_neg hij]; exact hnt' i l hi hij) (fun id xs b o hv hl lo hb => by
              rcases hb with hb | hb
              · exact Nat.not_le.2 (h.loclt id b o hl) hb
              · obtain ⟨h1, h2, _⟩ := hS2 b lo (hb lo (Nat.le_refl _))
                exact h.tvar j n id xs b o htj hv hl h1 h2) (fun i l hi hc r sz es u hr hu b hb => by
              by_cases he : i = j
              · subst he
                simp only [if_true, Option.some.injEq] at hi hc
                exact absurd hi hc
              · simp only [he, if_false] at hi hc ⊢
                obtain ⟨lo, hN⟩ := jv hres hr hu hb
                rcases hN with hN | hN
                · obtain ⟨b', hb', hlt'⟩ := jJ h hi hc
                  rw [hb']
                  intro heq
                  cases heq
                  omega
                · obtain ⟨h1, h2, _⟩ := hS2 b lo (hN lo (Nat.le_refl _))
                  intro heq
                  exact h.tapart i j l n he hi htj hc h1 (heq.trans h2.symm))
          refine ⟨γ', ?_, ?_⟩
          · unfold lq
            rw [Mem.apply_toks, eK]
            exact k2.put hd (lW k4)
          · exact (hg.mono g2.ev).mono k3.ev
      · cases he
    · cases he
  · cases he
theorem vO {E : Env} (hE : EnvOk E) {F : Fm} {γ : Gh} {m : Mem} {a : Act} {w : World} (h : Rel F γ m a w) (hg : eG E.gl γ.fr w) {d : Option Tmp} (hd : ∀ t, d = some t → t < F.n) {nv nt : Nat} {g : FuncId} {extra : List C} {ev : List Value}
    (hex : bf (C.rep γ.fr w) extra ev) {tys : List TypeId} {xs : List T} {vs : List Value} (hx : bf (T.rep γ m.tok w) xs vs) {e : Eff} (he : lG E m nt g extra tys xs = some e) (hnt : ∀ i n, (i, n) ∈ e.ut → i ∉ e.rt → m.tok i = none) :
    p8 E.P g ∧ Calls E.P g (vs ++ ev).toArray w fun
      | .returned v, w' => ig E F (m.apply d nv e) (a.put d v) w'
      | _, _ => False := by
  unfold lG at he
  split at he
  · exact yU hE h hg hd hex hx he hnt
  · exact uC hE h hg hd hex hx he (fun i n hi => hnt i n hi (by rw [vG he]; simp))
theorem uJ {E : Env} (hE : EnvOk E) {F : Fm} {γ : Gh} {m : Mem} {a : Act} {w : World} (h : Rel F γ m a w) (hg : eG E.gl γ.fr w) {o : Oper} (hd : ∀ t, o.dst = some t → t < F.n) {nv nt : Nat} {f : Operand} {args : Array Operand} {argTypes : Array TypeId}
    (ho : o.op = .call { callee := .value f, args, argTypes }) {e : Eff} (he : au E m nv nt o = some e) (hnt : ∀ i n, (i, n) ∈ e.ut → i ∉ e.rt → m.tok i = none) {Q : Exit → Act → World → Prop} : o.wp E.P a w (ig E F (m.apply o.dst nv e)) Q := by
  have hf := gY h hg f
  have hxs : bf (T.rep γ m.tok w) (gD E.P argTypes.toList (args.toList.map (E.ev m))) (args.toList.map a.eval) := er (pa (fun x => gY h hg x) args.toList)
  have key : ∀ (g : FuncId) (extra : List C) (ev : List Value), a.eval f = .func (.func g) #[] ev.toArray → bf (C.rep γ.fr w) extra ev → lG E m nt g extra argTypes.toList (gD E.P argTypes.toList (args.toList.map (E.ev m))) = some e → o.wp E.P a w (ig E F (m.apply o.dst nv e)) Q := by
    intro g extra ev hfv hex hc
    obtain ⟨⟨fn, hfn, hbody, hname⟩, hcalls⟩ := vO hE h hg hd (nv := nv) hex hxs hc hnt
    have hrun : (execOp a.eval o).run E.P w = .ok (.enter g (args.toList.map a.eval ++ ev).toArray) w := by
      have hb : fn.body.isNone = false := by
        cases hq : fn.body with
        | none => simp [hq] at hbody
        | some _ => rfl
      have harr : args.map a.eval ++ ev.toArray = (args.toList.map a.eval ++ ev).toArray := by
        apply Array.ext'
        simp
      simp only [execOp, ho, resolve, hfv, Deferred.ofValue, invoke, callFunc, Sem.run_bind, Sem.run_pure, Result.andThen_ok, run_program, hfn, hname, hb]
      simp only [Array.empty_append, Bool.false_eq_true, if_false, Sem.run_pure, harr]
    unfold Oper.wp
    rw [hrun]
    refine hcalls.mono fun e w' hp => ?_
    cases e with
    | returned v => exact hp
    | panicked _ => exact hp.elim
    | outgrown => exact hp.elim
  simp only [au, ho] at he
  split at he
  · rename_i g hc
    rw [cell?_eq hc] at hf
    simp only [T.rep, K.rep, V.rep] at hf
    obtain ⟨ev, hfv, hev⟩ := hf
    cases ev with
    | nil => exact key g [] [] hfv trivial he
    | cons _ _ => exact hev.elim
  · rename_i g caps hc
    rw [cell?_eq hc] at hf
    simp only [T.rep, K.rep, V.rep, C.rep] at hf
    obtain ⟨ev, hfv, hev⟩ := hf
    exact key g caps ev hfv (gN.1 hev) he
  · cases he
theorem sD {E : Env} (hE : EnvOk E) {F : Fm} {γ : Gh} {m : Mem} {a : Act} {w : World} (h : Rel F γ m a w) (hg : eG E.gl γ.fr w) {o : Oper} (hd : ∀ t, o.dst = some t → t < F.n) {nv nt : Nat} {e : Eff}
    (he : au E m nv nt o = some e) (hnv : e.nv.isSome = true → m.var nv = none) (hnt : ∀ i n, (i, n) ∈ e.ut → i ∉ e.rt → m.tok i = none) {Q : Exit → Act → World → Prop} : o.wp E.P a w (ig E F (m.apply o.dst nv e)) Q := by
  have hev : ∀ x, (E.ev m x).rep γ m.tok w (a.eval x) := fun x => gY h hg x
  cases ho : o.op with
  | load t x => exact u4 h hg hd ho he
  | store t x y => exact rE h hg hd ho he
  | call c =>
    obtain ⟨callee, args, argTypes⟩ := c
    cases callee with
    | value f => exact uJ hE h hg hd ho he hnt
    | invoke r mth => simp [au, ho] at he
    | builtin b =>
      cases b with
      | append =>
        simp only [au, ho] at he
        split at he
        · refine oX h hg hd ho he (hnv ?_)
          unfold ki at he
          split at he
          · split at he
            · split at he
              · split at he
                · cases he; rfl
                · cases he
              · cases he
            · cases he
          · cases he
        · exact qL h hg hd ho he hnt
      | len =>
        simp only [au, ho] at he
        split at he
        · rename_i t ts x hty hargs
          simp only [Option.map_eq_some_iff] at he
          obtain ⟨r, hr, rfl⟩ := he
          obtain ⟨v, h1, h2⟩ := ur (ts := ts) (ty := o.type) hr (hev x)
          refine be h hg hd (v := v) ?_ h2
          have hte : argTypes = (t :: ts).toArray := by rw [← hty]
          have hae : args = #[x] := by rw [← Array.toArray_toList (xs := args), hargs]
          simp only [execOp, ho, resolve, invoke, builtin, Sem.run_bind, Sem.run_pure, Result.andThen_ok, hae, hte]
          simp only [List.map_toArray, List.map_cons, List.map_nil, h1, Result.andThen_ok]
        · cases he
      | min =>
        simp only [au, ho] at he
        split at he
        · rename_i x xs hargs
          simp only [Option.map_eq_some_iff] at he
          obtain ⟨r, hr, rfl⟩ := he
          obtain ⟨v, h1, h2⟩ := hO (P := E.P) true hr (hev x) (pa (fun x => hev x) xs)
          refine be h hg hd (v := v) ?_ h2
          have hae : args = (x :: xs).toArray := by rw [← hargs]
          simp only [if_true] at h1
          simp only [execOp, ho, resolve, invoke, builtin, Sem.run_bind, Sem.run_pure, Result.andThen_ok, hae, Builtin.min_]
          simp only [List.map_toArray, List.map_cons, h1, Result.andThen_ok]
        · cases he
      | max =>
        simp only [au, ho] at he
        split at he
        · rename_i x xs hargs
          simp only [Option.map_eq_some_iff] at he
          obtain ⟨r, hr, rfl⟩ := he
          obtain ⟨v, h1, h2⟩ := hO (P := E.P) false hr (hev x) (pa (fun x => hev x) xs)
          refine be h hg hd (v := v) ?_ h2
          have hae : args = (x :: xs).toArray := by rw [← hargs]
          simp only [Bool.false_eq_true, if_false] at h1
          simp only [execOp, ho, resolve, invoke, builtin, Sem.run_bind, Sem.run_pure, Result.andThen_ok, hae, Builtin.max_]
          simp only [List.map_toArray, List.map_cons, h1, Result.andThen_ok]
        · cases he
      | _ => simp [au, ho] at he
  | move x =>
    simp only [au, ho, Option.some.injEq] at he
    subst he
    refine be h hg hd (by simp [execOp, ho]) (v := a.eval x) ?_
    cases x with
    | const v => exact jU (hev _)
    | _ => exact hev _
  | assign x =>
    simp only [au, ho, Option.some.injEq] at he
    subst he
    refine be h hg hd (by simp [execOp, ho]) (v := a.eval x) ?_
    cases x with
    | const v => exact jU (hev _)
    | _ => exact hev _
  | pick c x y =>
    simp only [au, ho] at he
    split at he
    · rename_i q hq
      cases he
      have hc := hev c
      rw [bool?_eq hq, bg] at hc
      refine be h hg hd (v := if q then a.eval x else a.eval y) (by simp [execOp, ho, hc.1, asBool]) ?_
      cases q
      · exact hev y
      · exact hev x
    · cases he
  | alloc t =>
    simp only [au, ho] at he
    split at he
    · rename_i cs hz
      cases he
      obtain ⟨z, hzr, hzrep, _⟩ := iu (γ := γ) (tok := m.tok) (w := w) hz
      refine lj h hg hd (hnv rfl) hzrep (t := t) ?_
      simp [execOp, ho, Instr.alloc, hzr, newVar, newRow]
    · cases he
  | box t x =>
    simp only [au, ho] at he
    split at he
    · rename_i k hk
      cases he
      have hx := hev x
      rw [k?_eq hk] at hx
      refine lj h hg hd (hnv rfl) (K.cells_rep hx) (t := t) ?_
      simp [execOp, ho, Instr.box, newVar, newRow]
    · cases he
  | build t parts =>
    simp only [au, ho, Option.map_eq_some_iff] at he
    obtain ⟨r, hr, rfl⟩ := he
    obtain ⟨v, h1, h2⟩ := pS hr (mE (f := E.ev m) (g := a.eval) hev parts.toList)
    refine be h hg hd (v := v) ?_ h2
    have hp : (parts.map fun (i, x) => (i, a.eval x)) = (parts.toList.map fun (i, x) => (i, a.eval x)).toArray := by apply Array.ext'; simp
    simp only [execOp, ho, hp, Sem.run_bind, h1, Result.andThen_ok, Sem.run_pure]
  | buildSlice t len parts =>
    simp only [au, ho, Option.map_eq_some_iff] at he
    obtain ⟨r, hr, rfl⟩ := he
    exact nd h hg hd ho hr
  | nilCheck x =>
    have hx := hev x
    simp only [au, ho] at he
    split at he
    · rename_i hc
      cases he
      refine be h hg hd (v := a.eval x) ?_ hx
      rw [cell?_eq hc] at hx
      simp only [T.rep, K.rep, V.rep] at hx
      obtain ⟨_, _, _, hv⟩ := hx
      simp [execOp, ho, hv]
    · rename_i hc
      cases he
      refine be h hg hd (v := a.eval x) ?_ hx
      rw [cell?_eq hc] at hx
      simp only [T.rep, K.rep, V.rep, C.rep] at hx
      obtain ⟨_, _, hv, _⟩ := hx
      simp [execOp, ho, hv]
    · rename_i hc
      cases he
      refine be h hg hd (v := a.eval x) ?_ hx
      rw [cell?_eq hc] at hx
      simp only [T.rep, K.rep, V.rep] at hx
      obtain ⟨_, hv, _⟩ := hx
      simp [execOp, ho, hv]
    · rename_i hc
      cases he
      refine be h hg hd (v := a.eval x) ?_ hx
      rw [cell?_eq hc] at hx
      simp only [T.rep, K.rep, V.rep, C.rep] at hx
      obtain ⟨_, hv, _⟩ := hx
      simp [execOp, ho, hv]
    · cases he
  | binOp op t x y yt =>
    simp only [au, ho, Option.map_eq_some_iff] at he
    obtain ⟨r, hr, rfl⟩ := he
    obtain ⟨v, h1, h2⟩ := vh (ox := x) (oy := y) hr (hev x) (hev y)
    refine be h hg hd (v := v) ?_ h2
    simp only [execOp, ho]
    rw [Sem.run_bind, h1]
    rfl
  | unOp op t x =>
    simp only [au, ho, Option.map_eq_some_iff] at he
    obtain ⟨r, hr, rfl⟩ := he
    obtain ⟨v, h1, h2⟩ := wH (P := E.P) hr (hev x)
    exact be h hg hd (v := v) (by simp [execOp, ho, h1]) h2
  | convert src dst x =>
    simp only [au, ho, Option.map_eq_some_iff] at he
    obtain ⟨r, hr, rfl⟩ := he
    obtain ⟨v, h1, h2⟩ := rS (P := E.P) hr (hev x)
    exact be h hg hd (v := v) (by simp [execOp, ho, h1]) h2
  | makeFunc fn first caps =>
    cases fn with
    | func f =>
      simp only [au, ho] at he
      split at he
      · rename_i hf
        simp only [Option.map_eq_some_iff] at he
        obtain ⟨cs, hcs, rfl⟩ := he
        have hfe : first = #[] := by simpa using hf
        have hc : bf (jQ γ w) cs (caps.toList.map a.eval) := tD (fun x b _ hb => nc hb (hev x)) hcs
        refine be h hg hd (v := .func (.func f) #[] (caps.map a.eval)) (by simp [execOp, ho, Instr.makeFunc, hfe]) ?_
        simp only [T.rep, K.rep, V.rep]
        exact ⟨caps.toList.map a.eval, by congr 1; apply Array.ext'; simp, hc⟩
      · cases he
    | _ => simp [au, ho] at he
  | slice t x lo hi mx =>
    simp only [au, ho, Option.map_eq_some_iff] at he
    obtain ⟨r, hr, rfl⟩ := he
    obtain ⟨v, h1, h2⟩ := qK (P := E.P) hr (hev x) (kT hev lo) (kT hev hi) (kT hev mx)
    exact be h hg hd (v := v) (by simp [execOp, ho, h1]) h2
  | fieldAddr s x i =>
    simp only [au, ho, Option.map_eq_some_iff] at he
    obtain ⟨r, hr, rfl⟩ := he
    obtain ⟨v, h1, h2⟩ := lI (P := E.P) hr (hev x)
    exact be h hg hd (v := v) (by simp [execOp, ho, h1]) h2
  | field s x i =>
    simp only [au, ho, Option.map_eq_some_iff] at he
    obtain ⟨r, hr, rfl⟩ := he
    obtain ⟨v, h1, h2⟩ := pI (P := E.P) hr (hev x)
    exact be h hg hd (v := v) (by simp [execOp, ho, h1]) h2
  | indexAddr t x i =>
    simp only [au, ho, Option.map_eq_some_iff] at he
    obtain ⟨r, hr, rfl⟩ := he
    obtain ⟨v, h1, h2⟩ := lH (P := E.P) hr (hev x) (hev i)
    exact be h hg hd (v := v) (by simp [execOp, ho, h1]) h2
  | index t x i =>
    simp only [au, ho, Option.map_eq_some_iff] at he
    obtain ⟨r, hr, rfl⟩ := he
    obtain ⟨v, h1, h2⟩ := rc (P := E.P) hr (hev x) (hev i)
    exact be h hg hd (v := v) (by simp [execOp, ho, h1]) h2
  | lookup t x i ok =>
    simp only [au, ho, Option.map_eq_some_iff] at he
    obtain ⟨r, hr, rfl⟩ := he
    obtain ⟨v, h1, h2⟩ := oP (P := E.P) hr (hev x) (hev i)
    exact be h hg hd (v := v) (by simp [execOp, ho, h1]) h2
  | extract x i =>
    have hx := hev x
    simp only [au, ho] at he
    split at he
    · rename_i ks hk
      rw [hk] at hx
      simp only [Option.map_eq_some_iff] at he
      obtain ⟨k, hki, rfl⟩ := he
      simp only [T.rep] at hx
      obtain ⟨vs, hv, hks⟩ := hx
      obtain ⟨v, hvi, hr⟩ := hks.get i k hki
      exact be h hg hd (v := v) (by simp [execOp, ho, hv, Instr.extract, hvi]) (by simpa only [T.rep] using hr)
    · cases he
  | _ => simp [au, ho] at he
end Go.Dm
namespace Go.Dm
open Go.RowKit
theorem rC {m m' : Mem} {caps : List (C ⊕ (Nat × Nat))} (h : ∀ id ∈ caps.flatMap gK, m'.var id = m.var id) : caps.mapM (lD m') = caps.mapM (lD m) := by
  induction caps with
  | nil => rfl
  | cons x xs ih =>
    rw [List.mapM_cons, List.mapM_cons, ih (fun id hid => h id (by simp only [List.flatMap_cons, List.mem_append]; exact .inr hid))]
    congr 1
    cases x with
    | inl x => rfl
    | inr p => simp only [lD, xD, h p.1 (by simp [gK])]
theorem cD {P : Program} {m m' : Mem} : ∀ {tys : List TypeId} {xs : List T} {k : Nat} {as : List A} {ls : List (Nat × Nat × List C)} {rs : List Nat}, cF P m tys xs k = some (as, ls, rs) →
    (∀ id ∈ rs, m'.var id = m.var id) → (∀ l ∈ ls, m'.var l.1 = m.var l.1) → cF P m' tys xs k = some (as, ls, rs)
  | [], [], k, as, ls, rs, h, _, _ => h
  | t :: ts, x :: xs, k, as, ls, rs, h, hr, hl => by
    simp only [cF] at h ⊢
    split at h
    · split at h
      · rename_i cs as' ls' rs' hcs hrec
        simp only [Option.some.injEq, Prod.mk.injEq] at h
        obtain ⟨rfl, rfl, rfl⟩ := h
        simp only [hcs, cD hrec hr hl]
      · cases h
    · rename_i id off
      split at h
      · rename_i e ys hu hv
        split at h
        · rename_i hle
          split at h
          · rename_i cs as' ls' rs' hcs hrec
            simp only [Option.some.injEq, Prod.mk.injEq] at h
            obtain ⟨rfl, rfl, rfl⟩ := h
            have h1 := hl (id, off, cs) (by simp)
            simp only at h1
            simp only [hu, h1, hv, hle, if_true, hcs, cD hrec hr (fun l hl' => hl l (by simp [hl']))]
          · cases h
        · cases h
      · cases h
    · rename_i id off sz n
      split at h
      · rename_i cs hcs
        split at h
        · rename_i es as' ls' rs' hes hrec
          simp only [Option.some.injEq, Prod.mk.injEq] at h
          obtain ⟨rfl, rfl, rfl⟩ := h
          have hs : xD m' id off = some cs := by unfold xD at hcs ⊢; rw [hr id (by simp)]; exact hcs
          simp only [hs, hes, cD hrec (fun i hi => hr i (by simp [hi])) hl]
        · cases h
      · cases h
    · rename_i f caps
      split at h
      · rename_i cs as' ls' rs' hcs hrec
        simp only [Option.some.injEq, Prod.mk.injEq] at h
        obtain ⟨rfl, rfl, rfl⟩ := h
        rw [← rC (m' := m') (fun i hi => hr i (by simp only [List.mem_append]; exact .inl hi))] at hcs
        simp only [hcs, cD hrec (fun i hi => hr i (by simp [hi])) hl]
      · cases h
    · split at h
      · rename_i c as' ls' rs' hcs hrec
        simp only [Option.some.injEq, Prod.mk.injEq] at h
        obtain ⟨rfl, rfl, rfl⟩ := h
        simp only [hcs, cD hrec hr hl]
      · cases h
    · cases h
  | [], _ :: _, _, _, _, _, h, _, _ => by simp [cF] at h
  | _ :: _, [], _, _, _, _, h, _, _ => by simp [cF] at h
theorem rn {E : Env} {m m' : Mem} {nt : Nat} {g : FuncId} {extra : List C} {tys : List TypeId} {xs : List T} {e : Eff} (he : hH E m nt g extra tys xs = some e) (hv : ∀ id ∈ e.rv, m'.var id = m.var id) : hH E m' nt g extra tys xs = some e := by
  unfold hH at he ⊢
  split at he
  · rename_i as ls rs hargs
    split at he
    · rename_i res ims hF
      simp only at he
      split at he
      · split at he
        · rename_i hc
          cases he
          rw [cD hargs hv (by simp)]
          simp only [hF, hc, if_true]
        · rename_i hc
          cases he
          rw [cD hargs hv (by simp)]
          simp only [hF, hc, if_false, Bool.false_eq_true]
      · rename_i id off cs ds
        split at he
        · rename_i ys hvid
          split at he
          · rename_i hc
            cases he
            have hrs : rs = [] := by simpa using hc.1
            subst hrs
            have h1 := hv id (by simp)
            rw [cD hargs (by simp) (fun l hl => by simp at hl; subst hl; exact h1)]
            simp only [hF, h1, hvid]
            rw [if_pos hc]
          · cases he
        · cases he
      · cases he
    · cases he
  · cases he
theorem nn {m m' : Mem} : ∀ {as : List A} {xs : List T} {as' : List A} {j n : Nat}, vw m as xs = some (as', j, n) → m'.tok j = m.tok j → vw m' as xs = some (as', j, n)
  | a0 :: as, x :: xs, as', j, n, h, hj => by
    simp only [vw] at h ⊢
    split at h
    · split at h
      · rename_i hi
        cases h
        rw [if_pos (by rw [hj]; exact hi)]
      · cases h
    · simp only [Option.map_eq_some_iff] at h
      obtain ⟨⟨as1, j1, n1⟩, hr, he⟩ := h
      simp only [Prod.mk.injEq] at he
      obtain ⟨rfl, rfl, rfl⟩ := he
      rw [nn hr hj]
      rfl
  | [], _, _, _, _, h, _ => by simp [vw] at h
  | _ :: _, [], _, _, _, h, _ => by simp [vw] at h
theorem mK {E : Env} {m m' : Mem} {nt : Nat} {g : FuncId} {extra : List C} {tys : List TypeId} {xs : List T} {e : Eff} (he : lG E m nt g extra tys xs = some e) (hv : ∀ id ∈ e.rv, m'.var id = m.var id) (hk : ∀ i ∈ e.rt, m'.tok i = m.tok i) : lG E m' nt g extra tys xs = some e := by
  unfold lG at he ⊢
  split at he
  · rename_i hc
    rw [if_pos hc]
    unfold kf at he ⊢
    split at he
    · rename_i as hargs
      split at he
      · rename_i as' j n htop
        split at he
        · rename_i res hF
          split at he
          · rename_i hjn
            cases he
            rw [cD hargs (by simp) (by simp)]
            simp only [nn htop (hk j (by simp [lq])), hF, hjn, if_true]
          · cases he
        · cases he
      · cases he
    · cases he
  · rename_i hc
    rw [if_neg hc]
    exact rn he hv
theorem oZ {P : Program} {m m' : Mem} {nt : Nat} {tys : List TypeId} {xs : List T} {e : Eff} (he : ix P m nt tys xs = some e) (hk : ∀ i ∈ e.rt, m'.tok i = m.tok i) : ix P m' nt tys xs = some e := by
  unfold ix at he ⊢
  split at he
  · split at he
    · split at he
      · split at he
        · rename_i hc
          rw [if_pos hc]
          split at he
          · exact he
          · split at he
            · rename_i hcj
              cases he
              rw [if_pos ⟨hcj.1, by rw [hk _ (by simp)]; exact hcj.2⟩]
            · cases he
        · cases he
      · cases he
    · cases he
  · cases he
theorem qS {E : Env} {m m' : Mem} {nv nt : Nat} {o : Oper} {e : Eff} (he : au E m nv nt o = some e) (ht : ∀ x ∈ o.op.operands, E.ev m' x = E.ev m x) (hv : ∀ id ∈ e.rv, m'.var id = m.var id) (hk : ∀ i ∈ e.rt, m'.tok i = m.tok i) :
    au E m' nv nt o = some e := by
  have hmap : ∀ (xs : Array Operand), (∀ x ∈ xs, x ∈ o.op.operands) → xs.toList.map (E.ev m') = xs.toList.map (E.ev m) := fun xs h => List.map_congr_left fun x hx => ht x (h x (by simpa using hx))
  have hparts : ∀ (ps : Array (Nat × Operand)), (∀ p ∈ ps, p.2 ∈ o.op.operands) → (ps.toList.map fun (i, x) => (i, E.ev m' x)) = ps.toList.map fun (i, x) => (i, E.ev m x) := fun ps h => List.map_congr_left fun p hp => by
    obtain ⟨i, x⟩ := p
    simp only [ht x (h (i, x) (by simpa using hp))]
  cases ho : o.op with
  | load t x =>
    have h1 := ht x (by simp [ho, Op.operands])
    simp only [au, ho, h1] at he ⊢
    split at he
    · rename_i id off hc
      split at he
      · rename_i xs hx
        simp only [Option.map_eq_some_iff] at he
        obtain ⟨k, hk', rfl⟩ := he
        simp only [hv id (by simp), hx, hk', Option.map_some]
      · cases he
    · exact he
    · cases he
  | store t x y =>
    have h1 := ht x (by simp [ho, Op.operands])
    have h2 := ht y (by simp [ho, Op.operands])
    simp only [au, ho, h1, h2] at he ⊢
    split at he
    · rename_i id off k hc hkk
      split at he
      · rename_i xs hx
        split at he
        · rename_i hcond
          cases he
          simp only [hv id (by simp), hx]
          rw [if_pos hcond]
        · cases he
      · cases he
    · cases he
  | call c =>
    obtain ⟨callee, args, argTypes⟩ := c
    cases callee with
    | value f =>
      have h1 := ht f (by simp [ho, Op.operands, Call.operands])
      have h2 := hmap args (fun x hx => by simp [ho, Op.operands, Call.operands, hx])
      simp only [au, ho, h1, h2] at he ⊢
      split at he
      · exact mK he hv hk
      · exact mK he hv hk
      · cases he
    | invoke r mth => simp [au, ho] at he
    | builtin b =>
      have h2 := hmap args (fun x hx => by simp [ho, Op.operands, Call.operands, hx])
      have h3 : ∀ x ∈ args.toList, E.ev m' x = E.ev m x := fun x hx => ht x (by simp [ho, Op.operands, Call.operands]; simpa using hx)
      cases b with
      | append =>
        simp only [au, ho, h2] at he ⊢
        split at he
        · rename_i hc
          rw [if_pos hc]; exact he
        · rename_i hc
          rw [if_neg hc]; exact oZ he hk
      | len =>
        simp only [au, ho] at he ⊢
        split at he
        · rename_i t ts x hty hargs
          rw [h3 x (by simp [hargs])]
          exact he
        · cases he
      | min =>
        simp only [au, ho] at he ⊢
        split at he
        · rename_i x xs hargs
          rw [hargs] at h3
          rw [h3 x (by simp), List.map_congr_left (fun y hy => h3 y (by simp [hy]))]
          exact he
        · cases he
      | max =>
        simp only [au, ho] at he ⊢
        split at he
        · rename_i x xs hargs
          rw [hargs] at h3
          rw [h3 x (by simp), List.map_congr_left (fun y hy => h3 y (by simp [hy]))]
          exact he
        · cases he
      | _ => simp [au, ho] at he
  | build t parts =>
    simp only [au, ho, hparts parts (fun p hp => by simp only [ho, Op.operands]; simpa using ⟨p.1, hp⟩)] at he ⊢
    exact he
  | buildSlice t len parts =>
    simp only [au, ho, hparts parts (fun p hp => by simp only [ho, Op.operands]; simpa using ⟨p.1, hp⟩)] at he ⊢
    exact he
  | makeFunc fn first caps =>
    cases fn with
    | func f =>
      have h2 : (caps.toList.mapM fun x => js (E.ev m' x)) = caps.toList.mapM fun x => js (E.ev m x) := by
        have : ∀ x ∈ caps.toList, E.ev m' x = E.ev m x := fun x hx => ht x (by simp [ho, Op.operands]; exact .inr (by simpa using hx))
        clear he
        generalize caps.toList = l at this
        induction l with
        | nil => rfl
        | cons y ys ih =>
          rw [List.mapM_cons, List.mapM_cons, this y (by simp), ih (fun x hx => this x (by simp [hx]))]
      simp only [au, ho, h2] at he ⊢
      exact he
    | _ => simp [au, ho] at he
  | slice t x lo hi mx =>
    have h1 := ht x (by simp [ho, Op.operands])
    have h2 : lo.map (E.ev m') = lo.map (E.ev m) := by
      cases lo with
      | none => rfl
      | some y => simp [ht y (by simp [ho, Op.operands])]
    have h3 : hi.map (E.ev m') = hi.map (E.ev m) := by
      cases hi with
      | none => rfl
      | some y => simp [ht y (by simp [ho, Op.operands])]
    have h4 : mx.map (E.ev m') = mx.map (E.ev m) := by
      cases mx with
      | none => rfl
      | some y => simp [ht y (by simp [ho, Op.operands])]
    simp only [au, ho, h1, h2, h3, h4] at he ⊢
    exact he
  | move x => have h1 := ht x (by simp [ho, Op.operands]); cases x <;> simp only [au, ho, h1] at he ⊢ <;> exact he
  | assign x => have h1 := ht x (by simp [ho, Op.operands]); cases x <;> simp only [au, ho, h1] at he ⊢ <;> exact he
  | pick c x y =>
    have h1 := ht c (by simp [ho, Op.operands])
    have h2 := ht x (by simp [ho, Op.operands])
    have h3 := ht y (by simp [ho, Op.operands])
    simp only [au, ho, h1, h2, h3] at he ⊢; exact he
  | alloc t => simpa only [au, ho] using he
  | box t x => have h1 := ht x (by simp [ho, Op.operands]); simp only [au, ho, h1] at he ⊢; exact he
  | nilCheck x => have h1 := ht x (by simp [ho, Op.operands]); simp only [au, ho, h1] at he ⊢; exact he
  | binOp op t x y yt =>
    have h1 := ht x (by simp [ho, Op.operands])
    have h2 := ht y (by simp [ho, Op.operands])
    simp only [au, ho, h1, h2] at he ⊢; exact he
  | unOp op t x => have h1 := ht x (by simp [ho, Op.operands]); simp only [au, ho, h1] at he ⊢; exact he
  | convert s d x => have h1 := ht x (by simp [ho, Op.operands]); simp only [au, ho, h1] at he ⊢; exact he
  | fieldAddr s x i => have h1 := ht x (by simp [ho, Op.operands]); simp only [au, ho, h1] at he ⊢; exact he
  | field s x i => have h1 := ht x (by simp [ho, Op.operands]); simp only [au, ho, h1] at he ⊢; exact he
  | indexAddr t x i =>
    have h1 := ht x (by simp [ho, Op.operands])
    have h2 := ht i (by simp [ho, Op.operands])
    simp only [au, ho, h1, h2] at he ⊢; exact he
  | index t x i =>
    have h1 := ht x (by simp [ho, Op.operands])
    have h2 := ht i (by simp [ho, Op.operands])
    simp only [au, ho, h1, h2] at he ⊢; exact he
  | lookup t x i ok =>
    have h1 := ht x (by simp [ho, Op.operands])
    have h2 := ht i (by simp [ho, Op.operands])
    simp only [au, ho, h1, h2] at he ⊢; exact he
  | extract x i => have h1 := ht x (by simp [ho, Op.operands]); simp only [au, ho, h1] at he ⊢; exact he
  | _ => simp [au, ho] at he
theorem AW {E : Env} {m : Mem} {nv nt : Nat} {o : Oper} {e : Eff} (he : au E m nv nt o = some e) : ∀ i n, (i, n) ∈ e.ut → i ∈ e.rt ∨ nt ≤ i := by
  have callU : ∀ {g : FuncId} {extra : List C} {tys : List TypeId} {xs : List T}, lG E m nt g extra tys xs = some e → ∀ i n, (i, n) ∈ e.ut → i ∈ e.rt ∨ nt ≤ i := by
    intro g extra tys xs he i n hi
    unfold lG at he
    split at he
    · unfold kf at he
      split at he
      · split at he
        · split at he
          · split at he
            · cases he
              simp only [lq, List.mem_cons, Prod.mk.injEq] at hi
              rcases hi with ⟨rfl, _⟩ | hi
              · left; simp [lq]
              · exact .inr (fe hi)
            · cases he
          · cases he
        · cases he
      · cases he
    unfold hH at he
    split at he
    · split at he
      · simp only at he
        split at he
        · split at he
          · cases he; exact .inr (fe hi)
          · cases he; exact .inr (fe hi)
        · split at he
          · split at he
            · cases he; exact .inr (fe hi)
            · cases he
          · cases he
        · cases he
      · cases he
    · cases he
  intro i n hi
  cases ho : o.op with
  | call c =>
    obtain ⟨callee, args, argTypes⟩ := c
    cases callee with
    | value f =>
      simp only [au, ho] at he
      split at he
      · exact callU he i n hi
      · exact callU he i n hi
      · cases he
    | invoke r mth => simp [au, ho] at he
    | builtin b =>
      cases b with
      | append =>
        simp only [au, ho] at he
        split at he
        · unfold ki at he
          split at he
          · split at he
            · split at he
              · split at he
                · cases he; simp at hi
                · cases he
              · cases he
            · cases he
          · cases he
        unfold ix at he
        split at he
        · split at he
          · split at he
            · split at he
              · split at he
                · cases he; simp at hi; right; omega
                · split at he
                  · cases he; simp at hi; left; simp [hi.1]
                  · cases he
              · cases he
            · cases he
          · cases he
        · cases he
      | len =>
        simp only [au, ho] at he
        split at he
        · simp only [Option.map_eq_some_iff] at he; obtain ⟨_, _, rfl⟩ := he; simp at hi
        · cases he
      | min =>
        simp only [au, ho] at he
        split at he
        · simp only [Option.map_eq_some_iff] at he; obtain ⟨_, _, rfl⟩ := he; simp at hi
        · cases he
      | max =>
        simp only [au, ho] at he
        split at he
        · simp only [Option.map_eq_some_iff] at he; obtain ⟨_, _, rfl⟩ := he; simp at hi
        · cases he
      | _ => simp [au, ho] at he
  | load t x =>
    simp only [au, ho] at he
    split at he
    · split at he
      · simp only [Option.map_eq_some_iff] at he; obtain ⟨_, _, rfl⟩ := he; simp at hi
      · cases he
    · simp only [Option.map_eq_some_iff] at he; obtain ⟨_, _, rfl⟩ := he; simp at hi
    · cases he
  | store t x y =>
    simp only [au, ho] at he
    split at he
    · split at he
      · split at he
        · cases he; simp at hi
        · cases he
      · cases he
    · cases he
  | makeFunc fn first caps =>
    cases fn with
    | func f =>
      simp only [au, ho] at he
      split at he
      · simp only [Option.map_eq_some_iff] at he; obtain ⟨_, _, rfl⟩ := he; simp at hi
      · cases he
    | _ => simp [au, ho] at he
  | move x => simp only [au, ho, Option.some.injEq] at he; subst he; simp at hi
  | assign x => simp only [au, ho, Option.some.injEq] at he; subst he; simp at hi
  | pick c x y =>
    simp only [au, ho] at he
    split at he
    · cases he; simp at hi
    · cases he
  | alloc t =>
    simp only [au, ho] at he
    split at he
    · cases he; simp at hi
    · cases he
  | box t x =>
    simp only [au, ho] at he
    split at he
    · cases he; simp at hi
    · cases he
  | nilCheck x =>
    simp only [au, ho] at he
    split at he <;> first | (cases he; simp at hi; done) | (cases he; done)
  | extract x i =>
    simp only [au, ho] at he
    split at he
    · simp only [Option.map_eq_some_iff] at he; obtain ⟨_, _, rfl⟩ := he; simp at hi
    · cases he
  | build t parts => simp only [au, ho, Option.map_eq_some_iff] at he; obtain ⟨_, _, rfl⟩ := he; simp at hi
  | buildSlice t len parts => simp only [au, ho, Option.map_eq_some_iff] at he; obtain ⟨_, _, rfl⟩ := he; simp at hi
  | binOp op t x y yt => simp only [au, ho, Option.map_eq_some_iff] at he; obtain ⟨_, _, rfl⟩ := he; simp at hi
  | unOp op t x => simp only [au, ho, Option.map_eq_some_iff] at he; obtain ⟨_, _, rfl⟩ := he; simp at hi
  | convert s d x => simp only [au, ho, Option.map_eq_some_iff] at he; obtain ⟨_, _, rfl⟩ := he; simp at hi
  | slice t x lo hi' mx => simp only [au, ho, Option.map_eq_some_iff] at he; obtain ⟨_, _, rfl⟩ := he; simp at hi
  | fieldAddr s x i => simp only [au, ho, Option.map_eq_some_iff] at he; obtain ⟨_, _, rfl⟩ := he; simp at hi
  | field s x i => simp only [au, ho, Option.map_eq_some_iff] at he; obtain ⟨_, _, rfl⟩ := he; simp at hi
  | indexAddr t x i => simp only [au, ho, Option.map_eq_some_iff] at he; obtain ⟨_, _, rfl⟩ := he; simp at hi
  | index t x i => simp only [au, ho, Option.map_eq_some_iff] at he; obtain ⟨_, _, rfl⟩ := he; simp at hi
  | lookup t x i ok => simp only [au, ho, Option.map_eq_some_iff] at he; obtain ⟨_, _, rfl⟩ := he; simp at hi
  | _ => simp [au, ho] at he
end Go.Dm
namespace Go.Dm
open Go.RowKit
theorem i5 : ∀ {uv : List (Nat × List V)} {vs vs' : List (List V)}, hU vs uv = some vs' → vs'.length = vs.length ∧ ∀ i : Nat, vs'[i]? = match lk uv i with | some x => some x | none => vs[i]?
  | [], vs, vs', h => by simp only [hU, Option.some.injEq] at h; subst h; exact ⟨rfl, fun i => rfl⟩
  | (j, x) :: r, vs, vs', h => by
    simp only [hU] at h
    split at h
    · rename_i hj
      obtain ⟨h1, h2⟩ := i5 h
      refine ⟨by simpa using h1, fun i => ?_⟩
      rw [h2 i]
      simp only [lk]
      cases lk r i with
      | some y => rfl
      | none =>
        by_cases hij : j = i
        · subst hij; simp [hj]
        · simp [hij]
    · cases h
theorem jp : ∀ {ut : List (Nat × Nat)} {ts ts' : List Nat}, kE ts ut = some ts' → ∀ i : Nat, ts'[i]? = match lk ut i with | some x => some x | none => ts[i]?
  | [], ts, ts', h, i => by simp only [kE, Option.some.injEq] at h; subst h; rfl
  | (j, x) :: r, ts, ts', h, i => by
    simp only [kE] at h
    split at h
    · rename_i hj
      rw [jp h i]
      simp only [lk]
      cases lk r i with
      | some y => rfl
      | none =>
        by_cases hij : j = i
        · subst hij; simp [hj]
        · simp [hij]
    · split at h
      · rename_i hj
        subst hj
        rw [jp h i]
        simp only [lk]
        cases lk r i with
        | some y => rfl
        | none =>
          by_cases hij : ts.length = i
          · subst hij; simp
          · simp only [hij, if_false]
            rcases Nat.lt_or_ge i ts.length with hlt | hge
            · rw [List.getElem?_append_left hlt]
            · rw [List.getElem?_eq_none (by simp; omega), List.getElem?_eq_none hge]
      · cases h
theorem jT {α : Type} : ∀ {uv : List (Nat × α)} {n i : Nat}, (∀ p ∈ uv, p.1 < n) → n ≤ i → lk uv i = none
  | [], _, _, _, _ => rfl
  | (j, x) :: r, n, i, h, hi => by
    simp only [lk]
    rw [jT (fun p hp => h p (by simp [hp])) hi]
    have := h (j, x) (by simp)
    simp only at this
    rw [if_neg (by omega)]
theorem nh : ∀ {uv : List (Nat × List V)} {vs vs' : List (List V)}, hU vs uv = some vs' → ∀ p ∈ uv, p.1 < vs.length
  | [], _, _, _, p, hp => by simp at hp
  | (j, x) :: r, vs, vs', h, p, hp => by
    simp only [hU] at h
    split at h
    · rename_i hj
      rcases List.mem_cons.1 hp with rfl | hp
      · exact hj
      · have := nh h p hp
        simpa using this
    · cases h
theorem St.apply_mem {s s' : St} {d : Option Tmp} {e : Eff} (h : s.apply d e = some s') : s'.mem = s.mem.apply d s.vars.length e ∧ s'.tmps.length = s.tmps.length ∧ (∀ t, d = some t → t < s.tmps.length) := by
  unfold St.apply at h
  split at h
  · rename_i vs ts hv ht
    obtain ⟨hvl, hvg⟩ := i5 hv
    have htg := jp ht
    have hlt := nh hv
    have hvar : ∀ i : Nat, (match e.nv with | some x => vs ++ [x] | none => vs)[i]? = if i = s.vars.length ∧ e.nv.isSome then e.nv else match lk e.uv i with | some x => some x | none => s.vars[i]? := by
      intro i
      cases hn : e.nv with
      | none => simp [hvg i]
      | some x =>
        simp only [Option.isSome_some, and_true]
        by_cases hi : i = s.vars.length
        · subst hi; simp [hvl]
        · simp only [hi, if_false]
          rcases Nat.lt_or_ge i vs.length with h1 | h1
          · rw [List.getElem?_append_left h1, hvg i]
          · rw [List.getElem?_eq_none (by simp; omega), jT hlt (by omega), List.getElem?_eq_none (by omega)]
    simp only at h
    split at h
    · rename_i d
      split at h
      · rename_i hd
        cases h
        refine ⟨?_, by simp, fun t ht => by cases ht; exact hd⟩
        simp only [St.mem, Mem.apply, Mem.mk.injEq]
        refine ⟨?_, funext hvar, funext htg⟩
        funext t
        simp only [Option.some.injEq]
        by_cases hdt : d = t
        · subst hdt; simp [List.getD, hd]
        · simp [List.getD, hdt]
      · cases h
    · cases h
      refine ⟨?_, rfl, fun t ht => by cases ht⟩
      simp only [St.mem, Mem.apply, Mem.mk.injEq]
      exact ⟨by simp, funext hvar, funext htg⟩
  · cases h
theorem ly {F : Fm} {γ : Gh} {m : Mem} {a : Act} {w : World} (h : Rel F γ m a w) {ops : Array Oper} {o : Oper} {q : Bool} (hq : fZ ops m o = some q) : Region.wanted o (yielded ops a.tmps) = q := by
  unfold fZ at hq
  unfold Region.wanted
  split at hq
  · rename_i hg; rw [hg]; simpa using hq
  · rename_i j want hg
    rw [hg]
    simp only
    split at hq
    · rename_i hd
      simp only [yielded, hd, Option.bind_none]
      cases hq
      rfl
    · rename_i t hd
      have ht := h.tmps t
      have hget : a.tmps.getD t undef = (a.tmps[t]?).getD undef := by simp
      simp only [yielded, hd, Option.bind_some]
      split at hq
      · rename_i hs
        rw [hs] at ht
        simp only [T.rep] at ht
        cases hq
        rw [hget] at ht
        cases hx : a.tmps[t]? with
        | none => rfl
        | some v =>
          rw [hx] at ht
          simp only [Option.getD_some] at ht
          subst ht
          rfl
      · split at hq
        · rename_i b hb
          cases hq
          rw [bool?_eq hb, bg, hget] at ht
          cases hx : a.tmps[t]? with
          | none => rw [hx] at ht; simp [undef] at ht
          | some v =>
            rw [hx] at ht
            simp only [Option.getD_some] at ht
            rw [ht.1]
            simp
        · cases hq
theorem Mem.apply_skip (m : Mem) (d : Option Tmp) (nv : Nat) : m.apply d nv kD = m.put d .skip := Mem.apply_pure m d nv .skip [] []
def kC (E : Env) (F : Fm) (s : St) (a : Act) (w : World) : Prop := s.tmps.length = F.n ∧ ∃ γ, Rel F γ s.mem a w ∧ eG E.gl γ.fr w
theorem xV {E : Env} (hE : EnvOk E) {F : Fm} {ops : Array Oper} {Q : Exit → Act → World → Prop} : ∀ {l : List Oper} {s s' : St} {ts : List Touch} {k : Nat}, ej E ops l s = some (s', ts) → ops.toList.drop k = l → (∀ a w, kC E F s' a w → Q .normal a w) →
    ∀ {a : Act} {w : World}, kC E F s a w → wpOps E.P ops Q (List.range' k l.length) a w
  | [], s, s', ts, k, h, _, hQ, a, w, hr => by
    simp only [ej, Option.some.injEq, Prod.mk.injEq] at h
    obtain ⟨rfl, _⟩ := h
    exact hQ a w hr
  | o :: rest, s, s', ts, k, h, hdrop, hQ, a, w, hr => by
    have hk : ops[k]? = some o := by
      have := congrArg List.head? hdrop
      simpa [List.head?_drop] using this
    have hrest : ops.toList.drop (k + 1) = rest := by
      have := congrArg List.tail hdrop
      simpa [List.tail_drop] using this
    simp only [ej] at h
    split at h
    · cases h
    · rename_i q hq
      split at h
      · cases h
      · rename_i e he
        split at h
        · cases h
        · rename_i s1 hs1
          split at h
          · cases h
          · rename_i s2 ts2 hrec
            simp only [Option.some.injEq, Prod.mk.injEq] at h
            obtain ⟨rfl, _⟩ := h
            obtain ⟨hmem, hlen, hd⟩ := St.apply_mem hs1
            obtain ⟨hn, γ, hrel, hg⟩ := hr
            have hd' : ∀ t, o.dst = some t → t < F.n := fun t ht => by rw [← hn]; exact hd t ht
            rw [List.length_cons, List.range'_succ, wpOps_cons]
            unfold wpOp
            rw [hk]
            simp only
            rw [ly hrel hq]
            have next : ∀ a' w', kC E F s1 a' w' → wpOps E.P ops Q (List.range' (k + 1) rest.length) a' w' := fun a' w' hr' => xV hE hrec hrest hQ hr'
            cases q with
            | true =>
              simp only [if_true] at he ⊢
              refine .inl (Oper.wp_mono (fun a' w' hp => ?_) (sD hE hrel hg hd' he (fun _ => by simp [St.mem]) (fun i n hi hni => ?_)))
              · obtain ⟨γ', h1, h2⟩ := hp
                exact next a' w' ⟨by rw [hlen]; exact hn, γ', by rw [hmem]; exact h1, h2⟩
              · rcases AW he i n hi with h1 | h1
                · exact absurd h1 hni
                · simp [St.mem]; exact h1
            | false =>
              simp only [Bool.false_eq_true, if_false, Option.some.injEq] at he ⊢
              subst he
              refine next _ _ ⟨by rw [hlen]; exact hn, γ, ?_, hg⟩
              rw [hmem, Mem.apply_skip]
              exact hrel.put hd' rfl
end Go.Dm
namespace Go.Dm
open Go.RowKit
structure Stp where
  o : Oper
  nv : Nat
  nt : Nat
  q : Bool
  e : Eff
def Stp.touch (ops : Array Oper) (p : Stp) : Touch := Touch.of ops p.o p.nv p.e
def Stp.step (p : Stp) (m : Mem) : Mem := m.apply p.o.dst p.nv p.e
def rD (E : Env) (ops : Array Oper) : Mem → List Stp → Mem → Prop
  | m, [], m' => m' = m
  | m, p :: r, m' => fZ ops m p.o = some p.q ∧ (if p.q then au E m p.nv p.nt p.o = some p.e else p.e = kD) ∧ (p.e.nv.isSome = true → m.var p.nv = none) ∧ (∀ i n, (i, n) ∈ p.e.ut → i ∉ p.e.rt → m.tok i = none) ∧ rD E ops (p.step m) r m'
theorem tU {E : Env} {ops : Array Oper} : ∀ {l : List Oper} {s s' : St} {ts : List Touch}, ej E ops l s = some (s', ts) →
    ∃ steps : List Stp, steps.map (·.o) = l ∧ ts = steps.map (Stp.touch ops) ∧ rD E ops s.mem steps s'.mem ∧ (∀ p ∈ steps, ∀ t, p.o.dst = some t → t < s.tmps.length) ∧ s'.tmps.length = s.tmps.length
  | [], s, s', ts, h => by
    simp only [ej, Option.some.injEq, Prod.mk.injEq] at h
    obtain ⟨rfl, rfl⟩ := h
    exact ⟨[], rfl, rfl, rfl, by simp, rfl⟩
  | o :: rest, s, s', ts, h => by
    simp only [ej] at h
    split at h
    · cases h
    · rename_i q hq
      split at h
      · cases h
      · rename_i e he
        split at h
        · cases h
        · rename_i s1 hs1
          split at h
          · cases h
          · rename_i s2 ts2 hrec
            simp only [Option.some.injEq, Prod.mk.injEq] at h
            obtain ⟨rfl, rfl⟩ := h
            obtain ⟨hmem, hlen, hd⟩ := St.apply_mem hs1
            obtain ⟨steps, h1, h2, h3, h4, h5⟩ := tU hrec
            refine ⟨⟨o, s.vars.length, s.toks.length, q, e⟩ :: steps, by simp [h1], by simp [h2, Stp.touch], ⟨hq, ?_, fun _ => by simp [St.mem], fun i n hi hni => ?_, ?_⟩, fun p hp t ht => ?_, by rw [h5, hlen]⟩
            · cases q
              · simpa using he.symm
              · simpa using he
            · cases q with
              | true =>
                simp only [if_true] at he
                rcases AW he i n hi with h1 | h1
                · exact absurd h1 hni
                · simp [St.mem]; exact h1
              | false =>
                simp only [Bool.false_eq_true, if_false, Option.some.injEq] at he
                subst he
                simp [kD] at hi
            · simp only [Stp.step]; rw [← hmem]; exact h3
            · rcases List.mem_cons.1 hp with rfl | hp
              · exact hd t ht
              · have := h4 p hp t ht; rw [hlen] at this; exact this
structure Agree (x : Touch) (m m' : Mem) : Prop where
  tmp : ∀ t, (t ∈ x.rt ∨ x.wt = some t) → m'.tmp t = m.tmp t
  var : ∀ i, (i ∈ x.rv ∨ i ∈ x.wv) → m'.var i = m.var i
  tok : ∀ i, (i ∈ x.rk ∨ i ∈ x.wk) → m'.tok i = m.tok i
theorem Agree.refl (x : Touch) (m : Mem) : Agree x m m := ⟨fun _ _ => rfl, fun _ _ => rfl, fun _ _ => rfl⟩
theorem Agree.trans {x : Touch} {a b c : Mem} (h : Agree x a b) (k : Agree x b c) : Agree x a c :=
  ⟨fun t ht => (k.tmp t ht).trans (h.tmp t ht), fun i hi => (k.var i hi).trans (h.var i hi), fun i hi => (k.tok i hi).trans (h.tok i hi)⟩
theorem r9 {α : Type} : ∀ {uv : List (Nat × α)} {i : Nat}, i ∉ uv.map (·.1) → lk uv i = none
  | [], _, _ => rfl
  | (j, x) :: r, i, h => by
    simp only [List.map_cons, List.mem_cons, not_or] at h
    simp only [lk, r9 h.2]
    rw [if_neg (Ne.symm h.1)]
theorem j3 {ops : Array Oper} {p : Stp} {m : Mem} {i : Nat} (h : i ∉ (p.touch ops).wv) : (p.step m).var i = m.var i := by
  simp only [Stp.touch, Touch.of, List.mem_append, not_or] at h
  simp only [Stp.step, Mem.apply]
  rw [r9 h.2]
  split
  · rename_i hc
    exfalso
    refine h.1 ?_
    rw [hc.2]
    simp [hc.1]
  · rfl
theorem j0 {ops : Array Oper} {p : Stp} {m : Mem} {i : Nat} (h : i ∉ (p.touch ops).wk) : (p.step m).tok i = m.tok i := by
  simp only [Stp.touch, Touch.of] at h
  simp only [Stp.step, Mem.apply, r9 h]
theorem iH {xs ys : List Nat} (h : Cz xs ys = false) : ∀ i, i ∈ xs → i ∉ ys := by
  simp only [Cz, List.any_eq_false] at h
  intro i hi hy
  exact h i hi (by simpa using hy)
theorem nR {x y : Touch} (h : x.hits y = false) : (∀ t, x.wt = some t → t ∉ y.rt ∧ y.wt ≠ some t) ∧ (∀ i, i ∈ x.wv → i ∉ y.wv ∧ i ∉ y.rv) ∧ (∀ i, i ∈ x.wk → i ∉ y.wk ∧ i ∉ y.rk) := by
  simp only [Touch.hits, Bool.or_eq_false_iff] at h
  obtain ⟨⟨⟨⟨h1, h2⟩, h3⟩, h4⟩, h5⟩ := h
  refine ⟨fun t ht => ?_, fun i hi => ⟨iH h2 i hi, iH h3 i hi⟩, fun i hi => ⟨iH h4 i hi, iH h5 i hi⟩⟩
  rw [ht] at h1
  simpa using h1
theorem Agree.step {ops : Array Oper} {p : Stp} {x : Touch} {m : Mem} (h : (p.touch ops).hits x = false) : Agree x m (p.step m) := by
  obtain ⟨h1, h2, h3⟩ := nR h
  refine ⟨fun t ht => ?_, fun i hi => ?_, fun i hi => ?_⟩
  · simp only [Stp.step, Mem.apply]
    rw [if_neg]
    intro hd
    have := h1 t hd
    rcases ht with ht | ht
    · exact this.1 ht
    · exact this.2 ht
  · refine j3 (ops := ops) (fun hw => ?_)
    have := h2 i hw
    rcases hi with hi | hi
    · exact this.2 hi
    · exact this.1 hi
  · refine j0 (ops := ops) (fun hw => ?_)
    have := h3 i hw
    rcases hi with hi | hi
    · exact this.2 hi
    · exact this.1 hi
theorem Agree.both {p : Stp} {x : Touch} {m m' : Mem} (h : Agree x m m') : Agree x (p.step m) (p.step m') := by
  refine ⟨fun t ht => ?_, fun i hi => ?_, fun i hi => ?_⟩
  · simp only [Stp.step, Mem.apply, h.tmp t ht]
  · simp only [Stp.step, Mem.apply, h.var i hi]
  · simp only [Stp.step, Mem.apply, h.tok i hi]
theorem wL {ops : Array Oper} {p r : Stp} {m : Mem} (h : (p.touch ops).hits (r.touch ops) = false) : r.step (p.step m) = p.step (r.step m) := by
  obtain ⟨h1, h2, h3⟩ := nR h
  have e1 : (r.step (p.step m)).tmp = (p.step (r.step m)).tmp := by
    funext t
    simp only [Stp.step, Mem.apply]
    by_cases hp : p.o.dst = some t
    · have := (h1 t hp).2
      have hr : ¬ r.o.dst = some t := this
      simp [hp, hr]
    · simp [hp]
  have e2 : (r.step (p.step m)).var = (p.step (r.step m)).var := by
    funext i
    by_cases hp : i ∈ (p.touch ops).wv
    · have hr := (h2 i hp).1
      rw [j3 (ops := ops) hr]
      simp only [Stp.step, Mem.apply] at *
      have : (r.step m).var i = m.var i := j3 (ops := ops) hr
      simp only [Stp.step, Mem.apply] at this
      rw [this]
    · rw [j3 (ops := ops) (p := p) hp]
      have : (p.step m).var i = m.var i := j3 (ops := ops) hp
      simp only [Stp.step, Mem.apply] at this ⊢
      rw [this]
  have e3 : (r.step (p.step m)).tok = (p.step (r.step m)).tok := by
    funext i
    by_cases hp : i ∈ (p.touch ops).wk
    · have hr := (h3 i hp).1
      rw [j0 (ops := ops) hr]
      have : (r.step m).tok i = m.tok i := j0 (ops := ops) hr
      simp only [Stp.step, Mem.apply] at this ⊢
      rw [this]
    · rw [j0 (ops := ops) (p := p) hp]
      have : (p.step m).tok i = m.tok i := j0 (ops := ops) hp
      simp only [Stp.step, Mem.apply] at this ⊢
      rw [this]
  calc r.step (p.step m) = ⟨(r.step (p.step m)).tmp, (r.step (p.step m)).var, (r.step (p.step m)).tok⟩ := rfl
    _ = _ := by rw [e1, e2, e3]
def dc (L : Nat → Bool) : Nat → List Stp → Mem → Mem
  | _, [], m => m
  | k, p :: r, m => dc L (k + 1) r (if L k then p.step m else m)
theorem iq (L : Nat → Bool) : ∀ (xs ys : List Stp) (k : Nat) (m : Mem), dc L k (xs ++ ys) m = dc L (k + xs.length) ys (dc L k xs m)
  | [], ys, k, m => by simp [dc]
  | x :: xs, ys, k, m => by
    simp only [List.cons_append, dc, List.length_cons]
    rw [iq L xs ys (k + 1)]
    congr 1
    omega
theorem gS {L L' : Nat → Bool} : ∀ {xs : List Stp} {k : Nat} {m : Mem}, (∀ j, j < xs.length → L (k + j) = L' (k + j)) → dc L k xs m = dc L' k xs m
  | [], _, _, _ => rfl
  | x :: xs, k, m, h => by
    simp only [dc]
    have h0 := h 0 (by simp)
    simp only [Nat.add_zero] at h0
    rw [h0]
    exact gS fun j hj => by
      have := h (j + 1) (by simp; omega)
      rwa [show k + (j + 1) = k + 1 + j by omega] at this
theorem qR {E : Env} {ops : Array Oper} : ∀ {xs : List Stp} {m m' : Mem} {k : Nat}, rD E ops m xs m' → m' = dc (fun _ => true) k xs m
  | [], _, _, _, h => h
  | _ :: _, _, _, _, h => by simp only [dc, if_true]; exact qR h.2.2.2.2
theorem qZ {ops : Array Oper} {x : Touch} {L : Nat → Bool} : ∀ {xs : List Stp} {k : Nat} {m m' : Mem}, Agree x m m' → (∀ (j : Nat) p, xs[j]? = some p → L (k + j) = true ∨ (p.touch ops).hits x = false) → Agree x (dc (fun _ => true) k xs m) (dc L k xs m')
  | [], _, _, _, h, _ => h
  | p :: xs, k, m, m', h, hL => by
    simp only [dc, if_true]
    refine qZ ?_ (fun j r hr => by
      have := hL (j + 1) r (by simpa using hr)
      rwa [show k + (j + 1) = k + 1 + j by omega] at this)
    have h0 := hL 0 p rfl
    simp only [Nat.add_zero] at h0
    cases hLk : L k with
    | true => simp only [if_true]; exact h.both
    | false =>
      rw [hLk] at h0
      have hh := h0.resolve_left (by simp)
      simp only [Bool.false_eq_true, if_false]
      exact ⟨fun t ht => (h.tmp t ht).trans ((Agree.step hh).tmp t ht).symm, fun i hi => (h.var i hi).trans ((Agree.step hh).var i hi).symm, fun i hi => (h.tok i hi).trans ((Agree.step hh).tok i hi).symm⟩
theorem nY {ops : Array Oper} {x : Touch} {L : Nat → Bool} : ∀ {xs : List Stp} {k : Nat} {m : Mem}, (∀ (j : Nat) p, xs[j]? = some p → L (k + j) = true → (p.touch ops).hits x = false) → Agree x m (dc L k xs m)
  | [], _, m, _ => Agree.refl x m
  | p :: xs, k, m, hL => by
    simp only [dc]
    have h0 := hL 0 p rfl
    simp only [Nat.add_zero] at h0
    refine Agree.trans ?_ (nY fun j r hr hLj => hL (j + 1) r (by simpa using hr) (by rwa [show k + (j + 1) = k + 1 + j by omega]))
    cases hLk : L k with
    | true => simp only [if_true]; exact Agree.step (h0 hLk)
    | false => simp only [Bool.false_eq_true, if_false]; exact Agree.refl x m
theorem kx {ops : Array Oper} {p : Stp} {L : Nat → Bool} : ∀ {xs : List Stp} {k : Nat} {m : Mem}, (∀ (j : Nat) r, xs[j]? = some r → L (k + j) = true → (p.touch ops).hits (r.touch ops) = false) → dc L k xs (p.step m) = p.step (dc L k xs m)
  | [], _, _, _ => rfl
  | r :: xs, k, m, hL => by
    simp only [dc]
    have h0 := hL 0 r rfl
    simp only [Nat.add_zero] at h0
    have hrest : ∀ (j : Nat) r, xs[j]? = some r → L (k + 1 + j) = true → (p.touch ops).hits (r.touch ops) = false := fun j r hr hLj => hL (j + 1) r (by simpa using hr) (by rwa [show k + (j + 1) = k + 1 + j by omega])
    cases hLk : L k with
    | true =>
      simp only [if_true]
      rw [wL (h0 hLk)]
      exact kx hrest
    | false =>
      simp only [Bool.false_eq_true, if_false]
      exact kx hrest
theorem qn {ops : Array Oper} {m m' : Mem} {o : Oper} (h : ∀ t ∈ o.looksAt ops, m'.tmp t = m.tmp t) : fZ ops m' o = fZ ops m o := by
  unfold fZ
  cases hg : o.guard with
  | none => rfl
  | some gw =>
    obtain ⟨g, want⟩ := gw
    simp only
    cases hd : (ops[g]?).bind (·.dst) with
    | none => rfl
    | some t =>
      simp only
      rw [h t (by simp [Oper.looksAt, hg, hd])]
theorem lv {masks : List Nat} {x : Touch} {i : Nat} : ∀ {ts : List Touch} {j : Nat}, jI masks x i ts j = true → ∀ (l : Nat) y, ts[l]? = some y → x.clash y = false ∨ (masks.getD (j + l) 0).testBit i = true
  | [], _, _, l, y, hy => by simp at hy
  | z :: ts, j, h, 0, y, hy => by
    simp only [jI, Bool.and_eq_true, Bool.or_eq_true, Bool.not_eq_true'] at h
    simp at hy
    subst hy
    exact h.1
  | z :: ts, j, h, l + 1, y, hy => by
    simp only [jI, Bool.and_eq_true] at h
    have := lv h.2 l y (by simpa using hy)
    rwa [show j + 1 + l = j + (l + 1) by omega] at this
theorem me {masks : List Nat} : ∀ {ts : List Touch} {k : Nat}, i9 masks ts k = true → ∀ (i j : Nat) x y, i < j → ts[i]? = some x → ts[j]? = some y → x.clash y = false ∨ (masks.getD (k + j) 0).testBit (k + i) = true
  | [], _, _, i, j, x, y, _, hx, _ => by simp at hx
  | z :: ts, k, h, 0, j, x, y, hij, hx, hy => by
    simp only [i9, Bool.and_eq_true] at h
    simp at hx
    subst hx
    obtain ⟨j, rfl⟩ : ∃ j', j = j' + 1 := ⟨j - 1, by omega⟩
    have := lv h.1 j y (by simpa using hy)
    rwa [show k + 1 + j = k + (j + 1) by omega] at this
  | z :: ts, k, h, i + 1, j, x, y, hij, hx, hy => by
    simp only [i9, Bool.and_eq_true] at h
    obtain ⟨j, rfl⟩ : ∃ j', j = j' + 1 := ⟨j - 1, by omega⟩
    have := me h.2 i j x y (by omega) (by simpa using hx) (by simpa using hy)
    rwa [show k + 1 + j = k + (j + 1) by omega, show k + 1 + i = k + (i + 1) by omega] at this
theorem nB (acc : List Nat) : ∀ (l : List Edge) (s i : Nat), (l.foldl (fun s e => if Region.binds .any e then s ||| 2 ^ e.on ||| acc.getD e.on 0 else s) s).testBit i = true →
    s.testBit i = true ∨ ∃ e ∈ l, Region.binds .any e = true ∧ (e.on = i ∨ (acc.getD e.on 0).testBit i = true)
  | [], s, i, h => .inl h
  | e :: l, s, i, h => by
    simp only [List.foldl_cons] at h
    rcases nB acc l _ i h with h1 | ⟨e', he', hb, hx⟩
    · split at h1
      · rename_i hb
        rw [Nat.testBit_or, Nat.testBit_or] at h1
        simp only [Bool.or_eq_true] at h1
        rcases h1 with (h1 | h1) | h1
        · exact .inl h1
        · refine .inr ⟨e, by simp, hb, .inl ?_⟩
          rw [Nat.testBit_two_pow] at h1
          simpa using h1
        · exact .inr ⟨e, by simp, hb, .inr h1⟩
      · exact .inl h1
    · exact .inr ⟨e', by simp [he'], hb, hx⟩
theorem gF : ∀ (l : List Oper) (acc : List Nat) (i : Nat), i < acc.length → (gV l acc).getD i 0 = acc.getD i 0
  | [], acc, i, _ => rfl
  | o :: l, acc, i, h => by
    simp only [gV]
    rw [gF l _ i (by simp; omega)]
    simp [List.getD, List.getElem?_append_left h]
theorem nj : ∀ (l : List Oper) (acc : List Nat) (k : Nat) (o : Oper), l[k]? = some o → ∀ i, ((gV l acc).getD (acc.length + k) 0).testBit i = true →
    ∃ e ∈ o.after, Region.binds .any e = true ∧ (e.on = i ∨ (e.on < acc.length + k ∧ ((gV l acc).getD e.on 0).testBit i = true))
  | [], _, _, _, h, _, _ => by simp at h
  | x :: l, acc, 0, o, h, i, hi => by
    simp at h
    subst h
    simp only [gV, Nat.add_zero] at hi ⊢
    rw [gF l _ _ (by simp)] at hi
    have e1 : (acc ++ [x.after.foldl (fun s e => if Region.binds .any e then s ||| 2 ^ e.on ||| acc.getD e.on 0 else s) 0]).getD acc.length 0 = x.after.foldl (fun s e => if Region.binds .any e then s ||| 2 ^ e.on ||| acc.getD e.on 0 else s) 0 := by
      simp [List.getD]
    rw [e1, ← Array.foldl_toList] at hi
    rcases nB acc x.after.toList 0 i hi with h1 | ⟨e, he, hb, hx⟩
    · simp at h1
    · refine ⟨e, by simpa using he, hb, ?_⟩
      rcases hx with hx | hx
      · exact .inl hx
      · right
        have hlt : e.on < acc.length := by
          rcases Nat.lt_or_ge e.on acc.length with h | h
          · exact h
          · simp [List.getD, List.getElem?_eq_none h] at hx
        refine ⟨hlt, ?_⟩
        rw [gF l _ _ (by simp; omega)]
        simpa [List.getD, List.getElem?_append_left hlt] using hx
  | x :: l, acc, k + 1, o, h, i, hi => by
    simp only [gV] at hi ⊢
    have := nj l (acc ++ [x.after.foldl (fun s e => if Region.binds .any e then s ||| 2 ^ e.on ||| acc.getD e.on 0 else s) 0]) k o (by simpa using h) i (by
      rw [List.length_append, List.length_singleton, show acc.length + 1 + k = acc.length + (k + 1) by omega]; exact hi)
    obtain ⟨e, he, hb, hx⟩ := this
    refine ⟨e, he, hb, hx.imp id (fun ⟨h1, h2⟩ => ⟨?_, h2⟩)⟩
    simp at h1; omega
theorem m7 {ops : List Oper} {L : Nat → Bool} (hcl : ∀ (j : Nat) o, ops[j]? = some o → L j = true → ∀ e ∈ o.after, Region.binds .any e = true → L e.on = true) :
    ∀ (k : Nat) (o : Oper), ops[k]? = some o → (∀ e ∈ o.after, Region.binds .any e = true → L e.on = true) → ∀ i, ((gV ops []).getD k 0).testBit i = true → L i = true := by
  intro k
  induction k using Nat.strongRecOn with
  | _ k ih =>
    intro o ho hpre i hi
    obtain ⟨e, he, hb, hx⟩ := nj ops [] k o ho i (by simpa using hi)
    have hle := hpre e he hb
    rcases hx with rfl | ⟨hlt, hx⟩
    · exact hle
    · simp only [List.length_nil, Nat.zero_add] at hlt
      have hlt' : e.on < ops.length := Nat.lt_trans hlt (List.getElem?_eq_some_iff.1 ho).1
      have hget : ops[e.on]? = some ops[e.on] := List.getElem?_eq_getElem hlt'
      exact ih e.on hlt _ hget (hcl e.on _ hget hle) i hx
end Go.Dm
namespace Go.Dm
open Go.RowKit
theorem sd {ops : List Oper} (h : mp ops = true) {i : Nat} {o : Oper} (hi : ops[i]? = some o) : ∀ e ∈ o.after, Region.binds .any e = true → e.on < i := by
  intro e he hb
  unfold mp at h
  rw [List.all_eq_true] at h
  have hm : (o, i) ∈ ops.zipIdx := by
    rw [List.mem_zipIdx_iff_getElem?]
    simpa using hi
  have := h (o, i) hm
  simp only at this
  rw [Array.all_eq_true_iff_forall_mem] at this
  have := this e he
  simpa [hb] using this
def unl (n : Nat) (listed : Array Bool) : Nat := ((List.range n).filter fun i => !listed.getD i true).length
theorem n9 {n : Nat} {listed : Array Bool} {i : Nat} (hi : i < n) (hl : listed.getD i true = false) : unl n (listed.setIfInBounds i true) + 1 = unl n listed := by
  have hsz : i < listed.size := by
    rcases Nat.lt_or_ge i listed.size with h | h
    · exact h
    · simp [Array.getElem?_eq_none h] at hl
  unfold unl
  induction n with
  | zero => omega
  | succ n ih =>
    rw [List.range_succ, List.filter_append, List.filter_append, List.length_append, List.length_append]
    by_cases hin : i = n
    · subst hin
      have e1 : ((List.range i).filter fun j => !(listed.setIfInBounds i true).getD j true) = (List.range i).filter fun j => !listed.getD j true := by
        apply List.filter_congr
        intro j hj
        rw [List.mem_range] at hj
        rw [getD_set_ne true (by omega : i ≠ j)]
      rw [e1]
      have e2 : (listed.setIfInBounds i true).getD i true = true := by simp [hsz]
      simp only [List.filter_cons, List.filter_nil, e2, hl, Bool.not_true, Bool.not_false, if_true, Bool.false_eq_true, if_false, List.length_nil, List.length_singleton]
    · have := ih (by omega)
      have e2 : (listed.setIfInBounds i true).getD n true = listed.getD n true := getD_set_ne true hin
      simp only [List.filter_cons, List.filter_nil, e2]
      omega
theorem uz {n : Nat} {listed : Array Bool} (h : unl n listed = 0) : ∀ i, i < n → listed.getD i true = true := by
  intro i hi
  cases hb : listed.getD i true with
  | true => rfl
  | false =>
    have := n9 hi hb
    omega
theorem Cv {E : Env} (hE : EnvOk E) {F : Fm} {ops : Array Oper} {Q : Exit → Act → World → Prop} {steps : List Stp} {m0 mf : Mem} (hops : steps.map (·.o) = ops.toList) (hch : rD E ops m0 steps mf)
    (hdst : ∀ p ∈ steps, ∀ t, p.o.dst = some t → t < F.n) (hord : i9 (gV ops.toList []) (steps.map (Stp.touch ops)) 0 = true) (hedge : mp ops.toList = true)
    (hQ : ∀ a w, (∃ γ, Rel F γ mf a w ∧ eG E.gl γ.fr w) → Q .normal a w) : ∀ (fuel : Nat) (listed : Array Bool) (a : Act) (w : World), listed.size = ops.size → unl ops.size listed = fuel →
      (∀ (j : Nat) o, ops.toList[j]? = some o → listed.getD j false = true → ∀ e ∈ o.after, Region.binds .any e = true → listed.getD e.on false = true) →
      (∃ γ, Rel F γ (dc (fun i => listed.getD i false) 0 steps m0) a w ∧ eG E.gl γ.fr w) → wpAny E.P .any ops Q fuel listed a w := by
  have hlen : steps.length = ops.size := by
    have := congrArg List.length hops
    simpa using this
  have hfin : ∀ (listed : Array Bool), (∀ i, i < ops.size → listed.getD i false = true) → dc (fun i => listed.getD i false) 0 steps m0 = mf := by
    intro listed hall
    rw [qR (k := 0) hch]
    exact gS (fun j hj => by
      simp only [Nat.zero_add]
      exact hall j (by omega))
  have getDs : ∀ (listed : Array Bool) (i : Nat), listed.size = ops.size → i < ops.size → listed.getD i true = listed.getD i false := fun listed i hs hi => by
    have : i < listed.size := by omega
    simp [this]
  have hready : ∀ (listed : Array Bool), listed.size = ops.size → Region.ready .any ops listed = [] → ∀ i, i < ops.size → listed.getD i false = true := by
    intro listed hs hr i
    induction i using Nat.strongRecOn with
    | _ i ih =>
      intro hi
      cases hb : listed.getD i false with
      | true => rfl
      | false =>
        exfalso
        have hoi : ops[i]? = some ops[i] := Array.getElem?_eq_getElem hi
        have : i ∈ Region.ready .any ops listed := mem_ready.2 ⟨by rw [getDs listed i hs hi]; exact hb, ops[i], hoi, fun e he hbd => by
          have hlt := sd hedge (i := i) (o := ops[i]) (by simp [hi]) e he hbd
          exact ih e.on hlt (by omega)⟩
        rw [hr] at this
        cases this
  intro fuel
  induction fuel with
  | zero =>
    intro listed a w hs hu hcl hrel
    have hall : ∀ i, i < ops.size → listed.getD i false = true := fun i hi => by rw [← getDs listed i hs hi]; exact uz hu i hi
    refine ⟨?_, hQ a w (by rw [← hfin listed hall]; exact hrel)⟩
    apply List.eq_nil_iff_forall_not_mem.2
    intro i hi
    obtain ⟨h1, o, ho, _⟩ := mem_ready.1 hi
    have hlt : i < ops.size := (Array.getElem?_eq_some_iff.1 ho).1
    rw [getDs listed i hs hlt, hall i hlt] at h1
    cases h1
  | succ fuel ih =>
    intro listed a w hs hu hcl hrel
    refine ⟨fun hr => hQ a w (by rw [← hfin listed (hready listed hs hr)]; exact hrel), fun i hi => ?_⟩
    obtain ⟨hun, o, ho, hpre⟩ := mem_ready.1 hi
    have hlt : i < ops.size := (Array.getElem?_eq_some_iff.1 ho).1
    have hun' : listed.getD i false = false := by rw [← getDs listed i hs hlt]; exact hun
    have hol : ops.toList[i]? = some o := by simpa using ho
    have hsl : i < steps.length := by omega
    obtain ⟨p, hp⟩ : ∃ p, steps[i]? = some p := ⟨steps[i], List.getElem?_eq_getElem hsl⟩
    have hpo : p.o = o := by
      have := congrArg (fun l => l[i]?) hops
      simp only [List.getElem?_map, hp, Option.map_some, hol, Option.some.injEq] at this
      exact this
    have hsplit : steps = steps.take i ++ p :: steps.drop (i + 1) := by
      have h1 := (List.take_append_drop i steps).symm
      have h2 : steps.drop i = p :: steps.drop (i + 1) := by
        rw [List.drop_eq_getElem_cons hsl]
        congr 1
        have := List.getElem?_eq_getElem hsl
        rw [hp] at this
        exact (Option.some.inj this).symm
      rw [h2] at h1
      exact h1
    have htl : (steps.take i).length = i := by rw [List.length_take]; omega
    have hclash : ∀ (k l : Nat) (x y : Stp), k < l → steps[k]? = some x → steps[l]? = some y → (x.touch ops).clash (y.touch ops) = false ∨ ((gV ops.toList []).getD l 0).testBit k = true := fun k l x y hkl hx hy => by
      have := me hord k l _ _ hkl (by rw [List.getElem?_map, hx]; rfl) (by rw [List.getElem?_map, hy]; rfl)
      simpa using this
    have hbefore : ∀ (k : Nat) x, k < i → steps[k]? = some x → listed.getD k false = true ∨ (x.touch ops).clash (p.touch ops) = false := fun k x hki hx => by
      rcases hclash k i x p hki hx hp with h1 | h1
      · exact .inr h1
      · exact .inl (m7 (L := fun i => listed.getD i false) hcl i o hol hpre k h1)
    have hbehind : ∀ (l : Nat) y, i < l → steps[l]? = some y → listed.getD l false = true → (p.touch ops).clash (y.touch ops) = false := fun l y hil hy hll => by
      rcases hclash i l p y hil hp hy with h1 | h1
      · exact h1
      · exfalso
        have hlo : l < ops.toList.length := by
          have := (List.getElem?_eq_some_iff.1 hy).1
          simp; omega
        have hget : ops.toList[l]? = some ops.toList[l] := List.getElem?_eq_getElem hlo
        have := m7 (L := fun i => listed.getD i false) hcl l _ hget (hcl l _ hget hll) i h1
        have this : listed.getD i false = true := this
        rw [hun'] at this
        cases this
    let L : Nat → Bool := fun i => listed.getD i false
    have hL : L i = false := hun'
    have hmem : dc L 0 steps m0 = dc L (i + 1) (steps.drop (i + 1)) (dc L 0 (steps.take i) m0) := by
      conv => lhs; rw [hsplit]
      rw [iq, htl]
      simp only [dc, Nat.zero_add, hL, Bool.false_eq_true, if_false]
    have hpostget : ∀ (j : Nat) r, (steps.drop (i + 1))[j]? = some r → steps[i + 1 + j]? = some r := fun j r hr => by rw [List.getElem?_drop] at hr; exact hr
    have hpreget : ∀ (j : Nat) r, (steps.take i)[j]? = some r → j < i ∧ steps[j]? = some r := fun j r hr => by
      rw [List.getElem?_take] at hr
      split at hr
      · exact ⟨by assumption, hr⟩
      · cases hr
    have hagree : Agree (p.touch ops) (dc (fun _ => true) 0 (steps.take i) m0) (dc L 0 steps m0) := by
      rw [hmem]
      refine Agree.trans (qZ (ops := ops) (Agree.refl _ _) (fun j r hr => ?_)) (nY (ops := ops) (fun j r hr hLj => ?_))
      · obtain ⟨hji, hr'⟩ := hpreget j r hr
        rcases hbefore j r hji hr' with h1 | h1
        · left; simpa [L] using h1
        · right
          simp only [Touch.clash, Bool.or_eq_false_iff] at h1
          exact h1.1
      · have := hbehind (i + 1 + j) r (by omega) (hpostget j r hr) hLj
        simp only [Touch.clash, Bool.or_eq_false_iff] at this
        exact this.2
    have hnext : dc (fun j => (listed.setIfInBounds i true).getD j false) 0 steps m0 = p.step (dc L 0 steps m0) := by
      have hi' : (listed.setIfInBounds i true).getD i false = true := by
        have : i < listed.size := by omega
        simp [this]
      have hne : ∀ j, j ≠ i → (listed.setIfInBounds i true).getD j false = L j := fun j hj => getD_set_ne false (Ne.symm hj)
      conv => lhs; rw [hsplit]
      rw [iq, htl]
      simp only [dc, Nat.zero_add, hi', if_true]
      rw [gS (L' := L) (xs := steps.take i) (fun j hj => hne _ (by omega)), gS (L' := L) (xs := steps.drop (i + 1)) (fun j hj => hne _ (by omega))]
      rw [kx (ops := ops) (fun j r hr hLj => ?_), ← hmem]
      have := hbehind (i + 1 + j) r (by omega) (hpostget j r hr) hLj
      simp only [Touch.clash, Bool.or_eq_false_iff] at this
      exact this.1
    obtain ⟨mi, hmi⟩ : ∃ mi, mi = dc (fun _ => true) 0 (steps.take i) m0 := ⟨_, rfl⟩
    have hchi : rD E ops mi (p :: steps.drop (i + 1)) mf := by
      have aux : ∀ (xs ys : List Stp) (k : Nat) (m : Mem), rD E ops m (xs ++ ys) mf → rD E ops (dc (fun _ => true) k xs m) ys mf := by
        intro xs
        induction xs with
        | nil => intro ys k m h; exact h
        | cons x xs ih2 => intro ys k m h; simp only [dc, if_true]; exact ih2 ys (k + 1) _ h.2.2.2.2
      rw [hmi]
      refine aux (steps.take i) _ 0 m0 ?_
      rw [← hsplit]
      exact hch
    rw [← hmi] at hagree
    obtain ⟨hq, he, hnv, hnt, _⟩ := hchi
    obtain ⟨γ, hrel, hg⟩ := hrel
    have hw : fZ ops (dc L 0 steps m0) o = some p.q := by
      rw [← hq, hpo]
      exact qn fun t ht => hagree.tmp t (.inl (by simp only [Stp.touch, Touch.of]; rw [hpo]; exact ht))
    have hd' : ∀ t, o.dst = some t → t < F.n := fun t ht => hdst p (List.mem_of_getElem? hp) t (by rw [hpo]; exact ht)
    have hstep : ∀ a' w', (∃ γ', Rel F γ' (p.step (dc L 0 steps m0)) a' w' ∧ eG E.gl γ'.fr w') → wpAny E.P .any ops Q fuel (listed.setIfInBounds i true) a' w' := by
      intro a' w' hr'
      refine ih (listed.setIfInBounds i true) a' w' (by simpa using hs) ?_ ?_ (by rw [hnext]; exact hr')
      · have := n9 (n := ops.size) hlt hun
        omega
      · intro j oj hoj hlj e he' hb
        by_cases hji : j = i
        · subst hji
          rw [hol] at hoj
          cases hoj
          exact getD_set_true (hpre e he' hb)
        · rw [getD_set_ne false (Ne.symm hji)] at hlj
          exact getD_set_true (hcl j oj hoj hlj e he' hb)
    unfold wpOp
    rw [ho]
    simp only
    rw [ly hrel hw]
    cases hpq : p.q with
    | true =>
      rw [hpq] at he
      simp only [if_true] at he ⊢
      rw [hpo] at he
      have he' : au E (dc L 0 steps m0) p.nv p.nt o = some p.e := by
        refine qS he (fun x hx => ?_) (fun id hid => hagree.var id (.inl hid)) (fun k hk => hagree.tok k (.inl hk))
        cases x with
        | tmp t =>
          refine hagree.tmp t (.inl ?_)
          simp only [Stp.touch, Touch.of]
          rw [hpo]
          unfold Oper.looksAt
          exact List.mem_append_left _ (List.mem_filterMap.2 ⟨.tmp t, by simpa using hx, rfl⟩)
        | _ => rfl
      refine .inl (Oper.wp_mono (fun a' w' hp' => hstep a' w' ?_) (sD hE hrel hg hd' he' (fun hs' => ?_) (fun k n hk hnk => ?_)))
      · obtain ⟨γ', h1, h2⟩ := hp'
        refine ⟨γ', ?_, h2⟩
        simp only [Stp.step, hpo]
        exact h1
      · rw [hagree.var p.nv (.inr (by simp [Stp.touch, Touch.of, hs']))]
        exact hnv hs'
      · rw [hagree.tok k (.inr (by simp only [Stp.touch, Touch.of]; exact List.mem_map.2 ⟨(k, n), hk, rfl⟩))]
        exact hnt k n hk hnk
    | false =>
      rw [hpq] at he
      simp only [Bool.false_eq_true, if_false] at he ⊢
      refine hstep _ _ ⟨γ, ?_, hg⟩
      simp only [Stp.step, he, hpo, Mem.apply_skip]
      exact hrel.put hd' rfl
theorem Rel.draw {F : Fm} {γ : Gh} {m : Mem} {a : Act} {w : World} (h : Rel F γ m a w) : Rel F γ m a { w with drawn := w.drawn + 1 } ∧ Ev γ.fr γ.fr w { w with drawn := w.drawn + 1 } := by
  have hb : Below w.heap.size w { w with drawn := w.drawn + 1 } := (Below.refl _ w).drew
  obtain ⟨h1, h2⟩ := h.grow hb (fr' := γ.fr) (fun _ _ h => h) (fun _ _ h => .inl h)
  exact ⟨h1, h2.ev⟩
theorem qy {E : Env} (hE : EnvOk E) {F : Fm} {id : Nat} {ops : Array Oper} {draw : Bool} {s s' : St} (h : eo E ops draw s = some s') {Q : Exit → Act → World → Prop} {a : Act} {w : World} (hr : kC E F s a w)
    (hQ : ∀ a w, kC E F s' a w → Q .normal a w) : (Code.region id ops draw).wp E.P Q a w := by
  unfold eo at h
  split at h
  · cases h
  · rename_i s1 ts hev
    split at h
    · rename_i hcond
      cases h
      cases draw with
      | false =>
        refine wp_region ?_
        have := xV hE hev (k := 0) (by simp) hQ hr
        rw [List.range_eq_range']
        simpa using this
      | true =>
        simp only [Bool.not_true, Bool.false_or, Bool.and_eq_true] at hcond
        obtain ⟨⟨hord, hedge⟩, hmix⟩ := hcond
        obtain ⟨steps, h1, h2, h3, h4, h5⟩ := tU hev
        obtain ⟨hn, γ, hrel, hg⟩ := hr
        obtain ⟨hrel', hev'⟩ := hrel.draw
        refine wp_region_any hmix ?_
        have hfalse : ∀ i, (Array.replicate ops.size false).getD i false = false := fun i => by
          by_cases hi : i < ops.size <;> simp [hi]
        have hzero : ∀ (xs : List Stp) (k : Nat) (m : Mem), dc (fun i => (Array.replicate ops.size false).getD i false) k xs m = m := by
          intro xs
          induction xs with
          | nil => intro k m; rfl
          | cons x xs ih =>
            intro k m
            show dc _ (k + 1) xs (if (Array.replicate ops.size false).getD k false = true then x.step m else m) = m
            rw [hfalse k, if_neg (by simp)]
            exact ih (k + 1) m
        refine Cv hE h1 h3 (fun p hp t ht => by rw [← hn]; exact h4 p hp t ht) (by rw [← h2]; exact hord) hedge (fun a w hr => hQ a w ⟨by rw [h5]; exact hn, hr⟩) ops.size (Array.replicate ops.size false) a _ (by simp) ?_ ?_ ?_
        · unfold unl
          rw [List.filter_eq_self.2 (fun i hi => by rw [List.mem_range] at hi; simp [hi])]
          simp
        · intro j o _ hl
          rw [hfalse] at hl
          cases hl
        · exact ⟨γ, by rw [hzero]; exact hrel', hg.mono hev'⟩
    · cases h
end Go.Dm
namespace Go.Dm
open Go.RowKit
theorem Rel.forget {F : Fm} {γ : Gh} {m m' : Mem} {a : Act} {w : World} (h : Rel F γ m a w) (ht : ∀ t, m'.tmp t = m.tmp t ∨ m'.tmp t = .hole) (hv : m'.var = m.var) (hk : m'.tok = m.tok) : Rel F γ m' a w where
  defers := h.defers
  size := h.size
  base := h.base
  fr0 := h.fr0
  frs := h.frs
  frlt := h.frlt
  loclt := h.loclt
  tmps t := by
    rw [hk]
    rcases ht t with h1 | h1
    · rw [h1]; exact h.tmps t
    · rw [h1]; trivial
  vars := by rw [hv, hk]; exact h.vars
  novar := by rw [hv]; exact h.novar
  lentloc := h.lentloc
  apart := by rw [hv]; exact h.apart
  toks := by rw [hk]; exact h.toks
  tapart := by rw [hk]; exact h.tapart
  tvar := by rw [hk, hv]; exact h.tvar
theorem jY : ∀ {fs : List Tmp} {ts : List T}, (bY ts fs).length = ts.length ∧ ∀ t, (bY ts fs).getD t .skip = ts.getD t .skip ∨ (bY ts fs).getD t .skip = .hole
  | [], ts => ⟨rfl, fun t => .inl rfl⟩
  | f :: fs, ts => by
    obtain ⟨h1, h2⟩ := jY (fs := fs) (ts := ts.set f .hole)
    refine ⟨by simp [bY, h1], fun t => ?_⟩
    simp only [bY]
    rcases h2 t with h3 | h3
    · rw [h3]
      by_cases hft : f = t
      · subst hft
        by_cases hlt : f < ts.length
        · right; simp [List.getD, hlt]
        · left
          have hge : ts.length ≤ f := Nat.le_of_not_lt hlt
          rw [List.set_eq_of_length_le hge]
      · left; simp [List.getD, hft]
    · exact .inr h3
theorem kC.forget {E : Env} {F : Fm} {s : St} {a : Act} {w : World} (h : kC E F s a w) (fs : List Tmp) : kC E F { s with tmps := bY s.tmps fs } a w := by
  obtain ⟨hn, γ, hr, hg⟩ := h
  obtain ⟨h1, h2⟩ := jY (fs := fs) (ts := s.tmps)
  exact ⟨by rw [h1]; exact hn, γ, hr.forget h2 rfl rfl, hg⟩
theorem V.cut_rep {γ : Gh} {tok : Nat → Option Nat} {w : World} {n k : Nat} {x : V} {v : Value} (hx : x.rep γ tok w v) (ho : x.old n = true) :
    (x.untok k).rep { γ with loc := fun i => if i < n then γ.loc i else none } (fun i => if i < k then tok i else none) w v := by
  cases x with
  | c x => simpa only [V.untok, V.rep] using hx
  | own sz es t =>
    cases t with
    | exact => simpa only [V.untok, V.rep, i3] using hx
    | tok i =>
      simp only [V.untok]
      split
      · rename_i hi
        simp only [V.rep, i3, hi, if_true] at hx ⊢
        exact hx
      · simp only [V.rep]
        exact hx.1
  | ptr id off =>
    simp only [V.old, decide_eq_true_eq] at ho
    simp only [V.untok, V.rep, ho, if_true] at hx ⊢
    exact hx
  | vsl id off sz l =>
    simp only [V.old, decide_eq_true_eq] at ho
    simp only [V.untok, V.rep, ho, if_true] at hx ⊢
    exact hx
  | clo f caps =>
    simp only [V.untok, V.rep] at hx ⊢
    obtain ⟨vs, h1, h2⟩ := hx
    refine ⟨vs, h1, ?_⟩
    simp only [V.old] at ho
    clear h1
    induction caps generalizing vs with
    | nil =>
      cases vs with
      | nil => trivial
      | cons _ _ => exact h2.elim
    | cons c cs ih =>
      cases vs with
      | nil => exact h2.elim
      | cons u us =>
        simp only [List.all_cons, Bool.and_eq_true] at ho
        refine ⟨?_, ih ho.2 us h2.2⟩
        have h3 := h2.1
        cases c with
        | inl c => exact h3
        | inr p =>
          obtain ⟨id, off⟩ := p
          have ho1 := ho.1
          simp only [decide_eq_true_eq] at ho1
          simp only [jQ, ho1, if_true] at h3 ⊢
          exact h3
theorem Vs.cut_rep {γ : Gh} {tok : Nat → Option Nat} {w : World} {n k : Nat} : ∀ {xs : List V} {vs : List Value}, bf (V.rep γ tok w) xs vs → xs.all (V.old n) = true →
    bf (V.rep { γ with loc := fun i => if i < n then γ.loc i else none } (fun i => if i < k then tok i else none) w) (xs.map (V.untok k)) vs
  | [], [], _, _ => trivial
  | x :: xs, v :: vs, h, ho => by
    simp only [List.all_cons, Bool.and_eq_true] at ho
    exact ⟨V.cut_rep h.1 ho.1, Vs.cut_rep h.2 ho.2⟩
  | [], _ :: _, h, _ => h.elim
  | _ :: _, [], h, _ => h.elim
theorem K.cut_rep {γ : Gh} {tok : Nat → Option Nat} {w : World} {n k : Nat} {x y : K} {v : Value} (hx : x.rep γ tok w v) (hc : x.cut n k = some y) :
    y.rep { γ with loc := fun i => if i < n then γ.loc i else none } (fun i => if i < k then tok i else none) w v := by
  cases x with
  | v x =>
    simp only [K.cut] at hc
    split at hc
    · cases hc; exact V.cut_rep hx (by assumption)
    · cases hc
  | agg xs =>
    simp only [K.cut] at hc
    split at hc
    · rename_i ho
      cases hc
      obtain ⟨vs, h1, h2⟩ := hx
      exact ⟨vs, h1, Vs.cut_rep h2 ho⟩
    · cases hc
theorem T.cut_rep {γ : Gh} {tok : Nat → Option Nat} {w : World} {n k : Nat} {x : T} {v : Value} (hx : x.rep γ tok w v) :
    (x.cut n k).rep { γ with loc := fun i => if i < n then γ.loc i else none } (fun i => if i < k then tok i else none) w v := by
  cases x with
  | k x =>
    simp only [T.cut]
    split
    · rename_i y hy; exact K.cut_rep hx hy
    · trivial
  | tup ks =>
    simp only [T.cut]
    split
    · rename_i ys hy
      obtain ⟨vs, h1, h2⟩ := hx
      refine ⟨vs, h1, ?_⟩
      clear h1
      induction ks generalizing ys vs with
      | nil =>
        simp at hy
        subst hy
        cases vs with
        | nil => trivial
        | cons _ _ => exact h2.elim
      | cons z zs ih =>
        cases vs with
        | nil => exact h2.elim
        | cons u us =>
          rw [List.mapM_cons] at hy
          simp only [Option.pure_def, Option.bind_eq_bind, Option.bind_eq_some_iff, Option.some.injEq] at hy
          obtain ⟨y, hy1, r, hr, rfl⟩ := hy
          exact ⟨K.cut_rep h2.1 hy1, ih _ hr us h2.2⟩
    · trivial
  | hole => trivial
  | skip => exact hx
theorem kC.cut {E : Env} {F : Fm} {s s' : St} {a : Act} {w : World} (h : kC E F s a w) {n k : Nat} (hn : F.locs.length ≤ n) (hc : s.cut n k = some s') : kC E F s' a w := by
  unfold St.cut at hc
  split at hc
  · rename_i hall
    cases hc
    obtain ⟨hlen, γ, hr, hg⟩ := h
    have hvar : ∀ i : Nat, ((s.vars.take n).map fun xs => xs.map (V.untok k))[i]? = if i < n then (s.vars[i]?).map (fun xs => xs.map (V.untok k)) else none := fun i => by
      rw [List.getElem?_map, List.getElem?_take]
      split <;> simp
    have htok : ∀ i : Nat, (s.toks.take k)[i]? = if i < k then s.toks[i]? else none := fun i => by
      rw [List.getElem?_take]
    have hv : ∀ i zs, ((s.vars.take n).map fun xs => xs.map (V.untok k))[i]? = some zs → i < n ∧ ∃ xs, s.vars[i]? = some xs ∧ zs = xs.map (V.untok k) ∧ xs.all (V.old n) = true := fun i zs hi => by
      rw [hvar] at hi
      split at hi
      · rename_i hin
        simp only [Option.map_eq_some_iff] at hi
        obtain ⟨xs, h1, rfl⟩ := hi
        refine ⟨hin, xs, h1, rfl, ?_⟩
        rw [List.all_eq_true] at hall
        refine hall xs (List.mem_of_getElem? (i := i) ?_)
        rw [List.getElem?_take, if_pos hin]
        exact h1
      · cases hi
    have ht : ∀ i l, (s.toks.take k)[i]? = some l → s.toks[i]? = some l := fun i l hi => by
      rw [htok] at hi
      split at hi
      · exact hi
      · cases hi
    have hl : ∀ i p, (if i < n then γ.loc i else none) = some p → γ.loc i = some p := fun i p hi => by
      split at hi
      · exact hi
      · cases hi
    have hm : (⟨s.tmps.map (T.cut n k), (s.vars.take n).map (fun xs => xs.map (V.untok k)), s.toks.take k⟩ : St).mem.tok = fun i => if i < k then s.mem.tok i else none := funext htok
    refine ⟨by simpa using hlen, { γ with loc := fun i => if i < n then γ.loc i else none }, ?_, hg⟩
    exact {
      defers := hr.defers
      size := hr.size
      base := hr.base
      fr0 := hr.fr0
      frs := hr.frs
      frlt := hr.frlt
      loclt := fun i b o hi => hr.loclt i b o (hl i _ hi)
      tmps := fun t => by
        rw [hm]
        have : (⟨s.tmps.map (T.cut n k), (s.vars.take n).map (fun xs => xs.map (V.untok k)), s.toks.take k⟩ : St).mem.tmp t = (s.mem.tmp t).cut n k := by
          simp only [St.mem, List.getD, List.getElem?_map]
          cases s.tmps[t]? <;> rfl
        rw [this]
        exact T.cut_rep (hr.tmps t)
      vars := fun i zs hi => by
        rw [hm]
        obtain ⟨hin, xs, h1, rfl, h2⟩ := hv i zs hi
        obtain ⟨b, o, k1, ⟨vs, k2, k3⟩, k4, k5⟩ := hr.vars i xs h1
        refine ⟨b, o, by simp only [hin, if_true]; exact k1, ⟨vs, Vs.cut_rep k2 h2, k3⟩, by simpa using k4, by simpa using k5⟩
      novar := fun i hi => by
        simp only
        split
        · rename_i hin
          have hi' : ((s.vars.take n).map fun xs => xs.map (V.untok k))[i]? = none := hi
          rw [hvar, if_pos hin] at hi'
          exact hr.novar i (by simpa [St.mem] using hi')
        · rfl
      lentloc := fun i p hp => by
        have : i < n := Nat.lt_of_lt_of_le (List.getElem?_eq_some_iff.1 hp).1 hn
        simp only [this, if_true]
        exact hr.lentloc i p hp
      apart := fun i j zs us b o b' o' hij hi hj hli hlj => by
        obtain ⟨_, xs, h1, rfl, _⟩ := hv i zs hi
        obtain ⟨_, ys, h2, rfl, _⟩ := hv j us hj
        have := hr.apart i j xs ys b o b' o' hij h1 h2 (hl i _ hli) (hl j _ hlj)
        simpa using this
      toks := fun i l hi => hr.toks i l (ht i l hi)
      tapart := fun i j x y hij hi hj => hr.tapart i j x y hij (ht i x hi) (ht j y hj)
      tvar := fun i l j zs b o hi hj hlj => by
        obtain ⟨_, xs, h1, rfl, _⟩ := hv j zs hj
        exact hr.tvar i l j xs b o (ht i l hi) h1 (hl j _ hlj) }
  · cases hc
theorem Rel.setTmp {F : Fm} {γ : Gh} {m : Mem} {a : Act} {w : World} (h : Rel F γ m a w) {t : Tmp} {x : T} (hx : x.rep γ m.tok w (a.tmps.getD t undef)) : Rel F γ { m with tmp := fun i => if i = t then x else m.tmp i } a w :=
  { h with
    tmps := fun i => by
      simp only
      split
      · rename_i hi; subst hi; exact hx
      · exact h.tmps i }
theorem Rel.setVar {F : Fm} {γ : Gh} {m : Mem} {a : Act} {w : World} (h : Rel F γ m a w) {id : Nat} {xs xs' : List V} (hv : m.var id = some xs) (hlen : xs'.length = xs.length) (hx : ∀ b o vs, γ.loc id = some (b, o) → w.rangeAt b o vs → bf (V.rep γ m.tok w) xs vs → bf (V.rep γ m.tok w) xs' vs) :
    Rel F γ { m with var := fun i => if i = id then some xs' else m.var i } a w := by
  have key : ∀ i zs, (if i = id then some xs' else m.var i) = some zs → ∃ ys, m.var i = some ys ∧ ys.length = zs.length ∧ ∀ b o vs, γ.loc i = some (b, o) → w.rangeAt b o vs → bf (V.rep γ m.tok w) ys vs → bf (V.rep γ m.tok w) zs vs := fun i zs hi => by
    split at hi
    · rename_i he; subst he; cases hi; exact ⟨xs, hv, hlen.symm, hx⟩
    · exact ⟨zs, hi, rfl, fun _ _ _ _ _ h => h⟩
  exact { h with
    vars := fun i zs hi => by
      obtain ⟨ys, h1, h2, h3⟩ := key i zs hi
      obtain ⟨b, o, k1, ⟨vs, k2, k3⟩, k4, k5⟩ := h.vars i ys h1
      exact ⟨b, o, k1, ⟨vs, h3 b o vs k1 k3 k2, k3⟩, by rw [← h2]; exact k4, by rw [← h2]; exact k5⟩
    novar := fun i hi => by
      simp only at hi
      split at hi
      · cases hi
      · exact h.novar i hi
    apart := fun i j zs us b o b' o' hij hi hj hli hlj => by
      obtain ⟨ys, h1, h2, _⟩ := key i zs hi
      obtain ⟨ys', h1', h2', _⟩ := key j us hj
      have := h.apart i j ys ys' b o b' o' hij h1 h1' hli hlj
      omega
    tvar := fun i l j zs b o hi hj hlj => by
      obtain ⟨ys, h1, _, _⟩ := key j zs hj
      exact h.tvar i l j ys b o hi h1 hlj }
theorem gJ {E : Env} {F : Fm} {a : Act} {w : World} : ∀ {hs : List (Tmp × Nat)} {ts ts' : List T} {vs : List (List V)} {ks ks' : List Nat}, f8 ts ks hs = (ts', ks') → kC E F ⟨ts, vs, ks⟩ a w → kC E F ⟨ts', vs, ks'⟩ a w
  | [], ts, ts', vs, ks, ks', h, hr => by simp only [f8, Prod.mk.injEq] at h; obtain ⟨rfl, rfl⟩ := h; exact hr
  | (t, z) :: hs, ts, ts', vs, ks, ks', h, hr => by
    simp only [f8] at h
    split at h
    · rename_i sz es ht
      refine gJ h ?_
      obtain ⟨hn, γ, hrel, hg⟩ := hr
      have htm := hrel.tmps t
      have hm : (⟨ts, vs, ks⟩ : St).mem.tmp t = .k (.v (.own sz es .exact)) := ht
      rw [hm] at htm
      obtain ⟨γ', h1, h2, _, h3⟩ := hrel.tag (j := ks.length) (z := z) (by simp [St.mem]) htm
      have h4 := h1.setTmp (t := t) (x := .k (.v (.own (if es.isEmpty then z else sz) es (.tok ks.length)))) h3
      refine ⟨by simpa using hn, γ', ?_, hg.mono h2.ev⟩
      have hlt : t < ts.length := by
        rcases Nat.lt_or_ge t ts.length with h | h
        · exact h
        · simp [List.getD, List.getElem?_eq_none h] at ht
      have e1 : (⟨ts.set t (.k (.v (.own (if es.isEmpty then z else sz) es (.tok ks.length)))), vs, ks ++ [es.length]⟩ : St).mem = { tmp := fun i => if i = t then .k (.v (.own (if es.isEmpty then z else sz) es (.tok ks.length))) else (⟨ts, vs, ks⟩ : St).mem.tmp i, var := (⟨ts, vs, ks⟩ : St).mem.var, tok := fun i => if i = ks.length then some es.length else (⟨ts, vs, ks⟩ : St).mem.tok i } := by
        simp only [St.mem, Mem.mk.injEq, true_and]
        constructor
        · funext i
          by_cases hi : i = t
          · subst hi; simp [List.getD, hlt]
          · simp [List.getD, hi, Ne.symm hi]
        · funext i
          by_cases hi : i = ks.length
          · subst hi; simp
          · simp only [hi, if_false]
            rcases Nat.lt_or_ge i ks.length with h | h
            · rw [List.getElem?_append_left h]
            · rw [List.getElem?_eq_none (by simp; omega), List.getElem?_eq_none h]
      rw [e1]
      exact h4
    · exact gJ h hr
theorem bf.set {α β : Type} {R : α → β → Prop} : ∀ {xs : List α} {vs : List β} {i : Nat} {x : α}, bf R xs vs → (∀ v, vs[i]? = some v → R x v) → bf R (xs.set i x) vs
  | [], [], _, _, _, _ => trivial
  | _ :: _, v :: _, 0, _, h, hx => ⟨hx v rfl, h.2⟩
  | _ :: _, _ :: _, i + 1, _, h, hx => ⟨h.1, bf.set h.2 (fun v hv => hx v (by simpa using hv))⟩
  | [], _ :: _, _, _, h, _ => h.elim
  | _ :: _, [], _, _, h, _ => h.elim
theorem fh {E : Env} {F : Fm} {a : Act} {w : World} : ∀ {hs : List (Nat × Nat × Nat)} {ts : List T} {vs vs' : List (List V)} {ks ks' : List Nat}, fK vs ks hs = (vs', ks') → kC E F ⟨ts, vs, ks⟩ a w → kC E F ⟨ts, vs', ks'⟩ a w
  | [], ts, vs, vs', ks, ks', h, hr => by simp only [fK, Prod.mk.injEq] at h; obtain ⟨rfl, rfl⟩ := h; exact hr
  | (id, off, z) :: hs, ts, vs, vs', ks, ks', h, hr => by
    simp only [fK] at h
    split at h
    · rename_i xs hx
      split at h
      · rename_i sz es hxo
        refine fh h ?_
        obtain ⟨hn, γ, hrel, hg⟩ := hr
        obtain ⟨b, o, k1, ⟨us, k2, k3⟩, _⟩ := hrel.vars id xs hx
        obtain ⟨v, hv, hrv⟩ := k2.get off _ hxo
        obtain ⟨γ', h1, h2, hloc, h3⟩ := hrel.tag (j := ks.length) (z := z) (by simp [St.mem]) hrv
        have h4 := h1.setVar (id := id) (xs := xs) (xs' := xs.set off (.own (if es.isEmpty then z else sz) es (.tok ks.length))) hx (by simp) (fun b' o' us' hl' hr' hus' => by
          rw [hloc, k1] at hl'
          cases hl'
          refine hus'.set (fun v' hv' => ?_)
          have e1 := k3 off v hv
          have e2 := hr' off v' hv'
          rw [e1] at e2
          cases e2
          exact h3)
        refine ⟨hn, γ', ?_, hg.mono h2.ev⟩
        have hlt : id < vs.length := (List.getElem?_eq_some_iff.1 hx).1
        have e1 : (⟨ts, vs.set id (xs.set off (.own (if es.isEmpty then z else sz) es (.tok ks.length))), ks ++ [es.length]⟩ : St).mem = { tmp := (⟨ts, vs, ks⟩ : St).mem.tmp, var := fun i => if i = id then some (xs.set off (.own (if es.isEmpty then z else sz) es (.tok ks.length))) else (⟨ts, vs, ks⟩ : St).mem.var i, tok := fun i => if i = ks.length then some es.length else (⟨ts, vs, ks⟩ : St).mem.tok i } := by
          simp only [St.mem, Mem.mk.injEq, true_and]
          constructor
          · funext i
            by_cases hi : i = id
            · subst hi; simp [hlt]
            · simp [hi, Ne.symm hi]
          · funext i
            by_cases hi : i = ks.length
            · subst hi; simp
            · simp only [hi, if_false]
              rcases Nat.lt_or_ge i ks.length with h | h
              · rw [List.getElem?_append_left h]
              · rw [List.getElem?_eq_none (by simp; omega), List.getElem?_eq_none h]
        rw [e1]
        exact h4
      · exact fh h hr
    · exact fh h hr
end Go.Dm
namespace Go.Dm
open Go.RowKit
theorem kC.head {E : Env} {F : Fm} {s : St} {a : Act} {w : World} (h : kC E F s a w) (hint : LoopHint) : kC E F (s.head hint) a w := by
  unfold St.head
  have h1 := gJ (vs := s.vars) (ts' := (f8 s.tmps s.toks hint.tags).1) (ks' := (f8 s.tmps s.toks hint.tags).2) rfl h
  have h2 := fh (vs' := (fK s.vars (f8 s.tmps s.toks hint.tags).2 hint.vtags).1) (ks' := (fK s.vars (f8 s.tmps s.toks hint.tags).2 hint.vtags).2) rfl h1
  exact h2.forget hint.forget
def Ext.toExit : Ext → Exit
  | .normal => .normal
  | .exit id => .exit id
  | .ret => .ret
theorem yj {f : St → Option (Ext × St)} {g : St → Option St} : ∀ (n : Nat) (s s' : St), oa f g n s ≠ some (.normal, s')
  | 0, s, s', h => by simp [oa] at h
  | n + 1, s, s', h => by
    simp only [oa] at h
    split at h
    · split at h
      · exact yj n _ _ h
      · cases h
    · rename_i hne
      exact hne s' h
theorem nq {E : Env} {F : Fm} {c : Code} {f : St → Option (Ext × St)} {g : St → Option St} {Q : Exit → Act → World → Prop}
    (hf : ∀ (s : St) (e : Ext) (s' : St) (Q' : Exit → Act → World → Prop) (a : Act) (w : World), f s = some (e, s') → kC E F s a w → (∀ a' w', kC E F s' a' w' → Q' e.toExit a' w') → c.wp E.P Q' a w)
    (hg : ∀ (s s' : St) (a : Act) (w : World), g s = some s' → kC E F s a w → kC E F s' a w) : ∀ (n : Nat) (s : St) (e : Ext) (s' : St) (a : Act) (w : World), oa f g n s = some (e, s') → kC E F s a w → (∀ a' w', kC E F s' a' w' → Q e.toExit a' w') →
    Code.rounds E.P c Q n a w
  | 0, s, e, s', a, w, h, _, _ => by simp [oa] at h
  | n + 1, s, e, s', a, w, h, hr, hQ => by
    rw [rounds_succ]
    have hall := h
    simp only [oa] at h
    split at h
    · rename_i s1 hs1
      split at h
      · rename_i s2 hs2
        exact hf s .normal s1 _ a w hs1 hr (fun a' w' hr' => nq hf hg n s2 e s' a' w' h (hg s1 s2 a' w' hs2 hr') hQ)
      · cases h
    · cases e with
      | normal => exact absurd hall (yj (n + 1) s s')
      | exit id => exact hf s _ s' _ a w h hr (fun a' w' hr' => hQ a' w' hr')
      | ret => exact hf s _ s' _ a w h hr (fun a' w' hr' => hQ a' w' hr')
theorem m2 {vs vs' : List (List V)} {uv : List (Nat × List V)} (h : hU vs uv = some vs') : vs'.length = vs.length := (i5 h).1
theorem uY {s s' : St} {d : Option Tmp} {e : Eff} (h : s.apply d e = some s') : s.vars.length ≤ s'.vars.length := by
  unfold St.apply at h
  split at h
  · rename_i vs ts hv _
    have hl := m2 hv
    simp only at h
    cases hn : e.nv <;> simp only [hn] at h <;> split at h
    · split at h
      · cases h; simp only; omega
      · cases h
    · cases h; simp only; omega
    · split at h
      · cases h; simp only [List.length_append, List.length_singleton]; omega
      · cases h
    · cases h; simp only [List.length_append, List.length_singleton]; omega
  · cases h
theorem ln {E : Env} {ops : Array Oper} : ∀ {l : List Oper} {s s' : St} {ts : List Touch}, ej E ops l s = some (s', ts) → s.vars.length ≤ s'.vars.length
  | [], s, s', ts, h => by simp only [ej, Option.some.injEq, Prod.mk.injEq] at h; obtain ⟨rfl, _⟩ := h; exact Nat.le_refl _
  | o :: rest, s, s', ts, h => by
    simp only [ej] at h
    split at h
    · cases h
    · split at h
      · cases h
      · split at h
        · cases h
        · rename_i s1 hs1
          split at h
          · cases h
          · rename_i s2 ts2 hrec
            simp only [Option.some.injEq, Prod.mk.injEq] at h
            obtain ⟨rfl, _⟩ := h
            exact Nat.le_trans (uY hs1) (ln hrec)
theorem rX {E : Env} {ops : Array Oper} {draw : Bool} {s s' : St} (h : eo E ops draw s = some s') : s.vars.length ≤ s'.vars.length := by
  unfold eo at h
  split at h
  · cases h
  · rename_i s1 ts hev
    split at h
    · cases h; exact ln hev
    · cases h
theorem dI : ∀ (hs : List (Nat × Nat × Nat)) (vs : List (List V)) (ks : List Nat), (fK vs ks hs).1.length = vs.length
  | [], vs, ks => rfl
  | (id, off, z) :: hs, vs, ks => by
    simp only [fK]
    split
    · split
      · rw [dI hs]; simp
      · exact dI hs vs ks
    · exact dI hs vs ks
theorem rp {f : St → Option (Ext × St)} {g : St → Option St} {m : Nat} (hf : ∀ s e s', f s = some (e, s') → s.vars.length ≤ s'.vars.length) (hg : ∀ s s', g s = some s' → m ≤ s.vars.length → m ≤ s'.vars.length) :
    ∀ (n : Nat) (s : St) (e : Ext) (s' : St), oa f g n s = some (e, s') → m ≤ s.vars.length → m ≤ s'.vars.length
  | 0, s, e, s', h, _ => by simp [oa] at h
  | n + 1, s, e, s', h, hm => by
    simp only [oa] at h
    split at h
    · rename_i s1 hs1
      split at h
      · rename_i s2 hs2
        exact rp hf hg n s2 e s' h (hg s1 s2 hs2 (Nat.le_trans hm (hf s _ s1 hs1)))
      · cases h
    · exact Nat.le_trans hm (hf s e s' h)
theorem ug {s s' : St} {n k : Nat} (h : s.cut n k = some s') (hn : n ≤ s.vars.length) : s'.vars.length = n := by
  unfold St.cut at h
  split at h
  · cases h; simp; omega
  · cases h
theorem dL {E : Env} {H : Nat → LoopHint} {n : Nat} : ∀ (c : Code) (s : St) (e : Ext) (s' : St), aG E H n c s = some (e, s') → s.vars.length ≤ s'.vars.length
  | .skip, s, e, s', h => by simp only [aG, Option.some.injEq, Prod.mk.injEq] at h; obtain ⟨_, rfl⟩ := h; exact Nat.le_refl _
  | .region id ops draw, s, e, s', h => by
    simp only [aG] at h
    split at h
    · rename_i s1 hs1
      simp only [Option.some.injEq, Prod.mk.injEq] at h
      obtain ⟨_, rfl⟩ := h
      exact rX hs1
    · cases h
  | .seq x y, s, e, s', h => by
    simp only [aG] at h
    split at h
    · rename_i s1 hs1
      exact Nat.le_trans (dL x s _ s1 hs1) (dL y s1 e s' h)
    · exact dL x s e s' h
  | .cond c x y, s, e, s', h => by
    simp only [aG] at h
    split at h
    · exact dL x s e s' h
    · exact dL y s e s' h
    · cases h
  | .block id b, s, e, s', h => by
    simp only [aG] at h
    split at h
    · rename_i i s1 hs1
      have := dL b s _ s1 hs1
      split at h <;> (simp only [Option.some.injEq, Prod.mk.injEq] at h; obtain ⟨_, rfl⟩ := h; exact this)
    · exact dL b s e s' h
  | .loop b, s, e, s', h => by
    simp only [aG] at h
    have hlen : (s.head (H (aI b))).vars.length = s.vars.length := by unfold St.head; exact dI _ _ _
    rw [← hlen]
    refine rp (m := (s.head (H (aI b))).vars.length) (fun s e s' h => dL b s e s' h) (fun s1 s2 h1 hm => ?_) n _ e s' h (Nat.le_refl _)
    simp only [Option.map_eq_some_iff] at h1
    obtain ⟨s3, hs3, rfl⟩ := h1
    have := ug hs3 hm
    simp only
    omega
  | .exit id, s, e, s', h => by simp only [aG, Option.some.injEq, Prod.mk.injEq] at h; obtain ⟨_, rfl⟩ := h; exact Nat.le_refl _
  | .ret, s, e, s', h => by simp only [aG, Option.some.injEq, Prod.mk.injEq] at h; obtain ⟨_, rfl⟩ := h; exact Nat.le_refl _
  | .rangeFunc _ _ _ _, s, e, s', h => by simp [aG] at h
  | .scope _, s, e, s', h => by simp [aG] at h
  | .label _, s, e, s', h => by simp [aG] at h
  | .goto _, s, e, s', h => by simp [aG] at h
  | .refuse _, s, e, s', h => by simp [aG] at h
theorem dd {E : Env} (hE : EnvOk E) {F : Fm} {H : Nat → LoopHint} {n : Nat} : ∀ (c : Code) (s : St) (e : Ext) (s' : St) (Q : Exit → Act → World → Prop) (a : Act) (w : World), aG E H n c s = some (e, s') → F.locs.length ≤ s.vars.length → kC E F s a w →
    (∀ a' w', kC E F s' a' w' → Q e.toExit a' w') → c.wp E.P Q a w
  | .skip, s, e, s', Q, a, w, h, _, hr, hQ => by
    simp only [aG, Option.some.injEq, Prod.mk.injEq] at h
    obtain ⟨rfl, rfl⟩ := h
    exact wp_skip (hQ a w hr)
  | .region id ops draw, s, e, s', Q, a, w, h, _, hr, hQ => by
    simp only [aG] at h
    split at h
    · rename_i s1 hs1
      simp only [Option.some.injEq, Prod.mk.injEq] at h
      obtain ⟨rfl, rfl⟩ := h
      exact qy hE hs1 hr hQ
    · cases h
  | .seq x y, s, e, s', Q, a, w, h, hl, hr, hQ => by
    simp only [aG] at h
    refine wp_seq ?_
    split at h
    · rename_i s1 hs1
      exact dd hE x s _ s1 _ a w hs1 hl hr (fun a' w' hr' => dd hE y s1 e s' Q a' w' h (Nat.le_trans hl (dL x s _ s1 hs1)) hr' hQ)
    · rename_i hne
      cases e with
      | normal => exact absurd h (hne s')
      | exit id => exact dd hE x s _ s' _ a w h hl hr (fun a' w' hr' => hQ a' w' hr')
      | ret => exact dd hE x s _ s' _ a w h hl hr (fun a' w' hr' => hQ a' w' hr')
  | .cond c x y, s, e, s', Q, a, w, h, hl, hr, hQ => by
    simp only [aG] at h
    have hc : ∀ b, (E.ev s.mem c).bool? = some b → a.eval c = .bool b := fun b hb => by
      obtain ⟨_, γ, hrel, hg⟩ := hr
      have := gY hrel hg c
      rw [bool?_eq hb, bg] at this
      exact this.1
    split at h
    · rename_i hb
      exact wp_cond_true (hc true hb) (dd hE x s e s' Q a w h hl hr hQ)
    · rename_i hb
      exact wp_cond_false (hc false hb) (dd hE y s e s' Q a w h hl hr hQ)
    · cases h
  | .block id b, s, e, s', Q, a, w, h, hl, hr, hQ => by
    simp only [aG] at h
    refine wp_block ?_
    split at h
    · rename_i i s1 hs1
      refine dd hE b s _ s1 _ a w hs1 hl hr (fun a' w' hr' => ?_)
      simp only [Ext.toExit, Exit.inBlock]
      split at h
      · rename_i hi
        simp only [Option.some.injEq, Prod.mk.injEq] at h
        obtain ⟨rfl, rfl⟩ := h
        rw [if_pos hi]
        exact hQ a' w' hr'
      · rename_i hi
        simp only [Option.some.injEq, Prod.mk.injEq] at h
        obtain ⟨rfl, rfl⟩ := h
        rw [if_neg hi]
        exact hQ a' w' hr'
    · rename_i hne
      refine dd hE b s e s' _ a w h hl hr (fun a' w' hr' => ?_)
      cases e with
      | exit i => exact absurd h (hne i s')
      | normal => exact hQ a' w' hr'
      | ret => exact hQ a' w' hr'
  | .loop b, s, e, s', Q, a, w, h, hl, hr, hQ => by
    simp only [aG] at h
    have hlen : (s.head (H (aI b))).vars.length = s.vars.length := by unfold St.head; exact dI _ _ _
    refine wp_loop_rounds n ?_
    have key := nq (E := E) (F := F) (c := b) (Q := Q) (f := fun s1 => if F.locs.length ≤ s1.vars.length then aG E H n b s1 else none)
      (g := fun s1 => (s1.cut (s.head (H (aI b))).vars.length (s.head (H (aI b))).toks.length).map fun s2 => { s2 with tmps := bY s2.tmps (H (aI b)).forget })
      (fun s1 e1 s2 Q' a1 w1 h1 hr1 hQ1 => by
        split at h1
        · rename_i hl1
          exact dd hE b s1 e1 s2 Q' a1 w1 h1 hl1 hr1 hQ1
        · cases h1)
      (fun s1 s2 a1 w1 h1 hr1 => by
        simp only [Option.map_eq_some_iff] at h1
        obtain ⟨s3, hs3, rfl⟩ := h1
        exact (hr1.cut (by omega) hs3).forget _)
    refine key n (s.head (H (aI b))) e s' a w ?_ (hr.head _) hQ
    rw [← h]
    have aux : ∀ (k : Nat) (s1 : St), (s.head (H (aI b))).vars.length ≤ s1.vars.length →
        oa (fun s1 => if F.locs.length ≤ s1.vars.length then aG E H n b s1 else none) (fun s1 => (s1.cut (s.head (H (aI b))).vars.length (s.head (H (aI b))).toks.length).map fun s2 => { s2 with tmps := bY s2.tmps (H (aI b)).forget }) k s1 =
        oa (fun s1 => aG E H n b s1) (fun s1 => (s1.cut (s.head (H (aI b))).vars.length (s.head (H (aI b))).toks.length).map fun s2 => { s2 with tmps := bY s2.tmps (H (aI b)).forget }) k s1 := by
      intro k
      induction k with
      | zero => intro s1 _; rfl
      | succ k ih =>
        intro s1 hs1
        simp only [oa]
        rw [if_pos (by omega)]
        cases hev : aG E H n b s1 with
        | none => rfl
        | some r =>
          obtain ⟨e1, s2⟩ := r
          cases e1 with
          | normal =>
            simp only
            cases hcut : s2.cut (s.head (H (aI b))).vars.length (s.head (H (aI b))).toks.length with
            | none => rfl
            | some s3 =>
              simp only [Option.map_some]
              refine ih _ ?_
              have h1 := dL b s1 _ s2 hev
              have := ug hcut (by omega)
              simp only
              omega
          | _ => rfl
    exact aux n _ (Nat.le_refl _)
  | .exit id, s, e, s', Q, a, w, h, _, hr, hQ => by
    simp only [aG, Option.some.injEq, Prod.mk.injEq] at h
    obtain ⟨rfl, rfl⟩ := h
    exact wp_exit (hQ a w hr)
  | .ret, s, e, s', Q, a, w, h, _, hr, hQ => by
    simp only [aG, Option.some.injEq, Prod.mk.injEq] at h
    obtain ⟨rfl, rfl⟩ := h
    exact wp_ret (hQ a w hr)
  | .rangeFunc _ _ _ _, s, e, s', _, _, _, h, _, _, _ => by simp [aG] at h
  | .scope _, s, e, s', _, _, _, h, _, _, _ => by simp [aG] at h
  | .label _, s, e, s', _, _, _, h, _, _, _ => by simp [aG] at h
  | .goto _, s, e, s', _, _, _, h, _, _, _ => by simp [aG] at h
  | .refuse _, s, e, s', _, _, _, h, _, _, _ => by simp [aG] at h
end Go.Dm
namespace Go.Dm
open Go.RowKit
def nH (tmps : Array Value) : ResultVar → Sem Value
  | .tmp t => pure (tmps.getD t undef)
  | .cell a t => do loadVar t (← asAddr (tmps.getD a undef))
theorem m6 {P : Program} {tmps : Array Value} {w : World} {f : ResultVar → Sem Value} : ∀ {rs : List ResultVar} {us : List Value}, bf (fun r u => (f r).run P w = .ok u w) rs us → (rs.mapM f).run P w = .ok us w
  | [], [], _ => by simp
  | r :: rs, u :: us, h => by
    rw [List.mapM_cons]
    simp only [Sem.run_bind, h.1, Result.andThen_ok, m6 (tmps := tmps) h.2, Sem.run_pure]
  | [], _ :: _, h => h.elim
  | _ :: _, [], h => h.elim
theorem sg {P : Program} {fn : Func} {tmps : Array Value} {w : World} {us : List Value}
    (h : bf (fun r u => (nH tmps r).run P w = .ok u w) fn.results.toList us) :
    (results fn tmps).run P w = .ok (pP us) w := by
  have e : results fn tmps = (do let vs ← fn.results.mapM (nH tmps); pure (if h : vs.size = 1 then vs[0] else .tuple vs)) := by
    unfold results
    congr 1
  rw [e, Array.mapM_eq_mapM_toList]
  have := m6 (tmps := tmps) h
  simp only [map_eq_pure_bind, Sem.run_bind, this, Result.andThen_ok, Sem.run_pure]
  match us with
  | [] => rfl
  | [u] => rfl
  | u :: v :: r => simp [pP]
theorem lu {E : Env} {F : Fm} {s : St} {γ : Gh} {a : Act} {w : World} (h : Rel F γ s.mem a w) : ∀ {rs : List ResultVar} {ks : List K}, rs.mapM (rl E.P s) = some ks →
    ∃ us : List Value, bf (K.rep γ s.mem.tok w) ks us ∧ bf (fun r u => (nH a.tmps r).run E.P w = .ok u w) rs us
  | [], ks, hk => by simp at hk; subst hk; exact ⟨[], trivial, trivial⟩
  | r :: rs, ks, hk => by
    rw [List.mapM_cons] at hk
    simp only [Option.pure_def, Option.bind_eq_bind, Option.bind_eq_some_iff, Option.some.injEq] at hk
    obtain ⟨k, hk1, ks', hk2, rfl⟩ := hk
    obtain ⟨us, h1, h2⟩ := lu h hk2
    suffices hs : ∃ u, K.rep γ s.mem.tok w k u ∧ (nH a.tmps r).run E.P w = .ok u w by
      obtain ⟨u, hu, hr⟩ := hs
      exact ⟨u :: us, ⟨hu, h1⟩, ⟨hr, h2⟩⟩
    cases r with
    | tmp t =>
      simp only [rl] at hk1
      split at hk1
      · rename_i x hx
        cases hk1
        have := h.tmps t
        rw [show s.mem.tmp t = s.tmps.getD t .skip from rfl, hx] at this
        exact ⟨_, this, by simp only [nH, Sem.run_pure]⟩
      · cases hk1
    | cell b t =>
      simp only [rl] at hk1
      split at hk1
      · rename_i id off hx
        split at hk1
        · rename_i xs hxs
          have hp := h.tmps b
          rw [show s.mem.tmp b = s.tmps.getD b .skip from rfl, hx] at hp
          simp only [T.rep, K.rep, V.rep] at hp
          obtain ⟨b', o, hl, hp⟩ := hp
          obtain ⟨b'', o'', h1', ⟨vs, h2', h3'⟩, _⟩ := h.vars id xs hxs
          rw [hl] at h1'; cases h1'
          obtain ⟨v, hrun, hrep⟩ := kH hk1 (h2'.drop off) (fS h3' off)
          refine ⟨v, hrep, ?_⟩
          simp only [nH, hp, asAddr, Sem.run_bind, Sem.run_pure, Result.andThen_ok]
          simpa [Instr.loadAt, Instr.sureAddr, asAddr] using hrun
        · cases hk1
      · cases hk1
theorem mo {F : Fm} {s : St} {m : Mem} {γ : Gh} {a : Act} {w : World} (h : Rel F γ m a w) (hm : m.tok = s.mem.tok) : ∀ {ks : List K} {us : List Value} {rs : List Res}, ks.mapM (o9 s) = some rs → bf (K.rep γ s.mem.tok w) ks us → bf (Res.rep γ.fr F.spare w) rs us
  | [], us, rs, hr, hu => by
    simp at hr; subst hr
    cases us with
    | nil => trivial
    | cons _ _ => exact hu.elim
  | k :: ks, [], rs, hr, hu => hu.elim
  | k :: ks, u :: us, rs, hr, hu => by
    rw [List.mapM_cons] at hr
    simp only [Option.pure_def, Option.bind_eq_bind, Option.bind_eq_some_iff, Option.some.injEq] at hr
    obtain ⟨r, hr1, rs', hr2, rfl⟩ := hr
    refine ⟨?_, mo h hm hr2 hu.2⟩
    have hk := hu.1
    unfold o9 at hr1
    split at hr1
    · rename_i es0
      cases hr1
      simp only [K.rep, V.rep, i3] at hk
      obtain ⟨h1, b, n, rfl⟩ := hk
      have hn : n = es0.length := by simp only [C.rep] at h1; obtain ⟨_, _, _, heq, h2, _⟩ := h1; simp at heq; exact heq.2.1.trans h2
      rw [hn] at h1 ⊢
      exact ⟨h1, b, _, rfl, Nat.le_refl _, .inl rfl⟩
    · rename_i sz es i
      simp only [K.rep, V.rep, i3] at hk
      obtain ⟨h1, n, h2, h3, h4⟩ := hk
      split at hr1
      · rename_i ht
        cases hr1
        have hn : n = es.length := by
          have : s.mem.tok i = some es.length := ht
          rw [this] at h2; cases h2; rfl
        subst hn
        obtain ⟨h5, h6⟩ := h4 rfl
        obtain ⟨k1, k2⟩ := h.toks i _ (by rw [hm]; exact h2)
        refine ⟨h1, _, _, h5, k1, ?_⟩
        rcases k2 with k2 | ⟨b, k2, k3, k4, k5⟩
        · exact .inl k2
        · rw [h6] at k3 k4 k5
          exact .inr ⟨b, k2, k3, k4, k5⟩
      · cases hr1; exact h1
    · rename_i x _ _
      simp only [Option.map_eq_some_iff] at hr1
      obtain ⟨c, hc, rfl⟩ := hr1
      exact oS hc hk
    · simp only [Option.map_eq_some_iff] at hr1
      obtain ⟨cs, hc, rfl⟩ := hr1
      simp only [K.rep] at hk
      obtain ⟨vs, rfl, hvs⟩ := hk
      exact ⟨vs, rfl, fW hc hvs⟩
theorem pU {s : St} {γ : Gh} {w : World} {k : K} {u : Value} {sz : Nat} {es : List (List C)} (hr : o9 s k = some (.top sz es)) (hk : K.rep γ s.mem.tok w k u) {b : Nat} (hb : cB u = some b) :
    ∃ i, k = .v (.own sz es (.tok i)) ∧ s.mem.tok i = some es.length ∧ (γ.tk i).cap ≠ es.length ∧ (γ.tk i).base.map (·.block) = some b := by
  unfold o9 at hr
  split at hr
  · simp only [K.rep, V.rep, i3] at hk
    obtain ⟨h1, b', n, rfl⟩ := hk
    cases b' <;> simp [cB] at hb
  · rename_i sz' es' i
    split at hr
    · rename_i ht
      cases hr
      simp only [K.rep, V.rep, i3] at hk
      obtain ⟨h1, n, h2, h3, h4⟩ := hk
      have ht' : s.mem.tok i = some es.length := ht
      have hn : n = es.length := by rw [ht'] at h2; cases h2; rfl
      subst hn
      obtain ⟨h5, h6⟩ := h4 rfl
      refine ⟨i, rfl, ht', ?_, ?_⟩
      · intro hc
        rw [h5, hc] at hb
        cases hbs : (γ.tk i).base <;> simp [cB, hbs] at hb
      · rw [h5] at hb
        cases hbs : (γ.tk i).base with
        | none => simp [cB, hbs] at hb
        | some ad =>
          simp only [cB, hbs] at hb
          split at hb
          · cases hb
          · simpa using hb
    · cases hr
  · simp only [Option.map_eq_some_iff] at hr
    obtain ⟨_, _, hx⟩ := hr; cases hx
  · simp only [Option.map_eq_some_iff] at hr
    obtain ⟨_, _, hx⟩ := hr; cases hx
theorem tL {α β : Type} {f : α → Option β} : ∀ {xs : List α} {ys : List β}, xs.mapM f = some ys → ∀ (i : Nat) (y : β), ys[i]? = some y → ∃ x, xs[i]? = some x ∧ f x = some y
  | [], ys, h, i, y, hy => by simp at h; subst h; simp at hy
  | x :: xs, ys, h, i, y, hy => by
    rw [List.mapM_cons] at h
    simp only [Option.pure_def, Option.bind_eq_bind, Option.bind_eq_some_iff, Option.some.injEq] at h
    obtain ⟨z, hz, zs, hzs, rfl⟩ := h
    cases i with
    | zero => simp at hy; subst hy; exact ⟨x, rfl, hz⟩
    | succ i => simp at hy ⊢; exact tL hzs i y hy
theorem uX {ks : List K} {i : Nat} {sz : Nat} {es : List (List C)} {j : Nat} (h : ks[j]? = some (.v (.own sz es (.tok i)))) : i ∈ gZ ks := by
  induction ks generalizing j with
  | nil => simp at h
  | cons k ks ih =>
    cases j with
    | zero => simp at h; subst h; simp [gZ]
    | succ j =>
      simp at h
      have := ih h
      unfold gZ
      split
      · rename_i heq; cases heq
      · rename_i heq; cases heq; exact List.mem_cons_of_mem _ this
      · rename_i heq; cases heq; exact this
theorem ov {k : K} {ks : List K} (h : dv (gZ (k :: ks)) = true) : dv (gZ ks) = true := by
  unfold gZ at h
  split at h
  · rename_i heq; cases heq
  · rename_i heq; cases heq; simp only [dv, Bool.and_eq_true] at h; exact h.2
  · rename_i heq; cases heq; exact h
theorem n6 {F : Fm} {s : St} {m : Mem} {γ : Gh} {a : Act} {w : World} (h : Rel F γ m a w) (hm : m.tok = s.mem.tok) : ∀ {ks : List K} {us : List Value} {rs : List Res}, ks.mapM (o9 s) = some rs → bf (K.rep γ s.mem.tok w) ks us → dv (gZ ks) = true → eH rs us
  | [], us, rs, hr, hu, _ => by simp at hr; subst hr; simp [eH]
  | k :: ks, [], rs, hr, hu, _ => hu.elim
  | k :: ks, u :: us, rs, hr, hu, hd => by
    rw [List.mapM_cons] at hr
    simp only [Option.pure_def, Option.bind_eq_bind, Option.bind_eq_some_iff, Option.some.injEq] at hr
    obtain ⟨r, hr1, rs', hr2, rfl⟩ := hr
    have ih := n6 h hm hr2 hu.2 (ov hd)
    cases r with
    | c _ => exact ih
    | agg _ => exact ih
    | top sz es =>
      refine ⟨fun j sz' es' u' hj hu' b hb hb' => ?_, ih⟩
      obtain ⟨i, rfl, h1, h2, h3⟩ := pU hr1 hu.1 hb
      obtain ⟨k', hk', hk2⟩ := tL hr2 j _ hj
      obtain ⟨u'', hu1, hu2⟩ := hu.2.get j k' hk'
      rw [hu'] at hu1; cases hu1
      obtain ⟨i', rfl, g1, g2, g3⟩ := pU hk2 hu2 hb'
      have hmem := uX hk'
      simp only [gZ, dv, Bool.and_eq_true, Bool.not_eq_true', List.contains_eq_mem, decide_eq_false_iff_not] at hd
      have hne : i ≠ i' := fun he => hd.1 (by rw [he]; exact hmem)
      exact h.tapart i i' _ _ hne (by rw [hm]; exact h1) (by rw [hm]; exact g1) h2 g2 (h3.trans g3.symm)
theorem jX {F : Fm} {s : St} {m : Mem} {γ : Gh} {a : Act} {w : World} (h : Rel F γ m a w) : ∀ {n k : Nat} {r : List (List C)} {ps : List (Nat × Nat)}, (∀ i, i < k + n → m.var i = s.vars[i]?) → kM s n k = some r → ps.length = n → (∀ (j : Nat) p, ps[j]? = some p → F.locs[k + j]? = some p) → bf (iV γ.fr w) r ps
  | 0, k, r, ps, _, hr, hn, _ => by
    simp only [kM, Option.some.injEq] at hr
    subst hr
    cases ps with
    | nil => trivial
    | cons _ _ => simp at hn
  | n + 1, k, r, [], _, hr, hn, _ => by simp at hn
  | n + 1, k, r, p :: ps, hmv, hr, hn, hp => by
    simp only [kM] at hr
    split at hr
    · rename_i xs r' hxs hr'
      split at hr
      · rename_i cs hcs
        cases hr
        refine ⟨?_, jX h (fun i hi => hmv i (by omega)) hr' (by simpa using hn) (fun j q hq => by
          have := hp (j + 1) q (by simpa using hq)
          rwa [show k + (j + 1) = k + 1 + j by omega] at this)⟩
        have hl := h.lentloc k p (hp 0 p rfl)
        obtain ⟨b, o, h1, ⟨vs, h2, h3⟩, h4, h5⟩ := h.vars k xs (by rw [hmv k (by omega)]; exact hxs)
        rw [hl] at h1; cases h1
        have hlen : cs.length = xs.length := fv hcs
        refine ⟨⟨vs, fW hcs h2, h3⟩, ?_, fun j hj => (h5 j (by omega)).1⟩
        intro j hj
        exact h4 j (by omega)
      · cases hr
    · cases hr
def Cy (sz : Nat) : Value → TkInfo
  | .slice a _ cap => ⟨a, cap, sz⟩
  | _ => default
def jk : List A → List Value → TkInfo
  | .top sz _ :: _, v :: _ => Cy sz v
  | _ :: xs, _ :: vs => jk xs vs
  | _, _ => default
theorem iw : ∀ {xs : List A}, cS xs = [] → eD xs = true
  | [], _ => rfl
  | x :: xs, h => by
    cases x <;> simp only [cS] at h
    case top => cases h
    all_goals
      have := iw h
      simp only [eD, List.all_cons, Bool.and_eq_true] at this ⊢
      exact ⟨trivial, this⟩
theorem rT {Fr : Nat → Nat → Prop} {w : World} {locs : List (Nat × Nat)} : ∀ {xs : List A} {vs : List Value}, (cS xs).length ≤ 1 → bf (A.rep Fr w locs) xs vs → cS xs ≠ [] →
    ∃ (sz : Nat) (es : List (List C)) (v : Value), cS xs = [es.length] ∧ jk xs vs = Cy sz v ∧ A.rep Fr w locs (.top sz es) v ∧ (∀ b o, l8 (.top sz es) v b o → gT xs vs b o) ∧ ∀ (t : Nat) sz' es', xs[t]? = some (.top sz' es') → sz' = sz ∧ es' = es ∧ vs[t]? = some v
  | [], _, _, _, hn => absurd rfl hn
  | x :: xs, [], _, h, _ => h.elim
  | x :: xs, v :: vs, hl, h, hn => by
    have rest : cS (x :: xs) = cS xs → jk (x :: xs) (v :: vs) = jk xs vs → (∀ sz es, x ≠ .top sz es) → ∃ (sz : Nat) (es : List (List C)) (u : Value), cS (x :: xs) = [es.length] ∧ jk (x :: xs) (v :: vs) = Cy sz u ∧ A.rep Fr w locs (.top sz es) u ∧ (∀ b o, l8 (.top sz es) u b o → gT (x :: xs) (v :: vs) b o) ∧ ∀ (t : Nat) sz' es', (x :: xs)[t]? = some (.top sz' es') → sz' = sz ∧ es' = es ∧ (v :: vs)[t]? = some u := fun e1 e2 hne => by
      rw [e1] at hl hn
      obtain ⟨sz, es, u, g1, g2, g3, g4, g5⟩ := rT hl h.2 hn
      refine ⟨sz, es, u, by rw [e1, g1], by rw [e2, g2], g3, fun b o ho => .inr (g4 b o ho), fun t sz' es' ht => ?_⟩
      cases t with
      | zero => simp at ht; exact absurd ht (hne _ _)
      | succ t => exact g5 t sz' es' (by simpa using ht)
    cases x with
    | top sz es =>
      simp only [cS, List.length_cons] at hl
      have hnil : cS xs = [] := List.eq_nil_of_length_eq_zero (by omega)
      refine ⟨sz, es, v, by simp only [cS, hnil], rfl, h.1, fun b o ho => .inl ho, fun t sz' es' ht => ?_⟩
      cases t with
      | zero => simp at ht; exact ⟨ht.1.symm, ht.2.symm, rfl⟩
      | succ t =>
        have hno := iw hnil
        simp only [eD, List.all_eq_true] at hno
        have := hno (.top sz' es') (List.mem_of_getElem? (by simpa using ht))
        simp at this
    | c _ => exact rest rfl rfl (fun _ _ => by simp)
    | agg _ => exact rest rfl rfl (fun _ _ => by simp)
    | imp _ => exact rest rfl rfl (fun _ _ => by simp)
    | nil => exact rest rfl rfl (fun _ _ => by simp)
theorem wI {E : Env} {fn : Func} {xs : List A} {ims : List (List C)} {Fr : Nat → Nat → Prop} {w : World} {locs : List (Nat × Nat)} {vs : List Value} (hFr : ∀ b o, Fr b o → b < w.heap.size) (hg : eG E.gl Fr w) (hl : bf (iV Fr w) ims locs) (ha : m5 ims locs)
    (hx : bf (A.rep Fr w locs) xs vs) (hne : ims.all (fun cs => !cs.isEmpty) = true) (hone : (cS xs).length ≤ 1) :
    kC E ⟨Fr, fun b o => pJ ims locs b o ∨ gT xs vs b o, w, xs.length + (fn.ntmps - xs.length), locs, fun b => ∀ p ∈ locs, p.1 ≠ b⟩ (m8 fn xs ims) { tmps := vs.toArray ++ Array.replicate (fn.ntmps - vs.toArray.size) undef, defers := [] } w := by
  have hlen := hx.length
  have hll := hl.length
  have hloc : ∀ (k : Nat) p, locs[k]? = some p → ∃ cs, ims[k]? = some cs ∧ iV Fr w cs p ∧ cs ≠ [] := fun k p hk => by
    have hlt : k < ims.length := by rw [hll]; exact (List.getElem?_eq_some_iff.1 hk).1
    obtain ⟨q, hq, hr⟩ := hl.get k ims[k] (List.getElem?_eq_getElem hlt)
    rw [hk] at hq; cases hq
    refine ⟨_, List.getElem?_eq_getElem hlt, hr, fun he => ?_⟩
    have := List.all_eq_true.1 hne _ (List.getElem_mem hlt)
    rw [he] at this
    simp at this
  refine ⟨by simp [m8], { fr := Fr, loc := fun k => locs[k]?, tk := fun _ => jk xs vs }, ?_, hg⟩
  have hvar : ∀ (id : Nat) (ys : List V), (m8 fn xs ims).mem.var id = some ys → ∃ cs, ims[id]? = some cs ∧ ys = cs.map .c := fun id ys hv => by
    simp only [St.mem, m8, List.getElem?_map, Option.map_eq_some_iff] at hv
    obtain ⟨cs, h1, h2⟩ := hv
    exact ⟨cs, h1, h2.symm⟩
  have htok : ∀ (i n : Nat), (m8 fn xs ims).mem.tok i = some n → i = 0 ∧ ∃ sz es v, n = es.length ∧ jk xs vs = Cy sz v ∧ A.rep Fr w locs (.top sz es) v ∧ ∀ b o, l8 (.top sz es) v b o → gT xs vs b o := fun i n hi => by
    simp only [St.mem, m8] at hi
    have hne : cS xs ≠ [] := fun he => by rw [he] at hi; simp at hi
    obtain ⟨sz, es, v, g1, g2, g3, g4, _⟩ := rT hone hx hne
    rw [g1] at hi
    cases i with
    | zero => simp at hi; exact ⟨rfl, sz, es, v, hi.symm, g2, g3, g4⟩
    | succ i => simp at hi
  exact {
    defers := rfl
    size := by simp [hlen]
    base := .refl _ _
    fr0 := fun _ _ h => h
    frs := fun _ _ h => .inl h
    frlt := hFr
    loclt := fun id b o h => by
      obtain ⟨cs, h1, ⟨_, h3, _⟩, h4⟩ := hloc id _ h
      have hpos : 0 < cs.length := by cases cs with | nil => exact absurd rfl h4 | cons _ _ => simp
      obtain ⟨u, hu⟩ := Option.isSome_iff_exists.1 (h3 0 hpos).1
      exact World.block_lt_of_cell? w _ hu
    tmps := fun t => by
      simp only [St.mem, m8]
      by_cases ht : t < xs.length
      · have hv : t < vs.length := by omega
        obtain ⟨v, hv1, hv2⟩ := hx.get t xs[t] (List.getElem?_eq_getElem ht)
        have e1 : (xs.map A.toT ++ List.replicate (fn.ntmps - xs.length) T.skip).getD t .skip = xs[t].toT := by
          rw [List.getD_eq_getElem?_getD, List.getElem?_append_left (by simpa using ht)]
          simp [List.getElem?_eq_getElem ht]
        have e2 : (vs.toArray ++ Array.replicate (fn.ntmps - vs.toArray.size) undef).getD t undef = v := by
          rw [Array.getD_eq_getD_getElem?, Array.getElem?_append_left (by simpa using hv)]
          simp [hv1]
        rw [e1, e2]
        cases hxt : xs[t] with
        | c x => rw [hxt] at hv2; exact hv2
        | agg ys =>
          rw [hxt] at hv2
          obtain ⟨us, h1, h2⟩ := hv2
          exact ⟨us, h1, V.cells_rep h2⟩
        | imp k =>
          rw [hxt] at hv2
          obtain ⟨b, o, h1, h2⟩ := hv2
          exact ⟨b, o, h1, by rw [h2]; rfl⟩
        | nil =>
          rw [hxt] at hv2
          obtain ⟨a, rfl⟩ := hv2
          simp only [A.toT, T.rep, K.rep, V.rep, C.rep, i3]
          exact ⟨⟨a, 0, 0, rfl, rfl, Nat.le_refl _, .inl ⟨rfl, rfl⟩⟩, a, 0, rfl⟩
        | top sz es =>
          rw [hxt] at hv2
          have hxt' : xs[t]? = some (.top sz es) := by rw [List.getElem?_eq_getElem ht, hxt]
          have hne : cS xs ≠ [] := fun he => by
            have hno := iw he
            simp only [eD, List.all_eq_true] at hno
            have := hno (.top sz es) (List.mem_of_getElem? hxt')
            simp at this
          obtain ⟨sz', es', v', g1, g2, g3, g4, g5⟩ := rT hone hx hne
          obtain ⟨rfl, rfl, hv'⟩ := g5 t _ _ hxt'
          rw [hv1] at hv'; cases hv'
          obtain ⟨h1, base, cap, rfl, _⟩ := hv2
          simp only [A.toT, T.rep, K.rep, V.rep, i3]
          exact ⟨h1, es.length, by rw [g1]; rfl, Nat.le_refl _, fun _ => ⟨by rw [g2]; rfl, by rw [g2]; rfl⟩⟩
      · have e1 : (xs.map A.toT ++ List.replicate (fn.ntmps - xs.length) T.skip).getD t .skip = .skip := by
          rw [List.getD_eq_getElem?_getD, List.getElem?_append_right (by simpa using ht)]
          rw [List.getElem?_replicate]
          split <;> rfl
        have e2 : (vs.toArray ++ Array.replicate (fn.ntmps - vs.toArray.size) undef).getD t undef = undef := by
          rw [Array.getD_eq_getD_getElem?, Array.getElem?_append_right (by simp; omega)]
          rw [Array.getElem?_replicate]
          split <;> rfl
        rw [e1, e2]
        rfl
    vars := fun id ys hv => by
      obtain ⟨cs, h1, rfl⟩ := hvar id ys hv
      obtain ⟨p, hp, ⟨us, h2, h3⟩, h4, h5⟩ := hl.get id cs h1
      refine ⟨p.1, p.2, hp, ⟨us, V.cells_rep h2, h3⟩, by simpa using h4, fun j hj => ?_⟩
      have hj' : j < cs.length := by simpa using hj
      exact ⟨h5 j hj', .inl (.inl ⟨id, cs, p, h1, hp, rfl, by simp, by simp; omega⟩)⟩
    novar := fun id hv => by
      simp only [St.mem, m8, List.getElem?_map, Option.map_eq_none_iff, List.getElem?_eq_none_iff] at hv ⊢
      omega
    lentloc := fun k p h => h
    apart := fun id id' ys zs b o b' o' hne h1 h2 h3 h4 => by
      obtain ⟨cs, k1, rfl⟩ := hvar id ys h1
      obtain ⟨ds, k2, rfl⟩ := hvar id' zs h2
      simpa using ha id id' cs ds _ _ hne k1 k2 h3 h4
    toks := fun i n hi => by
      obtain ⟨_, sz, es, v, rfl, g2, ⟨h1, base, cap, rfl, h3, h4⟩, g4⟩ := htok i n hi
      simp only [rM, g2, Cy]
      refine ⟨h3, ?_⟩
      by_cases hc : cap = es.length
      · exact .inl hc
      · obtain ⟨b, hb, hb2, harr, hfr⟩ := h4.resolve_left hc
        exact .inr ⟨b, hb, .inr ⟨hb2, fun o ho => .inr (g4 b o (by rw [hb]; exact ⟨hc, rfl, ho⟩))⟩, harr, hfr⟩
    tapart := fun i j n k hij hi hj => by
      exact absurd ((htok i n hi).1.trans (htok j k hj).1.symm) hij
    tvar := fun i n id ys b o hi hv hl hc => by
      obtain ⟨_, sz, es, v, rfl, g2, ⟨h1, base, cap, rfl, h3, h4⟩, g4⟩ := htok i n hi
      simp only [g2, Cy] at hc ⊢
      obtain ⟨b', hb, hb2, _⟩ := h4.resolve_left hc
      rw [hb]
      simp only [Option.map_some, ne_eq, Option.some.injEq]
      rintro rfl
      exact hb2 (b', o) (List.mem_of_getElem? hl) rfl }
def V.stillIds (nl : Nat) : V → List Nat
  | .vsl id _ _ _ => if nl ≤ id then [id] else []
  | _ => []
def K.stillIds (nl : Nat) : K → List Nat
  | .v x => x.stillIds nl
  | .agg xs => xs.flatMap (V.stillIds nl)
theorem V.still_rep {F : Fm} {s : St} {nl : Nat} {γ γ' : Gh} {a : Act} {w : World} (h : Rel F γ s.mem a w) (hex : Ex γ γ' s.mem.tok s.mem.tok w w) (hfr : ∀ b o, γ.fr b o → γ'.fr b o) {x : V} {v : Value} (hx : x.rep γ s.mem.tok w v)
    (hsn : ∀ id ∈ x.stillIds nl, ∀ ys b o, s.mem.var id = some ys → γ.loc id = some (b, o) → ∀ j, j < ys.length → γ'.fr b (o + j)) : (x.still s nl).rep γ' s.mem.tok w v := by
  cases x with
  | vsl id off sz n =>
    simp only [V.still]
    split
    · rename_i hle
      split
      · rename_i es hes
        simp only [Option.bind_eq_some_iff] at hes
        obtain ⟨cs, hcs, hch⟩ := hes
        simp only [V.rep] at hx
        obtain ⟨b, o, cap, hl, rfl, hcap⟩ := hx
        have hcells := kr h hcs hfr (hsn id (by simp [V.stillIds, hle])) hl
        obtain ⟨hr, hlen⟩ := jl hch hcells
        simp only [V.rep, C.rep]
        exact ⟨_, n, cap, rfl, hlen.symm, hcap, .inr ⟨b, o + off, rfl, hr⟩⟩
      · exact V.rep.mono hex _ _ hx
    · exact V.rep.mono hex _ _ hx
  | _ => exact V.rep.mono hex _ _ hx
theorem Vs.still_rep {F : Fm} {s : St} {nl : Nat} {γ γ' : Gh} {a : Act} {w : World} (h : Rel F γ s.mem a w) (hex : Ex γ γ' s.mem.tok s.mem.tok w w) (hfr : ∀ b o, γ.fr b o → γ'.fr b o) : ∀ {xs : List V} {vs : List Value}, bf (V.rep γ s.mem.tok w) xs vs →
    (∀ id ∈ xs.flatMap (V.stillIds nl), ∀ ys b o, s.mem.var id = some ys → γ.loc id = some (b, o) → ∀ j, j < ys.length → γ'.fr b (o + j)) → bf (V.rep γ' s.mem.tok w) (xs.map (V.still s nl)) vs
  | [], [], _, _ => trivial
  | x :: xs, v :: vs, hx, hsn => ⟨V.still_rep h hex hfr hx.1 (fun id hid => hsn id (by simp only [List.flatMap_cons, List.mem_append]; exact .inl hid)), Vs.still_rep h hex hfr hx.2 (fun id hid => hsn id (by simp only [List.flatMap_cons, List.mem_append]; exact .inr hid))⟩
  | [], _ :: _, h, _ => h.elim
  | _ :: _, [], h, _ => h.elim
theorem Ks.still_rep {F : Fm} {s : St} {nl : Nat} {γ γ' : Gh} {a : Act} {w : World} (h : Rel F γ s.mem a w) (hex : Ex γ γ' s.mem.tok s.mem.tok w w) (hfr : ∀ b o, γ.fr b o → γ'.fr b o) : ∀ {ks : List K} {us : List Value}, bf (K.rep γ s.mem.tok w) ks us →
    (∀ id ∈ ks.flatMap (K.stillIds nl), ∀ ys b o, s.mem.var id = some ys → γ.loc id = some (b, o) → ∀ j, j < ys.length → γ'.fr b (o + j)) → bf (K.rep γ' s.mem.tok w) (ks.map (K.still s nl)) us
  | [], [], _, _ => trivial
  | k :: ks, u :: us, hx, hsn => by
    refine ⟨?_, Ks.still_rep h hex hfr hx.2 (fun id hid => hsn id (by simp only [List.flatMap_cons, List.mem_append]; exact .inr hid))⟩
    have hsn1 : ∀ id ∈ k.stillIds nl, ∀ ys b o, s.mem.var id = some ys → γ.loc id = some (b, o) → ∀ j, j < ys.length → γ'.fr b (o + j) := fun id hid => hsn id (by simp only [List.flatMap_cons, List.mem_append]; exact .inl hid)
    have hx1 := hx.1
    cases k with
    | v x => exact V.still_rep h hex hfr hx1 hsn1
    | agg xs =>
      obtain ⟨vs, hv, hvs⟩ := hx1
      exact ⟨vs, hv, Vs.still_rep h hex hfr hvs hsn1⟩
  | [], _ :: _, h, _ => h.elim
  | _ :: _, [], h, _ => h.elim
theorem V.stillIds_some {F : Fm} {s : St} {nl : Nat} {γ : Gh} {a : Act} {w : World} (h : Rel F γ s.mem a w) {x : V} {v : Value} (hx : x.rep γ s.mem.tok w v) : ∀ id ∈ x.stillIds nl, (s.mem.var id).isSome = true ∧ nl ≤ id := by
  intro id hid
  cases x with
  | vsl id' off sz n =>
    simp only [V.stillIds] at hid
    split at hid
    · rename_i hle
      simp only [List.mem_singleton] at hid
      subst hid
      simp only [V.rep] at hx
      obtain ⟨b, o, cap, hl, _⟩ := hx
      refine ⟨?_, hle⟩
      cases hq : s.mem.var id with
      | none => rw [h.novar id hq] at hl; cases hl
      | some _ => rfl
    · simp at hid
  | _ => simp [V.stillIds] at hid
theorem Ks.stillIds_some {F : Fm} {s : St} {nl : Nat} {γ : Gh} {a : Act} {w : World} (h : Rel F γ s.mem a w) : ∀ {ks : List K} {us : List Value}, bf (K.rep γ s.mem.tok w) ks us → ∀ id ∈ ks.flatMap (K.stillIds nl), (s.mem.var id).isSome = true ∧ nl ≤ id
  | [], [], _, id, hid => by simp at hid
  | k :: ks, u :: us, hx, id, hid => by
    simp only [List.flatMap_cons, List.mem_append] at hid
    rcases hid with hid | hid
    · have hx1 := hx.1
      cases k with
      | v x => exact V.stillIds_some h hx1 id hid
      | agg xs =>
        obtain ⟨vs, _, hvs⟩ := hx1
        obtain ⟨x, hxm, hid⟩ := List.mem_flatMap.1 hid
        obtain ⟨i, hi, rfl⟩ := List.getElem_of_mem hxm
        obtain ⟨v, _, hv⟩ := hvs.get i _ (List.getElem?_eq_getElem hi)
        exact V.stillIds_some h hv id hid
    · exact Ks.stillIds_some h hx.2 id hid
  | [], _ :: _, h, _, _ => h.elim
  | _ :: _, [], h, _, _ => h.elim
theorem zm {E : Env} (hE : EnvOk E) {H : Nat → LoopHint} {n : Nat} {f : FuncId} {fn : Func} (hf : E.P.funcs[f]? = some fn) {xs : List A} {ims : List (List C)} {rs : List Res} {ims' : List (List C)} (h : nM E H n fn xs ims = some (rs, ims')) : uH E.P E.gl f xs ims rs ims' := by
  intro Fr w locs vs hFr hg hl ha hx
  unfold nM at h
  split at h
  · cases h
  · rename_i c hc
    split at h
    · rename_i e s hev
      split at h
      · rename_i he
        obtain ⟨he, hne, hone⟩ := he
        split at h
        · rename_i rs0 r0 hres hout
          split at h
          · rename_i hlens
            cases h
            have hr0 := wI (E := E) (fn := fn) hFr hg hl ha hx hne hone
            refine calls_of_wp hf hc (dd hE c _ e s _ _ w hev ?_ hr0 (fun a' w' hr => ?_))
            · simp only [m8, List.length_map]; rw [hl.length]; exact Nat.le_refl _
            · suffices hs : a'.defers = [] ∧ ∃ v, (results fn a'.tmps).run E.P w' = .ok v w' ∧ (fun (e : Ending) (w' : World) => ∃ (us : List Value) (Fr' : Nat → Nat → Prop), e = .returned (pP us) ∧ BelowBut (fun b o => pJ ims locs b o ∨ gT xs vs b o) w w' ∧ (∀ b o, Fr b o → Fr' b o) ∧
                  (∀ b o, Fr' b o → Fr b o ∨ ((w.heap.size ≤ b ∨ gT xs vs b o) ∧ b < w'.heap.size)) ∧ bf (Res.rep Fr' (fun b lo => w.heap.size ≤ b ∨ ∀ o, lo ≤ o → gT xs vs b o) w') rs us ∧ eH rs us ∧ bf (iV Fr' w') ims' locs ∧ ims'.map List.length = ims.map List.length) (.returned v) w' by
                rcases he with rfl | rfl <;> exact hs
              obtain ⟨_, γ, hrel, hgl⟩ := hr
              unfold results? at hres
              split at hres
              · rename_i ks hks
                split at hres
                · rename_i hdis
                  obtain ⟨us, hus0, hrun⟩ := lu hrel hks
                  have hids := Ks.stillIds_some (nl := ims.length) hrel hus0
                  obtain ⟨γ', _, _, e3, e4, hrel', hx'⟩ := hrel.freeze (ks.flatMap (K.stillIds ims.length)) (fun id hid => (hids id hid).1)
                  have hus := Ks.still_rep hrel hx' e3 hus0 e4
                  have hlo := jX hrel' (s := s) (fun i hi => by
                    simp only
                    rw [if_neg (fun hm => by have := (hids i hm).2; omega)]
                    rfl) hout hl.length.symm (fun j p hp => by simpa using hp)
                  refine ⟨hrel.defers, pP us, sg hrun, us, γ'.fr, rfl, hrel'.base, hrel'.fr0, fun b o hb => ?_, (mo (s := s) hrel' rfl hres hus).mono (fun r u hu => hu.mono fun b lo hsp => ?_), n6 (s := s) hrel' rfl hres hus hdis, hlo, hlens⟩
                  · rcases hrel'.frs b o hb with h1 | (h1 | h1) | h1
                    · exact .inl h1
                    rotate_left
                    · exact .inr ⟨.inr h1, hrel'.frlt b o hb⟩
                    · exact .inr ⟨.inl h1, hrel'.frlt b o hb⟩
                    exfalso
                    obtain ⟨k, cs, p, hk1, hk2, rfl, hk4, hk5⟩ := h1
                    have hkl : (ims'.map List.length)[k]? = some cs.length := by rw [hlens, List.getElem?_map, hk1]; rfl
                    rw [List.getElem?_map, Option.map_eq_some_iff] at hkl
                    obtain ⟨ds, hd1, hd2⟩ := hkl
                    obtain ⟨p', hp1, hp2⟩ := hlo.get k ds hd1
                    rw [hk2] at hp1
                    cases hp1
                    have := hp2.2.2 (o - p.2) (by omega)
                    rw [show p.2 + (o - p.2) = o by omega] at this
                    exact this hb
                  · rcases hsp with hsp | ⟨hsp1, hsp2⟩
                    · exact .inl hsp
                    · refine .inr fun o ho => (hsp2 o ho).resolve_left fun hin => ?_
                      obtain ⟨k, cs, p, _, hk2, hk3, _⟩ := hin
                      exact hsp1 p (List.mem_of_getElem? hk2) hk3
                · cases hres
              · cases hres
          · cases h
        · cases h
      · cases h
    · cases h
end Go.Dm
namespace Go.Dm
open Go.RowKit
inductive G where
  | b (v : Bool)
  | call (rs : List Res) (ims : List (List C))
  | idx (j : Nat) (c : List C)
  | at (j : Nat)
  | look (n : Int) (b : Bool)
  | byte (j : Nat) (x : UInt8)
  | cut (l h : Nat) (es : List (List C))
  | len (n : Nat)
  | str (ns : List Int)
  | app (es : List (List C))
  | ok
  | e (x : Eff)
  | rowv (ys : List V)
  | vat (j : Nat)
  | sto (ys : List V)
  | rows (es : List (List C))
  | loop (x : Ext) (s : St)
  | un
  deriving Inhabited
def gW : List Prop → Prop
  | [] => True
  | p :: ps => p ∧ gW ps
theorem cJ {ps qs : List Prop} : gW (ps ++ qs) ↔ gW ps ∧ gW qs := by
  induction ps with
  | nil => simp [gW]
  | cons p ps ih => simp [gW, ih, and_assoc]
def zi (x : Option Bool) (gs : List G) : Option (Bool × List G × List Prop) :=
  match x, gs with
  | some b, .b v :: gs => some (v, gs, [b = v])
  | _, _ => none
theorem mc {x : Option Bool} {gs gs' : List G} {v : Bool} {ps : List Prop} (h : zi x gs = some (v, gs', ps)) (hp : gW ps) : x = some v := by
  unfold zi at h
  split at h
  · cases h; rw [hp.1]
  · cases h
def rH (ops : Array Oper) (m : Mem) (o : Oper) (gs : List G) : Option (Bool × List G × List Prop) :=
  match o.guard with
  | none => some (true, gs, [])
  | some (j, want) =>
    match (ops[j]?).bind (·.dst) with
    | none => some (false, gs, [])
    | some t => match m.tmp t with
      | .skip => some (false, gs, [])
      | x => match zi x.bool? gs with
        | some (b, gs, ps) => some (b == want, gs, ps)
        | none => none
theorem ot {ops : Array Oper} {m : Mem} {o : Oper} {gs gs' : List G} {q : Bool} {ps : List Prop} (h : rH ops m o gs = some (q, gs', ps)) (hp : gW ps) : fZ ops m o = some q := by
  unfold rH at h
  unfold fZ
  split at h
  · rename_i hg; cases h; simp only [hg]
  · rename_i j want hg
    simp only [hg]
    split at h
    · rename_i ht; cases h; simp only [ht]
    · rename_i t ht
      simp only [ht]
      split at h
      · rename_i hx; cases h; simp only [hx]
      · rename_i x hx hne
        simp only
        split at h
        · rename_i b gs1 ps1 hb
          cases h
          have := mc hb hp
          cases hx2 : m.tmp t with
          | skip => exact absurd hx2 (fun hs => hne hs)
          | _ => rw [hx2] at this; simp only [this]
        · cases h
def wR (m : Mem) (nt : Nat) (ls : List (Nat × Nat × List C)) (rs : List Nat) (res : List Res) (ims : List (List C)) : Option Eff :=
  match ls, ims with
  | [], [] => if rs.isEmpty || res.all Res.bare then some { dst := yy (gX nt res).1, ut := (gX nt res).2, rv := rs } else some { dst := yy (gX nt res).1, uv := rs.map fun id => (id, []), ut := (gX nt res).2, rv := rs }
  | [(id, off, cs)], [ds] =>
    match m.var id with
    | some ys => if rs.isEmpty ∧ ds.length = cs.length then some { dst := yy (gX nt res).1, uv := [(id, ys.take off ++ ds.map .c ++ ys.drop (off + ds.length))], ut := (gX nt res).2, rv := [id] } else none
    | none => none
  | _, _ => none
def sr (E : Env) (m : Mem) (nt : Nat) (g : FuncId) (extra : List C) (tys : List TypeId) (args : List T) (res : List Res) (ims : List (List C)) : Option (Eff × List Prop) :=
  match cF E.P m tys args 0 with
  | some (as, ls, rs) =>
    match wR m nt ls rs res ims with
    | some e => some (e, [E.F g (as ++ extra.map .c) (ls.map (·.2.2)) = some (res, ims)])
    | none => none
  | none => none
theorem pi {E : Env} {m : Mem} {nt : Nat} {g : FuncId} {extra : List C} {tys : List TypeId} {args : List T} {res : List Res} {ims : List (List C)} {e : Eff} {ps : List Prop} (h : sr E m nt g extra tys args res ims = some (e, ps)) (hp : gW ps) :
    hH E m nt g extra tys args = some e := by
  unfold sr at h
  split at h
  · rename_i as ls rs ha
    split at h
    · rename_i e' he
      cases h
      have hF := hp.1
      simp only [hH, ha, hF]
      rw [← he]
      unfold wR
      rfl
    · cases h
  · cases h
def CC : List A → List T → Option (List A × Nat × Nat)
  | a :: as, x :: xs =>
    match x with
    | .k (.v (.own sz es (.tok j))) => some (.top sz es :: as, j, es.length)
    | _ => (CC as xs).map fun r => (a :: r.1, r.2)
  | _, _ => none
theorem nA {m : Mem} : ∀ {as : List A} {xs : List T} {as' : List A} {j l : Nat}, CC as xs = some (as', j, l) → m.tok j = some l → vw m as xs = some (as', j, l)
  | a0 :: as, x :: xs, as', j, l, h, hj => by
    simp only [CC] at h
    unfold vw
    split at h
    · cases h
      simp only
      rw [if_pos hj]
    · rename_i hne
      simp only [Option.map_eq_some_iff] at h
      obtain ⟨⟨as1, j1, n1⟩, hr, he⟩ := h
      simp only [Prod.mk.injEq] at he
      obtain ⟨rfl, rfl, rfl⟩ := he
      split
      · exact absurd rfl (hne _ _ _)
      · rw [nA hr hj]
        rfl
  | [], _, _, _, _, h, _ => by simp [CC] at h
  | _ :: _, [], _, _, _, h, _ => by simp [CC] at h
def tn (E : Env) (m : Mem) (nt : Nat) (g : FuncId) (extra : List C) (tys : List TypeId) (args : List T) (res : List Res) (ims : List (List C)) : Option (Eff × List Prop) :=
  match cF E.P m tys args 0, ims with
  | some (as, [], []), [] =>
    match CC as args with
    | some (as', j, l) =>
      match m.tok j with
      | some n => if j < nt then some (lq nt j l res, [n = l, E.F g (as' ++ extra.map .c) [] = some (res, [])]) else none
      | none => none
    | none => none
  | _, _ => none
def tB (E : Env) (m : Mem) (nt : Nat) (g : FuncId) (extra : List C) (tys : List TypeId) (args : List T) (res : List Res) (ims : List (List C)) : Option (Eff × List Prop) :=
  if (E.tp g && args.any T.isTok) = true then tn E m nt g extra tys args res ims else sr E m nt g extra tys args res ims
theorem lr {E : Env} {m : Mem} {nt : Nat} {g : FuncId} {extra : List C} {tys : List TypeId} {args : List T} {res : List Res} {ims : List (List C)} {e : Eff} {ps : List Prop} (h : tB E m nt g extra tys args res ims = some (e, ps)) (hp : gW ps) :
    lG E m nt g extra tys args = some e := by
  unfold tB at h
  unfold lG
  split at h
  · rename_i hc
    rw [if_pos hc]
    unfold tn at h
    split at h
    · rename_i as hargs
      split at h
      · rename_i as' j l htop
        split at h
        · rename_i n hn
          split at h
          · rename_i hjn
            cases h
            have hl : n = l := hp.1
            subst hl
            have hF := hp.2.1
            have htop' := nA htop hn
            simp only [kf, hargs, htop', hF, hjn, if_true]
          · cases h
        · cases h
      · cases h
    · cases h
  · rename_i hc
    rw [if_neg hc]
    exact pi h hp
def l4 (x : Option T) (d v : Nat) : Option Prop :=
  match x with
  | none => some (v = d)
  | some x => match x.int? with | some (_, i) => some (i = (v : Int)) | none => none
theorem fU {x : Option T} {d v top : Nat} {p : Prop} (h : l4 x d v = some p) (hp : p) (hv : v ≤ top) : jb x d top = some v := by
  unfold l4 at h
  unfold jb
  split at h
  · cases h; simp only; rw [hp]
  · split at h
    · rename_i hx
      cases h
      simp only [hx]
      rw [hp, if_pos (by omega)]
      simp
    · cases h
def wD (E : Env) (m : Mem) (nt : Nat) (o : Oper) (g : G) : Option (Eff × List Prop) :=
  match o.op with
  | .pick c a b => match (E.ev m c).bool?, g with
    | some q, .b v => some ({ dst := if v then E.ev m a else E.ev m b }, [q = v])
    | _, _ => none
  | .call { callee := .value f, args, argTypes } =>
    match g with
    | .call res ims =>
      match (E.ev m f).cell? with
      | some (.clo g []) => tB E m nt g [] argTypes.toList (gD E.P argTypes.toList (args.toList.map (E.ev m))) res ims
      | some (.c (.fn g caps)) => tB E m nt g caps argTypes.toList (gD E.P argTypes.toList (args.toList.map (E.ev m))) res ims
      | _ => none
    | _ => none
  | .indexAddr t x i =>
    match g, E.P.underlying t with
    | .at j, some (.array _ _) =>
      match (E.ev m i).int? with
      | some (k, iv) => (fq E.P t (E.ev m x) (.pure (.int k (j : Int)))).map fun r => ({ dst := r }, [iv = (j : Int)])
      | none => none
    | .idx j c, some (.slice e) =>
      if (E.P.info? e).isNone then none else
      match (E.ev m x).cell? with
      | some (.vsl _ _ _ _) => none
      | some v =>
        match v.sliceOf, (E.ev m i).int? with
        | some (sz, es), some (_, iv) => if sz = E.P.cellsOf e then some ({ dst := .k (.v (.c (.rptr c))) }, [iv = (j : Int), es[j]? = some c]) else none
        | _, _ => none
      | none => none
    | _, _ => none
  | .index t x i =>
    match g, E.P.underlying t, E.ev m x, (E.ev m i).int? with
    | .at j, some (.array _ _), x, some (k, iv) => (qg E.P t x (.pure (.int k (j : Int)))).map fun r => ({ dst := r }, [iv = (j : Int)])
    | .byte j b, some .string, .k (.v (.c (.raw (.string s)))), some (_, iv) => some ({ dst := .pure (.int .u8 b.toNat) }, [iv = (j : Int), s[j]? = some b])
    | _, _, _, _ => none
  | .lookup t x i ok =>
    match g, oV E.P t (E.ev m x) (E.ev m i) with
    | .look n b, some (q, key, qv, es) => some ({ dst := ol qv ok (n, b) }, [oz q key qv es = some (n, b)])
    | _, _ => none
  | .slice t x lo hi mx =>
    match g, mx, E.P.underlying t, (E.ev m x).cell? with
    | .cut l h _, none, some .string, some (.c (.raw (.string s))) =>
      match l4 (hi.map (E.ev m)) s.size h, l4 (lo.map (E.ev m)) 0 l with
      | some p, some q => some ({ dst := .pure (.string (s.extract l h)) }, [p, q, l ≤ h, h ≤ s.size])
      | _, _ => none
    | .cut l h fs, none, some (.slice e), some v =>
      match v.sliceOf with
      | some (sz, es) =>
        if sz = E.P.cellsOf e ∧ (E.P.info? e).isSome = true then
          match l4 (hi.map (E.ev m)) es.length h, l4 (lo.map (E.ev m)) 0 l with
          | some p, some q =>
            some ({ dst := match v, hi with
              | .own _ _ .exact, none => .k (.v (.own (E.P.cellsOf e) fs .exact))
              | _, _ => .k (.v (.c (.slice (E.P.cellsOf e) fs))) }, [p, q, l ≤ h, h ≤ es.length, (es.take h).drop l = fs])
          | _, _ => none
        else none
      | none => none
    | _, _, _, _ => none
  | .binOp op _ x y _ =>
    match g, (E.ev m x).raw?, (E.ev m y).raw? with
    | .ok, some (.int k a), some (.int k' b) =>
      match op with
      | .quo => if k = k' then some ({ dst := .pure (.int k (k.wrap (a.tdiv b))) }, [b ≠ 0]) else none
      | .rem => if k = k' then some ({ dst := .pure (.int k (a.tmod b)) }, [b ≠ 0]) else none
      | .shl => some ({ dst := .pure (.int k (k.wrap (a * 2 ^ (min b.toNat k.bits)))) }, [0 ≤ b])
      | .shr => some ({ dst := .pure (.int k (a.fdiv (2 ^ (min b.toNat k.bits)))) }, [0 ≤ b])
      | _ => none
    | .ok, some (.string a), some (.string b) =>
      match op with
      | .add => some ({ dst := .pure (.string (a ++ b)) }, [a.size + b.size ≤ 9223372036854775807])
      | _ => none
    | _, _, _ => none
  | .call { callee := .builtin .len, args, argTypes } =>
    match g, argTypes.toList, args.toList with
    | .len n, t :: _, [x] =>
      match E.P.underlying t, E.ev m x with
      | some (.slice _), .k (.v (.c (.slice _ es))) => some ({ dst := .pure (.int .i64 n) }, [es.length = n])
      | some (.slice _), .k (.v (.own _ es _)) => some ({ dst := .pure (.int .i64 n) }, [es.length = n])
      | _, _ => none
    | _, _, _ => none
  | .convert src dst x =>
    match g, zX E.P src dst (E.ev m x) with
    | .str ns, some es => some ({ dst := .pure (.string (cw ns)) }, [ji es = some ns])
    | _, _ => none
  | .call { callee := .builtin .append, args, argTypes } =>
    match g, argTypes.toList, args.toList.map (E.ev m) with
    | .app gs, [t, tx], [s, x] =>
      match E.P.underlying t, s.cell?, gA E.P tx x with
      | some (.slice e), some (.own sz es tk), some (sz', fs) =>
        match E.P.info? e with
        | some i =>
          if BZ E o = true then none else
          if 0 < i.size ∧ i.bytes ≤ 131072 ∧ i.zero.map (·.cells.size) = some i.size ∧ (sz = i.size ∨ es = []) ∧ (sz' = i.size ∨ fs = []) then
            match tk with
            | .exact => some ({ dst := .k (.v (.own i.size gs (.tok nt))), ut := [(nt, gs.length)] }, [es ++ fs = gs, gs.length ≤ BJ])
            | .tok j => match m.tok j with
              | some n => if sz = i.size then some ({ dst := .k (.v (.own sz gs (.tok j))), ut := [(j, gs.length)], rt := [j] }, [es ++ fs = gs, gs.length ≤ BJ, n = es.length]) else none
              | none => none
          else none
        | none => none
      | _, _, _ => none
    | _, _, _ => none
  | _ => none
def Bj (E : Env) (m : Mem) (nv : Nat) (o : Oper) (ys : List V) : Option (Eff × List Prop) :=
  match o.op with
  | .call { callee := .builtin .append, args, argTypes } =>
    match argTypes.toList, args.toList.map (E.ev m) with
    | [t, tx], [s, x] =>
      match E.P.underlying t, s.cell?, gA E.P tx x with
      | some (.slice e), some (.own _ [] .exact), some (sz', fs) =>
        match E.P.info? e with
        | some i =>
          if BZ E o = true ∧ 0 < i.size ∧ i.bytes ≤ 131072 ∧ i.zero.map (·.cells.size) = some i.size ∧ sz' = i.size then
            some ({ dst := .k (.v (.vsl nv 0 i.size fs.length)), nv := some ys }, [fs.flatten.map .c = ys, 0 < fs.length, fs.length ≤ BJ])
          else none
        | none => none
      | _, _, _ => none
    | _, _ => none
  | _ => none
def FJ (E : Env) (m : Mem) (o : Oper) (j : Nat) : Option (Eff × List Prop) :=
  match o.op with
  | .indexAddr t x i =>
    match E.P.underlying t, (E.ev m x).cell?, (E.ev m i).int? with
    | some (.slice e), some (.vsl id off sz n), some (_, iv) => if (E.P.info? e).isSome = true ∧ sz = E.P.cellsOf e then some ({ dst := .k (.v (.ptr id (off + j * sz))) }, [iv = (j : Int), j < n]) else none
    | _, _, _ => none
  | _ => none
def Gj (E : Env) (m : Mem) (o : Oper) (ys : List V) : Option (Eff × List Prop) :=
  match o.op with
  | .store t a x =>
    match (E.ev m a).cell?, (CD E.P t (E.ev m x)).k? with
    | some (.ptr id off), some k =>
      match m.var id with
      | some xs => if k.cells.length = E.P.cellsOf t ∧ (E.P.info? t).isSome = true then some ({ dst := .skip, uv := [(id, ys)], rv := [id] }, [off + k.cells.length ≤ xs.length, xs.take off ++ k.cells ++ xs.drop (off + k.cells.length) = ys]) else none
      | none => none
    | _, _ => none
  | _ => none
theorem rJ {E : Env} {m : Mem} {nv nt : Nat} {o : Oper} {ys : List V} {e : Eff} {ps : List Prop} (h : Bj E m nv o ys = some (e, ps)) (hp : gW ps) : au E m nv nt o = some e := by
  unfold Bj at h
  split at h
  · rename_i args argTypes ho
    split at h
    · rename_i t tx s x hty hargs
      split at h
      · rename_i e' sz sz' fs hu hc ha
        split at h
        · rename_i i hi
          split at h
          · rename_i hcond
            cases h
            obtain ⟨h1, h2, h3, _⟩ := hp
            subst h1
            simp only [au, ho]
            rw [if_pos hcond.1]
            simp only [ki, hty, hargs, hu, hc, ha, hi]
            rw [if_pos ⟨hcond.2.1, hcond.2.2.1, hcond.2.2.2.1, hcond.2.2.2.2, h2, h3⟩]
          · cases h
        · cases h
      · cases h
    · cases h
  · cases h
theorem vi {E : Env} {m : Mem} {nv nt : Nat} {o : Oper} {j : Nat} {e : Eff} {ps : List Prop} (h : FJ E m o j = some (e, ps)) (hp : gW ps) : au E m nv nt o = some e := by
  unfold FJ at h
  split at h
  · rename_i t x i ho
    split at h
    · rename_i e' id off sz n q iv hu hc hi
      split at h
      · rename_i hcond
        cases h
        obtain ⟨h1, h2, _⟩ := hp
        have hidx : j8 (E.ev m i) n = some j := by
          simp only [j8, hi]
          rw [h1, if_pos (by omega)]
          simp
        have hn : (E.P.info? e').isNone = false := by
          cases hq : E.P.info? e' with
          | none => simp [hq] at hcond
          | some _ => rfl
        simp only [au, ho, fq, hu, hc, hn, hidx, Bool.false_eq_true, if_false, if_pos hcond.2, Option.map_some]
      · cases h
    · cases h
  · cases h
theorem uA {E : Env} {m : Mem} {nv nt : Nat} {o : Oper} {ys : List V} {e : Eff} {ps : List Prop} (h : Gj E m o ys = some (e, ps)) (hp : gW ps) : au E m nv nt o = some e := by
  unfold Gj at h
  split at h
  · rename_i t x y ho
    split at h
    · rename_i id off k hc hk
      split at h
      · rename_i xs hv
        split at h
        · rename_i hcond
          cases h
          obtain ⟨h1, h2, _⟩ := hp
          subst h2
          simp only [au, ho, hc, hk, hv]
          rw [if_pos ⟨hcond.1, h1, hcond.2⟩]
        · cases h
      · cases h
    · cases h
  · cases h
def Bc (E : Env) (m : Mem) (nv nt : Nat) (o : Oper) (g : G) : Option (Eff × List Prop) :=
  match g with
  | .e x => some (x, [au E m nv nt o = some x])
  | .rowv ys => Bj E m nv o ys
  | .vat j => FJ E m o j
  | .sto ys => Gj E m o ys
  | _ => wD E m nt o g
theorem int?_raw {t : T} {q : IntKind} {n : Int} (h : t.int? = some (q, n)) : t.raw? = some (.int q n) := by
  unfold T.int? at h
  split at h
  · cases h; assumption
  · cases h
theorem uc {P : Program} {op : BinOp} {t : TypeId} {x y : T} {u v : Value} (hx : x.raw? = some u) (hy : y.raw? = some v) (hu : ∀ b, u ≠ .bool b) : Dg P op t x y = (lx op u v).map .pure := by
  rw [raw?_eq hx, raw?_eq hy]
  unfold Dg T.pure
  simp only
  split
  · rename_i p q; exact absurd rfl (hu p)
  · rfl
theorem rg {E : Env} {m : Mem} {nv nt : Nat} {o : Oper} {g : G} {e : Eff} {ps : List Prop} (h : wD E m nt o g = some (e, ps)) (hp : gW ps) : au E m nv nt o = some e := by
    unfold wD at h
    split at h
    · rename_i c a b ho
      split at h
      · rename_i v hq hqe
        cases h
        have := hp.1
        simp only [au, ho, hqe]
        rw [this]
      · cases h
    · rename_i f args argTypes ho
      split at h
      · split at h
        · rename_i g hc
          simp only [au, ho, hc]
          exact lr h hp
        · rename_i g caps hc
          simp only [au, ho, hc]
          exact lr h hp
        · cases h
      · cases h
    · rename_i t x i ho
      split at h
      · rename_i j n' e' hu
        split at h
        · rename_i k iv hi
          simp only [Option.map_eq_some_iff] at h
          obtain ⟨r, hr, h⟩ := h
          cases h
          have h1 := hp.1
          have hii : E.ev m i = .pure (.int k (j : Int)) := by rw [← h1]; exact raw?_eq (int?_raw hi)
          simp only [au, ho, hii, hr, Option.map_some]
        · cases h
      · rename_i j c e' hu
        split at h
        · cases h
        · rename_i hinfo
          split at h
          · cases h
          · rename_i v hne hv
            split at h
            · rename_i sz es k iv hs hi
              split at h
              · rename_i hsz
                cases h
                obtain ⟨h1, h2, _⟩ := hp
                have hj : j < es.length := (List.getElem?_eq_some_iff.1 h2).1
                have hidx : j8 (E.ev m i) es.length = some j := by
                  simp only [j8, hi]
                  rw [h1, if_pos (by omega)]
                  simp
                simp only [au, ho, fq, hu, hinfo, hv]
                cases v with
                | vsl _ _ _ _ => exact absurd rfl (hne _ _ _ _)
                | _ => simp_all [V.sliceOf]
              · cases h
            · cases h
          · cases h
      · cases h
    · rename_i t x i ho
      split at h
      · rename_i j n' e' k iv hu hi
        simp only [Option.map_eq_some_iff] at h
        obtain ⟨r, hr, h⟩ := h
        cases h
        have h1 := hp.1
        have hii : E.ev m i = .pure (.int k (j : Int)) := by rw [← h1]; exact raw?_eq (int?_raw hi)
        simp only [au, ho, hii, hr, Option.map_some]
      · rename_i j b s k iv hu hx hi
        cases h
        obtain ⟨h1, h2, _⟩ := hp
        have hj : j < s.size := by
          rcases Nat.lt_or_ge j s.size with h | h
          · exact h
          · rw [getElem?_neg s j (by omega)] at h2; cases h2
        have hidx : j8 (E.ev m i) s.size = some j := by
          simp only [j8, hi]
          rw [h1, if_pos (by omega)]
          simp
        simp only [au, ho, qg, hu, hx, hidx, h2, Option.map_some]
      · cases h
    · rename_i t x i ok ho
      split at h
      · rename_i n b q key qv es ha
        cases h
        have h1 := hp.1
        simp only [au, ho, px, ha, h1, Option.map_some]
      · cases h
    · rename_i t x lo hi mx ho
      split at h
      · rename_i l h' _ s hu hx
        split at h
        · rename_i p q hp1 hq1
          cases h
          obtain ⟨h1, h2, h3, h4, _⟩ := hp
          have e1 := fU (top := s.size) hp1 h1 h4
          have e2 := fU (top := h') hq1 h2 h3
          simp only [au, ho, qF, hu, hx, Option.map_none, e1, e2, Option.map_some]
        · cases h
      · rename_i l h' fs e' v hu hx
        split at h
        · rename_i sz es hs
          split at h
          · rename_i hsz
            split at h
            · rename_i p q hp1 hq1
              cases h
              obtain ⟨h1, h2, h3, h4, h5, _⟩ := hp
              subst h5
              have e1 := fU (top := es.length) hp1 h1 h4
              have e2 := fU (top := h') hq1 h2 h3
              simp only [au, ho, qF, hu, hx, hs, Option.map_none, e1, e2]
              rw [if_pos ⟨.inl hsz.1, hsz.2⟩]
              cases hi with
              | none =>
                have hh : h' = es.length := by
                  simp only [l4, Option.map_none, Option.some.injEq] at hp1
                  rw [← hp1] at h1
                  exact h1
                cases v with
                | own _ _ tk => cases tk with
                  | exact =>
                    simp only [V.sliceOf, Option.some.injEq, Prod.mk.injEq] at hs
                    obtain ⟨rfl, rfl⟩ := hs
                    simp only [hh, List.take_length, Option.map_none, Option.map_some]
                  | tok _ => rfl
                | _ => rfl
              | some _ => cases v with
                | own _ _ tk => cases tk <;> rfl
                | _ => rfl
            · cases h
          · cases h
        · cases h
      · cases h
    · rename_i op t x y sp ho
      split at h
      · rename_i k a k' b hx hy
        have hb := uc (P := E.P) (op := op) (t := t) hx hy (fun b h => by cases h)
        simp only [au, ho, hb, lx]
        split at h
        · split at h
          · rename_i hk; cases h; simp only [hk, if_true, nT, if_neg hp.1, Option.map_some]
          · cases h
        · split at h
          · rename_i hk; cases h; simp only [hk, if_true, nT, if_neg hp.1, Option.map_some]
          · cases h
        · cases h; have := hp.1; simp only [gB, if_neg (show ¬ b < 0 by omega), Option.map_some]
        · cases h; have := hp.1; simp only [gB, if_neg (show ¬ b < 0 by omega), Option.map_some]
        · cases h
      · rename_i a b hx hy
        have hb := uc (P := E.P) (op := op) (t := t) hx hy (fun b h => by cases h)
        simp only [au, ho, hb, lx]
        split at h
        · cases h; simp only [qG, if_pos hp.1, Option.map_some]
        · cases h
      · cases h
    · rename_i args argTypes ho
      split at h
      · rename_i n t ts x hty hxs
        split at h
        · rename_i sz es hu hx
          cases h
          have h1 := hp.1
          simp only [au, ho, hty, hxs, Ek, hu, hx, V.sliceOf, Option.map_some, h1]
        · rename_i sz es tk hu hx
          cases h
          have h1 := hp.1
          simp only [au, ho, hty, hxs, Ek, hu, hx, V.sliceOf, Option.map_some, h1]
        · cases h
      · cases h
    · rename_i src dst x ho
      split at h
      · rename_i ns es hes
        cases h
        have h1 := hp.1
        simp only [au, ho, zz, hes, h1, Option.map_some]
      · cases h
    · rename_i args argTypes ho
      split at h
      · rename_i gs t tx s x hty hxs
        split at h
        · rename_i e' sz es tk sz' fs hu hc ha
          split at h
          · rename_i i hi
            split at h
            · cases h
            rename_i hhit
            split at h
            · rename_i hcond
              simp only [au, ho]
              rw [if_neg hhit]
              simp only [ix, hty, hxs, hu, hc, ha, hi]
              split at h
              · cases h
                obtain ⟨h1, h2, _⟩ := hp
                subst h1
                rw [if_pos ⟨hcond.1, hcond.2.1, hcond.2.2.1, hcond.2.2.2.1, hcond.2.2.2.2, by rw [← List.length_append]; exact h2⟩]
              · rename_i j
                split at h
                · rename_i n hn
                  split at h
                  · rename_i hsz
                    cases h
                    obtain ⟨h1, h2, h3, _⟩ := hp
                    subst h1
                    rw [if_pos ⟨hcond.1, hcond.2.1, hcond.2.2.1, hcond.2.2.2.1, hcond.2.2.2.2, by rw [← List.length_append]; exact h2⟩]
                    simp only
                    rw [if_pos ⟨hsz, by rw [hn, h3]⟩]
                  · cases h
                · cases h
            · cases h
          · cases h
        · cases h
      · cases h
    · cases h
theorem r7 {E : Env} {m : Mem} {nv nt : Nat} {o : Oper} {g : G} {e : Eff} {ps : List Prop} (h : Bc E m nv nt o g = some (e, ps)) (hp : gW ps) : au E m nv nt o = some e := by
  unfold Bc at h
  split at h
  · cases h; exact hp.1
  · exact rJ h hp
  · exact vi h hp
  · exact uA h hp
  · exact rg h hp
end Go.Dm
namespace Go.Dm
open Go.RowKit
def C5 (E : Env) (m : Mem) (o : Oper) : Bool :=
  match o.op with
  | .pick _ _ _ => true
  | .call { callee := .value _, .. } => true
  | .call { callee := .builtin .append, .. } => true
  | .store t a _ => match a with | .tmp a => E.vs a (3 * t + 2) | _ => false
  | .indexAddr t x i =>
    match E.P.underlying t, (E.ev m x).cell? with
    | some (.slice _), some (.vsl _ _ _ _) => match o.dst with | some d => E.vs d (3 * t + 1) | none => false
    | some (.slice _), _ => true
    | some (.array _ _), _ => match i with | .const _ => false | _ => true
    | _, _ => false
  | .index t _ i => match E.P.underlying t with | some .string => true | some (.array _ _) => (match i with | .const _ => false | _ => true) | _ => false
  | .lookup _ _ _ _ => true
  | .call { callee := .builtin .len, args, argTypes } =>
    match argTypes.toList, args.toList with
    | t :: _, [x] => match E.P.underlying t, E.ev m x with
      | some (.slice _), .k (.v (.c (.slice _ _))) => true
      | some (.slice _), .k (.v (.own _ _ _)) => true
      | _, _ => false
    | _, _ => false
  | .convert src dst x => (zX E.P src dst (E.ev m x)).isSome
  | .slice t _ _ _ mx =>
    match mx, E.P.underlying t with
    | none, some .string => true
    | none, some (.slice _) => true
    | _, _ => false
  | .binOp op _ x _ _ =>
    match op with
    | .quo | .rem | .shl | .shr => true
    | .add => match (E.ev m x).raw? with | some (.string _) => true | _ => false
    | _ => false
  | _ => false
def gOp (E : Env) (m : Mem) (nv nt : Nat) (o : Oper) (gs : List G) : Option (Eff × List G × List Prop) :=
  match C5 E m o with
  | true => match gs with
    | g :: gs => match Bc E m nv nt o g with | some (e, ps) => some (e, gs, ps) | none => none
    | [] => none
  | false => match au E m nv nt o with | some e => some (e, gs, []) | none => none
theorem xg {E : Env} {m : Mem} {nv nt : Nat} {o : Oper} {gs gs' : List G} {e : Eff} {ps : List Prop} (h : gOp E m nv nt o gs = some (e, gs', ps)) (hp : gW ps) : au E m nv nt o = some e := by
  unfold gOp at h
  split at h
  · split at h
    · split at h
      · rename_i hg; cases h; exact r7 hg hp
      · cases h
    · cases h
  · split at h
    · rename_i he; cases h; exact he
    · cases h
def CH (E : Env) (ops : Array Oper) : List Oper → St → List G → Option (St × List Touch × List G × List Prop)
  | [], s, gs => some (s, [], gs, [])
  | o :: rest, s, gs =>
    match rH ops s.mem o gs with
    | none => none
    | some (q, gs, ps) =>
      match (match q with | true => gOp E s.mem s.vars.length s.toks.length o gs | false => some (kD, gs, [])) with
      | none => none
      | some (e, gs, qs) =>
        match s.apply o.dst e with
        | none => none
        | some s' =>
          match CH E ops rest s' gs with
          | none => none
          | some (s'', ts, gs, rs) => some (s'', Touch.of ops o s.vars.length e :: ts, gs, ps ++ (qs ++ rs))
theorem nP {E : Env} {ops : Array Oper} : ∀ {l : List Oper} {s s' : St} {ts : List Touch} {gs gs' : List G} {ps : List Prop}, CH E ops l s gs = some (s', ts, gs', ps) → gW ps → ej E ops l s = some (s', ts)
  | [], s, s', ts, gs, gs', ps, h, _ => by simp only [CH, Option.some.injEq, Prod.mk.injEq] at h; obtain ⟨rfl, rfl, _⟩ := h; rfl
  | o :: rest, s, s', ts, gs, gs', ps, h, hp => by
    simp only [CH] at h
    split at h
    · cases h
    · rename_i q gs1 ps1 hw
      split at h
      · cases h
      · rename_i e gs2 qs he
        split at h
        · cases h
        · rename_i s1 hs1
          split at h
          · cases h
          · rename_i s2 ts2 gs3 rs hrec
            simp only [Option.some.injEq, Prod.mk.injEq] at h
            obtain ⟨rfl, rfl, rfl, rfl⟩ := h
            rw [cJ, cJ] at hp
            simp only [ej, ot hw hp.1]
            have : (if q = true then au E s.mem s.vars.length s.toks.length o else some kD) = some e := by
              cases q with
              | true => exact xg he hp.2.1
              | false => simp only [Option.some.injEq, Prod.mk.injEq] at he; simp [he.1]
            simp only [this, hs1, nP hrec hp.2.2]
def sA (E : Env) (ops : Array Oper) (draw : Bool) (s : St) (gs : List G) : Option (St × List G × List Prop) :=
  match CH E ops ops.toList s gs with
  | none => none
  | some (s', ts, gs, ps) =>
    match !draw || (i9 (gV ops.toList []) ts 0 && mp ops.toList && E.P.follows .mixedOrders) with
    | true => some (s', gs, ps)
    | false => none
theorem oB {E : Env} {ops : Array Oper} {draw : Bool} {s s' : St} {gs gs' : List G} {ps : List Prop} (h : sA E ops draw s gs = some (s', gs', ps)) (hp : gW ps) : eo E ops draw s = some s' := by
  unfold sA at h
  split at h
  · cases h
  · rename_i hg
    split at h
    · rename_i hok
      simp only [Option.some.injEq, Prod.mk.injEq] at h
      obtain ⟨rfl, rfl, rfl⟩ := h
      unfold eo
      rw [nP hg hp]
      simp only
      rw [if_pos hok]
    · cases h
def yn (E : Env) (H : Nat → LoopHint) (n : Nat) (b : Code) (s : St) (e : Ext) (s' : St) : Prop := aG E H n (.loop b) s = some (e, s')
def br (E : Env) (H : Nat → LoopHint) (n : Nat) (b : Code) (s0 : St) (e : Ext) (s' : St) : Prop := ∀ s, s.head (H (aI b)) = s0 → yn E H n b s e s'
def xj (f : St → List G → Option (Ext × St × List G × List Prop)) (g : St → Option St) : Nat → St → List G → Option (Ext × St × List G × List Prop)
  | 0, _, _ => none
  | n + 1, s, gs =>
    match f s gs with
    | none => none
    | some (e, s', gs, ps) =>
      match e with
      | .normal =>
        match g s' with
        | some s'' => match xj f g n s'' gs with
          | some (e, s, gs, qs) => some (e, s, gs, ps ++ qs)
          | none => none
        | none => none
      | e => some (e, s', gs, ps)
def ff (E : Env) (H : Nat → LoopHint) (n : Nat) : Code → St → List G → Option (Ext × St × List G × List Prop)
  | .skip, s, gs => some (.normal, s, gs, [])
  | .region _ ops draw, s, gs => match sA E ops draw s gs with | some (s', gs, ps) => some (.normal, s', gs, ps) | none => none
  | .seq a b, s, gs =>
    match ff E H n a s gs with
    | none => none
    | some (e, s', gs, ps) =>
      match e with
      | .normal => match ff E H n b s' gs with
        | some (e, s, gs, qs) => some (e, s, gs, ps ++ qs)
        | none => none
      | e => some (e, s', gs, ps)
  | .cond c x y, s, gs =>
    match zi (E.ev s.mem c).bool? gs with
    | none => none
    | some (q, gs, ps) =>
      match (match q with | true => ff E H n x s gs | false => ff E H n y s gs) with
      | some (e, s, gs, qs) => some (e, s, gs, ps ++ qs)
      | none => none
  | .block id b, s, gs =>
    match ff E H n b s gs with
    | none => none
    | some (e, s', gs, ps) =>
      match e with
      | .exit i => if i = id then some (.normal, s', gs, ps) else some (.exit i, s', gs, ps)
      | e => some (e, s', gs, ps)
  | .loop b, s, gs =>
    match gs with
    | .loop e s' :: gs => some (e, s', gs, [br E H n b (s.head (H (aI b))) e s'])
    | .un :: gs =>
      xj (fun s gs => ff E H n b s gs) (fun s' => (s'.cut (s.head (H (aI b))).vars.length (s.head (H (aI b))).toks.length).map fun s => { s with tmps := bY s.tmps (H (aI b)).forget }) n (s.head (H (aI b))) gs
    | _ => none
  | .exit id, s, gs => some (.exit id, s, gs, [])
  | .ret, s, gs => some (.ret, s, gs, [])
  | _, _, _ => none
theorem mU {f : St → List G → Option (Ext × St × List G × List Prop)} {f' : St → Option (Ext × St)} {g : St → Option St} (hf : ∀ s gs e s' gs' ps, f s gs = some (e, s', gs', ps) → gW ps → f' s = some (e, s')) :
    ∀ (n : Nat) (s : St) (gs : List G) (e : Ext) (s' : St) (gs' : List G) (ps : List Prop), xj f g n s gs = some (e, s', gs', ps) → gW ps → oa f' g n s = some (e, s')
  | 0, s, gs, e, s', gs', ps, h, _ => by simp [xj] at h
  | n + 1, s, gs, e, s', gs', ps, h, hp => by
    simp only [xj] at h
    split at h
    · cases h
    · rename_i e1 s1 gs1 ps1 h1
      split at h
      · split at h
        · rename_i s2 hs2
          split at h
          · rename_i hrec
            simp only [Option.some.injEq, Prod.mk.injEq] at h
            obtain ⟨rfl, rfl, rfl, rfl⟩ := h
            rw [cJ] at hp
            simp only [oa, hf _ _ _ _ _ _ h1 hp.1, hs2]
            exact mU hf n _ _ _ _ _ _ hrec hp.2
          · cases h
        · cases h
      · rename_i hne
        simp only [Option.some.injEq, Prod.mk.injEq] at h
        obtain ⟨rfl, rfl, rfl, rfl⟩ := h
        simp only [oa, hf _ _ _ _ _ _ h1 hp]
        cases e1 with
        | normal => exact (hne rfl).elim
        | _ => rfl
theorem cc {E : Env} {H : Nat → LoopHint} {n : Nat} : ∀ (c : Code) (s : St) (gs : List G) (e : Ext) (s' : St) (gs' : List G) (ps : List Prop), ff E H n c s gs = some (e, s', gs', ps) → gW ps → aG E H n c s = some (e, s')
  | .skip, s, gs, e, s', gs', ps, h, _ => by
    simp only [ff, Option.some.injEq, Prod.mk.injEq] at h
    obtain ⟨rfl, rfl, _⟩ := h; rfl
  | .region _ ops draw, s, gs, e, s', gs', ps, h, hp => by
    simp only [ff] at h
    split at h
    · rename_i hr
      simp only [Option.some.injEq, Prod.mk.injEq] at h
      obtain ⟨rfl, rfl, rfl, rfl⟩ := h
      simp only [aG, oB hr hp]
    · cases h
  | .seq a b, s, gs, e, s', gs', ps, h, hp => by
    simp only [ff] at h
    split at h
    · cases h
    · rename_i e1 s1 gs1 ps1 h1
      split at h
      · split at h
        · rename_i h2
          simp only [Option.some.injEq, Prod.mk.injEq] at h
          obtain ⟨rfl, rfl, rfl, rfl⟩ := h
          rw [cJ] at hp
          simp only [aG, cc a _ _ _ _ _ _ h1 hp.1]
          exact cc b _ _ _ _ _ _ h2 hp.2
        · cases h
      · rename_i hne
        simp only [Option.some.injEq, Prod.mk.injEq] at h
        obtain ⟨rfl, rfl, rfl, rfl⟩ := h
        simp only [aG, cc a _ _ _ _ _ _ h1 hp]
        cases e1 with
        | normal => exact (hne rfl).elim
        | _ => rfl
  | .cond c x y, s, gs, e, s', gs', ps, h, hp => by
    simp only [ff] at h
    split at h
    · cases h
    · rename_i q gs1 ps1 hb
      split at h
      · rename_i h1
        simp only [Option.some.injEq, Prod.mk.injEq] at h
        obtain ⟨rfl, rfl, rfl, rfl⟩ := h
        rw [cJ] at hp
        simp only [aG, mc hb hp.1]
        cases q with
        | true => exact cc x _ _ _ _ _ _ h1 hp.2
        | false => exact cc y _ _ _ _ _ _ h1 hp.2
      · cases h
  | .block id b, s, gs, e, s', gs', ps, h, hp => by
    simp only [ff] at h
    split at h
    · cases h
    · rename_i e1 s1 gs1 ps1 h1
      split at h
      · rename_i i
        split at h
        · rename_i hi
          simp only [Option.some.injEq, Prod.mk.injEq] at h
          obtain ⟨rfl, rfl, rfl, rfl⟩ := h
          simp only [aG, cc b _ _ _ _ _ _ h1 hp, hi, if_true]
        · rename_i hi
          simp only [Option.some.injEq, Prod.mk.injEq] at h
          obtain ⟨rfl, rfl, rfl, rfl⟩ := h
          simp only [aG, cc b _ _ _ _ _ _ h1 hp, hi, if_false]
      · rename_i hne
        simp only [Option.some.injEq, Prod.mk.injEq] at h
        obtain ⟨rfl, rfl, rfl, rfl⟩ := h
        simp only [aG, cc b _ _ _ _ _ _ h1 hp]
        cases e1 with
        | exit i => exact (hne i rfl).elim
        | _ => rfl
  | .loop b, s, gs, e, s', gs', ps, h, hp => by
    simp only [ff] at h
    split at h
    · simp only [Option.some.injEq, Prod.mk.injEq] at h
      obtain ⟨rfl, rfl, rfl, rfl⟩ := h
      exact hp.1 _ rfl
    · simp only [aG]
      exact mU (fun s gs e s' gs' ps h hp => cc b s gs e s' gs' ps h hp) _ _ _ _ _ _ _ h hp
    · cases h
  | .exit id, s, gs, e, s', gs', ps, h, _ => by
    simp only [ff, Option.some.injEq, Prod.mk.injEq] at h
    obtain ⟨rfl, rfl, _⟩ := h; rfl
  | .ret, s, gs, e, s', gs', ps, h, _ => by
    simp only [ff, Option.some.injEq, Prod.mk.injEq] at h
    obtain ⟨rfl, rfl, _⟩ := h; rfl
  | .rangeFunc _ _ _ _, _, _, _, _, _, _, h, _ => by simp [ff] at h
  | .scope _, _, _, _, _, _, _, h, _ => by simp [ff] at h
  | .label _, _, _, _, _, _, _, h, _ => by simp [ff] at h
  | .goto _, _, _, _, _, _, _, h, _ => by simp [ff] at h
  | .refuse _, _, _, _, _, _, _, h, _ => by simp [ff] at h
def nQ (s : St) : List K → Option (List Res × List Prop)
  | [] => some ([], [])
  | .v (.own sz es (.tok i)) :: r =>
    match s.toks[i]?, nQ s r with
    | some n, some (rs, ps) => some (.top sz es :: rs, (n = es.length) :: ps)
    | _, _ => none
  | k :: r => match o9 s k, nQ s r with
    | some x, some (rs, ps) => some (x :: rs, ps)
    | _, _ => none
theorem ik {s : St} : ∀ {ks : List K} {rs : List Res} {ps : List Prop}, nQ s ks = some (rs, ps) → gW ps → ks.mapM (o9 s) = some rs
  | [], rs, ps, h, _ => by simp only [nQ, Option.some.injEq, Prod.mk.injEq] at h; obtain ⟨rfl, _⟩ := h; rfl
  | k :: ks, rs, ps, h, hp => by
    unfold nQ at h
    split at h
    · rename_i heq; cases heq
    · rename_i sz es i r heq
      cases heq
      split at h
      · rename_i n rs' ps' hn hr
        simp only [Option.some.injEq, Prod.mk.injEq] at h
        obtain ⟨rfl, rfl⟩ := h
        rw [List.mapM_cons, ik hr hp.2]
        have : s.toks[i]? = some es.length := by rw [hn, hp.1]
        simp [o9, this]
      · cases h
    · rename_i heq
      cases heq
      split at h
      · rename_i x rs' ps' hx hr
        simp only [Option.some.injEq, Prod.mk.injEq] at h
        obtain ⟨rfl, rfl⟩ := h
        rw [List.mapM_cons, ik hr hp, hx]
        rfl
      · cases h
def jf (s : St) (nl : Nat) : List V → List G → Option (List V × List G × List Prop)
  | [], gs => some ([], gs, [])
  | .vsl id off sz n :: r, gs =>
    match gs with
    | .rows es :: gs => if nl ≤ id then match jf s nl r gs with | some (vs, gs, ps) => some (.c (.slice sz es) :: vs, gs, ((xD s.mem id off).bind (iZ sz n) = some es) :: ps) | none => none else none
    | _ => none
  | x :: r, gs => match jf s nl r gs with | some (vs, gs, ps) => some (x :: vs, gs, ps) | none => none
def mL (s : St) (nl : Nat) : List K → List G → Option (List K × List G × List Prop)
  | [], gs => some ([], gs, [])
  | .v x :: r, gs => match jf s nl [x] gs with
    | some ([y], gs, ps) => match mL s nl r gs with | some (ks, gs, qs) => some (.v y :: ks, gs, ps ++ qs) | none => none
    | _ => none
  | .agg xs :: r, gs => match jf s nl xs gs with
    | some (ys, gs, ps) => match mL s nl r gs with | some (ks, gs, qs) => some (.agg ys :: ks, gs, ps ++ qs) | none => none
    | none => none
theorem fk {s : St} {nl : Nat} : ∀ {xs : List V} {gs gs' : List G} {ys : List V} {ps : List Prop}, jf s nl xs gs = some (ys, gs', ps) → gW ps → xs.map (V.still s nl) = ys
  | [], gs, gs', ys, ps, h, _ => by simp only [jf, Option.some.injEq, Prod.mk.injEq] at h; obtain ⟨rfl, _⟩ := h; rfl
  | x :: r, gs, gs', ys, ps, h, hp => by
    unfold jf at h
    split at h
    · rename_i heq; cases heq
    · rename_i id off sz n r' gs1 heq
      cases heq
      split at h
      · rename_i es gs2
        split at h
        · rename_i hle
          split at h
          · rename_i vs gs3 ps' hr
            simp only [Option.some.injEq, Prod.mk.injEq] at h
            obtain ⟨rfl, rfl, rfl⟩ := h
            rw [List.map_cons, fk hr hp.2]
            simp only [V.still, if_pos hle, hp.1]
          · cases h
        · cases h
      · cases h
    · rename_i x' r' gs1 hne heq
      cases heq
      split at h
      · rename_i vs gs3 ps' hr
        simp only [Option.some.injEq, Prod.mk.injEq] at h
        obtain ⟨rfl, rfl, rfl⟩ := h
        rw [List.map_cons, fk hr hp]
        cases x with
        | vsl id off sz n => exact absurd rfl (hne id off sz n)
        | _ => rfl
      · cases h
theorem ir {s : St} {nl : Nat} : ∀ {ks : List K} {gs gs' : List G} {ls : List K} {ps : List Prop}, mL s nl ks gs = some (ls, gs', ps) → gW ps → ks.map (K.still s nl) = ls
  | [], gs, gs', ls, ps, h, _ => by simp only [mL, Option.some.injEq, Prod.mk.injEq] at h; obtain ⟨rfl, _⟩ := h; rfl
  | .v x :: r, gs, gs', ls, ps, h, hp => by
    simp only [mL] at h
    split at h
    · rename_i y gs1 ps1 hx
      split at h
      · rename_i ks gs2 qs hr
        simp only [Option.some.injEq, Prod.mk.injEq] at h
        obtain ⟨rfl, rfl, rfl⟩ := h
        rw [cJ] at hp
        have h1 := fk hx hp.1
        simp only [List.map_cons, List.map_nil, List.cons.injEq, and_true] at h1
        rw [List.map_cons, ir hr hp.2]
        simp only [K.still, h1]
      · cases h
    · cases h
  | .agg xs :: r, gs, gs', ls, ps, h, hp => by
    simp only [mL] at h
    split at h
    · rename_i ys gs1 ps1 hx
      split at h
      · rename_i ks gs2 qs hr
        simp only [Option.some.injEq, Prod.mk.injEq] at h
        obtain ⟨rfl, rfl, rfl⟩ := h
        rw [cJ] at hp
        rw [List.map_cons, ir hr hp.2]
        simp only [K.still, fk hx hp.1]
      · cases h
    · cases h
def gFn (E : Env) (H : Nat → LoopHint) (n : Nat) (fn : Func) (as : List A) (ims : List (List C)) (gs : List G) : Option (List Res × List (List C) × List Prop) :=
  match fn.body with
  | none => none
  | some c =>
    match ff E H n c (m8 fn as ims) gs with
    | some (e, s, gs', ps) =>
      if (e = .normal ∨ e = .ret) ∧ ims.all (fun cs => !cs.isEmpty) = true ∧ (cS as).length ≤ 1 then
        match fn.results.toList.mapM (rl E.P s) with
        | some ks0 =>
          match mL s ims.length ks0 gs' with
          | some (ks, [], ts) =>
            match dv (gZ ks), nQ s ks, kM s ims.length 0 with
            | true, some (rs, qs), some r => if r.map List.length = ims.map List.length then some (rs, r, ps ++ (ts ++ qs)) else none
            | _, _, _ => none
          | _ => none
        | none => none
      else none
    | none => none
theorem wX {E : Env} {H : Nat → LoopHint} {n : Nat} {fn : Func} {as : List A} {ims : List (List C)} {gs : List G} {rs : List Res} {ims' : List (List C)} {ps : List Prop} (h : gFn E H n fn as ims gs = some (rs, ims', ps)) (hp : gW ps) : nM E H n fn as ims = some (rs, ims') := by
  unfold gFn at h
  unfold nM
  split at h
  · cases h
  · rename_i c hc
    simp only [hc]
    split at h
    · rename_i e s gs' ps1 hg
      split at h
      · rename_i hcond
        split at h
        · rename_i ks0 hks
          split at h
          · rename_i ks ts hst
            split at h
            · rename_i rs' qs r hd hr hl
              split at h
              · rename_i hlen
                simp only [Option.some.injEq, Prod.mk.injEq] at h
                obtain ⟨rfl, rfl, rfl⟩ := h
                rw [cJ, cJ] at hp
                rw [cc c _ _ _ _ _ _ hg hp.1]
                simp only
                rw [if_pos hcond]
                have : results? E.P s ims.length fn.results.toList = some rs' := by
                  unfold results?
                  simp only [hks, ir hst hp.2.1]
                  rw [if_pos hd, ik hr hp.2.2]
                simp only [this, hl]
                rw [if_pos hlen]
              · cases h
            · cases h
          · cases h
        · cases h
      · cases h
    · cases h
theorem BI {E : Env} {H : Nat → LoopHint} {n : Nat} {b : Code} {s : St} (S : Nat → St) (N : Nat) {e : Ext} {s' : St} (h0 : s.head (H (aI b)) = S 0) {nv nt : Nat}
    (hv : (S 0).vars.length = nv) (ht : (S 0).toks.length = nt)
    (step : ∀ i, i < N → ∃ s2, aG E H n b (S i) = some (.normal, s2) ∧ (s2.cut nv nt).map (fun s => { s with tmps := bY s.tmps (H (aI b)).forget }) = some (S (i + 1)))
    (last : aG E H n b (S N) = some (e, s')) (he : e ≠ .normal) (hn : N < n) : yn E H n b s e s' := by
  unfold yn
  simp only [aG, h0, hv, ht]
  have key : ∀ (k i m : Nat), i + k = N → k < m → oa (fun s => aG E H n b s) (fun s => (s.cut nv nt).map fun s => { s with tmps := bY s.tmps (H (aI b)).forget }) m (S i) = some (e, s') := by
    intro k
    induction k with
    | zero =>
      intro i m hi hm
      have : i = N := by omega
      subst this
      cases m with
      | zero => omega
      | succ m =>
        simp only [oa, last]
        cases e with
        | normal => exact absurd rfl he
        | _ => rfl
    | succ k ih =>
      intro i m hi hm
      cases m with
      | zero => omega
      | succ m =>
        obtain ⟨s2, h1, h2⟩ := step i (by omega)
        simp only [oa, h1, h2]
        exact ih (i + 1) m (by omega) (by omega)
  exact key N 0 n (by omega) hn
abbrev Tab := FuncId → Option (List A → List (List C) → Option (List Res × List (List C)))
structure TabOk (P : Program) (gl : Nat → Option (List C)) (X : Tab) : Prop where
  call : ∀ f h xs ims rs ims', X f = some h → h xs ims = some (rs, ims') → p8 P f ∧ uH P gl f xs ims rs ims'
theorem TabOk.nil (P : Program) (gl : Nat → Option (List C)) : TabOk P gl (fun _ => none) := ⟨fun f h xs ims rs ims' hx => by cases hx⟩
def Aw (H : FuncId → Nat → LoopHint) (g : FuncId) : Bool := (H g 1000000).forget == [0]
def As (H : FuncId → Nat → LoopHint) (d t : Nat) : Bool := (H 1000001 t).forget.contains d
def aj (P : Program) (gl : Nat → Option (List C)) (X : Tab) (H : FuncId → Nat → LoopHint) (n : Nat) : Nat → AX
  | 0 => fun _ _ _ => none
  | k + 1 => fun g xs ims => match X g with
    | some h => h xs ims
    | none => match P.funcs[g]? with
      | some fn => nM ⟨P, aj P gl X H n k, gl, Aw H, As H⟩ (H g) n fn xs ims
      | none => none
theorem wP {P : Program} {gl : Nat → Option (List C)} {X : Tab} {H : FuncId → Nat → LoopHint} {n : Nat} (hX : TabOk P gl X) (hno : ∀ (f : FuncId) fn, P.funcs[f]? = some fn → (fn.name == "runtime.NumGoroutine") = false) : ∀ k, EnvOk ⟨P, aj P gl X H n k, gl, Aw H, As H⟩
  | 0 => ⟨fun f xs ims rs ims' h => by simp [aj] at h⟩
  | k + 1 => ⟨fun f xs ims rs ims' h => by
    simp only [aj] at h
    split at h
    · rename_i hh hx
      exact hX.call f hh xs ims rs ims' hx h
    · split at h
      · rename_i fn hfn
        refine ⟨⟨fn, hfn, ?_, hno f fn hfn⟩, ?_⟩
        · unfold nM at h
          split at h
          · cases h
          · rename_i c hc; simp [hc]
        · exact zm (E := ⟨P, aj P gl X H n k, gl, Aw H, As H⟩) (wP hX hno k) hfn h
      · cases h⟩
theorem A4 {P : Program} {gl : Nat → Option (List C)} {X : Tab} {H : FuncId → Nat → LoopHint} {n k : Nat} {g : FuncId} {fn : Func} (hg : P.funcs[g]? = some fn) (hx : X g = none) {xs : List A} {ims : List (List C)} {gs : List G} {rs : List Res} {ims' : List (List C)} {ps : List Prop}
    (h : gFn ⟨P, aj P gl X H n k, gl, Aw H, As H⟩ (H g) n fn xs ims gs = some (rs, ims', ps)) (hp : gW ps) : aj P gl X H n (k + 1) g xs ims = some (rs, ims') := by
  simp only [aj, hg, hx]
  exact wX h hp
theorem sL {P : Program} {gl : Nat → Option (List C)} {X : Tab} {H : FuncId → Nat → LoopHint} {n k : Nat} {g : FuncId} {h : List A → List (List C) → Option (List Res × List (List C))} (hx : X g = some h) {xs : List A} {ims : List (List C)} : aj P gl X H n (k + 1) g xs ims = h xs ims := by
  simp only [aj, hx]
theorem AK {P : Program} {gl : Nat → Option (List C)} {X : Tab} {H : FuncId → Nat → LoopHint} {n k : Nat} {g : FuncId} {fn : Func} (hg : P.funcs[g]? = some fn) (hx : X g = none) {Q : Prop} (q : Q) {xs : List A} {ims : List (List C)} {gs : List G} {rs : List Res} {ims' : List (List C)}
    (h : (gFn ⟨P, aj P gl X H n k, gl, Aw H, As H⟩ (H g) n fn xs ims gs).map (fun r => (r.1, r.2.1, gW r.2.2)) = some (rs, ims', Q)) : aj P gl X H n (k + 1) g xs ims = some (rs, ims') := by
  rw [Option.map_eq_some_iff] at h
  obtain ⟨⟨rs0, im0, ps⟩, h1, h2⟩ := h
  simp only [Prod.mk.injEq] at h2
  obtain ⟨rfl, rfl, rfl⟩ := h2
  exact A4 hg hx h1 q
end Go.Dm
namespace Go.Dm
open Go.RowKit
def mS (r : Nat) : Code → Option Code
  | .loop b => if aI b = r then some b else mS r b
  | .seq a b => match mS r a with | some c => some c | none => mS r b
  | .cond _ a b => match mS r a with | some c => some c | none => mS r b
  | .block _ b => mS r b
  | _ => none
def LB (P : Program) (f r : Nat) : Code :=
  match P.funcs[f]? with
  | some fn => match fn.body with
    | some c => match mS r c with | some b => b | none => .skip
    | none => .skip
  | none => .skip
def bp (E : Env) (H : Nat → LoopHint) (n : Nat) (b : Code) (nv nt : Nat) (s s' : St) : Prop :=
  ∃ s2, aG E H n b s = some (.normal, s2) ∧ (s2.cut nv nt).map (fun s => { s with tmps := bY s.tmps (H (aI b)).forget }) = some s'
def cx (E : Env) (H : Nat → LoopHint) (n : Nat) (b : Code) (s : St) (e : Ext) (s' : St) : Prop := aG E H n b s = some (e, s') ∧ e ≠ .normal
def Af (E : Env) (H : Nat → LoopHint) (n : Nat) (b : Code) (nv nt : Nat) (s : St) (gs : List G) : Option (St × List Prop) :=
  match ff E H n b s gs with
  | some (.normal, s2, [], ps) => match s2.cut nv nt with
    | some s3 => some ({ s3 with tmps := bY s3.tmps (H (aI b)).forget }, ps)
    | none => none
  | _ => none
def EC (E : Env) (H : Nat → LoopHint) (n : Nat) (b : Code) (s : St) (gs : List G) : Option (Ext × St × List Prop) :=
  match ff E H n b s gs with
  | some (.normal, _, _, _) => none
  | some (e, s2, [], ps) => some (e, s2, ps)
  | _ => none
theorem Bf {E : Env} {H : Nat → LoopHint} {n : Nat} {b : Code} {nv nt : Nat} {s s' : St} {gs : List G} {ps : List Prop} (h : Af E H n b nv nt s gs = some (s', ps)) (hp : gW ps) : bp E H n b nv nt s s' := by
  unfold Af at h
  split at h
  · rename_i s2 ps2 hg
    split at h
    · rename_i s3 hc
      simp only [Option.some.injEq, Prod.mk.injEq] at h
      obtain ⟨rfl, rfl⟩ := h
      exact ⟨s2, cc b _ _ _ _ _ _ hg hp, by rw [hc]; rfl⟩
    · cases h
  · cases h
theorem Dy {E : Env} {H : Nat → LoopHint} {n : Nat} {b : Code} {s s' : St} {gs : List G} {e : Ext} {ps : List Prop} (h : EC E H n b s gs = some (e, s', ps)) (hp : gW ps) : cx E H n b s e s' := by
  unfold EC at h
  split at h
  · cases h
  · rename_i e2 s2 ps2 hne hg
    simp only [Option.some.injEq, Prod.mk.injEq] at h
    obtain ⟨rfl, rfl, rfl⟩ := h
    exact ⟨cc b _ _ _ _ _ _ hg hp, fun he => hne he⟩
  · cases h
theorem zS {E : Env} {H : Nat → LoopHint} {n : Nat} {b : Code} {nv nt : Nat} {s s' : St} {Q : Prop} (q : Q) {gs : List G} (h : (Af E H n b nv nt s gs).map (fun r => (r.1, gW r.2)) = some (s', Q)) : bp E H n b nv nt s s' := by
  rw [Option.map_eq_some_iff] at h
  obtain ⟨⟨s0, ps⟩, h1, h2⟩ := h
  simp only [Prod.mk.injEq] at h2
  obtain ⟨rfl, rfl⟩ := h2
  exact Bf h1 q
theorem BR {E : Env} {H : Nat → LoopHint} {n : Nat} {b : Code} {s s' : St} {e : Ext} {Q : Prop} (q : Q) {gs : List G} (h : (EC E H n b s gs).map (fun r => (r.1, r.2.1, gW r.2.2)) = some (e, s', Q)) : cx E H n b s e s' := by
  rw [Option.map_eq_some_iff] at h
  obtain ⟨⟨e0, s0, ps⟩, h1, h2⟩ := h
  simp only [Prod.mk.injEq] at h2
  obtain ⟨rfl, rfl, rfl⟩ := h2
  exact Dy h1 q
theorem f7 {E : Env} {H : Nat → LoopHint} {n : Nat} {b : Code} {s0 : St} (S : Nat → St) (N : Nat) {e : Ext} {s' : St} {nv nt : Nat} (h0 : s0 = S 0)
    (hv : (S 0).vars.length = nv) (ht : (S 0).toks.length = nt)
    (step : ∀ i, i < N → bp E H n b nv nt (S i) (S (i + 1))) (last : cx E H n b (S N) e s') (hn : N < n) : br E H n b s0 e s' :=
  fun _ hs => BI S N (hs.trans h0) hv ht step last.1 last.2 hn
def GE (k : IntKind) (x y : Int) : Int := k.wrap (BitVec.ofInt k.bits x ^^^ BitVec.ofInt k.bits y).toNat
theorem ct {α : Type} {b : Bool} {x y z : α} (h : b = true) (hx : x = z) : cond b x y = z := by rw [h]; exact hx
abbrev u (n : Int) : C := .raw (.int .u64 n)
abbrev ii (n : Int) : C := .raw (.int .i64 n)
abbrev w4 (n : Int) : C := .raw (.int .u32 n)
abbrev bo (b : Bool) : C := .raw (.bool b)
abbrev tc (x : C) : T := .k (.v (.c x))
theorem eu {x : Int} (h1 : -9223372036854775808 ≤ x) (h2 : x < 9223372036854775808) : IntKind.wrap .i64 x = x := by
  unfold IntKind.wrap
  simp [IntKind.signed, IntKind.bits]
  omega
theorem eL {E : Env} {H : Nat → LoopHint} {n : Nat} {b : Code} {s0 : St} {α σ : Type} (S : σ → Nat → St) (P : Nat → σ → Prop) (l : List α) (g : σ → α → σ) (a0 : σ) {nv nt : Nat} {e : Ext} {t : σ → St}
    (hs : s0 = S a0 0) (hv : (S a0 0).vars.length = nv) (ht : (S a0 0).toks.length = nt) (hP : P 0 a0)
    (step : ∀ a i x, l[i]? = some x → P i a → bp E H n b nv nt (S a i) (S (g a x) (i + 1)) ∧ P (i + 1) (g a x))
    (last : P l.length (l.foldl g a0) → cx E H n b (S (l.foldl g a0) l.length) e (t (l.foldl g a0))) (hn : l.length < n) : br E H n b s0 e (t (l.foldl g a0)) := by
  have hall : ∀ i, i ≤ l.length → P i ((l.take i).foldl g a0) := by
    intro i
    induction i with
    | zero => intro _; simpa using hP
    | succ i ih =>
      intro hi
      have hx : l[i]? = some l[i] := List.getElem?_eq_getElem (by omega)
      have := (step _ i _ hx (ih (by omega))).2
      rwa [List.take_add_one, hx, List.foldl_append]
  refine f7 (nv := nv) (nt := nt) (fun i => S ((l.take i).foldl g a0) i) l.length (by simpa using hs) (by simpa using hv) (by simpa using ht) (fun i hi => ?_) ?_ hn
  · have hx : l[i]? = some l[i] := List.getElem?_eq_getElem hi
    have := (step _ i _ hx (hall i (by omega))).1
    rw [List.take_add_one, hx, List.foldl_append]
    exact this
  · rw [List.take_length]
    exact last (by have := hall l.length (by omega); rwa [List.take_length] at this)
theorem lX {E : Env} {H : Nat → LoopHint} {n : Nat} {b : Code} {s0 : St} {α : Type} (S : Nat → St) (l : List α) (p : α → Bool) {nv nt : Nat} {e : Ext} {t : St}
    (hs : s0 = S 0) (hv : (S 0).vars.length = nv) (ht : (S 0).toks.length = nt)
    (step : ∀ i x, l[i]? = some x → p x = false → bp E H n b nv nt (S i) (S (i + 1)))
    (hit : ∀ x, l[l.findIdx p]? = some x → p x = true → cx E H n b (S (l.findIdx p)) e t) (hj : l.findIdx p < l.length) (hn : l.length < n) : br E H n b s0 e t := by
  refine f7 (nv := nv) (nt := nt) S (l.findIdx p) hs hv ht (fun i hi => ?_) ?_ (by omega)
  · have hx : l[i]? = some l[i] := List.getElem?_eq_getElem (by omega)
    exact step i _ hx (by have := List.not_of_lt_findIdx hi; simpa using this)
  · have hx : l[l.findIdx p]? = some l[l.findIdx p] := List.getElem?_eq_getElem hj
    exact hit _ hx (List.findIdx_getElem (w := hj))
theorem jA {E : Env} {H : Nat → LoopHint} {n : Nat} {b : Code} {s0 : St} {α : Type} (S : Nat → St) (l : List α) (p : α → Bool) {nv nt : Nat} {e : Ext} {t : St}
    (hs : s0 = S 0) (hv : (S 0).vars.length = nv) (ht : (S 0).toks.length = nt)
    (step : ∀ i x, l[i]? = some x → p x = false → bp E H n b nv nt (S i) (S (i + 1)))
    (miss : cx E H n b (S l.length) e t) (hj : l.all (fun x => !p x) = true) (hn : l.length < n) : br E H n b s0 e t := by
  refine f7 (nv := nv) (nt := nt) S l.length hs hv ht (fun i hi => ?_) miss hn
  have hx : l[i]? = some l[i] := List.getElem?_eq_getElem hi
  refine step i _ hx ?_
  have := List.all_eq_true.1 hj l[i] (List.getElem_mem hi)
  simpa using this
theorem ce {α : Type} {l : List α} {p : α → Bool} (h : l.any p = true) : l.findIdx p < l.length := by
  rw [List.findIdx_lt_length]
  simpa using h
theorem gg {α : Type} {l : List α} {p : α → Bool} (h : l.any p = false) : l.all (fun x => !p x) = true := by
  rw [List.all_eq_true]
  intro x hx
  rw [List.any_eq_false] at h
  have := h x hx
  simpa using this
theorem w64 {i n : Nat} (h : i < n) (hn : n < 9223372036854775808) : IntKind.wrap .i64 ((i : Int) + 1) = ((i + 1 : Nat) : Int) := by rw [eu (by omega) (by omega)]; simp
abbrev st (s : ByteArray) : C := .raw (.string s)
abbrev by8 (n : Int) : C := .raw (.int .u8 n)
def Wy (_ : List G) (Q : Prop) : Prop := Q
theorem e0 : Wy [] True := trivial
theorem ep {gs : List G} {p Q : Prop} (h : p) (r : Wy gs Q) : Wy gs (p ∧ Q) := ⟨h, r⟩
theorem eg (g : G) {gs : List G} {Q : Prop} (r : Wy gs Q) : Wy (g :: gs) Q := r
theorem eb {b c : Bool} {gs : List G} {Q : Prop} (h : b = c) (r : Wy gs Q) : Wy (.b c :: gs) (b = c ∧ Q) := ⟨h, r⟩
theorem en {b c : Bool} {gs : List G} {Q : Prop} (h : b = c) (r : Wy gs Q) : Wy (.b (not c) :: gs) (not b = not c ∧ Q) := ⟨congrArg not h, r⟩
theorem et {gs : List G} {Q : Prop} (r : Wy gs Q) : Wy (.b true :: gs) (true = true ∧ Q) := ⟨rfl, r⟩
theorem ef {gs : List G} {Q : Prop} (r : Wy gs Q) : Wy (.b false :: gs) (false = false ∧ Q) := ⟨rfl, r⟩
theorem eq1 (n : Nat) {gs : List G} {Q : Prop} (r : Wy gs Q) : Wy gs (n = n ∧ Q) := ⟨rfl, r⟩
theorem ec {P : Program} {gl : Nat → Option (List C)} {X : Tab} {H : FuncId → Nat → LoopHint} {n k : Nat} {g : FuncId} {xs : List A} {ims ims' : List (List C)} {rs : List Res} {gs : List G} {Q : Prop} (h : aj P gl X H n k g xs ims = some (rs, ims')) (r : Wy gs Q) : Wy (.call rs ims' :: gs) (aj P gl X H n k g xs ims = some (rs, ims') ∧ Q) := ⟨h, r⟩
theorem ro {P : Program} {gl : Nat → Option (List C)} {X : Tab} {H : FuncId → Nat → LoopHint} {n k : Nat} {g : FuncId} {fn : Func} {Q : Prop} {xs : List A} {ims ims' : List (List C)} {gs : List G} {rs : List Res} (q : Wy gs Q) (hg : P.funcs[g]? = some fn := by rfl) (hx : X g = none := by rfl)
    (h : (gFn ⟨P, aj P gl X H n k, gl, Aw H, As H⟩ (H g) n fn xs ims gs).map (fun r => (r.1, r.2.1, gW r.2.2)) = some (rs, ims', Q) := by kernel_rfl) : aj P gl X H n (k + 1) g xs ims = some (rs, ims') := AK hg hx q h
theorem rt {P : Program} {gl : Nat → Option (List C)} {X : Tab} {H : FuncId → Nat → LoopHint} {n k : Nat} {g : FuncId} {fn : Func} {Q : Prop} {xs : List A} {gs : List G} {rs : List Res} {r : Option (List Res × List (List C))} (q : Wy gs Q) (e : some (rs, ([] : List (List C))) = r) (hg : P.funcs[g]? = some fn := by rfl) (hx : X g = none := by rfl)
    (h : (gFn ⟨P, aj P gl X H n k, gl, Aw H, As H⟩ (H g) n fn xs [] gs).map (fun r => (r.1, r.2.1, gW r.2.2)) = some (rs, [], Q) := by kernel_rfl) : aj P gl X H n (k + 1) g xs [] = r := (AK hg hx q h).trans e
theorem nx {E : Env} {H : Nat → LoopHint} {n : Nat} {b : Code} {nv nt : Nat} {s s' : St} {Q : Prop} {gs : List G} (q : Wy gs Q) (h : (Af E H n b nv nt s gs).map (fun r => (r.1, gW r.2)) = some (s', Q) := by kernel_rfl) : bp E H n b nv nt s s' := zS q h
theorem ou {E : Env} {H : Nat → LoopHint} {n : Nat} {b : Code} {s s' : St} {e : Ext} {Q : Prop} {gs : List G} (q : Wy gs Q) (h : (EC E H n b s gs).map (fun r => (r.1, r.2.1, gW r.2.2)) = some (e, s', Q) := by kernel_rfl) : cx E H n b s e s' := BR q h
theorem aB {α : Type} {f : α → List C} {l : List α} {i : Nat} {x : α} (h : l[i]? = some x) : (l.map f)[i]? = some (f x) := by rw [List.getElem?_map, h]; rfl
theorem av {α : Type} (f : α → List C) (l : List α) : (l.map f).length = l.length := List.length_map f
theorem bD {α : Type} (f : α → List C) (l r : List α) : l.map f ++ r.map f = (l ++ r).map f := List.map_append.symm
theorem bQ (l : List (List C)) : [] ++ l = l := rfl
theorem mj {α : Type} (f : α → List C) (l : List α) (a : Nat) : ((l.map f).take l.length).drop a = (l.drop a).map f := by
  rw [← List.map_take, ← List.map_drop, List.take_length]
theorem Gf (x : Int) : (x == x) = true := beq_self_eq_true x
abbrev eS (s : ByteArray) : List C := [st s]
abbrev eU (n : Int) : List C := [u n]
abbrev eI (n : Int) : List C := [ii n]
abbrev eB (b : Bool) : List C := [bo b]
abbrev vz (l : List ByteArray) : List (List C) := l.map eS
theorem aP {α : Type} (f : α → List C) {l : List α} {n : Nat} (h : l.length ≤ n) : (l.map f).length ≤ n := by rw [List.length_map]; exact h
theorem oL {α : Type} {f : α → List C} {g : α → C} (h : ∀ x, f x = [g x]) (l : List α) : (l.map f).flatten.map V.c = l.map fun x => V.c (g x) := by
  induction l with
  | nil => rfl
  | cons x l ih => simp only [List.map_cons, List.flatten_cons, List.map_append, h, ih]; rfl
theorem oC {α : Type} (f : α → List C) {l : List α} (h : 0 < l.length) : 0 < (l.map f).length := by rw [List.length_map]; exact h
theorem Dq {α : Type} (f : α → List C) {l : List α} {j : Nat} (h : j < l.length) : j < (l.map f).length := by rw [List.length_map]; exact h
theorem DB {α : Type} (g : α → V) (l : List α) (j : Nat) (v : V) (h : j < l.length) : 0 + j * 1 + [v].length ≤ (l.map g).length := by
  simp only [List.length_map, List.length_cons, List.length_nil]; omega
theorem BA {α : Type} (g : α → V) (l : List α) (j : Nat) (y : α) (h : j < l.length) : (l.map g).take (0 + j * 1) ++ [g y] ++ (l.map g).drop (0 + j * 1 + [g y].length) = (l.set j y).map g := by
  have e : 0 + j * 1 = j := by omega
  rw [e, List.set_eq_take_append_cons_drop, if_pos h]
  simp
theorem tf {α : Type} (g : α → C) : ∀ (l : List α), (l.map fun x => V.c (g x)).mapM V.toC = some (l.map g)
  | [] => rfl
  | x :: l => by rw [List.map_cons, List.mapM_cons, tf g l]; rfl
theorem nm {α : Type} (g : α → C) : ∀ (l : List α), iZ 1 l.length (l.map g) = some (l.map fun x => [g x])
  | [] => rfl
  | x :: l => by
    simp only [List.length_cons, List.map_cons, iZ]
    rw [if_pos (by omega)]
    simp only [List.drop_succ_cons, List.drop_zero, nm g l, Option.map_some]
    rfl
theorem jB {α : Type} (g : α → C) (l : List α) {n : Nat} (h : n = l.length) : (((l.map fun x => V.c (g x)).drop 0).mapM V.toC).bind (iZ 1 n) = some (l.map fun x => [g x]) := by
  subst h
  rw [List.drop_zero, tf, Option.bind_some, nm]
theorem xY {α : Type} (g : α → C) (l : List α) (n : Nat) : (l.map fun x => V.c (g x)).all (V.old n) = true := by
  simp [V.old]
theorem pY {α : Type} (g : α → C) (l : List α) (k : Nat) : (l.map fun x => V.c (g x)).map (V.untok k) = l.map fun x => V.c (g x) := by
  simp [V.untok]
def vC (rows : List Nat) (n k : Nat) : Nat → List (List V) → Option (List (List V) × List Prop)
  | _, [] => some ([], [])
  | i, xs :: r => match vC rows n k (i + 1) r with
    | some (ys, ps) => if rows.contains i then some (xs :: ys, (xs.all (V.old n) = true) :: (xs.map (V.untok k) = xs) :: ps) else if xs.all (V.old n) then some (xs.map (V.untok k) :: ys, ps) else none
    | none => none
theorem je {rows : List Nat} {n k : Nat} : ∀ {i : Nat} {xs ys : List (List V)} {ps : List Prop}, vC rows n k i xs = some (ys, ps) → gW ps → xs.all (fun x => x.all (V.old n)) = true ∧ xs.map (fun x => x.map (V.untok k)) = ys
  | _, [], ys, ps, h, _ => by simp only [vC, Option.some.injEq, Prod.mk.injEq] at h; obtain ⟨rfl, _⟩ := h; exact ⟨rfl, rfl⟩
  | i, x :: xs, ys, ps, h, hp => by
    simp only [vC] at h
    split at h
    · rename_i zs qs hr
      split at h
      · simp only [Option.some.injEq, Prod.mk.injEq] at h
        obtain ⟨rfl, rfl⟩ := h
        obtain ⟨h1, h2, h3⟩ := hp
        obtain ⟨g1, g2⟩ := je hr h3
        exact ⟨by simp only [List.all_cons, h1, g1, Bool.and_self], by rw [List.map_cons, g2, h2]⟩
      · split at h
        · rename_i h1
          simp only [Option.some.injEq, Prod.mk.injEq] at h
          obtain ⟨rfl, rfl⟩ := h
          obtain ⟨g1, g2⟩ := je hr hp
          exact ⟨by simp only [List.all_cons, h1, g1, Bool.and_self], by rw [List.map_cons, g2]⟩
        · cases h
    · cases h
def wb (rows : List Nat) (E : Env) (H : Nat → LoopHint) (n : Nat) (b : Code) (nv nt : Nat) (s : St) (gs : List G) : Option (St × List Prop) :=
  match ff E H n b s gs with
  | some (.normal, s2, [], ps) => match vC rows nv nt 0 (s2.vars.take nv) with
    | some (vs, qs) => some (⟨bY (s2.tmps.map (T.cut nv nt)) (H (aI b)).forget, vs, s2.toks.take nt⟩, ps ++ qs)
    | none => none
  | _ => none
theorem wZ {E : Env} {H : Nat → LoopHint} {n : Nat} {b : Code} {nv nt : Nat} {s s' : St} {Q : Prop} (rows : List Nat) (q : Q) {gs : List G} (h : (wb rows E H n b nv nt s gs).map (fun r => (r.1, gW r.2)) = some (s', Q)) : bp E H n b nv nt s s' := by
  rw [Option.map_eq_some_iff] at h
  obtain ⟨⟨s0, ps⟩, h1, h2⟩ := h
  simp only [Prod.mk.injEq] at h2
  obtain ⟨rfl, rfl⟩ := h2
  unfold wb at h1
  split at h1
  · rename_i s2 ps2 hg
    split at h1
    · rename_i vs qs hv
      simp only [Option.some.injEq, Prod.mk.injEq] at h1
      obtain ⟨rfl, rfl⟩ := h1
      rw [cJ] at q
      obtain ⟨g1, g2⟩ := je hv q.2
      refine ⟨s2, cc b _ _ _ _ _ _ hg q.1, ?_⟩
      simp only [St.cut, g1, g2, if_true, Option.map_some]
    · cases h1
  · cases h1
theorem nx2 {E : Env} {H : Nat → LoopHint} {n : Nat} {b : Code} {nv nt : Nat} {s s' : St} {Q : Prop} (rows : List Nat) {gs : List G} (q : Wy gs Q) (h : (wb rows E H n b nv nt s gs).map (fun r => (r.1, gW r.2)) = some (s', Q) := by kernel_rfl) : bp E H n b nv nt s s' := wZ rows q h
theorem tC {E : Nat → Env} {H : Nat → LoopHint} {n : Nat} {b : Code} {α : Type} (S : Nat → St) (l : List α) (p : α → Bool) (R : Nat → α → St) (D : St) {nv nt : Nat} {e e' : Ext}
    (hv : (S 0).vars.length = nv) (ht : (S 0).toks.length = nt)
    (step : ∀ k i x, l[i]? = some x → p x = false → bp (E k) H n b nv nt (S i) (S (i + 1)))
    (hit : ∀ k i x, l[i]? = some x → p x = true → cx (E k) H n b (S i) e (R i x))
    (done : ∀ k, cx (E k) H n b (S l.length) e' D) (hn : l.length < n) :
    (l.any p = false ∧ ∀ k, br (E k) H n b (S 0) e' D) ∨ (l.any p = true ∧ ∃ i x, l[i]? = some x ∧ p x = true ∧ l.find? p = some x ∧ (∀ j y, j < i → l[j]? = some y → p y = false) ∧ ∀ k, br (E k) H n b (S 0) e (R i x)) := by
  cases hb : l.any p with
  | false => exact .inl ⟨rfl, fun k => jA S l p rfl hv ht (step k) (done k) (gg hb) hn⟩
  | true =>
    have hj := ce hb
    have hx : l[l.findIdx p]? = some l[l.findIdx p] := List.getElem?_eq_getElem hj
    have hp : p l[l.findIdx p] = true := List.findIdx_getElem (w := hj)
    refine .inr ⟨rfl, _, _, hx, hp, by rw [List.find?_eq_getElem?_findIdx, hx], fun j y hlt hy => ?_, fun k => lX S l p rfl hv ht (step k) (fun x hy hq => ?_) hj hn⟩
    · have := List.not_of_lt_findIdx hlt
      obtain ⟨hj2, rfl⟩ := List.getElem?_eq_some_iff.1 hy
      simpa using this
    · rw [hx] at hy; cases hy
      exact hit k _ _ hx hq
theorem CM {E : Nat → Env} {H : Nat → LoopHint} {n : Nat} {b : Code} {α σ : Type} (S : σ → Nat → St) (P : Nat → σ → Prop) (l : List α) (g : σ → α → σ) (a0 : σ) {nv nt : Nat} {e : Ext} (t : σ → St)
    (hv : (S a0 0).vars.length = nv) (ht : (S a0 0).toks.length = nt) (hP : P 0 a0)
    (stepP : ∀ a i x, l[i]? = some x → P i a → P (i + 1) (g a x))
    (step : ∀ k a i x, l[i]? = some x → P i a → bp (E k) H n b nv nt (S a i) (S (g a x) (i + 1)))
    (last : ∀ k, P l.length (l.foldl g a0) → cx (E k) H n b (S (l.foldl g a0) l.length) e (t (l.foldl g a0))) (hn : l.length < n) : P l.length (l.foldl g a0) ∧ ∀ k, br (E k) H n b (S a0 0) e (t (l.foldl g a0)) := by
  have hall : ∀ i, i ≤ l.length → P i ((l.take i).foldl g a0) := by
    intro i
    induction i with
    | zero => intro _; simpa using hP
    | succ i ih =>
      intro hi
      have hx : l[i]? = some l[i] := List.getElem?_eq_getElem (by omega)
      have := stepP _ i _ hx (ih (by omega))
      rwa [List.take_add_one, hx, List.foldl_append]
  refine ⟨by have := hall l.length (Nat.le_refl _); rwa [List.take_length] at this, fun k => eL S P l g a0 rfl hv ht hP (fun a i x hx hp => ⟨step k a i x hx hp, stepP a i x hx hp⟩) (last k) hn⟩
theorem B5 {α β : Type} {a : List α} {b : List β} {i : Nat} {p : α × β} (h : (a.zip b)[i]? = some p) : a[i]? = some p.1 ∧ b[i]? = some p.2 := by
  rw [List.getElem?_zip_eq_some] at h
  exact h
theorem dJ {α : Type} {l : List α} {i : Nat} {x : α} (h : l[i]? = some x) : i < l.length := (List.getElem?_eq_some_iff.1 h).1
theorem dlt {α : Type} {l : List α} {i : Nat} {x : α} (h : l[i]? = some x) : decide ((i : Int) < (l.length : Int)) = true := decide_eq_true (by have := dJ h; omega)
theorem dge {n : Nat} : decide ((n : Int) < (n : Int)) = false := decide_eq_false (by omega)
theorem sj {α : Type} {l : List α} {i : Nat} {x : α} (h : l[i]? = some x) (hn : l.length ≤ 1000000000) : IntKind.wrap .i64 ((i : Int) + 1) = ((i + 1 : Nat) : Int) := w64 (n := l.length) (dJ h) (by omega)
theorem p6 (a b : ByteArray) : (a == b) = (a.data == b.data) := by cases a; cases b; rfl
instance : LawfulBEq ByteArray where
  rfl {a} := by rw [p6]; exact beq_self_eq_true _
  eq_of_beq {a b} h := by
    rw [p6] at h
    have := eq_of_beq h
    cases a; cases b; simp at this; subst this; rfl
def hs : Nat → List T → List T
  | 0, r => r
  | n + 1, r => .hole :: hs n r
def ks : Nat → List T → List T
  | 0, r => r
  | n + 1, r => .skip :: ks n r
end Go.Dm
namespace Go.Dm
open Go.RowKit Go.ChangeShapes Go.WideShapes
def Typ (P : Program) : Nat → TypeId → List C → Prop
  | 0, _, _ => False
  | f + 1, t, xs =>
    match P.underlying t with
    | some .bool => ∃ b, xs = [.raw (.bool b)]
    | some (.int k) => ∃ n, xs = [.raw (.int k n)] ∧ (Lit.int k n).wf = true
    | some .string => ∃ s : ByteArray, xs = [.raw (.string s)] ∧ s.size ≤ maxLen
    | some (.slice e) => ∃ es, xs = [.slice (P.cellsOf e) es] ∧ es.length ≤ maxLen ∧ ∀ x ∈ es, Typ P f e x
    | some (.array n e) => ∃ es : List (List C), xs = es.flatten ∧ es.length = n ∧ ∀ x ∈ es, Typ P f e x
    | some (.struct fs) => ∃ ps : List (List C), xs = ps.flatten ∧ bf (fun g x => Typ P f g.type x) fs.toList ps
    | _ => False
def m9 (P : Program) : List Field → Nat → Option Nat
  | [], o => some o
  | f :: fs, o => if f.offset = o then m9 P fs (o + P.cellsOf f.type) else none
def fG (P : Program) : Nat → TypeId → Bool
  | 0, _ => false
  | f + 1, t =>
    match P.underlying t with
    | some .bool | some (.int _) | some .string => true
    | some (.slice e) => decide (0 < P.cellsOf e) && fG P f e
    | some (.array n e) => decide (P.cellsOf t = n * P.cellsOf e) && fG P f e
    | some (.struct fs) => decide (m9 P fs.toList 0 = some (P.cellsOf t)) && fs.toList.all (fun g => fG P f g.type)
    | _ => false
section
variable {H : Type} {enc : TypeId × Value → H} {P : Program} {w : World} {base : Nat} {held : Bool}
def uU (w : World) : Nat → Nat → Prop := fun b _ => b < w.heap.size
theorem tK {R : List C → Prop} {sz : Nat} : ∀ {n : Nat} {cs : List Value}, cs.length = n * sz → (∀ i, i < n → ∃ ys, R ys ∧ bf (C.rep (uU w) w) ys ((cs.drop (i * sz)).take sz)) →
    ∃ es : List (List C), es.length = n ∧ (∀ x ∈ es, R x) ∧ bf (C.rep (uU w) w) es.flatten cs
  | 0, cs, hl, _ => by
    have : cs = [] := List.eq_nil_of_length_eq_zero (by simpa using hl)
    subst this
    exact ⟨[], rfl, by simp, trivial⟩
  | n + 1, cs, hl, h => by
    obtain ⟨ys, hy, hr⟩ := h 0 (by omega)
    rw [Nat.zero_mul, List.drop_zero] at hr
    obtain ⟨es, h1, h2, h3⟩ := tK (n := n) (sz := sz) (cs := cs.drop sz) (by rw [List.length_drop, hl, Nat.succ_mul]; omega) (fun i hi => by
      obtain ⟨ys, hy, hr⟩ := h (i + 1) (by omega)
      refine ⟨ys, hy, ?_⟩
      rw [List.drop_drop]
      rwa [show sz + i * sz = (i + 1) * sz by rw [Nat.succ_mul]; omega])
    refine ⟨ys :: es, by simp [h1], ?_, ?_⟩
    · intro x hx
      rcases List.mem_cons.1 hx with rfl | hx
      · exact hy
      · exact h2 x hx
    · rw [List.flatten_cons]
      have := hr.append h3
      rwa [List.take_append_drop] at this
theorem nV {R : Field → List C → Prop} : ∀ {fs : List Field} {o m : Nat} {cs : List Value}, m9 P fs o = some m → o + cs.length = m → (∀ f ∈ fs, ∃ ys, R f ys ∧ bf (C.rep (uU w) w) ys ((cs.drop (f.offset - o)).take (P.cellsOf f.type))) → (∀ f ∈ fs, o ≤ f.offset) →
    ∃ ps : List (List C), bf R fs ps ∧ bf (C.rep (uU w) w) ps.flatten cs
  | [], o, m, cs, hm, hl, _, _ => by
    simp only [m9, Option.some.injEq] at hm
    have : cs = [] := List.eq_nil_of_length_eq_zero (by omega)
    subst this
    exact ⟨[], trivial, trivial⟩
  | f :: fs, o, m, cs, hm, hl, h, ho => by
    simp only [m9] at hm
    split at hm
    · rename_i hf
      obtain ⟨ys, hy, hr⟩ := h f (by simp)
      rw [hf, Nat.sub_self, List.drop_zero] at hr
      have hge : ∀ {gs : List Field} {a b : Nat}, m9 P gs a = some b → a ≤ b := by
        intro gs
        induction gs with
        | nil => intro a b h; simp only [m9, Option.some.injEq] at h; omega
        | cons g gs ih => intro a b h; simp only [m9] at h; split at h
                          · have := ih h; omega
                          · cases h
      have hall : ∀ {gs : List Field} {a b : Nat}, m9 P gs a = some b → ∀ g ∈ gs, a ≤ g.offset := by
        intro gs
        induction gs with
        | nil => intro a b h g hg; simp at hg
        | cons g gs ih =>
          intro a b h g' hg'
          simp only [m9] at h
          split at h
          · rename_i hga
            rcases List.mem_cons.1 hg' with rfl | hg'
            · omega
            · have := ih h g' hg'; omega
          · cases h
      have hle := hge hm
      obtain ⟨ps, h1, h2⟩ := nV (R := R) (cs := cs.drop (P.cellsOf f.type)) hm (by rw [List.length_drop]; omega) (fun g hg => by
        obtain ⟨ys, hy, hr⟩ := h g (by simp [hg])
        refine ⟨ys, hy, ?_⟩
        have := hall hm g hg
        rw [List.drop_drop]
        rwa [show P.cellsOf f.type + (g.offset - (o + P.cellsOf f.type)) = g.offset - o by omega]) (hall hm)
      refine ⟨ys :: ps, ⟨hy, h1⟩, ?_⟩
      rw [List.flatten_cons]
      have := hr.append h2
      rwa [List.take_append_drop] at this
    · cases hm
theorem qu {α β : Type} {f : α → Option β} : ∀ {xs : List α} {ys : List β}, xs.mapM f = some ys → ∀ (i : Nat) (x : α), xs[i]? = some x → ∃ y, ys[i]? = some y ∧ f x = some y
  | [], ys, h, i, x, hx => by simp at hx
  | a :: xs, ys, h, i, x, hx => by
    rw [List.mapM_cons] at h
    simp only [Option.pure_def, Option.bind_eq_bind, Option.bind_eq_some_iff, Option.some.injEq] at h
    obtain ⟨z, hz, zs, hzs, rfl⟩ := h
    cases i with
    | zero => simp at hx; subst hx; exact ⟨z, rfl, hz⟩
    | succ i => simp at hx ⊢; exact qu hzs i x hx
theorem cells?_some {a : Addr} {n : Nat} {vs : List Value} (h : w.cells? base a n = some vs) : vs.length = n ∧ ∀ j, j < n → ∃ v, vs[j]? = some v ∧ w.cell? (a.add j) = some v := by
  unfold World.cells? at h
  split at h
  · refine ⟨by have := fv h; simpa using this, fun j hj => ?_⟩
    obtain ⟨y, h1, h2⟩ := qu h j j (by simp [hj])
    exact ⟨y, h1, h2⟩
  · cases h
theorem wS {a : Addr} {v : Value} (h : w.cell? a = some v) : a.spot = none := by
  unfold World.cell? at h
  split at h
  · split at h
    · cases h
    · rename_i hs; cases hq : a.spot with
      | none => rfl
      | some _ => rw [hq] at hs; simp at hs
  · cases h
theorem sM {b o n : Nat} : (⟨b, o, none⟩ : Addr).add n = ⟨b, o + n, none⟩ := by
  unfold Addr.add
  split
  · rename_i h; subst h; rfl
  · rfl
theorem gC : ∀ (n : Nat) {t : TypeId} {fuel : Nat} {cs : List Value} {x : DataW H × List MemPlace}, fG P n t = true → DataW.trod enc P w base (fun _ => true) held fuel t cs = some x →
    ∃ xs, Typ P n t xs ∧ bf (C.rep (uU w) w) xs cs
  | 0, t, fuel, cs, x, hp, _ => by simp [fG] at hp
  | n + 1, t, fuel, cs, x, hp, h => by
    simp only [fG] at hp
    split at hp
    · rename_i hu
      obtain ⟨b, rfl, _⟩ := DataW.trod_bool hu h
      exact ⟨[.raw (.bool b)], by simp only [Typ, hu]; exact ⟨b, rfl⟩, (by unfold C.rep; exact ⟨rfl, rfl⟩), trivial⟩
    · rename_i k hu
      obtain ⟨i, rfl, _, hw⟩ := DataW.trod_int hu h
      exact ⟨[.raw (.int k i)], by simp only [Typ, hu]; exact ⟨i, rfl, hw⟩, (by unfold C.rep; exact ⟨rfl, rfl⟩), trivial⟩
    · rename_i hu
      obtain ⟨s, rfl, _, hs⟩ := DataW.trod_string hu h
      exact ⟨[.raw (.string s)], by simp only [Typ, hu]; exact ⟨s, rfl, hs⟩, (by unfold C.rep; exact ⟨rfl, rfl⟩), trivial⟩
    · rename_i e hu
      simp only [Bool.and_eq_true, decide_eq_true_eq] at hp
      obtain ⟨hpos, hp⟩ := hp
      rcases DataW.trod_slice hu h with ⟨rfl, _⟩ | ⟨a, len, cap, elems, rest, m, _, rfl, _, hb, hlc, hcm, hel, hget, hsp, _⟩
      · refine ⟨[.slice (P.cellsOf e) []], by simp only [Typ, hu]; exact ⟨[], rfl, by simp, by simp⟩, ?_, trivial⟩
        simp only [C.rep]
        exact ⟨none, 0, 0, rfl, rfl, Nat.le_refl _, .inl ⟨rfl, rfl⟩⟩
      · have hread : ∀ i, i < len → ∃ vs ys, w.cells? base (a.add (i * P.cellsOf e)) (P.cellsOf e) = some vs ∧ Typ P n e ys ∧ bf (C.rep (uU w) w) ys vs := fun i hi => by
          have hg := hget i hi
          rw [List.getElem?_eq_getElem (by omega)] at hg
          simp only [Option.bind_eq_some_iff] at hg
          obtain ⟨vs, h1, h2⟩ := hg
          obtain ⟨ys, h3, h4⟩ := gC n hp h2
          exact ⟨vs, ys, h1, h3, h4⟩
        by_cases hcap : cap = 0
        · have : len = 0 := by omega
          subst this; subst hcap
          refine ⟨[.slice (P.cellsOf e) []], by simp only [Typ, hu]; exact ⟨[], rfl, by simp, by simp⟩, ?_, trivial⟩
          simp only [C.rep]
          exact ⟨some a, 0, 0, rfl, rfl, Nat.le_refl _, .inl ⟨rfl, rfl⟩⟩
        · have hspot : a.spot = none := by
            have hz : ∀ {i : Nat}, i * P.cellsOf e = 0 → ∀ vs, w.cells? base (a.add (i * P.cellsOf e)) (P.cellsOf e) = some vs → a.spot = none := fun {i} hi vs hv => by
              obtain ⟨_, h2⟩ := cells?_some hv
              obtain ⟨v, _, h3⟩ := h2 0 hpos
              rw [hi] at h3
              simpa [Addr.add] using wS h3
            by_cases hl : len = 0
            · obtain ⟨hr1, hr2⟩ := hsp rfl
              have hg := hr2 0 (by omega)
              rw [List.getElem?_eq_getElem (by omega)] at hg
              simp only [Option.bind_eq_some_iff] at hg
              obtain ⟨vs, h1, _⟩ := hg
              exact hz (by simp [hl]) vs h1
            · obtain ⟨vs, _, h1, _⟩ := hread 0 (by omega)
              exact hz (by simp) vs h1
          obtain ⟨b, o, sp⟩ := a
          simp only at hspot
          subst hspot
          have hrows : ∀ k i, i + k = len → ∃ es : List (List C), es.length = k ∧ (∀ x ∈ es, Typ P n e x) ∧ bG (uU w) w (P.cellsOf e) b es (o + i * P.cellsOf e) := by
            intro k
            induction k with
            | zero => intro i _; exact ⟨[], rfl, by simp, by simp only [bG]⟩
            | succ k ih =>
              intro i hi
              obtain ⟨es, h1, h2, h3⟩ := ih (i + 1) (by omega)
              obtain ⟨vs, ys, g1, g2, g3⟩ := hread i (by omega)
              obtain ⟨c1, c2⟩ := cells?_some g1
              refine ⟨ys :: es, by simp [h1], ?_, ?_⟩
              · intro x hx
                rcases List.mem_cons.1 hx with rfl | hx
                · exact g2
                · exact h2 x hx
              · simp only [bG]
                refine ⟨by rw [g3.length, c1], dP fun j c hj => ?_, by rwa [show o + i * P.cellsOf e + P.cellsOf e = o + (i + 1) * P.cellsOf e by rw [Nat.succ_mul]; omega]⟩
                have hjl : j < P.cellsOf e := by
                  have := (List.getElem?_eq_some_iff.1 hj).1
                  rw [g3.length, c1] at this
                  exact this
                obtain ⟨v, q1, q2⟩ := c2 j hjl
                rw [sM, sM] at q2
                obtain ⟨v', q3, q4⟩ := g3.get j c hj
                rw [q1] at q3; cases q3
                exact ⟨World.block_lt_of_cell? w _ q2, v, q2, q4⟩
          obtain ⟨es, h1, h2, h3⟩ := hrows len 0 (by omega)
          rw [Nat.zero_mul, Nat.add_zero] at h3
          refine ⟨[.slice (P.cellsOf e) es], by simp only [Typ, hu]; exact ⟨es, rfl, by omega, h2⟩, ?_, trivial⟩
          simp only [C.rep]
          exact ⟨some ⟨b, o, none⟩, len, cap, rfl, h1.symm, hlc, .inr ⟨b, o, rfl, h3⟩⟩
    · rename_i k e hu
      simp only [Bool.and_eq_true, decide_eq_true_eq] at hp
      obtain ⟨hsz, hp⟩ := hp
      obtain ⟨xs, m, _, _, hcl, hxl, hget⟩ := DataW.trod_array hu h
      obtain ⟨es, h1, h2, h3⟩ := tK (w := w) (R := Typ P n e) (n := k) (sz := P.cellsOf e) (cs := cs) (by rw [hcl, hsz]) (fun i hi => by
        have hg := hget i hi
        rw [List.getElem?_eq_getElem (by omega)] at hg
        exact gC n hp hg)
      exact ⟨es.flatten, by simp only [Typ, hu]; exact ⟨es, rfl, h1, h2⟩, h3⟩
    · rename_i fs hu
      simp only [Bool.and_eq_true, decide_eq_true_eq] at hp
      obtain ⟨hrow, hp⟩ := hp
      obtain ⟨xs, m, _, _, hcl, hxl, hget⟩ := DataW.trod_struct hu h
      obtain ⟨ps, h1, h2⟩ := nV (w := w) (P := P) (R := fun g x => Typ P n g.type x) (cs := cs) hrow (by omega) (fun f hf => by
        obtain ⟨i, hi, rfl⟩ := List.getElem_of_mem hf
        have hi' : i < fs.size := by simpa using hi
        have hg := hget i fs[i] (by simp [hi'])
        rw [List.getElem?_eq_getElem (by omega)] at hg
        have hpt := List.all_eq_true.1 hp _ hf
        have := gC n hpt (by simpa using hg)
        simpa using this) (fun _ _ => Nat.zero_le _)
      exact ⟨ps.flatten, by simp only [Typ, hu]; exact ⟨ps, rfl, h1⟩, h2⟩
    · cases hp
def mkA (P : Program) (t : TypeId) (xs : List C) : A :=
  match g9 P t with
  | some true => .agg xs
  | _ => match xs with
    | [x] => .c x
    | xs => .agg xs
theorem CU {n : Nat} {t : TypeId} {v : Value} {d : DataW H} {ps : List MemPlace} {r : Reach} {b0 : Nat} (hp : fG P n t = true) (hv : Value.okWide P w r b0 t v) (h : DataW.Trod enc P w base (fun _ => true) held t v d ps) :
    ∃ xs, Typ P n t xs ∧ (mkA P t xs).rep (uU w) w [] v := by
  obtain ⟨fuel, hf⟩ := h
  obtain ⟨xs, h1, h2⟩ := gC n hp hf
  refine ⟨xs, h1, ?_⟩
  cases n with
  | zero => simp [fG] at hp
  | succ n =>
    simp only [fG] at hp
    have agg : ∀ cs : Array Value, v = .agg cs → g9 P t = some true → (mkA P t xs).rep (uU w) w [] v := fun cs hcs ha => by
      subst hcs
      simp only [mkA, ha, A.rep]
      exact ⟨cs.toList, by simp, by simpa [Value.cells] using h2⟩
    have one : ∀ x, xs = [x] → g9 P t ≠ some true → v.cells.toList = [v] → (mkA P t xs).rep (uU w) w [] v := fun x hx ha hc => by
      subst hx
      rw [hc] at h2
      unfold mkA
      split
      · rename_i he; exact absurd he ha
      · exact h2.1
    split at hp
    · rename_i hu
      simp only [Typ, hu] at h1
      obtain ⟨b, rfl⟩ := h1
      simp only [Value.okWide, hu, Cell.okWide] at hv
      exact one _ rfl (by simp [g9, hu, TypeDesc.isRow]) (by cases v <;> simp_all [Cell.ok, Value.cells])
    · rename_i k hu
      simp only [Typ, hu] at h1
      obtain ⟨b, rfl, _⟩ := h1
      simp only [Value.okWide, hu, Cell.okWide] at hv
      exact one _ rfl (by simp [g9, hu, TypeDesc.isRow]) (by cases v <;> simp_all [Cell.ok, Value.cells])
    · rename_i hu
      simp only [Typ, hu] at h1
      obtain ⟨b, rfl, _⟩ := h1
      simp only [Value.okWide, hu, Cell.okWide] at hv
      exact one _ rfl (by simp [g9, hu, TypeDesc.isRow]) (by cases v <;> simp_all [Cell.ok, Value.cells])
    · rename_i e hu
      simp only [Typ, hu] at h1
      obtain ⟨es, rfl, _⟩ := h1
      simp only [Value.okWide, hu, Cell.okWide] at hv
      exact one _ rfl (by simp [g9, hu, TypeDesc.isRow]) (by cases v <;> simp_all [Cell.ok, Value.cells])
    · rename_i k e hu
      simp only [Value.okWide, hu] at hv
      obtain ⟨cs, rfl, _⟩ := hv
      exact agg cs rfl (by simp [g9, hu, TypeDesc.isRow])
    · rename_i fs hu
      simp only [Value.okWide, hu] at hv
      obtain ⟨cs, rfl, _⟩ := hv
      exact agg cs rfl (by simp [g9, hu, TypeDesc.isRow])
    · cases hp
def yW (P : Program) : List TypeId → List (List C) → List A
  | t :: ts, x :: xs => mkA P t x :: yW P ts xs
  | _, _ => []
theorem nJ (P : Program) : ∀ (ts : List TypeId) (xss : List (List C)), eD (yW P ts xss) = true
  | [], _ => by simp [yW, eD]
  | _ :: _, [] => by simp [yW, eD]
  | t :: ts, x :: xs => by
    have ih := nJ P ts xs
    simp only [yW, eD, List.all_cons, Bool.and_eq_true] at ih ⊢
    refine ⟨?_, ih⟩
    unfold mkA
    split
    · rename_i h; split at h <;> (try split at h) <;> simp at h
    · rfl
theorem vA {n : Nat} {r : Reach} {b0 : Nat} : ∀ {ts : List TypeId} {vs : List Value} {ds : List (DataW H)} {ps : List MemPlace}, ts.all (fun t => fG P n t) = true → (∀ (j : Nat) t v, ts[j]? = some t → vs[j]? = some v → Value.okWide P w r b0 t v) → DataW.TrodAll enc P w base (fun _ => true) held ts vs ds ps →
    ∃ xss, bf (Typ P n) ts xss ∧ bf (A.rep (uU w) w []) (yW P ts xss) vs
  | [], vs, ds, ps, _, _, h => by
    obtain ⟨rfl, _, _⟩ := trodAll_nil h
    exact ⟨[], trivial, trivial⟩
  | t :: ts, vs, ds, ps, hp, hv, h => by
    obtain ⟨v, vs', d, ds', p, q, rfl, rfl, rfl, h1, h2⟩ := trodAll_cons h
    simp only [List.all_cons, Bool.and_eq_true] at hp
    obtain ⟨xs, g1, g2⟩ := CU hp.1 (hv 0 t v rfl rfl) h1
    obtain ⟨xss, g3, g4⟩ := vA hp.2 (fun j t' v' ht hv' => hv (j + 1) t' v' (by simpa using ht) (by simpa using hv')) h2
    exact ⟨xs :: xss, ⟨g1, g3⟩, ⟨g2, g4⟩⟩
theorem jw {W' : World} {sp' : Nat → Bool} (hl : laidOutB P = true) : ∀ {ts : List TypeId} {vs : List Value} {ds : List (DataW H)} {ps : List MemPlace}, (∀ t ∈ ts, P.readableRec t = true ∧ t < P.types.size) → DataW.TrodAll enc P w base (fun _ => true) true ts vs ds ps → (∀ p ∈ ps, w.sameAt W' p) → (∀ p ∈ ps, sp' p.block = true) →
    DataW.TrodAll enc P W' base sp' true ts vs ds ps
  | [], vs, ds, ps, _, h, _, _ => by
    obtain ⟨rfl, rfl, rfl⟩ := trodAll_nil h
    rfl
  | t :: ts, vs, ds, ps, ht, h, hs, hsp => by
    obtain ⟨v, vs', d, ds', p, q, rfl, rfl, rfl, h1, h2⟩ := trodAll_cons h
    exact ⟨p, q, WideElems.Trod_stays hl (ht t (by simp)).1 (ht t (by simp)).2 h1 (fun x hx => hs x (by simp [hx])) (fun x hx => hsp x (by simp [hx])), jw hl (fun t' ht' => ht t' (by simp [ht'])) h2 (fun x hx => hs x (by simp [hx])) (fun x hx => hsp x (by simp [hx])), rfl⟩
end
theorem pD {H : Type} {enc : TypeId × Value → H} {P : Program} {f : FuncId} {fn : Func} {s : ChangeSpec} {E : Env} (hE : EnvOk E) (hP : E.P = P) {n : Nat} {tb : TypeId}
    (hl : laidOutB P = true) (hr : ∀ t ∈ fn.params.toList, P.readableRec t = true ∧ t < P.types.size) (hp : fn.params.toList.all (fun t => fG P n t) = true) (hv : s.vars = [])
    (hs : ∀ ds : List (DataW H), ds.length = fn.params.toList.length → s.fn H ds = { results := [.lit (.bool true)], args := ds }) (hrt : fn.resultTypes = #[tb]) (hb : P.underlying tb = some .bool)
    (law : ∀ xss, bf (Typ P n) fn.params.toList xss → E.F f (yW P fn.params.toList xss) [] = some ([.c (.raw (.bool true))], []))
    (W : World) (hgl : eG E.gl (uU W) W) (base : Nat) (args : Array Value) (ds gs : List (DataW H)) (before : List MemPlace)
    (hval : ∀ (j : Nat) t v, fn.params[j]? = some t → args[j]? = some v → Value.okWide P W .any base t v) (hW : DataW.Whole enc P fn.params.toList s.vars false W args.toList ds gs before) :
    Calls P f args W fun e W' => ∃ v, e = .returned v ∧ s.post enc P fn false true false false W args v W' := by
  subst hP
  have hW' := hW
  obtain ⟨p, q, hA, hV, rfl, _, _⟩ := hW
  rw [hv] at hV
  obtain ⟨rfl, rfl⟩ := trodVars_none hV
  obtain ⟨xss, hx, hrep⟩ := vA (n := n) (r := .any) (b0 := base) hp (fun j t v ht hv => hval j t v (by simpa using ht) (by simpa using hv)) hA
  obtain ⟨_, hmeets'⟩ := hE.call _ _ _ _ _ (law xss hx)
  have hmeets := hmeets'.plain (nJ _ _ _)
  have hm := hmeets (uU W) W [] args.toList (fun b _ h => h) hgl trivial (fun i j cs ds p q _ hi => by simp at hi) hrep
  rw [Array.toArray_toList] at hm
  refine hm.mono fun e W' hpost => ?_
  obtain ⟨us, Fr', rfl, hbb, _, _, hres, _⟩ := hpost
  have hbel : Below W.heap.size W W' := (hbb.mono (imp' := fun _ _ => False) (fun b o h => iD h)).below
  cases us with
  | nil => exact hres.elim
  | cons u us =>
    cases us with
    | cons _ _ => exact hres.2.elim
    | nil =>
      have hu : u = .bool true := by
        have := hres.1
        simp only [Res.rep, C.rep] at this
        exact this.1
      subst hu
      have hlt := hW'.lt
      refine ⟨.bool true, rfl, ds, [], p ++ [], [], p, [], hW', ?_, ?_, ?_, hbel.frame _, fun h => by cases h⟩
      · rw [List.append_nil, hs ds (by have := DataWlen hA; exact this)]
        rw [hrt]
        exact trodAll_mk1 (shut_bool hb true)
      · rw [List.append_nil, hs ds (by have := DataWlen hA; exact this)]
        exact jw hl hr hA (fun x hx => hbel.same (hlt x (by simp [hx]))) (fun x hx => by simpa using hlt x (by simp [hx]))
      · rw [hv, List.append_nil, hs ds (by have := DataWlen hA; exact this)]
        rfl
where
  DataWlen {H : Type} {enc : TypeId × Value → H} {P : Program} {w : World} {base : Nat} {sp : Nat → Bool} {held : Bool} {ts : List TypeId} {vs : List Value} {ds : List (DataW H)} {ps : List MemPlace} (h : DataW.TrodAll enc P w base sp held ts vs ds ps) : ds.length = ts.length := (trodAll_length h).2
end Go.Dm
namespace Go.Dm
open Go.RowKit
theorem Aa {P : Program} {n : Nat} {t : TypeId} {xs : List C} (hu : P.underlying t = some .bool) (h : Typ P (n + 1) t xs) : ∃ b, xs = [.raw (.bool b)] := by simpa only [Typ, hu] using h
theorem rW {P : Program} {n : Nat} {t : TypeId} {xs : List C} {k : IntKind} (hu : P.underlying t = some (.int k)) (h : Typ P (n + 1) t xs) : ∃ i, xs = [.raw (.int k i)] ∧ (Lit.int k i).wf = true := by simpa only [Typ, hu] using h
theorem uL {P : Program} {n : Nat} {t : TypeId} {xs : List C} (hu : P.underlying t = some .string) (h : Typ P (n + 1) t xs) : ∃ s : ByteArray, xs = [.raw (.string s)] ∧ s.size ≤ maxLen := by simpa only [Typ, hu] using h
theorem qa {P : Program} {n : Nat} {t e : TypeId} {xs : List C} (hu : P.underlying t = some (.slice e)) (h : Typ P (n + 1) t xs) : ∃ es, xs = [.slice (P.cellsOf e) es] ∧ es.length ≤ maxLen ∧ ∀ x ∈ es, Typ P n e x := by simpa only [Typ, hu] using h
theorem ux {P : Program} {n : Nat} {t : TypeId} {xs : List C} {fs : Array Field} (hu : P.underlying t = some (.struct fs)) (h : Typ P (n + 1) t xs) : ∃ ps : List (List C), xs = ps.flatten ∧ bf (fun g x => Typ P n g.type x) fs.toList ps := by simpa only [Typ, hu] using h
theorem o7 {α : Type} {R : List C → Prop} {f : α → List C} {Q : α → Prop} (hR : ∀ x, R x → ∃ a, x = f a ∧ Q a) : ∀ {es : List (List C)}, (∀ x ∈ es, R x) → ∃ l : List α, es = l.map f ∧ ∀ a ∈ l, Q a
  | [], _ => ⟨[], rfl, by simp⟩
  | e :: es, h => by
    obtain ⟨a, rfl, ha⟩ := hR e (h e (by simp))
    obtain ⟨l, rfl, hl⟩ := o7 (es := es) hR (fun x hx => h x (by simp [hx]))
    exact ⟨a :: l, rfl, by simpa using ⟨ha, hl⟩⟩
theorem tT {α β : Type} {R : α → β → Prop} {bs : List β} (h : bf R [] bs) : bs = [] := by
  cases bs with
  | nil => rfl
  | cons _ _ => exact h.elim
theorem d5 {α β : Type} {R : α → β → Prop} {a : α} {as : List α} {bs : List β} (h : bf R (a :: as) bs) : ∃ b bs', bs = b :: bs' ∧ R a b ∧ bf R as bs' := by
  cases bs with
  | nil => exact h.elim
  | cons b bs' => exact ⟨b, bs', rfl, h.1, h.2⟩
end Go.Dm
