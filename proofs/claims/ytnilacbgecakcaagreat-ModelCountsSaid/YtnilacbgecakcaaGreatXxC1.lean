/-
  A part of the proofs over this seat: a machine over data (the file in which the theorems stand says what is proved).
-/
import Derived.Laws.MakeOwn
import Derived.Laws.Sem
import Derived.LoopN
import Derived.Test.YtnilacbgecakcaaGreatXxC0
namespace Go.Dm
open Go.RowKit
theorem Mem.apply_toks (m : Mem) (d : Option Tmp) (nv : Nat) (x : T) (ut : List (Nat × Nat)) (rv rt : List Nat) : m.apply d nv { dst := x, ut, rv, rt } = Mem.put { m with tok := fe ut m.tok } d x := by
  cases d with
  | none => simp [Mem.apply, Mem.put, lk]; rfl
  | some d =>
    simp only [Mem.put, Mem.apply, lk, Option.isSome_none, Bool.false_eq_true, and_false, if_false, Option.some.injEq]
    congr 1
    funext t
    by_cases h : d = t
    · simp [h]
    · simp [h, Ne.symm h]
theorem Mem.apply_lent (m : Mem) (d : Option Tmp) (nv id : Nat) (xs : List V) (x : T) (ut : List (Nat × Nat)) (rv rt : List Nat) : m.apply d nv { dst := x, uv := [(id, xs)], ut, rv, rt } =
    Mem.put { m with var := fun i => if i = id then some xs else m.var i, tok := fe ut m.tok } d x := by
  have hv : (m.apply d nv { dst := x, uv := [(id, xs)], ut, rv, rt }).var = fun i => if i = id then some xs else m.var i := by
    funext i
    simp only [Mem.apply, Option.isSome_none, Bool.false_eq_true, and_false, if_false, lk]
    by_cases h : id = i
    · simp [h]
    · simp [h, Ne.symm h]
  cases d with
  | none =>
    simp only [Mem.put]
    rw [← hv]
    simp [Mem.apply, lk]; rfl
  | some d =>
    simp only [Mem.put]
    rw [← hv]
    simp only [Mem.apply, lk, Option.some.injEq]
    congr 1
    funext t
    by_cases h : d = t
    · simp [h]
    · simp [h, Ne.symm h]
theorem iK {γ : Gh} {tok : Nat → Option Nat} {w : World} {ks : List K} {us : List Value} (h : aJ (K.rep γ tok w) ks us) : (uD ks).rep γ tok w (mc us) := by
  match ks, us, h with
  | [], [], _ => exact ⟨[], rfl, trivial⟩
  | [k], [u], h => exact h.1
  | k :: k' :: ks, u :: u' :: us, h => exact ⟨u :: u' :: us, rfl, h⟩
  | [], _ :: _, h => exact h.elim
  | [_], [], h => exact h.elim
  | [_], _ :: _ :: _, h => exact h.2.elim
  | _ :: _ :: _, [], h => exact h.elim
  | _ :: _ :: _, [_], h => exact h.2.elim
theorem sr {Fr Fr' N : Nat → Nat → Prop} {w : World} : ∀ {rs : List Res} {us : List Value}, rs.all Res.bare = true → aJ (Res.rep Fr N w) rs us → aJ (Res.rep Fr' N w) rs us
  | [], [], _, _ => trivial
  | r :: rs, u :: us, hb, h => by
    simp only [List.all_cons, Bool.and_eq_true] at hb
    refine ⟨?_, sr hb.2 h.2⟩
    have h1 := h.1
    unfold Res.bare at hb
    split at hb
    · simpa only [Res.rep, C.rep] using h1
    · simp at hb
  | [], _ :: _, _, h => h.elim
  | _ :: _, [], _, h => h.elim
theorem jg {Fr N : Nat → Nat → Prop} {w : World} {rs : List Res} {us : List Value} (h : aJ (Res.rep Fr N w) rs us) {r sz : Nat} {es : List (List C)} {u : Value} (hr : rs[r]? = some (.top sz es)) (hu : us[r]? = some u) {b : Nat} (hb : bK u = some b) : ∃ lo, N b lo := by
  obtain ⟨u', hu', _, base, cap, rfl, _, ht⟩ := h.get r _ hr
  rw [hu] at hu'
  cases hu'
  unfold bK at hb
  split at hb
  · rename_i a n c heq
    split at hb
    · cases hb
    · rename_i hne
      simp only [Value.slice.injEq] at heq
      obtain ⟨h1, h2, h3⟩ := heq
      obtain ⟨b', hb1, hb2, _⟩ := ht.resolve_left (by omega)
      rw [hb1] at h1
      cases h1
      cases hb
      exact ⟨_, hb2⟩
  · cases hb
theorem iX {F : Fm} {γ : Gh} {m : Mem} {a : Act} {w : World} (h : Rel F γ m a w) {j l : Nat} (hj : m.tok j = some l) (hc : (γ.tk j).cap ≠ l) : ∃ b, (γ.tk j).base.map (·.block) = some b ∧ b < w.heap.size := by
  obtain ⟨b, hb, _, ⟨arr, e, harr, _⟩, _⟩ := (h.toks j l hj).2.resolve_left hc
  refine ⟨b, by rw [hb]; rfl, ?_⟩
  rcases Nat.lt_or_ge b w.heap.size with h | h
  · exact h
  · rw [Array.getElem?_eq_none h] at harr; cases harr
theorem gG {locs : List (Nat × Nat)} {b o : Nat} (h : pl [] locs b o) : False := by
  obtain ⟨k, cs, p, h1, _⟩ := h
  simp at h1
theorem A.extra {Fr : Nat → Nat → Prop} {w : World} {all : List (Nat × Nat)} : ∀ {cs : List C} {vs : List Value}, aJ (C.rep Fr w) cs vs → aJ (A.rep Fr w all) (cs.map .c) vs
  | [], [], _ => trivial
  | _ :: _, _ :: _, h => ⟨h.1, A.extra h.2⟩
  | [], _ :: _, h => h.elim
  | _ :: _, [], h => h.elim
theorem Rel.freeze1 {F : Fm} {γ : Gh} {m : Mem} {a : Act} {w : World} (h : Rel F γ m a w) {id b o : Nat} {ys : List V} (hv : m.var id = some ys) (hl : γ.loc id = some (b, o)) :
    let γ' : Gh := { γ with fr := fun b' x => γ.fr b' x ∨ (b' = b ∧ o ≤ x ∧ x < o + ys.length) }
    let m' : Mem := { m with var := fun i => if i = id then some [] else m.var i }
    Rel F γ' m' a w ∧ Ex γ γ' m.tok m'.tok w w := by
  intro γ' m'
  obtain ⟨b', o', h1, h2, h3, h5⟩ := h.vars id ys hv
  rw [hl] at h1; cases h1
  have hex : Ex γ γ' m.tok m'.tok w w := ⟨⟨fun _ _ h => .inl h, fun _ _ _ _ h => h, fun _ _ _ _ h => h⟩, fun _ _ h => h, fun _ _ h => .inl ⟨h, rfl⟩⟩
  refine ⟨?_, hex⟩
  exact {
    defers := h.defers
    size := h.size
    base := h.base
    fr0 := fun b o hx => .inl (h.fr0 b o hx)
    frs := fun b1 x hx => by
      rcases hx with hx | ⟨rfl, hx, hx'⟩
      · exact h.frs b1 x hx
      · have := (h5 (x - o) (by omega)).2
        rw [show o + (x - o) = x by omega] at this
        exact .inr this
    frlt := fun b1 x hx => by
      rcases hx with hx | ⟨rfl, _⟩
      · exact h.frlt b1 x hx
      · exact h.loclt id _ _ hl
    loclt := h.loclt
    tmps := fun t => T.rep.mono hex _ _ (h.tmps t)
    gh := fun x v n k hp => ⟨(h.gh x v n k hp).1, T.rep.mono (hex.upto _ _) _ _ (h.gh x v n k hp).2⟩
    vars := fun i zs hi => by
      by_cases he : i = id
      · subst he
        simp only [m', if_true, Option.some.injEq] at hi
        subst hi
        exact ⟨b, o, hl, ⟨[], trivial, fun j v hj => by simp at hj⟩, fun j hj => by simp at hj, fun j hj => by simp at hj⟩
      · simp only [m', he, if_false] at hi
        obtain ⟨b2, o2, k1, ⟨vs, k2, k3⟩, k4, k5⟩ := h.vars i zs hi
        have hap := h.apart i id zs ys b2 o2 b o he hi hv k1 hl
        refine ⟨b2, o2, k1, ⟨vs, k2.mono (fun x v => V.rep.mono hex x v), k3⟩, k4, fun j hj => ⟨fun hx => ?_, (k5 j hj).2⟩⟩
        rcases hx with hx | ⟨hb, hx, hx'⟩
        · exact (k5 j hj).1 hx
        · omega
    novar := fun i hi => by
      by_cases he : i = id
      · subst he; simp [m'] at hi
      · simp [m', he] at hi; exact h.novar i hi
    lentloc := h.lentloc
    apart := fun i j zs us b1 o1 b2 o2 hij hi hj hl1 hl2 => by
      have key : ∀ k zs', m'.var k = some zs' → ∃ zs, m.var k = some zs ∧ zs'.length ≤ zs.length := fun k zs' hk => by
        by_cases he : k = id
        · subst he
          simp only [m', if_true, Option.some.injEq] at hk
          subst hk
          exact ⟨ys, hv, by simp⟩
        · simp only [m', he, if_false] at hk; exact ⟨zs', hk, Nat.le_refl _⟩
      obtain ⟨zs1, hz1, e1⟩ := key i _ hi
      obtain ⟨zs2, hz2, e2⟩ := key j _ hj
      have := h.apart i j zs1 zs2 b1 o1 b2 o2 hij hz1 hz2 hl1 hl2
      omega
    toks := fun i k hi => by
      obtain ⟨k1, k2⟩ := h.toks i k hi
      refine ⟨k1, ?_⟩
      by_cases hc : (γ.tk i).cap = k
      · exact .inl hc
      · obtain ⟨b2, hbs, hge, harr, hfr⟩ := k2.resolve_left hc
        refine .inr ⟨b2, hbs, hge, harr, fun x hx hq => ?_⟩
        rcases hq with hq | ⟨hb, _⟩
        · exact hfr x hx hq
        · have := h.tvar i k id ys b o hi hv hl hc
          rw [hbs] at this
          exact this (by simp [hb])
    tapart := h.tapart
    tvar := fun i k j zs b1 o1 hi hj hl1 hc => by
      by_cases he : j = id
      · subst he; exact h.tvar i k j ys b1 o1 hi hv hl1 hc
      · simp only [m', he, if_false] at hj; exact h.tvar i k j zs b1 o1 hi hj hl1 hc }
theorem Rel.freeze {F : Fm} {a : Act} {w : World} : ∀ (rs : List Nat) {γ : Gh} {m : Mem}, Rel F γ m a w → (∀ id ∈ rs, (m.var id).isSome = true) →
    ∃ γ' : Gh, γ'.loc = γ.loc ∧ γ'.tk = γ.tk ∧ (∀ b o, γ.fr b o → γ'.fr b o) ∧ (∀ id ∈ rs, ∀ ys b o, m.var id = some ys → γ.loc id = some (b, o) → ∀ j, j < ys.length → γ'.fr b (o + j)) ∧
      Rel F γ' { m with var := fun i => if i ∈ rs then some [] else m.var i } a w ∧ Ex γ γ' m.tok m.tok w w
  | [], γ, m, h, _ => ⟨γ, rfl, rfl, fun _ _ h => h, by simp, by simpa using h, .refl _ _ _⟩
  | id :: rs, γ, m, h, hs => by
    obtain ⟨ys, hv⟩ := Option.isSome_iff_exists.1 (hs id (by simp))
    obtain ⟨b, o, hl, _⟩ := h.vars id ys hv
    obtain ⟨h1, hx1⟩ := h.freeze1 hv hl
    obtain ⟨γ', e1, e2, e3, e4, h2, hx2⟩ := Rel.freeze rs h1 (fun i hi => by
      simp only
      split
      · rfl
      · exact hs i (by simp [hi]))
    refine ⟨γ', e1, e2, fun b o hx => e3 b o (.inl hx), fun i hi zs b1 o1 hz hl1 j hj => ?_, ?_, hx1.trans hx2⟩
    · by_cases he : i = id
      · subst he
        rw [hv] at hz; cases hz
        rw [hl] at hl1; cases hl1
        exact e3 _ _ (.inr ⟨rfl, by omega, by omega⟩)
      · refine e4 i ?_ zs b1 o1 ?_ hl1 j hj
        · simpa [he] using hi
        · simp [he, hz]
    · have : (fun i => if i ∈ rs then some [] else if i = id then some [] else m.var i) = fun i => if i ∈ id :: rs then some [] else m.var i := by
        funext i
        by_cases h3 : i ∈ rs <;> by_cases h4 : i = id <;> simp [h3, h4]
      simp only [this] at h2
      exact h2
theorem pf {m : Mem} : ∀ {caps : List (C ⊕ (Nat × Nat))} {cs : List C}, caps.mapM (kJ m) = some cs → ∀ {c : C ⊕ (Nat × Nat)}, c ∈ caps → (kJ m c).isSome = true
  | [], _, _, c, hc => by simp at hc
  | d :: ds, cs, h, c, hc => by
    rw [List.mapM_cons] at h
    cases hd : kJ m d with
    | none => simp [hd] at h
    | some x =>
      cases hr : ds.mapM (kJ m) with
      | none => simp [hd, hr] at h
      | some r =>
        rcases List.mem_cons.1 hc with rfl | hc
        · rw [hd]; rfl
        · exact pf hr hc
theorem fw {P : Program} {m : Mem} : ∀ {tys : List TypeId} {xs : List T} {k : Nat} {as : List A} {ls : List (Nat × Nat × List C)} {rs : List Nat}, bP P m tys xs k = some (as, ls, rs) → ∀ id ∈ rs, (m.var id).isSome = true
  | [], [], k, as, ls, rs, h => by simp only [bP, Option.some.injEq, Prod.mk.injEq] at h; obtain ⟨_, _, rfl⟩ := h; simp
  | t :: ts, x :: xs, k, as, ls, rs, h => by
    have hsn : ∀ {id off : Nat} {cs : List C}, sx m id off = some cs → (m.var id).isSome = true := fun {id off cs} hs => by
      unfold sx at hs
      split at hs
      · rename_i hv; rw [hv]; rfl
      · cases hs
    simp only [bP] at h
    split at h
    · split at h
      · rename_i cs as' ls' rs' hcs hrec
        simp only [Option.some.injEq, Prod.mk.injEq] at h
        obtain ⟨rfl, rfl, rfl⟩ := h
        exact fw hrec
      · cases h
    · split at h
      · split at h
        · split at h
          · rename_i hrec
            simp only [Option.some.injEq, Prod.mk.injEq] at h
            obtain ⟨rfl, rfl, rfl⟩ := h
            exact fw hrec
          · cases h
        · cases h
      · cases h
    · rename_i id off sz n
      split at h
      · rename_i cs hcs
        split at h
        · rename_i hrec
          simp only [Option.some.injEq, Prod.mk.injEq] at h
          obtain ⟨rfl, rfl, rfl⟩ := h
          intro i hi
          rcases List.mem_cons.1 hi with rfl | hi
          · exact hsn hcs
          · exact fw hrec i hi
        · cases h
      · cases h
    · rename_i f caps
      split at h
      · rename_i cs as' ls' rs' hcs hrec
        simp only [Option.some.injEq, Prod.mk.injEq] at h
        obtain ⟨rfl, rfl, rfl⟩ := h
        intro i hi
        rcases List.mem_append.1 hi with hi | hi
        · obtain ⟨c, hc, hi⟩ := List.mem_flatMap.1 hi
          have hc2 := pf hcs hc
          cases c with
          | inl x => simp [fP] at hi
          | inr p =>
            simp only [fP, List.mem_singleton] at hi
            subst hi
            simp only [kJ, Option.isSome_map] at hc2
            obtain ⟨cs', hs'⟩ := Option.isSome_iff_exists.1 hc2
            exact hsn hs'
        · exact fw hrec i hi
      · cases h
    · split at h
      · rename_i hrec
        simp only [Option.some.injEq, Prod.mk.injEq] at h
        obtain ⟨rfl, rfl, rfl⟩ := h
        exact fw hrec
      · cases h
    · cases h
  | [], _ :: _, _, _, _, _, h => by simp [bP] at h
  | _ :: _, [], _, _, _, _, h => by simp [bP] at h
theorem xh (rs : List Nat) (i : Nat) : lk (rs.map fun id => (id, ([] : List V))) i = if i ∈ rs then some [] else none := by
  induction rs with
  | nil => rfl
  | cons id rs ih =>
    simp only [List.map_cons, lk, ih]
    by_cases h : i ∈ rs
    · simp [h]
    · by_cases h2 : id = i
      · subst h2; simp [h]
      · simp [h, h2, Ne.symm h2]
theorem Mem.apply_gone (m : Mem) (d : Option Tmp) (nv : Nat) (rs : List Nat) (x : T) (ut : List (Nat × Nat)) (rv rt : List Nat) : m.apply d nv { dst := x, uv := rs.map fun id => (id, []), ut, rv, rt } =
    Mem.put { m with var := fun i => if i ∈ rs then some [] else m.var i, tok := fe ut m.tok } d x := by
  have hv : (m.apply d nv { dst := x, uv := rs.map fun id => (id, []), ut, rv, rt }).var = fun i => if i ∈ rs then some [] else m.var i := by
    funext i
    simp only [Mem.apply, Option.isSome_none, Bool.false_eq_true, and_false, if_false, xh]
    by_cases h : i ∈ rs <;> simp [h]
  cases d with
  | none =>
    simp only [Mem.put]
    rw [← hv]
    simp [Mem.apply]; rfl
  | some d =>
    simp only [Mem.put]
    rw [← hv]
    simp only [Mem.apply, Option.some.injEq]
    congr 1
    funext t
    by_cases h : d = t
    · simp [h]
    · simp [h, Ne.symm h]
theorem tC {E : Env} (hE : EnvOk E) {F : Fm} {γ : Gh} {m : Mem} {a : Act} {w : World} (h : Rel F γ m a w) (hg : cJ E.gl γ.fr w) {d : Option Tmp} (hd : ∀ t, d = some t → t < F.n) {nv nt : Nat} {g : FuncId} {extra : List C} {ev : List Value}
    (hex : aJ (C.rep γ.fr w) extra ev) {tys : List TypeId} {xs : List T} {vs : List Value} (hx : aJ (T.rep γ m.tok w) xs vs) {e : Eff} (he : gm E m nt g extra tys xs = some e) (hnt : ∀ i n, (i, n) ∈ e.ut → m.tok i = none) :
    Enters E.P g ∧ Calls E.P g (vs ++ ev).toArray w fun
      | .returned v, w' => ed E F (m.apply d nv e) (a.put d v) w'
      | _, _ => False := by
  unfold gm at he
  split at he
  · rename_i as ls rs hargs
    split at he
    · rename_i res ims hF
      obtain ⟨hent, hmeets'⟩ := hE.call _ _ _ _ _ hF
      have hmeets := hmeets'.plain (pP (cG hargs) (vg _))
      refine ⟨hent, ?_⟩
      simp only at he
      split at he
      · split at he
        · rename_i hcond
          cases he
          have main : ∀ (Fr : Nat → Nat → Prop), (∀ b o, γ.fr b o → Fr b o) → (∀ b o, Fr b o → b < w.heap.size) → (∀ id ∈ rs, ∀ ys b o, m.var id = some ys → γ.loc id = some (b, o) → ∀ j, j < ys.length → Fr b (o + j)) →
              ((∀ b o, Fr b o → γ.fr b o) ∨ res.all Res.bare = true) →
              Calls E.P g (vs ++ ev).toArray w fun
                | .returned v, w' => ed E F (m.apply d nv { dst := uD (ga nt res).1, ut := (ga nt res).2, rv := rs }) (a.put d v) w'
                | _, _ => False := by
            intro Fr hFr hlt hsn hor
            have hev : Ev γ.fr Fr w w := ⟨hFr, fun _ _ _ _ h => h, fun _ _ _ _ h => h⟩
            obtain ⟨hA, _⟩ := cK (P := E.P) h hFr hargs hx hsn [] (fun j p hj => by simp at hj)
            have hA2 := hA.append (A.extra (all := []) (hex.mono (fun c v hc => C.rep.mono hev c v hc)))
            have hm := hmeets Fr w [] (vs ++ ev) hlt (hg.mono hev) trivial (fun i j cs ds p q _ hi => by simp at hi) hA2
            refine hm.mono fun e w' hpost => ?_
            obtain ⟨us, Fr', rfl, hbb, hf1, hf2, hres, hap, _, _⟩ := hpost
            have hbelow : Below w.heap.size w w' := (hbb.mono (fun b o hi => gG hi) : BelowBut (fun _ _ => False) w w').below
            have fin : ∀ (fr' : Nat → Nat → Prop), (∀ b o, γ.fr b o → fr' b o) → (∀ b o, fr' b o → γ.fr b o ∨ (w.heap.size ≤ b ∧ b < w'.heap.size)) → aJ (Res.rep fr' (fun b _ => w.heap.size ≤ b) w') res us →
                ed E F (m.apply d nv { dst := uD (ga nt res).1, ut := (ga nt res).2, rv := rs }) (a.put d (mc us)) w' := by
              intro fr' h1 h2 h3
              obtain ⟨g1, g2⟩ := h.grow hbelow h1 h2
              obtain ⟨γ', k1, k2, k3, k4⟩ := eN (N := fun b _ => w.heap.size ≤ b) (fun b lo hb => .inl (Nat.le_trans h.base.size hb)) g1 h3 hap hnt (fun id xs b o _ hl lo hb => Nat.not_le.2 (h.loclt id b o hl) hb) (fun j l hj hc r sz es u hr hu b hb => by
                obtain ⟨b', hb', hlt'⟩ := iX h hj hc
                obtain ⟨_, this⟩ := jg h3 hr hu hb
                rw [hb']
                intro heq
                cases heq
                omega)
              refine ⟨γ', ?_, ?_⟩
              · rw [Mem.apply_toks]
                exact k2.put hd (iK k4)
              · exact (hg.mono g2.ev).mono k3.ev
            rcases hor with hor | hor
            · exact fin Fr' (fun b o hx => hf1 b o (hFr b o hx)) (fun b o hx => (hf2 b o hx).imp (hor b o) id) hres
            · exact fin γ.fr (fun _ _ h => h) (fun _ _ h => .inl h) (sr hor hres)
          by_cases hrs : rs = []
          · subst hrs
            exact main γ.fr (fun _ _ h => h) h.frlt (by simp) (.inl (fun _ _ h => h))
          · have hbare : res.all Res.bare = true := by
              cases rs with
              | nil => exact absurd rfl hrs
              | cons _ _ => simpa using hcond
            refine main (fun b x => γ.fr b x ∨ ∃ id ys o, m.var id = some ys ∧ γ.loc id = some (b, o) ∧ o ≤ x ∧ x < o + ys.length) (fun _ _ h => .inl h) (fun b x hx => ?_) (fun id _ ys b o hv hl j hj => .inr ⟨id, ys, o, hv, hl, by omega, by omega⟩) (.inr hbare)
            rcases hx with hx | ⟨id, ys, o, _, hl, _⟩
            · exact h.frlt b x hx
            · exact h.loclt id b o hl
        · cases he
          obtain ⟨γ1, e1, _, e3, e4, hr1, hx1⟩ := h.freeze rs (fw hargs)
          have hev : Ev γ.fr γ1.fr w w := ⟨e3, fun _ _ _ _ h => h, fun _ _ _ _ h => h⟩
          obtain ⟨hA, _⟩ := cK (P := E.P) h e3 hargs hx e4 [] (fun j p hj => by simp at hj)
          have hA2 := hA.append (A.extra (all := []) (hex.mono (fun c v hc => C.rep.mono hev c v hc)))
          have hm := hmeets γ1.fr w [] (vs ++ ev) hr1.frlt (hg.mono hev) trivial (fun i j cs ds p q _ hi => by simp at hi) hA2
          refine hm.mono fun e w' hpost => ?_
          obtain ⟨us, Fr', rfl, hbb, hf1, hf2, hres, hap, _, _⟩ := hpost
          have hbelow : Below w.heap.size w w' := (hbb.mono (fun b o hi => gG hi) : BelowBut (fun _ _ => False) w w').below
          obtain ⟨g1, g2⟩ := hr1.grow hbelow hf1 hf2
          obtain ⟨γ', k1, k2, k3, k4⟩ := eN (N := fun b _ => w.heap.size ≤ b) (fun b lo hb => .inl (Nat.le_trans h.base.size hb)) g1 hres hap hnt (fun id xs b o _ hl lo hb => Nat.not_le.2 (hr1.loclt id b o hl) hb) (fun j l hj hc r sz es u hr hu b hb => by
            obtain ⟨b', hb', hlt'⟩ := iX hr1 hj hc
            obtain ⟨_, this⟩ := jg hres hr hu hb
            rw [hb']
            intro heq
            cases heq
            omega)
          refine ⟨γ', ?_, ?_⟩
          · rw [Mem.apply_gone]
            exact k2.put hd (iK k4)
          · exact ((hg.mono hev).mono g2.ev).mono k3.ev
      · rename_i id off cs ds
        split at he
        · rename_i ys hv
          split at he
          · rename_i hcond
            obtain ⟨hrs, hdl⟩ := hcond
            have hrs : rs = [] := by simpa using hrs
            subst hrs
            cases he
            obtain ⟨hA, hlok⟩ := cK (P := E.P) h (fun _ _ h => h) hargs hx (by simp) ([(id, off, cs)].map (tR γ)) (fun j p hj => by simpa using hj)
            obtain ⟨ys', b, o, hv', hl, hin, hcs⟩ := hlok (id, off, cs) (by simp)
            have hv' : m.var id = some ys' := hv'
            have hl : γ.loc id = some (b, o) := hl
            have hin : off + cs.length ≤ ys'.length := hin
            have hcs : ((ys'.drop off).take cs.length).mapM V.toC = some cs := hcs
            rw [hv] at hv'; cases hv'
            have hloc : [(id, off, cs)].map (tR γ) = [(b, o + off)] := by simp [tR, hl]
            rw [hloc] at hA
            obtain ⟨b', o', k1, ⟨us0, k2, k3⟩, k4, k5⟩ := h.vars id ys hv
            rw [hl] at k1; cases k1
            have hcv := eh hcs ((k2.drop off).take cs.length)
            have hcl := hcv.length
            have hlent : gT γ.fr w cs (b, o + off) := by
              refine ⟨⟨_, hcv, kr (eY k3 off) _⟩, fun j hj => ?_, fun j hj => ?_⟩
              · have := k4 (off + j) (by omega)
                rwa [show o + (off + j) = o + off + j by omega] at this
              · have := (k5 (off + j) (by omega)).1
                rwa [show o + (off + j) = o + off + j by omega] at this
            have hA2 := hA.append (A.extra (all := [(b, o + off)]) hex)
            have hm := hmeets γ.fr w [(b, o + off)] (vs ++ ev) h.frlt hg ⟨hlent, trivial⟩ (fun i j cs' ds' p q hij hi hj _ _ => by
              have := (List.getElem?_eq_some_iff.1 hi).1
              have := (List.getElem?_eq_some_iff.1 hj).1
              simp at *
              omega) hA2
            refine hm.mono fun e w' hpost => ?_
            obtain ⟨us, Fr', rfl, hbb, hf1, hf2, hres, hap, hback, _⟩ := hpost
            have hbb' : BelowBut (fun b' x => b' = b ∧ o + off ≤ x ∧ x < o + off + ds.length) w w' := hbb.mono (fun b' x hi => by
              obtain ⟨k, cs', p, h1, h2, h3, h4, h5⟩ := hi
              cases k with
              | zero =>
                simp at h1 h2
                subst h1; subst h2
                exact ⟨h3.symm, h4, by rw [hdl]; exact h5⟩
              | succ k => simp at h1)
            obtain ⟨g1, g2⟩ := h.lent hv hl (off := off) (n := ds.length) (by omega) hbb' hf1 hf2 hback.1 rfl
            obtain ⟨γ', q1, q2, q3, q4⟩ := eN (N := fun b _ => w.heap.size ≤ b) (fun b lo hb => .inl (Nat.le_trans h.base.size hb)) g1 hres hap hnt (fun id xs b o _ hl lo hb => Nat.not_le.2 (h.loclt id b o hl) hb) (fun j l hj hc r sz es u hr hu b hb => by
              obtain ⟨b', hb', hlt'⟩ := iX h hj hc
              obtain ⟨_, this⟩ := jg hres hr hu hb
              rw [hb']
              intro heq
              cases heq
              omega)
            refine ⟨γ', ?_, ?_⟩
            · rw [Mem.apply_lent]
              exact q2.put hd (iK q4)
            · exact (hg.mono g2.ev).mono q3.ev
          · cases he
        · cases he
      · cases he
    · cases he
  · cases he
theorem xB {E : Env} {m : Mem} {nt : Nat} {g : FuncId} {extra : List C} {tys : List TypeId} {xs : List T} {e : Eff} (he : gm E m nt g extra tys xs = some e) : e.rt = [] := by
  unfold gm at he
  split at he
  · split at he
    · simp only at he
      split at he
      · split at he
        · cases he; rfl
        · cases he; rfl
      · split at he
        · split at he
          · cases he; rfl
          · cases he
        · cases he
      · cases he
    · cases he
  · cases he
theorem y8 {E : Env} (hE : EnvOk E) {F : Fm} {γ : Gh} {m : Mem} {a : Act} {w : World} (h : Rel F γ m a w) (hg : cJ E.gl γ.fr w) {d : Option Tmp} (hd : ∀ t, d = some t → t < F.n) {nv nt : Nat} {g : FuncId} {extra : List C} {ev : List Value}
    (hex : aJ (C.rep γ.fr w) extra ev) {tys : List TypeId} {xs : List T} {vs : List Value} (hx : aJ (T.rep γ m.tok w) xs vs) {e : Eff} (he : jF E m nt g extra tys xs = some e) (hnt : ∀ i n, (i, n) ∈ e.ut → i ∉ e.rt → m.tok i = none) :
    Enters E.P g ∧ Calls E.P g (vs ++ ev).toArray w fun
      | .returned v, w' => ed E F (m.apply d nv e) (a.put d v) w'
      | _, _ => False := by
  unfold jF at he
  split at he
  · rename_i as hargs
    split at he
    · rename_i as' j n htop
      split at he
      · rename_i res hF
        split at he
        case isFalse => cases he
        rename_i hjn
        cases he
        obtain ⟨hent, hmeets⟩ := hE.call _ _ _ _ _ hF
        refine ⟨hent, ?_⟩
        have hnt' : ∀ i n, (i, n) ∈ (ga nt res).2 → i ≠ j → m.tok i = none := fun i n hi hij => hnt i n (by simp only [kq, List.mem_cons]; exact .inr hi) (by simpa [kq] using hij)
        obtain ⟨hA0, _⟩ := cK (P := E.P) h (fun _ _ h => h) hargs hx (by simp) [] (fun j p hj => by simp at hj)
        have hno := cG hargs
        obtain ⟨hA, htj, hS⟩ := m3 h htop hno hA0 hx
        have hA2 := hA.append (A.extra (all := []) hex)
        have hlen := hA.length
        have hS2 : ∀ b o, fV (as' ++ extra.map .c) (vs ++ ev) b o → (γ.tk j).cap ≠ n ∧ (γ.tk j).base.map (·.block) = some b ∧ n * (γ.tk j).sz ≤ o := fun b o ho => hS b o (kv hlen (vg _) ho)
        have hm := hmeets γ.fr w [] (vs ++ ev) h.frlt hg trivial (fun i j cs ds p q _ hi => by simp at hi) hA2
        refine hm.mono fun e w' hpost => ?_
        obtain ⟨us, Fr', rfl, hbb, hf1, hf2, hres, hap, _, _⟩ := hpost
        obtain ⟨g1, g2⟩ := h.spend htj hS2 (hbb.mono fun b o ho => ho.resolve_left gG) hf1 hf2
        have hjnt : ∀ i l, (i, l) ∈ (ga nt res).2 → i ≠ j := fun i l hi => by
          have := d9 hi
          omega
        · obtain ⟨γ', k1, k2, k3, k4⟩ := eN (N := fun b lo => w.heap.size ≤ b ∨ ∀ o, lo ≤ o → fV (as' ++ extra.map .c) (vs ++ ev) b o) (fun b lo hb => by
              rcases hb with hb | hb
              · exact .inl (Nat.le_trans h.base.size hb)
              · obtain ⟨h1, h2, h3⟩ := hS2 b lo (hb lo (Nat.le_refl _))
                obtain ⟨b', hb', hsp, _⟩ := (h.toks j n htj).2.resolve_left h1
                rw [hb'] at h2
                simp only [Option.map_some, Option.some.injEq] at h2
                subst h2
                exact hsp.mono h3) g1 hres hap (fun i l hi => by
              have hij := hjnt i l hi
              show (if i = j then _ else _) = none
              rw [if_neg hij]; exact hnt' i l hi hij) (fun id xs b o hv hl lo hb => by
              rcases hb with hb | hb
              · exact Nat.not_le.2 (h.loclt id b o hl) hb
              · obtain ⟨h1, h2, _⟩ := hS2 b lo (hb lo (Nat.le_refl _))
                exact h.tvar j n id xs b o htj hv hl h1 h2) (fun i l hi hc r sz es u hr hu b hb => by
              by_cases he : i = j
              · subst he
                simp only [if_true, Option.some.injEq] at hi hc
                exact absurd hi hc
              · simp only [he, if_false] at hi hc ⊢
                obtain ⟨lo, hN⟩ := jg hres hr hu hb
                rcases hN with hN | hN
                · obtain ⟨b', hb', hlt'⟩ := iX h hi hc
                  rw [hb']
                  intro heq
                  cases heq
                  omega
                · obtain ⟨h1, h2, _⟩ := hS2 b lo (hN lo (Nat.le_refl _))
                  intro heq
                  exact h.tapart i j l n he hi htj hc h1 (heq.trans h2.symm))
          refine ⟨γ', ?_, ?_⟩
          · unfold kq
            rw [Mem.apply_toks, dR]
            exact k2.put hd (iK k4)
          · exact (hg.mono g2.ev).mono k3.ev
      · cases he
    · cases he
  · cases he
theorem oW {E : Env} (hE : EnvOk E) {F : Fm} {γ : Gh} {m : Mem} {a : Act} {w : World} (h : Rel F γ m a w) (hg : cJ E.gl γ.fr w) {d : Option Tmp} (hd : ∀ t, d = some t → t < F.n) {nv nt : Nat} {g : FuncId} {extra : List C} {ev : List Value}
    (hex : aJ (C.rep γ.fr w) extra ev) {tys : List TypeId} {xs : List T} {vs : List Value} (hx : aJ (T.rep γ m.tok w) xs vs) {e : Eff} (he : l7 E m nt g extra tys xs = some e) (hnt : ∀ i n, (i, n) ∈ e.ut → i ∉ e.rt → m.tok i = none) :
    Enters E.P g ∧ Calls E.P g (vs ++ ev).toArray w fun
      | .returned v, w' => ed E F (m.apply d nv e) (a.put d v) w'
      | _, _ => False := by
  unfold l7 at he
  split at he
  · exact y8 hE h hg hd hex hx he hnt
  · exact tC hE h hg hd hex hx he (fun i n hi => hnt i n hi (by rw [xB he]; simp))
theorem V.weak_rep {γ : Gh} {tok : Nat → Option Nat} {w : World} {x : V} {v : Value} (h : x.rep γ tok w v) : x.weak.rep γ tok w v := by
  cases x with
  | own sz es t => exact h.1
  | _ => exact h
theorem V.frz_rep {F : Fm} {γ γ' : Gh} {m : Mem} {a : Act} {w : World} (h : Rel F γ m a w) (hex : Ex γ γ' m.tok m.tok w w) (hfr : ∀ b o, γ.fr b o → γ'.fr b o) {x y : V} {v : Value} (hx : x.rep γ m.tok w v) (hy : x.frz m = some y)
    (hsn : ∀ id ∈ x.vslIds, ∀ ys b o, m.var id = some ys → γ.loc id = some (b, o) → ∀ j, j < ys.length → γ'.fr b (o + j)) : y.rep γ' m.tok w v := by
  cases x with
  | vsl id off sz n =>
    simp only [V.frz] at hy
    split at hy
    · rename_i es hes
      cases hy
      simp only [Option.bind_eq_some_iff] at hes
      obtain ⟨cs, hcs, hch⟩ := hes
      simp only [V.rep] at hx
      obtain ⟨b, o, cap, hl, rfl, hcap⟩ := hx
      have hcells := gN h hcs hfr (hsn id (by simp [V.vslIds])) hl
      obtain ⟨hr, hlen⟩ := fW hch hcells
      simp only [V.rep, C.rep]
      exact ⟨_, n, cap, rfl, hlen.symm, hcap, .inr ⟨b, o + off, rfl, hr⟩⟩
    · cases hy
  | c x => cases hy; exact V.weak_rep (V.rep.mono hex _ _ hx)
  | own sz es t => cases hy; exact V.weak_rep (V.rep.mono hex _ _ hx)
  | ptr id off => cases hy; exact V.weak_rep (V.rep.mono hex _ _ hx)
  | clo f caps => cases hy; exact V.weak_rep (V.rep.mono hex _ _ hx)
theorem Vs.frz_rep {F : Fm} {γ γ' : Gh} {m : Mem} {a : Act} {w : World} (h : Rel F γ m a w) (hex : Ex γ γ' m.tok m.tok w w) (hfr : ∀ b o, γ.fr b o → γ'.fr b o) : ∀ {xs ys : List V} {vs : List Value}, aJ (V.rep γ m.tok w) xs vs → xs.mapM (V.frz m) = some ys →
    (∀ id ∈ xs.flatMap V.vslIds, ∀ ys b o, m.var id = some ys → γ.loc id = some (b, o) → ∀ j, j < ys.length → γ'.fr b (o + j)) → aJ (V.rep γ' m.tok w) ys vs
  | [], ys, [], _, hy, _ => by simp at hy; subst hy; trivial
  | x :: xs, ys, v :: vs, hx, hy, hsn => by
    rw [List.mapM_cons] at hy
    simp only [Option.pure_def, Option.bind_eq_bind, Option.bind_eq_some_iff, Option.some.injEq] at hy
    obtain ⟨y, h1, r, h2, rfl⟩ := hy
    exact ⟨V.frz_rep h hex hfr hx.1 h1 (fun id hid => hsn id (by simp only [List.flatMap_cons, List.mem_append]; exact .inl hid)), Vs.frz_rep h hex hfr hx.2 h2 (fun id hid => hsn id (by simp only [List.flatMap_cons, List.mem_append]; exact .inr hid))⟩
  | [], _, _ :: _, h, _, _ => h.elim
  | _ :: _, _, [], h, _, _ => h.elim
theorem kW {F : Fm} {γ : Gh} {m : Mem} {a : Act} {w : World} (h : Rel F γ m a w) : ∀ {xs : List V} {vs : List Value}, aJ (V.rep γ m.tok w) xs vs → ∀ id ∈ xs.flatMap V.vslIds, (m.var id).isSome = true
  | [], _, _, id, hid => by simp at hid
  | x :: xs, v :: vs, hx, id, hid => by
    simp only [List.flatMap_cons, List.mem_append] at hid
    rcases hid with hid | hid
    · cases x with
      | vsl id' off sz n =>
        simp only [V.vslIds, List.mem_singleton] at hid
        subst hid
        obtain ⟨b, o, cap, hl, _⟩ := hx.1
        cases hq : m.var id with
        | none => rw [h.novar id hq] at hl; cases hl
        | some _ => rfl
      | _ => simp [V.vslIds] at hid
    · exact kW h hx.2 id hid
  | _ :: _, [], h, _, _ => h.elim
theorem vn {E : Env} {F : Fm} {γ : Gh} {m : Mem} {a : Act} {w : World} (h : Rel F γ m a w) (hg : cJ E.gl γ.fr w) {o : Oper} (hd : ∀ t, o.dst = some t → t < F.n) {nv nt : Nat} {t : TypeId} {x y : Operand} (ho : o.op = .store t x y) (hh : tF E o = true) {e : Eff}
    (he : an E m nv nt o = some e) {Q : Exit → Act → World → Prop} : o.wp E.P a w (ed E F (m.apply o.dst nv e)) Q := by
  have hx := dZ h hg x
  have hy := gF (P := E.P) (t := t) (dZ h hg y)
  simp only [an, ho] at he
  split at he
  · rename_i id off k hc hk
    split at he
    · rename_i xs hv
      split at he
      · rename_i hcond
        obtain ⟨hsz, hin, hinfo⟩ := hcond
        try rw [hh] at he
        try simp only [if_true] at he
        unfold ee at he
        split at he
        · rename_i cs hcs
          split at he
          · cases he
          · rename_i hnot
            simp only [Option.some.injEq] at he
            subst he
            rw [cell?_eq hc] at hx
            simp only [T.rep, K.rep, V.rep] at hx
            obtain ⟨b, o', hl, hp⟩ := hx
            rw [k?_eq hk] at hy
            simp only [T.rep] at hy
            have hkc := K.cells_rep hy
            obtain ⟨γ', e1, _, e3, e4, hrel', hx'⟩ := h.freeze (k.cells.flatMap V.vslIds) (kW h hkc)
            have hcr := Vs.frz_rep h hx' e3 hkc hcs e4
            have hnid : id ∉ k.cells.flatMap V.vslIds := by simpa using hnot
            have hlen : cs.length = k.cells.length := cz hcs
            have core := mX (E := E) hrel' (hg.mono hx'.ev) hd ho (id := id) (xs := xs) (cs := cs) (off := off) (b := b) (o' := o') (by simp only; rw [if_neg hnid]; exact hv) (by rw [e1]; exact hl) hp hcr (by omega) (by omega) hinfo (Q := Q)
            have hm : ∀ rv, m.apply o.dst nv { dst := .skip, uv := (id, xs.take off ++ cs ++ xs.drop (off + cs.length)) :: (k.cells.flatMap V.vslIds).map (fun i => (i, [])), rv := rv } = Mem.put { m with var := fun i => if i = id then some (xs.take off ++ cs ++ xs.drop (off + cs.length)) else if i ∈ k.cells.flatMap V.vslIds then some [] else m.var i } o.dst .skip := fun rv => by
              have ext : ∀ p q : Mem, p.tmp = q.tmp → p.var = q.var → p.tok = q.tok → p = q := fun p q h1 h2 h3 => by cases p; cases q; simp only at h1 h2 h3; subst h1 h2 h3; rfl
              refine ext _ _ (funext fun t => ?_) (funext fun i => ?_) (funext fun i => ?_)
              · simp only [Mem.apply, Mem.put_tmp]
              · simp only [Mem.apply, Mem.put_var, Option.isSome_none, Bool.false_eq_true, and_false, if_false, lk, xh]
                by_cases hi : i = id
                · subst hi
                  rw [if_neg hnid]
                  simp
                · by_cases hm : i ∈ k.cells.flatMap V.vslIds
                  · simp [hm, hi, Ne.symm hi]
                  · rw [if_neg hm, if_neg hi, if_neg hm]
                    simp [Ne.symm hi]
              · simp only [Mem.apply, Mem.put_tok, lk]
            rw [hm]
            exact core
        · cases he
      · cases he
    · cases he
  · cases he
theorem tH {E : Env} {F : Fm} {γ : Gh} {m : Mem} {a : Act} {w : World} (h : Rel F γ m a w) (hg : cJ E.gl γ.fr w) {o : Oper} (hd : ∀ t, o.dst = some t → t < F.n) {nv : Nat} {t : TypeId} {l c : Operand} (ho : o.op = .makeSlice t l c) {vs : Bool} {e : Eff}
    (he : ui E.P vs nv t (E.ev m l) (E.ev m c) = some e) (hnv : e.nv.isSome = true → m.var nv = none) {Q : Exit → Act → World → Prop} : o.wp E.P a w (ed E F (m.apply o.dst nv e)) Q := by
  unfold ui at he
  split at he
  · rename_i el q x q' y hu hl hc
    split at he
    · rename_i z i hz hi
      split at he
      · rename_i hcond
        obtain ⟨⟨hzl, hpos, hby⟩, rfl, h0, hmost⟩ := hcond
        have hlv := dZ h hg l
        rw [int?_eq hl, aL] at hlv
        have hcv := dZ h hg c
        rw [int?_eq hc, aL] at hcv
        obtain ⟨k, rfl⟩ : ∃ k : Nat, y = (k : Int) := ⟨y.toNat, by omega⟩
        simp only [Int.toNat_natCast] at he
        obtain ⟨zv0, hz0, hzc⟩ := Option.bind_eq_some_iff.1 hz
        obtain ⟨zv, _, hzrep, i', hi', hzi⟩ := eZ (γ := γ) (tok := m.tok) (w := w) hz0
        rw [hi] at hi'
        cases hi'
        have hzc' := eh hzc hzrep
        have hzlen : zv.cells.toList.length = E.P.cellsOf el := by rw [← hzc'.length]; exact hzl
        have hsz : i.size = E.P.cellsOf el := by unfold Program.cellsOf; rw [hi]; rfl
        have hcells : (madeCells zv.cells (k * i.size)).toList = (List.replicate k zv.cells.toList).flatten := by
          unfold madeCells
          rw [← ni k (z := zv.cells.toList), hsz, ← hzlen]
          simp only [Array.toList_map, Array.toList_range, Array.length_toList]
          apply List.map_congr_left
          intro j hj
          have hlt : j % zv.cells.size < zv.cells.size := Nat.mod_lt _ (by simp only [Array.length_toList] at hzlen; omega)
          simp [hlt]
        have hrep : aJ (C.rep γ.fr w) (List.replicate k z).flatten (madeCells zv.cells (k * i.size)).toList := by
          rw [hcells]
          exact fI hzc' k
        have hm9 : (k : Int) ≤ 1073741824 := hmost
        have hbytes : (i.bytes : Int) * (k : Int) ≤ 281474976710656 := by
          have h1 : i.bytes * k ≤ 131072 * 1073741824 := Nat.mul_le_mul hby (by omega)
          have h2 : ((i.bytes * k : Nat) : Int) ≤ ((131072 * 1073741824 : Nat) : Int) := by omega
          rw [Int.natCast_mul] at h2
          omega
        have hrun := run_make (P := E.P) w t el i zv hu hi hzi q q' (k : Int) (k : Int) (by omega) (Int.le_refl _) hbytes (by omega)
        simp only [Int.toNat_natCast] at hrun
        have hex : (execOp a.eval o).run E.P w = .ok (.value (.slice (some ⟨w.heap.size, 0, none⟩) k k)) (w.alloc (.cells (madeCells zv.cells (k * i.size)) el)) := by
          simp only [execOp, ho, hlv.1, hcv.1, Sem.run_bind, hrun, Result.andThen_ok, Sem.run_pure]
        split at he
        · cases he
          have hb : Below w.heap.size w (w.alloc (.cells (madeCells zv.cells (k * i.size)) el)) := (Below.refl _ w).alloc (Nat.le_refl _) _
          have hcell : ∀ q : Nat, (w.alloc (.cells (madeCells zv.cells (k * i.size)) el)).cell? ⟨w.heap.size, 0 + q, none⟩ = (madeCells zv.cells (k * i.size))[0 + q]? := fun q => World.cell?_alloc_new w _ el (0 + q)
          obtain ⟨h2, hex2⟩ := Rel.newRowVar h hb (id := nv) (hnv rfl) (V.cells_rep (tok := m.tok) hrep) (fun q v hq => by
            rw [hcell, Nat.zero_add]
            simpa using hq) (fun q hq => by
            have hql : q < (madeCells zv.cells (k * i.size)).size := by
              have := hrep.length
              rw [List.length_map] at hq
              simp only [Array.length_toList] at this
              omega
            refine ⟨by rw [hcell, Nat.zero_add, Array.getElem?_eq_getElem hql]; rfl, ?_⟩
            have hpush : (w.alloc (.cells (madeCells zv.cells (k * i.size)) el)).heap[w.heap.size]? = some (.cells (madeCells zv.cells (k * i.size)) el) := by show (w.heap.push _)[w.heap.size]? = _; exact Array.getElem?_push_size
            simp only [World.frozen?, hpush]
            simp) (by simp)
          refine d8 hex ⟨_, ?_, hg.mono hex2.ev⟩
          rw [Mem.apply_newVar]
          refine h2.put hd ?_
          simp only [T.rep, K.rep, V.rep]
          exact ⟨w.heap.size, 0, k, by simp, by simp, Nat.le_refl _⟩
        · cases he
          exact ke h hg hd (t := el) hrep (fun y hy => by rw [List.eq_of_mem_replicate hy]; exact hzl) (by simp) hex
      · cases he
    · cases he
  · cases he
theorem kx {E : Env} (hE : EnvOk E) {F : Fm} {γ : Gh} {m : Mem} {a : Act} {w : World} (h : Rel F γ m a w) (hg : cJ E.gl γ.fr w) {d : Option Tmp} (hd : ∀ t, d = some t → t < F.n) {nv : Nat} (hnv : m.var nv = none) {g : FuncId} {sz : Nat} (hcl : E.cl g = some sz) {xs : List T} {vs : List Value} (hx : aJ (T.rep γ m.tok w) xs vs) {e : Eff} (he : gW nv sz xs = some e) :
    Enters E.P g ∧ Calls E.P g (vs ++ []).toArray w fun
      | .returned v, w' => ed E F (m.apply d nv e) (a.put d v) w'
      | _, _ => False := by
  obtain ⟨hent, hc⟩ := hE.cln g sz hcl
  refine ⟨hent, ?_⟩
  unfold gW at he
  split at he
  · rename_i x
    split at he
    · rename_i v hv
      split at he
      · rename_i sz' es hs
        split at he
        · rename_i hcond
          obtain ⟨rfl, hpos, hmost⟩ := hcond
          cases he
          match vs, hx with
          | [u], hx =>
            have h1 := hx.1
            rw [cell?_eq hv] at h1
            have hr := dM hs h1
            simp only [List.append_nil]
            refine (hc γ.fr w u es hr hpos hmost).mono fun en w' hp => ?_
            obtain ⟨w1, cap, news, rfl, hcap, hb1, hb2, hnews, hrange, hthere, hlt⟩ := hp
            obtain ⟨hg1, hex1⟩ := h.grow hb1 (fr' := γ.fr) (fun _ _ h => h) (fun _ _ h => .inl h)
            have hnews1 : aJ (C.rep γ.fr w1) es.flatten news := hnews
            obtain ⟨h2, hex2⟩ := Rel.newRowVar hg1 hb2 (id := nv) hnv (V.cells_rep (tok := m.tok) hnews1) hrange (by
              have hl := hnews.length
              rw [List.length_map, hl]; exact hthere) hlt
            refine ⟨_, ?_, (hg.mono hex1.ev).mono hex2.ev⟩
            rw [Mem.apply_newVar]
            refine h2.put hd ?_
            simp only [T.rep, K.rep, V.rep]
            exact ⟨w1.heap.size, 0, cap, by simp, by simp, hcap⟩
          | [], hx => exact hx.elim
          | _ :: _ :: _, hx => exact hx.2.elim
        · cases he
      · cases he
    · cases he
  · cases he
theorem qo {α β : Type} {f : α → Option β} : ∀ {xs : List α} {ys : List β}, xs.mapM f = some ys → ∀ (i : Nat), ys[i]? = (xs[i]?).bind f
  | [], ys, h, i => by simp at h; subst h; simp
  | x :: xs, ys, h, i => by
    rw [List.mapM_cons] at h
    simp only [Option.pure_def, Option.bind_eq_bind, Option.bind_eq_some_iff, Option.some.injEq] at h
    obtain ⟨y, hy, r, hr, rfl⟩ := h
    cases i with
    | zero => simp [hy]
    | succ i => simpa using qo hr i
theorem qc {α : Type} {f : Nat → Option α} {n : Nat} {ys : List α} (h : (List.range n).mapM f = some ys) (hf : ∀ i, n ≤ i → f i = none) (i : Nat) : ys[i]? = f i := by
  rw [qo h i]
  rcases Nat.lt_or_ge i n with hi | hi
  · rw [List.getElem?_range hi]; rfl
  · rw [List.getElem?_eq_none (by simpa using hi), hf i hi]; rfl
theorem q6 {α : Type} : ∀ (l : List α) (k i : Nat), lk (zh k l) i = if k ≤ i then l[i - k]? else none
  | [], k, i => by simp [zh, lk]
  | x :: l, k, i => by
    simp only [zh, lk, q6 l (k + 1) i]
    by_cases h1 : k + 1 ≤ i
    · rw [if_pos h1, if_pos (show k ≤ i by omega), show i - k = (i - (k + 1)) + 1 by omega, List.getElem?_cons_succ]
      cases l[i - (k + 1)]? with
      | some y => rfl
      | none => rw [if_neg (show ¬ k = i by omega)]
    · rw [if_neg h1]
      by_cases h2 : k = i
      · subst h2; simp
      · rw [if_neg h2, if_neg (show ¬ k ≤ i by omega)]
theorem Ab {γ : Gh} {tok : Nat → Option Nat} {w : World} : ∀ {xs : List T} {ks : List K} {vs : List Value}, xs.mapM T.k? = some ks → aJ (T.rep γ tok w) xs vs → aJ (K.rep γ tok w) ks vs
  | [], ks, vs, h, hx => by
    simp at h; subst h
    cases vs with
    | nil => trivial
    | cons _ _ => exact hx.elim
  | x :: xs, ks, vs, h, hx => by
    rw [List.mapM_cons] at h
    simp only [Option.pure_def, Option.bind_eq_bind, Option.bind_eq_some_iff, Option.some.injEq] at h
    obtain ⟨y, hy, r, hr, rfl⟩ := h
    cases vs with
    | nil => exact hx.elim
    | cons v vs =>
      refine ⟨?_, Ab hr hx.2⟩
      have h1 := hx.1
      rw [k?_eq hy] at h1
      exact h1
theorem sA {γ : Gh} {tok : Nat → Option Nat} {w : World} : ∀ {cs : List (C ⊕ (Nat × Nat))} {vs : List Value}, aJ (gc γ w) cs vs → aJ (K.rep γ tok w) (cs.map E8) vs
  | [], [], _ => trivial
  | [], _ :: _, h => h.elim
  | _ :: _, [], h => h.elim
  | c :: cs, v :: vs, h => by
    refine ⟨?_, sA h.2⟩
    have h1 := h.1
    cases c with
    | inl x => exact h1
    | inr p => obtain ⟨id, off⟩ := p; exact h1
theorem s7 {γ : Gh} {w : World} : ∀ {cs : List C} {vs : List Value}, aJ (C.rep γ.fr w) cs vs → aJ (gc γ w) (cs.map .inl) vs
  | [], [], _ => trivial
  | [], _ :: _, h => h.elim
  | _ :: _, [], h => h.elim
  | _ :: _, _ :: _, h => ⟨h.1, s7 h.2⟩
def EI (F : Fm) (m : Mem) (nv nt : Nat) : Prop := (∀ i, nv ≤ i → m.var i = none) ∧ (∀ i, nt ≤ i → m.tok i = none) ∧ F.gn ≤ nv ∧ F.gk ≤ nt ∧ F.locs.length ≤ nv
theorem pr {E : Env} (hE : EnvOk E) {F : Fm} {γ : Gh} {m : Mem} {a : Act} {w : World} (h : Rel F γ m a w) (hg : cJ E.gl γ.fr w) {d : Option Tmp} (hd : ∀ t, d = some t → t < F.n) {nv nt : Nat} (hal : EI F m nv nt) {g : FuncId} {caps : List (C ⊕ (Nat × Nat))} {cv : List Value}
    (hcap : aJ (gc γ w) caps cv) {xs : List T} {vs : List Value} (hx : aJ (T.rep γ m.tok w) xs vs) {e : Eff} (he : uy E m nv nt g caps xs = some e) :
    Enters E.P g ∧ Calls E.P g (vs ++ cv).toArray w fun
      | .returned v, w' => ed E F (m.apply d nv e) (a.put d v) w'
      | _, _ => False := by
  obtain ⟨hvn, htn, hgn, hgk, hloc⟩ := hal
  unfold uy at he
  split at he
  · rename_i vs0 ts0 ks hv0 ht0 hks
    split at he
    · rename_i rs vs' ts' hI
      split at he
      · rename_i hle
        cases he
        obtain ⟨hent, hm⟩ := hE.inl g _ _ _ _ _ _ hI
        have e1 : (fun (i : Nat) => vs0[i]?) = m.var := funext fun i => qc hv0 hvn i
        have e2 : (fun (i : Nat) => ts0[i]?) = m.tok := funext fun i => qc ht0 htn i
        have l1 : vs0.length = nv := by have := cz hv0; simpa using this
        have l2 : ts0.length = nt := by have := cz ht0; simpa using this
        refine ⟨hent, (hm F γ m.tmp a w (vs ++ cv) (by rw [e1, e2]; exact h) hg (by omega) (by omega) (by omega) ?_).mono fun en w' hp => ?_⟩
        · rw [e2]
          exact (Ab hks hx).append (sA hcap)
        · obtain ⟨us, γ', rfl, hr, hgl, hu⟩ := hp
          have hmem : m.apply d nv (lw rs vs' ts') = Mem.put ⟨m.tmp, fun i => vs'[i]?, fun i => ts'[i]?⟩ d (uD rs) := by
            have ext : ∀ p q : Mem, p.tmp = q.tmp → p.var = q.var → p.tok = q.tok → p = q := fun p q h1 h2 h3 => by cases p; cases q; simp only at h1 h2 h3; subst h1 h2 h3; rfl
            refine ext _ _ (funext fun t => ?_) (funext fun i => ?_) (funext fun i => ?_)
            · simp only [Mem.apply, lw, Mem.put_tmp]
            · simp only [Mem.apply, lw, Mem.put_var, Option.isSome_none, Bool.false_eq_true, and_false, if_false]
              rw [q6, if_pos (Nat.zero_le _), Nat.sub_zero]
              cases hi : vs'[i]? with
              | some y => rfl
              | none => exact hvn i (by have := List.getElem?_eq_none_iff.1 hi; omega)
            · simp only [Mem.apply, lw, Mem.put_tok]
              rw [q6, if_pos (Nat.zero_le _), Nat.sub_zero]
              cases hi : ts'[i]? with
              | some y => rfl
              | none => exact htn i (by have := List.getElem?_eq_none_iff.1 hi; omega)
          show ed E F _ _ w'
          rw [hmem]
          exact ⟨γ', hr.put hd (iK hu), hgl⟩
      · cases he
    · cases he
  · cases he
theorem tB {E : Env} (hE : EnvOk E) {F : Fm} {γ : Gh} {m : Mem} {a : Act} {w : World} (h : Rel F γ m a w) (hg : cJ E.gl γ.fr w) {o : Oper} (hd : ∀ t, o.dst = some t → t < F.n) {nv nt : Nat} {f : Operand} {args : Array Operand} {argTypes : Array TypeId}
    (ho : o.op = .call { callee := .value f, args, argTypes }) {e : Eff} (he : an E m nv nt o = some e) (hal : e.al = true → EI F m nv nt) (hnv : e.nv.isSome = true → m.var nv = none) (hnt : ∀ i n, (i, n) ∈ e.ut → i ∉ e.rt → m.tok i = none) {Q : Exit → Act → World → Prop} : o.wp E.P a w (ed E F (m.apply o.dst nv e)) Q := by
  have hf := dZ h hg f
  have hxs : aJ (T.rep γ m.tok w) (ex E.P argTypes.toList (args.toList.map (E.ev m))) (args.toList.map a.eval) := dI (oB (fun x => dZ h hg x) args.toList)
  have enter : ∀ (g : FuncId) (ev : List Value), a.eval f = .func (.func g) #[] ev.toArray → (Enters E.P g ∧ Calls E.P g (args.toList.map a.eval ++ ev).toArray w fun
      | .returned v, w' => ed E F (m.apply o.dst nv e) (a.put o.dst v) w'
      | _, _ => False) → o.wp E.P a w (ed E F (m.apply o.dst nv e)) Q := by
    intro g ev hfv hec
    obtain ⟨⟨fn, hfn, hbody, hname⟩, hcalls⟩ := hec
    have hrun : (execOp a.eval o).run E.P w = .ok (.enter g (args.toList.map a.eval ++ ev).toArray) w := by
      have hb : fn.body.isNone = false := by
        cases hq : fn.body with
        | none => simp [hq] at hbody
        | some _ => rfl
      have harr : args.map a.eval ++ ev.toArray = (args.toList.map a.eval ++ ev).toArray := by
        apply Array.ext'
        simp
      simp only [execOp, ho, resolve, hfv, Deferred.ofValue, invoke, callFunc, Sem.run_bind, Sem.run_pure, Result.andThen_ok, run_program, hfn, hname, hb]
      simp only [Array.empty_append, Bool.false_eq_true, if_false, Sem.run_pure, harr]
    unfold Oper.wp
    rw [hrun]
    refine hcalls.mono fun e w' hp => ?_
    cases e with
    | returned v => exact hp
    | panicked _ => exact hp.elim
    | outgrown => exact hp.elim
  have alI : ∀ {g : FuncId} {caps : List (C ⊕ (Nat × Nat))}, uy E m nv nt g caps (ex E.P argTypes.toList (args.toList.map (E.ev m))) = some e → e.al = true := fun he => by
    unfold uy at he
    split at he
    · split at he
      · split at he
        · cases he; rfl
        · cases he
      · cases he
    · cases he
  have nvC : ∀ {sz : Nat} {xs : List T}, gW nv sz xs = some e → e.nv.isSome = true := fun he => by
    unfold gW at he
    split at he
    · split at he
      · split at he
        · split at he
          · cases he; rfl
          · cases he
        · cases he
      · cases he
    · cases he
  simp only [an, ho] at he
  unfold nE at he
  split at he
  · rename_i g caps hc
    rw [cell?_eq hc] at hf
    simp only [T.rep, K.rep, V.rep] at hf
    obtain ⟨ev, hfv, hev⟩ := hf
    split at he
    · split at he
      · rename_i sz hcl
        cases ev with
        | nil => exact enter g [] hfv (kx hE h hg hd (hnv (nvC he)) hcl hxs he)
        | cons _ _ => exact hev.elim
      · cases he
    split at he
    · exact enter g ev hfv (pr hE h hg hd (hal (alI he)) hev hxs he)
    · cases caps with
      | nil =>
        cases ev with
        | nil => exact enter g [] hfv (oW hE h hg hd (nv := nv) (extra := []) (ev := []) trivial hxs he hnt)
        | cons _ _ => exact hev.elim
      | cons _ _ => cases he
  · rename_i g caps hc
    rw [cell?_eq hc] at hf
    simp only [T.rep, K.rep, V.rep, C.rep] at hf
    obtain ⟨ev, hfv, hev⟩ := hf
    split at he
    · split at he
      · rename_i sz hcl
        cases ev with
        | nil => exact enter g [] hfv (kx hE h hg hd (hnv (nvC he)) hcl hxs he)
        | cons _ _ => exact (dJ.1 hev).elim
      · cases he
    split at he
    · exact enter g ev hfv (pr hE h hg hd (hal (alI he)) (s7 (dJ.1 hev)) hxs he)
    · exact enter g ev hfv (oW hE h hg hd (nv := nv) (dJ.1 hev) hxs he hnt)
  · cases he
theorem sK {E : Env} (hE : EnvOk E) {F : Fm} {γ : Gh} {m : Mem} {a : Act} {w : World} (h : Rel F γ m a w) (hg : cJ E.gl γ.fr w) {o : Oper} (hd : ∀ t, o.dst = some t → t < F.n) {nv nt : Nat} {e : Eff}
    (he : an E m nv nt o = some e) (hal : e.al = true → EI F m nv nt) (hnv : e.nv.isSome = true → m.var nv = none) (hnt : ∀ i n, (i, n) ∈ e.ut → i ∉ e.rt → m.tok i = none) {Q : Exit → Act → World → Prop} : o.wp E.P a w (ed E F (m.apply o.dst nv e)) Q := by
  have hev : ∀ x, (E.ev m x).rep γ m.tok w (a.eval x) := fun x => dZ h hg x
  cases ho : o.op with
  | load t x => exact tV h hg hd ho he
  | store t x y =>
    cases hh : tF E o with
    | true => exact vn h hg hd ho hh he
    | false => exact qQ h hg hd ho hh he
  | call c =>
    obtain ⟨callee, args, argTypes⟩ := c
    cases callee with
    | value f => exact tB hE h hg hd ho he hal hnv hnt
    | invoke r mth => simp [an, ho] at he
    | builtin b =>
      cases b with
      | append =>
        simp only [an, ho] at he
        split at he
        · refine nB h hg hd ho he (hnv ?_)
          unfold jx at he
          split at he
          · split at he
            · split at he
              · split at he
                · cases he; rfl
                · cases he
              · cases he
            · cases he
          · cases he
        · exact pk h hg hd ho he hnt
      | len =>
        simp only [an, ho] at he
        split at he
        · rename_i t ts x hty hargs
          simp only [Option.map_eq_some_iff] at he
          obtain ⟨r, hr, rfl⟩ := he
          obtain ⟨v, h1, h2⟩ := ub (ts := ts) (ty := o.type) hr (hev x)
          refine aR h hg hd (v := v) ?_ h2
          have hte : argTypes = (t :: ts).toArray := by rw [← hty]
          have hae : args = #[x] := by rw [← Array.toArray_toList (xs := args), hargs]
          simp only [execOp, ho, resolve, invoke, builtin, Sem.run_bind, Sem.run_pure, Result.andThen_ok, hae, hte]
          simp only [List.map_toArray, List.map_cons, List.map_nil, h1, Result.andThen_ok]
        · cases he
      | min =>
        simp only [an, ho] at he
        split at he
        · rename_i x xs hargs
          simp only [Option.map_eq_some_iff] at he
          obtain ⟨r, hr, rfl⟩ := he
          obtain ⟨v, h1, h2⟩ := gi (P := E.P) true hr (hev x) (oB (fun x => hev x) xs)
          refine aR h hg hd (v := v) ?_ h2
          have hae : args = (x :: xs).toArray := by rw [← hargs]
          simp only [if_true] at h1
          simp only [execOp, ho, resolve, invoke, builtin, Sem.run_bind, Sem.run_pure, Result.andThen_ok, hae, Builtin.min_]
          simp only [List.map_toArray, List.map_cons, h1, Result.andThen_ok]
        · cases he
      | max =>
        simp only [an, ho] at he
        split at he
        · rename_i x xs hargs
          simp only [Option.map_eq_some_iff] at he
          obtain ⟨r, hr, rfl⟩ := he
          obtain ⟨v, h1, h2⟩ := gi (P := E.P) false hr (hev x) (oB (fun x => hev x) xs)
          refine aR h hg hd (v := v) ?_ h2
          have hae : args = (x :: xs).toArray := by rw [← hargs]
          simp only [Bool.false_eq_true, if_false] at h1
          simp only [execOp, ho, resolve, invoke, builtin, Sem.run_bind, Sem.run_pure, Result.andThen_ok, hae, Builtin.max_]
          simp only [List.map_toArray, List.map_cons, h1, Result.andThen_ok]
        · cases he
      | _ => simp [an, ho] at he
  | move x =>
    simp only [an, ho, Option.some.injEq] at he
    subst he
    refine aR h hg hd (by simp [execOp, ho]) (v := a.eval x) ?_
    cases x with
    | const v => exact gF (hev _)
    | _ => exact hev _
  | assign x =>
    simp only [an, ho, Option.some.injEq] at he
    subst he
    refine aR h hg hd (by simp [execOp, ho]) (v := a.eval x) ?_
    cases x with
    | const v => exact gF (hev _)
    | _ => exact hev _
  | pick c x y =>
    simp only [an, ho] at he
    split at he
    · rename_i q hq
      cases he
      have hc := hev c
      rw [bool?_eq hq, aL] at hc
      refine aR h hg hd (v := if q then a.eval x else a.eval y) (by simp [execOp, ho, hc.1, asBool]) ?_
      cases q
      · exact hev y
      · exact hev x
    · cases he
  | alloc t =>
    simp only [an, ho] at he
    split at he
    · rename_i cs hz
      cases he
      obtain ⟨z, hzr, hzrep, _⟩ := eZ (γ := γ) (tok := m.tok) (w := w) hz
      refine ki h hg hd (hnv rfl) hzrep (t := t) ?_
      simp [execOp, ho, Instr.alloc, hzr, newVar, newRow]
    · cases he
  | box t x =>
    simp only [an, ho] at he
    split at he
    · rename_i k hk
      cases he
      have hx := hev x
      rw [k?_eq hk] at hx
      refine ki h hg hd (hnv rfl) (K.cells_rep hx) (t := t) ?_
      simp [execOp, ho, Instr.box, newVar, newRow]
    · cases he
  | build t parts =>
    simp only [an, ho, Option.map_eq_some_iff] at he
    obtain ⟨r, hr, rfl⟩ := he
    obtain ⟨v, h1, h2⟩ := o4 hr (la (f := E.ev m) (g := a.eval) hev parts.toList)
    refine aR h hg hd (v := v) ?_ h2
    have hp : (parts.map fun (i, x) => (i, a.eval x)) = (parts.toList.map fun (i, x) => (i, a.eval x)).toArray := by apply Array.ext'; simp
    simp only [execOp, ho, hp, Sem.run_bind, h1, Result.andThen_ok, Sem.run_pure]
  | buildSlice t len parts =>
    simp only [an, ho, Option.map_eq_some_iff] at he
    obtain ⟨r, hr, rfl⟩ := he
    exact mt h hg hd ho hr
  | makeSlice t l c =>
    simp only [an, ho] at he
    exact tH h hg hd ho he hnv
  | nilCheck x =>
    have hx := hev x
    simp only [an, ho] at he
    split at he
    · rename_i hc
      cases he
      refine aR h hg hd (v := a.eval x) ?_ hx
      rw [cell?_eq hc] at hx
      simp only [T.rep, K.rep, V.rep] at hx
      obtain ⟨_, _, _, hv⟩ := hx
      simp [execOp, ho, hv]
    · rename_i hc
      cases he
      refine aR h hg hd (v := a.eval x) ?_ hx
      rw [cell?_eq hc] at hx
      simp only [T.rep, K.rep, V.rep, C.rep] at hx
      obtain ⟨_, _, hv, _⟩ := hx
      simp [execOp, ho, hv]
    · rename_i hc
      cases he
      refine aR h hg hd (v := a.eval x) ?_ hx
      rw [cell?_eq hc] at hx
      simp only [T.rep, K.rep, V.rep] at hx
      obtain ⟨_, hv, _⟩ := hx
      simp [execOp, ho, hv]
    · rename_i hc
      cases he
      refine aR h hg hd (v := a.eval x) ?_ hx
      rw [cell?_eq hc] at hx
      simp only [T.rep, K.rep, V.rep, C.rep] at hx
      obtain ⟨_, hv, _⟩ := hx
      simp [execOp, ho, hv]
    · cases he
  | binOp op t x y yt =>
    simp only [an, ho, Option.map_eq_some_iff] at he
    obtain ⟨r, hr, rfl⟩ := he
    obtain ⟨v, h1, h2⟩ := ul (ox := x) (oy := y) hr (hev x) (hev y)
    refine aR h hg hd (v := v) ?_ h2
    simp only [execOp, ho]
    rw [Sem.run_bind, h1]
    rfl
  | unOp op t x =>
    simp only [an, ho, Option.map_eq_some_iff] at he
    obtain ⟨r, hr, rfl⟩ := he
    obtain ⟨v, h1, h2⟩ := vC (P := E.P) hr (hev x)
    exact aR h hg hd (v := v) (by simp [execOp, ho, h1]) h2
  | convert src dst x =>
    simp only [an, ho, Option.map_eq_some_iff] at he
    obtain ⟨r, hr, rfl⟩ := he
    obtain ⟨v, h1, h2⟩ := qO (P := E.P) hr (hev x)
    exact aR h hg hd (v := v) (by simp [execOp, ho, h1]) h2
  | makeFunc fn first caps =>
    cases fn with
    | func f =>
      simp only [an, ho] at he
      split at he
      · rename_i hf
        simp only [Option.map_eq_some_iff] at he
        obtain ⟨cs, hcs, rfl⟩ := he
        have hfe : first = #[] := by simpa using hf
        have hc : aJ (gc γ w) cs (caps.toList.map a.eval) := rN (fun x b _ hb => mz hb (hev x)) hcs
        refine aR h hg hd (v := .func (.func f) #[] (caps.map a.eval)) (by simp [execOp, ho, Instr.makeFunc, hfe]) ?_
        simp only [T.rep, K.rep, V.rep]
        exact ⟨caps.toList.map a.eval, by congr 1; apply Array.ext'; simp, hc⟩
      · cases he
    | _ => simp [an, ho] at he
  | slice t x lo hi mx =>
    simp only [an, ho, Option.map_eq_some_iff] at he
    obtain ⟨r, hr, rfl⟩ := he
    obtain ⟨v, h1, h2⟩ := o8 (P := E.P) hr (hev x) (jV hev lo) (jV hev hi) (jV hev mx)
    exact aR h hg hd (v := v) (by simp [execOp, ho, h1]) h2
  | fieldAddr s x i =>
    simp only [an, ho, Option.map_eq_some_iff] at he
    obtain ⟨r, hr, rfl⟩ := he
    obtain ⟨v, h1, h2⟩ := kD (P := E.P) hr (hev x)
    exact aR h hg hd (v := v) (by simp [execOp, ho, h1]) h2
  | field s x i =>
    simp only [an, ho, Option.map_eq_some_iff] at he
    obtain ⟨r, hr, rfl⟩ := he
    obtain ⟨v, h1, h2⟩ := pv (P := E.P) hr (hev x)
    exact aR h hg hd (v := v) (by simp [execOp, ho, h1]) h2
  | indexAddr t x i =>
    simp only [an, ho, Option.map_eq_some_iff] at he
    obtain ⟨r, hr, rfl⟩ := he
    obtain ⟨v, h1, h2⟩ := kH (P := E.P) hr (hev x) (hev i)
    exact aR h hg hd (v := v) (by simp [execOp, ho, h1]) h2
  | index t x i =>
    simp only [an, ho, Option.map_eq_some_iff] at he
    obtain ⟨r, hr, rfl⟩ := he
    obtain ⟨v, h1, h2⟩ := qd (P := E.P) hr (hev x) (hev i)
    exact aR h hg hd (v := v) (by simp [execOp, ho, h1]) h2
  | lookup t x i ok =>
    simp only [an, ho, Option.map_eq_some_iff] at he
    obtain ⟨r, hr, rfl⟩ := he
    obtain ⟨v, h1, h2⟩ := nT (P := E.P) hr (hev x) (hev i)
    exact aR h hg hd (v := v) (by simp [execOp, ho, h1]) h2
  | extract x i =>
    have hx := hev x
    simp only [an, ho] at he
    split at he
    · rename_i ks hk
      rw [hk] at hx
      simp only [Option.map_eq_some_iff] at he
      obtain ⟨k, hki, rfl⟩ := he
      simp only [T.rep] at hx
      obtain ⟨vs, hv, hks⟩ := hx
      obtain ⟨v, hvi, hr⟩ := hks.get i k hki
      exact aR h hg hd (v := v) (by simp [execOp, ho, hv, Instr.extract, hvi]) (by simpa only [T.rep] using hr)
    · cases he
  | _ => simp [an, ho] at he
end Go.Dm
namespace Go.Dm
open Go.RowKit
theorem q8 {m m' : Mem} {caps : List (C ⊕ (Nat × Nat))} (h : ∀ id ∈ caps.flatMap fP, m'.var id = m.var id) : caps.mapM (kJ m') = caps.mapM (kJ m) := by
  induction caps with
  | nil => rfl
  | cons x xs ih =>
    rw [List.mapM_cons, List.mapM_cons, ih (fun id hid => h id (by simp only [List.flatMap_cons, List.mem_append]; exact .inr hid))]
    congr 1
    cases x with
    | inl x => rfl
    | inr p => simp only [kJ, sx, h p.1 (by simp [fP])]
theorem bL {P : Program} {m m' : Mem} : ∀ {tys : List TypeId} {xs : List T} {k : Nat} {as : List A} {ls : List (Nat × Nat × List C)} {rs : List Nat}, bP P m tys xs k = some (as, ls, rs) →
    (∀ id ∈ rs, m'.var id = m.var id) → (∀ l ∈ ls, m'.var l.1 = m.var l.1) → bP P m' tys xs k = some (as, ls, rs)
  | [], [], k, as, ls, rs, h, _, _ => h
  | t :: ts, x :: xs, k, as, ls, rs, h, hr, hl => by
    simp only [bP] at h ⊢
    split at h
    · split at h
      · rename_i cs as' ls' rs' hcs hrec
        simp only [Option.some.injEq, Prod.mk.injEq] at h
        obtain ⟨rfl, rfl, rfl⟩ := h
        simp only [hcs, bL hrec hr hl]
      · cases h
    · rename_i id off
      split at h
      · rename_i e ys hu hv
        split at h
        · rename_i hle
          split at h
          · rename_i cs as' ls' rs' hcs hrec
            simp only [Option.some.injEq, Prod.mk.injEq] at h
            obtain ⟨rfl, rfl, rfl⟩ := h
            have h1 := hl (id, off, cs) (by simp)
            simp only at h1
            simp only [hu, h1, hv, hle, if_true, hcs, bL hrec hr (fun l hl' => hl l (by simp [hl']))]
          · cases h
        · cases h
      · cases h
    · rename_i id off sz n
      split at h
      · rename_i cs hcs
        split at h
        · rename_i es as' ls' rs' hes hrec
          simp only [Option.some.injEq, Prod.mk.injEq] at h
          obtain ⟨rfl, rfl, rfl⟩ := h
          have hs : sx m' id off = some cs := by unfold sx at hcs ⊢; rw [hr id (by simp)]; exact hcs
          simp only [hs, hes, bL hrec (fun i hi => hr i (by simp [hi])) hl]
        · cases h
      · cases h
    · rename_i f caps
      split at h
      · rename_i cs as' ls' rs' hcs hrec
        simp only [Option.some.injEq, Prod.mk.injEq] at h
        obtain ⟨rfl, rfl, rfl⟩ := h
        rw [← q8 (m' := m') (fun i hi => hr i (by simp only [List.mem_append]; exact .inl hi))] at hcs
        simp only [hcs, bL hrec (fun i hi => hr i (by simp [hi])) hl]
      · cases h
    · split at h
      · rename_i c as' ls' rs' hcs hrec
        simp only [Option.some.injEq, Prod.mk.injEq] at h
        obtain ⟨rfl, rfl, rfl⟩ := h
        simp only [hcs, bL hrec hr hl]
      · cases h
    · cases h
  | [], _ :: _, _, _, _, _, h, _, _ => by simp [bP] at h
  | _ :: _, [], _, _, _, _, h, _, _ => by simp [bP] at h
theorem qa {E : Env} {m m' : Mem} {nt : Nat} {g : FuncId} {extra : List C} {tys : List TypeId} {xs : List T} {e : Eff} (he : gm E m nt g extra tys xs = some e) (hv : ∀ id ∈ e.rv, m'.var id = m.var id) : gm E m' nt g extra tys xs = some e := by
  unfold gm at he ⊢
  split at he
  · rename_i as ls rs hargs
    split at he
    · rename_i res ims hF
      simp only at he
      split at he
      · split at he
        · rename_i hc
          cases he
          rw [bL hargs hv (by simp)]
          simp only [hF, hc, if_true]
        · rename_i hc
          cases he
          rw [bL hargs hv (by simp)]
          simp only [hF, hc, if_false, Bool.false_eq_true]
      · rename_i id off cs ds
        split at he
        · rename_i ys hvid
          split at he
          · rename_i hc
            cases he
            have hrs : rs = [] := by simpa using hc.1
            subst hrs
            have h1 := hv id (by simp)
            rw [bL hargs (by simp) (fun l hl => by simp at hl; subst hl; exact h1)]
            simp only [hF, h1, hvid]
            rw [if_pos hc]
          · cases he
        · cases he
      · cases he
    · cases he
  · cases he
theorem m5 {m m' : Mem} : ∀ {as : List A} {xs : List T} {as' : List A} {j n : Nat}, tm m as xs = some (as', j, n) → m'.tok j = m.tok j → tm m' as xs = some (as', j, n)
  | a0 :: as, x :: xs, as', j, n, h, hj => by
    simp only [tm] at h ⊢
    split at h
    · split at h
      · rename_i hi
        cases h
        rw [if_pos (by rw [hj]; exact hi)]
      · cases h
    · simp only [Option.map_eq_some_iff] at h
      obtain ⟨⟨as1, j1, n1⟩, hr, he⟩ := h
      simp only [Prod.mk.injEq] at he
      obtain ⟨rfl, rfl, rfl⟩ := he
      rw [m5 hr hj]
      rfl
  | [], _, _, _, _, h, _ => by simp [tm] at h
  | _ :: _, [], _, _, _, h, _ => by simp [tm] at h
theorem mh {E : Env} {m m' : Mem} {nt : Nat} {g : FuncId} {extra : List C} {tys : List TypeId} {xs : List T} {e : Eff} (he : l7 E m nt g extra tys xs = some e) (hv : ∀ id ∈ e.rv, m'.var id = m.var id) (hk : ∀ i ∈ e.rt, m'.tok i = m.tok i) : l7 E m' nt g extra tys xs = some e := by
  unfold l7 at he ⊢
  split at he
  · rename_i hc
    rw [if_pos hc]
    unfold jF at he ⊢
    split at he
    · rename_i as hargs
      split at he
      · rename_i as' j n htop
        split at he
        · rename_i res hF
          split at he
          · rename_i hjn
            cases he
            rw [bL hargs (by simp) (by simp)]
            simp only [m5 htop (hk j (by simp [kq])), hF, hjn, if_true]
          · cases he
        · cases he
      · cases he
    · cases he
  · rename_i hc
    rw [if_neg hc]
    exact qa he hv
theorem og {P : Program} {m m' : Mem} {nt : Nat} {tys : List TypeId} {xs : List T} {e : Eff} (he : gr P m nt tys xs = some e) (hk : ∀ i ∈ e.rt, m'.tok i = m.tok i) : gr P m' nt tys xs = some e := by
  unfold gr at he ⊢
  split at he
  · split at he
    · split at he
      · split at he
        · rename_i hc
          rw [if_pos hc]
          split at he
          · exact he
          · split at he
            · rename_i hcj
              cases he
              rw [if_pos ⟨hcj.1, by rw [hk _ (by simp)]; exact hcj.2⟩]
            · cases he
        · cases he
      · cases he
    · cases he
  · cases he
theorem uZ {m m' : Mem} {x : V} (h : ∀ id ∈ x.vslIds, m'.var id = m.var id) : x.frz m' = x.frz m := by
  cases x with
  | vsl id off sz n => simp only [V.frz, sx, h id (by simp [V.vslIds])]
  | _ => rfl
theorem mL {m m' : Mem} : ∀ {xs : List V}, (∀ id ∈ xs.flatMap V.vslIds, m'.var id = m.var id) → xs.mapM (V.frz m') = xs.mapM (V.frz m)
  | [], _ => rfl
  | x :: xs, h => by
    rw [List.mapM_cons, List.mapM_cons, uZ (fun id hid => h id (by simp only [List.flatMap_cons, List.mem_append]; exact .inl hid)), mL (fun id hid => h id (by simp only [List.flatMap_cons, List.mem_append]; exact .inr hid))]
theorem ic {m : Mem} {id off : Nat} {xs ks : List V} {e : Eff} (he : ee m id off xs ks = some e) : e.rv = id :: ks.flatMap V.vslIds ∧ e.ut = [] := by
  unfold ee at he
  split at he
  · split at he
    · cases he
    · cases he; exact ⟨rfl, rfl⟩
  · cases he
theorem mr {m m' : Mem} {id off : Nat} {xs ks : List V} {e : Eff} (he : ee m id off xs ks = some e) (hv : ∀ i ∈ e.rv, m'.var i = m.var i) : ee m' id off xs ks = some e := by
  have hr := (ic he).1
  unfold ee at he ⊢
  rw [mL (fun i hi => hv i (by rw [hr]; exact List.mem_cons_of_mem _ hi))]
  exact he
theorem px {E : Env} {m m' : Mem} {nv nt : Nat} {o : Oper} {e : Eff} (he : an E m nv nt o = some e) (hal : e.al = false) (ht : ∀ x ∈ o.op.operands, E.ev m' x = E.ev m x) (hv : ∀ id ∈ e.rv, m'.var id = m.var id) (hk : ∀ i ∈ e.rt, m'.tok i = m.tok i) :
    an E m' nv nt o = some e := by
  have hmap : ∀ (xs : Array Operand), (∀ x ∈ xs, x ∈ o.op.operands) → xs.toList.map (E.ev m') = xs.toList.map (E.ev m) := fun xs h => List.map_congr_left fun x hx => ht x (h x (by simpa using hx))
  have hparts : ∀ (ps : Array (Nat × Operand)), (∀ p ∈ ps, p.2 ∈ o.op.operands) → (ps.toList.map fun (i, x) => (i, E.ev m' x)) = ps.toList.map fun (i, x) => (i, E.ev m x) := fun ps h => List.map_congr_left fun p hp => by
    obtain ⟨i, x⟩ := p
    simp only [ht x (h (i, x) (by simpa using hp))]
  cases ho : o.op with
  | load t x =>
    have h1 := ht x (by simp [ho, Op.operands])
    simp only [an, ho, h1] at he ⊢
    split at he
    · rename_i id off hc
      split at he
      · rename_i xs hx
        simp only [Option.map_eq_some_iff] at he
        obtain ⟨k, hk', rfl⟩ := he
        simp only [hv id (by simp), hx, hk', Option.map_some]
      · cases he
    · exact he
    · cases he
  | store t x y =>
    have h1 := ht x (by simp [ho, Op.operands])
    have h2 := ht y (by simp [ho, Op.operands])
    simp only [an, ho, h1, h2] at he ⊢
    split at he
    · rename_i id off k hc hkk
      split at he
      · rename_i xs hx
        split at he
        · rename_i hcond
          split at he
          · rename_i hh
            have hid := hv id (by rw [(ic he).1]; simp)
            simp only [hid, hx]
            rw [if_pos hcond, if_pos hh]
            exact mr he hv
          · rename_i hh
            cases he
            simp only [hv id (by simp), hx]
            rw [if_pos hcond, if_neg hh]
        · cases he
      · cases he
    · cases he
  | call c =>
    obtain ⟨callee, args, argTypes⟩ := c
    cases callee with
    | value f =>
      have h1 := ht f (by simp [ho, Op.operands, Call.operands])
      have h2 := hmap args (fun x hx => by simp [ho, Op.operands, Call.operands, hx])
      simp only [an, ho, h1, h2] at he ⊢
      have noI : ∀ {g : FuncId} {caps : List (C ⊕ (Nat × Nat))} {xs : List T}, uy E m nv nt g caps xs = some e → False := fun he => by
        unfold uy at he
        split at he
        · split at he
          · split at he
            · cases he; simp [lw] at hal
            · cases he
          · cases he
        · cases he
      unfold nE at he ⊢
      split at he
      · rename_i g caps hc
        split at he
        · rename_i hhit
          rw [if_pos hhit]
          exact he
        rename_i hhit
        rw [if_neg hhit]
        split at he
        · exact (noI he).elim
        · rename_i hil
          rw [if_neg hil]
          cases caps with
          | nil => exact mh he hv hk
          | cons _ _ => cases he
      · rename_i g caps hc
        split at he
        · rename_i hhit
          rw [if_pos hhit]
          exact he
        rename_i hhit
        rw [if_neg hhit]
        split at he
        · exact (noI he).elim
        · rename_i hil
          rw [if_neg hil]
          exact mh he hv hk
      · cases he
    | invoke r mth => simp [an, ho] at he
    | builtin b =>
      have h2 := hmap args (fun x hx => by simp [ho, Op.operands, Call.operands, hx])
      have h3 : ∀ x ∈ args.toList, E.ev m' x = E.ev m x := fun x hx => ht x (by simp [ho, Op.operands, Call.operands]; simpa using hx)
      cases b with
      | append =>
        simp only [an, ho, h2] at he ⊢
        split at he
        · rename_i hc
          rw [if_pos hc]; exact he
        · rename_i hc
          rw [if_neg hc]; exact og he hk
      | len =>
        simp only [an, ho] at he ⊢
        split at he
        · rename_i t ts x hty hargs
          rw [h3 x (by simp [hargs])]
          exact he
        · cases he
      | min =>
        simp only [an, ho] at he ⊢
        split at he
        · rename_i x xs hargs
          rw [hargs] at h3
          rw [h3 x (by simp), List.map_congr_left (fun y hy => h3 y (by simp [hy]))]
          exact he
        · cases he
      | max =>
        simp only [an, ho] at he ⊢
        split at he
        · rename_i x xs hargs
          rw [hargs] at h3
          rw [h3 x (by simp), List.map_congr_left (fun y hy => h3 y (by simp [hy]))]
          exact he
        · cases he
      | _ => simp [an, ho] at he
  | build t parts =>
    simp only [an, ho, hparts parts (fun p hp => by simp only [ho, Op.operands]; simpa using ⟨p.1, hp⟩)] at he ⊢
    exact he
  | buildSlice t len parts =>
    simp only [an, ho, hparts parts (fun p hp => by simp only [ho, Op.operands]; simpa using ⟨p.1, hp⟩)] at he ⊢
    exact he
  | makeFunc fn first caps =>
    cases fn with
    | func f =>
      have h2 : (caps.toList.mapM fun x => iH (E.ev m' x)) = caps.toList.mapM fun x => iH (E.ev m x) := by
        have : ∀ x ∈ caps.toList, E.ev m' x = E.ev m x := fun x hx => ht x (by simp [ho, Op.operands]; exact .inr (by simpa using hx))
        clear he
        generalize caps.toList = l at this
        induction l with
        | nil => rfl
        | cons y ys ih =>
          rw [List.mapM_cons, List.mapM_cons, this y (by simp), ih (fun x hx => this x (by simp [hx]))]
      simp only [an, ho, h2] at he ⊢
      exact he
    | _ => simp [an, ho] at he
  | slice t x lo hi mx =>
    have h1 := ht x (by simp [ho, Op.operands])
    have h2 : lo.map (E.ev m') = lo.map (E.ev m) := by
      cases lo with
      | none => rfl
      | some y => simp [ht y (by simp [ho, Op.operands])]
    have h3 : hi.map (E.ev m') = hi.map (E.ev m) := by
      cases hi with
      | none => rfl
      | some y => simp [ht y (by simp [ho, Op.operands])]
    have h4 : mx.map (E.ev m') = mx.map (E.ev m) := by
      cases mx with
      | none => rfl
      | some y => simp [ht y (by simp [ho, Op.operands])]
    simp only [an, ho, h1, h2, h3, h4] at he ⊢
    exact he
  | move x => have h1 := ht x (by simp [ho, Op.operands]); cases x <;> simp only [an, ho, h1] at he ⊢ <;> exact he
  | assign x => have h1 := ht x (by simp [ho, Op.operands]); cases x <;> simp only [an, ho, h1] at he ⊢ <;> exact he
  | pick c x y =>
    have h1 := ht c (by simp [ho, Op.operands])
    have h2 := ht x (by simp [ho, Op.operands])
    have h3 := ht y (by simp [ho, Op.operands])
    simp only [an, ho, h1, h2, h3] at he ⊢; exact he
  | alloc t => simpa only [an, ho] using he
  | box t x => have h1 := ht x (by simp [ho, Op.operands]); simp only [an, ho, h1] at he ⊢; exact he
  | makeSlice t x y =>
    have h1 := ht x (by simp [ho, Op.operands])
    have h2 := ht y (by simp [ho, Op.operands])
    simp only [an, ho, h1, h2] at he ⊢; exact he
  | nilCheck x => have h1 := ht x (by simp [ho, Op.operands]); simp only [an, ho, h1] at he ⊢; exact he
  | binOp op t x y yt =>
    have h1 := ht x (by simp [ho, Op.operands])
    have h2 := ht y (by simp [ho, Op.operands])
    simp only [an, ho, h1, h2] at he ⊢; exact he
  | unOp op t x => have h1 := ht x (by simp [ho, Op.operands]); simp only [an, ho, h1] at he ⊢; exact he
  | convert s d x => have h1 := ht x (by simp [ho, Op.operands]); simp only [an, ho, h1] at he ⊢; exact he
  | fieldAddr s x i => have h1 := ht x (by simp [ho, Op.operands]); simp only [an, ho, h1] at he ⊢; exact he
  | field s x i => have h1 := ht x (by simp [ho, Op.operands]); simp only [an, ho, h1] at he ⊢; exact he
  | indexAddr t x i =>
    have h1 := ht x (by simp [ho, Op.operands])
    have h2 := ht i (by simp [ho, Op.operands])
    simp only [an, ho, h1, h2] at he ⊢; exact he
  | index t x i =>
    have h1 := ht x (by simp [ho, Op.operands])
    have h2 := ht i (by simp [ho, Op.operands])
    simp only [an, ho, h1, h2] at he ⊢; exact he
  | lookup t x i ok =>
    have h1 := ht x (by simp [ho, Op.operands])
    have h2 := ht i (by simp [ho, Op.operands])
    simp only [an, ho, h1, h2] at he ⊢; exact he
  | extract x i => have h1 := ht x (by simp [ho, Op.operands]); simp only [an, ho, h1] at he ⊢; exact he
  | _ => simp [an, ho] at he
theorem zW {E : Env} {m : Mem} {nv nt : Nat} {o : Oper} {e : Eff} (he : an E m nv nt o = some e) : ∀ i n, (i, n) ∈ e.ut → i ∈ e.rt ∨ nt ≤ i := by
  have callU : ∀ {g : FuncId} {extra : List C} {tys : List TypeId} {xs : List T}, l7 E m nt g extra tys xs = some e → ∀ i n, (i, n) ∈ e.ut → i ∈ e.rt ∨ nt ≤ i := by
    intro g extra tys xs he i n hi
    unfold l7 at he
    split at he
    · unfold jF at he
      split at he
      · split at he
        · split at he
          · split at he
            · cases he
              simp only [kq, List.mem_cons, Prod.mk.injEq] at hi
              rcases hi with ⟨rfl, _⟩ | hi
              · left; simp [kq]
              · exact .inr (d9 hi)
            · cases he
          · cases he
        · cases he
      · cases he
    unfold gm at he
    split at he
    · split at he
      · simp only at he
        split at he
        · split at he
          · cases he; exact .inr (d9 hi)
          · cases he; exact .inr (d9 hi)
        · split at he
          · split at he
            · cases he; exact .inr (d9 hi)
            · cases he
          · cases he
        · cases he
      · cases he
    · cases he
  intro i n hi
  cases ho : o.op with
  | call c =>
    obtain ⟨callee, args, argTypes⟩ := c
    cases callee with
    | value f =>
      simp only [an, ho] at he
      have inU : ∀ {g : FuncId} {caps : List (C ⊕ (Nat × Nat))} {xs : List T}, uy E m nv nt g caps xs = some e → i ∈ e.rt ∨ nt ≤ i := fun he => by
        unfold uy at he
        split at he
        · split at he
          · rename_i rs vs' ts' _
            split at he
            · cases he
              left
              have : ∀ (l : List Nat) (k : Nat), (i, n) ∈ zh k l → i < k + l.length := by
                intro l
                induction l with
                | nil => intro k h; simp [zh] at h
                | cons x l ih =>
                  intro k h
                  simp only [zh, List.mem_cons, Prod.mk.injEq] at h
                  rcases h with ⟨rfl, _⟩ | h
                  · simp
                  · have := ih (k + 1) h
                    simp only [List.length_cons]
                    omega
              have := this ts' 0 hi
              show i ∈ List.range ts'.length
              rw [List.mem_range]
              omega
            · cases he
          · cases he
        · cases he
      have clU : ∀ {sz : Nat} {xs : List T}, gW nv sz xs = some e → i ∈ e.rt ∨ nt ≤ i := fun he => by
        unfold gW at he
        split at he
        · split at he
          · split at he
            · split at he
              · cases he; simp at hi
              · cases he
            · cases he
          · cases he
        · cases he
      unfold nE at he
      split at he
      · rename_i g caps hc
        split at he
        · split at he
          · exact clU he
          · cases he
        split at he
        · exact inU he
        · cases caps with
          | nil => exact callU he i n hi
          | cons _ _ => cases he
      · split at he
        · split at he
          · exact clU he
          · cases he
        split at he
        · exact inU he
        · exact callU he i n hi
      · cases he
    | invoke r mth => simp [an, ho] at he
    | builtin b =>
      cases b with
      | append =>
        simp only [an, ho] at he
        split at he
        · unfold jx at he
          split at he
          · split at he
            · split at he
              · split at he
                · cases he; simp at hi
                · cases he
              · cases he
            · cases he
          · cases he
        unfold gr at he
        split at he
        · split at he
          · split at he
            · split at he
              · split at he
                · cases he; simp at hi; right; omega
                · split at he
                  · cases he; simp at hi; left; simp [hi.1]
                  · cases he
              · cases he
            · cases he
          · cases he
        · cases he
      | len =>
        simp only [an, ho] at he
        split at he
        · simp only [Option.map_eq_some_iff] at he; obtain ⟨_, _, rfl⟩ := he; simp at hi
        · cases he
      | min =>
        simp only [an, ho] at he
        split at he
        · simp only [Option.map_eq_some_iff] at he; obtain ⟨_, _, rfl⟩ := he; simp at hi
        · cases he
      | max =>
        simp only [an, ho] at he
        split at he
        · simp only [Option.map_eq_some_iff] at he; obtain ⟨_, _, rfl⟩ := he; simp at hi
        · cases he
      | _ => simp [an, ho] at he
  | load t x =>
    simp only [an, ho] at he
    split at he
    · split at he
      · simp only [Option.map_eq_some_iff] at he; obtain ⟨_, _, rfl⟩ := he; simp at hi
      · cases he
    · simp only [Option.map_eq_some_iff] at he; obtain ⟨_, _, rfl⟩ := he; simp at hi
    · cases he
  | store t x y =>
    simp only [an, ho] at he
    split at he
    · split at he
      · split at he
        · split at he
          · rw [(ic he).2] at hi
            simp at hi
          · cases he; simp at hi
        · cases he
      · cases he
    · cases he
  | makeFunc fn first caps =>
    cases fn with
    | func f =>
      simp only [an, ho] at he
      split at he
      · simp only [Option.map_eq_some_iff] at he; obtain ⟨_, _, rfl⟩ := he; simp at hi
      · cases he
    | _ => simp [an, ho] at he
  | move x => simp only [an, ho, Option.some.injEq] at he; subst he; simp at hi
  | assign x => simp only [an, ho, Option.some.injEq] at he; subst he; simp at hi
  | pick c x y =>
    simp only [an, ho] at he
    split at he
    · cases he; simp at hi
    · cases he
  | alloc t =>
    simp only [an, ho] at he
    split at he
    · cases he; simp at hi
    · cases he
  | box t x =>
    simp only [an, ho] at he
    split at he
    · cases he; simp at hi
    · cases he
  | makeSlice t l c =>
    simp only [an, ho, ui] at he
    split at he
    · split at he
      · split at he
        · split at he
          · cases he; simp at hi
          · cases he; simp at hi
        · cases he
      · cases he
    · cases he
  | nilCheck x =>
    simp only [an, ho] at he
    split at he <;> first | (cases he; simp at hi; done) | (cases he; done)
  | extract x i =>
    simp only [an, ho] at he
    split at he
    · simp only [Option.map_eq_some_iff] at he; obtain ⟨_, _, rfl⟩ := he; simp at hi
    · cases he
  | build t parts => simp only [an, ho, Option.map_eq_some_iff] at he; obtain ⟨_, _, rfl⟩ := he; simp at hi
  | buildSlice t len parts => simp only [an, ho, Option.map_eq_some_iff] at he; obtain ⟨_, _, rfl⟩ := he; simp at hi
  | binOp op t x y yt => simp only [an, ho, Option.map_eq_some_iff] at he; obtain ⟨_, _, rfl⟩ := he; simp at hi
  | unOp op t x => simp only [an, ho, Option.map_eq_some_iff] at he; obtain ⟨_, _, rfl⟩ := he; simp at hi
  | convert s d x => simp only [an, ho, Option.map_eq_some_iff] at he; obtain ⟨_, _, rfl⟩ := he; simp at hi
  | slice t x lo hi' mx => simp only [an, ho, Option.map_eq_some_iff] at he; obtain ⟨_, _, rfl⟩ := he; simp at hi
  | fieldAddr s x i => simp only [an, ho, Option.map_eq_some_iff] at he; obtain ⟨_, _, rfl⟩ := he; simp at hi
  | field s x i => simp only [an, ho, Option.map_eq_some_iff] at he; obtain ⟨_, _, rfl⟩ := he; simp at hi
  | indexAddr t x i => simp only [an, ho, Option.map_eq_some_iff] at he; obtain ⟨_, _, rfl⟩ := he; simp at hi
  | index t x i => simp only [an, ho, Option.map_eq_some_iff] at he; obtain ⟨_, _, rfl⟩ := he; simp at hi
  | lookup t x i ok => simp only [an, ho, Option.map_eq_some_iff] at he; obtain ⟨_, _, rfl⟩ := he; simp at hi
  | _ => simp [an, ho] at he
end Go.Dm
namespace Go.Dm
open Go.RowKit
theorem eE : ∀ {uv : List (Nat × List V)} {vs vs' : List (List V)}, gq vs uv = some vs' → vs.length ≤ vs'.length ∧ ∀ i : Nat, vs'[i]? = match lk uv i with | some x => some x | none => vs[i]?
  | [], vs, vs', h => by simp only [gq, Option.some.injEq] at h; subst h; exact ⟨Nat.le_refl _, fun i => rfl⟩
  | (j, x) :: r, vs, vs', h => by
    simp only [gq] at h
    split at h
    · rename_i hj
      obtain ⟨h1, h2⟩ := eE h
      refine ⟨by simpa using h1, fun i => ?_⟩
      rw [h2 i]
      simp only [lk]
      cases lk r i with
      | some y => rfl
      | none =>
        by_cases hij : j = i
        · subst hij; simp [hj]
        · simp [hij]
    · split at h
      · rename_i hj
        subst hj
        obtain ⟨h1, h2⟩ := eE h
        refine ⟨by simp at h1; omega, fun i => ?_⟩
        rw [h2 i]
        simp only [lk]
        cases lk r i with
        | some y => rfl
        | none =>
          by_cases hij : vs.length = i
          · subst hij; simp
          · simp only [hij, if_false]
            rcases Nat.lt_or_ge i vs.length with hlt | hge
            · rw [List.getElem?_append_left hlt]
            · rw [List.getElem?_eq_none (by simp; omega), List.getElem?_eq_none hge]
      · cases h
theorem im : ∀ {ut : List (Nat × Nat)} {ts ts' : List Nat}, fS ts ut = some ts' → ∀ i : Nat, ts'[i]? = match lk ut i with | some x => some x | none => ts[i]?
  | [], ts, ts', h, i => by simp only [fS, Option.some.injEq] at h; subst h; rfl
  | (j, x) :: r, ts, ts', h, i => by
    simp only [fS] at h
    split at h
    · rename_i hj
      rw [im h i]
      simp only [lk]
      cases lk r i with
      | some y => rfl
      | none =>
        by_cases hij : j = i
        · subst hij; simp [hj]
        · simp [hij]
    · split at h
      · rename_i hj
        subst hj
        rw [im h i]
        simp only [lk]
        cases lk r i with
        | some y => rfl
        | none =>
          by_cases hij : ts.length = i
          · subst hij; simp
          · simp only [hij, if_false]
            rcases Nat.lt_or_ge i ts.length with hlt | hge
            · rw [List.getElem?_append_left hlt]
            · rw [List.getElem?_eq_none (by simp; omega), List.getElem?_eq_none hge]
      · cases h
theorem jW : ∀ {ut : List (Nat × Nat)} {ts ts' : List Nat}, fS ts ut = some ts' → ts.length ≤ ts'.length
  | [], ts, ts', h => by simp only [fS, Option.some.injEq] at h; subst h; exact Nat.le_refl _
  | (j, x) :: r, ts, ts', h => by
    simp only [fS] at h
    split at h
    · have := jW h; simpa using this
    · split at h
      · have := jW h; simp at this; omega
      · cases h
theorem iW {α : Type} : ∀ {uv : List (Nat × α)} {n i : Nat}, (∀ p ∈ uv, p.1 < n) → n ≤ i → lk uv i = none
  | [], _, _, _, _ => rfl
  | (j, x) :: r, n, i, h, hi => by
    simp only [lk]
    rw [iW (fun p hp => h p (by simp [hp])) hi]
    have := h (j, x) (by simp)
    simp only at this
    rw [if_neg (by omega)]
theorem jK : ∀ {uv : List (Nat × List V)} {vs vs' : List (List V)}, gq vs uv = some vs' → ∀ p ∈ uv, p.1 < vs'.length
  | [], _, _, _, p, hp => by simp at hp
  | (j, x) :: r, vs, vs', h, p, hp => by
    simp only [gq] at h
    split at h
    · rename_i hj
      rcases List.mem_cons.1 hp with rfl | hp
      · have := (eE h).1
        simp at this
        show j < vs'.length
        omega
      · exact jK h p hp
    · split at h
      · rename_i hj
        rcases List.mem_cons.1 hp with rfl | hp
        · have := (eE h).1
          simp at this
          show j < vs'.length
          omega
        · exact jK h p hp
      · cases h
theorem St.apply_mem {s s' : St} {d : Option Tmp} {e : Eff} (h : s.apply d e = some s') : s'.mem = s.mem.apply d s.vars.length e ∧ s'.tmps.length = s.tmps.length ∧ (∀ t, d = some t → t < s.tmps.length) ∧ s.vars.length ≤ s'.vars.length ∧ s.toks.length ≤ s'.toks.length := by
  unfold St.apply at h
  split at h
  · rename_i vs ts hv ht
    obtain ⟨hvl, hvg⟩ := eE hv
    have htg := im ht
    have htl := jW ht
    have hlt := jK hv
    split at h
    · rename_i hcond
      have hvar : ∀ i : Nat, (match e.nv with | some x => vs ++ [x] | none => vs)[i]? = if i = s.vars.length ∧ e.nv.isSome then e.nv else match lk e.uv i with | some x => some x | none => s.vars[i]? := by
        intro i
        cases hn : e.nv with
        | none => simp [hvg i]
        | some x =>
          rw [hn] at hcond
          simp at hcond
          simp only [Option.isSome_some, and_true]
          by_cases hi : i = s.vars.length
          · subst hi; simp [← hcond]
          · simp only [hi, if_false]
            rcases Nat.lt_or_ge i vs.length with h1 | h1
            · rw [List.getElem?_append_left h1, hvg i]
            · rw [List.getElem?_eq_none (by simp; omega), iW hlt (by omega), List.getElem?_eq_none (by omega)]
      have hlen : s.vars.length ≤ (match e.nv with | some x => vs ++ [x] | none => vs).length := by
        cases e.nv with
        | none => exact hvl
        | some x => simp; omega
      simp only at h
      split at h
      · rename_i d
        split at h
        · rename_i hd
          cases h
          refine ⟨?_, by simp, fun t ht => by cases ht; exact hd, hlen, htl⟩
          simp only [St.mem, Mem.apply, Mem.mk.injEq]
          refine ⟨?_, funext hvar, funext htg⟩
          funext t
          simp only [Option.some.injEq]
          by_cases hdt : d = t
          · subst hdt; simp [List.getD, hd]
          · simp [List.getD, hdt]
        · cases h
      · cases h
        refine ⟨?_, rfl, (fun t ht => by cases ht), hlen, htl⟩
        simp only [St.mem, Mem.apply, Mem.mk.injEq]
        exact ⟨by simp, funext hvar, funext htg⟩
    · cases h
  · cases h
theorem kk {F : Fm} {γ : Gh} {m : Mem} {a : Act} {w : World} (h : Rel F γ m a w) {ops : Array Oper} {o : Oper} {q : Bool} (hq : fm ops m o = some q) : Region.wanted o (yielded ops a.tmps) = q := by
  unfold fm at hq
  unfold Region.wanted
  split at hq
  · rename_i hg; rw [hg]; simpa using hq
  · rename_i j want hg
    rw [hg]
    simp only
    split at hq
    · rename_i hd
      simp only [yielded, hd, Option.bind_none]
      cases hq
      rfl
    · rename_i t hd
      have ht := h.tmps t
      have hget : a.tmps.getD t undef = (a.tmps[t]?).getD undef := by simp
      simp only [yielded, hd, Option.bind_some]
      split at hq
      · rename_i hs
        rw [hs] at ht
        simp only [T.rep] at ht
        cases hq
        rw [hget] at ht
        cases hx : a.tmps[t]? with
        | none => rfl
        | some v =>
          rw [hx] at ht
          simp only [Option.getD_some] at ht
          subst ht
          rfl
      · split at hq
        · rename_i b hb
          cases hq
          rw [bool?_eq hb, aL, hget] at ht
          cases hx : a.tmps[t]? with
          | none => rw [hx] at ht; simp [undef] at ht
          | some v =>
            rw [hx] at ht
            simp only [Option.getD_some] at ht
            rw [ht.1]
            simp
        · cases hq
theorem Mem.apply_skip (m : Mem) (d : Option Tmp) (nv : Nat) : m.apply d nv jP = m.put d .skip := Mem.apply_pure m d nv .skip [] []
def jq (E : Env) (F : Fm) (s : St) (a : Act) (w : World) : Prop := (s.tmps.length = F.n ∧ F.gn ≤ s.vars.length ∧ F.gk ≤ s.toks.length ∧ F.locs.length ≤ s.vars.length) ∧ ∃ γ, Rel F γ s.mem a w ∧ cJ E.gl γ.fr w
theorem St.al_ok {F : Fm} {s : St} (h : F.gn ≤ s.vars.length ∧ F.gk ≤ s.toks.length ∧ F.locs.length ≤ s.vars.length) : EI F s.mem s.vars.length s.toks.length :=
  ⟨fun i hi => by simp only [St.mem]; exact List.getElem?_eq_none hi, fun i hi => by simp only [St.mem]; exact List.getElem?_eq_none hi, h.1, h.2.1, h.2.2⟩
theorem u7 {E : Env} (hE : EnvOk E) {F : Fm} {ops : Array Oper} {Q : Exit → Act → World → Prop} : ∀ {l : List Oper} {s s' : St} {ts : List Touch} {k : Nat}, fk E ops l s = some (s', ts) → ops.toList.drop k = l → (∀ a w, jq E F s' a w → Q .normal a w) →
    ∀ {a : Act} {w : World}, jq E F s a w → wpOps E.P ops Q (List.range' k l.length) a w
  | [], s, s', ts, k, h, _, hQ, a, w, hr => by
    simp only [fk, Option.some.injEq, Prod.mk.injEq] at h
    obtain ⟨rfl, _⟩ := h
    exact hQ a w hr
  | o :: rest, s, s', ts, k, h, hdrop, hQ, a, w, hr => by
    have hk : ops[k]? = some o := by
      have := congrArg List.head? hdrop
      simpa [List.head?_drop] using this
    have hrest : ops.toList.drop (k + 1) = rest := by
      have := congrArg List.tail hdrop
      simpa [List.tail_drop] using this
    simp only [fk] at h
    split at h
    · cases h
    · rename_i q hq
      split at h
      · cases h
      · rename_i e he
        split at h
        · cases h
        · rename_i s1 hs1
          split at h
          · cases h
          · rename_i s2 ts2 hrec
            simp only [Option.some.injEq, Prod.mk.injEq] at h
            obtain ⟨rfl, _⟩ := h
            obtain ⟨hmem, hlen, hd, hvl, htl⟩ := St.apply_mem hs1
            obtain ⟨⟨hn, hgs⟩, γ, hrel, hg⟩ := hr
            have hgs' : F.gn ≤ s1.vars.length ∧ F.gk ≤ s1.toks.length ∧ F.locs.length ≤ s1.vars.length := ⟨Nat.le_trans hgs.1 hvl, Nat.le_trans hgs.2.1 htl, Nat.le_trans hgs.2.2 hvl⟩
            have hd' : ∀ t, o.dst = some t → t < F.n := fun t ht => by rw [← hn]; exact hd t ht
            rw [List.length_cons, List.range'_succ, wpOps_cons]
            unfold wpOp
            rw [hk]
            simp only
            rw [kk hrel hq]
            have next : ∀ a' w', jq E F s1 a' w' → wpOps E.P ops Q (List.range' (k + 1) rest.length) a' w' := fun a' w' hr' => u7 hE hrec hrest hQ hr'
            cases q with
            | true =>
              simp only [if_true] at he ⊢
              refine .inl (Oper.wp_mono (fun a' w' hp => ?_) (sK hE hrel hg hd' he (fun _ => St.al_ok hgs) (fun _ => by simp [St.mem]) (fun i n hi hni => ?_)))
              · obtain ⟨γ', h1, h2⟩ := hp
                exact next a' w' ⟨⟨by rw [hlen]; exact hn, hgs'⟩, γ', by rw [hmem]; exact h1, h2⟩
              · rcases zW he i n hi with h1 | h1
                · exact absurd h1 hni
                · simp [St.mem]; exact h1
            | false =>
              simp only [Bool.false_eq_true, if_false, Option.some.injEq] at he ⊢
              subst he
              refine next _ _ ⟨⟨by rw [hlen]; exact hn, hgs'⟩, γ, ?_, hg⟩
              rw [hmem, Mem.apply_skip]
              exact hrel.put hd' rfl
end Go.Dm
namespace Go.Dm
open Go.RowKit
structure Stp where
  o : Oper
  nv : Nat
  nt : Nat
  q : Bool
  e : Eff
def Stp.touch (ops : Array Oper) (p : Stp) : Touch := Touch.of ops p.o p.nv p.e
def Stp.step (p : Stp) (m : Mem) : Mem := m.apply p.o.dst p.nv p.e
def q5 (E : Env) (ops : Array Oper) : Mem → List Stp → Mem → Prop
  | m, [], m' => m' = m
  | m, p :: r, m' => fm ops m p.o = some p.q ∧ (if p.q then an E m p.nv p.nt p.o = some p.e else p.e = jP) ∧ (p.e.nv.isSome = true → m.var p.nv = none) ∧ (∀ i n, (i, n) ∈ p.e.ut → i ∉ p.e.rt → m.tok i = none) ∧ ((∀ i, p.nv ≤ i → m.var i = none) ∧ ∀ i, p.nt ≤ i → m.tok i = none) ∧ q5 E ops (p.step m) r m'
theorem rO {E : Env} {ops : Array Oper} : ∀ {l : List Oper} {s s' : St} {ts : List Touch}, fk E ops l s = some (s', ts) →
    ∃ steps : List Stp, steps.map (·.o) = l ∧ ts = steps.map (Stp.touch ops) ∧ q5 E ops s.mem steps s'.mem ∧ (∀ p ∈ steps, ∀ t, p.o.dst = some t → t < s.tmps.length) ∧ s'.tmps.length = s.tmps.length ∧ (∀ p ∈ steps, s.vars.length ≤ p.nv ∧ s.toks.length ≤ p.nt) ∧ s.vars.length ≤ s'.vars.length ∧ s.toks.length ≤ s'.toks.length
  | [], s, s', ts, h => by
    simp only [fk, Option.some.injEq, Prod.mk.injEq] at h
    obtain ⟨rfl, rfl⟩ := h
    exact ⟨[], rfl, rfl, rfl, by simp, rfl, by simp, Nat.le_refl _, Nat.le_refl _⟩
  | o :: rest, s, s', ts, h => by
    simp only [fk] at h
    split at h
    · cases h
    · rename_i q hq
      split at h
      · cases h
      · rename_i e he
        split at h
        · cases h
        · rename_i s1 hs1
          split at h
          · cases h
          · rename_i s2 ts2 hrec
            simp only [Option.some.injEq, Prod.mk.injEq] at h
            obtain ⟨rfl, rfl⟩ := h
            obtain ⟨hmem, hlen, hd, hvl, htl⟩ := St.apply_mem hs1
            obtain ⟨steps, h1, h2, h3, h4, h5, h6, h7, h8⟩ := rO hrec
            refine ⟨⟨o, s.vars.length, s.toks.length, q, e⟩ :: steps, by simp [h1], by simp [h2, Stp.touch], ⟨hq, ?_, fun _ => by simp [St.mem], fun i n hi hni => ?_, ⟨fun i hi => by simp only [St.mem]; exact List.getElem?_eq_none hi, fun i hi => by simp only [St.mem]; exact List.getElem?_eq_none hi⟩, ?_⟩, fun p hp t ht => ?_, by rw [h5, hlen], fun p hp => ?_, Nat.le_trans hvl h7, Nat.le_trans htl h8⟩
            · cases q
              · simpa using he.symm
              · simpa using he
            · cases q with
              | true =>
                simp only [if_true] at he
                rcases zW he i n hi with h1 | h1
                · exact absurd h1 hni
                · simp [St.mem]; exact h1
              | false =>
                simp only [Bool.false_eq_true, if_false, Option.some.injEq] at he
                subst he
                simp [jP] at hi
            · simp only [Stp.step]; rw [← hmem]; exact h3
            · rcases List.mem_cons.1 hp with rfl | hp
              · exact hd t ht
              · have := h4 p hp t ht; rw [hlen] at this; exact this
            · rcases List.mem_cons.1 hp with rfl | hp
              · exact ⟨Nat.le_refl _, Nat.le_refl _⟩
              · exact ⟨Nat.le_trans hvl (h6 p hp).1, Nat.le_trans htl (h6 p hp).2⟩
structure Agree (x : Touch) (m m' : Mem) : Prop where
  tmp : ∀ t, (t ∈ x.rt ∨ x.wt = some t) → m'.tmp t = m.tmp t
  var : ∀ i, (i ∈ x.rv ∨ i ∈ x.wv) → m'.var i = m.var i
  tok : ∀ i, (i ∈ x.rk ∨ i ∈ x.wk) → m'.tok i = m.tok i
theorem Agree.refl (x : Touch) (m : Mem) : Agree x m m := ⟨fun _ _ => rfl, fun _ _ => rfl, fun _ _ => rfl⟩
theorem Agree.trans {x : Touch} {a b c : Mem} (h : Agree x a b) (k : Agree x b c) : Agree x a c :=
  ⟨fun t ht => (k.tmp t ht).trans (h.tmp t ht), fun i hi => (k.var i hi).trans (h.var i hi), fun i hi => (k.tok i hi).trans (h.tok i hi)⟩
theorem qX {α : Type} : ∀ {uv : List (Nat × α)} {i : Nat}, i ∉ uv.map (·.1) → lk uv i = none
  | [], _, _ => rfl
  | (j, x) :: r, i, h => by
    simp only [List.map_cons, List.mem_cons, not_or] at h
    simp only [lk, qX h.2]
    rw [if_neg (Ne.symm h.1)]
theorem iS {ops : Array Oper} {p : Stp} {m : Mem} {i : Nat} (h : i ∉ (p.touch ops).wv) : (p.step m).var i = m.var i := by
  simp only [Stp.touch, Touch.of, List.mem_append, not_or] at h
  simp only [Stp.step, Mem.apply]
  rw [qX h.2]
  split
  · rename_i hc
    exfalso
    refine h.1 ?_
    rw [hc.2]
    simp [hc.1]
  · rfl
theorem i7 {ops : Array Oper} {p : Stp} {m : Mem} {i : Nat} (h : i ∉ (p.touch ops).wk) : (p.step m).tok i = m.tok i := by
  simp only [Stp.touch, Touch.of] at h
  simp only [Stp.step, Mem.apply, qX h]
theorem gO {xs ys : List Nat} (h : CB xs ys = false) : ∀ i, i ∈ xs → i ∉ ys := by
  simp only [CB, List.any_eq_false] at h
  intro i hi hy
  exact h i hi (by simpa using hy)
theorem nc {x y : Touch} (h : x.hits y = false) : (∀ t, x.wt = some t → t ∉ y.rt ∧ y.wt ≠ some t) ∧ (∀ i, i ∈ x.wv → i ∉ y.wv ∧ i ∉ y.rv) ∧ (∀ i, i ∈ x.wk → i ∉ y.wk ∧ i ∉ y.rk) := by
  simp only [Touch.hits, Bool.or_eq_false_iff] at h
  obtain ⟨⟨⟨⟨h1, h2⟩, h3⟩, h4⟩, h5⟩ := h
  refine ⟨fun t ht => ?_, fun i hi => ⟨gO h2 i hi, gO h3 i hi⟩, fun i hi => ⟨gO h4 i hi, gO h5 i hi⟩⟩
  rw [ht] at h1
  simpa using h1
theorem Agree.step {ops : Array Oper} {p : Stp} {x : Touch} {m : Mem} (h : (p.touch ops).hits x = false) : Agree x m (p.step m) := by
  obtain ⟨h1, h2, h3⟩ := nc h
  refine ⟨fun t ht => ?_, fun i hi => ?_, fun i hi => ?_⟩
  · simp only [Stp.step, Mem.apply]
    rw [if_neg]
    intro hd
    have := h1 t hd
    rcases ht with ht | ht
    · exact this.1 ht
    · exact this.2 ht
  · refine iS (ops := ops) (fun hw => ?_)
    have := h2 i hw
    rcases hi with hi | hi
    · exact this.2 hi
    · exact this.1 hi
  · refine i7 (ops := ops) (fun hw => ?_)
    have := h3 i hw
    rcases hi with hi | hi
    · exact this.2 hi
    · exact this.1 hi
theorem Agree.both {p : Stp} {x : Touch} {m m' : Mem} (h : Agree x m m') : Agree x (p.step m) (p.step m') := by
  refine ⟨fun t ht => ?_, fun i hi => ?_, fun i hi => ?_⟩
  · simp only [Stp.step, Mem.apply, h.tmp t ht]
  · simp only [Stp.step, Mem.apply, h.var i hi]
  · simp only [Stp.step, Mem.apply, h.tok i hi]
theorem u3 {ops : Array Oper} {p r : Stp} {m : Mem} (h : (p.touch ops).hits (r.touch ops) = false) : r.step (p.step m) = p.step (r.step m) := by
  obtain ⟨h1, h2, h3⟩ := nc h
  have e1 : (r.step (p.step m)).tmp = (p.step (r.step m)).tmp := by
    funext t
    simp only [Stp.step, Mem.apply]
    by_cases hp : p.o.dst = some t
    · have := (h1 t hp).2
      have hr : ¬ r.o.dst = some t := this
      simp [hp, hr]
    · simp [hp]
  have e2 : (r.step (p.step m)).var = (p.step (r.step m)).var := by
    funext i
    by_cases hp : i ∈ (p.touch ops).wv
    · have hr := (h2 i hp).1
      rw [iS (ops := ops) hr]
      simp only [Stp.step, Mem.apply] at *
      have : (r.step m).var i = m.var i := iS (ops := ops) hr
      simp only [Stp.step, Mem.apply] at this
      rw [this]
    · rw [iS (ops := ops) (p := p) hp]
      have : (p.step m).var i = m.var i := iS (ops := ops) hp
      simp only [Stp.step, Mem.apply] at this ⊢
      rw [this]
  have e3 : (r.step (p.step m)).tok = (p.step (r.step m)).tok := by
    funext i
    by_cases hp : i ∈ (p.touch ops).wk
    · have hr := (h3 i hp).1
      rw [i7 (ops := ops) hr]
      have : (r.step m).tok i = m.tok i := i7 (ops := ops) hr
      simp only [Stp.step, Mem.apply] at this ⊢
      rw [this]
    · rw [i7 (ops := ops) (p := p) hp]
      have : (p.step m).tok i = m.tok i := i7 (ops := ops) hp
      simp only [Stp.step, Mem.apply] at this ⊢
      rw [this]
  calc r.step (p.step m) = ⟨(r.step (p.step m)).tmp, (r.step (p.step m)).var, (r.step (p.step m)).tok⟩ := rfl
    _ = _ := by rw [e1, e2, e3]
def bY (L : Nat → Bool) : Nat → List Stp → Mem → Mem
  | _, [], m => m
  | k, p :: r, m => bY L (k + 1) r (if L k then p.step m else m)
theorem go (L : Nat → Bool) : ∀ (xs ys : List Stp) (k : Nat) (m : Mem), bY L k (xs ++ ys) m = bY L (k + xs.length) ys (bY L k xs m)
  | [], ys, k, m => by simp [bY]
  | x :: xs, ys, k, m => by
    simp only [List.cons_append, bY, List.length_cons]
    rw [go L xs ys (k + 1)]
    congr 1
    omega
theorem eA {L L' : Nat → Bool} : ∀ {xs : List Stp} {k : Nat} {m : Mem}, (∀ j, j < xs.length → L (k + j) = L' (k + j)) → bY L k xs m = bY L' k xs m
  | [], _, _, _ => rfl
  | x :: xs, k, m, h => by
    simp only [bY]
    have h0 := h 0 (by simp)
    simp only [Nat.add_zero] at h0
    rw [h0]
    exact eA fun j hj => by
      have := h (j + 1) (by simp; omega)
      rwa [show k + (j + 1) = k + 1 + j by omega] at this
theorem pZ {E : Env} {ops : Array Oper} : ∀ {xs : List Stp} {m m' : Mem} {k : Nat}, q5 E ops m xs m' → m' = bY (fun _ => true) k xs m
  | [], _, _, _, h => h
  | _ :: _, _, _, _, h => by simp only [bY, if_true]; exact pZ h.2.2.2.2.2
theorem p5 {ops : Array Oper} {x : Touch} {L : Nat → Bool} : ∀ {xs : List Stp} {k : Nat} {m m' : Mem}, Agree x m m' → (∀ (j : Nat) p, xs[j]? = some p → L (k + j) = true ∨ (p.touch ops).hits x = false) → Agree x (bY (fun _ => true) k xs m) (bY L k xs m')
  | [], _, _, _, h, _ => h
  | p :: xs, k, m, m', h, hL => by
    simp only [bY, if_true]
    refine p5 ?_ (fun j r hr => by
      have := hL (j + 1) r (by simpa using hr)
      rwa [show k + (j + 1) = k + 1 + j by omega] at this)
    have h0 := hL 0 p rfl
    simp only [Nat.add_zero] at h0
    cases hLk : L k with
    | true => simp only [if_true]; exact h.both
    | false =>
      rw [hLk] at h0
      have hh := h0.resolve_left (by simp)
      simp only [Bool.false_eq_true, if_false]
      exact ⟨fun t ht => (h.tmp t ht).trans ((Agree.step hh).tmp t ht).symm, fun i hi => (h.var i hi).trans ((Agree.step hh).var i hi).symm, fun i hi => (h.tok i hi).trans ((Agree.step hh).tok i hi).symm⟩
theorem mI {ops : Array Oper} {x : Touch} {L : Nat → Bool} : ∀ {xs : List Stp} {k : Nat} {m : Mem}, (∀ (j : Nat) p, xs[j]? = some p → L (k + j) = true → (p.touch ops).hits x = false) → Agree x m (bY L k xs m)
  | [], _, m, _ => Agree.refl x m
  | p :: xs, k, m, hL => by
    simp only [bY]
    have h0 := hL 0 p rfl
    simp only [Nat.add_zero] at h0
    refine Agree.trans ?_ (mI fun j r hr hLj => hL (j + 1) r (by simpa using hr) (by rwa [show k + (j + 1) = k + 1 + j by omega]))
    cases hLk : L k with
    | true => simp only [if_true]; exact Agree.step (h0 hLk)
    | false => simp only [Bool.false_eq_true, if_false]; exact Agree.refl x m
theorem jQ {ops : Array Oper} {p : Stp} {L : Nat → Bool} : ∀ {xs : List Stp} {k : Nat} {m : Mem}, (∀ (j : Nat) r, xs[j]? = some r → L (k + j) = true → (p.touch ops).hits (r.touch ops) = false) → bY L k xs (p.step m) = p.step (bY L k xs m)
  | [], _, _, _ => rfl
  | r :: xs, k, m, hL => by
    simp only [bY]
    have h0 := hL 0 r rfl
    simp only [Nat.add_zero] at h0
    have hrest : ∀ (j : Nat) r, xs[j]? = some r → L (k + 1 + j) = true → (p.touch ops).hits (r.touch ops) = false := fun j r hr hLj => hL (j + 1) r (by simpa using hr) (by rwa [show k + (j + 1) = k + 1 + j by omega])
    cases hLk : L k with
    | true =>
      simp only [if_true]
      rw [u3 (h0 hLk)]
      exact jQ hrest
    | false =>
      simp only [Bool.false_eq_true, if_false]
      exact jQ hrest
theorem pn {ops : Array Oper} {m m' : Mem} {o : Oper} (h : ∀ t ∈ o.looksAt ops, m'.tmp t = m.tmp t) : fm ops m' o = fm ops m o := by
  unfold fm
  cases hg : o.guard with
  | none => rfl
  | some gw =>
    obtain ⟨g, want⟩ := gw
    simp only
    cases hd : (ops[g]?).bind (·.dst) with
    | none => rfl
    | some t =>
      simp only
      rw [h t (by simp [Oper.looksAt, hg, hd])]
theorem j6 {masks : List Nat} {x : Touch} {i : Nat} : ∀ {ts : List Touch} {j : Nat}, je masks x i ts j = true → ∀ (l : Nat) y, ts[l]? = some y → x.clash y = false ∨ (masks.getD (j + l) 0).testBit i = true
  | [], _, _, l, y, hy => by simp at hy
  | z :: ts, j, h, 0, y, hy => by
    simp only [je, Bool.and_eq_true, Bool.or_eq_true, Bool.not_eq_true'] at h
    simp at hy
    subst hy
    exact h.1
  | z :: ts, j, h, l + 1, y, hy => by
    simp only [je, Bool.and_eq_true] at h
    have := j6 h.2 l y (by simpa using hy)
    rwa [show j + 1 + l = j + (l + 1) by omega] at this
theorem l9 {masks : List Nat} : ∀ {ts : List Touch} {k : Nat}, ix masks ts k = true → ∀ (i j : Nat) x y, i < j → ts[i]? = some x → ts[j]? = some y → x.clash y = false ∨ (masks.getD (k + j) 0).testBit (k + i) = true
  | [], _, _, i, j, x, y, _, hx, _ => by simp at hx
  | z :: ts, k, h, 0, j, x, y, hij, hx, hy => by
    simp only [ix, Bool.and_eq_true] at h
    simp at hx
    subst hx
    obtain ⟨j, rfl⟩ : ∃ j', j = j' + 1 := ⟨j - 1, by omega⟩
    have := j6 h.1 j y (by simpa using hy)
    rwa [show k + 1 + j = k + (j + 1) by omega] at this
  | z :: ts, k, h, i + 1, j, x, y, hij, hx, hy => by
    simp only [ix, Bool.and_eq_true] at h
    obtain ⟨j, rfl⟩ : ∃ j', j = j' + 1 := ⟨j - 1, by omega⟩
    have := l9 h.2 i j x y (by omega) (by simpa using hx) (by simpa using hy)
    rwa [show k + 1 + j = k + (j + 1) by omega, show k + 1 + i = k + (i + 1) by omega] at this
theorem m6 (acc : List Nat) : ∀ (l : List Edge) (s i : Nat), (l.foldl (fun s e => if Region.binds .any e then s ||| 2 ^ e.on ||| acc.getD e.on 0 else s) s).testBit i = true →
    s.testBit i = true ∨ ∃ e ∈ l, Region.binds .any e = true ∧ (e.on = i ∨ (acc.getD e.on 0).testBit i = true)
  | [], s, i, h => .inl h
  | e :: l, s, i, h => by
    simp only [List.foldl_cons] at h
    rcases m6 acc l _ i h with h1 | ⟨e', he', hb, hx⟩
    · split at h1
      · rename_i hb
        rw [Nat.testBit_or, Nat.testBit_or] at h1
        simp only [Bool.or_eq_true] at h1
        rcases h1 with (h1 | h1) | h1
        · exact .inl h1
        · refine .inr ⟨e, by simp, hb, .inl ?_⟩
          rw [Nat.testBit_two_pow] at h1
          simpa using h1
        · exact .inr ⟨e, by simp, hb, .inr h1⟩
      · exact .inl h1
    · exact .inr ⟨e', by simp [he'], hb, hx⟩
theorem fO : ∀ (l : List Oper) (acc : List Nat) (i : Nat), i < acc.length → (f8 l acc).getD i 0 = acc.getD i 0
  | [], acc, i, _ => rfl
  | o :: l, acc, i, h => by
    simp only [f8]
    rw [fO l _ i (by simp; omega)]
    simp [List.getD, List.getElem?_append_left h]
theorem mS : ∀ (l : List Oper) (acc : List Nat) (k : Nat) (o : Oper), l[k]? = some o → ∀ i, ((f8 l acc).getD (acc.length + k) 0).testBit i = true →
    ∃ e ∈ o.after, Region.binds .any e = true ∧ (e.on = i ∨ (e.on < acc.length + k ∧ ((f8 l acc).getD e.on 0).testBit i = true))
  | [], _, _, _, h, _, _ => by simp at h
  | x :: l, acc, 0, o, h, i, hi => by
    simp at h
    subst h
    simp only [f8, Nat.add_zero] at hi ⊢
    rw [fO l _ _ (by simp)] at hi
    have e1 : (acc ++ [x.after.foldl (fun s e => if Region.binds .any e then s ||| 2 ^ e.on ||| acc.getD e.on 0 else s) 0]).getD acc.length 0 = x.after.foldl (fun s e => if Region.binds .any e then s ||| 2 ^ e.on ||| acc.getD e.on 0 else s) 0 := by
      simp [List.getD]
    rw [e1, ← Array.foldl_toList] at hi
    rcases m6 acc x.after.toList 0 i hi with h1 | ⟨e, he, hb, hx⟩
    · simp at h1
    · refine ⟨e, by simpa using he, hb, ?_⟩
      rcases hx with hx | hx
      · exact .inl hx
      · right
        have hlt : e.on < acc.length := by
          rcases Nat.lt_or_ge e.on acc.length with h | h
          · exact h
          · simp [List.getD, List.getElem?_eq_none h] at hx
        refine ⟨hlt, ?_⟩
        rw [fO l _ _ (by simp; omega)]
        simpa [List.getD, List.getElem?_append_left hlt] using hx
  | x :: l, acc, k + 1, o, h, i, hi => by
    simp only [f8] at hi ⊢
    have := mS l (acc ++ [x.after.foldl (fun s e => if Region.binds .any e then s ||| 2 ^ e.on ||| acc.getD e.on 0 else s) 0]) k o (by simpa using h) i (by
      rw [List.length_append, List.length_singleton, show acc.length + 1 + k = acc.length + (k + 1) by omega]; exact hi)
    obtain ⟨e, he, hb, hx⟩ := this
    refine ⟨e, he, hb, hx.imp id (fun ⟨h1, h2⟩ => ⟨?_, h2⟩)⟩
    simp at h1; omega
theorem lW {ops : List Oper} {L : Nat → Bool} (hcl : ∀ (j : Nat) o, ops[j]? = some o → L j = true → ∀ e ∈ o.after, Region.binds .any e = true → L e.on = true) :
    ∀ (k : Nat) (o : Oper), ops[k]? = some o → (∀ e ∈ o.after, Region.binds .any e = true → L e.on = true) → ∀ i, ((f8 ops []).getD k 0).testBit i = true → L i = true := by
  intro k
  induction k using Nat.strongRecOn with
  | _ k ih =>
    intro o ho hpre i hi
    obtain ⟨e, he, hb, hx⟩ := mS ops [] k o ho i (by simpa using hi)
    have hle := hpre e he hb
    rcases hx with rfl | ⟨hlt, hx⟩
    · exact hle
    · simp only [List.length_nil, Nat.zero_add] at hlt
      have hlt' : e.on < ops.length := Nat.lt_trans hlt (List.getElem?_eq_some_iff.1 ho).1
      have hget : ops[e.on]? = some ops[e.on] := List.getElem?_eq_getElem hlt'
      exact ih e.on hlt _ hget (hcl e.on _ hget hle) i hx
end Go.Dm
namespace Go.Dm
open Go.RowKit
theorem qE {ops : List Oper} (h : lP ops = true) {i : Nat} {o : Oper} (hi : ops[i]? = some o) : ∀ e ∈ o.after, Region.binds .any e = true → e.on < i := by
  intro e he hb
  unfold lP at h
  rw [List.all_eq_true] at h
  have hm : (o, i) ∈ ops.zipIdx := by
    rw [List.mem_zipIdx_iff_getElem?]
    simpa using hi
  have := h (o, i) hm
  simp only at this
  rw [Array.all_eq_true_iff_forall_mem] at this
  have := this e he
  simpa [hb] using this
def unl (n : Nat) (listed : Array Bool) : Nat := ((List.range n).filter fun i => !listed.getD i true).length
theorem mE {n : Nat} {listed : Array Bool} {i : Nat} (hi : i < n) (hl : listed.getD i true = false) : unl n (listed.setIfInBounds i true) + 1 = unl n listed := by
  have hsz : i < listed.size := by
    rcases Nat.lt_or_ge i listed.size with h | h
    · exact h
    · simp [Array.getElem?_eq_none h] at hl
  unfold unl
  induction n with
  | zero => omega
  | succ n ih =>
    rw [List.range_succ, List.filter_append, List.filter_append, List.length_append, List.length_append]
    by_cases hin : i = n
    · subst hin
      have e1 : ((List.range i).filter fun j => !(listed.setIfInBounds i true).getD j true) = (List.range i).filter fun j => !listed.getD j true := by
        apply List.filter_congr
        intro j hj
        rw [List.mem_range] at hj
        rw [getD_set_ne true (by omega : i ≠ j)]
      rw [e1]
      have e2 : (listed.setIfInBounds i true).getD i true = true := by simp [hsz]
      simp only [List.filter_cons, List.filter_nil, e2, hl, Bool.not_true, Bool.not_false, if_true, Bool.false_eq_true, if_false, List.length_nil, List.length_singleton]
    · have := ih (by omega)
      have e2 : (listed.setIfInBounds i true).getD n true = listed.getD n true := getD_set_ne true hin
      simp only [List.filter_cons, List.filter_nil, e2]
      omega
theorem tU {n : Nat} {listed : Array Bool} (h : unl n listed = 0) : ∀ i, i < n → listed.getD i true = true := by
  intro i hi
  cases hb : listed.getD i true with
  | true => rfl
  | false =>
    have := mE hi hb
    omega
theorem A6 {E : Env} (hE : EnvOk E) {F : Fm} {ops : Array Oper} {Q : Exit → Act → World → Prop} {steps : List Stp} {m0 mf : Mem} (hops : steps.map (·.o) = ops.toList) (hch : q5 E ops m0 steps mf)
    (hdst : ∀ p ∈ steps, ∀ t, p.o.dst = some t → t < F.n) (hgs : ∀ p ∈ steps, F.gn ≤ p.nv ∧ F.gk ≤ p.nt ∧ F.locs.length ≤ p.nv) (hord : ix (f8 ops.toList []) (steps.map (Stp.touch ops)) 0 = true) (hedge : lP ops.toList = true)
    (hQ : ∀ a w, (∃ γ, Rel F γ mf a w ∧ cJ E.gl γ.fr w) → Q .normal a w) : ∀ (fuel : Nat) (listed : Array Bool) (a : Act) (w : World), listed.size = ops.size → unl ops.size listed = fuel →
      (∀ (j : Nat) o, ops.toList[j]? = some o → listed.getD j false = true → ∀ e ∈ o.after, Region.binds .any e = true → listed.getD e.on false = true) →
      (∃ γ, Rel F γ (bY (fun i => listed.getD i false) 0 steps m0) a w ∧ cJ E.gl γ.fr w) → wpAny E.P .any ops Q fuel listed a w := by
  have hlen : steps.length = ops.size := by
    have := congrArg List.length hops
    simpa using this
  have hfin : ∀ (listed : Array Bool), (∀ i, i < ops.size → listed.getD i false = true) → bY (fun i => listed.getD i false) 0 steps m0 = mf := by
    intro listed hall
    rw [pZ (k := 0) hch]
    exact eA (fun j hj => by
      simp only [Nat.zero_add]
      exact hall j (by omega))
  have getDs : ∀ (listed : Array Bool) (i : Nat), listed.size = ops.size → i < ops.size → listed.getD i true = listed.getD i false := fun listed i hs hi => by
    have : i < listed.size := by omega
    simp [this]
  have hready : ∀ (listed : Array Bool), listed.size = ops.size → Region.ready .any ops listed = [] → ∀ i, i < ops.size → listed.getD i false = true := by
    intro listed hs hr i
    induction i using Nat.strongRecOn with
    | _ i ih =>
      intro hi
      cases hb : listed.getD i false with
      | true => rfl
      | false =>
        exfalso
        have hoi : ops[i]? = some ops[i] := Array.getElem?_eq_getElem hi
        have : i ∈ Region.ready .any ops listed := mem_ready.2 ⟨by rw [getDs listed i hs hi]; exact hb, ops[i], hoi, fun e he hbd => by
          have hlt := qE hedge (i := i) (o := ops[i]) (by simp [hi]) e he hbd
          exact ih e.on hlt (by omega)⟩
        rw [hr] at this
        cases this
  intro fuel
  induction fuel with
  | zero =>
    intro listed a w hs hu hcl hrel
    have hall : ∀ i, i < ops.size → listed.getD i false = true := fun i hi => by rw [← getDs listed i hs hi]; exact tU hu i hi
    refine ⟨?_, hQ a w (by rw [← hfin listed hall]; exact hrel)⟩
    apply List.eq_nil_iff_forall_not_mem.2
    intro i hi
    obtain ⟨h1, o, ho, _⟩ := mem_ready.1 hi
    have hlt : i < ops.size := (Array.getElem?_eq_some_iff.1 ho).1
    rw [getDs listed i hs hlt, hall i hlt] at h1
    cases h1
  | succ fuel ih =>
    intro listed a w hs hu hcl hrel
    refine ⟨fun hr => hQ a w (by rw [← hfin listed (hready listed hs hr)]; exact hrel), fun i hi => ?_⟩
    obtain ⟨hun, o, ho, hpre⟩ := mem_ready.1 hi
    have hlt : i < ops.size := (Array.getElem?_eq_some_iff.1 ho).1
    have hun' : listed.getD i false = false := by rw [← getDs listed i hs hlt]; exact hun
    have hol : ops.toList[i]? = some o := by simpa using ho
    have hsl : i < steps.length := by omega
    obtain ⟨p, hp⟩ : ∃ p, steps[i]? = some p := ⟨steps[i], List.getElem?_eq_getElem hsl⟩
    have hpo : p.o = o := by
      have := congrArg (fun l => l[i]?) hops
      simp only [List.getElem?_map, hp, Option.map_some, hol, Option.some.injEq] at this
      exact this
    have hsplit : steps = steps.take i ++ p :: steps.drop (i + 1) := by
      have h1 := (List.take_append_drop i steps).symm
      have h2 : steps.drop i = p :: steps.drop (i + 1) := by
        rw [List.drop_eq_getElem_cons hsl]
        congr 1
        have := List.getElem?_eq_getElem hsl
        rw [hp] at this
        exact (Option.some.inj this).symm
      rw [h2] at h1
      exact h1
    have htl : (steps.take i).length = i := by rw [List.length_take]; omega
    have hclash : ∀ (k l : Nat) (x y : Stp), k < l → steps[k]? = some x → steps[l]? = some y → (x.touch ops).clash (y.touch ops) = false ∨ ((f8 ops.toList []).getD l 0).testBit k = true := fun k l x y hkl hx hy => by
      have := l9 hord k l _ _ hkl (by rw [List.getElem?_map, hx]; rfl) (by rw [List.getElem?_map, hy]; rfl)
      simpa using this
    have hbefore : ∀ (k : Nat) x, k < i → steps[k]? = some x → listed.getD k false = true ∨ (x.touch ops).clash (p.touch ops) = false := fun k x hki hx => by
      rcases hclash k i x p hki hx hp with h1 | h1
      · exact .inr h1
      · exact .inl (lW (L := fun i => listed.getD i false) hcl i o hol hpre k h1)
    have hbehind : ∀ (l : Nat) y, i < l → steps[l]? = some y → listed.getD l false = true → (p.touch ops).clash (y.touch ops) = false := fun l y hil hy hll => by
      rcases hclash i l p y hil hp hy with h1 | h1
      · exact h1
      · exfalso
        have hlo : l < ops.toList.length := by
          have := (List.getElem?_eq_some_iff.1 hy).1
          simp; omega
        have hget : ops.toList[l]? = some ops.toList[l] := List.getElem?_eq_getElem hlo
        have := lW (L := fun i => listed.getD i false) hcl l _ hget (hcl l _ hget hll) i h1
        have this : listed.getD i false = true := this
        rw [hun'] at this
        cases this
    let L : Nat → Bool := fun i => listed.getD i false
    have hL : L i = false := hun'
    have hmem : bY L 0 steps m0 = bY L (i + 1) (steps.drop (i + 1)) (bY L 0 (steps.take i) m0) := by
      conv => lhs; rw [hsplit]
      rw [go, htl]
      simp only [bY, Nat.zero_add, hL, Bool.false_eq_true, if_false]
    have hpostget : ∀ (j : Nat) r, (steps.drop (i + 1))[j]? = some r → steps[i + 1 + j]? = some r := fun j r hr => by rw [List.getElem?_drop] at hr; exact hr
    have hpreget : ∀ (j : Nat) r, (steps.take i)[j]? = some r → j < i ∧ steps[j]? = some r := fun j r hr => by
      rw [List.getElem?_take] at hr
      split at hr
      · exact ⟨by assumption, hr⟩
      · cases hr
    have hagree : Agree (p.touch ops) (bY (fun _ => true) 0 (steps.take i) m0) (bY L 0 steps m0) := by
      rw [hmem]
      refine Agree.trans (p5 (ops := ops) (Agree.refl _ _) (fun j r hr => ?_)) (mI (ops := ops) (fun j r hr hLj => ?_))
      · obtain ⟨hji, hr'⟩ := hpreget j r hr
        rcases hbefore j r hji hr' with h1 | h1
        · left; simpa [L] using h1
        · right
          simp only [Touch.clash, Bool.or_eq_false_iff] at h1
          exact h1.2.1
      · have := hbehind (i + 1 + j) r (by omega) (hpostget j r hr) hLj
        simp only [Touch.clash, Bool.or_eq_false_iff] at this
        exact this.2.2
    have hnext : bY (fun j => (listed.setIfInBounds i true).getD j false) 0 steps m0 = p.step (bY L 0 steps m0) := by
      have hi' : (listed.setIfInBounds i true).getD i false = true := by
        have : i < listed.size := by omega
        simp [this]
      have hne : ∀ j, j ≠ i → (listed.setIfInBounds i true).getD j false = L j := fun j hj => getD_set_ne false (Ne.symm hj)
      conv => lhs; rw [hsplit]
      rw [go, htl]
      simp only [bY, Nat.zero_add, hi', if_true]
      rw [eA (L' := L) (xs := steps.take i) (fun j hj => hne _ (by omega)), eA (L' := L) (xs := steps.drop (i + 1)) (fun j hj => hne _ (by omega))]
      rw [jQ (ops := ops) (fun j r hr hLj => ?_), ← hmem]
      have := hbehind (i + 1 + j) r (by omega) (hpostget j r hr) hLj
      simp only [Touch.clash, Bool.or_eq_false_iff] at this
      exact this.2.1
    obtain ⟨mi, hmi⟩ : ∃ mi, mi = bY (fun _ => true) 0 (steps.take i) m0 := ⟨_, rfl⟩
    have hchi : q5 E ops mi (p :: steps.drop (i + 1)) mf := by
      have aux : ∀ (xs ys : List Stp) (k : Nat) (m : Mem), q5 E ops m (xs ++ ys) mf → q5 E ops (bY (fun _ => true) k xs m) ys mf := by
        intro xs
        induction xs with
        | nil => intro ys k m h; exact h
        | cons x xs ih2 => intro ys k m h; simp only [bY, if_true]; exact ih2 ys (k + 1) _ h.2.2.2.2.2
      rw [hmi]
      refine aux (steps.take i) _ 0 m0 ?_
      rw [← hsplit]
      exact hch
    have heq : p.e.al = true → bY L 0 steps m0 = mi := fun hal => by
      have hno : ∀ (x : Stp), (x.touch ops).clash (p.touch ops) = false → False := fun x hx => by
        simp only [Touch.clash, Bool.or_eq_false_iff] at hx
        have h2 : (p.touch ops).al = false := hx.1.2
        have h3 : (p.touch ops).al = true := hal
        rw [h3] at h2; cases h2
      have hno' : ∀ (x : Stp), (p.touch ops).clash (x.touch ops) = false → False := fun x hx => by
        simp only [Touch.clash, Bool.or_eq_false_iff] at hx
        have h2 : (p.touch ops).al = false := hx.1.1
        have h3 : (p.touch ops).al = true := hal
        rw [h3] at h2; cases h2
      have hskip : ∀ (xs : List Stp) (k : Nat) (m : Mem), (∀ j, j < xs.length → L (k + j) = false) → bY L k xs m = m := by
        intro xs
        induction xs with
        | nil => intro k m _; rfl
        | cons x xs ih3 =>
          intro k m hx
          have h0 := hx 0 (by simp)
          simp only [Nat.add_zero] at h0
          simp only [bY, h0, Bool.false_eq_true, if_false]
          exact ih3 (k + 1) m (fun j hj => by
            have := hx (j + 1) (by simp; omega)
            rwa [show k + (j + 1) = k + 1 + j by omega] at this)
      rw [hmem, hskip, hmi]
      · refine eA fun j hj => ?_
        rw [htl] at hj
        have hjs : j < steps.length := by omega
        rcases hbefore j steps[j] hj (List.getElem?_eq_getElem hjs) with h1 | h1
        · simpa [L] using h1
        · exact (hno _ h1).elim
      · intro j hj
        have hjs : i + 1 + j < steps.length := by rw [List.length_drop] at hj; omega
        cases hlj : L (i + 1 + j) with
        | false => rfl
        | true => exact (hno' _ (hbehind (i + 1 + j) steps[i + 1 + j] (by omega) (List.getElem?_eq_getElem hjs) hlj)).elim
    rw [← hmi] at hagree
    obtain ⟨hq, he, hnv, hnt, hall, _⟩ := hchi
    obtain ⟨γ, hrel, hg⟩ := hrel
    have hw : fm ops (bY L 0 steps m0) o = some p.q := by
      rw [← hq, hpo]
      exact pn fun t ht => hagree.tmp t (.inl (by simp only [Stp.touch, Touch.of]; rw [hpo]; exact ht))
    have hd' : ∀ t, o.dst = some t → t < F.n := fun t ht => hdst p (List.mem_of_getElem? hp) t (by rw [hpo]; exact ht)
    have hstep : ∀ a' w', (∃ γ', Rel F γ' (p.step (bY L 0 steps m0)) a' w' ∧ cJ E.gl γ'.fr w') → wpAny E.P .any ops Q fuel (listed.setIfInBounds i true) a' w' := by
      intro a' w' hr'
      refine ih (listed.setIfInBounds i true) a' w' (by simpa using hs) ?_ ?_ (by rw [hnext]; exact hr')
      · have := mE (n := ops.size) hlt hun
        omega
      · intro j oj hoj hlj e he' hb
        by_cases hji : j = i
        · subst hji
          rw [hol] at hoj
          cases hoj
          exact getD_set_true (hpre e he' hb)
        · rw [getD_set_ne false (Ne.symm hji)] at hlj
          exact getD_set_true (hcl j oj hoj hlj e he' hb)
    unfold wpOp
    rw [ho]
    simp only
    rw [kk hrel hw]
    cases hpq : p.q with
    | true =>
      rw [hpq] at he
      simp only [if_true] at he ⊢
      rw [hpo] at he
      have he' : an E (bY L 0 steps m0) p.nv p.nt o = some p.e := by
        cases hal : p.e.al with
        | true => rw [heq hal]; exact he
        | false =>
        refine px he hal (fun x hx => ?_) (fun id hid => hagree.var id (.inl hid)) (fun k hk => hagree.tok k (.inl hk))
        cases x with
        | tmp t =>
          refine hagree.tmp t (.inl ?_)
          simp only [Stp.touch, Touch.of]
          rw [hpo]
          unfold Oper.looksAt
          exact List.mem_append_left _ (List.mem_filterMap.2 ⟨.tmp t, by simpa using hx, rfl⟩)
        | _ => rfl
      refine .inl (Oper.wp_mono (fun a' w' hp' => hstep a' w' ?_) (sK hE hrel hg hd' he' (fun hal => by rw [heq hal]; exact ⟨hall.1, hall.2, hgs p (List.mem_of_getElem? hp)⟩) (fun hs' => ?_) (fun k n hk hnk => ?_)))
      · obtain ⟨γ', h1, h2⟩ := hp'
        refine ⟨γ', ?_, h2⟩
        simp only [Stp.step, hpo]
        exact h1
      · rw [hagree.var p.nv (.inr (by simp [Stp.touch, Touch.of, hs']))]
        exact hnv hs'
      · rw [hagree.tok k (.inr (by simp only [Stp.touch, Touch.of]; exact List.mem_map.2 ⟨(k, n), hk, rfl⟩))]
        exact hnt k n hk hnk
    | false =>
      rw [hpq] at he
      simp only [Bool.false_eq_true, if_false] at he ⊢
      refine hstep _ _ ⟨γ, ?_, hg⟩
      simp only [Stp.step, he, hpo, Mem.apply_skip]
      exact hrel.put hd' rfl
theorem Rel.draw {F : Fm} {γ : Gh} {m : Mem} {a : Act} {w : World} (h : Rel F γ m a w) : Rel F γ m a { w with drawn := w.drawn + 1 } ∧ Ev γ.fr γ.fr w { w with drawn := w.drawn + 1 } := by
  have hb : Below w.heap.size w { w with drawn := w.drawn + 1 } := (Below.refl _ w).drew
  obtain ⟨h1, h2⟩ := h.grow hb (fr' := γ.fr) (fun _ _ h => h) (fun _ _ h => .inl h)
  exact ⟨h1, h2.ev⟩
theorem pV {E : Env} (hE : EnvOk E) {F : Fm} {id : Nat} {ops : Array Oper} {draw : Bool} {s s' : St} (h : fB E ops draw s = some s') {Q : Exit → Act → World → Prop} {a : Act} {w : World} (hr : jq E F s a w)
    (hQ : ∀ a w, jq E F s' a w → Q .normal a w) : (Code.region id ops draw).wp E.P Q a w := by
  unfold fB at h
  split at h
  · cases h
  · rename_i s1 ts hev
    split at h
    · rename_i hcond
      cases h
      cases draw with
      | false =>
        refine wp_region ?_
        have := u7 hE hev (k := 0) (by simp) hQ hr
        rw [List.range_eq_range']
        simpa using this
      | true =>
        simp only [Bool.not_true, Bool.false_or, Bool.and_eq_true] at hcond
        obtain ⟨⟨hord, hedge⟩, hmix⟩ := hcond
        obtain ⟨steps, h1, h2, h3, h4, h5, h6, h7, h8⟩ := rO hev
        obtain ⟨⟨hn, hg1, hg2, hg3⟩, γ, hrel, hg⟩ := hr
        obtain ⟨hrel', hev'⟩ := hrel.draw
        refine wp_region_any hmix ?_
        have hfalse : ∀ i, (Array.replicate ops.size false).getD i false = false := fun i => by
          by_cases hi : i < ops.size <;> simp [hi]
        have hzero : ∀ (xs : List Stp) (k : Nat) (m : Mem), bY (fun i => (Array.replicate ops.size false).getD i false) k xs m = m := by
          intro xs
          induction xs with
          | nil => intro k m; rfl
          | cons x xs ih =>
            intro k m
            show bY _ (k + 1) xs (if (Array.replicate ops.size false).getD k false = true then x.step m else m) = m
            rw [hfalse k, if_neg (by simp)]
            exact ih (k + 1) m
        refine A6 hE h1 h3 (fun p hp t ht => by rw [← hn]; exact h4 p hp t ht) (fun p hp => ⟨Nat.le_trans hg1 (h6 p hp).1, Nat.le_trans hg2 (h6 p hp).2, Nat.le_trans hg3 (h6 p hp).1⟩) (by rw [← h2]; exact hord) hedge (fun a w hr => hQ a w ⟨⟨by rw [h5]; exact hn, Nat.le_trans hg1 h7, Nat.le_trans hg2 h8, Nat.le_trans hg3 h7⟩, hr⟩) ops.size (Array.replicate ops.size false) a _ (by simp) ?_ ?_ ?_
        · unfold unl
          rw [List.filter_eq_self.2 (fun i hi => by rw [List.mem_range] at hi; simp [hi])]
          simp
        · intro j o _ hl
          rw [hfalse] at hl
          cases hl
        · exact ⟨γ, by rw [hzero]; exact hrel', hg.mono hev'⟩
    · cases h
end Go.Dm
namespace Go.Dm
open Go.RowKit
theorem Rel.forget {F : Fm} {γ : Gh} {m m' : Mem} {a : Act} {w : World} (h : Rel F γ m a w) (ht : ∀ t, m'.tmp t = m.tmp t ∨ m'.tmp t = .hole) (hv : m'.var = m.var) (hk : m'.tok = m.tok) : Rel F γ m' a w where
  defers := h.defers
  size := h.size
  base := h.base
  fr0 := h.fr0
  frs := h.frs
  frlt := h.frlt
  loclt := h.loclt
  tmps t := by
    rw [hk]
    rcases ht t with h1 | h1
    · rw [h1]; exact h.tmps t
    · rw [h1]; trivial
  gh := by rw [hk]; exact h.gh
  vars := by rw [hv, hk]; exact h.vars
  novar := by rw [hv]; exact h.novar
  lentloc := h.lentloc
  apart := by rw [hv]; exact h.apart
  toks := by rw [hk]; exact h.toks
  tapart := by rw [hk]; exact h.tapart
  tvar := by rw [hk, hv]; exact h.tvar
theorem iI : ∀ {fs : List Tmp} {ts : List T}, (bC ts fs).length = ts.length ∧ ∀ t, (bC ts fs).getD t .skip = ts.getD t .skip ∨ (bC ts fs).getD t .skip = .hole
  | [], ts => ⟨rfl, fun t => .inl rfl⟩
  | f :: fs, ts => by
    obtain ⟨h1, h2⟩ := iI (fs := fs) (ts := ts.set f .hole)
    refine ⟨by simp [bC, h1], fun t => ?_⟩
    simp only [bC]
    rcases h2 t with h3 | h3
    · rw [h3]
      by_cases hft : f = t
      · subst hft
        by_cases hlt : f < ts.length
        · right; simp [List.getD, hlt]
        · left
          have hge : ts.length ≤ f := Nat.le_of_not_lt hlt
          rw [List.set_eq_of_length_le hge]
      · left; simp [List.getD, hft]
    · exact .inr h3
theorem jq.forget {E : Env} {F : Fm} {s : St} {a : Act} {w : World} (h : jq E F s a w) (fs : List Tmp) : jq E F { s with tmps := bC s.tmps fs } a w := by
  obtain ⟨⟨hn, hgs⟩, γ, hr, hg⟩ := h
  obtain ⟨h1, h2⟩ := iI (fs := fs) (ts := s.tmps)
  exact ⟨⟨by rw [h1]; exact hn, hgs⟩, γ, hr.forget h2 rfl rfl, hg⟩
theorem V.cut_rep {γ : Gh} {tok : Nat → Option Nat} {w : World} {n k : Nat} {x : V} {v : Value} (hx : x.rep γ tok w v) (ho : x.old n = true) :
    (x.untok k).rep { γ with loc := fun i => if i < n then γ.loc i else none } (fun i => if i < k then tok i else none) w v := by
  cases x with
  | c x => simpa only [V.untok, V.rep] using hx
  | own sz es t =>
    cases t with
    | exact => simpa only [V.untok, V.rep, ig] using hx
    | tok i =>
      simp only [V.untok]
      split
      · rename_i hi
        simp only [V.rep, ig, hi, if_true] at hx ⊢
        exact hx
      · simp only [V.rep]
        exact hx.1
  | ptr id off =>
    simp only [V.old, decide_eq_true_eq] at ho
    simp only [V.untok, V.rep, ho, if_true] at hx ⊢
    exact hx
  | vsl id off sz l =>
    simp only [V.old, decide_eq_true_eq] at ho
    simp only [V.untok, V.rep, ho, if_true] at hx ⊢
    exact hx
  | clo f caps =>
    simp only [V.untok, V.rep] at hx ⊢
    obtain ⟨vs, h1, h2⟩ := hx
    refine ⟨vs, h1, ?_⟩
    simp only [V.old] at ho
    clear h1
    induction caps generalizing vs with
    | nil =>
      cases vs with
      | nil => trivial
      | cons _ _ => exact h2.elim
    | cons c cs ih =>
      cases vs with
      | nil => exact h2.elim
      | cons u us =>
        simp only [List.all_cons, Bool.and_eq_true] at ho
        refine ⟨?_, ih ho.2 us h2.2⟩
        have h3 := h2.1
        cases c with
        | inl c => exact h3
        | inr p =>
          obtain ⟨id, off⟩ := p
          have ho1 := ho.1
          simp only [decide_eq_true_eq] at ho1
          simp only [gc, ho1, if_true] at h3 ⊢
          exact h3
theorem Vs.cut_rep {γ : Gh} {tok : Nat → Option Nat} {w : World} {n k : Nat} : ∀ {xs : List V} {vs : List Value}, aJ (V.rep γ tok w) xs vs → xs.all (V.old n) = true →
    aJ (V.rep { γ with loc := fun i => if i < n then γ.loc i else none } (fun i => if i < k then tok i else none) w) (xs.map (V.untok k)) vs
  | [], [], _, _ => trivial
  | x :: xs, v :: vs, h, ho => by
    simp only [List.all_cons, Bool.and_eq_true] at ho
    exact ⟨V.cut_rep h.1 ho.1, Vs.cut_rep h.2 ho.2⟩
  | [], _ :: _, h, _ => h.elim
  | _ :: _, [], h, _ => h.elim
theorem K.cut_rep {γ : Gh} {tok : Nat → Option Nat} {w : World} {n k : Nat} {x y : K} {v : Value} (hx : x.rep γ tok w v) (hc : x.cut n k = some y) :
    y.rep { γ with loc := fun i => if i < n then γ.loc i else none } (fun i => if i < k then tok i else none) w v := by
  cases x with
  | v x =>
    simp only [K.cut] at hc
    split at hc
    · cases hc; exact V.cut_rep hx (by assumption)
    · cases hc
  | agg xs =>
    simp only [K.cut] at hc
    split at hc
    · rename_i ho
      cases hc
      obtain ⟨vs, h1, h2⟩ := hx
      exact ⟨vs, h1, Vs.cut_rep h2 ho⟩
    · cases hc
theorem T.cut_rep {γ : Gh} {tok : Nat → Option Nat} {w : World} {n k : Nat} {x : T} {v : Value} (hx : x.rep γ tok w v) :
    (x.cut n k).rep { γ with loc := fun i => if i < n then γ.loc i else none } (fun i => if i < k then tok i else none) w v := by
  cases x with
  | k x =>
    simp only [T.cut]
    split
    · rename_i y hy; exact K.cut_rep hx hy
    · trivial
  | tup ks =>
    simp only [T.cut]
    split
    · rename_i ys hy
      obtain ⟨vs, h1, h2⟩ := hx
      refine ⟨vs, h1, ?_⟩
      clear h1
      induction ks generalizing ys vs with
      | nil =>
        simp at hy
        subst hy
        cases vs with
        | nil => trivial
        | cons _ _ => exact h2.elim
      | cons z zs ih =>
        cases vs with
        | nil => exact h2.elim
        | cons u us =>
          rw [List.mapM_cons] at hy
          simp only [Option.pure_def, Option.bind_eq_bind, Option.bind_eq_some_iff, Option.some.injEq] at hy
          obtain ⟨y, hy1, r, hr, rfl⟩ := hy
          exact ⟨K.cut_rep h2.1 hy1, ih _ hr us h2.2⟩
    · trivial
  | hole => trivial
  | skip => exact hx
theorem jq.cut {E : Env} {F : Fm} {s s' : St} {a : Act} {w : World} (h : jq E F s a w) {n k : Nat} (hn : F.gn ≤ n ∧ F.gk ≤ k ∧ F.locs.length ≤ n) (hc : s.cut n k = some s') : jq E F s' a w := by
  unfold St.cut at hc
  split at hc
  · rename_i hall
    cases hc
    obtain ⟨⟨hlen, hg1, hg2, hg3⟩, γ, hr, hg⟩ := h
    obtain ⟨hn1, hn2, hn⟩ := hn
    have hvar : ∀ i : Nat, ((s.vars.take n).map fun xs => xs.map (V.untok k))[i]? = if i < n then (s.vars[i]?).map (fun xs => xs.map (V.untok k)) else none := fun i => by
      rw [List.getElem?_map, List.getElem?_take]
      split <;> simp
    have htok : ∀ i : Nat, (s.toks.take k)[i]? = if i < k then s.toks[i]? else none := fun i => by
      rw [List.getElem?_take]
    have hv : ∀ i zs, ((s.vars.take n).map fun xs => xs.map (V.untok k))[i]? = some zs → i < n ∧ ∃ xs, s.vars[i]? = some xs ∧ zs = xs.map (V.untok k) ∧ xs.all (V.old n) = true := fun i zs hi => by
      rw [hvar] at hi
      split at hi
      · rename_i hin
        simp only [Option.map_eq_some_iff] at hi
        obtain ⟨xs, h1, rfl⟩ := hi
        refine ⟨hin, xs, h1, rfl, ?_⟩
        rw [List.all_eq_true] at hall
        refine hall xs (List.mem_of_getElem? (i := i) ?_)
        rw [List.getElem?_take, if_pos hin]
        exact h1
      · cases hi
    have ht : ∀ i l, (s.toks.take k)[i]? = some l → s.toks[i]? = some l := fun i l hi => by
      rw [htok] at hi
      split at hi
      · exact hi
      · cases hi
    have hl : ∀ i p, (if i < n then γ.loc i else none) = some p → γ.loc i = some p := fun i p hi => by
      split at hi
      · exact hi
      · cases hi
    have hm : (⟨s.tmps.map (T.cut n k), (s.vars.take n).map (fun xs => xs.map (V.untok k)), s.toks.take k⟩ : St).mem.tok = fun i => if i < k then s.mem.tok i else none := funext htok
    refine ⟨⟨by simpa using hlen, by simp only [List.length_map, List.length_take]; omega, by simp only [List.length_take]; omega, by simp only [List.length_map, List.length_take]; omega⟩, { γ with loc := fun i => if i < n then γ.loc i else none }, ?_, hg⟩
    exact {
      defers := hr.defers
      size := hr.size
      base := hr.base
      fr0 := hr.fr0
      frs := hr.frs
      frlt := hr.frlt
      loclt := fun i b o hi => hr.loclt i b o (hl i _ hi)
      tmps := fun t => by
        rw [hm]
        have : (⟨s.tmps.map (T.cut n k), (s.vars.take n).map (fun xs => xs.map (V.untok k)), s.toks.take k⟩ : St).mem.tmp t = (s.mem.tmp t).cut n k := by
          simp only [St.mem, List.getD, List.getElem?_map]
          cases s.tmps[t]? <;> rfl
        rw [this]
        exact T.cut_rep (hr.tmps t)
      gh := fun x v n1 k1 hp => by
        rw [hm]
        obtain ⟨⟨h1, h2⟩, h3⟩ := hr.gh x v n1 k1 hp
        refine ⟨⟨h1, h2⟩, ?_⟩
        rw [← Gh.upto_upto γ (Nat.le_trans h1 hn1), ← upto_upto s.mem.tok (Nat.le_trans h2 hn2)] at h3
        exact h3
      vars := fun i zs hi => by
        rw [hm]
        obtain ⟨hin, xs, h1, rfl, h2⟩ := hv i zs hi
        obtain ⟨b, o, k1, ⟨vs, k2, k3⟩, k4, k5⟩ := hr.vars i xs h1
        refine ⟨b, o, by simp only [hin, if_true]; exact k1, ⟨vs, Vs.cut_rep k2 h2, k3⟩, by simpa using k4, by simpa using k5⟩
      novar := fun i hi => by
        simp only
        split
        · rename_i hin
          have hi' : ((s.vars.take n).map fun xs => xs.map (V.untok k))[i]? = none := hi
          rw [hvar, if_pos hin] at hi'
          exact hr.novar i (by simpa [St.mem] using hi')
        · rfl
      lentloc := fun i p hp => by
        have : i < n := Nat.lt_of_lt_of_le (List.getElem?_eq_some_iff.1 hp).1 hn
        simp only [this, if_true]
        exact hr.lentloc i p hp
      apart := fun i j zs us b o b' o' hij hi hj hli hlj => by
        obtain ⟨_, xs, h1, rfl, _⟩ := hv i zs hi
        obtain ⟨_, ys, h2, rfl, _⟩ := hv j us hj
        have := hr.apart i j xs ys b o b' o' hij h1 h2 (hl i _ hli) (hl j _ hlj)
        simpa using this
      toks := fun i l hi => hr.toks i l (ht i l hi)
      tapart := fun i j x y hij hi hj => hr.tapart i j x y hij (ht i x hi) (ht j y hj)
      tvar := fun i l j zs b o hi hj hlj => by
        obtain ⟨_, xs, h1, rfl, _⟩ := hv j zs hj
        exact hr.tvar i l j xs b o (ht i l hi) h1 (hl j _ hlj) }
  · cases hc
theorem Rel.setTmp {F : Fm} {γ : Gh} {m : Mem} {a : Act} {w : World} (h : Rel F γ m a w) {t : Tmp} {x : T} (hx : x.rep γ m.tok w (a.tmps.getD t undef)) : Rel F γ { m with tmp := fun i => if i = t then x else m.tmp i } a w :=
  { h with
    tmps := fun i => by
      simp only
      split
      · rename_i hi; subst hi; exact hx
      · exact h.tmps i }
theorem Rel.setVar {F : Fm} {γ : Gh} {m : Mem} {a : Act} {w : World} (h : Rel F γ m a w) {id : Nat} {xs xs' : List V} (hv : m.var id = some xs) (hlen : xs'.length = xs.length) (hx : ∀ b o vs, γ.loc id = some (b, o) → w.rangeAt b o vs → aJ (V.rep γ m.tok w) xs vs → aJ (V.rep γ m.tok w) xs' vs) :
    Rel F γ { m with var := fun i => if i = id then some xs' else m.var i } a w := by
  have key : ∀ i zs, (if i = id then some xs' else m.var i) = some zs → ∃ ys, m.var i = some ys ∧ ys.length = zs.length ∧ ∀ b o vs, γ.loc i = some (b, o) → w.rangeAt b o vs → aJ (V.rep γ m.tok w) ys vs → aJ (V.rep γ m.tok w) zs vs := fun i zs hi => by
    split at hi
    · rename_i he; subst he; cases hi; exact ⟨xs, hv, hlen.symm, hx⟩
    · exact ⟨zs, hi, rfl, fun _ _ _ _ _ h => h⟩
  exact { h with
    vars := fun i zs hi => by
      obtain ⟨ys, h1, h2, h3⟩ := key i zs hi
      obtain ⟨b, o, k1, ⟨vs, k2, k3⟩, k4, k5⟩ := h.vars i ys h1
      exact ⟨b, o, k1, ⟨vs, h3 b o vs k1 k3 k2, k3⟩, by rw [← h2]; exact k4, by rw [← h2]; exact k5⟩
    novar := fun i hi => by
      simp only at hi
      split at hi
      · cases hi
      · exact h.novar i hi
    apart := fun i j zs us b o b' o' hij hi hj hli hlj => by
      obtain ⟨ys, h1, h2, _⟩ := key i zs hi
      obtain ⟨ys', h1', h2', _⟩ := key j us hj
      have := h.apart i j ys ys' b o b' o' hij h1 h1' hli hlj
      omega
    tvar := fun i l j zs b o hi hj hlj => by
      obtain ⟨ys, h1, _, _⟩ := key j zs hj
      exact h.tvar i l j ys b o hi h1 hlj }
theorem fG {E : Env} {F : Fm} {a : Act} {w : World} : ∀ {hs : List (Tmp × Nat)} {ts ts' : List T} {vs : List (List V)} {ks ks' : List Nat}, ff ts ks hs = (ts', ks') → jq E F ⟨ts, vs, ks⟩ a w → jq E F ⟨ts', vs, ks'⟩ a w
  | [], ts, ts', vs, ks, ks', h, hr => by simp only [ff, Prod.mk.injEq] at h; obtain ⟨rfl, rfl⟩ := h; exact hr
  | (t, z) :: hs, ts, ts', vs, ks, ks', h, hr => by
    simp only [ff] at h
    split at h
    · rename_i sz es ht
      refine fG h ?_
      obtain ⟨⟨hn, g1, g2, g3⟩, γ, hrel, hg⟩ := hr
      have htm := hrel.tmps t
      have hm : (⟨ts, vs, ks⟩ : St).mem.tmp t = .k (.v (.own sz es .exact)) := ht
      rw [hm] at htm
      obtain ⟨γ', h1, h2, _, h3⟩ := hrel.tag (j := ks.length) (z := z) (by simp [St.mem]) htm
      have h4 := h1.setTmp (t := t) (x := .k (.v (.own (if es.isEmpty then z else sz) es (.tok ks.length)))) h3
      refine ⟨⟨by simpa using hn, g1, Nat.le_trans g2 (by simp), g3⟩, γ', ?_, hg.mono h2.ev⟩
      have hlt : t < ts.length := by
        rcases Nat.lt_or_ge t ts.length with h | h
        · exact h
        · simp [List.getD, List.getElem?_eq_none h] at ht
      have e1 : (⟨ts.set t (.k (.v (.own (if es.isEmpty then z else sz) es (.tok ks.length)))), vs, ks ++ [es.length]⟩ : St).mem = { tmp := fun i => if i = t then .k (.v (.own (if es.isEmpty then z else sz) es (.tok ks.length))) else (⟨ts, vs, ks⟩ : St).mem.tmp i, var := (⟨ts, vs, ks⟩ : St).mem.var, tok := fun i => if i = ks.length then some es.length else (⟨ts, vs, ks⟩ : St).mem.tok i } := by
        simp only [St.mem, Mem.mk.injEq, true_and]
        constructor
        · funext i
          by_cases hi : i = t
          · subst hi; simp [List.getD, hlt]
          · simp [List.getD, hi, Ne.symm hi]
        · funext i
          by_cases hi : i = ks.length
          · subst hi; simp
          · simp only [hi, if_false]
            rcases Nat.lt_or_ge i ks.length with h | h
            · rw [List.getElem?_append_left h]
            · rw [List.getElem?_eq_none (by simp; omega), List.getElem?_eq_none h]
      rw [e1]
      exact h4
    · exact fG h hr
theorem aJ.set {α β : Type} {R : α → β → Prop} : ∀ {xs : List α} {vs : List β} {i : Nat} {x : α}, aJ R xs vs → (∀ v, vs[i]? = some v → R x v) → aJ R (xs.set i x) vs
  | [], [], _, _, _, _ => trivial
  | _ :: _, v :: _, 0, _, h, hx => ⟨hx v rfl, h.2⟩
  | _ :: _, _ :: _, i + 1, _, h, hx => ⟨h.1, aJ.set h.2 (fun v hv => hx v (by simpa using hv))⟩
  | [], _ :: _, _, _, h, _ => h.elim
  | _ :: _, [], _, _, h, _ => h.elim
theorem ej {E : Env} {F : Fm} {a : Act} {w : World} : ∀ {hs : List (Nat × Nat × Nat)} {ts : List T} {vs vs' : List (List V)} {ks ks' : List Nat}, fL vs ks hs = (vs', ks') → jq E F ⟨ts, vs, ks⟩ a w → jq E F ⟨ts, vs', ks'⟩ a w
  | [], ts, vs, vs', ks, ks', h, hr => by simp only [fL, Prod.mk.injEq] at h; obtain ⟨rfl, rfl⟩ := h; exact hr
  | (id, off, z) :: hs, ts, vs, vs', ks, ks', h, hr => by
    simp only [fL] at h
    split at h
    · rename_i xs hx
      split at h
      · rename_i sz es hxo
        refine ej h ?_
        obtain ⟨⟨hn, g1, g2, g3⟩, γ, hrel, hg⟩ := hr
        obtain ⟨b, o, k1, ⟨us, k2, k3⟩, _⟩ := hrel.vars id xs hx
        obtain ⟨v, hv, hrv⟩ := k2.get off _ hxo
        obtain ⟨γ', h1, h2, hloc, h3⟩ := hrel.tag (j := ks.length) (z := z) (by simp [St.mem]) hrv
        have h4 := h1.setVar (id := id) (xs := xs) (xs' := xs.set off (.own (if es.isEmpty then z else sz) es (.tok ks.length))) hx (by simp) (fun b' o' us' hl' hr' hus' => by
          rw [hloc, k1] at hl'
          cases hl'
          refine hus'.set (fun v' hv' => ?_)
          have e1 := k3 off v hv
          have e2 := hr' off v' hv'
          rw [e1] at e2
          cases e2
          exact h3)
        refine ⟨⟨hn, by simpa using g1, Nat.le_trans g2 (by simp), by simpa using g3⟩, γ', ?_, hg.mono h2.ev⟩
        have hlt : id < vs.length := (List.getElem?_eq_some_iff.1 hx).1
        have e1 : (⟨ts, vs.set id (xs.set off (.own (if es.isEmpty then z else sz) es (.tok ks.length))), ks ++ [es.length]⟩ : St).mem = { tmp := (⟨ts, vs, ks⟩ : St).mem.tmp, var := fun i => if i = id then some (xs.set off (.own (if es.isEmpty then z else sz) es (.tok ks.length))) else (⟨ts, vs, ks⟩ : St).mem.var i, tok := fun i => if i = ks.length then some es.length else (⟨ts, vs, ks⟩ : St).mem.tok i } := by
          simp only [St.mem, Mem.mk.injEq, true_and]
          constructor
          · funext i
            by_cases hi : i = id
            · subst hi; simp [hlt]
            · simp [hi, Ne.symm hi]
          · funext i
            by_cases hi : i = ks.length
            · subst hi; simp
            · simp only [hi, if_false]
              rcases Nat.lt_or_ge i ks.length with h | h
              · rw [List.getElem?_append_left h]
              · rw [List.getElem?_eq_none (by simp; omega), List.getElem?_eq_none h]
        rw [e1]
        exact h4
      · exact ej h hr
    · exact ej h hr
end Go.Dm
namespace Go.Dm
open Go.RowKit
theorem jq.head {E : Env} {F : Fm} {s : St} {a : Act} {w : World} (h : jq E F s a w) (hint : LoopHint) : jq E F (s.head hint) a w := by
  unfold St.head
  have h1 := fG (vs := s.vars) (ts' := (ff s.tmps s.toks hint.tags).1) (ks' := (ff s.tmps s.toks hint.tags).2) rfl h
  have h2 := ej (vs' := (fL s.vars (ff s.tmps s.toks hint.tags).2 hint.vtags).1) (ks' := (fL s.vars (ff s.tmps s.toks hint.tags).2 hint.vtags).2) rfl h1
  exact h2.forget hint.forget
def Ext.toExit : Ext → Exit
  | .normal => .normal
  | .exit id => .exit id
  | .ret => .ret
theorem vm {f : St → Option (Ext × St)} {g : St → Option St} : ∀ (n : Nat) (s s' : St), rx f g n s ≠ some (.normal, s')
  | 0, s, s', h => by simp [rx] at h
  | n + 1, s, s', h => by
    simp only [rx] at h
    split at h
    · split at h
      · exact vm n _ _ h
      · cases h
    · rename_i hne
      exact hne s' h
theorem mK {E : Env} {F : Fm} {c : Code} {f : St → Option (Ext × St)} {g : St → Option St} {Q : Exit → Act → World → Prop}
    (hf : ∀ (s : St) (e : Ext) (s' : St) (Q' : Exit → Act → World → Prop) (a : Act) (w : World), f s = some (e, s') → jq E F s a w → (∀ a' w', jq E F s' a' w' → Q' e.toExit a' w') → c.wp E.P Q' a w)
    (hg : ∀ (s s' : St) (a : Act) (w : World), g s = some s' → jq E F s a w → jq E F s' a w) : ∀ (n : Nat) (s : St) (e : Ext) (s' : St) (a : Act) (w : World), rx f g n s = some (e, s') → jq E F s a w → (∀ a' w', jq E F s' a' w' → Q e.toExit a' w') →
    Code.rounds E.P c Q n a w
  | 0, s, e, s', a, w, h, _, _ => by simp [rx] at h
  | n + 1, s, e, s', a, w, h, hr, hQ => by
    rw [rounds_succ]
    have hall := h
    simp only [rx] at h
    split at h
    · rename_i s1 hs1
      split at h
      · rename_i s2 hs2
        exact hf s .normal s1 _ a w hs1 hr (fun a' w' hr' => mK hf hg n s2 e s' a' w' h (hg s1 s2 a' w' hs2 hr') hQ)
      · cases h
    · cases e with
      | normal => exact absurd hall (vm (n + 1) s s')
      | exit id => exact hf s _ s' _ a w h hr (fun a' w' hr' => hQ a' w' hr')
      | ret => exact hf s _ s' _ a w h hr (fun a' w' hr' => hQ a' w' hr')
theorem bU {E : Env} (hE : EnvOk E) {F : Fm} {H : Nat → LoopHint} {n : Nat} : ∀ (c : Code) (s : St) (e : Ext) (s' : St) (Q : Exit → Act → World → Prop) (a : Act) (w : World), aG E H n c s = some (e, s') → jq E F s a w →
    (∀ a' w', jq E F s' a' w' → Q e.toExit a' w') → c.wp E.P Q a w
  | .skip, s, e, s', Q, a, w, h, hr, hQ => by
    simp only [aG, Option.some.injEq, Prod.mk.injEq] at h
    obtain ⟨rfl, rfl⟩ := h
    exact wp_skip (hQ a w hr)
  | .region id ops draw, s, e, s', Q, a, w, h, hr, hQ => by
    simp only [aG] at h
    split at h
    · rename_i s1 hs1
      simp only [Option.some.injEq, Prod.mk.injEq] at h
      obtain ⟨rfl, rfl⟩ := h
      exact pV hE hs1 hr hQ
    · cases h
  | .seq x y, s, e, s', Q, a, w, h, hr, hQ => by
    simp only [aG] at h
    refine wp_seq ?_
    split at h
    · rename_i s1 hs1
      exact bU hE x s _ s1 _ a w hs1 hr (fun a' w' hr' => bU hE y s1 e s' Q a' w' h hr' hQ)
    · rename_i hne
      cases e with
      | normal => exact absurd h (hne s')
      | exit id => exact bU hE x s _ s' _ a w h hr (fun a' w' hr' => hQ a' w' hr')
      | ret => exact bU hE x s _ s' _ a w h hr (fun a' w' hr' => hQ a' w' hr')
  | .cond c x y, s, e, s', Q, a, w, h, hr, hQ => by
    simp only [aG] at h
    have hc : ∀ b, (E.ev s.mem c).bool? = some b → a.eval c = .bool b := fun b hb => by
      obtain ⟨_, γ, hrel, hg⟩ := hr
      have := dZ hrel hg c
      rw [bool?_eq hb, aL] at this
      exact this.1
    split at h
    · rename_i hb
      exact wp_cond_true (hc true hb) (bU hE x s e s' Q a w h hr hQ)
    · rename_i hb
      exact wp_cond_false (hc false hb) (bU hE y s e s' Q a w h hr hQ)
    · cases h
  | .block id b, s, e, s', Q, a, w, h, hr, hQ => by
    simp only [aG] at h
    refine wp_block ?_
    split at h
    · rename_i i s1 hs1
      refine bU hE b s _ s1 _ a w hs1 hr (fun a' w' hr' => ?_)
      simp only [Ext.toExit, Exit.inBlock]
      split at h
      · rename_i hi
        simp only [Option.some.injEq, Prod.mk.injEq] at h
        obtain ⟨rfl, rfl⟩ := h
        rw [if_pos hi]
        exact hQ a' w' hr'
      · rename_i hi
        simp only [Option.some.injEq, Prod.mk.injEq] at h
        obtain ⟨rfl, rfl⟩ := h
        rw [if_neg hi]
        exact hQ a' w' hr'
    · rename_i hne
      refine bU hE b s e s' _ a w h hr (fun a' w' hr' => ?_)
      cases e with
      | exit i => exact absurd h (hne i s')
      | normal => exact hQ a' w' hr'
      | ret => exact hQ a' w' hr'
  | .loop b, s, e, s', Q, a, w, h, hr, hQ => by
    simp only [aG] at h
    refine wp_loop_rounds n ?_
    have hh := hr.head (H (aP b))
    have hgs := hh.1.2
    exact mK (E := E) (F := F) (c := b) (Q := Q) (f := fun s1 => aG E H n b s1)
      (g := fun s1 => (s1.cut (s.head (H (aP b))).vars.length (s.head (H (aP b))).toks.length).map fun s2 => { s2 with tmps := bC s2.tmps (H (aP b)).forget })
      (fun s1 e1 s2 Q' a1 w1 h1 hr1 hQ1 => bU hE b s1 e1 s2 Q' a1 w1 h1 hr1 hQ1)
      (fun s1 s2 a1 w1 h1 hr1 => by
        simp only [Option.map_eq_some_iff] at h1
        obtain ⟨s3, hs3, rfl⟩ := h1
        exact (hr1.cut hgs hs3).forget _) n (s.head (H (aP b))) e s' a w h hh hQ
  | .exit id, s, e, s', Q, a, w, h, hr, hQ => by
    simp only [aG, Option.some.injEq, Prod.mk.injEq] at h
    obtain ⟨rfl, rfl⟩ := h
    exact wp_exit (hQ a w hr)
  | .ret, s, e, s', Q, a, w, h, hr, hQ => by
    simp only [aG, Option.some.injEq, Prod.mk.injEq] at h
    obtain ⟨rfl, rfl⟩ := h
    exact wp_ret (hQ a w hr)
  | .rangeFunc _ _ _ _, s, e, s', _, _, _, h, _, _ => by simp [aG] at h
  | .scope _, s, e, s', _, _, _, h, _, _ => by simp [aG] at h
  | .label _, s, e, s', _, _, _, h, _, _ => by simp [aG] at h
  | .goto _, s, e, s', _, _, _, h, _, _ => by simp [aG] at h
  | .refuse _, s, e, s', _, _, _, h, _, _ => by simp [aG] at h
end Go.Dm
namespace Go.Dm
open Go.RowKit
def nk (tmps : Array Value) : ResultVar → Sem Value
  | .tmp t => pure (tmps.getD t undef)
  | .cell a t => do loadVar t (← asAddr (tmps.getD a undef))
theorem lO {P : Program} {tmps : Array Value} {w : World} {f : ResultVar → Sem Value} : ∀ {rs : List ResultVar} {us : List Value}, aJ (fun r u => (f r).run P w = .ok u w) rs us → (rs.mapM f).run P w = .ok us w
  | [], [], _ => by simp
  | r :: rs, u :: us, h => by
    rw [List.mapM_cons]
    simp only [Sem.run_bind, h.1, Result.andThen_ok, lO (tmps := tmps) h.2, Sem.run_pure]
  | [], _ :: _, h => h.elim
  | _ :: _, [], h => h.elim
theorem lM {P : Program} {fn : Func} {tmps : Array Value} {w : World} {us : List Value}
    (h : aJ (fun r u => (nk tmps r).run P w = .ok u w) fn.results.toList us) :
    (results fn tmps).run P w = .ok (mc us) w := by
  have e : results fn tmps = (do let vs ← fn.results.mapM (nk tmps); pure (if h : vs.size = 1 then vs[0] else .tuple vs)) := by
    unfold results
    congr 1
  rw [e, Array.mapM_eq_mapM_toList]
  have := lO (tmps := tmps) h
  simp only [map_eq_pure_bind, Sem.run_bind, this, Result.andThen_ok, Sem.run_pure]
  match us with
  | [] => rfl
  | [u] => rfl
  | u :: v :: r => simp [mc]
theorem gg {E : Env} {F : Fm} {s : St} {γ : Gh} {a : Act} {w : World} (h : Rel F γ s.mem a w) : ∀ {rs : List ResultVar} {ks : List K}, rs.mapM (lE E.P s) = some ks →
    ∃ us : List Value, aJ (K.rep γ s.mem.tok w) ks us ∧ aJ (fun r u => (nk a.tmps r).run E.P w = .ok u w) rs us
  | [], ks, hk => by simp at hk; subst hk; exact ⟨[], trivial, trivial⟩
  | r :: rs, ks, hk => by
    rw [List.mapM_cons] at hk
    simp only [Option.pure_def, Option.bind_eq_bind, Option.bind_eq_some_iff, Option.some.injEq] at hk
    obtain ⟨k, hk1, ks', hk2, rfl⟩ := hk
    obtain ⟨us, h1, h2⟩ := gg h hk2
    suffices hs : ∃ u, K.rep γ s.mem.tok w k u ∧ (nk a.tmps r).run E.P w = .ok u w by
      obtain ⟨u, hu, hr⟩ := hs
      exact ⟨u :: us, ⟨hu, h1⟩, ⟨hr, h2⟩⟩
    cases r with
    | tmp t =>
      simp only [lE] at hk1
      split at hk1
      · rename_i x hx
        cases hk1
        have := h.tmps t
        rw [show s.mem.tmp t = s.tmps.getD t .skip from rfl, hx] at this
        exact ⟨_, this, by simp only [nk, Sem.run_pure]⟩
      · cases hk1
    | cell b t =>
      simp only [lE] at hk1
      split at hk1
      · rename_i id off hx
        split at hk1
        · rename_i xs hxs
          have hp := h.tmps b
          rw [show s.mem.tmp b = s.tmps.getD b .skip from rfl, hx] at hp
          simp only [T.rep, K.rep, V.rep] at hp
          obtain ⟨b', o, hl, hp⟩ := hp
          obtain ⟨b'', o'', h1', ⟨vs, h2', h3'⟩, _⟩ := h.vars id xs hxs
          rw [hl] at h1'; cases h1'
          obtain ⟨v, hrun, hrep⟩ := jU hk1 (h2'.drop off) (eY h3' off)
          refine ⟨v, hrep, ?_⟩
          simp only [nk, hp, asAddr, Sem.run_bind, Sem.run_pure, Result.andThen_ok]
          simpa [Instr.loadAt, Instr.sureAddr, asAddr] using hrun
        · cases hk1
      · cases hk1
theorem mg {F : Fm} {s : St} {m : Mem} {γ : Gh} {a : Act} {w : World} (h : Rel F γ m a w) (hm : m.tok = s.mem.tok) : ∀ {ks : List K} {us : List Value} {rs : List Res}, ks.mapM (n5 s) = some rs → aJ (K.rep γ s.mem.tok w) ks us → aJ (Res.rep γ.fr F.spare w) rs us
  | [], us, rs, hr, hu => by
    simp at hr; subst hr
    cases us with
    | nil => trivial
    | cons _ _ => exact hu.elim
  | k :: ks, [], rs, hr, hu => hu.elim
  | k :: ks, u :: us, rs, hr, hu => by
    rw [List.mapM_cons] at hr
    simp only [Option.pure_def, Option.bind_eq_bind, Option.bind_eq_some_iff, Option.some.injEq] at hr
    obtain ⟨r, hr1, rs', hr2, rfl⟩ := hr
    refine ⟨?_, mg h hm hr2 hu.2⟩
    have hk := hu.1
    unfold n5 at hr1
    split at hr1
    · rename_i es0
      cases hr1
      simp only [K.rep, V.rep, ig] at hk
      obtain ⟨h1, b, n, rfl⟩ := hk
      have hn : n = es0.length := by simp only [C.rep] at h1; obtain ⟨_, _, _, heq, h2, _⟩ := h1; simp at heq; exact heq.2.1.trans h2
      rw [hn] at h1 ⊢
      exact ⟨h1, b, _, rfl, Nat.le_refl _, .inl rfl⟩
    · rename_i sz es i
      simp only [K.rep, V.rep, ig] at hk
      obtain ⟨h1, n, h2, h3, h4⟩ := hk
      split at hr1
      · rename_i ht
        cases hr1
        have hn : n = es.length := by
          have : s.mem.tok i = some es.length := ht
          rw [this] at h2; cases h2; rfl
        subst hn
        obtain ⟨h5, h6⟩ := h4 rfl
        obtain ⟨k1, k2⟩ := h.toks i _ (by rw [hm]; exact h2)
        refine ⟨h1, _, _, h5, k1, ?_⟩
        rcases k2 with k2 | ⟨b, k2, k3, k4, k5⟩
        · exact .inl k2
        · rw [h6] at k3 k4 k5
          exact .inr ⟨b, k2, k3, k4, k5⟩
      · cases hr1; exact h1
    · rename_i x _ _
      simp only [Option.map_eq_some_iff] at hr1
      obtain ⟨c, hc, rfl⟩ := hr1
      exact oi hc hk
    · simp only [Option.map_eq_some_iff] at hr1
      obtain ⟨cs, hc, rfl⟩ := hr1
      simp only [K.rep] at hk
      obtain ⟨vs, rfl, hvs⟩ := hk
      exact ⟨vs, rfl, eh hc hvs⟩
theorem pp {s : St} {γ : Gh} {w : World} {k : K} {u : Value} {sz : Nat} {es : List (List C)} (hr : n5 s k = some (.top sz es)) (hk : K.rep γ s.mem.tok w k u) {b : Nat} (hb : bK u = some b) :
    ∃ i, k = .v (.own sz es (.tok i)) ∧ s.mem.tok i = some es.length ∧ (γ.tk i).cap ≠ es.length ∧ (γ.tk i).base.map (·.block) = some b := by
  unfold n5 at hr
  split at hr
  · simp only [K.rep, V.rep, ig] at hk
    obtain ⟨h1, b', n, rfl⟩ := hk
    cases b' <;> simp [bK] at hb
  · rename_i sz' es' i
    split at hr
    · rename_i ht
      cases hr
      simp only [K.rep, V.rep, ig] at hk
      obtain ⟨h1, n, h2, h3, h4⟩ := hk
      have ht' : s.mem.tok i = some es.length := ht
      have hn : n = es.length := by rw [ht'] at h2; cases h2; rfl
      subst hn
      obtain ⟨h5, h6⟩ := h4 rfl
      refine ⟨i, rfl, ht', ?_, ?_⟩
      · intro hc
        rw [h5, hc] at hb
        cases hbs : (γ.tk i).base <;> simp [bK, hbs] at hb
      · rw [h5] at hb
        cases hbs : (γ.tk i).base with
        | none => simp [bK, hbs] at hb
        | some ad =>
          simp only [bK, hbs] at hb
          split at hb
          · cases hb
          · simpa using hb
    · cases hr
  · simp only [Option.map_eq_some_iff] at hr
    obtain ⟨_, _, hx⟩ := hr; cases hx
  · simp only [Option.map_eq_some_iff] at hr
    obtain ⟨_, _, hx⟩ := hr; cases hx
theorem sf {α β : Type} {f : α → Option β} : ∀ {xs : List α} {ys : List β}, xs.mapM f = some ys → ∀ (i : Nat) (y : β), ys[i]? = some y → ∃ x, xs[i]? = some x ∧ f x = some y
  | [], ys, h, i, y, hy => by simp at h; subst h; simp at hy
  | x :: xs, ys, h, i, y, hy => by
    rw [List.mapM_cons] at h
    simp only [Option.pure_def, Option.bind_eq_bind, Option.bind_eq_some_iff, Option.some.injEq] at h
    obtain ⟨z, hz, zs, hzs, rfl⟩ := h
    cases i with
    | zero => simp at hy; subst hy; exact ⟨x, rfl, hz⟩
    | succ i => simp at hy ⊢; exact sf hzs i y hy
theorem tq {ks : List K} {i : Nat} {sz : Nat} {es : List (List C)} {j : Nat} (h : ks[j]? = some (.v (.own sz es (.tok i)))) : i ∈ f6 ks := by
  induction ks generalizing j with
  | nil => simp at h
  | cons k ks ih =>
    cases j with
    | zero => simp at h; subst h; simp [f6]
    | succ j =>
      simp at h
      have := ih h
      unfold f6
      split
      · rename_i heq; cases heq
      · rename_i heq; cases heq; exact List.mem_cons_of_mem _ this
      · rename_i heq; cases heq; exact this
theorem om {k : K} {ks : List K} (h : cA (f6 (k :: ks)) = true) : cA (f6 ks) = true := by
  unfold f6 at h
  split at h
  · rename_i heq; cases heq
  · rename_i heq; cases heq; simp only [cA, Bool.and_eq_true] at h; exact h.2
  · rename_i heq; cases heq; exact h
theorem ne {F : Fm} {s : St} {m : Mem} {γ : Gh} {a : Act} {w : World} (h : Rel F γ m a w) (hm : m.tok = s.mem.tok) : ∀ {ks : List K} {us : List Value} {rs : List Res}, ks.mapM (n5 s) = some rs → aJ (K.rep γ s.mem.tok w) ks us → cA (f6 ks) = true → dl rs us
  | [], us, rs, hr, hu, _ => by simp at hr; subst hr; simp [dl]
  | k :: ks, [], rs, hr, hu, _ => hu.elim
  | k :: ks, u :: us, rs, hr, hu, hd => by
    rw [List.mapM_cons] at hr
    simp only [Option.pure_def, Option.bind_eq_bind, Option.bind_eq_some_iff, Option.some.injEq] at hr
    obtain ⟨r, hr1, rs', hr2, rfl⟩ := hr
    have ih := ne h hm hr2 hu.2 (om hd)
    cases r with
    | c _ => exact ih
    | agg _ => exact ih
    | top sz es =>
      refine ⟨fun j sz' es' u' hj hu' b hb hb' => ?_, ih⟩
      obtain ⟨i, rfl, h1, h2, h3⟩ := pp hr1 hu.1 hb
      obtain ⟨k', hk', hk2⟩ := sf hr2 j _ hj
      obtain ⟨u'', hu1, hu2⟩ := hu.2.get j k' hk'
      rw [hu'] at hu1; cases hu1
      obtain ⟨i', rfl, g1, g2, g3⟩ := pp hk2 hu2 hb'
      have hmem := tq hk'
      simp only [f6, cA, Bool.and_eq_true, Bool.not_eq_true', List.contains_eq_mem, decide_eq_false_iff_not] at hd
      have hne : i ≠ i' := fun he => hd.1 (by rw [he]; exact hmem)
      exact h.tapart i i' _ _ hne (by rw [hm]; exact h1) (by rw [hm]; exact g1) h2 g2 (h3.trans g3.symm)
theorem jm {F : Fm} {s : St} {m : Mem} {γ : Gh} {a : Act} {w : World} (h : Rel F γ m a w) : ∀ {n k : Nat} {r : List (List C)} {ps : List (Nat × Nat)}, (∀ i, i < k + n → m.var i = s.vars[i]?) → jv s n k = some r → ps.length = n → (∀ (j : Nat) p, ps[j]? = some p → F.locs[k + j]? = some p) → aJ (gT γ.fr w) r ps
  | 0, k, r, ps, _, hr, hn, _ => by
    simp only [jv, Option.some.injEq] at hr
    subst hr
    cases ps with
    | nil => trivial
    | cons _ _ => simp at hn
  | n + 1, k, r, [], _, hr, hn, _ => by simp at hn
  | n + 1, k, r, p :: ps, hmv, hr, hn, hp => by
    simp only [jv] at hr
    split at hr
    · rename_i xs r' hxs hr'
      split at hr
      · rename_i cs hcs
        cases hr
        refine ⟨?_, jm h (fun i hi => hmv i (by omega)) hr' (by simpa using hn) (fun j q hq => by
          have := hp (j + 1) q (by simpa using hq)
          rwa [show k + (j + 1) = k + 1 + j by omega] at this)⟩
        have hl := h.lentloc k p (hp 0 p rfl)
        obtain ⟨b, o, h1, ⟨vs, h2, h3⟩, h4, h5⟩ := h.vars k xs (by rw [hmv k (by omega)]; exact hxs)
        rw [hl] at h1; cases h1
        have hlen : cs.length = xs.length := cz hcs
        refine ⟨⟨vs, eh hcs h2, h3⟩, ?_, fun j hj => (h5 j (by omega)).1⟩
        intro j hj
        exact h4 j (by omega)
      · cases hr
    · cases hr
def Cy (sz : Nat) : Value → TkInfo
  | .slice a _ cap => ⟨a, cap, sz⟩
  | _ => default
def ik : List A → List Value → TkInfo
  | .top sz _ :: _, v :: _ => Cy sz v
  | _ :: xs, _ :: vs => ik xs vs
  | _, _ => default
theorem gv : ∀ {xs : List A}, ck xs = [] → dS xs = true
  | [], _ => rfl
  | x :: xs, h => by
    cases x <;> simp only [ck] at h
    case top => cases h
    all_goals
      have := gv h
      simp only [dS, List.all_cons, Bool.and_eq_true] at this ⊢
      exact ⟨trivial, this⟩
theorem rj {Fr : Nat → Nat → Prop} {w : World} {locs : List (Nat × Nat)} : ∀ {xs : List A} {vs : List Value}, (ck xs).length ≤ 1 → aJ (A.rep Fr w locs) xs vs → ck xs ≠ [] →
    ∃ (sz : Nat) (es : List (List C)) (v : Value), ck xs = [es.length] ∧ ik xs vs = Cy sz v ∧ A.rep Fr w locs (.top sz es) v ∧ (∀ b o, lA (.top sz es) v b o → fV xs vs b o) ∧ ∀ (t : Nat) sz' es', xs[t]? = some (.top sz' es') → sz' = sz ∧ es' = es ∧ vs[t]? = some v
  | [], _, _, _, hn => absurd rfl hn
  | x :: xs, [], _, h, _ => h.elim
  | x :: xs, v :: vs, hl, h, hn => by
    have rest : ck (x :: xs) = ck xs → ik (x :: xs) (v :: vs) = ik xs vs → (∀ sz es, x ≠ .top sz es) → ∃ (sz : Nat) (es : List (List C)) (u : Value), ck (x :: xs) = [es.length] ∧ ik (x :: xs) (v :: vs) = Cy sz u ∧ A.rep Fr w locs (.top sz es) u ∧ (∀ b o, lA (.top sz es) u b o → fV (x :: xs) (v :: vs) b o) ∧ ∀ (t : Nat) sz' es', (x :: xs)[t]? = some (.top sz' es') → sz' = sz ∧ es' = es ∧ (v :: vs)[t]? = some u := fun e1 e2 hne => by
      rw [e1] at hl hn
      obtain ⟨sz, es, u, g1, g2, g3, g4, g5⟩ := rj hl h.2 hn
      refine ⟨sz, es, u, by rw [e1, g1], by rw [e2, g2], g3, fun b o ho => .inr (g4 b o ho), fun t sz' es' ht => ?_⟩
      cases t with
      | zero => simp at ht; exact absurd ht (hne _ _)
      | succ t => exact g5 t sz' es' (by simpa using ht)
    cases x with
    | top sz es =>
      simp only [ck, List.length_cons] at hl
      have hnil : ck xs = [] := List.eq_nil_of_length_eq_zero (by omega)
      refine ⟨sz, es, v, by simp only [ck, hnil], rfl, h.1, fun b o ho => .inl ho, fun t sz' es' ht => ?_⟩
      cases t with
      | zero => simp at ht; exact ⟨ht.1.symm, ht.2.symm, rfl⟩
      | succ t =>
        have hno := gv hnil
        simp only [dS, List.all_eq_true] at hno
        have := hno (.top sz' es') (List.mem_of_getElem? (by simpa using ht))
        simp at this
    | c _ => exact rest rfl rfl (fun _ _ => by simp)
    | agg _ => exact rest rfl rfl (fun _ _ => by simp)
    | imp _ => exact rest rfl rfl (fun _ _ => by simp)
    | nil => exact rest rfl rfl (fun _ _ => by simp)
theorem wV {E : Env} {fn : Func} {xs : List A} {ims : List (List C)} {Fr : Nat → Nat → Prop} {w : World} {locs : List (Nat × Nat)} {vs : List Value} (hFr : ∀ b o, Fr b o → b < w.heap.size) (hg : cJ E.gl Fr w) (hl : aJ (gT Fr w) ims locs) (ha : li ims locs)
    (hx : aJ (A.rep Fr w locs) xs vs) (hne : ims.all (fun cs => !cs.isEmpty) = true) (hone : (ck xs).length ≤ 1) :
    jq E ⟨Fr, fun b o => pl ims locs b o ∨ fV xs vs b o, w, xs.length + (fn.ntmps - xs.length), locs, fun b => ∀ p ∈ locs, p.1 ≠ b, fun _ _ _ _ => False, 0, 0⟩ (lJ fn xs ims) { tmps := vs.toArray ++ Array.replicate (fn.ntmps - vs.toArray.size) undef, defers := [] } w := by
  have hlen := hx.length
  have hll := hl.length
  have hloc : ∀ (k : Nat) p, locs[k]? = some p → ∃ cs, ims[k]? = some cs ∧ gT Fr w cs p ∧ cs ≠ [] := fun k p hk => by
    have hlt : k < ims.length := by rw [hll]; exact (List.getElem?_eq_some_iff.1 hk).1
    obtain ⟨q, hq, hr⟩ := hl.get k ims[k] (List.getElem?_eq_getElem hlt)
    rw [hk] at hq; cases hq
    refine ⟨_, List.getElem?_eq_getElem hlt, hr, fun he => ?_⟩
    have := List.all_eq_true.1 hne _ (List.getElem_mem hlt)
    rw [he] at this
    simp at this
  refine ⟨⟨by simp [lJ], Nat.zero_le _, Nat.zero_le _, by simp only [lJ, List.length_map]; rw [hll]; exact Nat.le_refl _⟩, { fr := Fr, loc := fun k => locs[k]?, tk := fun _ => ik xs vs }, ?_, hg⟩
  have hvar : ∀ (id : Nat) (ys : List V), (lJ fn xs ims).mem.var id = some ys → ∃ cs, ims[id]? = some cs ∧ ys = cs.map .c := fun id ys hv => by
    simp only [St.mem, lJ, List.getElem?_map, Option.map_eq_some_iff] at hv
    obtain ⟨cs, h1, h2⟩ := hv
    exact ⟨cs, h1, h2.symm⟩
  have htok : ∀ (i n : Nat), (lJ fn xs ims).mem.tok i = some n → i = 0 ∧ ∃ sz es v, n = es.length ∧ ik xs vs = Cy sz v ∧ A.rep Fr w locs (.top sz es) v ∧ ∀ b o, lA (.top sz es) v b o → fV xs vs b o := fun i n hi => by
    simp only [St.mem, lJ] at hi
    have hne : ck xs ≠ [] := fun he => by rw [he] at hi; simp at hi
    obtain ⟨sz, es, v, g1, g2, g3, g4, _⟩ := rj hone hx hne
    rw [g1] at hi
    cases i with
    | zero => simp at hi; exact ⟨rfl, sz, es, v, hi.symm, g2, g3, g4⟩
    | succ i => simp at hi
  exact {
    defers := rfl
    size := by simp [hlen]
    base := .refl _ _
    fr0 := fun _ _ h => h
    frs := fun _ _ h => .inl h
    frlt := hFr
    loclt := fun id b o h => by
      obtain ⟨cs, h1, ⟨_, h3, _⟩, h4⟩ := hloc id _ h
      have hpos : 0 < cs.length := by cases cs with | nil => exact absurd rfl h4 | cons _ _ => simp
      obtain ⟨u, hu⟩ := Option.isSome_iff_exists.1 (h3 0 hpos).1
      exact World.block_lt_of_cell? w _ hu
    tmps := fun t => by
      simp only [St.mem, lJ]
      by_cases ht : t < xs.length
      · have hv : t < vs.length := by omega
        obtain ⟨v, hv1, hv2⟩ := hx.get t xs[t] (List.getElem?_eq_getElem ht)
        have e1 : (xs.map A.toT ++ List.replicate (fn.ntmps - xs.length) T.skip).getD t .skip = xs[t].toT := by
          rw [List.getD_eq_getElem?_getD, List.getElem?_append_left (by simpa using ht)]
          simp [List.getElem?_eq_getElem ht]
        have e2 : (vs.toArray ++ Array.replicate (fn.ntmps - vs.toArray.size) undef).getD t undef = v := by
          rw [Array.getD_eq_getD_getElem?, Array.getElem?_append_left (by simpa using hv)]
          simp [hv1]
        rw [e1, e2]
        cases hxt : xs[t] with
        | c x => rw [hxt] at hv2; exact hv2
        | agg ys =>
          rw [hxt] at hv2
          obtain ⟨us, h1, h2⟩ := hv2
          exact ⟨us, h1, V.cells_rep h2⟩
        | imp k =>
          rw [hxt] at hv2
          obtain ⟨b, o, h1, h2⟩ := hv2
          exact ⟨b, o, h1, by rw [h2]; rfl⟩
        | nil =>
          rw [hxt] at hv2
          obtain ⟨a, rfl⟩ := hv2
          simp only [A.toT, T.rep, K.rep, V.rep, C.rep, ig]
          exact ⟨⟨a, 0, 0, rfl, rfl, Nat.le_refl _, .inl ⟨rfl, rfl⟩⟩, a, 0, rfl⟩
        | top sz es =>
          rw [hxt] at hv2
          have hxt' : xs[t]? = some (.top sz es) := by rw [List.getElem?_eq_getElem ht, hxt]
          have hne : ck xs ≠ [] := fun he => by
            have hno := gv he
            simp only [dS, List.all_eq_true] at hno
            have := hno (.top sz es) (List.mem_of_getElem? hxt')
            simp at this
          obtain ⟨sz', es', v', g1, g2, g3, g4, g5⟩ := rj hone hx hne
          obtain ⟨rfl, rfl, hv'⟩ := g5 t _ _ hxt'
          rw [hv1] at hv'; cases hv'
          obtain ⟨h1, base, cap, rfl, _⟩ := hv2
          simp only [A.toT, T.rep, K.rep, V.rep, ig]
          exact ⟨h1, es.length, by rw [g1]; rfl, Nat.le_refl _, fun _ => ⟨by rw [g2]; rfl, by rw [g2]; rfl⟩⟩
      · have e1 : (xs.map A.toT ++ List.replicate (fn.ntmps - xs.length) T.skip).getD t .skip = .skip := by
          rw [List.getD_eq_getElem?_getD, List.getElem?_append_right (by simpa using ht)]
          rw [List.getElem?_replicate]
          split <;> rfl
        have e2 : (vs.toArray ++ Array.replicate (fn.ntmps - vs.toArray.size) undef).getD t undef = undef := by
          rw [Array.getD_eq_getD_getElem?, Array.getElem?_append_right (by simp; omega)]
          rw [Array.getElem?_replicate]
          split <;> rfl
        rw [e1, e2]
        rfl
    vars := fun id ys hv => by
      obtain ⟨cs, h1, rfl⟩ := hvar id ys hv
      obtain ⟨p, hp, ⟨us, h2, h3⟩, h4, h5⟩ := hl.get id cs h1
      refine ⟨p.1, p.2, hp, ⟨us, V.cells_rep h2, h3⟩, by simpa using h4, fun j hj => ?_⟩
      have hj' : j < cs.length := by simpa using hj
      exact ⟨h5 j hj', .inl (.inl ⟨id, cs, p, h1, hp, rfl, by simp, by simp; omega⟩)⟩
    novar := fun id hv => by
      simp only [St.mem, lJ, List.getElem?_map, Option.map_eq_none_iff, List.getElem?_eq_none_iff] at hv ⊢
      omega
    gh := fun _ _ _ _ hp => hp.elim
    lentloc := fun k p h => h
    apart := fun id id' ys zs b o b' o' hne h1 h2 h3 h4 => by
      obtain ⟨cs, k1, rfl⟩ := hvar id ys h1
      obtain ⟨ds, k2, rfl⟩ := hvar id' zs h2
      simpa using ha id id' cs ds _ _ hne k1 k2 h3 h4
    toks := fun i n hi => by
      obtain ⟨_, sz, es, v, rfl, g2, ⟨h1, base, cap, rfl, h3, h4⟩, g4⟩ := htok i n hi
      simp only [qI, g2, Cy]
      refine ⟨h3, ?_⟩
      by_cases hc : cap = es.length
      · exact .inl hc
      · obtain ⟨b, hb, hb2, harr, hfr⟩ := h4.resolve_left hc
        exact .inr ⟨b, hb, .inr ⟨hb2, fun o ho => .inr (g4 b o (by rw [hb]; exact ⟨hc, rfl, ho⟩))⟩, harr, hfr⟩
    tapart := fun i j n k hij hi hj => by
      exact absurd ((htok i n hi).1.trans (htok j k hj).1.symm) hij
    tvar := fun i n id ys b o hi hv hl hc => by
      obtain ⟨_, sz, es, v, rfl, g2, ⟨h1, base, cap, rfl, h3, h4⟩, g4⟩ := htok i n hi
      simp only [g2, Cy] at hc ⊢
      obtain ⟨b', hb, hb2, _⟩ := h4.resolve_left hc
      rw [hb]
      simp only [Option.map_some, ne_eq, Option.some.injEq]
      rintro rfl
      exact hb2 (b', o) (List.mem_of_getElem? hl) rfl }
def V.stillIds (nl : Nat) : V → List Nat
  | .vsl id _ _ _ => if nl ≤ id then [id] else []
  | _ => []
def K.stillIds (nl : Nat) : K → List Nat
  | .v x => x.stillIds nl
  | .agg xs => xs.flatMap (V.stillIds nl)
theorem V.still_rep {F : Fm} {s : St} {nl : Nat} {γ γ' : Gh} {a : Act} {w : World} (h : Rel F γ s.mem a w) (hex : Ex γ γ' s.mem.tok s.mem.tok w w) (hfr : ∀ b o, γ.fr b o → γ'.fr b o) {x : V} {v : Value} (hx : x.rep γ s.mem.tok w v)
    (hsn : ∀ id ∈ x.stillIds nl, ∀ ys b o, s.mem.var id = some ys → γ.loc id = some (b, o) → ∀ j, j < ys.length → γ'.fr b (o + j)) : (x.still s nl).rep γ' s.mem.tok w v := by
  cases x with
  | vsl id off sz n =>
    simp only [V.still]
    split
    · rename_i hle
      split
      · rename_i es hes
        simp only [Option.bind_eq_some_iff] at hes
        obtain ⟨cs, hcs, hch⟩ := hes
        simp only [V.rep] at hx
        obtain ⟨b, o, cap, hl, rfl, hcap⟩ := hx
        have hcells := gN h hcs hfr (hsn id (by simp [V.stillIds, hle])) hl
        obtain ⟨hr, hlen⟩ := fW hch hcells
        simp only [V.rep, C.rep]
        exact ⟨_, n, cap, rfl, hlen.symm, hcap, .inr ⟨b, o + off, rfl, hr⟩⟩
      · exact V.rep.mono hex _ _ hx
    · exact V.rep.mono hex _ _ hx
  | _ => exact V.rep.mono hex _ _ hx
theorem Vs.still_rep {F : Fm} {s : St} {nl : Nat} {γ γ' : Gh} {a : Act} {w : World} (h : Rel F γ s.mem a w) (hex : Ex γ γ' s.mem.tok s.mem.tok w w) (hfr : ∀ b o, γ.fr b o → γ'.fr b o) : ∀ {xs : List V} {vs : List Value}, aJ (V.rep γ s.mem.tok w) xs vs →
    (∀ id ∈ xs.flatMap (V.stillIds nl), ∀ ys b o, s.mem.var id = some ys → γ.loc id = some (b, o) → ∀ j, j < ys.length → γ'.fr b (o + j)) → aJ (V.rep γ' s.mem.tok w) (xs.map (V.still s nl)) vs
  | [], [], _, _ => trivial
  | x :: xs, v :: vs, hx, hsn => ⟨V.still_rep h hex hfr hx.1 (fun id hid => hsn id (by simp only [List.flatMap_cons, List.mem_append]; exact .inl hid)), Vs.still_rep h hex hfr hx.2 (fun id hid => hsn id (by simp only [List.flatMap_cons, List.mem_append]; exact .inr hid))⟩
  | [], _ :: _, h, _ => h.elim
  | _ :: _, [], h, _ => h.elim
theorem Ks.still_rep {F : Fm} {s : St} {nl : Nat} {γ γ' : Gh} {a : Act} {w : World} (h : Rel F γ s.mem a w) (hex : Ex γ γ' s.mem.tok s.mem.tok w w) (hfr : ∀ b o, γ.fr b o → γ'.fr b o) : ∀ {ks : List K} {us : List Value}, aJ (K.rep γ s.mem.tok w) ks us →
    (∀ id ∈ ks.flatMap (K.stillIds nl), ∀ ys b o, s.mem.var id = some ys → γ.loc id = some (b, o) → ∀ j, j < ys.length → γ'.fr b (o + j)) → aJ (K.rep γ' s.mem.tok w) (ks.map (K.still s nl)) us
  | [], [], _, _ => trivial
  | k :: ks, u :: us, hx, hsn => by
    refine ⟨?_, Ks.still_rep h hex hfr hx.2 (fun id hid => hsn id (by simp only [List.flatMap_cons, List.mem_append]; exact .inr hid))⟩
    have hsn1 : ∀ id ∈ k.stillIds nl, ∀ ys b o, s.mem.var id = some ys → γ.loc id = some (b, o) → ∀ j, j < ys.length → γ'.fr b (o + j) := fun id hid => hsn id (by simp only [List.flatMap_cons, List.mem_append]; exact .inl hid)
    have hx1 := hx.1
    cases k with
    | v x => exact V.still_rep h hex hfr hx1 hsn1
    | agg xs =>
      obtain ⟨vs, hv, hvs⟩ := hx1
      exact ⟨vs, hv, Vs.still_rep h hex hfr hvs hsn1⟩
  | [], _ :: _, h, _ => h.elim
  | _ :: _, [], h, _ => h.elim
theorem V.stillIds_some {F : Fm} {s : St} {nl : Nat} {γ : Gh} {a : Act} {w : World} (h : Rel F γ s.mem a w) {x : V} {v : Value} (hx : x.rep γ s.mem.tok w v) : ∀ id ∈ x.stillIds nl, (s.mem.var id).isSome = true ∧ nl ≤ id := by
  intro id hid
  cases x with
  | vsl id' off sz n =>
    simp only [V.stillIds] at hid
    split at hid
    · rename_i hle
      simp only [List.mem_singleton] at hid
      subst hid
      simp only [V.rep] at hx
      obtain ⟨b, o, cap, hl, _⟩ := hx
      refine ⟨?_, hle⟩
      cases hq : s.mem.var id with
      | none => rw [h.novar id hq] at hl; cases hl
      | some _ => rfl
    · simp at hid
  | _ => simp [V.stillIds] at hid
theorem Ks.stillIds_some {F : Fm} {s : St} {nl : Nat} {γ : Gh} {a : Act} {w : World} (h : Rel F γ s.mem a w) : ∀ {ks : List K} {us : List Value}, aJ (K.rep γ s.mem.tok w) ks us → ∀ id ∈ ks.flatMap (K.stillIds nl), (s.mem.var id).isSome = true ∧ nl ≤ id
  | [], [], _, id, hid => by simp at hid
  | k :: ks, u :: us, hx, id, hid => by
    simp only [List.flatMap_cons, List.mem_append] at hid
    rcases hid with hid | hid
    · have hx1 := hx.1
      cases k with
      | v x => exact V.stillIds_some h hx1 id hid
      | agg xs =>
        obtain ⟨vs, _, hvs⟩ := hx1
        obtain ⟨x, hxm, hid⟩ := List.mem_flatMap.1 hid
        obtain ⟨i, hi, rfl⟩ := List.getElem_of_mem hxm
        obtain ⟨v, _, hv⟩ := hvs.get i _ (List.getElem?_eq_getElem hi)
        exact V.stillIds_some h hv id hid
    · exact Ks.stillIds_some h hx.2 id hid
  | [], _ :: _, h, _, _ => h.elim
  | _ :: _, [], h, _, _ => h.elim
theorem yn {E : Env} (hE : EnvOk E) {H : Nat → LoopHint} {n : Nat} {f : FuncId} {fn : Func} (hf : E.P.funcs[f]? = some fn) {xs : List A} {ims : List (List C)} {rs : List Res} {ims' : List (List C)} (h : mY E H n fn xs ims = some (rs, ims')) : qr E.P E.gl f xs ims rs ims' := by
  intro Fr w locs vs hFr hg hl ha hx
  unfold mY at h
  split at h
  · cases h
  · rename_i c hc
    split at h
    · rename_i e s hev
      split at h
      · rename_i he
        obtain ⟨he, hne, hone⟩ := he
        split at h
        · rename_i rs0 r0 hres hout
          split at h
          · rename_i hlens
            cases h
            have hr0 := wV (E := E) (fn := fn) hFr hg hl ha hx hne hone
            refine calls_of_wp hf hc (bU hE c _ e s _ _ w hev hr0 (fun a' w' hr => ?_))
            · suffices hs : a'.defers = [] ∧ ∃ v, (results fn a'.tmps).run E.P w' = .ok v w' ∧ (fun (e : Ending) (w' : World) => ∃ (us : List Value) (Fr' : Nat → Nat → Prop), e = .returned (mc us) ∧ BelowBut (fun b o => pl ims locs b o ∨ fV xs vs b o) w w' ∧ (∀ b o, Fr b o → Fr' b o) ∧
                  (∀ b o, Fr' b o → Fr b o ∨ ((w.heap.size ≤ b ∨ fV xs vs b o) ∧ b < w'.heap.size)) ∧ aJ (Res.rep Fr' (fun b lo => w.heap.size ≤ b ∨ ∀ o, lo ≤ o → fV xs vs b o) w') rs us ∧ dl rs us ∧ aJ (gT Fr' w') ims' locs ∧ ims'.map List.length = ims.map List.length) (.returned v) w' by
                rcases he with rfl | rfl <;> exact hs
              obtain ⟨_, γ, hrel, hgl⟩ := hr
              unfold results? at hres
              split at hres
              · rename_i ks hks
                split at hres
                · rename_i hdis
                  obtain ⟨us, hus0, hrun⟩ := gg hrel hks
                  have hids := Ks.stillIds_some (nl := ims.length) hrel hus0
                  obtain ⟨γ', _, _, e3, e4, hrel', hx'⟩ := hrel.freeze (ks.flatMap (K.stillIds ims.length)) (fun id hid => (hids id hid).1)
                  have hus := Ks.still_rep hrel hx' e3 hus0 e4
                  have hlo := jm hrel' (s := s) (fun i hi => by
                    simp only
                    rw [if_neg (fun hm => by have := (hids i hm).2; omega)]
                    rfl) hout hl.length.symm (fun j p hp => by simpa using hp)
                  refine ⟨hrel.defers, mc us, lM hrun, us, γ'.fr, rfl, hrel'.base, hrel'.fr0, fun b o hb => ?_, (mg (s := s) hrel' rfl hres hus).mono (fun r u hu => hu.mono fun b lo hsp => ?_), ne (s := s) hrel' rfl hres hus hdis, hlo, hlens⟩
                  · rcases hrel'.frs b o hb with h1 | (h1 | h1) | h1
                    · exact .inl h1
                    rotate_left
                    · exact .inr ⟨.inr h1, hrel'.frlt b o hb⟩
                    · exact .inr ⟨.inl h1, hrel'.frlt b o hb⟩
                    exfalso
                    obtain ⟨k, cs, p, hk1, hk2, rfl, hk4, hk5⟩ := h1
                    have hkl : (ims'.map List.length)[k]? = some cs.length := by rw [hlens, List.getElem?_map, hk1]; rfl
                    rw [List.getElem?_map, Option.map_eq_some_iff] at hkl
                    obtain ⟨ds, hd1, hd2⟩ := hkl
                    obtain ⟨p', hp1, hp2⟩ := hlo.get k ds hd1
                    rw [hk2] at hp1
                    cases hp1
                    have := hp2.2.2 (o - p.2) (by omega)
                    rw [show p.2 + (o - p.2) = o by omega] at this
                    exact this hb
                  · rcases hsp with hsp | ⟨hsp1, hsp2⟩
                    · exact .inl hsp
                    · refine .inr fun o ho => (hsp2 o ho).resolve_left fun hin => ?_
                      obtain ⟨k, cs, p, _, hk2, hk3, _⟩ := hin
                      exact hsp1 p (List.mem_of_getElem? hk2) hk3
                · cases hres
              · cases hres
          · cases h
        · cases h
      · cases h
    · cases h
theorem p8 {E : Env} (hE : EnvOk E) {H : Nat → LoopHint} {n : Nat} {f : FuncId} {fn : Func} (hf : E.P.funcs[f]? = some fn) {ks : List K} {vs : List (List V)} {ts : List Nat} {rs : List K} {vs' : List (List V)} {ts' : List Nat}
    (h : gC E H n fn ks vs ts = some (rs, vs', ts')) : AF E.P E.gl f ks vs ts rs vs' ts' := by
  intro F γ tmp a w us hrel hg h1 h2 h3 hk
  unfold gC at h
  split at h
  · cases h
  · rename_i c hc
    split at h
    · rename_i e s hev
      split at h
      · rename_i he
        split at h
        · rename_i rs0 hres
          cases h
          have hlen := hk.length
          let F' : Fm := { F with n := ks.length + (fn.ntmps - ks.length), gh := fun x v i j => (i = vs.length ∧ j = ts.length ∧ ∃ t, x = tmp t ∧ v = a.tmps.getD t undef) ∨ F.gh x v i j, gn := vs.length, gk := ts.length }
          have hlo : ∀ i p, γ.loc i = some p → i < vs.length := fun i p hp => by
            rcases Nat.lt_or_ge i vs.length with hi | hi
            · exact hi
            · have := hrel.novar i (List.getElem?_eq_none hi)
              rw [hp] at this; cases this
          have hto : ∀ i l, ts[i]? = some l → i < ts.length := fun i l hi => (List.getElem?_eq_some_iff.1 hi).1
          have hup : Ex γ (γ.upto vs.length) (fun i => ts[i]?) (upto (fun i => ts[i]?) ts.length) w w := {
            ev := .refl _ _
            loc := fun i p hp => by simp only [Gh.upto]; rw [if_pos (hlo i p hp)]; exact hp
            tok := fun i l hl => by simp only [Dm.upto]; rw [if_pos (hto i l hl)]; exact .inl ⟨hl, rfl⟩ }
          have hr0 : jq E F' (pJ fn ks vs ts) { tmps := us.toArray ++ Array.replicate (fn.ntmps - us.toArray.size) undef, defers := [] } w := by
            refine ⟨⟨by simp [pJ, F'], Nat.le_refl _, Nat.le_refl _, h3⟩, γ, ?_, hg⟩
            exact {
              defers := rfl
              size := by simp [hlen, F']
              base := hrel.base
              fr0 := hrel.fr0
              frs := hrel.frs
              frlt := hrel.frlt
              loclt := hrel.loclt
              tmps := fun t => by
                simp only [St.mem, pJ]
                by_cases ht : t < ks.length
                · obtain ⟨v, hv1, hv2⟩ := hk.get t ks[t] (List.getElem?_eq_getElem ht)
                  have hv : t < us.length := by omega
                  have e1 : (ks.map T.k ++ List.replicate (fn.ntmps - ks.length) T.skip).getD t .skip = .k ks[t] := by
                    rw [List.getD_eq_getElem?_getD, List.getElem?_append_left (by simpa using ht)]
                    simp [List.getElem?_eq_getElem ht]
                  have e2 : (us.toArray ++ Array.replicate (fn.ntmps - us.toArray.size) undef).getD t undef = v := by
                    rw [Array.getD_eq_getD_getElem?, Array.getElem?_append_left (by simpa using hv)]
                    simp [hv1]
                  rw [e1, e2]
                  exact hv2
                · have e1 : (ks.map T.k ++ List.replicate (fn.ntmps - ks.length) T.skip).getD t .skip = .skip := by
                    rw [List.getD_eq_getElem?_getD, List.getElem?_append_right (by simpa using ht)]
                    rw [List.getElem?_replicate]
                    split <;> rfl
                  have e2 : (us.toArray ++ Array.replicate (fn.ntmps - us.toArray.size) undef).getD t undef = undef := by
                    rw [Array.getD_eq_getD_getElem?, Array.getElem?_append_right (by simp; omega)]
                    rw [Array.getElem?_replicate]
                    split <;> rfl
                  rw [e1, e2]
                  rfl
              gh := fun x v i j hp => by
                rcases hp with ⟨rfl, rfl, t, rfl, rfl⟩ | hp
                · exact ⟨⟨Nat.le_refl _, Nat.le_refl _⟩, T.rep.mono hup _ _ (hrel.tmps t)⟩
                · obtain ⟨⟨g1, g2⟩, g3⟩ := hrel.gh x v i j hp
                  exact ⟨⟨Nat.le_trans g1 h1, Nat.le_trans g2 h2⟩, g3⟩
              vars := hrel.vars
              novar := hrel.novar
              lentloc := hrel.lentloc
              apart := hrel.apart
              toks := hrel.toks
              tapart := hrel.tapart
              tvar := hrel.tvar }
          refine calls_of_wp hf hc (bU hE c _ e s _ _ w hev hr0 (fun a' w' hr => ?_))
          suffices hs : a'.defers = [] ∧ ∃ v, (results fn a'.tmps).run E.P w' = .ok v w' ∧ (fun (e : Ending) (w' : World) => ∃ (xs : List Value) (γ' : Gh), e = .returned (mc xs) ∧ Rel F γ' ⟨tmp, fun i => s.vars[i]?, fun i => s.toks[i]?⟩ a w' ∧ cJ E.gl γ'.fr w' ∧ aJ (K.rep γ' (fun i => s.toks[i]?) w') rs xs) (.returned v) w' by
            rcases he with rfl | rfl <;> exact hs
          obtain ⟨_, γ', hrel', hgl⟩ := hr
          obtain ⟨xs, hxs, hrun⟩ := gg hrel' hres
          refine ⟨hrel'.defers, mc xs, lM hrun, xs, γ', rfl, ?_, hgl, hxs⟩
          exact {
            defers := hrel.defers
            size := hrel.size
            base := hrel'.base
            fr0 := hrel'.fr0
            frs := hrel'.frs
            frlt := hrel'.frlt
            loclt := hrel'.loclt
            tmps := fun t => T.rep.mono (Ex.all _ _ _ _ _) _ _ (hrel'.gh (tmp t) (a.tmps.getD t undef) vs.length ts.length (.inl ⟨rfl, rfl, t, rfl, rfl⟩)).2
            gh := fun x v i j hp => ⟨(hrel.gh x v i j hp).1, (hrel'.gh x v i j (.inr hp)).2⟩
            vars := hrel'.vars
            novar := hrel'.novar
            lentloc := hrel'.lentloc
            apart := hrel'.apart
            toks := hrel'.toks
            tapart := hrel'.tapart
            tvar := hrel'.tvar }
        · cases h
      · cases h
    · cases h
end Go.Dm
namespace Go.Dm
open Go.RowKit
def eV : List Prop → Prop
  | [] => True
  | p :: ps => p ∧ eV ps
theorem bQ {ps qs : List Prop} : eV (ps ++ qs) ↔ eV ps ∧ eV qs := by
  induction ps with
  | nil => simp [eV]
  | cons p ps ih => simp [eV, ih, and_assoc]
def zb (x : Option Bool) (gs : List G) : Option (Bool × List G × List Prop) :=
  match x, gs with
  | some b, .b v :: gs => some (v, gs, [b = v])
  | _, _ => none
theorem ld {x : Option Bool} {gs gs' : List G} {v : Bool} {ps : List Prop} (h : zb x gs = some (v, gs', ps)) (hp : eV ps) : x = some v := by
  unfold zb at h
  split at h
  · cases h; rw [hp.1]
  · cases h
def qZ (ops : Array Oper) (m : Mem) (o : Oper) (gs : List G) : Option (Bool × List G × List Prop) :=
  match o.guard with
  | none => some (true, gs, [])
  | some (j, want) =>
    match (ops[j]?).bind (·.dst) with
    | none => some (false, gs, [])
    | some t => match m.tmp t with
      | .skip => some (false, gs, [])
      | x => match zb x.bool? gs with
        | some (b, gs, ps) => some (b == want, gs, ps)
        | none => none
theorem nu {ops : Array Oper} {m : Mem} {o : Oper} {gs gs' : List G} {q : Bool} {ps : List Prop} (h : qZ ops m o gs = some (q, gs', ps)) (hp : eV ps) : fm ops m o = some q := by
  unfold qZ at h
  unfold fm
  split at h
  · rename_i hg; cases h; simp only [hg]
  · rename_i j want hg
    simp only [hg]
    split at h
    · rename_i ht; cases h; simp only [ht]
    · rename_i t ht
      simp only [ht]
      split at h
      · rename_i hx; cases h; simp only [hx]
      · rename_i x hx hne
        simp only
        split at h
        · rename_i b gs1 ps1 hb
          cases h
          have := ld hb hp
          cases hx2 : m.tmp t with
          | skip => exact absurd hx2 (fun hs => hne hs)
          | _ => rw [hx2] at this; simp only [this]
        · cases h
def xk (m : Mem) (nt : Nat) (ls : List (Nat × Nat × List C)) (rs : List Nat) (res : List Res) (ims : List (List C)) : Option Eff :=
  match ls, ims with
  | [], [] => if rs.isEmpty || res.all Res.bare then some { dst := uD (ga nt res).1, ut := (ga nt res).2, rv := rs } else some { dst := uD (ga nt res).1, uv := rs.map fun id => (id, []), ut := (ga nt res).2, rv := rs }
  | [(id, off, cs)], [ds] =>
    match m.var id with
    | some ys => if rs.isEmpty ∧ ds.length = cs.length then some { dst := uD (ga nt res).1, uv := [(id, ys.take off ++ ds.map .c ++ ys.drop (off + ds.length))], ut := (ga nt res).2, rv := [id] } else none
    | none => none
  | _, _ => none
def qM (E : Env) (m : Mem) (nt : Nat) (g : FuncId) (extra : List C) (tys : List TypeId) (args : List T) (res : List Res) (ims : List (List C)) : Option (Eff × List Prop) :=
  match bP E.P m tys args 0 with
  | some (as, ls, rs) =>
    match xk m nt ls rs res ims with
    | some e => some (e, [E.F g (as ++ extra.map .c) (ls.map (·.2.2)) = some (res, ims)])
    | none => none
  | none => none
theorem oh {E : Env} {m : Mem} {nt : Nat} {g : FuncId} {extra : List C} {tys : List TypeId} {args : List T} {res : List Res} {ims : List (List C)} {e : Eff} {ps : List Prop} (h : qM E m nt g extra tys args res ims = some (e, ps)) (hp : eV ps) :
    gm E m nt g extra tys args = some e := by
  unfold qM at h
  split at h
  · rename_i as ls rs ha
    split at h
    · rename_i e' he
      cases h
      have hF := hp.1
      simp only [gm, ha, hF]
      rw [← he]
      unfold xk
      rfl
    · cases h
  · cases h
def CA : List A → List T → Option (List A × Nat × Nat)
  | a :: as, x :: xs =>
    match x with
    | .k (.v (.own sz es (.tok j))) => some (.top sz es :: as, j, es.length)
    | _ => (CA as xs).map fun r => (a :: r.1, r.2)
  | _, _ => none
theorem mG {m : Mem} : ∀ {as : List A} {xs : List T} {as' : List A} {j l : Nat}, CA as xs = some (as', j, l) → m.tok j = some l → tm m as xs = some (as', j, l)
  | a0 :: as, x :: xs, as', j, l, h, hj => by
    simp only [CA] at h
    unfold tm
    split at h
    · cases h
      simp only
      rw [if_pos hj]
    · rename_i hne
      simp only [Option.map_eq_some_iff] at h
      obtain ⟨⟨as1, j1, n1⟩, hr, he⟩ := h
      simp only [Prod.mk.injEq] at he
      obtain ⟨rfl, rfl, rfl⟩ := he
      split
      · exact absurd rfl (hne _ _ _)
      · rw [mG hr hj]
        rfl
  | [], _, _, _, _, h, _ => by simp [CA] at h
  | _ :: _, [], _, _, _, h, _ => by simp [CA] at h
def sY (E : Env) (m : Mem) (nt : Nat) (g : FuncId) (extra : List C) (tys : List TypeId) (args : List T) (res : List Res) (ims : List (List C)) : Option (Eff × List Prop) :=
  match bP E.P m tys args 0, ims with
  | some (as, [], []), [] =>
    match CA as args with
    | some (as', j, l) =>
      match m.tok j with
      | some n => if j < nt then some (kq nt j l res, [n = l, E.F g (as' ++ extra.map .c) [] = some (res, [])]) else none
      | none => none
    | none => none
  | _, _ => none
def sD (E : Env) (m : Mem) (nt : Nat) (g : FuncId) (extra : List C) (tys : List TypeId) (args : List T) (res : List Res) (ims : List (List C)) : Option (Eff × List Prop) :=
  if (E.tp g && args.any T.isTok) = true then sY E m nt g extra tys args res ims else qM E m nt g extra tys args res ims
theorem kg {E : Env} {m : Mem} {nt : Nat} {g : FuncId} {extra : List C} {tys : List TypeId} {args : List T} {res : List Res} {ims : List (List C)} {e : Eff} {ps : List Prop} (h : sD E m nt g extra tys args res ims = some (e, ps)) (hp : eV ps) :
    l7 E m nt g extra tys args = some e := by
  unfold sD at h
  unfold l7
  split at h
  · rename_i hc
    rw [if_pos hc]
    unfold sY at h
    split at h
    · rename_i as hargs
      split at h
      · rename_i as' j l htop
        split at h
        · rename_i n hn
          split at h
          · rename_i hjn
            cases h
            have hl : n = l := hp.1
            subst hl
            have hF := hp.2.1
            have htop' := mG htop hn
            simp only [jF, hargs, htop', hF, hjn, if_true]
          · cases h
        · cases h
      · cases h
    · cases h
  · rename_i hc
    rw [if_neg hc]
    exact oh h hp
def lL (x : Option T) (d v : Nat) : Option Prop :=
  match x with
  | none => some (v = d)
  | some x => match x.int? with | some (_, i) => some (i = (v : Int)) | none => none
theorem e9 {x : Option T} {d v top : Nat} {p : Prop} (h : lL x d v = some p) (hp : p) (hv : v ≤ top) : iw x d top = some v := by
  unfold lL at h
  unfold iw
  split at h
  · cases h; simp only; rw [hp]
  · split at h
    · rename_i hx
      cases h
      simp only [hx]
      rw [hp, if_pos (by omega)]
      simp
    · cases h
def xI (E : Env) (m : Mem) (nt : Nat) (o : Oper) (g : G) : Option (Eff × List Prop) :=
  match o.op with
  | .pick c a b => match (E.ev m c).bool?, g with
    | some q, .b v => some ({ dst := if v then E.ev m a else E.ev m b }, [q = v])
    | _, _ => none
  | .call { callee := .value f, args, argTypes } =>
    match g with
    | .call res ims =>
      match (E.ev m f).cell? with
      | some (.clo g []) => if (kE E o || E.il g) = true then none else sD E m nt g [] argTypes.toList (ex E.P argTypes.toList (args.toList.map (E.ev m))) res ims
      | some (.c (.fn g caps)) => if (kE E o || E.il g) = true then none else sD E m nt g caps argTypes.toList (ex E.P argTypes.toList (args.toList.map (E.ev m))) res ims
      | _ => none
    | _ => none
  | .indexAddr t x i =>
    match g, E.P.underlying t with
    | .at j, some (.array _ _) =>
      match (E.ev m i).int? with
      | some (k, iv) => (eq E.P t (E.ev m x) (.pure (.int k (j : Int)))).map fun r => ({ dst := r }, [iv = (j : Int)])
      | none => none
    | .idx j c, some (.slice e) =>
      if (E.P.info? e).isNone then none else
      match (E.ev m x).cell? with
      | some (.vsl _ _ _ _) => none
      | some v =>
        match v.sliceOf, (E.ev m i).int? with
        | some (sz, es), some (_, iv) => if sz = E.P.cellsOf e then some ({ dst := .k (.v (.c (.rptr c))) }, [iv = (j : Int), es[j]? = some c]) else none
        | _, _ => none
      | none => none
    | _, _ => none
  | .index t x i =>
    match g, E.P.underlying t, E.ev m x, (E.ev m i).int? with
    | .at j, some (.array _ _), x, some (k, iv) => (qp E.P t x (.pure (.int k (j : Int)))).map fun r => ({ dst := r }, [iv = (j : Int)])
    | .byte j b, some .string, .k (.v (.c (.raw (.string s)))), some (_, iv) => some ({ dst := .pure (.int .u8 b.toNat) }, [iv = (j : Int), s[j]? = some b])
    | _, _, _, _ => none
  | .lookup t x i ok =>
    match g, nH E.P t (E.ev m x) (E.ev m i) with
    | .look n b, some (q, key, qv, es) => some ({ dst := n9 qv ok (n, b) }, [uk q key qv es = some (n, b)])
    | _, _ => none
  | .slice t x lo hi mx =>
    match g, mx, E.P.underlying t, (E.ev m x).cell? with
    | .cut l h _, none, some .string, some (.c (.raw (.string s))) =>
      match lL (hi.map (E.ev m)) s.size h, lL (lo.map (E.ev m)) 0 l with
      | some p, some q => some ({ dst := .pure (.string (s.extract l h)) }, [p, q, l ≤ h, h ≤ s.size])
      | _, _ => none
    | .cut l h fs, none, some (.slice e), some v =>
      match v.sliceOf with
      | some (sz, es) =>
        if sz = E.P.cellsOf e ∧ (E.P.info? e).isSome = true then
          match lL (hi.map (E.ev m)) es.length h, lL (lo.map (E.ev m)) 0 l with
          | some p, some q =>
            some ({ dst := match v, hi with
              | .own _ _ .exact, none => .k (.v (.own (E.P.cellsOf e) fs .exact))
              | _, _ => .k (.v (.c (.slice (E.P.cellsOf e) fs))) }, [p, q, l ≤ h, h ≤ es.length, (es.take h).drop l = fs])
          | _, _ => none
        else none
      | none => none
    | _, _, _, _ => none
  | .binOp op _ x y _ =>
    match g, (E.ev m x).raw?, (E.ev m y).raw? with
    | .ok, some (.int k a), some (.int k' b) =>
      match op with
      | .quo => if k = k' then some ({ dst := .pure (.int k (k.wrap (a.tdiv b))) }, [b ≠ 0]) else none
      | .rem => if k = k' then some ({ dst := .pure (.int k (a.tmod b)) }, [b ≠ 0]) else none
      | .shl => some ({ dst := .pure (.int k (k.wrap (a * 2 ^ (min b.toNat k.bits)))) }, [0 ≤ b])
      | .shr => some ({ dst := .pure (.int k (a.fdiv (2 ^ (min b.toNat k.bits)))) }, [0 ≤ b])
      | _ => none
    | .ok, some (.string a), some (.string b) =>
      match op with
      | .add => some ({ dst := .pure (.string (a ++ b)) }, [a.size + b.size ≤ 9223372036854775807])
      | _ => none
    | _, _, _ => none
  | .call { callee := .builtin .len, args, argTypes } =>
    match g, argTypes.toList, args.toList with
    | .len n, t :: _, [x] =>
      match E.P.underlying t, E.ev m x with
      | some (.slice _), .k (.v (.c (.slice _ es))) => some ({ dst := .pure (.int .i64 n) }, [es.length = n])
      | some (.slice _), .k (.v (.own _ es _)) => some ({ dst := .pure (.int .i64 n) }, [es.length = n])
      | _, _ => none
    | _, _, _ => none
  | .makeSlice t l c =>
    match g, E.P.underlying t, (E.ev m l).int?, (E.ev m c).int? with
    | .at k, some (.slice e), some (_, x), some (_, y) =>
      match (kz E.P e).bind (·.mapM V.toC), E.P.info? e with
      | some z, some i =>
        if kE E o = false ∧ z.length = E.P.cellsOf e ∧ 0 < E.P.cellsOf e ∧ i.bytes ≤ 131072 then
          some ({ dst := .k (.v (.own (E.P.cellsOf e) (List.replicate k z) .exact)) }, [x = (k : Int), y = (k : Int), k ≤ sC])
        else none
      | _, _ => none
    | _, _, _, _ => none
  | .convert src dst x =>
    match g, yJ E.P src dst (E.ev m x) with
    | .str ns, some es => some ({ dst := .pure (.string (bH ns)) }, [iA es = some ns])
    | _, _ => none
  | .call { callee := .builtin .append, args, argTypes } =>
    match g, argTypes.toList, args.toList.map (E.ev m) with
    | .app gs, [t, tx], [s, x] =>
      match E.P.underlying t, s.cell?, fX E.P tx x with
      | some (.slice e), some (.own sz es tk), some (sz', fs) =>
        match E.P.info? e with
        | some i =>
          if kE E o = true then none else
          if 0 < i.size ∧ i.bytes ≤ 131072 ∧ i.zero.map (·.cells.size) = some i.size ∧ (sz = i.size ∨ es = []) ∧ (sz' = i.size ∨ fs = []) then
            match tk with
            | .exact => some ({ dst := .k (.v (.own i.size gs (.tok nt))), ut := [(nt, gs.length)] }, [es ++ fs = gs, gs.length ≤ sC])
            | .tok j => match m.tok j with
              | some n => if sz = i.size then some ({ dst := .k (.v (.own sz gs (.tok j))), ut := [(j, gs.length)], rt := [j] }, [es ++ fs = gs, gs.length ≤ sC, n = es.length]) else none
              | none => none
          else none
        | none => none
      | _, _, _ => none
    | _, _, _ => none
  | _ => none
def Bt (E : Env) (m : Mem) (nv : Nat) (o : Oper) (ys : List V) : Option (Eff × List Prop) :=
  match o.op with
  | .call { callee := .builtin .append, args, argTypes } =>
    match argTypes.toList, args.toList.map (E.ev m) with
    | [t, tx], [s, x] =>
      match E.P.underlying t, s.cell?, fX E.P tx x with
      | some (.slice e), some (.own _ [] .exact), some (sz', fs) =>
        match E.P.info? e with
        | some i =>
          if kE E o = true ∧ 0 < i.size ∧ i.bytes ≤ 131072 ∧ i.zero.map (·.cells.size) = some i.size ∧ sz' = i.size then
            some ({ dst := .k (.v (.vsl nv 0 i.size fs.length)), nv := some ys }, [fs.flatten.map .c = ys, 0 < fs.length, fs.length ≤ sC])
          else none
        | none => none
      | _, _, _ => none
    | _, _ => none
  | .call { callee := .value f, args, argTypes } =>
    match (E.ev m f).cell? with
    | some (.clo g []) | some (.c (.fn g [])) =>
      match E.cl g, ex E.P argTypes.toList (args.toList.map (E.ev m)) with
      | some sz, [x] =>
        match x.cell? with
        | some v =>
          match v.sliceOf with
          | some (sz', es) => if kE E o = true ∧ sz' = sz then some ({ dst := .k (.v (.vsl nv 0 sz es.length)), nv := some ys }, [es.flatten.map .c = ys, 0 < es.length, es.length ≤ sC]) else none
          | none => none
        | none => none
      | _, _ => none
    | _ => none
  | .makeSlice t l c =>
    match E.P.underlying t, (E.ev m l).int?, (E.ev m c).int? with
    | some (.slice e), some (_, x), some (_, y) =>
      match (kz E.P e).bind (·.mapM V.toC), E.P.info? e with
      | some z, some i =>
        if kE E o = true ∧ z.length = E.P.cellsOf e ∧ 0 < E.P.cellsOf e ∧ i.bytes ≤ 131072 then
          some ({ dst := .k (.v (.vsl nv 0 (E.P.cellsOf e) x.toNat)), nv := some ys }, [y = x, 0 ≤ x, x ≤ (sC : Int), (List.replicate x.toNat z).flatten.map .c = ys])
        else none
      | _, _ => none
    | _, _, _ => none
  | _ => none
def Fq (E : Env) (m : Mem) (o : Oper) (j : Nat) : Option (Eff × List Prop) :=
  match o.op with
  | .indexAddr t x i =>
    match E.P.underlying t, (E.ev m x).cell?, (E.ev m i).int? with
    | some (.slice e), some (.vsl id off sz n), some (_, iv) => if (E.P.info? e).isSome = true ∧ sz = E.P.cellsOf e then some ({ dst := .k (.v (.ptr id (off + j * sz))) }, [iv = (j : Int), j < n]) else none
    | _, _, _ => none
  | _ => none
def Gu (E : Env) (m : Mem) (o : Oper) (ys : List V) : Option (Eff × List Prop) :=
  match o.op with
  | .store t a x =>
    match (E.ev m a).cell?, (Be E.P t (E.ev m x)).k? with
    | some (.ptr id off), some k =>
      match m.var id with
      | some xs => if k.cells.length = E.P.cellsOf t ∧ (E.P.info? t).isSome = true ∧ tF E o = true ∧ (k.cells.flatMap V.vslIds).isEmpty = true then some ({ dst := .skip, uv := [(id, ys)], rv := [id] }, [off + k.cells.length ≤ xs.length, xs.take off ++ k.cells.map V.weak ++ xs.drop (off + k.cells.length) = ys]) else none
      | none => none
    | _, _ => none
  | .load t a =>
    match (E.ev m a).cell?, ys with
    | some (.ptr id off), [v] =>
      match m.var id with
      | some xs => if fY E.P t = some false then some ({ dst := .k (.v v), rv := [id] }, [xs[off]? = some v]) else none
      | none => none
    | _, _ => none
  | _ => none
def Ah (m : Mem) : List V → List (List (List C)) → Option (List V × List Prop)
  | [], [] => some ([], [])
  | .vsl id off sz n :: r, ess =>
    match ess with
    | es :: ess => match Ah m r ess with | some (cs, ps) => some (.c (.slice sz es) :: cs, ((sx m id off).bind (gb sz n) = some es) :: ps) | none => none
    | [] => none
  | x :: r, ess => match Ah m r ess with | some (cs, ps) => some (x.weak :: cs, ps) | none => none
  | [], _ :: _ => none
theorem jz {m : Mem} : ∀ {ks : List V} {ess : List (List (List C))} {cs : List V} {ps : List Prop}, Ah m ks ess = some (cs, ps) → eV ps → ks.mapM (V.frz m) = some cs
  | [], [], cs, ps, h, _ => by simp only [Ah, Option.some.injEq, Prod.mk.injEq] at h; obtain ⟨rfl, _⟩ := h; rfl
  | [], _ :: _, _, _, h, _ => by simp [Ah] at h
  | x :: r, ess, cs, ps, h, hp => by
    cases x with
    | vsl id off sz n =>
      simp only [Ah] at h
      split at h
      · split at h
        · rename_i cs' ps' hr
          cases h
          rw [List.mapM_cons, jz hr hp.2]
          have h1 := hp.1
          simp only [V.frz, h1]
          rfl
        · cases h
      · cases h
    | _ =>
      simp only [Ah] at h
      split at h
      · rename_i cs' ps' hr
        cases h
        rw [List.mapM_cons, jz hr hp]
        rfl
      · cases h
theorem sH {m : Mem} : ∀ {ks : List V}, (ks.flatMap V.vslIds).isEmpty = true → ks.mapM (V.frz m) = some (ks.map V.weak)
  | [], _ => rfl
  | x :: r, h => by
    cases x with
    | vsl id off sz n => simp [V.vslIds] at h
    | _ =>
      have h' : (r.flatMap V.vslIds).isEmpty = true := by simpa [V.vslIds] using h
      rw [List.mapM_cons, sH h']
      rfl
def FN (E : Env) (m : Mem) (o : Oper) (ess : List (List (List C))) : Option (Eff × List Prop) :=
  match o.op with
  | .store t a x =>
    match (E.ev m a).cell?, (Be E.P t (E.ev m x)).k? with
    | some (.ptr id off), some k =>
      match m.var id with
      | some xs =>
        if (k.cells.length = E.P.cellsOf t ∧ off + k.cells.length ≤ xs.length ∧ (E.P.info? t).isSome = true) ∧ tF E o = true ∧ (k.cells.flatMap V.vslIds).contains id = false then
          match Ah m k.cells ess with
          | some (cs, ps) => some ({ dst := .skip, uv := (id, xs.take off ++ cs ++ xs.drop (off + cs.length)) :: (k.cells.flatMap V.vslIds).map (fun i => (i, [])), rv := id :: k.cells.flatMap V.vslIds }, ps)
          | none => none
        else none
      | none => none
    | _, _ => none
  | _ => none
theorem ta {E : Env} {m : Mem} {nv nt : Nat} {o : Oper} {ess : List (List (List C))} {e : Eff} {ps : List Prop} (h : FN E m o ess = some (e, ps)) (hp : eV ps) : an E m nv nt o = some e := by
  unfold FN at h
  split at h
  · rename_i t x y ho
    split at h
    · rename_i id off k hc hk
      split at h
      · rename_i xs hv
        split at h
        · rename_i hcond
          obtain ⟨h1, h2, h3⟩ := hcond
          split at h
          · rename_i cs ps' hf
            cases h
            simp only [an, ho, hc, hk, hv]
            rw [if_pos h1, if_pos h2]
            unfold ee
            rw [jz hf hp]
            simp only [h3, Bool.false_eq_true, if_false]
          · cases h
        · cases h
      · cases h
    · cases h
  · cases h
theorem qS {E : Env} {m : Mem} {nv nt : Nat} {o : Oper} {ys : List V} {e : Eff} {ps : List Prop} (h : Bt E m nv o ys = some (e, ps)) (hp : eV ps) : an E m nv nt o = some e := by
  unfold Bt at h
  split at h
  · rename_i args argTypes ho
    split at h
    · rename_i t tx s x hty hargs
      split at h
      · rename_i e' sz sz' fs hu hc ha
        split at h
        · rename_i i hi
          split at h
          · rename_i hcond
            cases h
            obtain ⟨h1, h2, h3, _⟩ := hp
            subst h1
            simp only [an, ho]
            rw [if_pos hcond.1]
            simp only [jx, hty, hargs, hu, hc, ha, hi]
            rw [if_pos ⟨hcond.2.1, hcond.2.2.1, hcond.2.2.2.1, hcond.2.2.2.2, h2, h3⟩]
          · cases h
        · cases h
      · cases h
    · cases h
  · rename_i f args argTypes ho
    split at h
    · rename_i g hf
      split at h
      · rename_i sz x hcl hx
        split at h
        · rename_i v hv
          split at h
          · rename_i sz' es hs
            split at h
            · rename_i hcond
              cases h
              obtain ⟨h1, h2, h3, _⟩ := hp
              subst h1
              simp only [an, ho, nE, hf, hcond.1, if_true, hcl, gW, hx, hv, hs]
              rw [if_pos ⟨hcond.2, h2, h3⟩]
            · cases h
          · cases h
        · cases h
      · cases h
    · rename_i g hf
      split at h
      · rename_i sz x hcl hx
        split at h
        · rename_i v hv
          split at h
          · rename_i sz' es hs
            split at h
            · rename_i hcond
              cases h
              obtain ⟨h1, h2, h3, _⟩ := hp
              subst h1
              simp only [an, ho, nE, hf, hcond.1, if_true, hcl, gW, hx, hv, hs]
              rw [if_pos ⟨hcond.2, h2, h3⟩]
            · cases h
          · cases h
        · cases h
      · cases h
    · cases h
  · rename_i t l c ho
    split at h
    · rename_i e' q x q' y hu hl hc
      split at h
      · rename_i z i hz hi
        split at h
        · rename_i hcond
          cases h
          obtain ⟨h1, h2, h3, h4, _⟩ := hp
          simp only [an, ho, ui, hu, hl, hc, hz, hi]
          rw [if_pos ⟨hcond.2, h1, h2, h3⟩, if_pos hcond.1, h4]
        · cases h
      · cases h
    · cases h
  · cases h
theorem ud {E : Env} {m : Mem} {nv nt : Nat} {o : Oper} {j : Nat} {e : Eff} {ps : List Prop} (h : Fq E m o j = some (e, ps)) (hp : eV ps) : an E m nv nt o = some e := by
  unfold Fq at h
  split at h
  · rename_i t x i ho
    split at h
    · rename_i e' id off sz n q iv hu hc hi
      split at h
      · rename_i hcond
        cases h
        obtain ⟨h1, h2, _⟩ := hp
        have hidx : iR (E.ev m i) n = some j := by
          simp only [iR, hi]
          rw [h1, if_pos (by omega)]
          simp
        have hn : (E.P.info? e').isNone = false := by
          cases hq : E.P.info? e' with
          | none => simp [hq] at hcond
          | some _ => rfl
        simp only [an, ho, eq, hu, hc, hn, hidx, Bool.false_eq_true, if_false, if_pos hcond.2, Option.map_some]
      · cases h
    · cases h
  · cases h
theorem tW {E : Env} {m : Mem} {nv nt : Nat} {o : Oper} {ys : List V} {e : Eff} {ps : List Prop} (h : Gu E m o ys = some (e, ps)) (hp : eV ps) : an E m nv nt o = some e := by
  unfold Gu at h
  split at h
  · rename_i t x y ho
    split at h
    · rename_i id off k hc hk
      split at h
      · rename_i xs hv
        split at h
        · rename_i hcond
          cases h
          obtain ⟨h1, h2, _⟩ := hp
          subst h2
          simp only [an, ho, hc, hk, hv]
          rw [if_pos ⟨hcond.1, h1, hcond.2.1⟩, if_pos hcond.2.2.1]
          have he : k.cells.flatMap V.vslIds = [] := by simpa using hcond.2.2.2
          unfold ee
          rw [sH hcond.2.2.2, he]
          simp
        · cases h
      · cases h
    · cases h
  · rename_i t x ho
    split at h
    · rename_i id off v hc
      split at h
      · rename_i xs hv
        split at h
        · rename_i hag
          cases h
          have h1 := hp.1
          simp only [an, ho, hc, hv, na, hag, List.head?_drop, h1, Option.map_some]
        · cases h
      · cases h
    · cases h
  · cases h
def B8 (E : Env) (m : Mem) (nv nt : Nat) (o : Oper) (g : G) : Option (Eff × List Prop) :=
  match g with
  | .e x => some (x, [an E m nv nt o = some x])
  | .rowv ys => Bt E m nv o ys
  | .vat j => Fq E m o j
  | .sto ys => Gu E m o ys
  | .frz ess => FN E m o ess
  | _ => xI E m nt o g
theorem int?_raw {t : T} {q : IntKind} {n : Int} (h : t.int? = some (q, n)) : t.raw? = some (.int q n) := by
  unfold T.int? at h
  split at h
  · cases h; assumption
  · cases h
theorem su {P : Program} {op : BinOp} {t : TypeId} {x y : T} {u v : Value} (hx : x.raw? = some u) (hy : y.raw? = some v) (hu : ∀ b, u ≠ .bool b) : Da P op t x y = (ky op u v).map .pure := by
  rw [raw?_eq hx, raw?_eq hy]
  unfold Da T.pure
  simp only
  split
  · rename_i p q; exact absurd rfl (hu p)
  · rfl
theorem qq {E : Env} {m : Mem} {nv nt : Nat} {o : Oper} {g : G} {e : Eff} {ps : List Prop} (h : xI E m nt o g = some (e, ps)) (hp : eV ps) : an E m nv nt o = some e := by
    unfold xI at h
    split at h
    · rename_i c a b ho
      split at h
      · rename_i v hq hqe
        cases h
        have := hp.1
        simp only [an, ho, hqe]
        rw [this]
      · cases h
    · rename_i f args argTypes ho
      split at h
      · split at h
        · rename_i g hc
          split at h
          · cases h
          · rename_i hil
            simp only [Bool.or_eq_true, not_or, Bool.not_eq_true] at hil
            simp only [an, ho, nE, hc, hil.1, hil.2, Bool.false_eq_true, if_false]
            exact kg h hp
        · rename_i g caps hc
          split at h
          · cases h
          · rename_i hil
            simp only [Bool.or_eq_true, not_or, Bool.not_eq_true] at hil
            simp only [an, ho, nE, hc, hil.1, hil.2, Bool.false_eq_true, if_false]
            exact kg h hp
        · cases h
      · cases h
    · rename_i t x i ho
      split at h
      · rename_i j n' e' hu
        split at h
        · rename_i k iv hi
          simp only [Option.map_eq_some_iff] at h
          obtain ⟨r, hr, h⟩ := h
          cases h
          have h1 := hp.1
          have hii : E.ev m i = .pure (.int k (j : Int)) := by rw [← h1]; exact raw?_eq (int?_raw hi)
          simp only [an, ho, hii, hr, Option.map_some]
        · cases h
      · rename_i j c e' hu
        split at h
        · cases h
        · rename_i hinfo
          split at h
          · cases h
          · rename_i v hne hv
            split at h
            · rename_i sz es k iv hs hi
              split at h
              · rename_i hsz
                cases h
                obtain ⟨h1, h2, _⟩ := hp
                have hj : j < es.length := (List.getElem?_eq_some_iff.1 h2).1
                have hidx : iR (E.ev m i) es.length = some j := by
                  simp only [iR, hi]
                  rw [h1, if_pos (by omega)]
                  simp
                simp only [an, ho, eq, hu, hinfo, hv]
                cases v with
                | vsl _ _ _ _ => exact absurd rfl (hne _ _ _ _)
                | _ => simp_all [V.sliceOf]
              · cases h
            · cases h
          · cases h
      · cases h
    · rename_i t x i ho
      split at h
      · rename_i j n' e' k iv hu hi
        simp only [Option.map_eq_some_iff] at h
        obtain ⟨r, hr, h⟩ := h
        cases h
        have h1 := hp.1
        have hii : E.ev m i = .pure (.int k (j : Int)) := by rw [← h1]; exact raw?_eq (int?_raw hi)
        simp only [an, ho, hii, hr, Option.map_some]
      · rename_i j b s k iv hu hx hi
        cases h
        obtain ⟨h1, h2, _⟩ := hp
        have hj : j < s.size := by
          rcases Nat.lt_or_ge j s.size with h | h
          · exact h
          · rw [getElem?_neg s j (by omega)] at h2; cases h2
        have hidx : iR (E.ev m i) s.size = some j := by
          simp only [iR, hi]
          rw [h1, if_pos (by omega)]
          simp
        simp only [an, ho, qp, hu, hx, hidx, h2, Option.map_some]
      · cases h
    · rename_i t x i ok ho
      split at h
      · rename_i n b q key qv es ha
        cases h
        have h1 := hp.1
        simp only [an, ho, nM, ha, h1, Option.map_some]
      · cases h
    · rename_i t x lo hi mx ho
      split at h
      · rename_i l h' _ s hu hx
        split at h
        · rename_i p q hp1 hq1
          cases h
          obtain ⟨h1, h2, h3, h4, _⟩ := hp
          have e1 := e9 (top := s.size) hp1 h1 h4
          have e2 := e9 (top := h') hq1 h2 h3
          simp only [an, ho, pO, hu, hx, Option.map_none, e1, e2, Option.map_some]
        · cases h
      · rename_i l h' fs e' v hu hx
        split at h
        · rename_i sz es hs
          split at h
          · rename_i hsz
            split at h
            · rename_i p q hp1 hq1
              cases h
              obtain ⟨h1, h2, h3, h4, h5, _⟩ := hp
              subst h5
              have e1 := e9 (top := es.length) hp1 h1 h4
              have e2 := e9 (top := h') hq1 h2 h3
              simp only [an, ho, pO, hu, hx, hs, Option.map_none, e1, e2]
              rw [if_pos ⟨.inl hsz.1, hsz.2⟩]
              cases hi with
              | none =>
                have hh : h' = es.length := by
                  simp only [lL, Option.map_none, Option.some.injEq] at hp1
                  rw [← hp1] at h1
                  exact h1
                cases v with
                | own _ _ tk => cases tk with
                  | exact =>
                    simp only [V.sliceOf, Option.some.injEq, Prod.mk.injEq] at hs
                    obtain ⟨rfl, rfl⟩ := hs
                    simp only [hh, List.take_length, Option.map_none, Option.map_some]
                  | tok _ => rfl
                | _ => rfl
              | some _ => cases v with
                | own _ _ tk => cases tk <;> rfl
                | _ => rfl
            · cases h
          · cases h
        · cases h
      · cases h
    · rename_i op t x y sp ho
      split at h
      · rename_i k a k' b hx hy
        have hb := su (P := E.P) (op := op) (t := t) hx hy (fun b h => by cases h)
        simp only [an, ho, hb, ky]
        split at h
        · split at h
          · rename_i hk; cases h; simp only [hk, if_true, mR, if_neg hp.1, Option.map_some]
          · cases h
        · split at h
          · rename_i hk; cases h; simp only [hk, if_true, mR, if_neg hp.1, Option.map_some]
          · cases h
        · cases h; have := hp.1; simp only [fM, if_neg (show ¬ b < 0 by omega), Option.map_some]
        · cases h; have := hp.1; simp only [fM, if_neg (show ¬ b < 0 by omega), Option.map_some]
        · cases h
      · rename_i a b hx hy
        have hb := su (P := E.P) (op := op) (t := t) hx hy (fun b h => by cases h)
        simp only [an, ho, hb, ky]
        split at h
        · cases h; simp only [qf, if_pos hp.1, Option.map_some]
        · cases h
      · cases h
    · rename_i args argTypes ho
      split at h
      · rename_i n t ts x hty hxs
        split at h
        · rename_i sz es hu hx
          cases h
          have h1 := hp.1
          simp only [an, ho, hty, hxs, Dp, hu, hx, V.sliceOf, Option.map_some, h1]
        · rename_i sz es tk hu hx
          cases h
          have h1 := hp.1
          simp only [an, ho, hty, hxs, Dp, hu, hx, V.sliceOf, Option.map_some, h1]
        · cases h
      · cases h
    · rename_i t l c ho
      split at h
      · rename_i k e' q x q' y hu hl hc
        split at h
        · rename_i z i hz hi
          split at h
          · rename_i hcond
            cases h
            obtain ⟨h1, h2, h3, _⟩ := hp
            have h3' : (k : Int) ≤ (sC : Int) := by exact_mod_cast h3
            simp only [an, ho, ui, hu, hl, hc, hz, hi]
            rw [h1, h2, if_pos ⟨hcond.2, rfl, by omega, h3'⟩, hcond.1]
            simp
          · cases h
        · cases h
      · cases h
    · rename_i src dst x ho
      split at h
      · rename_i ns es hes
        cases h
        have h1 := hp.1
        simp only [an, ho, yB, hes, h1, Option.map_some]
      · cases h
    · rename_i args argTypes ho
      split at h
      · rename_i gs t tx s x hty hxs
        split at h
        · rename_i e' sz es tk sz' fs hu hc ha
          split at h
          · rename_i i hi
            split at h
            · cases h
            rename_i hhit
            split at h
            · rename_i hcond
              simp only [an, ho]
              rw [if_neg hhit]
              simp only [gr, hty, hxs, hu, hc, ha, hi]
              split at h
              · cases h
                obtain ⟨h1, h2, _⟩ := hp
                subst h1
                rw [if_pos ⟨hcond.1, hcond.2.1, hcond.2.2.1, hcond.2.2.2.1, hcond.2.2.2.2, by rw [← List.length_append]; exact h2⟩]
              · rename_i j
                split at h
                · rename_i n hn
                  split at h
                  · rename_i hsz
                    cases h
                    obtain ⟨h1, h2, h3, _⟩ := hp
                    subst h1
                    rw [if_pos ⟨hcond.1, hcond.2.1, hcond.2.2.1, hcond.2.2.2.1, hcond.2.2.2.2, by rw [← List.length_append]; exact h2⟩]
                    simp only
                    rw [if_pos ⟨hsz, by rw [hn, h3]⟩]
                  · cases h
                · cases h
            · cases h
          · cases h
        · cases h
      · cases h
    · cases h
theorem rb {E : Env} {m : Mem} {nv nt : Nat} {o : Oper} {g : G} {e : Eff} {ps : List Prop} (h : B8 E m nv nt o g = some (e, ps)) (hp : eV ps) : an E m nv nt o = some e := by
  unfold B8 at h
  split at h
  · cases h; exact hp.1
  · exact qS h hp
  · exact ud h hp
  · exact tW h hp
  · exact ta h hp
  · exact qq h hp
end Go.Dm
namespace Go.Dm
open Go.RowKit
def CW (E : Env) (m : Mem) (o : Oper) : Bool :=
  match o.op with
  | .pick _ _ _ => true
  | .call { callee := .value _, .. } => true
  | .call { callee := .builtin .append, .. } => true
  | .store t a _ => match a with | .tmp a => E.vs a (3 * t + 2) | _ => false
  | .indexAddr t x i =>
    match E.P.underlying t, (E.ev m x).cell? with
    | some (.slice _), some (.vsl _ _ _ _) => match o.dst with | some d => E.vs d (3 * t + 1) | none => false
    | some (.slice _), _ => true
    | some (.array _ _), _ => match i with | .const _ => false | _ => true
    | _, _ => false
  | .index t _ i => match E.P.underlying t with | some .string => true | some (.array _ _) => (match i with | .const _ => false | _ => true) | _ => false
  | .lookup _ _ _ _ => true
  | .makeSlice _ _ _ => true
  | .load t a => match a with | .tmp a => E.vs (a + 100000) (3 * t + 2) | _ => false
  | .call { callee := .builtin .len, args, argTypes } =>
    match argTypes.toList, args.toList with
    | t :: _, [x] => match E.P.underlying t, E.ev m x with
      | some (.slice _), .k (.v (.c (.slice _ _))) => true
      | some (.slice _), .k (.v (.own _ _ _)) => true
      | _, _ => false
    | _, _ => false
  | .convert src dst x => (yJ E.P src dst (E.ev m x)).isSome
  | .slice t _ _ _ mx =>
    match mx, E.P.underlying t with
    | none, some .string => true
    | none, some (.slice _) => true
    | _, _ => false
  | .binOp op _ x _ _ =>
    match op with
    | .quo | .rem | .shl | .shr => true
    | .add => match (E.ev m x).raw? with | some (.string _) => true | _ => false
    | _ => false
  | _ => false
def vA (E : Env) (m : Mem) (o : Oper) : Option (FuncId × List (C ⊕ (Nat × Nat)) × List T) :=
  match o.op with
  | .call { callee := .value f, args, argTypes } =>
    if kE E o = true then none else
    match (E.ev m f).cell? with
    | some (.clo g caps) => if E.il g then some (g, caps, ex E.P argTypes.toList (args.toList.map (E.ev m))) else none
    | some (.c (.fn g caps)) => if E.il g then some (g, caps.map .inl, ex E.P argTypes.toList (args.toList.map (E.ev m))) else none
    | _ => none
  | _ => none
def FU (E : Env) (m : Mem) (nv nt : Nat) (g : FuncId) (caps : List (C ⊕ (Nat × Nat))) (args : List T) (gs : List G) : Option (Eff × List G × List Prop) :=
  match wu m nv, wg m nt, args.mapM T.k? with
  | some vs, some ts, some ks =>
    match E.J g (ks ++ caps.map E8) vs ts gs with
    | some ((rs, vs', ts'), gs', ps) => if nv ≤ vs'.length ∧ nt ≤ ts'.length then some (lw rs vs' ts', gs', ps) else none
    | none => none
  | _, _, _ => none
def gOp (E : Env) (m : Mem) (nv nt : Nat) (o : Oper) (gs : List G) : Option (Eff × List G × List Prop) :=
  match vA E m o with
  | some (g, caps, args) => FU E m nv nt g caps args gs
  | none =>
  match CW E m o with
  | true => match gs with
    | g :: gs => match B8 E m nv nt o g with | some (e, ps) => some (e, gs, ps) | none => none
    | [] => none
  | false => match an E m nv nt o with | some e => some (e, gs, []) | none => none
def JOk (E : Env) : Prop := ∀ g ks vs ts gs r gs' ps, E.J g ks vs ts gs = some (r, gs', ps) → eV ps → E.I g ks vs ts = some r
theorem tt {E : Env} (hJ : JOk E) {m : Mem} {nv nt : Nat} {g : FuncId} {caps : List (C ⊕ (Nat × Nat))} {args : List T} {gs gs' : List G} {e : Eff} {ps : List Prop} (h : FU E m nv nt g caps args gs = some (e, gs', ps)) (hp : eV ps) : uy E m nv nt g caps args = some e := by
  unfold FU at h
  unfold uy
  split at h
  · rename_i vs ts ks h1 h2 h3
    simp only [h1, h2, h3]
    split at h
    · rename_i rs vs' ts' gs1 ps1 hj
      split at h
      · rename_i hle
        cases h
        simp only [hJ _ _ _ _ _ _ _ _ hj hp]
        rw [if_pos hle]
      · cases h
    · cases h
  · cases h
theorem xA {E : Env} (hJ : JOk E) {m : Mem} {nv nt : Nat} {o : Oper} {gs gs' : List G} {e : Eff} {ps : List Prop} (h : gOp E m nv nt o gs = some (e, gs', ps)) (hp : eV ps) : an E m nv nt o = some e := by
  unfold gOp at h
  split at h
  · rename_i g caps args hi
    have hc := tt hJ h hp
    unfold vA at hi
    split at hi
    · rename_i f xs tys ho
      split at hi
      · cases hi
      rename_i hhit
      simp only [an, ho]
      unfold nE
      have hhit : kE E o = false := by simpa using hhit
      rw [hhit]
      split at hi
      · rename_i g' caps' hf
        split at hi
        · rename_i hil
          cases hi
          simp only [hf, Bool.false_eq_true, if_false]
          rw [if_pos hil]
          exact hc
        · cases hi
      · rename_i g' caps' hf
        split at hi
        · rename_i hil
          cases hi
          simp only [hf, Bool.false_eq_true, if_false]
          rw [if_pos hil]
          exact hc
        · cases hi
      · cases hi
    · cases hi
  split at h
  · split at h
    · split at h
      · rename_i hg; cases h; exact rb hg hp
      · cases h
    · cases h
  · split at h
    · rename_i he; cases h; exact he
    · cases h
def D0 (E : Env) (ops : Array Oper) : List Oper → St → List G → Option (St × List Touch × List G × List Prop)
  | [], s, gs => some (s, [], gs, [])
  | o :: rest, s, gs =>
    match qZ ops s.mem o gs with
    | none => none
    | some (q, gs, ps) =>
      match (match q with | true => gOp E s.mem s.vars.length s.toks.length o gs | false => some (jP, gs, [])) with
      | none => none
      | some (e, gs, qs) =>
        match s.apply o.dst e with
        | none => none
        | some s' =>
          match D0 E ops rest s' gs with
          | none => none
          | some (s'', ts, gs, rs) => some (s'', Touch.of ops o s.vars.length e :: ts, gs, ps ++ (qs ++ rs))
theorem mU {E : Env} (hJ : JOk E) {ops : Array Oper} : ∀ {l : List Oper} {s s' : St} {ts : List Touch} {gs gs' : List G} {ps : List Prop}, D0 E ops l s gs = some (s', ts, gs', ps) → eV ps → fk E ops l s = some (s', ts)
  | [], s, s', ts, gs, gs', ps, h, _ => by simp only [D0, Option.some.injEq, Prod.mk.injEq] at h; obtain ⟨rfl, rfl, _⟩ := h; rfl
  | o :: rest, s, s', ts, gs, gs', ps, h, hp => by
    simp only [D0] at h
    split at h
    · cases h
    · rename_i q gs1 ps1 hw
      split at h
      · cases h
      · rename_i e gs2 qs he
        split at h
        · cases h
        · rename_i s1 hs1
          split at h
          · cases h
          · rename_i s2 ts2 gs3 rs hrec
            simp only [Option.some.injEq, Prod.mk.injEq] at h
            obtain ⟨rfl, rfl, rfl, rfl⟩ := h
            rw [bQ, bQ] at hp
            simp only [fk, nu hw hp.1]
            have : (if q = true then an E s.mem s.vars.length s.toks.length o else some jP) = some e := by
              cases q with
              | true => exact xA hJ he hp.2.1
              | false => simp only [Option.some.injEq, Prod.mk.injEq] at he; simp [he.1]
            simp only [this, hs1, mU hJ hrec hp.2.2]
def qy (E : Env) (ops : Array Oper) (draw : Bool) (s : St) (gs : List G) : Option (St × List G × List Prop) :=
  match D0 E ops ops.toList s gs with
  | none => none
  | some (s', ts, gs, ps) =>
    match !draw || (ix (f8 ops.toList []) ts 0 && lP ops.toList && E.P.follows .mixedOrders) with
    | true => some (s', gs, ps)
    | false => none
theorem nX {E : Env} (hJ : JOk E) {ops : Array Oper} {draw : Bool} {s s' : St} {gs gs' : List G} {ps : List Prop} (h : qy E ops draw s gs = some (s', gs', ps)) (hp : eV ps) : fB E ops draw s = some s' := by
  unfold qy at h
  split at h
  · cases h
  · rename_i hg
    split at h
    · rename_i hok
      simp only [Option.some.injEq, Prod.mk.injEq] at h
      obtain ⟨rfl, rfl, rfl⟩ := h
      unfold fB
      rw [mU hJ hg hp]
      simp only
      rw [if_pos hok]
    · cases h
def uG (E : Env) (H : Nat → LoopHint) (n : Nat) (b : Code) (s : St) (e : Ext) (s' : St) : Prop := aG E H n (.loop b) s = some (e, s')
def aA (E : Env) (H : Nat → LoopHint) (n : Nat) (b : Code) (s0 : St) (e : Ext) (s' : St) : Prop := ∀ s, s.head (H (aP b)) = s0 → uG E H n b s e s'
def xw (f : St → List G → Option (Ext × St × List G × List Prop)) (g : St → Option St) : Nat → St → List G → Option (Ext × St × List G × List Prop)
  | 0, _, _ => none
  | n + 1, s, gs =>
    match f s gs with
    | none => none
    | some (e, s', gs, ps) =>
      match e with
      | .normal =>
        match g s' with
        | some s'' => match xw f g n s'' gs with
          | some (e, s, gs, qs) => some (e, s, gs, ps ++ qs)
          | none => none
        | none => none
      | e => some (e, s', gs, ps)
def dW (E : Env) (H : Nat → LoopHint) (n : Nat) : Code → St → List G → Option (Ext × St × List G × List Prop)
  | .skip, s, gs => some (.normal, s, gs, [])
  | .region _ ops draw, s, gs => match qy E ops draw s gs with | some (s', gs, ps) => some (.normal, s', gs, ps) | none => none
  | .seq a b, s, gs =>
    match dW E H n a s gs with
    | none => none
    | some (e, s', gs, ps) =>
      match e with
      | .normal => match dW E H n b s' gs with
        | some (e, s, gs, qs) => some (e, s, gs, ps ++ qs)
        | none => none
      | e => some (e, s', gs, ps)
  | .cond c x y, s, gs =>
    match zb (E.ev s.mem c).bool? gs with
    | none => none
    | some (q, gs, ps) =>
      match (match q with | true => dW E H n x s gs | false => dW E H n y s gs) with
      | some (e, s, gs, qs) => some (e, s, gs, ps ++ qs)
      | none => none
  | .block id b, s, gs =>
    match dW E H n b s gs with
    | none => none
    | some (e, s', gs, ps) =>
      match e with
      | .exit i => if i = id then some (.normal, s', gs, ps) else some (.exit i, s', gs, ps)
      | e => some (e, s', gs, ps)
  | .loop b, s, gs =>
    match gs with
    | .loop e s' :: gs => some (e, s', gs, [aA E H n b (s.head (H (aP b))) e s'])
    | .un :: gs =>
      xw (fun s gs => dW E H n b s gs) (fun s' => (s'.cut (s.head (H (aP b))).vars.length (s.head (H (aP b))).toks.length).map fun s => { s with tmps := bC s.tmps (H (aP b)).forget }) n (s.head (H (aP b))) gs
    | _ => none
  | .exit id, s, gs => some (.exit id, s, gs, [])
  | .ret, s, gs => some (.ret, s, gs, [])
  | _, _, _ => none
theorem lH {f : St → List G → Option (Ext × St × List G × List Prop)} {f' : St → Option (Ext × St)} {g : St → Option St} (hf : ∀ s gs e s' gs' ps, f s gs = some (e, s', gs', ps) → eV ps → f' s = some (e, s')) :
    ∀ (n : Nat) (s : St) (gs : List G) (e : Ext) (s' : St) (gs' : List G) (ps : List Prop), xw f g n s gs = some (e, s', gs', ps) → eV ps → rx f' g n s = some (e, s')
  | 0, s, gs, e, s', gs', ps, h, _ => by simp [xw] at h
  | n + 1, s, gs, e, s', gs', ps, h, hp => by
    simp only [xw] at h
    split at h
    · cases h
    · rename_i e1 s1 gs1 ps1 h1
      split at h
      · split at h
        · rename_i s2 hs2
          split at h
          · rename_i hrec
            simp only [Option.some.injEq, Prod.mk.injEq] at h
            obtain ⟨rfl, rfl, rfl, rfl⟩ := h
            rw [bQ] at hp
            simp only [rx, hf _ _ _ _ _ _ h1 hp.1, hs2]
            exact lH hf n _ _ _ _ _ _ hrec hp.2
          · cases h
        · cases h
      · rename_i hne
        simp only [Option.some.injEq, Prod.mk.injEq] at h
        obtain ⟨rfl, rfl, rfl, rfl⟩ := h
        simp only [rx, hf _ _ _ _ _ _ h1 hp]
        cases e1 with
        | normal => exact (hne rfl).elim
        | _ => rfl
theorem bm {E : Env} (hJ : JOk E) {H : Nat → LoopHint} {n : Nat} : ∀ (c : Code) (s : St) (gs : List G) (e : Ext) (s' : St) (gs' : List G) (ps : List Prop), dW E H n c s gs = some (e, s', gs', ps) → eV ps → aG E H n c s = some (e, s')
  | .skip, s, gs, e, s', gs', ps, h, _ => by
    simp only [dW, Option.some.injEq, Prod.mk.injEq] at h
    obtain ⟨rfl, rfl, _⟩ := h; rfl
  | .region _ ops draw, s, gs, e, s', gs', ps, h, hp => by
    simp only [dW] at h
    split at h
    · rename_i hr
      simp only [Option.some.injEq, Prod.mk.injEq] at h
      obtain ⟨rfl, rfl, rfl, rfl⟩ := h
      simp only [aG, nX hJ hr hp]
    · cases h
  | .seq a b, s, gs, e, s', gs', ps, h, hp => by
    simp only [dW] at h
    split at h
    · cases h
    · rename_i e1 s1 gs1 ps1 h1
      split at h
      · split at h
        · rename_i h2
          simp only [Option.some.injEq, Prod.mk.injEq] at h
          obtain ⟨rfl, rfl, rfl, rfl⟩ := h
          rw [bQ] at hp
          simp only [aG, bm hJ a _ _ _ _ _ _ h1 hp.1]
          exact bm hJ b _ _ _ _ _ _ h2 hp.2
        · cases h
      · rename_i hne
        simp only [Option.some.injEq, Prod.mk.injEq] at h
        obtain ⟨rfl, rfl, rfl, rfl⟩ := h
        simp only [aG, bm hJ a _ _ _ _ _ _ h1 hp]
        cases e1 with
        | normal => exact (hne rfl).elim
        | _ => rfl
  | .cond c x y, s, gs, e, s', gs', ps, h, hp => by
    simp only [dW] at h
    split at h
    · cases h
    · rename_i q gs1 ps1 hb
      split at h
      · rename_i h1
        simp only [Option.some.injEq, Prod.mk.injEq] at h
        obtain ⟨rfl, rfl, rfl, rfl⟩ := h
        rw [bQ] at hp
        simp only [aG, ld hb hp.1]
        cases q with
        | true => exact bm hJ x _ _ _ _ _ _ h1 hp.2
        | false => exact bm hJ y _ _ _ _ _ _ h1 hp.2
      · cases h
  | .block id b, s, gs, e, s', gs', ps, h, hp => by
    simp only [dW] at h
    split at h
    · cases h
    · rename_i e1 s1 gs1 ps1 h1
      split at h
      · rename_i i
        split at h
        · rename_i hi
          simp only [Option.some.injEq, Prod.mk.injEq] at h
          obtain ⟨rfl, rfl, rfl, rfl⟩ := h
          simp only [aG, bm hJ b _ _ _ _ _ _ h1 hp, hi, if_true]
        · rename_i hi
          simp only [Option.some.injEq, Prod.mk.injEq] at h
          obtain ⟨rfl, rfl, rfl, rfl⟩ := h
          simp only [aG, bm hJ b _ _ _ _ _ _ h1 hp, hi, if_false]
      · rename_i hne
        simp only [Option.some.injEq, Prod.mk.injEq] at h
        obtain ⟨rfl, rfl, rfl, rfl⟩ := h
        simp only [aG, bm hJ b _ _ _ _ _ _ h1 hp]
        cases e1 with
        | exit i => exact (hne i rfl).elim
        | _ => rfl
  | .loop b, s, gs, e, s', gs', ps, h, hp => by
    simp only [dW] at h
    split at h
    · simp only [Option.some.injEq, Prod.mk.injEq] at h
      obtain ⟨rfl, rfl, rfl, rfl⟩ := h
      exact hp.1 _ rfl
    · simp only [aG]
      exact lH (fun s gs e s' gs' ps h hp => bm hJ b s gs e s' gs' ps h hp) _ _ _ _ _ _ _ h hp
    · cases h
  | .exit id, s, gs, e, s', gs', ps, h, _ => by
    simp only [dW, Option.some.injEq, Prod.mk.injEq] at h
    obtain ⟨rfl, rfl, _⟩ := h; rfl
  | .ret, s, gs, e, s', gs', ps, h, _ => by
    simp only [dW, Option.some.injEq, Prod.mk.injEq] at h
    obtain ⟨rfl, rfl, _⟩ := h; rfl
  | .rangeFunc _ _ _ _, _, _, _, _, _, _, h, _ => by simp [dW] at h
  | .scope _, _, _, _, _, _, _, h, _ => by simp [dW] at h
  | .label _, _, _, _, _, _, _, h, _ => by simp [dW] at h
  | .goto _, _, _, _, _, _, _, h, _ => by simp [dW] at h
  | .refuse _, _, _, _, _, _, _, h, _ => by simp [dW] at h
def mQ (s : St) : List K → Option (List Res × List Prop)
  | [] => some ([], [])
  | .v (.own sz es (.tok i)) :: r =>
    match s.toks[i]?, mQ s r with
    | some n, some (rs, ps) => some (.top sz es :: rs, (n = es.length) :: ps)
    | _, _ => none
  | k :: r => match n5 s k, mQ s r with
    | some x, some (rs, ps) => some (x :: rs, ps)
    | _, _ => none
theorem gt {s : St} : ∀ {ks : List K} {rs : List Res} {ps : List Prop}, mQ s ks = some (rs, ps) → eV ps → ks.mapM (n5 s) = some rs
  | [], rs, ps, h, _ => by simp only [mQ, Option.some.injEq, Prod.mk.injEq] at h; obtain ⟨rfl, _⟩ := h; rfl
  | k :: ks, rs, ps, h, hp => by
    unfold mQ at h
    split at h
    · rename_i heq; cases heq
    · rename_i sz es i r heq
      cases heq
      split at h
      · rename_i n rs' ps' hn hr
        simp only [Option.some.injEq, Prod.mk.injEq] at h
        obtain ⟨rfl, rfl⟩ := h
        rw [List.mapM_cons, gt hr hp.2]
        have : s.toks[i]? = some es.length := by rw [hn, hp.1]
        simp [n5, this]
      · cases h
    · rename_i heq
      cases heq
      split at h
      · rename_i x rs' ps' hx hr
        simp only [Option.some.injEq, Prod.mk.injEq] at h
        obtain ⟨rfl, rfl⟩ := h
        rw [List.mapM_cons, gt hr hp, hx]
        rfl
      · cases h
def ij (s : St) (nl : Nat) : List V → List G → Option (List V × List G × List Prop)
  | [], gs => some ([], gs, [])
  | .vsl id off sz n :: r, gs =>
    match gs with
    | .rows es :: gs => if nl ≤ id then match ij s nl r gs with | some (vs, gs, ps) => some (.c (.slice sz es) :: vs, gs, ((sx s.mem id off).bind (gb sz n) = some es) :: ps) | none => none else none
    | _ => none
  | x :: r, gs => match ij s nl r gs with | some (vs, gs, ps) => some (x :: vs, gs, ps) | none => none
def lN (s : St) (nl : Nat) : List K → List G → Option (List K × List G × List Prop)
  | [], gs => some ([], gs, [])
  | .v x :: r, gs => match ij s nl [x] gs with
    | some ([y], gs, ps) => match lN s nl r gs with | some (ks, gs, qs) => some (.v y :: ks, gs, ps ++ qs) | none => none
    | _ => none
  | .agg xs :: r, gs => match ij s nl xs gs with
    | some (ys, gs, ps) => match lN s nl r gs with | some (ks, gs, qs) => some (.agg ys :: ks, gs, ps ++ qs) | none => none
    | none => none
theorem d7 {s : St} {nl : Nat} : ∀ {xs : List V} {gs gs' : List G} {ys : List V} {ps : List Prop}, ij s nl xs gs = some (ys, gs', ps) → eV ps → xs.map (V.still s nl) = ys
  | [], gs, gs', ys, ps, h, _ => by simp only [ij, Option.some.injEq, Prod.mk.injEq] at h; obtain ⟨rfl, _⟩ := h; rfl
  | x :: r, gs, gs', ys, ps, h, hp => by
    unfold ij at h
    split at h
    · rename_i heq; cases heq
    · rename_i id off sz n r' gs1 heq
      cases heq
      split at h
      · rename_i es gs2
        split at h
        · rename_i hle
          split at h
          · rename_i vs gs3 ps' hr
            simp only [Option.some.injEq, Prod.mk.injEq] at h
            obtain ⟨rfl, rfl, rfl⟩ := h
            rw [List.map_cons, d7 hr hp.2]
            simp only [V.still, if_pos hle, hp.1]
          · cases h
        · cases h
      · cases h
    · rename_i x' r' gs1 hne heq
      cases heq
      split at h
      · rename_i vs gs3 ps' hr
        simp only [Option.some.injEq, Prod.mk.injEq] at h
        obtain ⟨rfl, rfl, rfl⟩ := h
        rw [List.map_cons, d7 hr hp]
        cases x with
        | vsl id off sz n => exact absurd rfl (hne id off sz n)
        | _ => rfl
      · cases h
theorem gp {s : St} {nl : Nat} : ∀ {ks : List K} {gs gs' : List G} {ls : List K} {ps : List Prop}, lN s nl ks gs = some (ls, gs', ps) → eV ps → ks.map (K.still s nl) = ls
  | [], gs, gs', ls, ps, h, _ => by simp only [lN, Option.some.injEq, Prod.mk.injEq] at h; obtain ⟨rfl, _⟩ := h; rfl
  | .v x :: r, gs, gs', ls, ps, h, hp => by
    simp only [lN] at h
    split at h
    · rename_i y gs1 ps1 hx
      split at h
      · rename_i ks gs2 qs hr
        simp only [Option.some.injEq, Prod.mk.injEq] at h
        obtain ⟨rfl, rfl, rfl⟩ := h
        rw [bQ] at hp
        have h1 := d7 hx hp.1
        simp only [List.map_cons, List.map_nil, List.cons.injEq, and_true] at h1
        rw [List.map_cons, gp hr hp.2]
        simp only [K.still, h1]
      · cases h
    · cases h
  | .agg xs :: r, gs, gs', ls, ps, h, hp => by
    simp only [lN] at h
    split at h
    · rename_i ys gs1 ps1 hx
      split at h
      · rename_i ks gs2 qs hr
        simp only [Option.some.injEq, Prod.mk.injEq] at h
        obtain ⟨rfl, rfl, rfl⟩ := h
        rw [bQ] at hp
        rw [List.map_cons, gp hr hp.2]
        simp only [K.still, d7 hx hp.1]
      · cases h
    · cases h
def gFn (E : Env) (H : Nat → LoopHint) (n : Nat) (fn : Func) (as : List A) (ims : List (List C)) (gs : List G) : Option (List Res × List (List C) × List Prop) :=
  match fn.body with
  | none => none
  | some c =>
    match dW E H n c (lJ fn as ims) gs with
    | some (e, s, gs', ps) =>
      if (e = .normal ∨ e = .ret) ∧ ims.all (fun cs => !cs.isEmpty) = true ∧ (ck as).length ≤ 1 then
        match fn.results.toList.mapM (lE E.P s) with
        | some ks0 =>
          match lN s ims.length ks0 gs' with
          | some (ks, [], ts) =>
            match cA (f6 ks), mQ s ks, jv s ims.length 0 with
            | true, some (rs, qs), some r => if r.map List.length = ims.map List.length then some (rs, r, ps ++ (ts ++ qs)) else none
            | _, _, _ => none
          | _ => none
        | none => none
      else none
    | none => none
theorem xx {E : Env} (hJ : JOk E) {H : Nat → LoopHint} {n : Nat} {fn : Func} {as : List A} {ims : List (List C)} {gs : List G} {rs : List Res} {ims' : List (List C)} {ps : List Prop} (h : gFn E H n fn as ims gs = some (rs, ims', ps)) (hp : eV ps) : mY E H n fn as ims = some (rs, ims') := by
  unfold gFn at h
  unfold mY
  split at h
  · cases h
  · rename_i c hc
    simp only [hc]
    split at h
    · rename_i e s gs' ps1 hg
      split at h
      · rename_i hcond
        split at h
        · rename_i ks0 hks
          split at h
          · rename_i ks ts hst
            split at h
            · rename_i rs' qs r hd hr hl
              split at h
              · rename_i hlen
                simp only [Option.some.injEq, Prod.mk.injEq] at h
                obtain ⟨rfl, rfl, rfl⟩ := h
                rw [bQ, bQ] at hp
                rw [bm hJ c _ _ _ _ _ _ hg hp.1]
                simp only
                rw [if_pos hcond]
                have : results? E.P s ims.length fn.results.toList = some rs' := by
                  unfold results?
                  simp only [hks, gp hst hp.2.1]
                  rw [if_pos hd, gt hr hp.2.2]
                simp only [this, hl]
                rw [if_pos hlen]
              · cases h
            · cases h
          · cases h
        · cases h
      · cases h
    · cases h
theorem AU {E : Env} {H : Nat → LoopHint} {n : Nat} {b : Code} {s : St} (S : Nat → St) (N : Nat) {e : Ext} {s' : St} (h0 : s.head (H (aP b)) = S 0) {nv nt : Nat}
    (hv : (S 0).vars.length = nv) (ht : (S 0).toks.length = nt)
    (step : ∀ i, i < N → ∃ s2, aG E H n b (S i) = some (.normal, s2) ∧ (s2.cut nv nt).map (fun s => { s with tmps := bC s.tmps (H (aP b)).forget }) = some (S (i + 1)))
    (last : aG E H n b (S N) = some (e, s')) (he : e ≠ .normal) (hn : N < n) : uG E H n b s e s' := by
  unfold uG
  simp only [aG, h0, hv, ht]
  have key : ∀ (k i m : Nat), i + k = N → k < m → rx (fun s => aG E H n b s) (fun s => (s.cut nv nt).map fun s => { s with tmps := bC s.tmps (H (aP b)).forget }) m (S i) = some (e, s') := by
    intro k
    induction k with
    | zero =>
      intro i m hi hm
      have : i = N := by omega
      subst this
      cases m with
      | zero => omega
      | succ m =>
        simp only [rx, last]
        cases e with
        | normal => exact absurd rfl he
        | _ => rfl
    | succ k ih =>
      intro i m hi hm
      cases m with
      | zero => omega
      | succ m =>
        obtain ⟨s2, h1, h2⟩ := step i (by omega)
        simp only [rx, h1, h2]
        exact ih (i + 1) m (by omega) (by omega)
  exact key N 0 n (by omega) hn
abbrev Tab := FuncId → Option (List A → List (List C) → Option (List Res × List (List C)))
structure TabOk (P : Program) (gl : Nat → Option (List C)) (X : Tab) : Prop where
  call : ∀ f h xs ims rs ims', X f = some h → h xs ims = some (rs, ims') → Enters P f ∧ qr P gl f xs ims rs ims'
theorem TabOk.nil (P : Program) (gl : Nat → Option (List C)) : TabOk P gl (fun _ => none) := ⟨fun f h xs ims rs ims' hx => by cases hx⟩
def Gj (H : FuncId → Nat → LoopHint) (g : FuncId) : Bool := (H g 1000000).forget == [0]
def Gq (H : FuncId → Nat → LoopHint) (d t : Nat) : Bool := (H 1000001 t).forget.contains d
def Gg (H : FuncId → Nat → LoopHint) (g : FuncId) : Bool := (H g 1000000).forget == [1]
def B1 (H : FuncId → Nat → LoopHint) (g : FuncId) : Option Nat := match (H g 1000002).forget with | [sz] => some sz | _ => none
def sR (E : Env) (H : Nat → LoopHint) (n : Nat) (fn : Func) (ks : List K) (vs : List (List V)) (ts : List Nat) (gs : List G) : Option ((List K × List (List V) × List Nat) × List G × List Prop) :=
  match fn.body with
  | none => none
  | some c =>
    match dW E H n c (pJ fn ks vs ts) gs with
    | some (e, s, gs', ps) =>
      if e = .normal ∨ e = .ret then
        match fn.results.toList.mapM (lE E.P s) with
        | some rs => some ((rs, s.vars, s.toks), gs', ps)
        | none => none
      else none
    | none => none
theorem p6 {E : Env} (hJ : JOk E) {H : Nat → LoopHint} {n : Nat} {fn : Func} {ks : List K} {vs : List (List V)} {ts : List Nat} {gs gs' : List G} {r : List K × List (List V) × List Nat} {ps : List Prop}
    (h : sR E H n fn ks vs ts gs = some (r, gs', ps)) (hp : eV ps) : gC E H n fn ks vs ts = some r := by
  unfold sR at h
  unfold gC
  split at h
  · cases h
  · rename_i c hc
    simp only [hc]
    split at h
    · rename_i e s gs1 ps1 hg
      split at h
      · rename_i he
        split at h
        · rename_i rs hr
          cases h
          rw [bm hJ c _ _ _ _ _ _ hg hp]
          simp only
          rw [if_pos he]
          simp only [hr]
        · cases h
      · cases h
    · cases h
def An (P : Program) (F : jo) (gl : Nat → Option (List C)) (H : FuncId → Nat → LoopHint) (n : Nat) : Nat → wZ × wR
  | 0 => (fun _ _ _ _ => none, fun _ _ _ _ _ => none)
  | d + 1 =>
    (fun g ks vs ts => match P.funcs[g]? with
      | some fn => gC ⟨P, F, gl, Gj H, Gq H, Gg H, B1 H, (An P F gl H n d).1, (An P F gl H n d).2⟩ (H g) n fn ks vs ts
      | none => none,
     fun g ks vs ts gs => match P.funcs[g]? with
      | some fn => sR ⟨P, F, gl, Gj H, Gq H, Gg H, B1 H, (An P F gl H n d).1, (An P F gl H n d).2⟩ (H g) n fn ks vs ts gs
      | none => none)
def nI (P : Program) (F : jo) (gl : Nat → Option (List C)) (H : FuncId → Nat → LoopHint) (n d : Nat) : Env :=
  ⟨P, F, gl, Gj H, Gq H, Gg H, B1 H, (An P F gl H n d).1, (An P F gl H n d).2⟩
theorem i8 {P : Program} {F : jo} {gl : Nat → Option (List C)} {H : FuncId → Nat → LoopHint} {n : Nat} : ∀ d, JOk (nI P F gl H n d)
  | 0 => fun g ks vs ts gs r gs' ps h _ => by simp [nI, An] at h
  | d + 1 => fun g ks vs ts gs r gs' ps h hp => by
    have h1 : (match P.funcs[g]? with | some fn => sR (nI P F gl H n d) (H g) n fn ks vs ts gs | none => none) = some (r, gs', ps) := h
    show (match P.funcs[g]? with | some fn => gC (nI P F gl H n d) (H g) n fn ks vs ts | none => none) = some r
    split at h1
    · rename_i fn hfn
      exact p6 (i8 d) h1 hp
    · cases h1
theorem rh {P : Program} {F : jo} {gl : Nat → Option (List C)} {H : FuncId → Nat → LoopHint} {n : Nat} (hno : ∀ (f : FuncId) fn, P.funcs[f]? = some fn → (fn.name == "runtime.NumGoroutine") = false)
    (hC : ∀ f sz, B1 H f = some sz → Enters P f ∧ j5 P f sz) (hF : ∀ f xs ims rs ims', F f xs ims = some (rs, ims') → Enters P f ∧ qr P gl f xs ims rs ims') : ∀ d, EnvOk (nI P F gl H n d)
  | 0 => ⟨hC, (fun f ks vs ts rs vs' ts' h => by simp [nI, An] at h), hF⟩
  | d + 1 => ⟨hC, (fun f ks vs ts rs vs' ts' h => by
    have h1 : (match P.funcs[f]? with | some fn => gC (nI P F gl H n d) (H f) n fn ks vs ts | none => none) = some (rs, vs', ts') := h
    split at h1
    · rename_i fn hfn
      refine ⟨⟨fn, hfn, ?_, hno f fn hfn⟩, p8 (E := nI P F gl H n d) (rh hno hC hF d) hfn h1⟩
      unfold gC at h1
      split at h1
      · cases h1
      · rename_i c hc; simp [hc]
    · cases h1), hF⟩
def ag (P : Program) (gl : Nat → Option (List C)) (X : Tab) (H : FuncId → Nat → LoopHint) (n : Nat) : Nat → jo
  | 0 => fun _ _ _ => none
  | k + 1 => fun g xs ims => match X g with
    | some h => h xs ims
    | none => match P.funcs[g]? with
      | some fn => mY (nI P (ag P gl X H n k) gl H n 6) (H g) n fn xs ims
      | none => none
abbrev A3 (P : Program) (gl : Nat → Option (List C)) (X : Tab) (H : FuncId → Nat → LoopHint) (n k : Nat) : Env := nI P (ag P gl X H n k) gl H n 6
theorem u5 {P : Program} {gl : Nat → Option (List C)} {X : Tab} {H : FuncId → Nat → LoopHint} {n : Nat} (hX : TabOk P gl X) (hC : ∀ f sz, B1 H f = some sz → Enters P f ∧ j5 P f sz) (hno : ∀ (f : FuncId) fn, P.funcs[f]? = some fn → (fn.name == "runtime.NumGoroutine") = false) : ∀ k, EnvOk (A3 P gl X H n k)
  | 0 => rh hno hC (fun f xs ims rs ims' h => by simp [ag] at h) 6
  | k + 1 => rh hno hC (fun f xs ims rs ims' h => by
    simp only [ag] at h
    split at h
    · rename_i hh hx
      exact hX.call f hh xs ims rs ims' hx h
    · split at h
      · rename_i fn hfn
        refine ⟨⟨fn, hfn, ?_, hno f fn hfn⟩, ?_⟩
        · unfold mY at h
          split at h
          · cases h
          · rename_i c hc; simp [hc]
        · exact yn (E := A3 P gl X H n k) (u5 hX hC hno k) hfn h
      · cases h) 6
theorem BO {P : Program} {gl : Nat → Option (List C)} {X : Tab} {H : FuncId → Nat → LoopHint} {n k : Nat} {g : FuncId} {fn : Func} (hg : P.funcs[g]? = some fn) (hx : X g = none) {xs : List A} {ims : List (List C)} {gs : List G} {rs : List Res} {ims' : List (List C)} {ps : List Prop}
    (h : gFn (A3 P gl X H n k) (H g) n fn xs ims gs = some (rs, ims', ps)) (hp : eV ps) : ag P gl X H n (k + 1) g xs ims = some (rs, ims') := by
  simp only [ag, hg, hx]
  exact xx (i8 6) h hp
theorem r9 {P : Program} {gl : Nat → Option (List C)} {X : Tab} {H : FuncId → Nat → LoopHint} {n k : Nat} {g : FuncId} {h : List A → List (List C) → Option (List Res × List (List C))} (hx : X g = some h) {xs : List A} {ims : List (List C)} : ag P gl X H n (k + 1) g xs ims = h xs ims := by
  simp only [ag, hx]
theorem wW {P : Program} {gl : Nat → Option (List C)} {X : Tab} {H : FuncId → Nat → LoopHint} {n k : Nat} {g : FuncId} {fn : Func} (hg : P.funcs[g]? = some fn) (hx : X g = none) {Q : Prop} (q : Q) {xs : List A} {ims : List (List C)} {gs : List G} {rs : List Res} {ims' : List (List C)}
    (h : (gFn (A3 P gl X H n k) (H g) n fn xs ims gs).map (fun r => (r.1, r.2.1, eV r.2.2)) = some (rs, ims', Q)) : ag P gl X H n (k + 1) g xs ims = some (rs, ims') := by
  rw [Option.map_eq_some_iff] at h
  obtain ⟨⟨rs0, im0, ps⟩, h1, h2⟩ := h
  simp only [Prod.mk.injEq] at h2
  obtain ⟨rfl, rfl, rfl⟩ := h2
  exact BO hg hx h1 q
end Go.Dm
