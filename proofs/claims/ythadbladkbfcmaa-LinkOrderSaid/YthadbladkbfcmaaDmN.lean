/-
  The data machine, part N: a call; every operation.
-/
import Derived.Test.YthadbladkbfcmaaDmM
namespace Go.Dm
open Go.RowKit

theorem Mem.apply_toks (m : Mem) (d : Option Tmp) (nv : Nat) (x : T) (ut : List (Nat × Nat)) (rv rt : List Nat) : m.apply d nv { dst := x, ut, rv, rt } = Mem.put { m with tok := addToks ut m.tok } d x := by
  cases d with
  | none => simp [Mem.apply, Mem.put, lk]; rfl
  | some d =>
    simp only [Mem.put, Mem.apply, lk, Option.isSome_none, Bool.false_eq_true, and_false, if_false, Option.some.injEq]
    congr 1
    funext t
    by_cases h : d = t
    · simp [h]
    · simp [h, Ne.symm h]

theorem Mem.apply_lent (m : Mem) (d : Option Tmp) (nv id : Nat) (xs : List V) (x : T) (ut : List (Nat × Nat)) (rv rt : List Nat) : m.apply d nv { dst := x, uv := [(id, xs)], ut, rv, rt } =
    Mem.put { m with var := fun i => if i = id then some xs else m.var i, tok := addToks ut m.tok } d x := by
  have hv : (m.apply d nv { dst := x, uv := [(id, xs)], ut, rv, rt }).var = fun i => if i = id then some xs else m.var i := by
    funext i
    simp only [Mem.apply, Option.isSome_none, Bool.false_eq_true, and_false, if_false, lk]
    by_cases h : id = i
    · simp [h]
    · simp [h, Ne.symm h]
  cases d with
  | none =>
    simp only [Mem.put]
    rw [← hv]
    simp [Mem.apply, lk]; rfl
  | some d =>
    simp only [Mem.put]
    rw [← hv]
    simp only [Mem.apply, lk, Option.some.injEq]
    congr 1
    funext t
    by_cases h : d = t
    · simp [h]
    · simp [h, Ne.symm h]

theorem resT_rep {γ : Gh} {tok : Nat → Option Nat} {w : World} {ks : List K} {us : List Value} (h : All2 (K.rep γ tok w) ks us) : (resT ks).rep γ tok w (tupOf us) := by
  match ks, us, h with
  | [], [], _ => exact ⟨[], rfl, trivial⟩
  | [k], [u], h => exact h.1
  | k :: k' :: ks, u :: u' :: us, h => exact ⟨u :: u' :: us, rfl, h⟩
  | [], _ :: _, h => exact h.elim
  | [_], [], h => exact h.elim
  | [_], _ :: _ :: _, h => exact h.2.elim
  | _ :: _ :: _, [], h => exact h.elim
  | _ :: _ :: _, [_], h => exact h.2.elim

theorem bare_rep {Fr Fr' : Nat → Nat → Prop} {n0 : Nat} {w : World} : ∀ {rs : List Res} {us : List Value}, rs.all Res.bare = true → All2 (Res.rep Fr n0 w) rs us → All2 (Res.rep Fr' n0 w) rs us
  | [], [], _, _ => trivial
  | r :: rs, u :: us, hb, h => by
    simp only [List.all_cons, Bool.and_eq_true] at hb
    refine ⟨?_, bare_rep hb.2 h.2⟩
    have h1 := h.1
    unfold Res.bare at hb
    split at hb
    · simpa only [Res.rep, C.rep] using h1
    · simp at hb
  | [], _ :: _, _, h => h.elim
  | _ :: _, [], _, h => h.elim

theorem spare_new {Fr : Nat → Nat → Prop} {n0 : Nat} {w : World} {rs : List Res} {us : List Value} (h : All2 (Res.rep Fr n0 w) rs us) {r sz : Nat} {es : List (List C)} {u : Value} (hr : rs[r]? = some (.top sz es)) (hu : us[r]? = some u) {b : Nat} (hb : spareBlock u = some b) : n0 ≤ b := by
  obtain ⟨u', hu', _, base, cap, rfl, _, ht⟩ := h.get r _ hr
  rw [hu] at hu'
  cases hu'
  unfold spareBlock at hb
  split at hb
  · rename_i a n c heq
    split at hb
    · cases hb
    · rename_i hne
      simp only [Value.slice.injEq] at heq
      obtain ⟨h1, h2, h3⟩ := heq
      obtain ⟨b', hb1, hb2, _⟩ := ht.resolve_left (by omega)
      rw [hb1] at h1
      cases h1
      cases hb
      exact hb2
  · cases hb

theorem old_spare {F : Fm} {γ : Gh} {m : Mem} {a : Act} {w : World} (h : Rel F γ m a w) {j l : Nat} (hj : m.tok j = some l) (hc : (γ.tk j).cap ≠ l) : ∃ b, (γ.tk j).base.map (·.block) = some b ∧ b < w.heap.size := by
  obtain ⟨b, hb, _, ⟨arr, e, harr, _⟩, _⟩ := (h.toks j l hj).2.resolve_left hc
  refine ⟨b, by rw [hb]; rfl, ?_⟩
  rcases Nat.lt_or_ge b w.heap.size with h | h
  · exact h
  · rw [Array.getElem?_eq_none h] at harr; cases harr

theorem inLent_nil {locs : List (Nat × Nat)} {b o : Nat} (h : inLent [] locs b o) : False := by
  obtain ⟨k, cs, p, h1, _⟩ := h
  simp at h1

theorem A.extra {Fr : Nat → Nat → Prop} {w : World} {all : List (Nat × Nat)} : ∀ {cs : List C} {vs : List Value}, All2 (C.rep Fr w) cs vs → All2 (A.rep Fr w all) (cs.map .c) vs
  | [], [], _ => trivial
  | _ :: _, _ :: _, h => ⟨h.1, A.extra h.2⟩
  | [], _ :: _, h => h.elim
  | _ :: _, [], h => h.elim

/-- A variable's cells stay for good from here on: the variable is let go. -/
theorem Rel.freeze1 {F : Fm} {γ : Gh} {m : Mem} {a : Act} {w : World} (h : Rel F γ m a w) {id b o : Nat} {ys : List V} (hv : m.var id = some ys) (hl : γ.loc id = some (b, o)) :
    let γ' : Gh := { γ with fr := fun b' x => γ.fr b' x ∨ (b' = b ∧ o ≤ x ∧ x < o + ys.length) }
    let m' : Mem := { m with var := fun i => if i = id then some [] else m.var i }
    Rel F γ' m' a w ∧ Ex γ γ' m.tok m'.tok w w := by
  intro γ' m'
  obtain ⟨b', o', h1, h2, h3, h5⟩ := h.vars id ys hv
  rw [hl] at h1; cases h1
  have hex : Ex γ γ' m.tok m'.tok w w := ⟨⟨fun _ _ h => .inl h, fun _ _ _ _ h => h, fun _ _ _ _ h => h⟩, fun _ _ h => h, fun _ _ h => .inl ⟨h, rfl⟩⟩
  refine ⟨?_, hex⟩
  exact {
    defers := h.defers
    size := h.size
    base := h.base
    fr0 := fun b o hx => .inl (h.fr0 b o hx)
    frs := fun b1 x hx => by
      rcases hx with hx | ⟨rfl, hx, hx'⟩
      · exact h.frs b1 x hx
      · have := (h5 (x - o) (by omega)).2
        rw [show o + (x - o) = x by omega] at this
        exact .inr this
    frlt := fun b1 x hx => by
      rcases hx with hx | ⟨rfl, _⟩
      · exact h.frlt b1 x hx
      · exact h.loclt id _ _ hl
    loclt := h.loclt
    tmps := fun t => T.rep.mono hex _ _ (h.tmps t)
    vars := fun i zs hi => by
      by_cases he : i = id
      · subst he
        simp only [m', if_true, Option.some.injEq] at hi
        subst hi
        exact ⟨b, o, hl, ⟨[], trivial, fun j v hj => by simp at hj⟩, fun j hj => by simp at hj, fun j hj => by simp at hj⟩
      · simp only [m', he, if_false] at hi
        obtain ⟨b2, o2, k1, ⟨vs, k2, k3⟩, k4, k5⟩ := h.vars i zs hi
        have hap := h.apart i id zs ys b2 o2 b o he hi hv k1 hl
        refine ⟨b2, o2, k1, ⟨vs, k2.mono (fun x v => V.rep.mono hex x v), k3⟩, k4, fun j hj => ⟨fun hx => ?_, (k5 j hj).2⟩⟩
        rcases hx with hx | ⟨hb, hx, hx'⟩
        · exact (k5 j hj).1 hx
        · omega
    novar := fun i hi => by
      by_cases he : i = id
      · subst he; simp [m'] at hi
      · simp [m', he] at hi; exact h.novar i hi
    lentloc := h.lentloc
    apart := fun i j zs us b1 o1 b2 o2 hij hi hj hl1 hl2 => by
      have key : ∀ k zs', m'.var k = some zs' → ∃ zs, m.var k = some zs ∧ zs'.length ≤ zs.length := fun k zs' hk => by
        by_cases he : k = id
        · subst he
          simp only [m', if_true, Option.some.injEq] at hk
          subst hk
          exact ⟨ys, hv, by simp⟩
        · simp only [m', he, if_false] at hk; exact ⟨zs', hk, Nat.le_refl _⟩
      obtain ⟨zs1, hz1, e1⟩ := key i _ hi
      obtain ⟨zs2, hz2, e2⟩ := key j _ hj
      have := h.apart i j zs1 zs2 b1 o1 b2 o2 hij hz1 hz2 hl1 hl2
      omega
    toks := fun i k hi => by
      obtain ⟨k1, k2⟩ := h.toks i k hi
      refine ⟨k1, ?_⟩
      by_cases hc : (γ.tk i).cap = k
      · exact .inl hc
      · obtain ⟨b2, hbs, hge, harr, hfr⟩ := k2.resolve_left hc
        refine .inr ⟨b2, hbs, hge, harr, fun x hx hq => ?_⟩
        rcases hq with hq | ⟨hb, _⟩
        · exact hfr x hx hq
        · have := h.tvar i k id ys b o hi hv hl hc
          rw [hbs] at this
          exact this (by simp [hb])
    tapart := h.tapart
    tvar := fun i k j zs b1 o1 hi hj hl1 hc => by
      by_cases he : j = id
      · subst he; exact h.tvar i k j ys b1 o1 hi hv hl1 hc
      · simp only [m', he, if_false] at hj; exact h.tvar i k j zs b1 o1 hi hj hl1 hc }

theorem Rel.freeze {F : Fm} {a : Act} {w : World} : ∀ (rs : List Nat) {γ : Gh} {m : Mem}, Rel F γ m a w → (∀ id ∈ rs, (m.var id).isSome = true) →
    ∃ γ' : Gh, γ'.loc = γ.loc ∧ γ'.tk = γ.tk ∧ (∀ b o, γ.fr b o → γ'.fr b o) ∧ (∀ id ∈ rs, ∀ ys b o, m.var id = some ys → γ.loc id = some (b, o) → ∀ j, j < ys.length → γ'.fr b (o + j)) ∧
      Rel F γ' { m with var := fun i => if i ∈ rs then some [] else m.var i } a w ∧ Ex γ γ' m.tok m.tok w w
  | [], γ, m, h, _ => ⟨γ, rfl, rfl, fun _ _ h => h, by simp, by simpa using h, .refl _ _ _⟩
  | id :: rs, γ, m, h, hs => by
    obtain ⟨ys, hv⟩ := Option.isSome_iff_exists.1 (hs id (by simp))
    obtain ⟨b, o, hl, _⟩ := h.vars id ys hv
    obtain ⟨h1, hx1⟩ := h.freeze1 hv hl
    obtain ⟨γ', e1, e2, e3, e4, h2, hx2⟩ := Rel.freeze rs h1 (fun i hi => by
      simp only
      split
      · rfl
      · exact hs i (by simp [hi]))
    refine ⟨γ', e1, e2, fun b o hx => e3 b o (.inl hx), fun i hi zs b1 o1 hz hl1 j hj => ?_, ?_, hx1.trans hx2⟩
    · by_cases he : i = id
      · subst he
        rw [hv] at hz; cases hz
        rw [hl] at hl1; cases hl1
        exact e3 _ _ (.inr ⟨rfl, by omega, by omega⟩)
      · refine e4 i ?_ zs b1 o1 ?_ hl1 j hj
        · simpa [he] using hi
        · simp [he, hz]
    · have : (fun i => if i ∈ rs then some [] else if i = id then some [] else m.var i) = fun i => if i ∈ id :: rs then some [] else m.var i := by
        funext i
        by_cases h3 : i ∈ rs <;> by_cases h4 : i = id <;> simp [h3, h4]
      simp only [this] at h2
      exact h2

theorem caps_some {m : Mem} : ∀ {caps : List (C ⊕ (Nat × Nat))} {cs : List C}, caps.mapM (capOf m) = some cs → ∀ {c : C ⊕ (Nat × Nat)}, c ∈ caps → (capOf m c).isSome = true
  | [], _, _, c, hc => by simp at hc
  | d :: ds, cs, h, c, hc => by
    rw [List.mapM_cons] at h
    cases hd : capOf m d with
    | none => simp [hd] at h
    | some x =>
      cases hr : ds.mapM (capOf m) with
      | none => simp [hd, hr] at h
      | some r =>
        rcases List.mem_cons.1 hc with rfl | hc
        · rw [hd]; rfl
        · exact caps_some hr hc
theorem argsOf_rs {P : Program} {m : Mem} : ∀ {tys : List TypeId} {xs : List T} {k : Nat} {as : List A} {ls : List (Nat × Nat × List C)} {rs : List Nat}, argsOf P m tys xs k = some (as, ls, rs) → ∀ id ∈ rs, (m.var id).isSome = true
  | [], [], k, as, ls, rs, h => by simp only [argsOf, Option.some.injEq, Prod.mk.injEq] at h; obtain ⟨_, _, rfl⟩ := h; simp
  | t :: ts, x :: xs, k, as, ls, rs, h => by
    have hsn : ∀ {id off : Nat} {cs : List C}, snap m id off = some cs → (m.var id).isSome = true := fun {id off cs} hs => by
      unfold snap at hs
      split at hs
      · rename_i hv; rw [hv]; rfl
      · cases hs
    simp only [argsOf] at h
    split at h
    · split at h
      · rename_i cs as' ls' rs' hcs hrec
        simp only [Option.some.injEq, Prod.mk.injEq] at h
        obtain ⟨rfl, rfl, rfl⟩ := h
        exact argsOf_rs hrec
      · cases h
    · split at h
      · split at h
        · split at h
          · rename_i hrec
            simp only [Option.some.injEq, Prod.mk.injEq] at h
            obtain ⟨rfl, rfl, rfl⟩ := h
            exact argsOf_rs hrec
          · cases h
        · cases h
      · cases h
    · rename_i id off sz n
      split at h
      · rename_i cs hcs
        split at h
        · rename_i hrec
          simp only [Option.some.injEq, Prod.mk.injEq] at h
          obtain ⟨rfl, rfl, rfl⟩ := h
          intro i hi
          rcases List.mem_cons.1 hi with rfl | hi
          · exact hsn hcs
          · exact argsOf_rs hrec i hi
        · cases h
      · cases h
    · rename_i f caps
      split at h
      · rename_i cs as' ls' rs' hcs hrec
        simp only [Option.some.injEq, Prod.mk.injEq] at h
        obtain ⟨rfl, rfl, rfl⟩ := h
        intro i hi
        rcases List.mem_append.1 hi with hi | hi
        · obtain ⟨c, hc, hi⟩ := List.mem_flatMap.1 hi
          have hc2 := caps_some hcs hc
          cases c with
          | inl x => simp [capReads] at hi
          | inr p =>
            simp only [capReads, List.mem_singleton] at hi
            subst hi
            simp only [capOf, Option.isSome_map] at hc2
            obtain ⟨cs', hs'⟩ := Option.isSome_iff_exists.1 hc2
            exact hsn hs'
        · exact argsOf_rs hrec i hi
      · cases h
    · split at h
      · rename_i hrec
        simp only [Option.some.injEq, Prod.mk.injEq] at h
        obtain ⟨rfl, rfl, rfl⟩ := h
        exact argsOf_rs hrec
      · cases h
    · cases h
  | [], _ :: _, _, _, _, _, h => by simp [argsOf] at h
  | _ :: _, [], _, _, _, _, h => by simp [argsOf] at h

theorem lk_gone (rs : List Nat) (i : Nat) : lk (rs.map fun id => (id, ([] : List V))) i = if i ∈ rs then some [] else none := by
  induction rs with
  | nil => rfl
  | cons id rs ih =>
    simp only [List.map_cons, lk, ih]
    by_cases h : i ∈ rs
    · simp [h]
    · by_cases h2 : id = i
      · subst h2; simp [h]
      · simp [h, h2, Ne.symm h2]

theorem Mem.apply_gone (m : Mem) (d : Option Tmp) (nv : Nat) (rs : List Nat) (x : T) (ut : List (Nat × Nat)) (rv rt : List Nat) : m.apply d nv { dst := x, uv := rs.map fun id => (id, []), ut, rv, rt } =
    Mem.put { m with var := fun i => if i ∈ rs then some [] else m.var i, tok := addToks ut m.tok } d x := by
  have hv : (m.apply d nv { dst := x, uv := rs.map fun id => (id, []), ut, rv, rt }).var = fun i => if i ∈ rs then some [] else m.var i := by
    funext i
    simp only [Mem.apply, Option.isSome_none, Bool.false_eq_true, and_false, if_false, lk_gone]
    by_cases h : i ∈ rs <;> simp [h]
  cases d with
  | none =>
    simp only [Mem.put]
    rw [← hv]
    simp [Mem.apply]; rfl
  | some d =>
    simp only [Mem.put]
    rw [← hv]
    simp only [Mem.apply, Option.some.injEq]
    congr 1
    funext t
    by_cases h : d = t
    · simp [h]
    · simp [h, Ne.symm h]

theorem call_core {E : Env} (hE : EnvOk E) {F : Fm} {γ : Gh} {m : Mem} {a : Act} {w : World} (h : Rel F γ m a w) (hg : Globs E.gl γ.fr w) {d : Option Tmp} (hd : ∀ t, d = some t → t < F.n) {nv nt : Nat} {g : FuncId} {extra : List C} {ev : List Value}
    (hex : All2 (C.rep γ.fr w) extra ev) {tys : List TypeId} {xs : List T} {vs : List Value} (hx : All2 (T.rep γ m.tok w) xs vs) {e : Eff} (he : callT E m nt g extra tys xs = some e) (hnt : ∀ i n, (i, n) ∈ e.ut → m.tok i = none) :
    Enters E.P g ∧ Calls E.P g (vs ++ ev).toArray w fun
      | .returned v, w' => After E F (m.apply d nv e) (a.put d v) w'
      | _, _ => False := by
  unfold callT at he
  split at he
  · rename_i as ls rs hargs
    split at he
    · rename_i res ims hF
      obtain ⟨hent, hmeets⟩ := hE.call _ _ _ _ _ hF
      refine ⟨hent, ?_⟩
      simp only at he
      split at he
      · split at he
        · rename_i hcond
          cases he
          -- nothing is lent
          have main : ∀ (Fr : Nat → Nat → Prop), (∀ b o, γ.fr b o → Fr b o) → (∀ b o, Fr b o → b < w.heap.size) → (∀ id ∈ rs, ∀ ys b o, m.var id = some ys → γ.loc id = some (b, o) → ∀ j, j < ys.length → Fr b (o + j)) →
              ((∀ b o, Fr b o → γ.fr b o) ∨ res.all Res.bare = true) →
              Calls E.P g (vs ++ ev).toArray w fun
                | .returned v, w' => After E F (m.apply d nv { dst := resT (resK nt res).1, ut := (resK nt res).2, rv := rs }) (a.put d v) w'
                | _, _ => False := by
            intro Fr hFr hlt hsn hor
            have hev : Ev γ.fr Fr w w := ⟨hFr, fun _ _ _ _ h => h, fun _ _ _ _ h => h⟩
            obtain ⟨hA, _⟩ := args_sound (P := E.P) h hFr hargs hx hsn [] (fun j p hj => by simp at hj)
            have hA2 := hA.append (A.extra (all := []) (hex.mono (fun c v hc => C.rep.mono hev c v hc)))
            have hm := hmeets Fr w [] (vs ++ ev) hlt (hg.mono hev) trivial (fun i j cs ds p q _ hi => by simp at hi) hA2
            refine hm.mono fun e w' hpost => ?_
            obtain ⟨us, Fr', rfl, hbb, hf1, hf2, hres, hap, _, _⟩ := hpost
            have hbelow : Below w.heap.size w w' := (hbb.mono (fun b o hi => inLent_nil hi) : BelowBut (fun _ _ => False) w w').below
            -- the ghost behind the call
            have fin : ∀ (fr' : Nat → Nat → Prop), (∀ b o, γ.fr b o → fr' b o) → (∀ b o, fr' b o → γ.fr b o ∨ (w.heap.size ≤ b ∧ b < w'.heap.size)) → All2 (Res.rep fr' w.heap.size w') res us →
                After E F (m.apply d nv { dst := resT (resK nt res).1, ut := (resK nt res).2, rv := rs }) (a.put d (tupOf us)) w' := by
              intro fr' h1 h2 h3
              obtain ⟨g1, g2⟩ := h.grow hbelow h1 h2
              obtain ⟨γ', k1, k2, k3, k4⟩ := res_sound (n0 := w.heap.size) h.base.size g1 h3 hap hnt (fun id b o hl => h.loclt id b o hl) (fun j l hj hc r sz es u hr hu b hb => by
                obtain ⟨b', hb', hlt'⟩ := old_spare h hj hc
                have := spare_new h3 hr hu hb
                rw [hb']
                intro heq
                cases heq
                omega)
              refine ⟨γ', ?_, ?_⟩
              · rw [Mem.apply_toks]
                exact k2.put hd (resT_rep k4)
              · exact (hg.mono g2.ev).mono k3.ev
            rcases hor with hor | hor
            · exact fin Fr' (fun b o hx => hf1 b o (hFr b o hx)) (fun b o hx => (hf2 b o hx).imp (hor b o) id) hres
            · exact fin γ.fr (fun _ _ h => h) (fun _ _ h => .inl h) (bare_rep hor hres)
          by_cases hrs : rs = []
          · subst hrs
            exact main γ.fr (fun _ _ h => h) h.frlt (by simp) (.inl (fun _ _ h => h))
          · have hbare : res.all Res.bare = true := by
              cases rs with
              | nil => exact absurd rfl hrs
              | cons _ _ => simpa using hcond
            refine main (fun b x => γ.fr b x ∨ ∃ id ys o, m.var id = some ys ∧ γ.loc id = some (b, o) ∧ o ≤ x ∧ x < o + ys.length) (fun _ _ h => .inl h) (fun b x hx => ?_) (fun id _ ys b o hv hl j hj => .inr ⟨id, ys, o, hv, hl, by omega, by omega⟩) (.inr hbare)
            rcases hx with hx | ⟨id, ys, o, _, hl, _⟩
            · exact h.frlt b x hx
            · exact h.loclt id b o hl
        · cases he
          obtain ⟨γ1, e1, _, e3, e4, hr1, hx1⟩ := h.freeze rs (argsOf_rs hargs)
          have hev : Ev γ.fr γ1.fr w w := ⟨e3, fun _ _ _ _ h => h, fun _ _ _ _ h => h⟩
          obtain ⟨hA, _⟩ := args_sound (P := E.P) h e3 hargs hx e4 [] (fun j p hj => by simp at hj)
          have hA2 := hA.append (A.extra (all := []) (hex.mono (fun c v hc => C.rep.mono hev c v hc)))
          have hm := hmeets γ1.fr w [] (vs ++ ev) hr1.frlt (hg.mono hev) trivial (fun i j cs ds p q _ hi => by simp at hi) hA2
          refine hm.mono fun e w' hpost => ?_
          obtain ⟨us, Fr', rfl, hbb, hf1, hf2, hres, hap, _, _⟩ := hpost
          have hbelow : Below w.heap.size w w' := (hbb.mono (fun b o hi => inLent_nil hi) : BelowBut (fun _ _ => False) w w').below
          obtain ⟨g1, g2⟩ := hr1.grow hbelow hf1 hf2
          obtain ⟨γ', k1, k2, k3, k4⟩ := res_sound (n0 := w.heap.size) h.base.size g1 hres hap hnt (fun id b o hl => hr1.loclt id b o hl) (fun j l hj hc r sz es u hr hu b hb => by
            obtain ⟨b', hb', hlt'⟩ := old_spare hr1 hj hc
            have := spare_new hres hr hu hb
            rw [hb']
            intro heq
            cases heq
            omega)
          refine ⟨γ', ?_, ?_⟩
          · rw [Mem.apply_gone]
            exact k2.put hd (resT_rep k4)
          · exact ((hg.mono hev).mono g2.ev).mono k3.ev
      · rename_i id off cs ds
        split at he
        · rename_i ys hv
          split at he
          · rename_i hcond
            obtain ⟨hrs, hdl⟩ := hcond
            have hrs : rs = [] := by simpa using hrs
            subst hrs
            cases he
            obtain ⟨hA, hlok⟩ := args_sound (P := E.P) h (fun _ _ h => h) hargs hx (by simp) ([(id, off, cs)].map (locOf γ)) (fun j p hj => by simpa using hj)
            obtain ⟨ys', b, o, hv', hl, hin, hcs⟩ := hlok (id, off, cs) (by simp)
            have hv' : m.var id = some ys' := hv'
            have hl : γ.loc id = some (b, o) := hl
            have hin : off + cs.length ≤ ys'.length := hin
            have hcs : ((ys'.drop off).take cs.length).mapM V.toC = some cs := hcs
            rw [hv] at hv'; cases hv'
            have hloc : [(id, off, cs)].map (locOf γ) = [(b, o + off)] := by simp [locOf, hl]
            rw [hloc] at hA
            obtain ⟨b', o', k1, ⟨us0, k2, k3⟩, k4, k5⟩ := h.vars id ys hv
            rw [hl] at k1; cases k1
            have hcv := toCs_rep hcs ((k2.drop off).take cs.length)
            have hcl := hcv.length
            have hlent : lentAt γ.fr w cs (b, o + off) := by
              refine ⟨⟨_, hcv, rangeAt_take (rangeAt_drop k3 off) _⟩, fun j hj => ?_, fun j hj => ?_⟩
              · have := k4 (off + j) (by omega)
                rwa [show o + (off + j) = o + off + j by omega] at this
              · have := (k5 (off + j) (by omega)).1
                rwa [show o + (off + j) = o + off + j by omega] at this
            have hA2 := hA.append (A.extra (all := [(b, o + off)]) hex)
            have hm := hmeets γ.fr w [(b, o + off)] (vs ++ ev) h.frlt hg ⟨hlent, trivial⟩ (fun i j cs' ds' p q hij hi hj _ _ => by
              have := (List.getElem?_eq_some_iff.1 hi).1
              have := (List.getElem?_eq_some_iff.1 hj).1
              simp at *
              omega) hA2
            refine hm.mono fun e w' hpost => ?_
            obtain ⟨us, Fr', rfl, hbb, hf1, hf2, hres, hap, hback, _⟩ := hpost
            have hbb' : BelowBut (fun b' x => b' = b ∧ o + off ≤ x ∧ x < o + off + ds.length) w w' := hbb.mono (fun b' x hi => by
              obtain ⟨k, cs', p, h1, h2, h3, h4, h5⟩ := hi
              cases k with
              | zero =>
                simp at h1 h2
                subst h1; subst h2
                exact ⟨h3.symm, h4, by rw [hdl]; exact h5⟩
              | succ k => simp at h1)
            obtain ⟨g1, g2⟩ := h.lent hv hl (off := off) (n := ds.length) (by omega) hbb' hf1 hf2 hback.1 rfl
            obtain ⟨γ', q1, q2, q3, q4⟩ := res_sound (n0 := w.heap.size) h.base.size g1 hres hap hnt (fun id b o hl => h.loclt id b o hl) (fun j l hj hc r sz es u hr hu b hb => by
              obtain ⟨b', hb', hlt'⟩ := old_spare h hj hc
              have := spare_new hres hr hu hb
              rw [hb']
              intro heq
              cases heq
              omega)
            refine ⟨γ', ?_, ?_⟩
            · rw [Mem.apply_lent]
              exact q2.put hd (resT_rep q4)
            · exact (hg.mono g2.ev).mono q3.ev
          · cases he
        · cases he
      · cases he
    · cases he
  · cases he

theorem call_sound {E : Env} (hE : EnvOk E) {F : Fm} {γ : Gh} {m : Mem} {a : Act} {w : World} (h : Rel F γ m a w) (hg : Globs E.gl γ.fr w) {o : Oper} (hd : ∀ t, o.dst = some t → t < F.n) {nv nt : Nat} {f : Operand} {args : Array Operand} {argTypes : Array TypeId}
    (ho : o.op = .call { callee := .value f, args, argTypes }) {e : Eff} (he : evalOp E m nv nt o = some e) (hnt : ∀ i n, (i, n) ∈ e.ut → m.tok i = none) {Q : Exit → Act → World → Prop} : o.wp E.P a w (After E F (m.apply o.dst nv e)) Q := by
  have hf := ev_rep h hg f
  have hxs : All2 (T.rep γ m.tok w) (fitArgs E.P argTypes.toList (args.toList.map (E.ev m))) (args.toList.map a.eval) := fitArgs_rep (map_rep (fun x => ev_rep h hg x) args.toList)
  have key : ∀ (g : FuncId) (extra : List C) (ev : List Value), a.eval f = .func (.func g) #[] ev.toArray → All2 (C.rep γ.fr w) extra ev → callT E m nt g extra argTypes.toList (fitArgs E.P argTypes.toList (args.toList.map (E.ev m))) = some e → o.wp E.P a w (After E F (m.apply o.dst nv e)) Q := by
    intro g extra ev hfv hex hc
    obtain ⟨⟨fn, hfn, hbody, hname⟩, hcalls⟩ := call_core hE h hg hd (nv := nv) hex hxs hc hnt
    have hrun : (execOp a.eval o).run E.P w = .ok (.enter g (args.toList.map a.eval ++ ev).toArray) w := by
      have hb : fn.body.isNone = false := by
        cases hq : fn.body with
        | none => simp [hq] at hbody
        | some _ => rfl
      have harr : args.map a.eval ++ ev.toArray = (args.toList.map a.eval ++ ev).toArray := by
        apply Array.ext'
        simp
      simp only [execOp, ho, resolve, hfv, Deferred.ofValue, invoke, callFunc, Sem.run_bind, Sem.run_pure, Result.andThen_ok, run_program, hfn, hname, hb]
      simp only [Array.empty_append, Bool.false_eq_true, if_false, Sem.run_pure, harr]
    unfold Oper.wp
    rw [hrun]
    refine hcalls.mono fun e w' hp => ?_
    cases e with
    | returned v => exact hp
    | panicked _ => exact hp.elim
    | outgrown => exact hp.elim
  simp only [evalOp, ho] at he
  split at he
  · rename_i g hc
    rw [cell?_eq hc] at hf
    simp only [T.rep, K.rep, V.rep] at hf
    obtain ⟨ev, hfv, hev⟩ := hf
    cases ev with
    | nil => exact key g [] [] hfv trivial he
    | cons _ _ => exact hev.elim
  · rename_i g caps hc
    rw [cell?_eq hc] at hf
    simp only [T.rep, K.rep, V.rep, C.rep] at hf
    obtain ⟨ev, hfv, hev⟩ := hf
    exact key g caps ev hfv (listRep_iff.1 hev) he
  · cases he

theorem callT_rt {E : Env} {m : Mem} {nt : Nat} {g : FuncId} {extra : List C} {tys : List TypeId} {xs : List T} {e : Eff} (he : callT E m nt g extra tys xs = some e) : e.rt = [] := by
  unfold callT at he
  split at he
  · split at he
    · simp only at he
      split at he
      · split at he
        · cases he; rfl
        · cases he; rfl
      · split at he
        · split at he
          · cases he; rfl
          · cases he
        · cases he
      · cases he
    · cases he
  · cases he

theorem call_rt {E : Env} {m : Mem} {nv nt : Nat} {o : Oper} {f : Operand} {args : Array Operand} {argTypes : Array TypeId} (ho : o.op = .call { callee := .value f, args, argTypes }) {e : Eff} (he : evalOp E m nv nt o = some e) : e.rt = [] := by
  simp only [evalOp, ho] at he
  split at he
  · exact callT_rt he
  · exact callT_rt he
  · cases he

/-- **EVERY OPERATION.** -/
theorem op_sound {E : Env} (hE : EnvOk E) {F : Fm} {γ : Gh} {m : Mem} {a : Act} {w : World} (h : Rel F γ m a w) (hg : Globs E.gl γ.fr w) {o : Oper} (hd : ∀ t, o.dst = some t → t < F.n) {nv nt : Nat} {e : Eff}
    (he : evalOp E m nv nt o = some e) (hnv : e.nv.isSome = true → m.var nv = none) (hnt : ∀ i n, (i, n) ∈ e.ut → i ∉ e.rt → m.tok i = none) {Q : Exit → Act → World → Prop} : o.wp E.P a w (After E F (m.apply o.dst nv e)) Q := by
  have hev : ∀ x, (E.ev m x).rep γ m.tok w (a.eval x) := fun x => ev_rep h hg x
  cases ho : o.op with
  | load t x => exact load_sound h hg hd ho he
  | store t x y => exact store_sound h hg hd ho he
  | call c =>
    obtain ⟨callee, args, argTypes⟩ := c
    cases callee with
    | value f => exact call_sound hE h hg hd ho he (fun i n hi => hnt i n hi (by rw [call_rt ho he]; simp))
    | invoke r mth => simp [evalOp, ho] at he
    | builtin b =>
      cases b with
      | append =>
        have he' : appendT E.P m nt argTypes.toList (args.toList.map (E.ev m)) = some e := by simpa only [evalOp, ho] using he
        exact append_sound h hg hd ho he' hnt
      | len =>
        simp only [evalOp, ho] at he
        split at he
        · rename_i t ts x hty hargs
          simp only [Option.map_eq_some_iff] at he
          obtain ⟨r, hr, rfl⟩ := he
          obtain ⟨v, h1, h2⟩ := lenT_sound (ts := ts) (ty := o.type) hr (hev x)
          refine pure_sound h hg hd (v := v) ?_ h2
          have hte : argTypes = (t :: ts).toArray := by rw [← hty]
          have hae : args = #[x] := by rw [← Array.toArray_toList (xs := args), hargs]
          simp only [execOp, ho, resolve, invoke, builtin, Sem.run_bind, Sem.run_pure, Result.andThen_ok, hae, hte]
          simp only [List.map_toArray, List.map_cons, List.map_nil, h1, Result.andThen_ok]
        · cases he
      | min =>
        simp only [evalOp, ho] at he
        split at he
        · rename_i x xs hargs
          simp only [Option.map_eq_some_iff] at he
          obtain ⟨r, hr, rfl⟩ := he
          obtain ⟨v, h1, h2⟩ := minMax_sound (P := E.P) true hr (hev x) (map_rep (fun x => hev x) xs)
          refine pure_sound h hg hd (v := v) ?_ h2
          have hae : args = (x :: xs).toArray := by rw [← hargs]
          simp only [if_true] at h1
          simp only [execOp, ho, resolve, invoke, builtin, Sem.run_bind, Sem.run_pure, Result.andThen_ok, hae, Builtin.min_]
          simp only [List.map_toArray, List.map_cons, h1, Result.andThen_ok]
        · cases he
      | max =>
        simp only [evalOp, ho] at he
        split at he
        · rename_i x xs hargs
          simp only [Option.map_eq_some_iff] at he
          obtain ⟨r, hr, rfl⟩ := he
          obtain ⟨v, h1, h2⟩ := minMax_sound (P := E.P) false hr (hev x) (map_rep (fun x => hev x) xs)
          refine pure_sound h hg hd (v := v) ?_ h2
          have hae : args = (x :: xs).toArray := by rw [← hargs]
          simp only [Bool.false_eq_true, if_false] at h1
          simp only [execOp, ho, resolve, invoke, builtin, Sem.run_bind, Sem.run_pure, Result.andThen_ok, hae, Builtin.max_]
          simp only [List.map_toArray, List.map_cons, h1, Result.andThen_ok]
        · cases he
      | _ => simp [evalOp, ho] at he
  | move x =>
    simp only [evalOp, ho, Option.some.injEq] at he
    subst he
    refine pure_sound h hg hd (by simp [execOp, ho]) (v := a.eval x) ?_
    cases x with
    | const v => exact fitT_rep (hev _)
    | _ => exact hev _
  | assign x =>
    simp only [evalOp, ho, Option.some.injEq] at he
    subst he
    refine pure_sound h hg hd (by simp [execOp, ho]) (v := a.eval x) ?_
    cases x with
    | const v => exact fitT_rep (hev _)
    | _ => exact hev _
  | pick c x y =>
    simp only [evalOp, ho] at he
    split at he
    · rename_i q hq
      cases he
      have hc := hev c
      rw [bool?_eq hq, pure_rep] at hc
      refine pure_sound h hg hd (v := if q then a.eval x else a.eval y) (by simp [execOp, ho, hc.1, asBool]) ?_
      cases q
      · exact hev y
      · exact hev x
    · cases he
  | alloc t =>
    simp only [evalOp, ho] at he
    split at he
    · rename_i cs hz
      cases he
      obtain ⟨z, hzr, hzrep, _⟩ := zeroOf_sound (γ := γ) (tok := m.tok) (w := w) hz
      refine newVar_sound h hg hd (hnv rfl) hzrep (t := t) ?_
      simp [execOp, ho, Instr.alloc, hzr, newVar, newRow]
    · cases he
  | box t x =>
    simp only [evalOp, ho] at he
    split at he
    · rename_i k hk
      cases he
      have hx := hev x
      rw [k?_eq hk] at hx
      refine newVar_sound h hg hd (hnv rfl) (K.cells_rep hx) (t := t) ?_
      simp [execOp, ho, Instr.box, newVar, newRow]
    · cases he
  | build t parts =>
    simp only [evalOp, ho, Option.map_eq_some_iff] at he
    obtain ⟨r, hr, rfl⟩ := he
    obtain ⟨v, h1, h2⟩ := buildT_sound hr (parts_rep (f := E.ev m) (g := a.eval) hev parts.toList)
    refine pure_sound h hg hd (v := v) ?_ h2
    have hp : (parts.map fun (i, x) => (i, a.eval x)) = (parts.toList.map fun (i, x) => (i, a.eval x)).toArray := by apply Array.ext'; simp
    simp only [execOp, ho, hp, Sem.run_bind, h1, Result.andThen_ok, Sem.run_pure]
  | buildSlice t len parts =>
    simp only [evalOp, ho, Option.map_eq_some_iff] at he
    obtain ⟨r, hr, rfl⟩ := he
    exact sliceLit_sound h hg hd ho hr
  | nilCheck x =>
    have hx := hev x
    simp only [evalOp, ho] at he
    split at he
    · rename_i hc
      cases he
      refine pure_sound h hg hd (v := a.eval x) ?_ hx
      rw [cell?_eq hc] at hx
      simp only [T.rep, K.rep, V.rep] at hx
      obtain ⟨_, _, _, hv⟩ := hx
      simp [execOp, ho, hv]
    · rename_i hc
      cases he
      refine pure_sound h hg hd (v := a.eval x) ?_ hx
      rw [cell?_eq hc] at hx
      simp only [T.rep, K.rep, V.rep, C.rep] at hx
      obtain ⟨_, _, hv, _⟩ := hx
      simp [execOp, ho, hv]
    · rename_i hc
      cases he
      refine pure_sound h hg hd (v := a.eval x) ?_ hx
      rw [cell?_eq hc] at hx
      simp only [T.rep, K.rep, V.rep] at hx
      obtain ⟨_, hv, _⟩ := hx
      simp [execOp, ho, hv]
    · rename_i hc
      cases he
      refine pure_sound h hg hd (v := a.eval x) ?_ hx
      rw [cell?_eq hc] at hx
      simp only [T.rep, K.rep, V.rep, C.rep] at hx
      obtain ⟨_, hv, _⟩ := hx
      simp [execOp, ho, hv]
    · cases he
  | binOp op t x y yt =>
    simp only [evalOp, ho, Option.map_eq_some_iff] at he
    obtain ⟨r, hr, rfl⟩ := he
    obtain ⟨v, h1, h2⟩ := binT_sound (ox := x) (oy := y) hr (hev x) (hev y)
    refine pure_sound h hg hd (v := v) ?_ h2
    simp only [execOp, ho]
    rw [Sem.run_bind, h1]
    rfl
  | unOp op t x =>
    simp only [evalOp, ho, Option.map_eq_some_iff] at he
    obtain ⟨r, hr, rfl⟩ := he
    obtain ⟨v, h1, h2⟩ := unT_sound (P := E.P) hr (hev x)
    exact pure_sound h hg hd (v := v) (by simp [execOp, ho, h1]) h2
  | convert src dst x =>
    simp only [evalOp, ho, Option.map_eq_some_iff] at he
    obtain ⟨r, hr, rfl⟩ := he
    obtain ⟨v, h1, h2⟩ := convT_sound (P := E.P) hr (hev x)
    exact pure_sound h hg hd (v := v) (by simp [execOp, ho, h1]) h2
  | makeFunc fn first caps =>
    cases fn with
    | func f =>
      simp only [evalOp, ho] at he
      split at he
      · rename_i hf
        simp only [Option.map_eq_some_iff] at he
        obtain ⟨cs, hcs, rfl⟩ := he
        have hfe : first = #[] := by simpa using hf
        have hc : All2 (capRep γ w) cs (caps.toList.map a.eval) := mapM_rep (fun x b _ hb => captured_sound hb (hev x)) hcs
        refine pure_sound h hg hd (v := .func (.func f) #[] (caps.map a.eval)) (by simp [execOp, ho, Instr.makeFunc, hfe]) ?_
        simp only [T.rep, K.rep, V.rep]
        exact ⟨caps.toList.map a.eval, by congr 1; apply Array.ext'; simp, hc⟩
      · cases he
    | _ => simp [evalOp, ho] at he
  | slice t x lo hi mx =>
    simp only [evalOp, ho, Option.map_eq_some_iff] at he
    obtain ⟨r, hr, rfl⟩ := he
    obtain ⟨v, h1, h2⟩ := sliceT_sound (P := E.P) hr (hev x) (optMap_rep hev lo) (optMap_rep hev hi) (optMap_rep hev mx)
    exact pure_sound h hg hd (v := v) (by simp [execOp, ho, h1]) h2
  | fieldAddr s x i =>
    simp only [evalOp, ho, Option.map_eq_some_iff] at he
    obtain ⟨r, hr, rfl⟩ := he
    obtain ⟨v, h1, h2⟩ := fieldAddrT_sound (P := E.P) hr (hev x)
    exact pure_sound h hg hd (v := v) (by simp [execOp, ho, h1]) h2
  | field s x i =>
    simp only [evalOp, ho, Option.map_eq_some_iff] at he
    obtain ⟨r, hr, rfl⟩ := he
    obtain ⟨v, h1, h2⟩ := fieldT_sound (P := E.P) hr (hev x)
    exact pure_sound h hg hd (v := v) (by simp [execOp, ho, h1]) h2
  | indexAddr t x i =>
    simp only [evalOp, ho, Option.map_eq_some_iff] at he
    obtain ⟨r, hr, rfl⟩ := he
    obtain ⟨v, h1, h2⟩ := indexAddrT_sound (P := E.P) hr (hev x) (hev i)
    exact pure_sound h hg hd (v := v) (by simp [execOp, ho, h1]) h2
  | index t x i =>
    simp only [evalOp, ho, Option.map_eq_some_iff] at he
    obtain ⟨r, hr, rfl⟩ := he
    obtain ⟨v, h1, h2⟩ := indexT_sound (P := E.P) hr (hev x) (hev i)
    exact pure_sound h hg hd (v := v) (by simp [execOp, ho, h1]) h2
  | lookup t x i ok =>
    simp only [evalOp, ho, Option.map_eq_some_iff] at he
    obtain ⟨r, hr, rfl⟩ := he
    obtain ⟨v, h1, h2⟩ := lookupT_sound (P := E.P) hr (hev x) (hev i)
    exact pure_sound h hg hd (v := v) (by simp [execOp, ho, h1]) h2
  | extract x i =>
    have hx := hev x
    simp only [evalOp, ho] at he
    split at he
    · rename_i ks hk
      rw [hk] at hx
      simp only [Option.map_eq_some_iff] at he
      obtain ⟨k, hki, rfl⟩ := he
      simp only [T.rep] at hx
      obtain ⟨vs, hv, hks⟩ := hx
      obtain ⟨v, hvi, hr⟩ := hks.get i k hki
      exact pure_sound h hg hd (v := v) (by simp [execOp, ho, hv, Instr.extract, hvi]) (by simpa only [T.rep] using hr)
    · cases he
  | _ => simp [evalOp, ho] at he
end Go.Dm
