/-
  The data machine, part U: a function.
-/
import Derived.Test.YthadbladkbfcmaaDmT
import Derived.Laws.Sem
namespace Go.Dm
open Go.RowKit

def resOne (tmps : Array Value) : ResultVar → Sem Value
  | .tmp t => pure (tmps.getD t undef)
  | .cell a t => do loadVar t (← asAddr (tmps.getD a undef))

theorem run_resVars {P : Program} {tmps : Array Value} {w : World} {f : ResultVar → Sem Value} : ∀ {rs : List ResultVar} {us : List Value}, All2 (fun r u => (f r).run P w = .ok u w) rs us → (rs.mapM f).run P w = .ok us w
  | [], [], _ => by simp
  | r :: rs, u :: us, h => by
    rw [List.mapM_cons]
    simp only [Sem.run_bind, h.1, Result.andThen_ok, run_resVars (tmps := tmps) h.2, Sem.run_pure]
  | [], _ :: _, h => h.elim
  | _ :: _, [], h => h.elim

theorem run_results {P : Program} {fn : Func} {tmps : Array Value} {w : World} {us : List Value}
    (h : All2 (fun r u => (resOne tmps r).run P w = .ok u w) fn.results.toList us) :
    (results fn tmps).run P w = .ok (tupOf us) w := by
  have e : results fn tmps = (do let vs ← fn.results.mapM (resOne tmps); pure (if h : vs.size = 1 then vs[0] else .tuple vs)) := by
    unfold results
    congr 1
  rw [e, Array.mapM_eq_mapM_toList]
  have := run_resVars (tmps := tmps) h
  simp only [map_eq_pure_bind, Sem.run_bind, this, Result.andThen_ok, Sem.run_pure]
  match us with
  | [] => rfl
  | [u] => rfl
  | u :: v :: r => simp [tupOf]

theorem resVar_sound {E : Env} {F : Fm} {s : St} {γ : Gh} {a : Act} {w : World} (h : Rel F γ s.mem a w) : ∀ {rs : List ResultVar} {ks : List K}, rs.mapM (resVar E.P s) = some ks →
    ∃ us : List Value, All2 (K.rep γ s.mem.tok w) ks us ∧ All2 (fun r u => (resOne a.tmps r).run E.P w = .ok u w) rs us
  | [], ks, hk => by simp at hk; subst hk; exact ⟨[], trivial, trivial⟩
  | r :: rs, ks, hk => by
    rw [List.mapM_cons] at hk
    simp only [Option.pure_def, Option.bind_eq_bind, Option.bind_eq_some_iff, Option.some.injEq] at hk
    obtain ⟨k, hk1, ks', hk2, rfl⟩ := hk
    obtain ⟨us, h1, h2⟩ := resVar_sound h hk2
    suffices hs : ∃ u, K.rep γ s.mem.tok w k u ∧ (resOne a.tmps r).run E.P w = .ok u w by
      obtain ⟨u, hu, hr⟩ := hs
      exact ⟨u :: us, ⟨hu, h1⟩, ⟨hr, h2⟩⟩
    cases r with
    | tmp t =>
      simp only [resVar] at hk1
      split at hk1
      · rename_i x hx
        cases hk1
        have := h.tmps t
        rw [show s.mem.tmp t = s.tmps.getD t .skip from rfl, hx] at this
        exact ⟨_, this, by simp only [resOne, Sem.run_pure]⟩
      · cases hk1
    | cell b t =>
      simp only [resVar] at hk1
      split at hk1
      · rename_i id off hx
        split at hk1
        · rename_i xs hxs
          have hp := h.tmps b
          rw [show s.mem.tmp b = s.tmps.getD b .skip from rfl, hx] at hp
          simp only [T.rep, K.rep, V.rep] at hp
          obtain ⟨b', o, hl, hp⟩ := hp
          obtain ⟨b'', o'', h1', ⟨vs, h2', h3'⟩, _⟩ := h.vars id xs hxs
          rw [hl] at h1'; cases h1'
          obtain ⟨v, hrun, hrep⟩ := run_readAt hk1 (h2'.drop off) (rangeAt_drop h3' off)
          refine ⟨v, hrep, ?_⟩
          simp only [resOne, hp, asAddr, Sem.run_bind, Sem.run_pure, Result.andThen_ok]
          simpa [Instr.loadAt, Instr.sureAddr, asAddr] using hrun
        · cases hk1
      · cases hk1

theorem resOf_sound {F : Fm} {s : St} {γ : Gh} {a : Act} {w : World} (h : Rel F γ s.mem a w) : ∀ {ks : List K} {us : List Value} {rs : List Res}, ks.mapM (resOf s) = some rs → All2 (K.rep γ s.mem.tok w) ks us → All2 (Res.rep γ.fr F.w0.heap.size w) rs us
  | [], us, rs, hr, hu => by
    simp at hr; subst hr
    cases us with
    | nil => trivial
    | cons _ _ => exact hu.elim
  | k :: ks, [], rs, hr, hu => hu.elim
  | k :: ks, u :: us, rs, hr, hu => by
    rw [List.mapM_cons] at hr
    simp only [Option.pure_def, Option.bind_eq_bind, Option.bind_eq_some_iff, Option.some.injEq] at hr
    obtain ⟨r, hr1, rs', hr2, rfl⟩ := hr
    refine ⟨?_, resOf_sound h hr2 hu.2⟩
    have hk := hu.1
    unfold resOf at hr1
    split at hr1
    · rename_i es0
      cases hr1
      simp only [K.rep, V.rep, tkRep] at hk
      obtain ⟨h1, b, n, rfl⟩ := hk
      have hn : n = es0.length := by simp only [C.rep] at h1; obtain ⟨_, _, _, heq, h2, _⟩ := h1; simp at heq; exact heq.2.1.trans h2
      rw [hn] at h1 ⊢
      exact ⟨h1, b, _, rfl, Nat.le_refl _, .inl rfl⟩
    · rename_i sz es i
      simp only [K.rep, V.rep, tkRep] at hk
      obtain ⟨h1, n, h2, h3, h4⟩ := hk
      split at hr1
      · rename_i ht
        cases hr1
        have hn : n = es.length := by
          have : s.mem.tok i = some es.length := ht
          rw [this] at h2; cases h2; rfl
        subst hn
        obtain ⟨h5, h6⟩ := h4 rfl
        obtain ⟨k1, k2⟩ := h.toks i _ h2
        refine ⟨h1, _, _, h5, k1, ?_⟩
        rcases k2 with k2 | ⟨b, k2, k3, k4, k5⟩
        · exact .inl k2
        · rw [h6] at k4 k5
          exact .inr ⟨b, k2, k3, k4, k5⟩
      · cases hr1; exact h1
    · rename_i x _ _
      simp only [Option.map_eq_some_iff] at hr1
      obtain ⟨c, hc, rfl⟩ := hr1
      exact toC_rep hc hk
    · simp only [Option.map_eq_some_iff] at hr1
      obtain ⟨cs, hc, rfl⟩ := hr1
      simp only [K.rep] at hk
      obtain ⟨vs, rfl, hvs⟩ := hk
      exact ⟨vs, rfl, toCs_rep hc hvs⟩

theorem spare_tok {F : Fm} {s : St} {γ : Gh} {a : Act} {w : World} (_h : Rel F γ s.mem a w) {k : K} {u : Value} {sz : Nat} {es : List (List C)} (hr : resOf s k = some (.top sz es)) (hk : K.rep γ s.mem.tok w k u) {b : Nat} (hb : spareBlock u = some b) :
    ∃ i, k = .v (.own sz es (.tok i)) ∧ s.mem.tok i = some es.length ∧ (γ.tk i).cap ≠ es.length ∧ (γ.tk i).base.map (·.block) = some b := by
  unfold resOf at hr
  split at hr
  · simp only [K.rep, V.rep, tkRep] at hk
    obtain ⟨h1, b', n, rfl⟩ := hk
    cases b' <;> simp [spareBlock] at hb
  · rename_i sz' es' i
    split at hr
    · rename_i ht
      cases hr
      simp only [K.rep, V.rep, tkRep] at hk
      obtain ⟨h1, n, h2, h3, h4⟩ := hk
      have ht' : s.mem.tok i = some es.length := ht
      have hn : n = es.length := by rw [ht'] at h2; cases h2; rfl
      subst hn
      obtain ⟨h5, h6⟩ := h4 rfl
      refine ⟨i, rfl, ht', ?_, ?_⟩
      · intro hc
        rw [h5, hc] at hb
        cases hbs : (γ.tk i).base <;> simp [spareBlock, hbs] at hb
      · rw [h5] at hb
        cases hbs : (γ.tk i).base with
        | none => simp [spareBlock, hbs] at hb
        | some ad =>
          simp only [spareBlock, hbs] at hb
          split at hb
          · cases hb
          · simpa using hb
    · cases hr
  · simp only [Option.map_eq_some_iff] at hr
    obtain ⟨_, _, hx⟩ := hr; cases hx
  · simp only [Option.map_eq_some_iff] at hr
    obtain ⟨_, _, hx⟩ := hr; cases hx

theorem mapM_get {α β : Type} {f : α → Option β} : ∀ {xs : List α} {ys : List β}, xs.mapM f = some ys → ∀ (i : Nat) (y : β), ys[i]? = some y → ∃ x, xs[i]? = some x ∧ f x = some y
  | [], ys, h, i, y, hy => by simp at h; subst h; simp at hy
  | x :: xs, ys, h, i, y, hy => by
    rw [List.mapM_cons] at h
    simp only [Option.pure_def, Option.bind_eq_bind, Option.bind_eq_some_iff, Option.some.injEq] at h
    obtain ⟨z, hz, zs, hzs, rfl⟩ := h
    cases i with
    | zero => simp at hy; subst hy; exact ⟨x, rfl, hz⟩
    | succ i => simp at hy ⊢; exact mapM_get hzs i y hy

theorem mem_tokIds {ks : List K} {i : Nat} {sz : Nat} {es : List (List C)} {j : Nat} (h : ks[j]? = some (.v (.own sz es (.tok i)))) : i ∈ tokIds ks := by
  induction ks generalizing j with
  | nil => simp at h
  | cons k ks ih =>
    cases j with
    | zero => simp at h; subst h; simp [tokIds]
    | succ j =>
      simp at h
      have := ih h
      unfold tokIds
      split
      · rename_i heq; cases heq
      · rename_i heq; cases heq; exact List.mem_cons_of_mem _ this
      · rename_i heq; cases heq; exact this

theorem disjoint_tail {k : K} {ks : List K} (h : disjointIds (tokIds (k :: ks)) = true) : disjointIds (tokIds ks) = true := by
  unfold tokIds at h
  split at h
  · rename_i heq; cases heq
  · rename_i heq; cases heq; simp only [disjointIds, Bool.and_eq_true] at h; exact h.2
  · rename_i heq; cases heq; exact h

theorem tops_sound {F : Fm} {s : St} {γ : Gh} {a : Act} {w : World} (h : Rel F γ s.mem a w) : ∀ {ks : List K} {us : List Value} {rs : List Res}, ks.mapM (resOf s) = some rs → All2 (K.rep γ s.mem.tok w) ks us → disjointIds (tokIds ks) = true → topsApart rs us
  | [], us, rs, hr, hu, _ => by simp at hr; subst hr; simp [topsApart]
  | k :: ks, [], rs, hr, hu, _ => hu.elim
  | k :: ks, u :: us, rs, hr, hu, hd => by
    rw [List.mapM_cons] at hr
    simp only [Option.pure_def, Option.bind_eq_bind, Option.bind_eq_some_iff, Option.some.injEq] at hr
    obtain ⟨r, hr1, rs', hr2, rfl⟩ := hr
    have ih := tops_sound h hr2 hu.2 (disjoint_tail hd)
    cases r with
    | c _ => exact ih
    | agg _ => exact ih
    | top sz es =>
      refine ⟨fun j sz' es' u' hj hu' b hb hb' => ?_, ih⟩
      obtain ⟨i, rfl, h1, h2, h3⟩ := spare_tok h hr1 hu.1 hb
      obtain ⟨k', hk', hk2⟩ := mapM_get hr2 j _ hj
      obtain ⟨u'', hu1, hu2⟩ := hu.2.get j k' hk'
      rw [hu'] at hu1; cases hu1
      obtain ⟨i', rfl, g1, g2, g3⟩ := spare_tok h hk2 hu2 hb'
      have hmem := mem_tokIds hk'
      simp only [tokIds, disjointIds, Bool.and_eq_true, Bool.not_eq_true', List.contains_eq_mem, decide_eq_false_iff_not] at hd
      have hne : i ≠ i' := fun he => hd.1 (by rw [he]; exact hmem)
      exact h.tapart i i' _ _ hne h1 g1 h2 g2 (h3.trans g3.symm)

theorem lentOut_sound {F : Fm} {s : St} {γ : Gh} {a : Act} {w : World} (h : Rel F γ s.mem a w) : ∀ {n k : Nat} {r : List (List C)} {ps : List (Nat × Nat)}, lentOut s n k = some r → ps.length = n → (∀ (j : Nat) p, ps[j]? = some p → F.locs[k + j]? = some p) → All2 (lentAt γ.fr w) r ps
  | 0, k, r, ps, hr, hn, _ => by
    simp only [lentOut, Option.some.injEq] at hr
    subst hr
    cases ps with
    | nil => trivial
    | cons _ _ => simp at hn
  | n + 1, k, r, [], hr, hn, _ => by simp at hn
  | n + 1, k, r, p :: ps, hr, hn, hp => by
    simp only [lentOut] at hr
    split at hr
    · rename_i xs r' hxs hr'
      split at hr
      · rename_i cs hcs
        cases hr
        refine ⟨?_, lentOut_sound h hr' (by simpa using hn) (fun j q hq => by
          have := hp (j + 1) q (by simpa using hq)
          rwa [show k + (j + 1) = k + 1 + j by omega] at this)⟩
        have hl := h.lentloc k p (hp 0 p rfl)
        obtain ⟨b, o, h1, ⟨vs, h2, h3⟩, h4, h5⟩ := h.vars k xs hxs
        rw [hl] at h1; cases h1
        have hlen : cs.length = xs.length := mapM_length hcs
        refine ⟨⟨vs, toCs_rep hcs h2, h3⟩, ?_, fun j hj => (h5 j (by omega)).1⟩
        intro j hj
        exact h4 j (by omega)
      · cases hr
    · cases hr

theorem start_rel {E : Env} {fn : Func} {xs : List A} {ims : List (List C)} {Fr : Nat → Nat → Prop} {w : World} {locs : List (Nat × Nat)} {vs : List Value} (hFr : ∀ b o, Fr b o → b < w.heap.size) (hg : Globs E.gl Fr w) (hl : All2 (lentAt Fr w) ims locs) (ha : lentApart ims locs)
    (hx : All2 (A.rep Fr w locs) xs vs) (hne : ims.all (fun cs => !cs.isEmpty) = true) :
    RelS E ⟨Fr, inLent ims locs, w, xs.length + (fn.ntmps - xs.length), locs⟩ (start fn xs ims) { tmps := vs.toArray ++ Array.replicate (fn.ntmps - vs.toArray.size) undef, defers := [] } w := by
  have hlen := hx.length
  have hll := hl.length
  have hloc : ∀ (k : Nat) p, locs[k]? = some p → ∃ cs, ims[k]? = some cs ∧ lentAt Fr w cs p ∧ cs ≠ [] := fun k p hk => by
    have hlt : k < ims.length := by rw [hll]; exact (List.getElem?_eq_some_iff.1 hk).1
    obtain ⟨q, hq, hr⟩ := hl.get k ims[k] (List.getElem?_eq_getElem hlt)
    rw [hk] at hq; cases hq
    refine ⟨_, List.getElem?_eq_getElem hlt, hr, fun he => ?_⟩
    have := List.all_eq_true.1 hne _ (List.getElem_mem hlt)
    rw [he] at this
    simp at this
  refine ⟨by simp [start], { fr := Fr, loc := fun k => locs[k]?, tk := default }, ?_, hg⟩
  have hvar : ∀ (id : Nat) (ys : List V), (start fn xs ims).mem.var id = some ys → ∃ cs, ims[id]? = some cs ∧ ys = cs.map .c := fun id ys hv => by
    simp only [St.mem, start, List.getElem?_map, Option.map_eq_some_iff] at hv
    obtain ⟨cs, h1, h2⟩ := hv
    exact ⟨cs, h1, h2.symm⟩
  have htok : ∀ (i n : Nat), (start fn xs ims).mem.tok i = some n → False := fun i n hi => by
    simp [St.mem, start] at hi
  exact {
    defers := rfl
    size := by simp [hlen]
    base := .refl _ _
    fr0 := fun _ _ h => h
    frs := fun _ _ h => .inl h
    frlt := hFr
    loclt := fun id b o h => by
      obtain ⟨cs, h1, ⟨_, h3, _⟩, h4⟩ := hloc id _ h
      have hpos : 0 < cs.length := by cases cs with | nil => exact absurd rfl h4 | cons _ _ => simp
      obtain ⟨u, hu⟩ := Option.isSome_iff_exists.1 (h3 0 hpos).1
      exact World.block_lt_of_cell? w _ hu
    tmps := fun t => by
      simp only [St.mem, start]
      by_cases ht : t < xs.length
      · have hv : t < vs.length := by omega
        obtain ⟨v, hv1, hv2⟩ := hx.get t xs[t] (List.getElem?_eq_getElem ht)
        have e1 : (xs.map A.toT ++ List.replicate (fn.ntmps - xs.length) T.skip).getD t .skip = xs[t].toT := by
          rw [List.getD_eq_getElem?_getD, List.getElem?_append_left (by simpa using ht)]
          simp [List.getElem?_eq_getElem ht]
        have e2 : (vs.toArray ++ Array.replicate (fn.ntmps - vs.toArray.size) undef).getD t undef = v := by
          rw [Array.getD_eq_getD_getElem?, Array.getElem?_append_left (by simpa using hv)]
          simp [hv1]
        rw [e1, e2]
        cases hxt : xs[t] with
        | c x => rw [hxt] at hv2; exact hv2
        | agg ys =>
          rw [hxt] at hv2
          obtain ⟨us, h1, h2⟩ := hv2
          exact ⟨us, h1, V.cells_rep h2⟩
        | imp k =>
          rw [hxt] at hv2
          obtain ⟨b, o, h1, h2⟩ := hv2
          exact ⟨b, o, h1, by rw [h2]; rfl⟩
        | nil =>
          rw [hxt] at hv2
          obtain ⟨a, rfl⟩ := hv2
          simp only [A.toT, T.rep, K.rep, V.rep, C.rep, tkRep]
          exact ⟨⟨a, 0, 0, rfl, rfl, Nat.le_refl _, .inl ⟨rfl, rfl⟩⟩, a, 0, rfl⟩
      · have e1 : (xs.map A.toT ++ List.replicate (fn.ntmps - xs.length) T.skip).getD t .skip = .skip := by
          rw [List.getD_eq_getElem?_getD, List.getElem?_append_right (by simpa using ht)]
          rw [List.getElem?_replicate]
          split <;> rfl
        have e2 : (vs.toArray ++ Array.replicate (fn.ntmps - vs.toArray.size) undef).getD t undef = undef := by
          rw [Array.getD_eq_getD_getElem?, Array.getElem?_append_right (by simp; omega)]
          rw [Array.getElem?_replicate]
          split <;> rfl
        rw [e1, e2]
        rfl
    vars := fun id ys hv => by
      obtain ⟨cs, h1, rfl⟩ := hvar id ys hv
      obtain ⟨p, hp, ⟨us, h2, h3⟩, h4, h5⟩ := hl.get id cs h1
      refine ⟨p.1, p.2, hp, ⟨us, V.cells_rep h2, h3⟩, by simpa using h4, fun j hj => ?_⟩
      have hj' : j < cs.length := by simpa using hj
      exact ⟨h5 j hj', .inl ⟨id, cs, p, h1, hp, rfl, by simp, by simp; omega⟩⟩
    novar := fun id hv => by
      simp only [St.mem, start, List.getElem?_map, Option.map_eq_none_iff, List.getElem?_eq_none_iff] at hv ⊢
      omega
    lentloc := fun k p h => h
    apart := fun id id' ys zs b o b' o' hne h1 h2 h3 h4 => by
      obtain ⟨cs, k1, rfl⟩ := hvar id ys h1
      obtain ⟨ds, k2, rfl⟩ := hvar id' zs h2
      simpa using ha id id' cs ds _ _ hne k1 k2 h3 h4
    toks := fun i n hi => (htok i n hi).elim
    tapart := fun i _ n _ _ hi => (htok i n hi).elim
    tvar := fun i n _ _ _ _ hi => (htok i n hi).elim }

/-- **A FUNCTION MEETS WHAT ITS DATA SAY.** -/
theorem fn_sound {E : Env} (hE : EnvOk E) {H : Nat → LoopHint} {n : Nat} {f : FuncId} {fn : Func} (hf : E.P.funcs[f]? = some fn) {xs : List A} {ims : List (List C)} {rs : List Res} {ims' : List (List C)} (h : evalFn E H n fn xs ims = some (rs, ims')) : Meets E.P E.gl f xs ims rs ims' := by
  intro Fr w locs vs hFr hg hl ha hx
  unfold evalFn at h
  split at h
  · cases h
  · rename_i c hc
    split at h
    · rename_i e s hev
      split at h
      · rename_i he
        obtain ⟨he, hne⟩ := he
        split at h
        · rename_i rs0 r0 hres hout
          split at h
          · rename_i hlens
            cases h
            have hr0 := start_rel (E := E) (fn := fn) hFr hg hl ha hx hne
            refine calls_of_wp hf hc (code_sound hE c _ e s _ _ w hev ?_ hr0 (fun a' w' hr => ?_))
            · simp only [start, List.length_map]; rw [hl.length]; exact Nat.le_refl _
            · suffices hs : a'.defers = [] ∧ ∃ v, (results fn a'.tmps).run E.P w' = .ok v w' ∧ (fun (e : Ending) (w' : World) => ∃ (us : List Value) (Fr' : Nat → Nat → Prop), e = .returned (tupOf us) ∧ BelowBut (inLent ims locs) w w' ∧ (∀ b o, Fr b o → Fr' b o) ∧
                  (∀ b o, Fr' b o → Fr b o ∨ (w.heap.size ≤ b ∧ b < w'.heap.size)) ∧ All2 (Res.rep Fr' w.heap.size w') rs us ∧ topsApart rs us ∧ All2 (lentAt Fr' w') ims' locs ∧ ims'.map List.length = ims.map List.length) (.returned v) w' by
                rcases he with rfl | rfl <;> exact hs
              obtain ⟨_, γ, hrel, hgl⟩ := hr
              unfold results? at hres
              split at hres
              · rename_i ks hks
                split at hres
                · rename_i hdis
                  obtain ⟨us, hus, hrun⟩ := resVar_sound hrel hks
                  have hlo := lentOut_sound hrel hout hl.length.symm (fun j p hp => by simpa using hp)
                  refine ⟨hrel.defers, tupOf us, run_results hrun, us, γ.fr, rfl, hrel.base, hrel.fr0, fun b o hb => ?_, resOf_sound hrel hres hus, tops_sound hrel hres hus hdis, hlo, hlens⟩
                  rcases hrel.frs b o hb with h1 | h1 | h1
                  · exact .inl h1
                  · exfalso
                    obtain ⟨k, cs, p, hk1, hk2, rfl, hk4, hk5⟩ := h1
                    have hkl : (ims'.map List.length)[k]? = some cs.length := by rw [hlens, List.getElem?_map, hk1]; rfl
                    rw [List.getElem?_map, Option.map_eq_some_iff] at hkl
                    obtain ⟨ds, hd1, hd2⟩ := hkl
                    obtain ⟨p', hp1, hp2⟩ := hlo.get k ds hd1
                    rw [hk2] at hp1
                    cases hp1
                    have := hp2.2.2 (o - p.2) (by omega)
                    rw [show p.2 + (o - p.2) = o by omega] at this
                    exact this hb
                  · exact .inr ⟨h1, hrel.frlt b o hb⟩
                · cases hres
              · cases hres
          · cases h
        · cases h
      · cases h
    · cases h
end Go.Dm
