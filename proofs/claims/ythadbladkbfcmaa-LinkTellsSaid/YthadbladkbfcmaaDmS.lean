/-
  The data machine, part S: code; a function.
-/
import Derived.Test.YthadbladkbfcmaaDmR
import Derived.LoopN
namespace Go.Dm
open Go.RowKit

/-! ### What is let go -/
theorem Rel.forget {F : Fm} {γ : Gh} {m m' : Mem} {a : Act} {w : World} (h : Rel F γ m a w) (ht : ∀ t, m'.tmp t = m.tmp t ∨ m'.tmp t = .hole) (hv : m'.var = m.var) (hk : m'.tok = m.tok) : Rel F γ m' a w where
  defers := h.defers
  size := h.size
  base := h.base
  fr0 := h.fr0
  frs := h.frs
  frlt := h.frlt
  loclt := h.loclt
  tmps t := by
    rw [hk]
    rcases ht t with h1 | h1
    · rw [h1]; exact h.tmps t
    · rw [h1]; trivial
  vars := by rw [hv, hk]; exact h.vars
  novar := by rw [hv]; exact h.novar
  lentloc := h.lentloc
  apart := by rw [hv]; exact h.apart
  toks := by rw [hk]; exact h.toks
  tapart := by rw [hk]; exact h.tapart
  tvar := by rw [hk, hv]; exact h.tvar

theorem forgetAll_get : ∀ {fs : List Tmp} {ts : List T}, (forgetAll ts fs).length = ts.length ∧ ∀ t, (forgetAll ts fs).getD t .skip = ts.getD t .skip ∨ (forgetAll ts fs).getD t .skip = .hole
  | [], ts => ⟨rfl, fun t => .inl rfl⟩
  | f :: fs, ts => by
    obtain ⟨h1, h2⟩ := forgetAll_get (fs := fs) (ts := ts.set f .hole)
    refine ⟨by simp [forgetAll, h1], fun t => ?_⟩
    simp only [forgetAll]
    rcases h2 t with h3 | h3
    · rw [h3]
      by_cases hft : f = t
      · subst hft
        by_cases hlt : f < ts.length
        · right; simp [List.getD, hlt]
        · left
          have hge : ts.length ≤ f := Nat.le_of_not_lt hlt
          rw [List.set_eq_of_length_le hge]
      · left; simp [List.getD, hft]
    · exact .inr h3

theorem RelS.forget {E : Env} {F : Fm} {s : St} {a : Act} {w : World} (h : RelS E F s a w) (fs : List Tmp) : RelS E F { s with tmps := forgetAll s.tmps fs } a w := by
  obtain ⟨hn, γ, hr, hg⟩ := h
  obtain ⟨h1, h2⟩ := forgetAll_get (fs := fs) (ts := s.tmps)
  exact ⟨by rw [h1]; exact hn, γ, hr.forget h2 rfl rfl, hg⟩

/-! ### What is cut off -/
theorem V.cut_rep {γ : Gh} {tok : Nat → Option Nat} {w : World} {n k : Nat} {x : V} {v : Value} (hx : x.rep γ tok w v) (ho : x.old n = true) :
    (x.untok k).rep { γ with loc := fun i => if i < n then γ.loc i else none } (fun i => if i < k then tok i else none) w v := by
  cases x with
  | c x => simpa only [V.untok, V.rep] using hx
  | own sz es t =>
    cases t with
    | exact => simpa only [V.untok, V.rep, tkRep] using hx
    | tok i =>
      simp only [V.untok]
      split
      · rename_i hi
        simp only [V.rep, tkRep, hi, if_true] at hx ⊢
        exact hx
      · simp only [V.rep]
        exact hx.1
  | ptr id off =>
    simp only [V.old, decide_eq_true_eq] at ho
    simp only [V.untok, V.rep, ho, if_true] at hx ⊢
    exact hx
  | vsl id off sz l =>
    simp only [V.old, decide_eq_true_eq] at ho
    simp only [V.untok, V.rep, ho, if_true] at hx ⊢
    exact hx
  | clo f caps =>
    simp only [V.untok, V.rep] at hx ⊢
    obtain ⟨vs, h1, h2⟩ := hx
    refine ⟨vs, h1, ?_⟩
    simp only [V.old] at ho
    clear h1
    induction caps generalizing vs with
    | nil =>
      cases vs with
      | nil => trivial
      | cons _ _ => exact h2.elim
    | cons c cs ih =>
      cases vs with
      | nil => exact h2.elim
      | cons u us =>
        simp only [List.all_cons, Bool.and_eq_true] at ho
        refine ⟨?_, ih ho.2 us h2.2⟩
        have h3 := h2.1
        cases c with
        | inl c => exact h3
        | inr p =>
          obtain ⟨id, off⟩ := p
          have ho1 := ho.1
          simp only [decide_eq_true_eq] at ho1
          simp only [capRep, ho1, if_true] at h3 ⊢
          exact h3

theorem Vs.cut_rep {γ : Gh} {tok : Nat → Option Nat} {w : World} {n k : Nat} : ∀ {xs : List V} {vs : List Value}, All2 (V.rep γ tok w) xs vs → xs.all (V.old n) = true →
    All2 (V.rep { γ with loc := fun i => if i < n then γ.loc i else none } (fun i => if i < k then tok i else none) w) (xs.map (V.untok k)) vs
  | [], [], _, _ => trivial
  | x :: xs, v :: vs, h, ho => by
    simp only [List.all_cons, Bool.and_eq_true] at ho
    exact ⟨V.cut_rep h.1 ho.1, Vs.cut_rep h.2 ho.2⟩
  | [], _ :: _, h, _ => h.elim
  | _ :: _, [], h, _ => h.elim

theorem K.cut_rep {γ : Gh} {tok : Nat → Option Nat} {w : World} {n k : Nat} {x y : K} {v : Value} (hx : x.rep γ tok w v) (hc : x.cut n k = some y) :
    y.rep { γ with loc := fun i => if i < n then γ.loc i else none } (fun i => if i < k then tok i else none) w v := by
  cases x with
  | v x =>
    simp only [K.cut] at hc
    split at hc
    · cases hc; exact V.cut_rep hx (by assumption)
    · cases hc
  | agg xs =>
    simp only [K.cut] at hc
    split at hc
    · rename_i ho
      cases hc
      obtain ⟨vs, h1, h2⟩ := hx
      exact ⟨vs, h1, Vs.cut_rep h2 ho⟩
    · cases hc

theorem T.cut_rep {γ : Gh} {tok : Nat → Option Nat} {w : World} {n k : Nat} {x : T} {v : Value} (hx : x.rep γ tok w v) :
    (x.cut n k).rep { γ with loc := fun i => if i < n then γ.loc i else none } (fun i => if i < k then tok i else none) w v := by
  cases x with
  | k x =>
    simp only [T.cut]
    split
    · rename_i y hy; exact K.cut_rep hx hy
    · trivial
  | tup ks =>
    simp only [T.cut]
    split
    · rename_i ys hy
      obtain ⟨vs, h1, h2⟩ := hx
      refine ⟨vs, h1, ?_⟩
      clear h1
      induction ks generalizing ys vs with
      | nil =>
        simp at hy
        subst hy
        cases vs with
        | nil => trivial
        | cons _ _ => exact h2.elim
      | cons z zs ih =>
        cases vs with
        | nil => exact h2.elim
        | cons u us =>
          rw [List.mapM_cons] at hy
          simp only [Option.pure_def, Option.bind_eq_bind, Option.bind_eq_some_iff, Option.some.injEq] at hy
          obtain ⟨y, hy1, r, hr, rfl⟩ := hy
          exact ⟨K.cut_rep h2.1 hy1, ih _ hr us h2.2⟩
    · trivial
  | hole => trivial
  | skip => exact hx

theorem RelS.cut {E : Env} {F : Fm} {s s' : St} {a : Act} {w : World} (h : RelS E F s a w) {n k : Nat} (hn : F.locs.length ≤ n) (hc : s.cut n k = some s') : RelS E F s' a w := by
  unfold St.cut at hc
  split at hc
  · rename_i hall
    cases hc
    obtain ⟨hlen, γ, hr, hg⟩ := h
    have hvar : ∀ i : Nat, ((s.vars.take n).map fun xs => xs.map (V.untok k))[i]? = if i < n then (s.vars[i]?).map (fun xs => xs.map (V.untok k)) else none := fun i => by
      rw [List.getElem?_map, List.getElem?_take]
      split <;> simp
    have htok : ∀ i : Nat, (s.toks.take k)[i]? = if i < k then s.toks[i]? else none := fun i => by
      rw [List.getElem?_take]
    have hv : ∀ i zs, ((s.vars.take n).map fun xs => xs.map (V.untok k))[i]? = some zs → i < n ∧ ∃ xs, s.vars[i]? = some xs ∧ zs = xs.map (V.untok k) ∧ xs.all (V.old n) = true := fun i zs hi => by
      rw [hvar] at hi
      split at hi
      · rename_i hin
        simp only [Option.map_eq_some_iff] at hi
        obtain ⟨xs, h1, rfl⟩ := hi
        refine ⟨hin, xs, h1, rfl, ?_⟩
        rw [List.all_eq_true] at hall
        refine hall xs (List.mem_of_getElem? (i := i) ?_)
        rw [List.getElem?_take, if_pos hin]
        exact h1
      · cases hi
    have ht : ∀ i l, (s.toks.take k)[i]? = some l → s.toks[i]? = some l := fun i l hi => by
      rw [htok] at hi
      split at hi
      · exact hi
      · cases hi
    have hl : ∀ i p, (if i < n then γ.loc i else none) = some p → γ.loc i = some p := fun i p hi => by
      split at hi
      · exact hi
      · cases hi
    have hm : (⟨s.tmps.map (T.cut n k), (s.vars.take n).map (fun xs => xs.map (V.untok k)), s.toks.take k⟩ : St).mem.tok = fun i => if i < k then s.mem.tok i else none := funext htok
    refine ⟨by simpa using hlen, { γ with loc := fun i => if i < n then γ.loc i else none }, ?_, hg⟩
    exact {
      defers := hr.defers
      size := hr.size
      base := hr.base
      fr0 := hr.fr0
      frs := hr.frs
      frlt := hr.frlt
      loclt := fun i b o hi => hr.loclt i b o (hl i _ hi)
      tmps := fun t => by
        rw [hm]
        have : (⟨s.tmps.map (T.cut n k), (s.vars.take n).map (fun xs => xs.map (V.untok k)), s.toks.take k⟩ : St).mem.tmp t = (s.mem.tmp t).cut n k := by
          simp only [St.mem, List.getD, List.getElem?_map]
          cases s.tmps[t]? <;> rfl
        rw [this]
        exact T.cut_rep (hr.tmps t)
      vars := fun i zs hi => by
        rw [hm]
        obtain ⟨hin, xs, h1, rfl, h2⟩ := hv i zs hi
        obtain ⟨b, o, k1, ⟨vs, k2, k3⟩, k4, k5⟩ := hr.vars i xs h1
        refine ⟨b, o, by simp only [hin, if_true]; exact k1, ⟨vs, Vs.cut_rep k2 h2, k3⟩, by simpa using k4, by simpa using k5⟩
      novar := fun i hi => by
        simp only
        split
        · rename_i hin
          have hi' : ((s.vars.take n).map fun xs => xs.map (V.untok k))[i]? = none := hi
          rw [hvar, if_pos hin] at hi'
          exact hr.novar i (by simpa [St.mem] using hi')
        · rfl
      lentloc := fun i p hp => by
        have : i < n := Nat.lt_of_lt_of_le (List.getElem?_eq_some_iff.1 hp).1 hn
        simp only [this, if_true]
        exact hr.lentloc i p hp
      apart := fun i j zs us b o b' o' hij hi hj hli hlj => by
        obtain ⟨_, xs, h1, rfl, _⟩ := hv i zs hi
        obtain ⟨_, ys, h2, rfl, _⟩ := hv j us hj
        have := hr.apart i j xs ys b o b' o' hij h1 h2 (hl i _ hli) (hl j _ hlj)
        simpa using this
      toks := fun i l hi => hr.toks i l (ht i l hi)
      tapart := fun i j x y hij hi hj => hr.tapart i j x y hij (ht i x hi) (ht j y hj)
      tvar := fun i l j zs b o hi hj hlj => by
        obtain ⟨_, xs, h1, rfl, _⟩ := hv j zs hj
        exact hr.tvar i l j xs b o (ht i l hi) h1 (hl j _ hlj) }
  · cases hc

/-! ### Tokens for what has none -/
theorem Rel.setTmp {F : Fm} {γ : Gh} {m : Mem} {a : Act} {w : World} (h : Rel F γ m a w) {t : Tmp} {x : T} (hx : x.rep γ m.tok w (a.tmps.getD t undef)) : Rel F γ { m with tmp := fun i => if i = t then x else m.tmp i } a w :=
  { h with
    tmps := fun i => by
      simp only
      split
      · rename_i hi; subst hi; exact hx
      · exact h.tmps i }

theorem Rel.setVar {F : Fm} {γ : Gh} {m : Mem} {a : Act} {w : World} (h : Rel F γ m a w) {id : Nat} {xs xs' : List V} (hv : m.var id = some xs) (hlen : xs'.length = xs.length) (hx : ∀ b o vs, γ.loc id = some (b, o) → w.rangeAt b o vs → All2 (V.rep γ m.tok w) xs vs → All2 (V.rep γ m.tok w) xs' vs) :
    Rel F γ { m with var := fun i => if i = id then some xs' else m.var i } a w := by
  have key : ∀ i zs, (if i = id then some xs' else m.var i) = some zs → ∃ ys, m.var i = some ys ∧ ys.length = zs.length ∧ ∀ b o vs, γ.loc i = some (b, o) → w.rangeAt b o vs → All2 (V.rep γ m.tok w) ys vs → All2 (V.rep γ m.tok w) zs vs := fun i zs hi => by
    split at hi
    · rename_i he; subst he; cases hi; exact ⟨xs, hv, hlen.symm, hx⟩
    · exact ⟨zs, hi, rfl, fun _ _ _ _ _ h => h⟩
  exact { h with
    vars := fun i zs hi => by
      obtain ⟨ys, h1, h2, h3⟩ := key i zs hi
      obtain ⟨b, o, k1, ⟨vs, k2, k3⟩, k4, k5⟩ := h.vars i ys h1
      exact ⟨b, o, k1, ⟨vs, h3 b o vs k1 k3 k2, k3⟩, by rw [← h2]; exact k4, by rw [← h2]; exact k5⟩
    novar := fun i hi => by
      simp only at hi
      split at hi
      · cases hi
      · exact h.novar i hi
    apart := fun i j zs us b o b' o' hij hi hj hli hlj => by
      obtain ⟨ys, h1, h2, _⟩ := key i zs hi
      obtain ⟨ys', h1', h2', _⟩ := key j us hj
      have := h.apart i j ys ys' b o b' o' hij h1 h1' hli hlj
      omega
    tvar := fun i l j zs b o hi hj hlj => by
      obtain ⟨ys, h1, _, _⟩ := key j zs hj
      exact h.tvar i l j ys b o hi h1 hlj }

theorem tagTmps_sound {E : Env} {F : Fm} {a : Act} {w : World} : ∀ {hs : List (Tmp × Nat)} {ts ts' : List T} {vs : List (List V)} {ks ks' : List Nat}, tagTmps ts ks hs = (ts', ks') → RelS E F ⟨ts, vs, ks⟩ a w → RelS E F ⟨ts', vs, ks'⟩ a w
  | [], ts, ts', vs, ks, ks', h, hr => by simp only [tagTmps, Prod.mk.injEq] at h; obtain ⟨rfl, rfl⟩ := h; exact hr
  | (t, z) :: hs, ts, ts', vs, ks, ks', h, hr => by
    simp only [tagTmps] at h
    split at h
    · rename_i sz es ht
      refine tagTmps_sound h ?_
      obtain ⟨hn, γ, hrel, hg⟩ := hr
      have htm := hrel.tmps t
      have hm : (⟨ts, vs, ks⟩ : St).mem.tmp t = .k (.v (.own sz es .exact)) := ht
      rw [hm] at htm
      obtain ⟨γ', h1, h2, _, h3⟩ := hrel.tag (j := ks.length) (z := z) (by simp [St.mem]) htm
      have h4 := h1.setTmp (t := t) (x := .k (.v (.own (if es.isEmpty then z else sz) es (.tok ks.length)))) h3
      refine ⟨by simpa using hn, γ', ?_, hg.mono h2.ev⟩
      have hlt : t < ts.length := by
        rcases Nat.lt_or_ge t ts.length with h | h
        · exact h
        · simp [List.getD, List.getElem?_eq_none h] at ht
      have e1 : (⟨ts.set t (.k (.v (.own (if es.isEmpty then z else sz) es (.tok ks.length)))), vs, ks ++ [es.length]⟩ : St).mem = { tmp := fun i => if i = t then .k (.v (.own (if es.isEmpty then z else sz) es (.tok ks.length))) else (⟨ts, vs, ks⟩ : St).mem.tmp i, var := (⟨ts, vs, ks⟩ : St).mem.var, tok := fun i => if i = ks.length then some es.length else (⟨ts, vs, ks⟩ : St).mem.tok i } := by
        simp only [St.mem, Mem.mk.injEq, true_and]
        constructor
        · funext i
          by_cases hi : i = t
          · subst hi; simp [List.getD, hlt]
          · simp [List.getD, hi, Ne.symm hi]
        · funext i
          by_cases hi : i = ks.length
          · subst hi; simp
          · simp only [hi, if_false]
            rcases Nat.lt_or_ge i ks.length with h | h
            · rw [List.getElem?_append_left h]
            · rw [List.getElem?_eq_none (by simp; omega), List.getElem?_eq_none h]
      rw [e1]
      exact h4
    · exact tagTmps_sound h hr

theorem All2.set {α β : Type} {R : α → β → Prop} : ∀ {xs : List α} {vs : List β} {i : Nat} {x : α}, All2 R xs vs → (∀ v, vs[i]? = some v → R x v) → All2 R (xs.set i x) vs
  | [], [], _, _, _, _ => trivial
  | _ :: _, v :: _, 0, _, h, hx => ⟨hx v rfl, h.2⟩
  | _ :: _, _ :: _, i + 1, _, h, hx => ⟨h.1, All2.set h.2 (fun v hv => hx v (by simpa using hv))⟩
  | [], _ :: _, _, _, h, _ => h.elim
  | _ :: _, [], _, _, h, _ => h.elim

theorem tagVars_sound {E : Env} {F : Fm} {a : Act} {w : World} : ∀ {hs : List (Nat × Nat × Nat)} {ts : List T} {vs vs' : List (List V)} {ks ks' : List Nat}, tagVars vs ks hs = (vs', ks') → RelS E F ⟨ts, vs, ks⟩ a w → RelS E F ⟨ts, vs', ks'⟩ a w
  | [], ts, vs, vs', ks, ks', h, hr => by simp only [tagVars, Prod.mk.injEq] at h; obtain ⟨rfl, rfl⟩ := h; exact hr
  | (id, off, z) :: hs, ts, vs, vs', ks, ks', h, hr => by
    simp only [tagVars] at h
    split at h
    · rename_i xs hx
      split at h
      · rename_i sz es hxo
        refine tagVars_sound h ?_
        obtain ⟨hn, γ, hrel, hg⟩ := hr
        obtain ⟨b, o, k1, ⟨us, k2, k3⟩, _⟩ := hrel.vars id xs hx
        obtain ⟨v, hv, hrv⟩ := k2.get off _ hxo
        obtain ⟨γ', h1, h2, hloc, h3⟩ := hrel.tag (j := ks.length) (z := z) (by simp [St.mem]) hrv
        -- the variable holds what it held
        have h4 := h1.setVar (id := id) (xs := xs) (xs' := xs.set off (.own (if es.isEmpty then z else sz) es (.tok ks.length))) hx (by simp) (fun b' o' us' hl' hr' hus' => by
          rw [hloc, k1] at hl'
          cases hl'
          refine hus'.set (fun v' hv' => ?_)
          have e1 := k3 off v hv
          have e2 := hr' off v' hv'
          rw [e1] at e2
          cases e2
          exact h3)
        refine ⟨hn, γ', ?_, hg.mono h2.ev⟩
        have hlt : id < vs.length := (List.getElem?_eq_some_iff.1 hx).1
        have e1 : (⟨ts, vs.set id (xs.set off (.own (if es.isEmpty then z else sz) es (.tok ks.length))), ks ++ [es.length]⟩ : St).mem = { tmp := (⟨ts, vs, ks⟩ : St).mem.tmp, var := fun i => if i = id then some (xs.set off (.own (if es.isEmpty then z else sz) es (.tok ks.length))) else (⟨ts, vs, ks⟩ : St).mem.var i, tok := fun i => if i = ks.length then some es.length else (⟨ts, vs, ks⟩ : St).mem.tok i } := by
          simp only [St.mem, Mem.mk.injEq, true_and]
          constructor
          · funext i
            by_cases hi : i = id
            · subst hi; simp [hlt]
            · simp [hi, Ne.symm hi]
          · funext i
            by_cases hi : i = ks.length
            · subst hi; simp
            · simp only [hi, if_false]
              rcases Nat.lt_or_ge i ks.length with h | h
              · rw [List.getElem?_append_left h]
              · rw [List.getElem?_eq_none (by simp; omega), List.getElem?_eq_none h]
        rw [e1]
        exact h4
      · exact tagVars_sound h hr
    · exact tagVars_sound h hr
end Go.Dm
