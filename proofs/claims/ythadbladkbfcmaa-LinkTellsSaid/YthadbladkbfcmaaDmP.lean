/-
  The data machine, part P: a region, in the text's order, and in whatever order.
-/
import Derived.Test.YthadbladkbfcmaaDmO
namespace Go.Dm
open Go.RowKit

/-! ### The frame's lists and what they mean -/
theorem setVars_get : ∀ {uv : List (Nat × List V)} {vs vs' : List (List V)}, setVars vs uv = some vs' → vs'.length = vs.length ∧ ∀ i : Nat, vs'[i]? = match lk uv i with | some x => some x | none => vs[i]?
  | [], vs, vs', h => by simp only [setVars, Option.some.injEq] at h; subst h; exact ⟨rfl, fun i => rfl⟩
  | (j, x) :: r, vs, vs', h => by
    simp only [setVars] at h
    split at h
    · rename_i hj
      obtain ⟨h1, h2⟩ := setVars_get h
      refine ⟨by simpa using h1, fun i => ?_⟩
      rw [h2 i]
      simp only [lk]
      cases lk r i with
      | some y => rfl
      | none =>
        by_cases hij : j = i
        · subst hij; simp [hj]
        · simp [hij]
    · cases h

theorem setToks_get : ∀ {ut : List (Nat × Nat)} {ts ts' : List Nat}, setToks ts ut = some ts' → ∀ i : Nat, ts'[i]? = match lk ut i with | some x => some x | none => ts[i]?
  | [], ts, ts', h, i => by simp only [setToks, Option.some.injEq] at h; subst h; rfl
  | (j, x) :: r, ts, ts', h, i => by
    simp only [setToks] at h
    split at h
    · rename_i hj
      rw [setToks_get h i]
      simp only [lk]
      cases lk r i with
      | some y => rfl
      | none =>
        by_cases hij : j = i
        · subst hij; simp [hj]
        · simp [hij]
    · split at h
      · rename_i hj
        subst hj
        rw [setToks_get h i]
        simp only [lk]
        cases lk r i with
        | some y => rfl
        | none =>
          by_cases hij : ts.length = i
          · subst hij; simp
          · simp only [hij, if_false]
            rcases Nat.lt_or_ge i ts.length with hlt | hge
            · rw [List.getElem?_append_left hlt]
            · rw [List.getElem?_eq_none (by simp; omega), List.getElem?_eq_none hge]
      · cases h

theorem lk_none_of_lt {α : Type} : ∀ {uv : List (Nat × α)} {n i : Nat}, (∀ p ∈ uv, p.1 < n) → n ≤ i → lk uv i = none
  | [], _, _, _, _ => rfl
  | (j, x) :: r, n, i, h, hi => by
    simp only [lk]
    rw [lk_none_of_lt (fun p hp => h p (by simp [hp])) hi]
    have := h (j, x) (by simp)
    simp only at this
    rw [if_neg (by omega)]

theorem setVars_lt : ∀ {uv : List (Nat × List V)} {vs vs' : List (List V)}, setVars vs uv = some vs' → ∀ p ∈ uv, p.1 < vs.length
  | [], _, _, _, p, hp => by simp at hp
  | (j, x) :: r, vs, vs', h, p, hp => by
    simp only [setVars] at h
    split at h
    · rename_i hj
      rcases List.mem_cons.1 hp with rfl | hp
      · exact hj
      · have := setVars_lt h p hp
        simpa using this
    · cases h

theorem St.apply_mem {s s' : St} {d : Option Tmp} {e : Eff} (h : s.apply d e = some s') : s'.mem = s.mem.apply d s.vars.length e ∧ s'.tmps.length = s.tmps.length ∧ (∀ t, d = some t → t < s.tmps.length) := by
  unfold St.apply at h
  split at h
  · rename_i vs ts hv ht
    obtain ⟨hvl, hvg⟩ := setVars_get hv
    have htg := setToks_get ht
    have hlt := setVars_lt hv
    have hvar : ∀ i : Nat, (match e.nv with | some x => vs ++ [x] | none => vs)[i]? = if i = s.vars.length ∧ e.nv.isSome then e.nv else match lk e.uv i with | some x => some x | none => s.vars[i]? := by
      intro i
      cases hn : e.nv with
      | none => simp [hvg i]
      | some x =>
        simp only [Option.isSome_some, and_true]
        by_cases hi : i = s.vars.length
        · subst hi; simp [hvl]
        · simp only [hi, if_false]
          rcases Nat.lt_or_ge i vs.length with h1 | h1
          · rw [List.getElem?_append_left h1, hvg i]
          · rw [List.getElem?_eq_none (by simp; omega), lk_none_of_lt hlt (by omega), List.getElem?_eq_none (by omega)]
    simp only at h
    split at h
    · rename_i d
      split at h
      · rename_i hd
        cases h
        refine ⟨?_, by simp, fun t ht => by cases ht; exact hd⟩
        simp only [St.mem, Mem.apply, Mem.mk.injEq]
        refine ⟨?_, funext hvar, funext htg⟩
        funext t
        simp only [Option.some.injEq]
        by_cases hdt : d = t
        · subst hdt; simp [List.getD, hd]
        · simp [List.getD, hdt]
      · cases h
    · cases h
      refine ⟨?_, rfl, fun t ht => by cases ht⟩
      simp only [St.mem, Mem.apply, Mem.mk.injEq]
      exact ⟨by simp, funext hvar, funext htg⟩
  · cases h

theorem wanted_sound {F : Fm} {γ : Gh} {m : Mem} {a : Act} {w : World} (h : Rel F γ m a w) {ops : Array Oper} {o : Oper} {q : Bool} (hq : wantedD ops m o = some q) : Region.wanted o (yielded ops a.tmps) = q := by
  unfold wantedD at hq
  unfold Region.wanted
  split at hq
  · rename_i hg; rw [hg]; simpa using hq
  · rename_i j want hg
    rw [hg]
    simp only
    split at hq
    · rename_i hd
      simp only [yielded, hd, Option.bind_none]
      cases hq
      rfl
    · rename_i t hd
      have ht := h.tmps t
      have hget : a.tmps.getD t undef = (a.tmps[t]?).getD undef := by simp
      simp only [yielded, hd, Option.bind_some]
      split at hq
      · rename_i hs
        rw [hs] at ht
        simp only [T.rep] at ht
        cases hq
        rw [hget] at ht
        cases hx : a.tmps[t]? with
        | none => rfl
        | some v =>
          rw [hx] at ht
          simp only [Option.getD_some] at ht
          subst ht
          rfl
      · split at hq
        · rename_i b hb
          cases hq
          rw [bool?_eq hb, pure_rep, hget] at ht
          cases hx : a.tmps[t]? with
          | none => rw [hx] at ht; simp [undef] at ht
          | some v =>
            rw [hx] at ht
            simp only [Option.getD_some] at ht
            rw [ht.1]
            simp
        · cases hq

theorem Mem.apply_skip (m : Mem) (d : Option Tmp) (nv : Nat) : m.apply d nv skipEff = m.put d .skip := Mem.apply_pure m d nv .skip [] []

/-- What a frame's lists mean. -/
def RelS (E : Env) (F : Fm) (s : St) (a : Act) (w : World) : Prop := s.tmps.length = F.n ∧ ∃ γ, Rel F γ s.mem a w ∧ Globs E.gl γ.fr w

theorem ops_seq {E : Env} (hE : EnvOk E) {F : Fm} {ops : Array Oper} {Q : Exit → Act → World → Prop} : ∀ {l : List Oper} {s s' : St} {ts : List Touch} {k : Nat}, evalOps E ops l s = some (s', ts) → ops.toList.drop k = l → (∀ a w, RelS E F s' a w → Q .normal a w) →
    ∀ {a : Act} {w : World}, RelS E F s a w → wpOps E.P ops Q (List.range' k l.length) a w
  | [], s, s', ts, k, h, _, hQ, a, w, hr => by
    simp only [evalOps, Option.some.injEq, Prod.mk.injEq] at h
    obtain ⟨rfl, _⟩ := h
    exact hQ a w hr
  | o :: rest, s, s', ts, k, h, hdrop, hQ, a, w, hr => by
    have hk : ops[k]? = some o := by
      have := congrArg List.head? hdrop
      simpa [List.head?_drop] using this
    have hrest : ops.toList.drop (k + 1) = rest := by
      have := congrArg List.tail hdrop
      simpa [List.tail_drop] using this
    simp only [evalOps] at h
    split at h
    · cases h
    · rename_i q hq
      split at h
      · cases h
      · rename_i e he
        split at h
        · cases h
        · rename_i s1 hs1
          split at h
          · cases h
          · rename_i s2 ts2 hrec
            simp only [Option.some.injEq, Prod.mk.injEq] at h
            obtain ⟨rfl, _⟩ := h
            obtain ⟨hmem, hlen, hd⟩ := St.apply_mem hs1
            obtain ⟨hn, γ, hrel, hg⟩ := hr
            have hd' : ∀ t, o.dst = some t → t < F.n := fun t ht => by rw [← hn]; exact hd t ht
            rw [List.length_cons, List.range'_succ, wpOps_cons]
            unfold wpOp
            rw [hk]
            simp only
            rw [wanted_sound hrel hq]
            have next : ∀ a' w', RelS E F s1 a' w' → wpOps E.P ops Q (List.range' (k + 1) rest.length) a' w' := fun a' w' hr' => ops_seq hE hrec hrest hQ hr'
            cases q with
            | true =>
              simp only [if_true] at he ⊢
              refine .inl (Oper.wp_mono (fun a' w' hp => ?_) (op_sound hE hrel hg hd' he (fun _ => by simp [St.mem]) (fun i n hi hni => ?_)))
              · obtain ⟨γ', h1, h2⟩ := hp
                exact next a' w' ⟨by rw [hlen]; exact hn, γ', by rw [hmem]; exact h1, h2⟩
              · rcases ut_new he i n hi with h1 | h1
                · exact absurd h1 hni
                · simp [St.mem]; exact h1
            | false =>
              simp only [Bool.false_eq_true, if_false, Option.some.injEq] at he ⊢
              subst he
              refine next _ _ ⟨by rw [hlen]; exact hn, γ, ?_, hg⟩
              rw [hmem, Mem.apply_skip]
              exact hrel.put hd' rfl
end Go.Dm
