/-
  The data machine, part Q: a region that draws its order.
-/
import Derived.Test.YthadbladkbfcmaaDmP
namespace Go.Dm
open Go.RowKit

/-- An operation as it came up in the text's order. -/
structure Stp where
  o : Oper
  nv : Nat
  nt : Nat
  q : Bool
  e : Eff

def Stp.touch (ops : Array Oper) (p : Stp) : Touch := Touch.of ops p.o p.nv p.e
def Stp.step (p : Stp) (m : Mem) : Mem := m.apply p.o.dst p.nv p.e

def Chain (E : Env) (ops : Array Oper) : Mem → List Stp → Mem → Prop
  | m, [], m' => m' = m
  | m, p :: r, m' => wantedD ops m p.o = some p.q ∧ (if p.q then evalOp E m p.nv p.nt p.o = some p.e else p.e = skipEff) ∧ (p.e.nv.isSome = true → m.var p.nv = none) ∧ (∀ i n, (i, n) ∈ p.e.ut → i ∉ p.e.rt → m.tok i = none) ∧ Chain E ops (p.step m) r m'

theorem trace_of {E : Env} {ops : Array Oper} : ∀ {l : List Oper} {s s' : St} {ts : List Touch}, evalOps E ops l s = some (s', ts) →
    ∃ steps : List Stp, steps.map (·.o) = l ∧ ts = steps.map (Stp.touch ops) ∧ Chain E ops s.mem steps s'.mem ∧ (∀ p ∈ steps, ∀ t, p.o.dst = some t → t < s.tmps.length) ∧ s'.tmps.length = s.tmps.length
  | [], s, s', ts, h => by
    simp only [evalOps, Option.some.injEq, Prod.mk.injEq] at h
    obtain ⟨rfl, rfl⟩ := h
    exact ⟨[], rfl, rfl, rfl, by simp, rfl⟩
  | o :: rest, s, s', ts, h => by
    simp only [evalOps] at h
    split at h
    · cases h
    · rename_i q hq
      split at h
      · cases h
      · rename_i e he
        split at h
        · cases h
        · rename_i s1 hs1
          split at h
          · cases h
          · rename_i s2 ts2 hrec
            simp only [Option.some.injEq, Prod.mk.injEq] at h
            obtain ⟨rfl, rfl⟩ := h
            obtain ⟨hmem, hlen, hd⟩ := St.apply_mem hs1
            obtain ⟨steps, h1, h2, h3, h4, h5⟩ := trace_of hrec
            refine ⟨⟨o, s.vars.length, s.toks.length, q, e⟩ :: steps, by simp [h1], by simp [h2, Stp.touch], ⟨hq, ?_, fun _ => by simp [St.mem], fun i n hi hni => ?_, ?_⟩, fun p hp t ht => ?_, by rw [h5, hlen]⟩
            · cases q
              · simpa using he.symm
              · simpa using he
            · cases q with
              | true =>
                simp only [if_true] at he
                rcases ut_new he i n hi with h1 | h1
                · exact absurd h1 hni
                · simp [St.mem]; exact h1
              | false =>
                simp only [Bool.false_eq_true, if_false, Option.some.injEq] at he
                subst he
                simp [skipEff] at hi
            · simp only [Stp.step]; rw [← hmem]; exact h3
            · rcases List.mem_cons.1 hp with rfl | hp
              · exact hd t ht
              · have := h4 p hp t ht; rw [hlen] at this; exact this

/-- Alike where x touches. -/
structure Agree (x : Touch) (m m' : Mem) : Prop where
  tmp : ∀ t, (t ∈ x.rt ∨ x.wt = some t) → m'.tmp t = m.tmp t
  var : ∀ i, (i ∈ x.rv ∨ i ∈ x.wv) → m'.var i = m.var i
  tok : ∀ i, (i ∈ x.rk ∨ i ∈ x.wk) → m'.tok i = m.tok i

theorem Agree.refl (x : Touch) (m : Mem) : Agree x m m := ⟨fun _ _ => rfl, fun _ _ => rfl, fun _ _ => rfl⟩
theorem Agree.trans {x : Touch} {a b c : Mem} (h : Agree x a b) (k : Agree x b c) : Agree x a c :=
  ⟨fun t ht => (k.tmp t ht).trans (h.tmp t ht), fun i hi => (k.var i hi).trans (h.var i hi), fun i hi => (k.tok i hi).trans (h.tok i hi)⟩

theorem lk_none {α : Type} : ∀ {uv : List (Nat × α)} {i : Nat}, i ∉ uv.map (·.1) → lk uv i = none
  | [], _, _ => rfl
  | (j, x) :: r, i, h => by
    simp only [List.map_cons, List.mem_cons, not_or] at h
    simp only [lk, lk_none h.2]
    rw [if_neg (Ne.symm h.1)]

theorem step_var {ops : Array Oper} {p : Stp} {m : Mem} {i : Nat} (h : i ∉ (p.touch ops).wv) : (p.step m).var i = m.var i := by
  simp only [Stp.touch, Touch.of, List.mem_append, not_or] at h
  simp only [Stp.step, Mem.apply]
  rw [lk_none h.2]
  split
  · rename_i hc
    exfalso
    refine h.1 ?_
    rw [hc.2]
    simp [hc.1]
  · rfl

theorem step_tok {ops : Array Oper} {p : Stp} {m : Mem} {i : Nat} (h : i ∉ (p.touch ops).wk) : (p.step m).tok i = m.tok i := by
  simp only [Stp.touch, Touch.of] at h
  simp only [Stp.step, Mem.apply, lk_none h]

theorem meet_false {xs ys : List Nat} (h : meet xs ys = false) : ∀ i, i ∈ xs → i ∉ ys := by
  simp only [meet, List.any_eq_false] at h
  intro i hi hy
  exact h i hi (by simpa using hy)

theorem hits_false {x y : Touch} (h : x.hits y = false) : (∀ t, x.wt = some t → t ∉ y.rt ∧ y.wt ≠ some t) ∧ (∀ i, i ∈ x.wv → i ∉ y.wv ∧ i ∉ y.rv) ∧ (∀ i, i ∈ x.wk → i ∉ y.wk ∧ i ∉ y.rk) := by
  simp only [Touch.hits, Bool.or_eq_false_iff] at h
  obtain ⟨⟨⟨⟨h1, h2⟩, h3⟩, h4⟩, h5⟩ := h
  refine ⟨fun t ht => ?_, fun i hi => ⟨meet_false h2 i hi, meet_false h3 i hi⟩, fun i hi => ⟨meet_false h4 i hi, meet_false h5 i hi⟩⟩
  rw [ht] at h1
  simpa using h1

/-- One that doesn't hit x leaves what x touches. -/
theorem Agree.step {ops : Array Oper} {p : Stp} {x : Touch} {m : Mem} (h : (p.touch ops).hits x = false) : Agree x m (p.step m) := by
  obtain ⟨h1, h2, h3⟩ := hits_false h
  refine ⟨fun t ht => ?_, fun i hi => ?_, fun i hi => ?_⟩
  · simp only [Stp.step, Mem.apply]
    rw [if_neg]
    intro hd
    have := h1 t hd
    rcases ht with ht | ht
    · exact this.1 ht
    · exact this.2 ht
  · refine step_var (ops := ops) (fun hw => ?_)
    have := h2 i hw
    rcases hi with hi | hi
    · exact this.2 hi
    · exact this.1 hi
  · refine step_tok (ops := ops) (fun hw => ?_)
    have := h3 i hw
    rcases hi with hi | hi
    · exact this.2 hi
    · exact this.1 hi

theorem Agree.both {p : Stp} {x : Touch} {m m' : Mem} (h : Agree x m m') : Agree x (p.step m) (p.step m') := by
  refine ⟨fun t ht => ?_, fun i hi => ?_, fun i hi => ?_⟩
  · simp only [Stp.step, Mem.apply, h.tmp t ht]
  · simp only [Stp.step, Mem.apply, h.var i hi]
  · simp only [Stp.step, Mem.apply, h.tok i hi]

theorem step_comm {ops : Array Oper} {p r : Stp} {m : Mem} (h : (p.touch ops).hits (r.touch ops) = false) : r.step (p.step m) = p.step (r.step m) := by
  obtain ⟨h1, h2, h3⟩ := hits_false h
  have e1 : (r.step (p.step m)).tmp = (p.step (r.step m)).tmp := by
    funext t
    simp only [Stp.step, Mem.apply]
    by_cases hp : p.o.dst = some t
    · have := (h1 t hp).2
      have hr : ¬ r.o.dst = some t := this
      simp [hp, hr]
    · simp [hp]
  have e2 : (r.step (p.step m)).var = (p.step (r.step m)).var := by
    funext i
    by_cases hp : i ∈ (p.touch ops).wv
    · have hr := (h2 i hp).1
      rw [step_var (ops := ops) hr]
      simp only [Stp.step, Mem.apply] at *
      have : (r.step m).var i = m.var i := step_var (ops := ops) hr
      simp only [Stp.step, Mem.apply] at this
      rw [this]
    · rw [step_var (ops := ops) (p := p) hp]
      have : (p.step m).var i = m.var i := step_var (ops := ops) hp
      simp only [Stp.step, Mem.apply] at this ⊢
      rw [this]
  have e3 : (r.step (p.step m)).tok = (p.step (r.step m)).tok := by
    funext i
    by_cases hp : i ∈ (p.touch ops).wk
    · have hr := (h3 i hp).1
      rw [step_tok (ops := ops) hr]
      have : (r.step m).tok i = m.tok i := step_tok (ops := ops) hr
      simp only [Stp.step, Mem.apply] at this ⊢
      rw [this]
    · rw [step_tok (ops := ops) (p := p) hp]
      have : (p.step m).tok i = m.tok i := step_tok (ops := ops) hp
      simp only [Stp.step, Mem.apply] at this ⊢
      rw [this]
  calc r.step (p.step m) = ⟨(r.step (p.step m)).tmp, (r.step (p.step m)).var, (r.step (p.step m)).tok⟩ := rfl
    _ = _ := by rw [e1, e2, e3]

def memOf (L : Nat → Bool) : Nat → List Stp → Mem → Mem
  | _, [], m => m
  | k, p :: r, m => memOf L (k + 1) r (if L k then p.step m else m)

theorem memOf_append (L : Nat → Bool) : ∀ (xs ys : List Stp) (k : Nat) (m : Mem), memOf L k (xs ++ ys) m = memOf L (k + xs.length) ys (memOf L k xs m)
  | [], ys, k, m => by simp [memOf]
  | x :: xs, ys, k, m => by
    simp only [List.cons_append, memOf, List.length_cons]
    rw [memOf_append L xs ys (k + 1)]
    congr 1
    omega

theorem memOf_congr {L L' : Nat → Bool} : ∀ {xs : List Stp} {k : Nat} {m : Mem}, (∀ j, j < xs.length → L (k + j) = L' (k + j)) → memOf L k xs m = memOf L' k xs m
  | [], _, _, _ => rfl
  | x :: xs, k, m, h => by
    simp only [memOf]
    have h0 := h 0 (by simp)
    simp only [Nat.add_zero] at h0
    rw [h0]
    exact memOf_congr fun j hj => by
      have := h (j + 1) (by simp; omega)
      rwa [show k + (j + 1) = k + 1 + j by omega] at this

theorem chain_mem {E : Env} {ops : Array Oper} : ∀ {xs : List Stp} {m m' : Mem} {k : Nat}, Chain E ops m xs m' → m' = memOf (fun _ => true) k xs m
  | [], _, _, _, h => h
  | _ :: _, _, _, _, h => by simp only [memOf, if_true]; exact chain_mem h.2.2.2.2

/-- Ahead of x: what is let out doesn't hit x. -/
theorem agree_pre {ops : Array Oper} {x : Touch} {L : Nat → Bool} : ∀ {xs : List Stp} {k : Nat} {m m' : Mem}, Agree x m m' → (∀ (j : Nat) p, xs[j]? = some p → L (k + j) = true ∨ (p.touch ops).hits x = false) → Agree x (memOf (fun _ => true) k xs m) (memOf L k xs m')
  | [], _, _, _, h, _ => h
  | p :: xs, k, m, m', h, hL => by
    simp only [memOf, if_true]
    refine agree_pre ?_ (fun j r hr => by
      have := hL (j + 1) r (by simpa using hr)
      rwa [show k + (j + 1) = k + 1 + j by omega] at this)
    have h0 := hL 0 p rfl
    simp only [Nat.add_zero] at h0
    cases hLk : L k with
    | true => simp only [if_true]; exact h.both
    | false =>
      rw [hLk] at h0
      have hh := h0.resolve_left (by simp)
      simp only [Bool.false_eq_true, if_false]
      exact ⟨fun t ht => (h.tmp t ht).trans ((Agree.step hh).tmp t ht).symm, fun i hi => (h.var i hi).trans ((Agree.step hh).var i hi).symm, fun i hi => (h.tok i hi).trans ((Agree.step hh).tok i hi).symm⟩

/-- Behind x: what has come doesn't hit x. -/
theorem agree_post {ops : Array Oper} {x : Touch} {L : Nat → Bool} : ∀ {xs : List Stp} {k : Nat} {m : Mem}, (∀ (j : Nat) p, xs[j]? = some p → L (k + j) = true → (p.touch ops).hits x = false) → Agree x m (memOf L k xs m)
  | [], _, m, _ => Agree.refl x m
  | p :: xs, k, m, hL => by
    simp only [memOf]
    have h0 := hL 0 p rfl
    simp only [Nat.add_zero] at h0
    refine Agree.trans ?_ (agree_post fun j r hr hLj => hL (j + 1) r (by simpa using hr) (by rwa [show k + (j + 1) = k + 1 + j by omega]))
    cases hLk : L k with
    | true => simp only [if_true]; exact Agree.step (h0 hLk)
    | false => simp only [Bool.false_eq_true, if_false]; exact Agree.refl x m

theorem memOf_comm {ops : Array Oper} {p : Stp} {L : Nat → Bool} : ∀ {xs : List Stp} {k : Nat} {m : Mem}, (∀ (j : Nat) r, xs[j]? = some r → L (k + j) = true → (p.touch ops).hits (r.touch ops) = false) → memOf L k xs (p.step m) = p.step (memOf L k xs m)
  | [], _, _, _ => rfl
  | r :: xs, k, m, hL => by
    simp only [memOf]
    have h0 := hL 0 r rfl
    simp only [Nat.add_zero] at h0
    have hrest : ∀ (j : Nat) r, xs[j]? = some r → L (k + 1 + j) = true → (p.touch ops).hits (r.touch ops) = false := fun j r hr hLj => hL (j + 1) r (by simpa using hr) (by rwa [show k + (j + 1) = k + 1 + j by omega])
    cases hLk : L k with
    | true =>
      simp only [if_true]
      rw [step_comm (h0 hLk)]
      exact memOf_comm hrest
    | false =>
      simp only [Bool.false_eq_true, if_false]
      exact memOf_comm hrest

theorem wanted_local {ops : Array Oper} {m m' : Mem} {o : Oper} (h : ∀ t ∈ o.looksAt ops, m'.tmp t = m.tmp t) : wantedD ops m' o = wantedD ops m o := by
  unfold wantedD
  cases hg : o.guard with
  | none => rfl
  | some gw =>
    obtain ⟨g, want⟩ := gw
    simp only
    cases hd : (ops[g]?).bind (·.dst) with
    | none => rfl
    | some t =>
      simp only
      rw [h t (by simp [Oper.looksAt, hg, hd])]

/-! ### The masks -/
theorem orderRow_get {masks : List Nat} {x : Touch} {i : Nat} : ∀ {ts : List Touch} {j : Nat}, orderRow masks x i ts j = true → ∀ (l : Nat) y, ts[l]? = some y → x.clash y = false ∨ (masks.getD (j + l) 0).testBit i = true
  | [], _, _, l, y, hy => by simp at hy
  | z :: ts, j, h, 0, y, hy => by
    simp only [orderRow, Bool.and_eq_true, Bool.or_eq_true, Bool.not_eq_true'] at h
    simp at hy
    subst hy
    exact h.1
  | z :: ts, j, h, l + 1, y, hy => by
    simp only [orderRow, Bool.and_eq_true] at h
    have := orderRow_get h.2 l y (by simpa using hy)
    rwa [show j + 1 + l = j + (l + 1) by omega] at this

theorem orderOk_get {masks : List Nat} : ∀ {ts : List Touch} {k : Nat}, orderOk masks ts k = true → ∀ (i j : Nat) x y, i < j → ts[i]? = some x → ts[j]? = some y → x.clash y = false ∨ (masks.getD (k + j) 0).testBit (k + i) = true
  | [], _, _, i, j, x, y, _, hx, _ => by simp at hx
  | z :: ts, k, h, 0, j, x, y, hij, hx, hy => by
    simp only [orderOk, Bool.and_eq_true] at h
    simp at hx
    subst hx
    obtain ⟨j, rfl⟩ : ∃ j', j = j' + 1 := ⟨j - 1, by omega⟩
    have := orderRow_get h.1 j y (by simpa using hy)
    rwa [show k + 1 + j = k + (j + 1) by omega] at this
  | z :: ts, k, h, i + 1, j, x, y, hij, hx, hy => by
    simp only [orderOk, Bool.and_eq_true] at h
    obtain ⟨j, rfl⟩ : ∃ j', j = j' + 1 := ⟨j - 1, by omega⟩
    have := orderOk_get h.2 i j x y (by omega) (by simpa using hx) (by simpa using hy)
    rwa [show k + 1 + j = k + (j + 1) by omega, show k + 1 + i = k + (i + 1) by omega] at this

def maskOf (acc : List Nat) (o : Oper) : Nat := o.after.foldl (fun s e => if Region.binds .any e then s ||| 2 ^ e.on ||| acc.getD e.on 0 else s) 0

theorem foldl_mask (acc : List Nat) : ∀ (l : List Edge) (s i : Nat), (l.foldl (fun s e => if Region.binds .any e then s ||| 2 ^ e.on ||| acc.getD e.on 0 else s) s).testBit i = true →
    s.testBit i = true ∨ ∃ e ∈ l, Region.binds .any e = true ∧ (e.on = i ∨ (acc.getD e.on 0).testBit i = true)
  | [], s, i, h => .inl h
  | e :: l, s, i, h => by
    simp only [List.foldl_cons] at h
    rcases foldl_mask acc l _ i h with h1 | ⟨e', he', hb, hx⟩
    · split at h1
      · rename_i hb
        rw [Nat.testBit_or, Nat.testBit_or] at h1
        simp only [Bool.or_eq_true] at h1
        rcases h1 with (h1 | h1) | h1
        · exact .inl h1
        · refine .inr ⟨e, by simp, hb, .inl ?_⟩
          rw [Nat.testBit_two_pow] at h1
          simpa using h1
        · exact .inr ⟨e, by simp, hb, .inr h1⟩
      · exact .inl h1
    · exact .inr ⟨e', by simp [he'], hb, hx⟩

theorem aheads_length : ∀ (l : List Oper) (acc : List Nat), (aheads l acc).length = acc.length + l.length
  | [], acc => by simp [aheads]
  | o :: l, acc => by simp only [aheads]; rw [aheads_length l]; simp; omega

theorem aheads_prefix : ∀ (l : List Oper) (acc : List Nat) (i : Nat), i < acc.length → (aheads l acc).getD i 0 = acc.getD i 0
  | [], acc, i, _ => rfl
  | o :: l, acc, i, h => by
    simp only [aheads]
    rw [aheads_prefix l _ i (by simp; omega)]
    simp [List.getD, List.getElem?_append_left h]

theorem aheads_get : ∀ (l : List Oper) (acc : List Nat) (k : Nat) (o : Oper), l[k]? = some o → ∀ i, ((aheads l acc).getD (acc.length + k) 0).testBit i = true →
    ∃ e ∈ o.after, Region.binds .any e = true ∧ (e.on = i ∨ (e.on < acc.length + k ∧ ((aheads l acc).getD e.on 0).testBit i = true))
  | [], _, _, _, h, _, _ => by simp at h
  | x :: l, acc, 0, o, h, i, hi => by
    simp at h
    subst h
    simp only [aheads, Nat.add_zero] at hi ⊢
    rw [aheads_prefix l _ _ (by simp)] at hi
    have e1 : (acc ++ [x.after.foldl (fun s e => if Region.binds .any e then s ||| 2 ^ e.on ||| acc.getD e.on 0 else s) 0]).getD acc.length 0 = x.after.foldl (fun s e => if Region.binds .any e then s ||| 2 ^ e.on ||| acc.getD e.on 0 else s) 0 := by
      simp [List.getD]
    rw [e1, ← Array.foldl_toList] at hi
    rcases foldl_mask acc x.after.toList 0 i hi with h1 | ⟨e, he, hb, hx⟩
    · simp at h1
    · refine ⟨e, by simpa using he, hb, ?_⟩
      rcases hx with hx | hx
      · exact .inl hx
      · right
        have hlt : e.on < acc.length := by
          rcases Nat.lt_or_ge e.on acc.length with h | h
          · exact h
          · simp [List.getD, List.getElem?_eq_none h] at hx
        refine ⟨hlt, ?_⟩
        rw [aheads_prefix l _ _ (by simp; omega)]
        simpa [List.getD, List.getElem?_append_left hlt] using hx
  | x :: l, acc, k + 1, o, h, i, hi => by
    simp only [aheads] at hi ⊢
    have := aheads_get l (acc ++ [x.after.foldl (fun s e => if Region.binds .any e then s ||| 2 ^ e.on ||| acc.getD e.on 0 else s) 0]) k o (by simpa using h) i (by
      rw [List.length_append, List.length_singleton, show acc.length + 1 + k = acc.length + (k + 1) by omega]; exact hi)
    obtain ⟨e, he, hb, hx⟩ := this
    refine ⟨e, he, hb, hx.imp id (fun ⟨h1, h2⟩ => ⟨?_, h2⟩)⟩
    simp at h1; omega

/-- What a mask tells has come, where what is asked for at once has, and all that has come had. -/
theorem mask_listed {ops : List Oper} {L : Nat → Bool} (hcl : ∀ (j : Nat) o, ops[j]? = some o → L j = true → ∀ e ∈ o.after, Region.binds .any e = true → L e.on = true) :
    ∀ (k : Nat) (o : Oper), ops[k]? = some o → (∀ e ∈ o.after, Region.binds .any e = true → L e.on = true) → ∀ i, ((aheads ops []).getD k 0).testBit i = true → L i = true := by
  intro k
  induction k using Nat.strongRecOn with
  | _ k ih =>
    intro o ho hpre i hi
    obtain ⟨e, he, hb, hx⟩ := aheads_get ops [] k o ho i (by simpa using hi)
    have hle := hpre e he hb
    rcases hx with rfl | ⟨hlt, hx⟩
    · exact hle
    · simp only [List.length_nil, Nat.zero_add] at hlt
      have hlt' : e.on < ops.length := Nat.lt_trans hlt (List.getElem?_eq_some_iff.1 ho).1
      have hget : ops[e.on]? = some ops[e.on] := List.getElem?_eq_getElem hlt'
      exact ih e.on hlt _ hget (hcl e.on _ hget hle) i hx
end Go.Dm
