/-
  The data machine, part K: append.
-/
import Derived.Test.YthadbladkbfcmaaDmJ
import Derived.Deep.Upon
namespace Go.Dm
open Go.RowKit

/-- The cells of a slice, as values. -/
theorem slice_vals {P : Program} {Fr : Nat → Nat → Prop} {w : World} {sz size : Nat} {es : List (List C)} {a : Option Addr} {n cap : Nat} (h : (C.slice sz es).rep Fr w (.slice a n cap)) (hs : sz = size ∨ es = []) :
    n = es.length ∧ n ≤ cap ∧ (∀ e ∈ es, e.length = size) ∧ ∃ vs : List Value, All2 (C.rep Fr w) es.flatten vs ∧ vs.length = n * size ∧ (∀ u ∈ vs, u.oneCell' = true) ∧
      ((vs = [] ∧ n = 0 ∧ cap = 0) ∨ ∃ b o, a = some ⟨b, o, none⟩ ∧ w.rangeAt b o vs) ∧
      (Builtin.firstCells size n (.slice a n cap)).run P w.drew = .ok vs.toArray w.drew := by
  simp only [C.rep] at h
  obtain ⟨a', n', cap', heq, rfl, hle, hb⟩ := h
  simp only [Value.slice.injEq] at heq
  obtain ⟨rfl, rfl, rfl⟩ := heq
  have one : ∀ {vs : List Value}, All2 (C.rep Fr w) es.flatten vs → ∀ u ∈ vs, u.oneCell' = true := fun {vs} hv u hu => by
    obtain ⟨i, hi, rfl⟩ := List.getElem_of_mem hu
    have hlen := hv.length
    obtain ⟨u', hu', hr⟩ := hv.get i _ (List.getElem?_eq_getElem (by omega))
    rw [List.getElem?_eq_getElem hi] at hu'
    cases hu'
    exact C.rep_one hr
  rcases hb with ⟨h0, hc0⟩ | ⟨b, o, rfl, hr⟩
  · have : es = [] := List.eq_nil_of_length_eq_zero h0
    subst this
    refine ⟨rfl, hle, by simp, [], trivial, by simp, by simp, .inl ⟨rfl, rfl, hc0⟩, ?_⟩
    cases a with
    | none => exact run_firstCells_none w.drew size 0 0 _
    | some ad => exact run_firstCells_some w.drew size _ ad _ _ [] (by simp) (fun j u hj => by simp at hj)
  · have hsz : ∀ e ∈ es, e.length = size := by
      rcases hs with rfl | rfl
      · exact rowsAt_sizes hr
      · simp
    obtain ⟨vs, h1, h2⟩ := cellsAt_vals (rowsAt_cells hr)
    have hlen : vs.length = es.length * size := by rw [← h1.length, flatten_len hsz]
    refine ⟨rfl, hle, hsz, vs, h1, hlen, one h1, .inr ⟨b, o, rfl, h2⟩, ?_⟩
    exact run_firstCells_some w.drew size _ ⟨b, o, none⟩ _ _ vs hlen (fun j u hj => by
      rw [Addr.add_mid]; simpa using h2 j u hj)

theorem slice_src {P : Program} {Fr : Nat → Nat → Prop} {w : World} {sz size : Nat} {es : List (List C)} {tx e' : TypeId} (hk : P.underlying tx = some (.slice e')) {a : Option Addr} {n cap : Nat} (h : (C.slice sz es).rep Fr w (.slice a n cap)) (hs : sz = size ∨ es = []) :
    ∃ vs : List Value, All2 (C.rep Fr w) es.flatten vs ∧ Src P size tx (.slice a n cap) n vs w := by
  obtain ⟨_, _, _, vs, h1, h2, h3, h4, _⟩ := slice_vals (P := P) h hs
  refine ⟨vs, h1, ?_⟩
  rcases h4 with ⟨rfl, rfl, rfl⟩ | ⟨b, o, rfl, hr⟩
  · cases a with
    | none => exact Src.ofNil w hk 0
    | some ad => exact Src.ofSlice w hk ad 0 0 [] (by simp) (fun j u hj => by simp at hj) (by simp)
  · exact Src.ofSlice w hk ⟨b, o, none⟩ n cap vs h2 (fun j u hj => by rw [Addr.add_mid]; exact hr j u hj) h3

theorem grownCap_le (w : World) (need old : Nat) (e : TypeId) : need ≤ grownCap w need old e := by
  unfold grownCap Question.cut
  exact Nat.le_add_right _ _

theorem zeroCells_size (zero : Array Value) (n : Nat) : (Builtin.zeroCells zero n).size = n * zero.size := by simp [Builtin.zeroCells]

/-- The rows that stand in a new block. -/
theorem rows_new {Fr Fr' : Nat → Nat → Prop} {w w' : World} (he : Ev Fr Fr' w w') {size b : Nat} {es : List (List C)} {vs : List Value} (hx : All2 (C.rep Fr w) es.flatten vs) (hs : ∀ e ∈ es, e.length = size)
    (hfr : ∀ o, o < es.length * size → Fr' b o) (hr : w'.rangeAt b 0 vs) : rowsAt Fr' w' size b es 0 := by
  refine rowsAt_of_cells hs (cellsAt_of fun i c hi => ?_)
  obtain ⟨v, hv, hrep⟩ := hx.get i c hi
  have hlt : i < es.flatten.length := (List.getElem?_eq_some_iff.1 hi).1
  rw [flatten_len hs] at hlt
  exact ⟨hfr _ (by omega), v, hr i v hv, C.rep.mono he c v hrep⟩

theorem Mem.apply_tok (m : Mem) (d : Option Tmp) (nv i n : Nat) (x : T) (rt : List Nat) : m.apply d nv { dst := x, ut := [(i, n)], rt } = Mem.put { m with tok := fun j => if j = i then some n else m.tok j } d x := by
  have hv : (m.apply d nv { dst := x, ut := [(i, n)], rt }).tok = fun j => if j = i then some n else m.tok j := by
    funext j
    simp only [Mem.apply, lk]
    by_cases h : i = j
    · simp [h]
    · simp [h, Ne.symm h]
  cases d with
  | none =>
    simp only [Mem.put]
    rw [← hv]
    simp [Mem.apply, lk]
  | some d =>
    simp only [Mem.put]
    rw [← hv]
    simp only [Mem.apply, lk, Option.isSome_none, Bool.false_eq_true, and_false, if_false, Option.some.injEq]
    congr 1
    funext t
    by_cases h : d = t
    · simp [h]
    · simp [h, Ne.symm h]

/-- A token for a slice that one may append to. -/
theorem Rel.addTok {F : Fm} {γ : Gh} {m : Mem} {a : Act} {w : World} (h : Rel F γ m a w) {i n : Nat} (hi : m.tok i = none) {k : TkInfo} (hk : n ≤ k.cap ∧ (k.cap = n ∨ ∃ b, k.base = some ⟨b, 0, none⟩ ∧ F.w0.heap.size ≤ b ∧
      (∃ arr e, w.heap[b]? = some (.cells arr e (0, 0)) ∧ k.cap * k.sz ≤ arr.size) ∧ ∀ o, n * k.sz ≤ o → ¬ γ.fr b o))
    (h1 : ∀ j l, m.tok j = some l → (γ.tk j).cap ≠ l → k.cap ≠ n → (γ.tk j).base.map (·.block) ≠ k.base.map (·.block)) (h2 : ∀ id xs b o, m.var id = some xs → γ.loc id = some (b, o) → k.cap ≠ n → k.base.map (·.block) ≠ some b) :
    let γ' : Gh := { γ with tk := fun j => if j = i then k else γ.tk j }
    let m' : Mem := { m with tok := fun j => if j = i then some n else m.tok j }
    Rel F γ' m' a w ∧ Ex γ γ' m.tok m'.tok w w := by
  intro γ' m'
  have hne : ∀ j l, m.tok j = some l → j ≠ i := fun j l hj he => by rw [he, hi] at hj; cases hj
  have hex : Ex γ γ' m.tok m'.tok w w := ⟨.refl _ _, fun _ _ h => h, fun j l hj => .inl ⟨by simp [m', hne j l hj, hj], by simp [γ', hne j l hj]⟩⟩
  refine ⟨?_, hex⟩
  exact {
    defers := h.defers
    size := h.size
    base := h.base
    fr0 := h.fr0
    frs := h.frs
    frlt := h.frlt
    loclt := h.loclt
    tmps := fun t => T.rep.mono hex _ _ (h.tmps t)
    vars := fun id xs hv => by
      obtain ⟨b, o, k1, ⟨vs, k2, k3⟩, k4, k5⟩ := h.vars id xs hv
      exact ⟨b, o, k1, ⟨vs, k2.mono (fun x v => V.rep.mono hex x v), k3⟩, k4, k5⟩
    novar := h.novar
    lentloc := h.lentloc
    apart := h.apart
    toks := fun j l hj => by
      by_cases he : j = i
      · subst he
        simp only [m', if_true, Option.some.injEq] at hj
        subst hj
        simpa [TokOk, γ'] using hk
      · simp only [m', he, if_false] at hj
        simpa [TokOk, γ', he] using h.toks j l hj
    tapart := fun j l x y hjl hj hl hcj hcl => by
      by_cases he : j = i
      · subst he
        have hl' : l ≠ j := Ne.symm hjl
        simp only [m', γ', hl', if_false, if_true, Option.some.injEq] at hj hl hcj hcl ⊢
        subst hj
        exact fun heq => h1 l y hl hcl hcj heq.symm
      · by_cases he' : l = i
        · subst he'
          simp only [m', γ', he, if_false, if_true, Option.some.injEq] at hj hl hcj hcl ⊢
          subst hl
          exact h1 j x hj hcj hcl
        · simp only [m', γ', he, he', if_false] at hj hl hcj hcl ⊢
          exact h.tapart j l x y hjl hj hl hcj hcl
    tvar := fun j x id xs b o hj hv hl hcj => by
      by_cases he : j = i
      · subst he
        simp only [m', γ', if_true, Option.some.injEq] at hj hcj ⊢
        subst hj
        exact h2 id xs b o hv hl hcj
      · simp only [m', γ', he, if_false] at hj hcj ⊢
        exact h.tvar j x id xs b o hj hv hl hcj }

/-- A token for a slice of which length and capacity are one: it may be said of it wherever it stands. -/
theorem Rel.tag {F : Fm} {γ : Gh} {m : Mem} {a : Act} {w : World} (h : Rel F γ m a w) {j sz z : Nat} {es : List (List C)} {v : Value} (hj : m.tok j = none) (hv : (V.own sz es .exact).rep γ m.tok w v) :
    ∃ γ' : Gh, Rel F γ' { m with tok := fun i => if i = j then some es.length else m.tok i } a w ∧ Ex γ γ' m.tok (fun i => if i = j then some es.length else m.tok i) w w ∧ γ'.loc = γ.loc ∧ (V.own (if es.isEmpty then z else sz) es (.tok j)).rep γ' (fun i => if i = j then some es.length else m.tok i) w v := by
  simp only [V.rep, tkRep] at hv
  obtain ⟨hs, ba, n, rfl⟩ := hv
  have hn : n = es.length := by
    simp only [C.rep] at hs
    obtain ⟨_, _, _, heq, h1, _⟩ := hs
    simp only [Value.slice.injEq] at heq
    omega
  subst hn
  obtain ⟨h1, h2⟩ := h.addTok (i := j) (n := es.length) hj (k := ⟨ba, es.length, if es.isEmpty then z else sz⟩) ⟨Nat.le_refl _, .inl rfl⟩ (fun _ _ _ _ hc => absurd rfl hc) (fun _ _ _ _ _ _ hc => absurd rfl hc)
  refine ⟨_, h1, h2, rfl, ?_⟩
  simp only [V.rep, tkRep]
  refine ⟨?_, es.length, by simp, Nat.le_refl _, fun _ => ⟨by simp, by simp⟩⟩
  cases es with
  | nil =>
    simp only [C.rep] at hs ⊢
    obtain ⟨a', len, cap, heq, h3, h4, h5⟩ := hs
    refine ⟨a', len, cap, heq, h3, h4, ?_⟩
    rcases h5 with h5 | ⟨b, o, h5, _⟩
    · exact .inl h5
    · exact .inr ⟨b, o, h5, by simp only [rowsAt]⟩
  | cons e es => simpa using hs

theorem append_sound {E : Env} {F : Fm} {γ : Gh} {m : Mem} {a : Act} {w : World} (h : Rel F γ m a w) (hg : Globs E.gl γ.fr w) {o : Oper} (hd : ∀ t, o.dst = some t → t < F.n) {nv nt : Nat} {args : Array Operand} {argTypes : Array TypeId}
    (ho : o.op = .call { callee := .builtin .append, args, argTypes }) {e : Eff} (he : appendT E.P m nt argTypes.toList (args.toList.map (E.ev m)) = some e) (hnt : ∀ i n, (i, n) ∈ e.ut → i ∉ e.rt → m.tok i = none) {Q : Exit → Act → World → Prop} :
    o.wp E.P a w (After E F (m.apply o.dst nv e)) Q := by
  unfold appendT at he
  split at he
  · rename_i t tx s x hty hargs
    have hargs' : ∃ so xo, args.toList = [so, xo] ∧ s = E.ev m so ∧ x = E.ev m xo := by
      match hq : args.toList with
      | [] => rw [hq] at hargs; cases hargs
      | [_] => rw [hq] at hargs; simp at hargs
      | [so, xo] => rw [hq] at hargs; simp at hargs; exact ⟨so, xo, rfl, hargs.1.symm, hargs.2.symm⟩
      | _ :: _ :: _ :: _ => rw [hq] at hargs; simp at hargs
    obtain ⟨so, xo, hal, rfl, rfl⟩ := hargs'
    have hae : args = #[so, xo] := by rw [← Array.toArray_toList (xs := args), hal]
    have hte : argTypes = #[t, tx] := by rw [← Array.toArray_toList (xs := argTypes), hty]
    have hexec : ∀ (v : Value) (w' : World), (Builtin.append_ #[t, tx] o.type #[a.eval so, a.eval xo]).run E.P w = .ok v w' → (execOp a.eval o).run E.P w = .ok (.value v) w' := fun v w' hrun => by
      simp only [execOp, ho, resolve, invoke, builtin, Sem.run_bind, Sem.run_pure, Result.andThen_ok, hae, hte]
      simp [hrun]
    have hs := ev_rep h hg so
    have hx := ev_rep h hg xo
    split at he
    · rename_i el sz es tk sz' fs hu hcs happ
      unfold appended at happ
      split at happ
      · rename_i el' v hux hcx
        rw [cell?_eq hcs] at hs
        rw [cell?_eq hcx] at hx
        simp only [T.rep, K.rep] at hs hx
        have hxr := sliceOf_rep happ hx
        split at he
        · rename_i i hi
          split at he
          · rename_i hcond
            obtain ⟨hpos, hbytes, hzero, hsz, hsz', hmost⟩ := hcond
            obtain ⟨z, hz, hzs⟩ : ∃ z, i.zero = some z ∧ z.cells.size = i.size := by
              cases hq : i.zero with
              | none => simp [hq] at hzero
              | some z => exact ⟨z, rfl, by simpa [hq] using hzero⟩
            have hsr := hs.1
            have hsv : ∃ ba n cap, a.eval so = .slice ba n cap := by
              simp only [C.rep] at hsr; obtain ⟨ba, n, cap, hq, _⟩ := hsr; exact ⟨ba, n, cap, hq⟩
            have hxv : ∃ ba n cap, a.eval xo = .slice ba n cap := by
              simp only [C.rep] at hxr; obtain ⟨ba, n, cap, hq, _⟩ := hxr; exact ⟨ba, n, cap, hq⟩
            obtain ⟨ba, n, cap, hsv⟩ := hsv
            obtain ⟨ba', k, cap', hxv⟩ := hxv
            rw [hsv] at hs hsr
            rw [hxv] at hxr
            rw [hsv, hxv] at hexec
            obtain ⟨hn, hncap, hses, olds, holds, hol, hoone, hobase, hofirst⟩ := slice_vals (P := E.P) hsr hsz
            obtain ⟨news, hnews, hsrc⟩ := slice_src hux hxr hsz'
            obtain ⟨hk, _, hsfs, _⟩ := slice_vals (P := E.P) hxr hsz'
            have hnl := hnews.length
            rw [flatten_len hsfs] at hnl
            cases fs with
            | nil => -- nothing is appended
              have hk0 : k = 0 := by simpa using hk
              subst hk0
              have hn0 : news = [] := List.eq_nil_of_length_eq_zero (by rw [← hnl]; simp)
              subst hn0
              have hrun := run_append_nothing w t tx o.type el i hu hi ba n cap hncap _ hsrc
              split at he
              · cases he
                obtain ⟨γ', h1, h2, _, h3⟩ := h.tag (z := i.size) (hnt nt (es ++ []).length (by simp) (by simp)) (v := .slice ba n cap) hs
                refine wp_value (hexec _ _ hrun) ⟨γ', ?_, hg.mono h2.ev⟩
                simp only [List.append_nil]
                rw [Mem.apply_tok]
                refine h1.put hd ?_
                simp only [T.rep, K.rep]
                have hse : (if es.isEmpty then i.size else sz) = i.size := by
                  cases es with
                  | nil => rfl
                  | cons _ _ => rcases hsz with h | h
                                · exact h
                                · cases h
                rw [hse] at h3
                exact h3
              · rename_i j
                split at he
                · rename_i hcj
                  obtain ⟨hszj, htj⟩ := hcj
                  cases he
                  refine wp_value (hexec _ _ hrun) ⟨γ, ?_, hg⟩
                  simp only [List.append_nil]
                  rw [Mem.apply_tok]
                  have hm : ({ m with tok := fun i => if i = j then some es.length else m.tok i } : Mem) = m := by
                    cases m
                    congr 1
                    funext i
                    by_cases hi : i = j
                    · subst hi; simp; exact htj.symm
                    · simp [hi]
                  rw [hm]
                  refine h.put hd ?_
                  simp only [T.rep, K.rep]
                  exact hs
                · cases he
            | cons f0 fr0 =>
              have hkpos : 0 < k := by rw [hk]; simp
              have hall : All2 (C.rep γ.fr w) (es ++ f0 :: fr0).flatten (olds ++ news) := by
                rw [List.flatten_append]; exact holds.append hnews
              have hsall : ∀ y ∈ es ++ f0 :: fr0, y.length = i.size := fun y hy => by
                rcases List.mem_append.1 hy with hy | hy
                · exact hses y hy
                · exact hsfs y hy
              have hlenall : (es ++ f0 :: fr0).length = n + k := by rw [List.length_append, ← hn, ← hk]
              -- a new row
              have grow : ∀ (j : Nat) (_ : m.tok j = none ∨ (m.tok j = some n ∧ n < n + k)) (_ : cap < n + k) (rt : List Nat),
                  o.wp E.P a w (After E F (m.apply o.dst nv { dst := .k (.v (.own i.size (es ++ f0 :: fr0) (.tok j))), ut := [(j, (es ++ f0 :: fr0).length)], rt })) Q := by
                intro j hj hlt rt
                have hmost' : n + k ≤ 1073741824 := by rw [hn, hk]; exact hmost
                have hfit : Builtin.nextslicecap (n + k) cap * i.bytes ≤ 281474976710656 := growslice_fits hlt (by
                  calc (n + k) * i.bytes ≤ 1073741824 * 131072 := Nat.mul_le_mul hmost' hbytes
                    _ ≤ 140737488355328 := by decide)
                have hrun := run_append_grow_src (P := E.P) w t tx o.type el i z hu hi hz ba n cap olds (by
                  have := hofirst
                  simpa [Builtin.firstCells] using this) _ k news hsrc hlt (by omega) hfit
                have hb : Below w.heap.size w (w.drew.alloc (.cells ((olds ++ news).toArray ++ Builtin.zeroCells z.cells (grownCap w (n + k) cap el - (n + k))) el)) :=
                  ((Below.refl _ w).drew).alloc (Nat.le_refl _) _
                have hsize : ((olds ++ news).toArray ++ Builtin.zeroCells z.cells (grownCap w (n + k) cap el - (n + k))).size = grownCap w (n + k) cap el * i.size := by
                  rw [Array.size_append, zeroCells_size, hzs]
                  have e1 : (olds ++ news).toArray.size = (n + k) * i.size := by
                    rw [List.size_toArray, List.length_append, hol, ← hnl, ← hk, Nat.add_mul]
                  rw [e1, ← Nat.add_mul]
                  congr 1
                  have := grownCap_le w (n + k) cap el
                  omega
                obtain ⟨h1, h2⟩ := h.newRow hb (i := j) (n := n) (n' := n + k) (cap := grownCap w (n + k) cap el) (sz := i.size) hj (arr := (olds ++ news).toArray ++ Builtin.zeroCells z.cells (grownCap w (n + k) cap el - (n + k))) (e := el)
                  (by show (w.heap.push _)[w.heap.size]? = _; simp) (grownCap_le _ _ _ _) (by omega)
                refine wp_value (hexec _ _ hrun) ⟨_, ?_, hg.mono h2.ev⟩
                rw [Mem.apply_tok, hlenall]
                refine h1.put hd ?_
                simp only [T.rep, K.rep, V.rep]
                refine ⟨?_, ⟨n + k, by simp, by omega, fun _ => ⟨by simp, by simp⟩⟩⟩
                simp only [C.rep]
                refine ⟨_, _, _, rfl, hlenall.symm, grownCap_le _ _ _ _, .inr ⟨w.heap.size, 0, rfl, ?_⟩⟩
                refine rows_new h2.ev hall hsall (fun o ho => .inr ⟨rfl, by rw [hlenall] at ho; exact ho⟩) (fun q v hq => ?_)
                have := World.cell?_alloc_new w.drew ((olds ++ news).toArray ++ Builtin.zeroCells z.cells (grownCap w (n + k) cap el - (n + k))) el (0 + q)
                simp only [World.size_drew] at this
                rw [this]
                have hql : q < (olds ++ news).length := (List.getElem?_eq_some_iff.1 hq).1
                rw [Nat.zero_add, Array.getElem?_append_left (by simpa using hql)]
                simpa using hq
              split at he
              · -- exact
                cases he
                obtain ⟨a', n', hq⟩ := hs.2
                simp only [Value.slice.injEq] at hq
                exact grow nt (.inl (hnt nt (es ++ f0 :: fr0).length (by simp) (by simp))) (by omega) []
              · rename_i j
                split at he
                · rename_i hcj
                  obtain ⟨hszj, htj⟩ := hcj
                  cases he
                  obtain ⟨n', hn', hle', hfull⟩ := hs.2
                  rw [htj] at hn'
                  cases hn'
                  obtain ⟨hv, hsztk⟩ := hfull rfl
                  simp only [Value.slice.injEq] at hv
                  obtain ⟨hba, _, hcapeq⟩ := hv
                  rw [← hn] at htj
                  subst hszj
                  by_cases hroom : n + k ≤ cap
                  · have hcne : (γ.tk j).cap ≠ n := by omega
                    obtain ⟨_, htok2⟩ := h.toks j n htj
                    obtain ⟨b, hbs, _, _, _⟩ := htok2.resolve_left hcne
                    have hlen2 : news.length = k * (γ.tk j).sz := by rw [← hnl, ← hk, hsztk]
                    obtain ⟨h1, h2, hth⟩ := h.inPlace htj hcne hbs news hlen2 (by omega) hkpos
                    rw [hsztk] at h1 h2 hth
                    rw [hba, hbs] at hexec
                    have hrun := run_append_room_src (P := E.P) w t tx o.type el i hu hi b 0 n cap _ k news hsrc hroom (fun q hq => by
                      rw [Nat.zero_add]; exact (hth q hq).1) (fun q hq => by rw [Nat.zero_add]; exact (hth q hq).2)
                    rw [Nat.zero_add] at hrun
                    refine wp_value (hexec _ _ hrun) ⟨_, ?_, hg.mono h2.ev⟩
                    rw [Mem.apply_tok, hlenall]
                    refine h1.put hd ?_
                    simp only [T.rep, K.rep, V.rep]
                    refine ⟨?_, ⟨n + k, by simp, by omega, fun _ => ⟨by rw [hbs, hcapeq], hsztk⟩⟩⟩
                    simp only [C.rep]
                    refine ⟨_, _, _, rfl, hlenall.symm, hroom, .inr ⟨b, 0, rfl, ?_⟩⟩
                    have hobase' : ∃ b' o', (some ⟨b, 0, none⟩ : Option Addr) = some ⟨b', o', none⟩ ∧ w.rangeAt b' o' olds := by
                      rcases hobase with ⟨_, _, hc0⟩ | ⟨b', o', hq, hr⟩
                      · exfalso; simp only [List.length_cons] at hk; omega
                      · exact ⟨b', o', by rw [← hq, hba, hbs], hr⟩
                    obtain ⟨b', o', hq, hr⟩ := hobase'
                    cases hq
                    have hrow : rowsAt γ.fr w i.size b es 0 := by
                      have hh := hsr
                      simp only [C.rep] at hh
                      obtain ⟨a2, n2, c2, hq2, _, _, hrows⟩ := hh
                      simp only [Value.slice.injEq] at hq2
                      rcases hrows with ⟨_, hc0⟩ | ⟨b3, o3, hq3, hr3⟩
                      · exfalso; simp only [List.length_cons] at hk; omega
                      · rw [← hq2.1, hba, hbs] at hq3; cases hq3; exact hr3
                    refine rowsAt_append (rowsAt.mono h2.ev _ _ _ _ hrow) ?_
                    rw [Nat.zero_add, ← hn]
                    refine rowsAt_of_cells hsfs (cellsAt_of fun q c hqc => ?_)
                    obtain ⟨v, hv, hrep⟩ := hnews.get q c hqc
                    have hql : q < news.length := (List.getElem?_eq_some_iff.1 hv).1
                    refine ⟨.inr ⟨rfl, ?_, by omega⟩, v, ?_, C.rep.mono h2.ev c v hrep⟩
                    · rw [Nat.add_mul]; rw [hsztk] at hlen2; omega
                    · have := World.cell?_setCells_in b news (n * i.size) w (fun q hq => (hth q hq).1) q hql
                      rw [this, ← hv, List.getElem?_eq_getElem hql]
                  · exact grow j (.inr ⟨htj, by omega⟩) (by omega) [j]
                · cases he
          · cases he
        · cases he
      · cases happ
    · cases he
  · cases he
end Go.Dm
