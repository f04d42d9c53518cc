/-
  The data machine, part F: what a function's data say of its call; the pure operations.
-/
import Derived.Test.YthadbladkbfcmaaDmE
namespace Go.Dm
open Go.RowKit

/-! ### Contracts -/
/-- The lent cells hold their data, and may be written. -/
def lentAt (Fr : Nat → Nat → Prop) (w : World) (cs : List C) (p : Nat × Nat) : Prop :=
  (∃ vs : List Value, All2 (C.rep Fr w) cs vs ∧ w.rangeAt p.1 p.2 vs) ∧ w.there p.1 p.2 cs.length ∧ ∀ j, j < cs.length → ¬ Fr p.1 (p.2 + j)

def A.rep (Fr : Nat → Nat → Prop) (w : World) (locs : List (Nat × Nat)) : A → Value → Prop
  | .c x, v => x.rep Fr w v
  | .agg xs, v => ∃ vs : List Value, v = .agg vs.toArray ∧ All2 (C.rep Fr w) xs vs
  | .imp k, v => ∃ b o, locs[k]? = some (b, o) ∧ v = .pointer (some ⟨b, o, none⟩)
  | .nil, v => ∃ a, v = .slice a 0 0

/-- A slice that may be appended to: its length is its capacity, or its row is new and what lies behind is nobody's. -/
def topOk (Fr : Nat → Nat → Prop) (n0 : Nat) (w : World) (sz n : Nat) (v : Value) : Prop :=
  ∃ base cap, v = .slice base n cap ∧ n ≤ cap ∧ (cap = n ∨ ∃ b, base = some ⟨b, 0, none⟩ ∧ n0 ≤ b ∧ (∃ arr e, w.heap[b]? = some (.cells arr e (0, 0)) ∧ cap * sz ≤ arr.size) ∧ ∀ o, n * sz ≤ o → ¬ Fr b o)

def Res.rep (Fr : Nat → Nat → Prop) (n0 : Nat) (w : World) : Res → Value → Prop
  | .c x, v => x.rep Fr w v
  | .agg xs, v => ∃ vs : List Value, v = .agg vs.toArray ∧ All2 (C.rep Fr w) xs vs
  | .top sz es, v => (C.slice sz es).rep Fr w v ∧ topOk Fr n0 w sz es.length v

/-- The block of a slice with spare capacity. -/
def spareBlock : Value → Option Nat
  | .slice (some a) n cap => if cap = n then none else some a.block
  | _ => none

/-- No two of what may be appended to lie in one block. -/
def topsApart : List Res → List Value → Prop
  | [], _ => True
  | _ :: _, [] => True
  | .top _ _ :: rs, v :: vs => (∀ (j : Nat) sz es u, rs[j]? = some (.top sz es) → vs[j]? = some u → ∀ b, spareBlock v = some b → spareBlock u ≠ some b) ∧ topsApart rs vs
  | _ :: rs, _ :: vs => topsApart rs vs

def tupOf (vs : List Value) : Value :=
  match vs with
  | [v] => v
  | vs => .tuple vs.toArray

/-- The cells that are lent. -/
def inLent (ims : List (List C)) (locs : List (Nat × Nat)) (b o : Nat) : Prop :=
  ∃ (k : Nat) (cs : List C) (p : Nat × Nat), ims[k]? = some cs ∧ locs[k]? = some p ∧ p.1 = b ∧ p.2 ≤ o ∧ o < p.2 + cs.length

def lentApart (ims : List (List C)) (locs : List (Nat × Nat)) : Prop :=
  ∀ (i j : Nat) cs ds p q, i ≠ j → ims[i]? = some cs → ims[j]? = some ds → locs[i]? = some p → locs[j]? = some q → p.1 ≠ q.1 ∨ p.2 + cs.length ≤ q.2 ∨ q.2 + ds.length ≤ p.2

/-- The globals that are known hold their data, for good. -/
def Globs (gl : Nat → Option (List C)) (Fr : Nat → Nat → Prop) (w : World) : Prop := ∀ g cs, gl g = some cs → cellsAt Fr w g cs 0

theorem Globs.mono {gl : Nat → Option (List C)} {Fr Fr' : Nat → Nat → Prop} {w w' : World} (h : Globs gl Fr w) (he : Ev Fr Fr' w w') : Globs gl Fr' w' := fun g cs hg => cellsAt.mono he g cs 0 (h g cs hg)

/-- What a call makes of data, told of the model. -/
def Meets (P : Program) (gl : Nat → Option (List C)) (f : FuncId) (xs : List A) (ims : List (List C)) (rs : List Res) (ims' : List (List C)) : Prop :=
  ∀ (Fr : Nat → Nat → Prop) (w : World) (locs : List (Nat × Nat)) (vs : List Value), (∀ b o, Fr b o → b < w.heap.size) → Globs gl Fr w → All2 (lentAt Fr w) ims locs → lentApart ims locs → All2 (A.rep Fr w locs) xs vs →
    Calls P f vs.toArray w fun e w' => ∃ (us : List Value) (Fr' : Nat → Nat → Prop), e = .returned (tupOf us) ∧ BelowBut (inLent ims locs) w w' ∧ (∀ b o, Fr b o → Fr' b o) ∧
      (∀ b o, Fr' b o → Fr b o ∨ (w.heap.size ≤ b ∧ b < w'.heap.size)) ∧ All2 (Res.rep Fr' w.heap.size w') rs us ∧ topsApart rs us ∧ All2 (lentAt Fr' w') ims' locs ∧ ims'.map List.length = ims.map List.length

def Enters (P : Program) (f : FuncId) : Prop := ∃ fn, P.funcs[f]? = some fn ∧ fn.body.isSome = true ∧ (fn.name == "runtime.NumGoroutine") = false

structure EnvOk (E : Env) : Prop where
  call : ∀ f xs ims rs ims', E.F f xs ims = some (rs, ims') → Enters E.P f ∧ Meets E.P E.gl f xs ims rs ims'

/-! ### Operands -/
theorem plainV_one {v : Value} (h : plainV v = true) : v.oneCell' = true := by
  cases v <;> simp_all [plainV, Value.oneCell']

theorem ofValue_rep {γ : Gh} {tok : Nat → Option Nat} {w : World} {v : Value} {x : V} (h : ofValue v = some x) : x.rep γ tok w v := by
  unfold ofValue at h
  split at h
  · cases h
    exact ⟨by simp only [C.rep]; exact ⟨none, 0, 0, rfl, rfl, Nat.le_refl _, .inl ⟨rfl, rfl⟩⟩, none, 0, rfl⟩
  · split at h
    · cases h; simp only [V.rep, C.rep, true_and]; exact plainV_one (by assumption)
    · cases h

theorem mapM_all2 {α β : Type} {R : β → α → Prop} {f : α → Option β} (hf : ∀ a b, f a = some b → R b a) : ∀ {xs : List α} {ys : List β}, xs.mapM f = some ys → All2 R ys xs
  | [], ys, h => by simp at h; subst h; trivial
  | x :: xs, ys, h => by
    rw [List.mapM_cons] at h
    simp only [Option.pure_def, Option.bind_eq_bind, Option.bind_eq_some_iff, Option.some.injEq] at h
    obtain ⟨y, hy, zs, hz, rfl⟩ := h
    exact ⟨hf _ _ hy, mapM_all2 hf hz⟩

theorem ofValueK_rep {γ : Gh} {tok : Nat → Option Nat} {w : World} {v : Value} {x : K} (h : ofValueK v = some x) : x.rep γ tok w v := by
  unfold ofValueK at h
  split at h
  · rename_i cs
    simp only [Option.map_eq_some_iff] at h
    obtain ⟨xs, hx, rfl⟩ := h
    exact ⟨cs.toList, by simp, mapM_all2 (R := V.rep γ tok w) (fun a b hab => ofValue_rep hab) hx⟩
  · simp only [Option.map_eq_some_iff] at h
    obtain ⟨x, hx, rfl⟩ := h
    exact ofValue_rep hx

theorem V.fit_rep {γ : Gh} {tok : Nat → Option Nat} {w : World} {sz : Nat} {x : V} {v : Value} (h : x.rep γ tok w v) : (x.fit sz).rep γ tok w v := by
  unfold V.fit
  split
  · simp only [V.rep, tkRep] at h ⊢
    refine ⟨?_, h.2⟩
    have h1 := h.1
    simp only [C.rep] at h1 ⊢
    obtain ⟨a', len, cap, heq, h3, h4, h5⟩ := h1
    refine ⟨a', len, cap, heq, h3, h4, ?_⟩
    rcases h5 with h5 | ⟨b, o, h5, _⟩
    · exact .inl h5
    · exact .inr ⟨b, o, h5, by simp only [rowsAt]⟩
  · exact h
theorem fitVs_rep {γ : Gh} {tok : Nat → Option Nat} {w : World} : ∀ {ss : List Nat} {xs : List V} {vs : List Value}, All2 (V.rep γ tok w) xs vs → All2 (V.rep γ tok w) (fitVs ss xs) vs
  | [], xs, vs, h => by cases xs <;> exact h
  | _ :: _, [], [], h => h
  | _ :: _, _ :: _, _ :: _, h => ⟨V.fit_rep h.1, fitVs_rep h.2⟩
  | _ :: _, [], _ :: _, h => h.elim
  | _ :: _, _ :: _, [], h => h.elim
theorem fitAgg_rep {P : Program} {t : TypeId} {γ : Gh} {tok : Nat → Option Nat} {w : World} {xs : List V} {vs : List Value} (h : All2 (V.rep γ tok w) xs vs) : All2 (V.rep γ tok w) (fitAgg P t xs) vs := by
  unfold fitAgg
  split
  · exact fitVs_rep h
  · exact h
theorem fitV_rep {P : Program} {t : TypeId} {γ : Gh} {tok : Nat → Option Nat} {w : World} {x : V} {v : Value} (h : x.rep γ tok w v) : (fitV P t x).rep γ tok w v := by
  unfold fitV
  split
  · split
    · exact V.fit_rep (sz := _) h
    · exact h
  · exact h
theorem fitT_rep {P : Program} {t : TypeId} {γ : Gh} {tok : Nat → Option Nat} {w : World} {x : T} {v : Value} (h : x.rep γ tok w v) : (fitT P t x).rep γ tok w v := by
  unfold fitT
  split
  · exact fitV_rep h
  · obtain ⟨vs, rfl, h⟩ := h
    exact ⟨vs, rfl, fitAgg_rep h⟩
  · exact h
theorem fitArgs_rep {P : Program} {γ : Gh} {tok : Nat → Option Nat} {w : World} : ∀ {ts : List TypeId} {xs : List T} {vs : List Value}, All2 (T.rep γ tok w) xs vs → All2 (T.rep γ tok w) (fitArgs P ts xs) vs
  | [], xs, vs, h => by cases xs <;> exact h
  | _ :: _, [], [], h => h
  | _ :: _, x :: xs, v :: vs, h => by
    cases x with
    | k y => cases y with
      | agg ys => exact ⟨fitT_rep (x := .k (.agg ys)) h.1, fitArgs_rep h.2⟩
      | v y => exact ⟨h.1, fitArgs_rep h.2⟩
    | tup ks => exact ⟨h.1, fitArgs_rep h.2⟩
    | hole => exact ⟨h.1, fitArgs_rep h.2⟩
    | skip => exact ⟨h.1, fitArgs_rep h.2⟩
  | _ :: _, [], _ :: _, h => h.elim
  | _ :: _, _ :: _, [], h => h.elim

theorem ev_rep {E : Env} {F : Fm} {γ : Gh} {m : Mem} {a : Act} {w : World} (h : Rel F γ m a w) (hg : Globs E.gl γ.fr w) (x : Operand) : (E.ev m x).rep γ m.tok w (a.eval x) := by
  cases x with
  | tmp t => exact h.tmps t
  | const v =>
    simp only [Env.ev, Act.eval]
    split
    · rename_i k hk; exact ofValueK_rep hk
    · trivial
  | global g =>
    simp only [Env.ev, Act.eval]
    split
    · rename_i cs hcs
      simp only [T.rep, K.rep, V.rep, C.rep]
      exact ⟨g, 0, rfl, hg g cs hcs⟩
    · trivial
  | func f =>
    simp only [Env.ev, Act.eval, T.rep, K.rep, V.rep]
    exact ⟨[], rfl, trivial⟩

theorem cell?_eq {t : T} {x : V} (h : t.cell? = some x) : t = .k (.v x) := by
  unfold T.cell? at h
  split at h <;> cases h; rfl
theorem k?_eq {t : T} {x : K} (h : t.k? = some x) : t = .k x := by
  unfold T.k? at h
  split at h <;> cases h; rfl
theorem raw?_eq {t : T} {x : Value} (h : t.raw? = some x) : t = .pure x := by
  unfold T.raw? at h
  split at h <;> cases h; rfl
theorem int?_eq {t : T} {q : IntKind} {n : Int} (h : t.int? = some (q, n)) : t = .pure (.int q n) := by
  unfold T.int? at h
  split at h
  · rename_i hr; cases h; exact raw?_eq hr
  · cases h
theorem bool?_eq {t : T} {b : Bool} (h : t.bool? = some b) : t = .pure (.bool b) := by
  unfold T.bool? at h
  split at h
  · rename_i hr; cases h; exact raw?_eq hr
  · cases h

theorem pure_rep {γ : Gh} {tok : Nat → Option Nat} {w : World} {v u : Value} : (T.pure v).rep γ tok w u ↔ u = v ∧ v.oneCell' = true := by
  simp only [T.pure, T.rep, K.rep, V.rep, C.rep]

/-! ### An operation that hands back a value and leaves the world -/
def lk {α : Type} : List (Nat × α) → Nat → Option α
  | [], _ => none
  | (i, x) :: r, j => match lk r j with | some y => some y | none => if i = j then some x else none

def Mem.apply (m : Mem) (d : Option Tmp) (nv : Nat) (e : Eff) : Mem :=
  { tmp := fun t => if d = some t then e.dst else m.tmp t
    var := fun i => if i = nv ∧ e.nv.isSome then e.nv else match lk e.uv i with | some x => some x | none => m.var i
    tok := fun i => match lk e.ut i with | some n => some n | none => m.tok i }

theorem Mem.apply_pure (m : Mem) (d : Option Tmp) (nv : Nat) (x : T) (rv rt : List Nat) : m.apply d nv { dst := x, rv, rt } = m.put d x := by
  cases d with
  | none => simp [Mem.apply, Mem.put, lk]
  | some d =>
    simp only [Mem.apply, Mem.put, lk, Option.isSome_none, Bool.false_eq_true, and_false, if_false, Option.some.injEq]
    congr 1
    funext t
    by_cases h : d = t
    · simp [h]
    · simp [h, Ne.symm h]

/-- What is asked behind an operation. -/
def After (E : Env) (F : Fm) (m' : Mem) (a' : Act) (w' : World) : Prop :=
  ∃ γ' : Gh, Rel F γ' m' a' w' ∧ Globs E.gl γ'.fr w'

theorem wp_value {P : Program} {o : Oper} {a : Act} {w w' : World} {v : Value} {K : Act → World → Prop} {Q : Exit → Act → World → Prop} (hrun : (execOp a.eval o).run P w = .ok (.value v) w') (hK : K (a.put o.dst v) w') : o.wp P a w K Q := by
  unfold Oper.wp
  rw [hrun]
  exact hK

theorem pure_sound {E : Env} {F : Fm} {γ : Gh} {m : Mem} {a : Act} {w : World} (h : Rel F γ m a w) (hg : Globs E.gl γ.fr w) {o : Oper} (hd : ∀ t, o.dst = some t → t < F.n) {x : T} {v : Value} {nv : Nat} {rv rt : List Nat}
    (hrun : (execOp a.eval o).run E.P w = .ok (.value v) w) (hx : x.rep γ m.tok w v) {Q : Exit → Act → World → Prop} :
    o.wp E.P a w (After E F (m.apply o.dst nv { dst := x, rv, rt })) Q :=
  wp_value hrun ⟨γ, by rw [Mem.apply_pure]; exact h.put hd hx, hg⟩

/-! ### Reading -/
theorem V.cells_rep {γ : Gh} {tok : Nat → Option Nat} {w : World} {cs : List C} {vs : List Value} (h : All2 (C.rep γ.fr w) cs vs) : All2 (V.rep γ tok w) (cs.map .c) vs := by
  apply All2.map_left
  exact h.mono (fun a b hab => by simpa only [V.rep] using hab)

theorem rangeAt_drop {w : World} {b o : Nat} {vs : List Value} (h : w.rangeAt b o vs) (n : Nat) : w.rangeAt b (o + n) (vs.drop n) := fun j v hv => by
  rw [List.getElem?_drop] at hv
  have := h _ v hv
  rwa [show o + (n + j) = o + n + j by omega] at this

theorem rangeAt_take {w : World} {b o : Nat} {vs : List Value} (h : w.rangeAt b o vs) (n : Nat) : w.rangeAt b o (vs.take n) := fun j v hv => by
  rw [List.getElem?_take] at hv
  split at hv
  · exact h j v hv
  · cases hv

theorem info_of_underlying {P : Program} {t : TypeId} {d : TypeDesc} (h : P.underlying t = some d) : ∃ i, P.info? t = some i := by
  unfold Program.underlying at h
  split at h
  · rename_i i _; exact ⟨_, by assumption⟩
  · rename_i i _ _; exact ⟨_, by assumption⟩
  · cases h

theorem cellsOf_info {P : Program} {t : TypeId} {i : TypeInfo} (h : P.info? t = some i) : P.cellsOf t = i.size := by simp [Program.cellsOf, h]

theorem run_sizeOf {P : Program} {t : TypeId} {i : TypeInfo} (h : P.info? t = some i) (w : World) : (sizeOf t).run P w = .ok (P.cellsOf t) w := by
  simp [sizeOf, typeInfo, h, cellsOf_info h]

theorem run_isAgg {P : Program} {t : TypeId} {d : TypeDesc} (h : P.underlying t = some d) (w : World) : (isAgg t).run P w = .ok d.isRow w := by
  unfold isAgg
  rw [Sem.run_bind, run_underlying h w]
  cases d <;> simp

theorem run_readAt {P : Program} {γ : Gh} {tok : Nat → Option Nat} {w : World} {t : TypeId} {xs : List V} {vs : List Value} {k : K} {b o : Nat} (h : readAt P t xs = some k) (hx : All2 (V.rep γ tok w) xs vs) (hr : w.rangeAt b o vs) :
    ∃ v, (Instr.loadAt t (.pointer (some ⟨b, o, none⟩))).run P w = .ok v w ∧ k.rep γ tok w v := by
  unfold readAt aggOf at h
  cases hu : P.underlying t with
  | none => simp [hu] at h
  | some d =>
    obtain ⟨i, hi⟩ := info_of_underlying hu
    cases hd : d.isRow with
    | true =>
      simp only [hu, Option.map_some, hd] at h
      split at h
      · rename_i hle
        cases h
        have hlen := hx.length
        have hl2 : (vs.take (P.cellsOf t)).length = P.cellsOf t := by rw [List.length_take]; omega
        refine ⟨.agg (vs.take (P.cellsOf t)).toArray, ?_, ⟨_, rfl, hx.take _⟩⟩
        exact run_loadAt_mid w b o t _ d (rangeAt_take hr _) hu hd (by rw [hi, hl2, cellsOf_info hi]; rfl)
      · cases h
    | false =>
      simp only [hu, Option.map_some, hd] at h
      cases xs with
      | nil => simp at h
      | cons x xs =>
        cases vs with
        | nil => exact hx.elim
        | cons v vs =>
          simp at h
          subst h
          refine ⟨v, ?_, hx.1⟩
          have hc := hr 0 v rfl
          simp only [Instr.loadAt, Instr.sureAddr, loadVar, Sem.run_bind, Sem.run_pure, Result.andThen_ok, run_isAgg hu, hd, Bool.false_eq_true, if_false, run_load]
          rw [show (⟨b, o, none⟩ : Addr) = ⟨b, o + 0, none⟩ from rfl, hc]

theorem load_sound {E : Env} {F : Fm} {γ : Gh} {m : Mem} {a : Act} {w : World} (h : Rel F γ m a w) (hg : Globs E.gl γ.fr w) {o : Oper} (hd : ∀ t, o.dst = some t → t < F.n) {nv nt : Nat} {t : TypeId} {x : Operand} (ho : o.op = .load t x) {e : Eff}
    (he : evalOp E m nv nt o = some e) {Q : Exit → Act → World → Prop} : o.wp E.P a w (After E F (m.apply o.dst nv e)) Q := by
  have hx := ev_rep h hg x
  simp only [evalOp, ho] at he
  split at he
  · rename_i id off hc
    rw [cell?_eq hc] at hx
    simp only [T.rep, K.rep, V.rep] at hx
    obtain ⟨b, o', hl, hp⟩ := hx
    split at he
    · rename_i xs hv
      simp only [Option.map_eq_some_iff] at he
      obtain ⟨k, hk, rfl⟩ := he
      obtain ⟨b', o'', h1, ⟨vs, h2, h3⟩, _⟩ := h.vars id xs hv
      rw [hl] at h1; cases h1
      obtain ⟨v, hrun, hrep⟩ := run_readAt hk (h2.drop off) (rangeAt_drop h3 off)
      refine pure_sound h hg hd (v := v) ?_ (by simpa only [T.rep] using hrep)
      simp only [execOp, ho, hp, Sem.run_bind, hrun, Result.andThen_ok, Sem.run_pure]
    · cases he
  · rename_i cells hc
    rw [cell?_eq hc] at hx
    simp only [T.rep, K.rep, V.rep, C.rep] at hx
    obtain ⟨b, o', hp, hcs⟩ := hx
    simp only [Option.map_eq_some_iff] at he
    obtain ⟨k, hk, rfl⟩ := he
    obtain ⟨vs, h2, h3⟩ := cellsAt_vals hcs
    obtain ⟨v, hrun, hrep⟩ := run_readAt (γ := γ) (tok := m.tok) hk (V.cells_rep h2) h3
    refine pure_sound h hg hd (v := v) ?_ (by simpa only [T.rep] using hrep)
    simp only [execOp, ho, hp, Sem.run_bind, hrun, Result.andThen_ok, Sem.run_pure]
  · cases he
end Go.Dm
