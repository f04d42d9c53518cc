/-
  The data machine, part Y: from a row's arguments to data; from data back to the row.
-/
import Derived.Test.YthadbladkbfcmaaDmX
import Derived.ProofKit
import Derived.OpenShut
import Derived.ChangeCalls
namespace Go.Dm
open Go.RowKit Go.ChangeShapes Go.WideShapes

/-- What may stand in a place of type t. -/
def Typ (P : Program) : Nat → TypeId → List C → Prop
  | 0, _, _ => False
  | f + 1, t, xs =>
    match P.underlying t with
    | some .bool => ∃ b, xs = [.raw (.bool b)]
    | some (.int k) => ∃ n, xs = [.raw (.int k n)] ∧ (Lit.int k n).wf = true
    | some .string => ∃ s : ByteArray, xs = [.raw (.string s)] ∧ s.size ≤ maxLen
    | some (.slice e) => ∃ es, xs = [.slice (P.cellsOf e) es] ∧ es.length ≤ maxLen ∧ ∀ x ∈ es, Typ P f e x
    | some (.array n e) => ∃ es : List (List C), xs = es.flatten ∧ es.length = n ∧ ∀ x ∈ es, Typ P f e x
    | some (.struct fs) => ∃ ps : List (List C), xs = ps.flatten ∧ All2 (fun g x => Typ P f g.type x) fs.toList ps
    | _ => False

/-- The fields lie one behind the other. -/
def inRow (P : Program) : List Field → Nat → Option Nat
  | [], o => some o
  | f :: fs, o => if f.offset = o then inRow P fs (o + P.cellsOf f.type) else none

def plainTy (P : Program) : Nat → TypeId → Bool
  | 0, _ => false
  | f + 1, t =>
    match P.underlying t with
    | some .bool | some (.int _) | some .string => true
    | some (.slice e) => decide (0 < P.cellsOf e) && plainTy P f e
    | some (.array n e) => decide (P.cellsOf t = n * P.cellsOf e) && plainTy P f e
    | some (.struct fs) => decide (inRow P fs.toList 0 = some (P.cellsOf t)) && fs.toList.all (fun g => plainTy P f g.type)
    | _ => false

section
variable {H : Type} {enc : TypeId × Value → H} {P : Program} {w : World} {base : Nat} {held : Bool}

def FrOf (w : World) : Nat → Nat → Prop := fun b _ => b < w.heap.size

theorem cut_rows {R : List C → Prop} {sz : Nat} : ∀ {n : Nat} {cs : List Value}, cs.length = n * sz → (∀ i, i < n → ∃ ys, R ys ∧ All2 (C.rep (FrOf w) w) ys ((cs.drop (i * sz)).take sz)) →
    ∃ es : List (List C), es.length = n ∧ (∀ x ∈ es, R x) ∧ All2 (C.rep (FrOf w) w) es.flatten cs
  | 0, cs, hl, _ => by
    have : cs = [] := List.eq_nil_of_length_eq_zero (by simpa using hl)
    subst this
    exact ⟨[], rfl, by simp, trivial⟩
  | n + 1, cs, hl, h => by
    obtain ⟨ys, hy, hr⟩ := h 0 (by omega)
    rw [Nat.zero_mul, List.drop_zero] at hr
    obtain ⟨es, h1, h2, h3⟩ := cut_rows (n := n) (sz := sz) (cs := cs.drop sz) (by rw [List.length_drop, hl, Nat.succ_mul]; omega) (fun i hi => by
      obtain ⟨ys, hy, hr⟩ := h (i + 1) (by omega)
      refine ⟨ys, hy, ?_⟩
      rw [List.drop_drop]
      rwa [show sz + i * sz = (i + 1) * sz by rw [Nat.succ_mul]; omega])
    refine ⟨ys :: es, by simp [h1], ?_, ?_⟩
    · intro x hx
      rcases List.mem_cons.1 hx with rfl | hx
      · exact hy
      · exact h2 x hx
    · rw [List.flatten_cons]
      have := hr.append h3
      rwa [List.take_append_drop] at this

theorem cut_fields {R : Field → List C → Prop} : ∀ {fs : List Field} {o m : Nat} {cs : List Value}, inRow P fs o = some m → o + cs.length = m → (∀ f ∈ fs, ∃ ys, R f ys ∧ All2 (C.rep (FrOf w) w) ys ((cs.drop (f.offset - o)).take (P.cellsOf f.type))) → (∀ f ∈ fs, o ≤ f.offset) →
    ∃ ps : List (List C), All2 R fs ps ∧ All2 (C.rep (FrOf w) w) ps.flatten cs
  | [], o, m, cs, hm, hl, _, _ => by
    simp only [inRow, Option.some.injEq] at hm
    have : cs = [] := List.eq_nil_of_length_eq_zero (by omega)
    subst this
    exact ⟨[], trivial, trivial⟩
  | f :: fs, o, m, cs, hm, hl, h, ho => by
    simp only [inRow] at hm
    split at hm
    · rename_i hf
      obtain ⟨ys, hy, hr⟩ := h f (by simp)
      rw [hf, Nat.sub_self, List.drop_zero] at hr
      have hge : ∀ {gs : List Field} {a b : Nat}, inRow P gs a = some b → a ≤ b := by
        intro gs
        induction gs with
        | nil => intro a b h; simp only [inRow, Option.some.injEq] at h; omega
        | cons g gs ih => intro a b h; simp only [inRow] at h; split at h
                          · have := ih h; omega
                          · cases h
      have hall : ∀ {gs : List Field} {a b : Nat}, inRow P gs a = some b → ∀ g ∈ gs, a ≤ g.offset := by
        intro gs
        induction gs with
        | nil => intro a b h g hg; simp at hg
        | cons g gs ih =>
          intro a b h g' hg'
          simp only [inRow] at h
          split at h
          · rename_i hga
            rcases List.mem_cons.1 hg' with rfl | hg'
            · omega
            · have := ih h g' hg'; omega
          · cases h
      have hle := hge hm
      obtain ⟨ps, h1, h2⟩ := cut_fields (R := R) (cs := cs.drop (P.cellsOf f.type)) hm (by rw [List.length_drop]; omega) (fun g hg => by
        obtain ⟨ys, hy, hr⟩ := h g (by simp [hg])
        refine ⟨ys, hy, ?_⟩
        have := hall hm g hg
        rw [List.drop_drop]
        rwa [show P.cellsOf f.type + (g.offset - (o + P.cellsOf f.type)) = g.offset - o by omega]) (hall hm)
      refine ⟨ys :: ps, ⟨hy, h1⟩, ?_⟩
      rw [List.flatten_cons]
      have := hr.append h2
      rwa [List.take_append_drop] at this
    · cases hm

theorem mapM_get' {α β : Type} {f : α → Option β} : ∀ {xs : List α} {ys : List β}, xs.mapM f = some ys → ∀ (i : Nat) (x : α), xs[i]? = some x → ∃ y, ys[i]? = some y ∧ f x = some y
  | [], ys, h, i, x, hx => by simp at hx
  | a :: xs, ys, h, i, x, hx => by
    rw [List.mapM_cons] at h
    simp only [Option.pure_def, Option.bind_eq_bind, Option.bind_eq_some_iff, Option.some.injEq] at h
    obtain ⟨z, hz, zs, hzs, rfl⟩ := h
    cases i with
    | zero => simp at hx; subst hx; exact ⟨z, rfl, hz⟩
    | succ i => simp at hx ⊢; exact mapM_get' hzs i x hx

theorem cells?_some {a : Addr} {n : Nat} {vs : List Value} (h : w.cells? base a n = some vs) : vs.length = n ∧ ∀ j, j < n → ∃ v, vs[j]? = some v ∧ w.cell? (a.add j) = some v := by
  unfold World.cells? at h
  split at h
  · refine ⟨by have := mapM_length h; simpa using this, fun j hj => ?_⟩
    obtain ⟨y, h1, h2⟩ := mapM_get' h j j (by simp [hj])
    exact ⟨y, h1, h2⟩
  · cases h

theorem spot_none {a : Addr} {v : Value} (h : w.cell? a = some v) : a.spot = none := by
  unfold World.cell? at h
  split at h
  · split at h
    · cases h
    · rename_i hs; cases hq : a.spot with
      | none => rfl
      | some _ => rw [hq] at hs; simp at hs
  · cases h

theorem add_none {b o n : Nat} : (⟨b, o, none⟩ : Addr).add n = ⟨b, o + n, none⟩ := by
  unfold Addr.add
  split
  · rename_i h; subst h; rfl
  · rfl

/-- **WHAT IS READ IS DATA.** -/
theorem typ_of_trod : ∀ (n : Nat) {t : TypeId} {fuel : Nat} {cs : List Value} {x : DataW H × List MemPlace}, plainTy P n t = true → DataW.trod enc P w base (fun _ => true) held fuel t cs = some x →
    ∃ xs, Typ P n t xs ∧ All2 (C.rep (FrOf w) w) xs cs
  | 0, t, fuel, cs, x, hp, _ => by simp [plainTy] at hp
  | n + 1, t, fuel, cs, x, hp, h => by
    simp only [plainTy] at hp
    split at hp
    · rename_i hu
      obtain ⟨b, rfl, _⟩ := DataW.trod_bool hu h
      exact ⟨[.raw (.bool b)], by simp only [Typ, hu]; exact ⟨b, rfl⟩, (by unfold C.rep; exact ⟨rfl, rfl⟩), trivial⟩
    · rename_i k hu
      obtain ⟨i, rfl, _, hw⟩ := DataW.trod_int hu h
      exact ⟨[.raw (.int k i)], by simp only [Typ, hu]; exact ⟨i, rfl, hw⟩, (by unfold C.rep; exact ⟨rfl, rfl⟩), trivial⟩
    · rename_i hu
      obtain ⟨s, rfl, _, hs⟩ := DataW.trod_string hu h
      exact ⟨[.raw (.string s)], by simp only [Typ, hu]; exact ⟨s, rfl, hs⟩, (by unfold C.rep; exact ⟨rfl, rfl⟩), trivial⟩
    · rename_i e hu
      simp only [Bool.and_eq_true, decide_eq_true_eq] at hp
      obtain ⟨hpos, hp⟩ := hp
      rcases DataW.trod_slice hu h with ⟨rfl, _⟩ | ⟨a, len, cap, elems, rest, m, _, rfl, _, hb, hlc, hcm, hel, hget, hsp, _⟩
      · refine ⟨[.slice (P.cellsOf e) []], by simp only [Typ, hu]; exact ⟨[], rfl, by simp, by simp⟩, ?_, trivial⟩
        simp only [C.rep]
        exact ⟨none, 0, 0, rfl, rfl, Nat.le_refl _, .inl ⟨rfl, rfl⟩⟩
      · have hread : ∀ i, i < len → ∃ vs ys, w.cells? base (a.add (i * P.cellsOf e)) (P.cellsOf e) = some vs ∧ Typ P n e ys ∧ All2 (C.rep (FrOf w) w) ys vs := fun i hi => by
          have hg := hget i hi
          rw [List.getElem?_eq_getElem (by omega)] at hg
          simp only [Option.bind_eq_some_iff] at hg
          obtain ⟨vs, h1, h2⟩ := hg
          obtain ⟨ys, h3, h4⟩ := typ_of_trod n hp h2
          exact ⟨vs, ys, h1, h3, h4⟩
        by_cases hcap : cap = 0
        · have : len = 0 := by omega
          subst this; subst hcap
          refine ⟨[.slice (P.cellsOf e) []], by simp only [Typ, hu]; exact ⟨[], rfl, by simp, by simp⟩, ?_, trivial⟩
          simp only [C.rep]
          exact ⟨some a, 0, 0, rfl, rfl, Nat.le_refl _, .inl ⟨rfl, rfl⟩⟩
        · have hspot : a.spot = none := by
            have hz : ∀ {i : Nat}, i * P.cellsOf e = 0 → ∀ vs, w.cells? base (a.add (i * P.cellsOf e)) (P.cellsOf e) = some vs → a.spot = none := fun {i} hi vs hv => by
              obtain ⟨_, h2⟩ := cells?_some hv
              obtain ⟨v, _, h3⟩ := h2 0 hpos
              rw [hi] at h3
              simpa [Addr.add] using spot_none h3
            by_cases hl : len = 0
            · obtain ⟨hr1, hr2⟩ := hsp rfl
              have hg := hr2 0 (by omega)
              rw [List.getElem?_eq_getElem (by omega)] at hg
              simp only [Option.bind_eq_some_iff] at hg
              obtain ⟨vs, h1, _⟩ := hg
              exact hz (by simp [hl]) vs h1
            · obtain ⟨vs, _, h1, _⟩ := hread 0 (by omega)
              exact hz (by simp) vs h1
          obtain ⟨b, o, sp⟩ := a
          simp only at hspot
          subst hspot
          have hrows : ∀ k i, i + k = len → ∃ es : List (List C), es.length = k ∧ (∀ x ∈ es, Typ P n e x) ∧ rowsAt (FrOf w) w (P.cellsOf e) b es (o + i * P.cellsOf e) := by
            intro k
            induction k with
            | zero => intro i _; exact ⟨[], rfl, by simp, by simp only [rowsAt]⟩
            | succ k ih =>
              intro i hi
              obtain ⟨es, h1, h2, h3⟩ := ih (i + 1) (by omega)
              obtain ⟨vs, ys, g1, g2, g3⟩ := hread i (by omega)
              obtain ⟨c1, c2⟩ := cells?_some g1
              refine ⟨ys :: es, by simp [h1], ?_, ?_⟩
              · intro x hx
                rcases List.mem_cons.1 hx with rfl | hx
                · exact g2
                · exact h2 x hx
              · simp only [rowsAt]
                refine ⟨by rw [g3.length, c1], cellsAt_of fun j c hj => ?_, by rwa [show o + i * P.cellsOf e + P.cellsOf e = o + (i + 1) * P.cellsOf e by rw [Nat.succ_mul]; omega]⟩
                have hjl : j < P.cellsOf e := by
                  have := (List.getElem?_eq_some_iff.1 hj).1
                  rw [g3.length, c1] at this
                  exact this
                obtain ⟨v, q1, q2⟩ := c2 j hjl
                rw [add_none, add_none] at q2
                obtain ⟨v', q3, q4⟩ := g3.get j c hj
                rw [q1] at q3; cases q3
                exact ⟨World.block_lt_of_cell? w _ q2, v, q2, q4⟩
          obtain ⟨es, h1, h2, h3⟩ := hrows len 0 (by omega)
          rw [Nat.zero_mul, Nat.add_zero] at h3
          refine ⟨[.slice (P.cellsOf e) es], by simp only [Typ, hu]; exact ⟨es, rfl, by omega, h2⟩, ?_, trivial⟩
          simp only [C.rep]
          exact ⟨some ⟨b, o, none⟩, len, cap, rfl, h1.symm, hlc, .inr ⟨b, o, rfl, h3⟩⟩
    · rename_i k e hu
      simp only [Bool.and_eq_true, decide_eq_true_eq] at hp
      obtain ⟨hsz, hp⟩ := hp
      obtain ⟨xs, m, _, _, hcl, hxl, hget⟩ := DataW.trod_array hu h
      obtain ⟨es, h1, h2, h3⟩ := cut_rows (w := w) (R := Typ P n e) (n := k) (sz := P.cellsOf e) (cs := cs) (by rw [hcl, hsz]) (fun i hi => by
        have hg := hget i hi
        rw [List.getElem?_eq_getElem (by omega)] at hg
        exact typ_of_trod n hp hg)
      exact ⟨es.flatten, by simp only [Typ, hu]; exact ⟨es, rfl, h1, h2⟩, h3⟩
    · rename_i fs hu
      simp only [Bool.and_eq_true, decide_eq_true_eq] at hp
      obtain ⟨hrow, hp⟩ := hp
      obtain ⟨xs, m, _, _, hcl, hxl, hget⟩ := DataW.trod_struct hu h
      obtain ⟨ps, h1, h2⟩ := cut_fields (w := w) (P := P) (R := fun g x => Typ P n g.type x) (cs := cs) hrow (by omega) (fun f hf => by
        obtain ⟨i, hi, rfl⟩ := List.getElem_of_mem hf
        have hi' : i < fs.size := by simpa using hi
        have hg := hget i fs[i] (by simp [hi'])
        rw [List.getElem?_eq_getElem (by omega)] at hg
        have hpt := List.all_eq_true.1 hp _ hf
        have := typ_of_trod n hpt (by simpa using hg)
        simpa using this) (fun _ _ => Nat.zero_le _)
      exact ⟨ps.flatten, by simp only [Typ, hu]; exact ⟨ps, rfl, h1⟩, h2⟩
    · cases hp

def mkA (P : Program) (t : TypeId) (xs : List C) : A :=
  match aggOf P t with
  | some true => .agg xs
  | _ => match xs with
    | [x] => .c x
    | xs => .agg xs

theorem arg_of {n : Nat} {t : TypeId} {v : Value} {d : DataW H} {ps : List MemPlace} {r : Reach} {b0 : Nat} (hp : plainTy P n t = true) (hv : Value.okWide P w r b0 t v) (h : DataW.Trod enc P w base (fun _ => true) held t v d ps) :
    ∃ xs, Typ P n t xs ∧ (mkA P t xs).rep (FrOf w) w [] v := by
  obtain ⟨fuel, hf⟩ := h
  obtain ⟨xs, h1, h2⟩ := typ_of_trod n hp hf
  refine ⟨xs, h1, ?_⟩
  cases n with
  | zero => simp [plainTy] at hp
  | succ n =>
    simp only [plainTy] at hp
    have agg : ∀ cs : Array Value, v = .agg cs → aggOf P t = some true → (mkA P t xs).rep (FrOf w) w [] v := fun cs hcs ha => by
      subst hcs
      simp only [mkA, ha, A.rep]
      exact ⟨cs.toList, by simp, by simpa [Value.cells] using h2⟩
    have one : ∀ x, xs = [x] → aggOf P t ≠ some true → v.cells.toList = [v] → (mkA P t xs).rep (FrOf w) w [] v := fun x hx ha hc => by
      subst hx
      rw [hc] at h2
      unfold mkA
      split
      · rename_i he; exact absurd he ha
      · exact h2.1
    split at hp
    · rename_i hu
      simp only [Typ, hu] at h1
      obtain ⟨b, rfl⟩ := h1
      simp only [Value.okWide, hu, Cell.okWide] at hv
      exact one _ rfl (by simp [aggOf, hu, TypeDesc.isRow]) (by cases v <;> simp_all [Cell.ok, Value.cells])
    · rename_i k hu
      simp only [Typ, hu] at h1
      obtain ⟨b, rfl, _⟩ := h1
      simp only [Value.okWide, hu, Cell.okWide] at hv
      exact one _ rfl (by simp [aggOf, hu, TypeDesc.isRow]) (by cases v <;> simp_all [Cell.ok, Value.cells])
    · rename_i hu
      simp only [Typ, hu] at h1
      obtain ⟨b, rfl, _⟩ := h1
      simp only [Value.okWide, hu, Cell.okWide] at hv
      exact one _ rfl (by simp [aggOf, hu, TypeDesc.isRow]) (by cases v <;> simp_all [Cell.ok, Value.cells])
    · rename_i e hu
      simp only [Typ, hu] at h1
      obtain ⟨es, rfl, _⟩ := h1
      simp only [Value.okWide, hu, Cell.okWide] at hv
      exact one _ rfl (by simp [aggOf, hu, TypeDesc.isRow]) (by cases v <;> simp_all [Cell.ok, Value.cells])
    · rename_i k e hu
      simp only [Value.okWide, hu] at hv
      obtain ⟨cs, rfl, _⟩ := hv
      exact agg cs rfl (by simp [aggOf, hu, TypeDesc.isRow])
    · rename_i fs hu
      simp only [Value.okWide, hu] at hv
      obtain ⟨cs, rfl, _⟩ := hv
      exact agg cs rfl (by simp [aggOf, hu, TypeDesc.isRow])
    · cases hp

def mkAs (P : Program) : List TypeId → List (List C) → List A
  | t :: ts, x :: xs => mkA P t x :: mkAs P ts xs
  | _, _ => []

theorem args_of {n : Nat} {r : Reach} {b0 : Nat} : ∀ {ts : List TypeId} {vs : List Value} {ds : List (DataW H)} {ps : List MemPlace}, ts.all (fun t => plainTy P n t) = true → (∀ (j : Nat) t v, ts[j]? = some t → vs[j]? = some v → Value.okWide P w r b0 t v) → DataW.TrodAll enc P w base (fun _ => true) held ts vs ds ps →
    ∃ xss, All2 (Typ P n) ts xss ∧ All2 (A.rep (FrOf w) w []) (mkAs P ts xss) vs
  | [], vs, ds, ps, _, _, h => by
    obtain ⟨rfl, _, _⟩ := trodAll_nil h
    exact ⟨[], trivial, trivial⟩
  | t :: ts, vs, ds, ps, hp, hv, h => by
    obtain ⟨v, vs', d, ds', p, q, rfl, rfl, rfl, h1, h2⟩ := trodAll_cons h
    simp only [List.all_cons, Bool.and_eq_true] at hp
    obtain ⟨xs, g1, g2⟩ := arg_of hp.1 (hv 0 t v rfl rfl) h1
    obtain ⟨xss, g3, g4⟩ := args_of hp.2 (fun j t' v' ht hv' => hv (j + 1) t' v' (by simpa using ht) (by simpa using hv')) h2
    exact ⟨xs :: xss, ⟨g1, g3⟩, ⟨g2, g4⟩⟩

theorem trodAll_stays {W' : World} {sp' : Nat → Bool} (hl : laidOutB P = true) : ∀ {ts : List TypeId} {vs : List Value} {ds : List (DataW H)} {ps : List MemPlace}, (∀ t ∈ ts, P.readableRec t = true ∧ t < P.types.size) → DataW.TrodAll enc P w base (fun _ => true) true ts vs ds ps → (∀ p ∈ ps, w.sameAt W' p) → (∀ p ∈ ps, sp' p.block = true) →
    DataW.TrodAll enc P W' base sp' true ts vs ds ps
  | [], vs, ds, ps, _, h, _, _ => by
    obtain ⟨rfl, rfl, rfl⟩ := trodAll_nil h
    rfl
  | t :: ts, vs, ds, ps, ht, h, hs, hsp => by
    obtain ⟨v, vs', d, ds', p, q, rfl, rfl, rfl, h1, h2⟩ := trodAll_cons h
    exact ⟨p, q, WideElems.Trod_stays hl (ht t (by simp)).1 (ht t (by simp)).2 h1 (fun x hx => hs x (by simp [hx])) (fun x hx => hsp x (by simp [hx])), trodAll_stays hl (fun t' ht' => ht t' (by simp [ht'])) h2 (fun x hx => hs x (by simp [hx])) (fun x hx => hsp x (by simp [hx])), rfl⟩

end

/-- **A LAW THAT IS TRUE OF ALL DATA: ITS ROW'S CONTRACT.** -/
theorem law_contract {H : Type} {enc : TypeId × Value → H} {P : Program} {f : FuncId} {fn : Func} {s : ChangeSpec} {E : Env} (hE : EnvOk E) (hP : E.P = P) {n : Nat} {tb : TypeId}
    (hl : laidOutB P = true) (hr : ∀ t ∈ fn.params.toList, P.readableRec t = true ∧ t < P.types.size) (hp : fn.params.toList.all (fun t => plainTy P n t) = true) (hv : s.vars = [])
    (hs : ∀ ds : List (DataW H), ds.length = fn.params.toList.length → s.fn H ds = { results := [.lit (.bool true)], args := ds }) (hrt : fn.resultTypes = #[tb]) (hb : P.underlying tb = some .bool)
    (law : ∀ xss, All2 (Typ P n) fn.params.toList xss → E.F f (mkAs P fn.params.toList xss) [] = some ([.c (.raw (.bool true))], []))
    (W : World) (hgl : Globs E.gl (FrOf W) W) (base : Nat) (args : Array Value) (ds gs : List (DataW H)) (before : List MemPlace)
    (hval : ∀ (j : Nat) t v, fn.params[j]? = some t → args[j]? = some v → Value.okWide P W .any base t v) (hW : DataW.Whole enc P fn.params.toList s.vars false W args.toList ds gs before) :
    Calls P f args W fun e W' => ∃ v, e = .returned v ∧ s.post enc P fn false true false false W args v W' := by
  subst hP
  have hW' := hW
  obtain ⟨p, q, hA, hV, rfl, _, _⟩ := hW
  rw [hv] at hV
  obtain ⟨rfl, rfl⟩ := trodVars_none hV
  obtain ⟨xss, hx, hrep⟩ := args_of (n := n) (r := .any) (b0 := base) hp (fun j t v ht hv => hval j t v (by simpa using ht) (by simpa using hv)) hA
  obtain ⟨_, hmeets⟩ := hE.call _ _ _ _ _ (law xss hx)
  have hm := hmeets (FrOf W) W [] args.toList (fun b _ h => h) hgl trivial (fun i j cs ds p q _ hi => by simp at hi) hrep
  rw [Array.toArray_toList] at hm
  refine hm.mono fun e W' hpost => ?_
  obtain ⟨us, Fr', rfl, hbb, _, _, hres, _⟩ := hpost
  have hbel : Below W.heap.size W W' := (hbb.mono (imp' := fun _ _ => False) (fun b o h => inLent_nil h)).below
  cases us with
  | nil => exact hres.elim
  | cons u us =>
    cases us with
    | cons _ _ => exact hres.2.elim
    | nil =>
      have hu : u = .bool true := by
        have := hres.1
        simp only [Res.rep, C.rep] at this
        exact this.1
      subst hu
      have hlt := hW'.lt
      refine ⟨.bool true, rfl, ds, [], p ++ [], [], p, [], hW', ?_, ?_, ?_, hbel.frame _, fun h => by cases h⟩
      · rw [List.append_nil, hs ds (by have := DataWlen hA; exact this)]
        rw [hrt]
        exact trodAll_mk1 (shut_bool hb true)
      · rw [List.append_nil, hs ds (by have := DataWlen hA; exact this)]
        exact trodAll_stays hl hr hA (fun x hx => hbel.same (hlt x (by simp [hx]))) (fun x hx => by simpa using hlt x (by simp [hx]))
      · rw [hv, List.append_nil, hs ds (by have := DataWlen hA; exact this)]
        rfl
where
  DataWlen {H : Type} {enc : TypeId × Value → H} {P : Program} {w : World} {base : Nat} {sp : Nat → Bool} {held : Bool} {ts : List TypeId} {vs : List Value} {ds : List (DataW H)} {ps : List MemPlace} (h : DataW.TrodAll enc P w base sp held ts vs ds ps) : ds.length = ts.length := (trodAll_length h).2
end Go.Dm
