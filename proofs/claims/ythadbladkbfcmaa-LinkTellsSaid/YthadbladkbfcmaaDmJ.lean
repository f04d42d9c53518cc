/-
  The data machine, part J: lengths; functions made; new variables; stores; literals.
-/
import Derived.Test.YthadbladkbfcmaaDmI
import Derived.MapKept
namespace Go.Dm
open Go.RowKit

theorem lenT_sound {P : Program} {γ : Gh} {tok : Nat → Option Nat} {w : World} {t : TypeId} {ts : List TypeId} {ty : TypeId} {x r : T} {a : Value} (h : lenT P t x = some r) (hx : x.rep γ tok w a) :
    ∃ v, (Builtin.len_ (t :: ts).toArray ty #[a]).run P w = .ok v w ∧ r.rep γ tok w v := by
  unfold lenT at h
  split at h
  · rename_i s hu
    cases h
    simp only [T.rep, K.rep, V.rep, C.rep] at hx
    obtain ⟨rfl, _⟩ := hx
    exact ⟨_, by simp [Builtin.len_, run_underlying hu, goInt], pure_rep.2 ⟨rfl, rfl⟩⟩
  · rename_i n e k hu
    cases h
    exact ⟨_, by simp [Builtin.len_, run_underlying hu, goInt], pure_rep.2 ⟨rfl, rfl⟩⟩
  · rename_i e id off sz n hu
    cases h
    simp only [T.rep, K.rep, V.rep] at hx
    obtain ⟨b, o, cap, _, rfl, _⟩ := hx
    exact ⟨_, by simp [Builtin.len_, run_underlying hu, goInt], pure_rep.2 ⟨rfl, rfl⟩⟩
  · rename_i e v _ hu
    split at h
    · rename_i sz es hs
      cases h
      simp only [T.rep, K.rep] at hx
      have hrep := sliceOf_rep hs hx
      simp only [C.rep] at hrep
      obtain ⟨base, len, cap, rfl, rfl, _⟩ := hrep
      exact ⟨_, by simp [Builtin.len_, run_underlying hu, goInt], pure_rep.2 ⟨rfl, rfl⟩⟩
    · cases h
  · rename_i k e es hu
    cases h
    simp only [T.rep, K.rep, V.rep, C.rep] at hx
    obtain ⟨b, ents, clock, rfl, _, hh, rfl⟩ := hx
    refine ⟨.int .i64 ents.size, ?_, pure_rep.2 ⟨by simp, rfl⟩⟩
    simp [Builtin.len_, run_underlying hu, goInt, getObj, Sem.run, hh]
  · cases h

theorem lookV_find {q : IntKind} {n : Int} {qv : IntKind} : ∀ {ents : List MapEntry} {r : Int × Bool} (i : Nat), lookV q n qv (ents.map (fun e => (e.key, e.val))) = some r →
    (r.2 = true ∧ ∃ j, Instr.findNow (.int q) (.int q n) ents i = some (some (j, .int qv r.1))) ∨ (r = (0, false) ∧ Instr.findNow (.int q) (.int q n) ents i = some none)
  | [], r, i, h => by simp [lookV] at h; exact .inr ⟨h.symm, rfl⟩
  | e :: es, r, i, h => by
    obtain ⟨key, val, born⟩ := e
    simp only [List.map_cons] at h
    unfold lookV at h
    split at h
    · rename_i heq; cases heq
    · rename_i a m b x rest heq
      simp only [List.cons.injEq, Prod.mk.injEq] at heq
      obtain ⟨⟨rfl, rfl⟩, rfl⟩ := heq
      split at h
      · rename_i hk
        obtain ⟨rfl, rfl⟩ := hk
        split at h
        · rename_i hnm
          cases h
          refine .inl ⟨rfl, i, ?_⟩
          simp [Instr.findNow, Instr.sameNow, hnm]
        · rename_i hnm
          have hnm' : (n == m) = false := by simpa using hnm
          rcases lookV_find (i + 1) h with ⟨h1, j, h2⟩ | ⟨h1, h2⟩
          · exact .inl ⟨h1, j, by simp [Instr.findNow, Instr.sameNow, hnm', h2]⟩
          · exact .inr ⟨h1, by simp [Instr.findNow, Instr.sameNow, hnm', h2]⟩
      · cases h
    · cases h

theorem lookupT_sound {P : Program} {γ : Gh} {tok : Nat → Option Nat} {w : World} {t : TypeId} {x i r : T} {ok : Bool} {a b : Value} (h : lookupT P t x i ok = some r) (hx : x.rep γ tok w a) (hi : i.rep γ tok w b) :
    ∃ v, (Instr.lookup t a b ok).run P w = .ok v w ∧ r.rep γ tok w v := by
  unfold lookupT at h
  split at h
  · rename_i q n qv es hargs
    simp only [Option.map_eq_some_iff] at h
    obtain ⟨rr, hl, rfl⟩ := h
    unfold lookArgs at hargs
    split at hargs
    · rename_i kt vt hu
      split at hargs
      · rename_i q1 qv1 z es1 q' n1 hk hz hc hr
        split at hargs
        · rename_i hq
          obtain ⟨rfl, rfl⟩ := hq
          cases hargs
          rw [cell?_eq hc] at hx
          rw [raw?_eq hr, pure_rep] at hi
          obtain ⟨rfl, _⟩ := hi
          simp only [T.rep, K.rep, V.rep, C.rep] at hx
          obtain ⟨bl, ents, clock, rfl, _, hh, rfl⟩ := hx
          have hzr : (zeroValue vt).run P w = .ok (.int qv 0) w := by
            cases hi : P.info? vt with
            | none => simp [hi] at hz
            | some inf =>
              simp only [hi, Option.bind_some] at hz
              simp [zeroValue, typeInfo, hi, hz]
          have hck : (Instr.checkKey ents.isEmpty 10000 kt (.int q n)).run P w = .ok () w := MapKept.run_checkKey (d := .int q) hk (by simp [MapKept.IsKey]) _ _
          have hobj : (getObj bl).run P w = .ok (.map ents clock) w := by simp [getObj, Sem.run, hh]
          rcases lookV_find 0 hl with ⟨h1, j, h2⟩ | ⟨h1, h2⟩
          · have hf := MapKept.run_findKey (w := w) hk h2
            refine ⟨if ok then .tuple #[.int qv rr.1, .bool rr.2] else .int qv rr.1, ?_, ?_⟩
            · unfold Instr.lookup
              simp only [Sem.run_bind, run_underlying hu, Result.andThen_ok, hobj, Sem.run_pure, hck, hf, h1]
            · unfold lookOut
              cases ok
              · exact pure_rep.2 ⟨rfl, rfl⟩
              · simp only [if_true, T.rep]
                exact ⟨_, rfl, ⟨by simp [K.rep, V.rep, C.rep, Value.oneCell'], by simp [K.rep, V.rep, C.rep, Value.oneCell'], trivial⟩⟩
          · have hf := MapKept.run_findKey (w := w) hk h2
            subst h1
            refine ⟨if ok then .tuple #[.int qv 0, .bool false] else .int qv 0, ?_, ?_⟩
            · unfold Instr.lookup
              simp only [Sem.run_bind, run_underlying hu, Result.andThen_ok, hobj, Sem.run_pure, hck, hf, hzr]
            · unfold lookOut
              cases ok
              · exact pure_rep.2 ⟨rfl, rfl⟩
              · simp only [if_true, T.rep]
                exact ⟨_, rfl, ⟨by simp [K.rep, V.rep, C.rep, Value.oneCell'], by simp [K.rep, V.rep, C.rep, Value.oneCell'], trivial⟩⟩
        · cases hargs
      · cases hargs
    · cases hargs
  · cases h

theorem minMax_sound {P : Program} {γ : Gh} {tok : Nat → Option Nat} {w : World} (mn : Bool) : ∀ {xs : List T} {vs : List Value} {x r : T} {a : Value}, minMax mn x xs = some r → x.rep γ tok w a → All2 (T.rep γ tok w) xs vs →
    ∃ v, (vs.foldlM (m := Sem) (if mn then Builtin.min2 else Builtin.max2) a).run P w = .ok v w ∧ r.rep γ tok w v
  | [], [], x, r, a, h, hx, _ => by
    simp only [minMax, Option.some.injEq] at h
    subst h
    exact ⟨a, by simp, hx⟩
  | y :: ys, u :: us, x, r, a, h, hx, hys => by
    simp only [minMax] at h
    split at h
    · rename_i k p k' q h1 h2
      split at h
      · rename_i hk
        subst hk
        rw [int?_eq h1, pure_rep] at hx
        have hy := hys.1
        rw [int?_eq h2, pure_rep] at hy
        obtain ⟨rfl, _⟩ := hx
        obtain ⟨rfl, _⟩ := hy
        have hstep : ((if mn then Builtin.min2 else Builtin.max2) (.int k p) (.int k q)).run P w = .ok (.int k (if mn then (if q < p then q else p) else (if q > p then q else p))) w := by
          cases mn <;> simp [Builtin.min2, Builtin.max2]
        obtain ⟨v, h3, h4⟩ := minMax_sound mn h (pure_rep.2 ⟨rfl, rfl⟩) hys.2
        refine ⟨v, ?_, h4⟩
        rw [List.foldlM_cons, Sem.run_bind, hstep, Result.andThen_ok]
        exact h3
      · cases h
    · cases h
  | [], _ :: _, _, _, _, _, _, h => h.elim
  | _ :: _, [], _, _, _, _, _, h => h.elim

theorem toC_rep {γ : Gh} {tok : Nat → Option Nat} {w : World} {x : V} {c : C} {v : Value} (h : x.toC = some c) (hx : x.rep γ tok w v) : c.rep γ.fr w v := by
  unfold V.toC at h
  split at h
  · cases h; simpa only [V.rep] using hx
  · cases h; exact hx.1
  · cases h

theorem captured_sound {γ : Gh} {tok : Nat → Option Nat} {w : World} {x : T} {c : C ⊕ (Nat × Nat)} {v : Value} (h : captured x = some c) (hx : x.rep γ tok w v) : capRep γ w c v := by
  unfold captured at h
  split at h
  · rename_i id off hc
    cases h
    rw [cell?_eq hc] at hx
    simp only [T.rep, K.rep, V.rep] at hx
    exact hx
  · rename_i u _ hc
    simp only [Option.map_eq_some_iff] at h
    obtain ⟨c, hcc, rfl⟩ := h
    rw [cell?_eq hc] at hx
    simp only [T.rep, K.rep] at hx
    exact toC_rep hcc hx
  · cases h

theorem mapM_rep {α β : Type} {R : β → Value → Prop} {f : α → Option β} {g : α → Value} : ∀ {xs : List α} {ys : List β}, (∀ a b, a ∈ xs → f a = some b → R b (g a)) → xs.mapM f = some ys → All2 R ys (xs.map g)
  | [], ys, _, h => by simp at h; subst h; trivial
  | x :: xs, ys, hf, h => by
    rw [List.mapM_cons] at h
    simp only [Option.pure_def, Option.bind_eq_bind, Option.bind_eq_some_iff, Option.some.injEq] at h
    obtain ⟨y, hy, zs, hz, rfl⟩ := h
    exact ⟨hf _ _ (by simp) hy, mapM_rep (fun a b ha => hf a b (by simp [ha])) hz⟩

theorem map_rep {γ : Gh} {tok : Nat → Option Nat} {w : World} {α : Type} {f : α → T} {g : α → Value} (h : ∀ a, (f a).rep γ tok w (g a)) : ∀ (xs : List α), All2 (T.rep γ tok w) (xs.map f) (xs.map g)
  | [] => trivial
  | x :: xs => ⟨h x, map_rep h xs⟩

theorem fitParts_rep {P : Program} {t : TypeId} {γ : Gh} {tok : Nat → Option Nat} {w : World} : ∀ {ps : List (Nat × T)} {qs : List (Nat × Value)}, All2 (fun (p : Nat × T) (q : Nat × Value) => p.1 = q.1 ∧ p.2.rep γ tok w q.2) ps qs → All2 (fun (p : Nat × T) (q : Nat × Value) => p.1 = q.1 ∧ p.2.rep γ tok w q.2) (fitParts P t ps) qs
  | [], [], _ => trivial
  | _ :: _, _ :: _, h => ⟨⟨h.1.1, fitT_rep h.1.2⟩, fitParts_rep h.2⟩
  | [], _ :: _, h => h.elim
  | _ :: _, [], h => h.elim

theorem parts_rep {γ : Gh} {tok : Nat → Option Nat} {w : World} {f : Operand → T} {g : Operand → Value} (h : ∀ a, (f a).rep γ tok w (g a)) : ∀ (ps : List (Nat × Operand)),
    All2 (fun (p : Nat × T) (q : Nat × Value) => p.1 = q.1 ∧ p.2.rep γ tok w q.2) (ps.map fun (i, x) => (i, f x)) (ps.map fun (i, x) => (i, g x))
  | [] => trivial
  | (_, x) :: ps => ⟨⟨rfl, h x⟩, parts_rep h ps⟩

theorem optMap_rep {γ : Gh} {tok : Nat → Option Nat} {w : World} {f : Operand → T} {g : Operand → Value} (h : ∀ a, (f a).rep γ tok w (g a)) (x : Option Operand) : OptRep γ tok w (x.map f) (x.map g) := by
  cases x with
  | none => trivial
  | some x => exact h x

/-! ### A new variable -/
theorem Mem.apply_newVar (m : Mem) (d : Option Tmp) (nv : Nat) (x : T) (xs : List V) : m.apply d nv { dst := x, nv := some xs } = Mem.put { m with var := fun i => if i = nv then some xs else m.var i } d x := by
  cases d with
  | none => simp [Mem.apply, Mem.put, lk]
  | some d =>
    simp only [Mem.apply, Mem.put, lk, Option.isSome_some, and_true, Option.some.injEq]
    congr 1
    funext t
    by_cases h : d = t
    · simp [h]
    · simp [h, Ne.symm h]

theorem newVar_sound {E : Env} {F : Fm} {γ : Gh} {m : Mem} {a : Act} {w : World} (h : Rel F γ m a w) (hg : Globs E.gl γ.fr w) {o : Oper} (hd : ∀ t, o.dst = some t → t < F.n) {nv : Nat} (hnv : m.var nv = none) {xs : List V} {vs : List Value} (hx : All2 (V.rep γ m.tok w) xs vs) {t : TypeId}
    (hrun : (execOp a.eval o).run E.P w = .ok (.value (.pointer (some ⟨w.heap.size, 0, none⟩))) (w.alloc (.cells vs.toArray t))) {Q : Exit → Act → World → Prop} :
    o.wp E.P a w (After E F (m.apply o.dst nv { dst := .k (.v (.ptr nv 0)), nv := some xs })) Q := by
  obtain ⟨h1, h2⟩ := h.newVar hnv hx t
  refine wp_value hrun ⟨_, ?_, hg.mono h2.ev⟩
  rw [Mem.apply_newVar]
  refine h1.put hd ?_
  simp only [T.rep, K.rep, V.rep]
  exact ⟨w.heap.size, 0, by simp, rfl⟩

/-! ### A store -/
theorem Mem.apply_store (m : Mem) (nv id : Nat) (xs : List V) (rv : List Nat) (x : T) (d : Option Tmp) : m.apply d nv { dst := x, uv := [(id, xs)], rv } = Mem.put { m with var := fun i => if i = id then some xs else m.var i } d x := by
  have hv : (m.apply d nv { dst := x, uv := [(id, xs)], rv }).var = fun i => if i = id then some xs else m.var i := by
    funext i
    simp only [Mem.apply, Option.isSome_none, Bool.false_eq_true, and_false, if_false, lk]
    by_cases h : id = i
    · simp [h]
    · simp [h, Ne.symm h]
  cases d with
  | none =>
    simp only [Mem.put]
    rw [← hv]
    simp [Mem.apply, lk]
  | some d =>
    simp only [Mem.put]
    rw [← hv]
    simp only [Mem.apply, lk, Option.some.injEq]
    congr 1
    funext t
    by_cases h : d = t
    · simp [h]
    · simp [h, Ne.symm h]

theorem store_sound {E : Env} {F : Fm} {γ : Gh} {m : Mem} {a : Act} {w : World} (h : Rel F γ m a w) (hg : Globs E.gl γ.fr w) {o : Oper} (hd : ∀ t, o.dst = some t → t < F.n) {nv nt : Nat} {t : TypeId} {x y : Operand} (ho : o.op = .store t x y) {e : Eff}
    (he : evalOp E m nv nt o = some e) {Q : Exit → Act → World → Prop} : o.wp E.P a w (After E F (m.apply o.dst nv e)) Q := by
  have hx := ev_rep h hg x
  have hy := fitT_rep (P := E.P) (t := t) (ev_rep h hg y)
  simp only [evalOp, ho] at he
  split at he
  · rename_i id off k hc hk
    split at he
    · rename_i xs hv
      split at he
      · rename_i hcond
        obtain ⟨hsz, hin, hinfo⟩ := hcond
        cases he
        obtain ⟨i, hi⟩ := Option.isSome_iff_exists.1 hinfo
        rw [cell?_eq hc] at hx
        simp only [T.rep, K.rep, V.rep] at hx
        obtain ⟨b, o', hl, hp⟩ := hx
        rw [k?_eq hk] at hy
        simp only [T.rep] at hy
        have hkc := K.cells_rep hy
        have hlen := hkc.length
        obtain ⟨b', o'', h1, ⟨vs, h2, h3⟩, h4, h5⟩ := h.vars id xs hv
        rw [hl] at h1; cases h1
        have hst := h.store hv hl off hkc (by omega)
        have hex := h.store_ex hv hl off (us := (a.eval y).cells.toList) (by omega)
        have hone : ∀ u ∈ (a.eval y).cells.toList, u.oneCell' = true := fun u hu => by
          obtain ⟨i, hi, rfl⟩ := List.getElem_of_mem hu
          have hik : i < k.cells.length := by omega
          obtain ⟨u', hu', hr⟩ := hkc.get i _ (List.getElem?_eq_getElem hik)
          rw [List.getElem?_eq_getElem hi] at hu'
          cases hu'
          exact V.rep_one hr
        have hrun : (execOp a.eval o).run E.P w = .ok .skip (w.setCells b (o' + off) (a.eval y).cells.toList) := by
          have hstore : (storeVar t ⟨b, o' + off, none⟩ (a.eval y)).run E.P w = .ok () (w.setCells b (o' + off) (a.eval y).cells.toList) := by
            have hth : w.there b (o' + off) (a.eval y).cells.toList.length := fun j hj => by
              have := h4 (off + j) (by omega)
              rwa [show o' + (off + j) = o' + off + j by omega] at this
            have := run_storeCells_cells (P := E.P) b (o' + off) (a.eval y).cells.toList 0 w (fun j hj => by simpa using (hth j hj).1) (fun j hj => by simpa using (hth j hj).2) hone
            simp only [Nat.add_zero] at this
            have hsz' : (a.eval y).cells.size = E.P.cellsOf t := by
              have : (a.eval y).cells.toList.length = (a.eval y).cells.size := by simp
              omega
            simp [storeVar, run_sizeOf hi, hsz', this]
          simp only [execOp, ho, hp, Instr.storeAt, Instr.sureAddr, Sem.run_bind, Sem.run_pure, Result.andThen_ok, hstore]
        unfold Oper.wp
        rw [hrun]
        refine ⟨γ, ?_, hg.mono hex.ev⟩
        rw [Mem.apply_store]
        refine hst.put hd ?_
        simp only [T.rep]
      · cases he
    · cases he
  · cases he

/-! ### A slice's literal -/
theorem toCs_rep {γ : Gh} {tok : Nat → Option Nat} {w : World} : ∀ {xs : List V} {e : List C} {us : List Value}, xs.mapM V.toC = some e → All2 (V.rep γ tok w) xs us → All2 (C.rep γ.fr w) e us
  | [], e, [], h, _ => by simp at h; subst h; trivial
  | y :: ys, e, u :: us, h, hu => by
    rw [List.mapM_cons] at h
    simp only [Option.pure_def, Option.bind_eq_bind, Option.bind_eq_some_iff, Option.some.injEq] at h
    obtain ⟨c, hcc, cs, hcs, rfl⟩ := h
    exact ⟨toC_rep hcc hu.1, toCs_rep hcs hu.2⟩
  | [], _, _ :: _, _, h => h.elim
  | _ :: _, _, [], _, h => h.elim

theorem flatten_set {α : Type} {size : Nat} : ∀ {es : List (List α)} {i : Nat} {e : List α}, (∀ x ∈ es, x.length = size) → i < es.length → e.length = size →
    (es.set i e).flatten = es.flatten.take (i * size) ++ e ++ es.flatten.drop (i * size + e.length)
  | x :: es, 0, e, h, _, he => by
    have := h x (by simp)
    simp only [List.set_cons_zero, List.flatten_cons, Nat.zero_mul, List.take_zero, List.nil_append, Nat.zero_add]
    rw [List.drop_append, List.drop_eq_nil_of_le (by omega), show e.length - x.length = 0 by omega]
    simp
  | x :: es, i + 1, e, h, hi, he => by
    have hx := h x (by simp)
    have ih := flatten_set (es := es) (i := i) (e := e) (fun y hy => h y (by simp [hy])) (by simpa using hi) he
    simp only [List.set_cons_succ, List.flatten_cons, ih]
    have e1 : List.take ((i + 1) * size) x = x := List.take_of_length_le (by rw [Nat.succ_mul]; omega)
    have e2 : List.drop ((i + 1) * size + e.length) x = [] := List.drop_eq_nil_of_le (by rw [Nat.succ_mul]; omega)
    rw [List.take_append, List.drop_append, e1, e2]
    rw [show (i + 1) * size - x.length = i * size by rw [Nat.succ_mul]; omega, show (i + 1) * size + e.length - x.length = i * size + e.length by rw [Nat.succ_mul]; omega]
    simp [List.append_assoc]
  | [], i, e, _, hi, _ => by simp at hi

theorem flatten_len {α : Type} {size : Nat} : ∀ {es : List (List α)}, (∀ x ∈ es, x.length = size) → es.flatten.length = es.length * size
  | [], _ => by simp
  | x :: es, h => by
    simp only [List.flatten_cons, List.length_append, List.length_cons, flatten_len (es := es) (fun y hy => h y (by simp [hy])), h x (by simp), Nat.succ_mul]
    omega

theorem All2.spliceC {R : C → Value → Prop} {xs ys : List C} {vs us : List Value} (h : All2 R xs vs) (k : All2 R ys us) (off : Nat) :
    All2 R (xs.take off ++ ys ++ xs.drop (off + ys.length)) (vs.take off ++ us ++ vs.drop (off + us.length)) := by
  rw [k.length]
  exact ((h.take off).append k).append (h.drop _)

theorem fillE_sound {γ : Gh} {tok : Nat → Option Nat} {w : World} {size len : Nat} : ∀ {parts : List (Nat × T)} {vals : List (Nat × Value)} {es es' : List (List C)} {vs : Array Value},
    All2 (fun (p : Nat × T) (q : Nat × Value) => p.1 = q.1 ∧ p.2.rep γ tok w q.2) parts vals → fillE size len es parts = some es' → es.length = len → (∀ e ∈ es, e.length = size) → All2 (C.rep γ.fr w) es.flatten vs.toList →
    ∃ vs' : Array Value, Instr.fill (fun i => some (i * size, size)) vs vals = some vs' ∧ All2 (C.rep γ.fr w) es'.flatten vs'.toList ∧ es'.length = len ∧ (∀ e ∈ es', e.length = size)
  | [], [], es, es', vs, _, h, hl, hs, hc => by simp [fillE] at h; subst h; exact ⟨vs, rfl, hc, hl, hs⟩
  | (i, x) :: parts, (j, v) :: vals, es, es', vs, hpv, h, hl, hs, hc => by
    obtain ⟨⟨hij, hx⟩, hrest⟩ := hpv
    simp only at hij hx
    subst hij
    simp only [fillE] at h
    split at h
    · rename_i k hk
      split at h
      · rename_i e he
        split at h
        · rename_i hcond
          obtain ⟨hesz, hil⟩ := hcond
          rw [k?_eq hk] at hx
          simp only [T.rep] at hx
          have hec := toCs_rep he (K.cells_rep hx)
          have hlen := hec.length
          have hcl := hc.length
          rw [flatten_len hs, hl] at hcl
          simp only [Array.length_toList] at hlen hcl
          have hmul : i * size + size ≤ len * size := by rw [← Nat.succ_mul]; exact Nat.mul_le_mul_right _ hil
          have hin : i * size + v.cells.toList.length ≤ vs.size := by simp; omega
          have hnew : All2 (C.rep γ.fr w) (es.set i e).flatten (setFrom vs (i * size) v.cells.toList).toList := by
            rw [setFrom_toList _ _ _ hin, flatten_set hs (by omega) hesz]
            exact hc.spliceC hec (i * size)
          have hs' : ∀ y ∈ es.set i e, y.length = size := fun y hy => by
            rcases List.mem_or_eq_of_mem_set hy with hy | rfl
            · exact hs y hy
            · exact hesz
          obtain ⟨vs', h1, h2, h3⟩ := fillE_sound hrest h (by simpa using hl) hs' hnew
          refine ⟨vs', ?_, h2, h3⟩
          simp only [Instr.fill]
          rw [if_neg (by simp; omega), fill_part]
          exact h1
        · cases h
      · cases h
    · cases h
  | [], _ :: _, _, _, _, h, _, _, _, _ => h.elim
  | _ :: _, [], _, _, _, h, _, _, _, _ => h.elim

theorem zeros_list {z : List Value} (n : Nat) : ((List.range (n * z.length)).map fun i => z.getD (i % z.length) undef) = (List.replicate n z).flatten := by
  induction n with
  | zero => simp
  | succ n ih =>
    rw [Nat.succ_mul, List.range_add, List.map_append, ih, List.replicate_succ', List.flatten_append]
    congr 1
    simp only [List.map_map, List.flatten_cons, List.flatten_nil, List.append_nil]
    apply List.ext_getElem?
    intro i
    by_cases hi : i < z.length
    · simp [hi, Nat.mod_eq_of_lt hi]
    · simp [hi]

theorem rep_replicate {Fr : Nat → Nat → Prop} {w : World} {z : List C} {zs : List Value} (h : All2 (C.rep Fr w) z zs) : ∀ (n : Nat), All2 (C.rep Fr w) (List.replicate n z).flatten (List.replicate n zs).flatten
  | 0 => trivial
  | n + 1 => by
    simp only [List.replicate_succ, List.flatten_cons]
    exact h.append (rep_replicate h n)

/-- A new row whose cells stay. -/
theorem newRow_sound {E : Env} {F : Fm} {γ : Gh} {m : Mem} {a : Act} {w : World} (h : Rel F γ m a w) (hg : Globs E.gl γ.fr w) {o : Oper} (hd : ∀ t, o.dst = some t → t < F.n) {nv sz n : Nat} {es : List (List C)} {vs : Array Value} {t : TypeId}
    (hx : All2 (C.rep γ.fr w) es.flatten vs.toList) (hs : ∀ e ∈ es, e.length = sz) (hn : es.length = n)
    (hrun : (execOp a.eval o).run E.P w = .ok (.value (.slice (some ⟨w.heap.size, 0, none⟩) n n)) (w.alloc (.cells vs t))) {Q : Exit → Act → World → Prop} :
    o.wp E.P a w (After E F (m.apply o.dst nv { dst := .k (.v (.own sz es .exact)) })) Q := by
  have hb : Below w.heap.size w (w.alloc (.cells vs t)) := (Below.refl _ w).alloc (Nat.le_refl _) _
  obtain ⟨h1, h2⟩ := h.grow hb (fr' := fun b o => γ.fr b o ∨ (b = w.heap.size ∧ o < vs.size)) (fun _ _ h => .inl h) (fun b o hx => by
    rcases hx with hx | ⟨rfl, _⟩
    · exact .inl hx
    · exact .inr ⟨Nat.le_refl _, by simp⟩)
  refine wp_value hrun ⟨_, ?_, hg.mono h2.ev⟩
  rw [Mem.apply_pure]
  refine h1.put hd ?_
  simp only [T.rep, K.rep, V.rep]
  refine ⟨?_, _, n, rfl⟩
  simp only [C.rep]
  refine ⟨_, n, n, rfl, hn.symm, Nat.le_refl _, .inr ⟨w.heap.size, 0, rfl, rowsAt_of_cells hs (cellsAt_of fun i c hi => ?_)⟩⟩
  obtain ⟨v, hv, hr⟩ := hx.get i c hi
  have hlt : i < vs.size := by
    have := (List.getElem?_eq_some_iff.1 hv).1
    simpa using this
  refine ⟨.inr ⟨rfl, by omega⟩, v, ?_, C.rep.mono h2.ev c v hr⟩
  rw [Nat.zero_add, World.cell?_alloc_new]
  simpa using hv

theorem sliceLit_sound {E : Env} {F : Fm} {γ : Gh} {m : Mem} {a : Act} {w : World} (h : Rel F γ m a w) (hg : Globs E.gl γ.fr w) {o : Oper} (hd : ∀ t, o.dst = some t → t < F.n) {nv : Nat} {t : TypeId} {len : Nat} {ps : Array (Nat × Operand)} (ho : o.op = .buildSlice t len ps) {x : T}
    (hx : sliceLit E.P t len (fitParts E.P (elemTy E.P t) (ps.toList.map fun (i, x) => (i, E.ev m x))) = some x) {Q : Exit → Act → World → Prop} : o.wp E.P a w (After E F (m.apply o.dst nv { dst := x })) Q := by
  unfold sliceLit at hx
  split at hx
  · rename_i e hu
    split at hx
    · rename_i z hz
      split at hx
      · rename_i zc hzc
        split at hx
        · rename_i hcond
          obtain ⟨hzl, hpos, hmax⟩ := hcond
          simp only [Option.map_eq_some_iff] at hx
          obtain ⟨es, hes, rfl⟩ := hx
          obtain ⟨zv, hzrun, hzrep, i, hi, hzi⟩ := zeroOf_sound (γ := γ) (tok := m.tok) (w := w) hz
          have hzc' := toCs_rep hzc hzrep
          have hzlen : zv.cells.toList.length = E.P.cellsOf e := by rw [← hzc'.length]; exact hzl
          have hpv := parts_rep (f := E.ev m) (g := a.eval) (γ := γ) (tok := m.tok) (w := w) (fun x => ev_rep h hg x) ps.toList
          have hpv := fitParts_rep (P := E.P) (t := elemTy E.P t) hpv
          have hz0 : All2 (C.rep γ.fr w) (List.replicate len zc).flatten ((Array.range (len * E.P.cellsOf e)).map (fun i => zv.cells[i % zv.cells.size]!)).toList := by
            have e1 : ((Array.range (len * E.P.cellsOf e)).map (fun i => zv.cells[i % zv.cells.size]!)).toList = (List.replicate len zv.cells.toList).flatten := by
              rw [← zeros_list len (z := zv.cells.toList)]
              rw [← hzlen]
              simp only [Array.toList_map, Array.toList_range, Array.length_toList]
              apply List.map_congr_left
              intro j hj
              have hlt : j % zv.cells.size < zv.cells.size := Nat.mod_lt _ (by simp only [Array.length_toList] at hzlen; omega)
              simp [hlt]
            rw [e1]
            exact rep_replicate hzc' len
          obtain ⟨vs', h1, h2, h3, h4⟩ := fillE_sound hpv hes (by simp) (fun y hy => by rw [List.eq_of_mem_replicate hy]; exact hzl) hz0
          refine newRow_sound h hg hd (t := e) h2 h4 h3 ?_
          have hne : ¬ (len * E.P.cellsOf e > 2 ^ 24) := by omega
          have hparts : (ps.map fun (i, x) => (i, a.eval x)).toList = ps.toList.map fun (i, x) => (i, a.eval x) := by simp
          by_cases h0 : len * E.P.cellsOf e = 0
          · have hfill : Instr.fill (fun i => some (i * E.P.cellsOf e, E.P.cellsOf e)) ((Array.range (len * E.P.cellsOf e)).map fun x => (#[] : Array Value)[x % (#[] : Array Value).size]!) (ps.toList.map fun (i, x) => (i, a.eval x)) = some vs' := by
              rw [h0] at h1 ⊢
              have e0 : ∀ f : Nat → Value, (Array.range 0).map f = #[] := fun f => by simp [Array.range]
              rw [e0] at h1 ⊢
              exact h1
            simp only [execOp, ho, Instr.buildSlice, Sem.run_bind, run_underlying hu, run_sizeOf hi, Result.andThen_ok, if_neg hne, if_pos h0, Sem.run_pure, hparts, hfill]
            simp [newRow]
          · simp only [execOp, ho, Instr.buildSlice, Sem.run_bind, run_underlying hu, run_sizeOf hi, Result.andThen_ok, if_neg hne, if_neg h0, Sem.run_pure, hzrun, hparts, h1]
            simp [newRow]
        · cases hx
      · cases hx
    · cases hx
  · cases hx
end Go.Dm
