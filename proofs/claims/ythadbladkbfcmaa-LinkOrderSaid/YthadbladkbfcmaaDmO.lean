/-
  The data machine, part O: an operation looks at what it says that it looks at.
-/
import Derived.Test.YthadbladkbfcmaaDmN
namespace Go.Dm
open Go.RowKit

theorem capOf_local {m m' : Mem} {caps : List (C ⊕ (Nat × Nat))} (h : ∀ id ∈ caps.flatMap capReads, m'.var id = m.var id) : caps.mapM (capOf m') = caps.mapM (capOf m) := by
  induction caps with
  | nil => rfl
  | cons x xs ih =>
    rw [List.mapM_cons, List.mapM_cons, ih (fun id hid => h id (by simp only [List.flatMap_cons, List.mem_append]; exact .inr hid))]
    congr 1
    cases x with
    | inl x => rfl
    | inr p => simp only [capOf, snap, h p.1 (by simp [capReads])]

theorem argsOf_local {P : Program} {m m' : Mem} : ∀ {tys : List TypeId} {xs : List T} {k : Nat} {as : List A} {ls : List (Nat × Nat × List C)} {rs : List Nat}, argsOf P m tys xs k = some (as, ls, rs) →
    (∀ id ∈ rs, m'.var id = m.var id) → (∀ l ∈ ls, m'.var l.1 = m.var l.1) → argsOf P m' tys xs k = some (as, ls, rs)
  | [], [], k, as, ls, rs, h, _, _ => h
  | t :: ts, x :: xs, k, as, ls, rs, h, hr, hl => by
    simp only [argsOf] at h ⊢
    split at h
    · split at h
      · rename_i cs as' ls' rs' hcs hrec
        simp only [Option.some.injEq, Prod.mk.injEq] at h
        obtain ⟨rfl, rfl, rfl⟩ := h
        simp only [hcs, argsOf_local hrec hr hl]
      · cases h
    · rename_i id off
      split at h
      · rename_i e ys hu hv
        split at h
        · rename_i hle
          split at h
          · rename_i cs as' ls' rs' hcs hrec
            simp only [Option.some.injEq, Prod.mk.injEq] at h
            obtain ⟨rfl, rfl, rfl⟩ := h
            have h1 := hl (id, off, cs) (by simp)
            simp only at h1
            simp only [hu, h1, hv, hle, if_true, hcs, argsOf_local hrec hr (fun l hl' => hl l (by simp [hl']))]
          · cases h
        · cases h
      · cases h
    · rename_i id off sz n
      split at h
      · rename_i cs hcs
        split at h
        · rename_i es as' ls' rs' hes hrec
          simp only [Option.some.injEq, Prod.mk.injEq] at h
          obtain ⟨rfl, rfl, rfl⟩ := h
          have hs : snap m' id off = some cs := by unfold snap at hcs ⊢; rw [hr id (by simp)]; exact hcs
          simp only [hs, hes, argsOf_local hrec (fun i hi => hr i (by simp [hi])) hl]
        · cases h
      · cases h
    · rename_i f caps
      split at h
      · rename_i cs as' ls' rs' hcs hrec
        simp only [Option.some.injEq, Prod.mk.injEq] at h
        obtain ⟨rfl, rfl, rfl⟩ := h
        rw [← capOf_local (m' := m') (fun i hi => hr i (by simp only [List.mem_append]; exact .inl hi))] at hcs
        simp only [hcs, argsOf_local hrec (fun i hi => hr i (by simp [hi])) hl]
      · cases h
    · split at h
      · rename_i c as' ls' rs' hcs hrec
        simp only [Option.some.injEq, Prod.mk.injEq] at h
        obtain ⟨rfl, rfl, rfl⟩ := h
        simp only [hcs, argsOf_local hrec hr hl]
      · cases h
    · cases h
  | [], _ :: _, _, _, _, _, h, _, _ => by simp [argsOf] at h
  | _ :: _, [], _, _, _, _, h, _, _ => by simp [argsOf] at h

theorem callT_local {E : Env} {m m' : Mem} {nt : Nat} {g : FuncId} {extra : List C} {tys : List TypeId} {xs : List T} {e : Eff} (he : callT E m nt g extra tys xs = some e) (hv : ∀ id ∈ e.rv, m'.var id = m.var id) : callT E m' nt g extra tys xs = some e := by
  unfold callT at he ⊢
  split at he
  · rename_i as ls rs hargs
    split at he
    · rename_i res ims hF
      simp only at he
      split at he
      · split at he
        · rename_i hc
          cases he
          rw [argsOf_local hargs hv (by simp)]
          simp only [hF, hc, if_true]
        · rename_i hc
          cases he
          rw [argsOf_local hargs hv (by simp)]
          simp only [hF, hc, if_false, Bool.false_eq_true]
      · rename_i id off cs ds
        split at he
        · rename_i ys hvid
          split at he
          · rename_i hc
            cases he
            have hrs : rs = [] := by simpa using hc.1
            subst hrs
            have h1 := hv id (by simp)
            rw [argsOf_local hargs (by simp) (fun l hl => by simp at hl; subst hl; exact h1)]
            simp only [hF, h1, hvid]
            rw [if_pos hc]
          · cases he
        · cases he
      · cases he
    · cases he
  · cases he

theorem appendT_local {P : Program} {m m' : Mem} {nt : Nat} {tys : List TypeId} {xs : List T} {e : Eff} (he : appendT P m nt tys xs = some e) (hk : ∀ i ∈ e.rt, m'.tok i = m.tok i) : appendT P m' nt tys xs = some e := by
  unfold appendT at he ⊢
  split at he
  · split at he
    · split at he
      · split at he
        · rename_i hc
          rw [if_pos hc]
          split at he
          · exact he
          · split at he
            · rename_i hcj
              cases he
              rw [if_pos ⟨hcj.1, by rw [hk _ (by simp)]; exact hcj.2⟩]
            · cases he
        · cases he
      · cases he
    · cases he
  · cases he

theorem evalOp_local {E : Env} {m m' : Mem} {nv nt : Nat} {o : Oper} {e : Eff} (he : evalOp E m nv nt o = some e) (ht : ∀ x ∈ o.op.operands, E.ev m' x = E.ev m x) (hv : ∀ id ∈ e.rv, m'.var id = m.var id) (hk : ∀ i ∈ e.rt, m'.tok i = m.tok i) :
    evalOp E m' nv nt o = some e := by
  have hmap : ∀ (xs : Array Operand), (∀ x ∈ xs, x ∈ o.op.operands) → xs.toList.map (E.ev m') = xs.toList.map (E.ev m) := fun xs h => List.map_congr_left fun x hx => ht x (h x (by simpa using hx))
  have hparts : ∀ (ps : Array (Nat × Operand)), (∀ p ∈ ps, p.2 ∈ o.op.operands) → (ps.toList.map fun (i, x) => (i, E.ev m' x)) = ps.toList.map fun (i, x) => (i, E.ev m x) := fun ps h => List.map_congr_left fun p hp => by
    obtain ⟨i, x⟩ := p
    simp only [ht x (h (i, x) (by simpa using hp))]
  cases ho : o.op with
  | load t x =>
    have h1 := ht x (by simp [ho, Op.operands])
    simp only [evalOp, ho, h1] at he ⊢
    split at he
    · rename_i id off hc
      split at he
      · rename_i xs hx
        simp only [Option.map_eq_some_iff] at he
        obtain ⟨k, hk', rfl⟩ := he
        simp only [hv id (by simp), hx, hk', Option.map_some]
      · cases he
    · exact he
    · cases he
  | store t x y =>
    have h1 := ht x (by simp [ho, Op.operands])
    have h2 := ht y (by simp [ho, Op.operands])
    simp only [evalOp, ho, h1, h2] at he ⊢
    split at he
    · rename_i id off k hc hkk
      split at he
      · rename_i xs hx
        split at he
        · rename_i hcond
          cases he
          simp only [hv id (by simp), hx]
          rw [if_pos hcond]
        · cases he
      · cases he
    · cases he
  | call c =>
    obtain ⟨callee, args, argTypes⟩ := c
    cases callee with
    | value f =>
      have h1 := ht f (by simp [ho, Op.operands, Call.operands])
      have h2 := hmap args (fun x hx => by simp [ho, Op.operands, Call.operands, hx])
      simp only [evalOp, ho, h1, h2] at he ⊢
      split at he
      · exact callT_local he hv
      · exact callT_local he hv
      · cases he
    | invoke r mth => simp [evalOp, ho] at he
    | builtin b =>
      have h2 := hmap args (fun x hx => by simp [ho, Op.operands, Call.operands, hx])
      have h3 : ∀ x ∈ args.toList, E.ev m' x = E.ev m x := fun x hx => ht x (by simp [ho, Op.operands, Call.operands]; simpa using hx)
      cases b with
      | append =>
        simp only [evalOp, ho, h2] at he ⊢
        exact appendT_local he hk
      | len =>
        simp only [evalOp, ho] at he ⊢
        split at he
        · rename_i t ts x hty hargs
          rw [h3 x (by simp [hargs])]
          exact he
        · cases he
      | min =>
        simp only [evalOp, ho] at he ⊢
        split at he
        · rename_i x xs hargs
          rw [hargs] at h3
          rw [h3 x (by simp), List.map_congr_left (fun y hy => h3 y (by simp [hy]))]
          exact he
        · cases he
      | max =>
        simp only [evalOp, ho] at he ⊢
        split at he
        · rename_i x xs hargs
          rw [hargs] at h3
          rw [h3 x (by simp), List.map_congr_left (fun y hy => h3 y (by simp [hy]))]
          exact he
        · cases he
      | _ => simp [evalOp, ho] at he
  | build t parts =>
    simp only [evalOp, ho, hparts parts (fun p hp => by simp only [ho, Op.operands]; simpa using ⟨p.1, hp⟩)] at he ⊢
    exact he
  | buildSlice t len parts =>
    simp only [evalOp, ho, hparts parts (fun p hp => by simp only [ho, Op.operands]; simpa using ⟨p.1, hp⟩)] at he ⊢
    exact he
  | makeFunc fn first caps =>
    cases fn with
    | func f =>
      have h2 : (caps.toList.mapM fun x => captured (E.ev m' x)) = caps.toList.mapM fun x => captured (E.ev m x) := by
        have : ∀ x ∈ caps.toList, E.ev m' x = E.ev m x := fun x hx => ht x (by simp [ho, Op.operands]; exact .inr (by simpa using hx))
        clear he
        generalize caps.toList = l at this
        induction l with
        | nil => rfl
        | cons y ys ih =>
          rw [List.mapM_cons, List.mapM_cons, this y (by simp), ih (fun x hx => this x (by simp [hx]))]
      simp only [evalOp, ho, h2] at he ⊢
      exact he
    | _ => simp [evalOp, ho] at he
  | slice t x lo hi mx =>
    have h1 := ht x (by simp [ho, Op.operands])
    have h2 : lo.map (E.ev m') = lo.map (E.ev m) := by
      cases lo with
      | none => rfl
      | some y => simp [ht y (by simp [ho, Op.operands])]
    have h3 : hi.map (E.ev m') = hi.map (E.ev m) := by
      cases hi with
      | none => rfl
      | some y => simp [ht y (by simp [ho, Op.operands])]
    have h4 : mx.map (E.ev m') = mx.map (E.ev m) := by
      cases mx with
      | none => rfl
      | some y => simp [ht y (by simp [ho, Op.operands])]
    simp only [evalOp, ho, h1, h2, h3, h4] at he ⊢
    exact he
  | move x => have h1 := ht x (by simp [ho, Op.operands]); cases x <;> simp only [evalOp, ho, h1] at he ⊢ <;> exact he
  | assign x => have h1 := ht x (by simp [ho, Op.operands]); cases x <;> simp only [evalOp, ho, h1] at he ⊢ <;> exact he
  | pick c x y =>
    have h1 := ht c (by simp [ho, Op.operands])
    have h2 := ht x (by simp [ho, Op.operands])
    have h3 := ht y (by simp [ho, Op.operands])
    simp only [evalOp, ho, h1, h2, h3] at he ⊢; exact he
  | alloc t => simpa only [evalOp, ho] using he
  | box t x => have h1 := ht x (by simp [ho, Op.operands]); simp only [evalOp, ho, h1] at he ⊢; exact he
  | nilCheck x => have h1 := ht x (by simp [ho, Op.operands]); simp only [evalOp, ho, h1] at he ⊢; exact he
  | binOp op t x y yt =>
    have h1 := ht x (by simp [ho, Op.operands])
    have h2 := ht y (by simp [ho, Op.operands])
    simp only [evalOp, ho, h1, h2] at he ⊢; exact he
  | unOp op t x => have h1 := ht x (by simp [ho, Op.operands]); simp only [evalOp, ho, h1] at he ⊢; exact he
  | convert s d x => have h1 := ht x (by simp [ho, Op.operands]); simp only [evalOp, ho, h1] at he ⊢; exact he
  | fieldAddr s x i => have h1 := ht x (by simp [ho, Op.operands]); simp only [evalOp, ho, h1] at he ⊢; exact he
  | field s x i => have h1 := ht x (by simp [ho, Op.operands]); simp only [evalOp, ho, h1] at he ⊢; exact he
  | indexAddr t x i =>
    have h1 := ht x (by simp [ho, Op.operands])
    have h2 := ht i (by simp [ho, Op.operands])
    simp only [evalOp, ho, h1, h2] at he ⊢; exact he
  | index t x i =>
    have h1 := ht x (by simp [ho, Op.operands])
    have h2 := ht i (by simp [ho, Op.operands])
    simp only [evalOp, ho, h1, h2] at he ⊢; exact he
  | lookup t x i ok =>
    have h1 := ht x (by simp [ho, Op.operands])
    have h2 := ht i (by simp [ho, Op.operands])
    simp only [evalOp, ho, h1, h2] at he ⊢; exact he
  | extract x i => have h1 := ht x (by simp [ho, Op.operands]); simp only [evalOp, ho, h1] at he ⊢; exact he
  | _ => simp [evalOp, ho] at he

/-- What is new among the tokens. -/
theorem ut_new {E : Env} {m : Mem} {nv nt : Nat} {o : Oper} {e : Eff} (he : evalOp E m nv nt o = some e) : ∀ i n, (i, n) ∈ e.ut → i ∈ e.rt ∨ nt ≤ i := by
  have callU : ∀ {g : FuncId} {extra : List C} {tys : List TypeId} {xs : List T}, callT E m nt g extra tys xs = some e → ∀ i n, (i, n) ∈ e.ut → i ∈ e.rt ∨ nt ≤ i := by
    intro g extra tys xs he i n hi
    unfold callT at he
    split at he
    · split at he
      · simp only at he
        split at he
        · split at he
          · cases he; exact .inr (resK_ids hi)
          · cases he; exact .inr (resK_ids hi)
        · split at he
          · split at he
            · cases he; exact .inr (resK_ids hi)
            · cases he
          · cases he
        · cases he
      · cases he
    · cases he
  intro i n hi
  cases ho : o.op with
  | call c =>
    obtain ⟨callee, args, argTypes⟩ := c
    cases callee with
    | value f =>
      simp only [evalOp, ho] at he
      split at he
      · exact callU he i n hi
      · exact callU he i n hi
      · cases he
    | invoke r mth => simp [evalOp, ho] at he
    | builtin b =>
      cases b with
      | append =>
        simp only [evalOp, ho] at he
        unfold appendT at he
        split at he
        · split at he
          · split at he
            · split at he
              · split at he
                · cases he; simp at hi; right; omega
                · split at he
                  · cases he; simp at hi; left; simp [hi.1]
                  · cases he
              · cases he
            · cases he
          · cases he
        · cases he
      | len =>
        simp only [evalOp, ho] at he
        split at he
        · simp only [Option.map_eq_some_iff] at he; obtain ⟨_, _, rfl⟩ := he; simp at hi
        · cases he
      | min =>
        simp only [evalOp, ho] at he
        split at he
        · simp only [Option.map_eq_some_iff] at he; obtain ⟨_, _, rfl⟩ := he; simp at hi
        · cases he
      | max =>
        simp only [evalOp, ho] at he
        split at he
        · simp only [Option.map_eq_some_iff] at he; obtain ⟨_, _, rfl⟩ := he; simp at hi
        · cases he
      | _ => simp [evalOp, ho] at he
  | load t x =>
    simp only [evalOp, ho] at he
    split at he
    · split at he
      · simp only [Option.map_eq_some_iff] at he; obtain ⟨_, _, rfl⟩ := he; simp at hi
      · cases he
    · simp only [Option.map_eq_some_iff] at he; obtain ⟨_, _, rfl⟩ := he; simp at hi
    · cases he
  | store t x y =>
    simp only [evalOp, ho] at he
    split at he
    · split at he
      · split at he
        · cases he; simp at hi
        · cases he
      · cases he
    · cases he
  | makeFunc fn first caps =>
    cases fn with
    | func f =>
      simp only [evalOp, ho] at he
      split at he
      · simp only [Option.map_eq_some_iff] at he; obtain ⟨_, _, rfl⟩ := he; simp at hi
      · cases he
    | _ => simp [evalOp, ho] at he
  | move x => simp only [evalOp, ho, Option.some.injEq] at he; subst he; simp at hi
  | assign x => simp only [evalOp, ho, Option.some.injEq] at he; subst he; simp at hi
  | pick c x y =>
    simp only [evalOp, ho] at he
    split at he
    · cases he; simp at hi
    · cases he
  | alloc t =>
    simp only [evalOp, ho] at he
    split at he
    · cases he; simp at hi
    · cases he
  | box t x =>
    simp only [evalOp, ho] at he
    split at he
    · cases he; simp at hi
    · cases he
  | nilCheck x =>
    simp only [evalOp, ho] at he
    split at he <;> first | (cases he; simp at hi; done) | (cases he; done)
  | extract x i =>
    simp only [evalOp, ho] at he
    split at he
    · simp only [Option.map_eq_some_iff] at he; obtain ⟨_, _, rfl⟩ := he; simp at hi
    · cases he
  | build t parts => simp only [evalOp, ho, Option.map_eq_some_iff] at he; obtain ⟨_, _, rfl⟩ := he; simp at hi
  | buildSlice t len parts => simp only [evalOp, ho, Option.map_eq_some_iff] at he; obtain ⟨_, _, rfl⟩ := he; simp at hi
  | binOp op t x y yt => simp only [evalOp, ho, Option.map_eq_some_iff] at he; obtain ⟨_, _, rfl⟩ := he; simp at hi
  | unOp op t x => simp only [evalOp, ho, Option.map_eq_some_iff] at he; obtain ⟨_, _, rfl⟩ := he; simp at hi
  | convert s d x => simp only [evalOp, ho, Option.map_eq_some_iff] at he; obtain ⟨_, _, rfl⟩ := he; simp at hi
  | slice t x lo hi' mx => simp only [evalOp, ho, Option.map_eq_some_iff] at he; obtain ⟨_, _, rfl⟩ := he; simp at hi
  | fieldAddr s x i => simp only [evalOp, ho, Option.map_eq_some_iff] at he; obtain ⟨_, _, rfl⟩ := he; simp at hi
  | field s x i => simp only [evalOp, ho, Option.map_eq_some_iff] at he; obtain ⟨_, _, rfl⟩ := he; simp at hi
  | indexAddr t x i => simp only [evalOp, ho, Option.map_eq_some_iff] at he; obtain ⟨_, _, rfl⟩ := he; simp at hi
  | index t x i => simp only [evalOp, ho, Option.map_eq_some_iff] at he; obtain ⟨_, _, rfl⟩ := he; simp at hi
  | lookup t x i ok => simp only [evalOp, ho, Option.map_eq_some_iff] at he; obtain ⟨_, _, rfl⟩ := he; simp at hi
  | _ => simp [evalOp, ho] at he
end Go.Dm
