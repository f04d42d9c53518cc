/-
  The data machine, part R: a region in whatever order; all regions.
-/
import Derived.Test.YthadbladkbfcmaaDmQ
namespace Go.Dm
open Go.RowKit

theorem edgesOk_get {ops : List Oper} (h : edgesOk ops = true) {i : Nat} {o : Oper} (hi : ops[i]? = some o) : ∀ e ∈ o.after, Region.binds .any e = true → e.on < i := by
  intro e he hb
  unfold edgesOk at h
  rw [List.all_eq_true] at h
  have hm : (o, i) ∈ ops.zipIdx := by
    rw [List.mem_zipIdx_iff_getElem?]
    simpa using hi
  have := h (o, i) hm
  simp only at this
  rw [Array.all_eq_true_iff_forall_mem] at this
  have := this e he
  simpa [hb] using this

/-- How many have not come. -/
def unl (n : Nat) (listed : Array Bool) : Nat := ((List.range n).filter fun i => !listed.getD i true).length

theorem filter_set {n : Nat} {listed : Array Bool} {i : Nat} (hi : i < n) (hl : listed.getD i true = false) : unl n (listed.setIfInBounds i true) + 1 = unl n listed := by
  have hsz : i < listed.size := by
    rcases Nat.lt_or_ge i listed.size with h | h
    · exact h
    · simp [Array.getElem?_eq_none h] at hl
  unfold unl
  induction n with
  | zero => omega
  | succ n ih =>
    rw [List.range_succ, List.filter_append, List.filter_append, List.length_append, List.length_append]
    by_cases hin : i = n
    · subst hin
      have e1 : ((List.range i).filter fun j => !(listed.setIfInBounds i true).getD j true) = (List.range i).filter fun j => !listed.getD j true := by
        apply List.filter_congr
        intro j hj
        rw [List.mem_range] at hj
        rw [getD_set_ne true (by omega : i ≠ j)]
      rw [e1]
      have e2 : (listed.setIfInBounds i true).getD i true = true := by simp [hsz]
      simp only [List.filter_cons, List.filter_nil, e2, hl, Bool.not_true, Bool.not_false, if_true, Bool.false_eq_true, if_false, List.length_nil, List.length_singleton]
    · have := ih (by omega)
      have e2 : (listed.setIfInBounds i true).getD n true = listed.getD n true := getD_set_ne true hin
      simp only [List.filter_cons, List.filter_nil, e2]
      omega

theorem all_listed {n : Nat} {listed : Array Bool} (h : unl n listed = 0) : ∀ i, i < n → listed.getD i true = true := by
  intro i hi
  cases hb : listed.getD i true with
  | true => rfl
  | false =>
    have := filter_set hi hb
    omega

/-- In whatever order. -/
theorem ops_any {E : Env} (hE : EnvOk E) {F : Fm} {ops : Array Oper} {Q : Exit → Act → World → Prop} {steps : List Stp} {m0 mf : Mem} (hops : steps.map (·.o) = ops.toList) (hch : Chain E ops m0 steps mf)
    (hdst : ∀ p ∈ steps, ∀ t, p.o.dst = some t → t < F.n) (hord : orderOk (aheads ops.toList []) (steps.map (Stp.touch ops)) 0 = true) (hedge : edgesOk ops.toList = true)
    (hQ : ∀ a w, (∃ γ, Rel F γ mf a w ∧ Globs E.gl γ.fr w) → Q .normal a w) : ∀ (fuel : Nat) (listed : Array Bool) (a : Act) (w : World), listed.size = ops.size → unl ops.size listed = fuel →
      (∀ (j : Nat) o, ops.toList[j]? = some o → listed.getD j false = true → ∀ e ∈ o.after, Region.binds .any e = true → listed.getD e.on false = true) →
      (∃ γ, Rel F γ (memOf (fun i => listed.getD i false) 0 steps m0) a w ∧ Globs E.gl γ.fr w) → wpAny E.P .any ops Q fuel listed a w := by
  have hlen : steps.length = ops.size := by
    have := congrArg List.length hops
    simpa using this
  have hfin : ∀ (listed : Array Bool), (∀ i, i < ops.size → listed.getD i false = true) → memOf (fun i => listed.getD i false) 0 steps m0 = mf := by
    intro listed hall
    rw [chain_mem (k := 0) hch]
    exact memOf_congr (fun j hj => by
      simp only [Nat.zero_add]
      exact hall j (by omega))
  have getDs : ∀ (listed : Array Bool) (i : Nat), listed.size = ops.size → i < ops.size → listed.getD i true = listed.getD i false := fun listed i hs hi => by
    have : i < listed.size := by omega
    simp [this]
  -- where nothing is ready all has come
  have hready : ∀ (listed : Array Bool), listed.size = ops.size → Region.ready .any ops listed = [] → ∀ i, i < ops.size → listed.getD i false = true := by
    intro listed hs hr i
    induction i using Nat.strongRecOn with
    | _ i ih =>
      intro hi
      cases hb : listed.getD i false with
      | true => rfl
      | false =>
        exfalso
        have hoi : ops[i]? = some ops[i] := Array.getElem?_eq_getElem hi
        have : i ∈ Region.ready .any ops listed := mem_ready.2 ⟨by rw [getDs listed i hs hi]; exact hb, ops[i], hoi, fun e he hbd => by
          have hlt := edgesOk_get hedge (i := i) (o := ops[i]) (by simp [hi]) e he hbd
          exact ih e.on hlt (by omega)⟩
        rw [hr] at this
        cases this
  intro fuel
  induction fuel with
  | zero =>
    intro listed a w hs hu hcl hrel
    have hall : ∀ i, i < ops.size → listed.getD i false = true := fun i hi => by rw [← getDs listed i hs hi]; exact all_listed hu i hi
    refine ⟨?_, hQ a w (by rw [← hfin listed hall]; exact hrel)⟩
    apply List.eq_nil_iff_forall_not_mem.2
    intro i hi
    obtain ⟨h1, o, ho, _⟩ := mem_ready.1 hi
    have hlt : i < ops.size := (Array.getElem?_eq_some_iff.1 ho).1
    rw [getDs listed i hs hlt, hall i hlt] at h1
    cases h1
  | succ fuel ih =>
    intro listed a w hs hu hcl hrel
    refine ⟨fun hr => hQ a w (by rw [← hfin listed (hready listed hs hr)]; exact hrel), fun i hi => ?_⟩
    obtain ⟨hun, o, ho, hpre⟩ := mem_ready.1 hi
    have hlt : i < ops.size := (Array.getElem?_eq_some_iff.1 ho).1
    have hun' : listed.getD i false = false := by rw [← getDs listed i hs hlt]; exact hun
    have hol : ops.toList[i]? = some o := by simpa using ho
    -- the step
    have hsl : i < steps.length := by omega
    obtain ⟨p, hp⟩ : ∃ p, steps[i]? = some p := ⟨steps[i], List.getElem?_eq_getElem hsl⟩
    have hpo : p.o = o := by
      have := congrArg (fun l => l[i]?) hops
      simp only [List.getElem?_map, hp, Option.map_some, hol, Option.some.injEq] at this
      exact this
    have hsplit : steps = steps.take i ++ p :: steps.drop (i + 1) := by
      have h1 := (List.take_append_drop i steps).symm
      have h2 : steps.drop i = p :: steps.drop (i + 1) := by
        rw [List.drop_eq_getElem_cons hsl]
        congr 1
        have := List.getElem?_eq_getElem hsl
        rw [hp] at this
        exact (Option.some.inj this).symm
      rw [h2] at h1
      exact h1
    have htl : (steps.take i).length = i := by rw [List.length_take]; omega
    -- who clashes with whom
    have hclash : ∀ (k l : Nat) (x y : Stp), k < l → steps[k]? = some x → steps[l]? = some y → (x.touch ops).clash (y.touch ops) = false ∨ ((aheads ops.toList []).getD l 0).testBit k = true := fun k l x y hkl hx hy => by
      have := orderOk_get hord k l _ _ hkl (by rw [List.getElem?_map, hx]; rfl) (by rw [List.getElem?_map, hy]; rfl)
      simpa using this
    have hbefore : ∀ (k : Nat) x, k < i → steps[k]? = some x → listed.getD k false = true ∨ (x.touch ops).clash (p.touch ops) = false := fun k x hki hx => by
      rcases hclash k i x p hki hx hp with h1 | h1
      · exact .inr h1
      · exact .inl (mask_listed (L := fun i => listed.getD i false) hcl i o hol hpre k h1)
    have hbehind : ∀ (l : Nat) y, i < l → steps[l]? = some y → listed.getD l false = true → (p.touch ops).clash (y.touch ops) = false := fun l y hil hy hll => by
      rcases hclash i l p y hil hp hy with h1 | h1
      · exact h1
      · exfalso
        have hlo : l < ops.toList.length := by
          have := (List.getElem?_eq_some_iff.1 hy).1
          simp; omega
        have hget : ops.toList[l]? = some ops.toList[l] := List.getElem?_eq_getElem hlo
        have := mask_listed (L := fun i => listed.getD i false) hcl l _ hget (hcl l _ hget hll) i h1
        have this : listed.getD i false = true := this
        rw [hun'] at this
        cases this
    -- the memory, and what the text's order had
    let L : Nat → Bool := fun i => listed.getD i false
    have hL : L i = false := hun'
    have hmem : memOf L 0 steps m0 = memOf L (i + 1) (steps.drop (i + 1)) (memOf L 0 (steps.take i) m0) := by
      conv => lhs; rw [hsplit]
      rw [memOf_append, htl]
      simp only [memOf, Nat.zero_add, hL, Bool.false_eq_true, if_false]
    have hpostget : ∀ (j : Nat) r, (steps.drop (i + 1))[j]? = some r → steps[i + 1 + j]? = some r := fun j r hr => by rw [List.getElem?_drop] at hr; exact hr
    have hpreget : ∀ (j : Nat) r, (steps.take i)[j]? = some r → j < i ∧ steps[j]? = some r := fun j r hr => by
      rw [List.getElem?_take] at hr
      split at hr
      · exact ⟨by assumption, hr⟩
      · cases hr
    have hagree : Agree (p.touch ops) (memOf (fun _ => true) 0 (steps.take i) m0) (memOf L 0 steps m0) := by
      rw [hmem]
      refine Agree.trans (agree_pre (ops := ops) (Agree.refl _ _) (fun j r hr => ?_)) (agree_post (ops := ops) (fun j r hr hLj => ?_))
      · obtain ⟨hji, hr'⟩ := hpreget j r hr
        rcases hbefore j r hji hr' with h1 | h1
        · left; simpa [L] using h1
        · right
          simp only [Touch.clash, Bool.or_eq_false_iff] at h1
          exact h1.1
      · have := hbehind (i + 1 + j) r (by omega) (hpostget j r hr) hLj
        simp only [Touch.clash, Bool.or_eq_false_iff] at this
        exact this.2
    have hnext : memOf (fun j => (listed.setIfInBounds i true).getD j false) 0 steps m0 = p.step (memOf L 0 steps m0) := by
      have hi' : (listed.setIfInBounds i true).getD i false = true := by
        have : i < listed.size := by omega
        simp [this]
      have hne : ∀ j, j ≠ i → (listed.setIfInBounds i true).getD j false = L j := fun j hj => getD_set_ne false (Ne.symm hj)
      conv => lhs; rw [hsplit]
      rw [memOf_append, htl]
      simp only [memOf, Nat.zero_add, hi', if_true]
      rw [memOf_congr (L' := L) (xs := steps.take i) (fun j hj => hne _ (by omega)), memOf_congr (L' := L) (xs := steps.drop (i + 1)) (fun j hj => hne _ (by omega))]
      rw [memOf_comm (ops := ops) (fun j r hr hLj => ?_), ← hmem]
      have := hbehind (i + 1 + j) r (by omega) (hpostget j r hr) hLj
      simp only [Touch.clash, Bool.or_eq_false_iff] at this
      exact this.1
    -- what the text's order says of the step
    obtain ⟨mi, hmi⟩ : ∃ mi, mi = memOf (fun _ => true) 0 (steps.take i) m0 := ⟨_, rfl⟩
    have hchi : Chain E ops mi (p :: steps.drop (i + 1)) mf := by
      have aux : ∀ (xs ys : List Stp) (k : Nat) (m : Mem), Chain E ops m (xs ++ ys) mf → Chain E ops (memOf (fun _ => true) k xs m) ys mf := by
        intro xs
        induction xs with
        | nil => intro ys k m h; exact h
        | cons x xs ih2 => intro ys k m h; simp only [memOf, if_true]; exact ih2 ys (k + 1) _ h.2.2.2.2
      rw [hmi]
      refine aux (steps.take i) _ 0 m0 ?_
      rw [← hsplit]
      exact hch
    rw [← hmi] at hagree
    obtain ⟨hq, he, hnv, hnt, _⟩ := hchi
    obtain ⟨γ, hrel, hg⟩ := hrel
    have hw : wantedD ops (memOf L 0 steps m0) o = some p.q := by
      rw [← hq, hpo]
      exact wanted_local fun t ht => hagree.tmp t (.inl (by simp only [Stp.touch, Touch.of]; rw [hpo]; exact ht))
    have hd' : ∀ t, o.dst = some t → t < F.n := fun t ht => hdst p (List.mem_of_getElem? hp) t (by rw [hpo]; exact ht)
    -- the next
    have hstep : ∀ a' w', (∃ γ', Rel F γ' (p.step (memOf L 0 steps m0)) a' w' ∧ Globs E.gl γ'.fr w') → wpAny E.P .any ops Q fuel (listed.setIfInBounds i true) a' w' := by
      intro a' w' hr'
      refine ih (listed.setIfInBounds i true) a' w' (by simpa using hs) ?_ ?_ (by rw [hnext]; exact hr')
      · have := filter_set (n := ops.size) hlt hun
        omega
      · intro j oj hoj hlj e he' hb
        by_cases hji : j = i
        · subst hji
          rw [hol] at hoj
          cases hoj
          exact getD_set_true (hpre e he' hb)
        · rw [getD_set_ne false (Ne.symm hji)] at hlj
          exact getD_set_true (hcl j oj hoj hlj e he' hb)
    unfold wpOp
    rw [ho]
    simp only
    rw [wanted_sound hrel hw]
    cases hpq : p.q with
    | true =>
      rw [hpq] at he
      simp only [if_true] at he ⊢
      rw [hpo] at he
      have he' : evalOp E (memOf L 0 steps m0) p.nv p.nt o = some p.e := by
        refine evalOp_local he (fun x hx => ?_) (fun id hid => hagree.var id (.inl hid)) (fun k hk => hagree.tok k (.inl hk))
        cases x with
        | tmp t =>
          refine hagree.tmp t (.inl ?_)
          simp only [Stp.touch, Touch.of]
          rw [hpo]
          unfold Oper.looksAt
          exact List.mem_append_left _ (List.mem_filterMap.2 ⟨.tmp t, by simpa using hx, rfl⟩)
        | _ => rfl
      refine .inl (Oper.wp_mono (fun a' w' hp' => hstep a' w' ?_) (op_sound hE hrel hg hd' he' (fun hs' => ?_) (fun k n hk hnk => ?_)))
      · obtain ⟨γ', h1, h2⟩ := hp'
        refine ⟨γ', ?_, h2⟩
        simp only [Stp.step, hpo]
        exact h1
      · rw [hagree.var p.nv (.inr (by simp [Stp.touch, Touch.of, hs']))]
        exact hnv hs'
      · rw [hagree.tok k (.inr (by simp only [Stp.touch, Touch.of]; exact List.mem_map.2 ⟨(k, n), hk, rfl⟩))]
        exact hnt k n hk hnk
    | false =>
      rw [hpq] at he
      simp only [Bool.false_eq_true, if_false] at he ⊢
      refine hstep _ _ ⟨γ, ?_, hg⟩
      simp only [Stp.step, he, hpo, Mem.apply_skip]
      exact hrel.put hd' rfl

theorem Rel.draw {F : Fm} {γ : Gh} {m : Mem} {a : Act} {w : World} (h : Rel F γ m a w) : Rel F γ m a { w with drawn := w.drawn + 1 } ∧ Ev γ.fr γ.fr w { w with drawn := w.drawn + 1 } := by
  have hb : Below w.heap.size w { w with drawn := w.drawn + 1 } := (Below.refl _ w).drew
  obtain ⟨h1, h2⟩ := h.grow hb (fr' := γ.fr) (fun _ _ h => h) (fun _ _ h => .inl h)
  exact ⟨h1, h2.ev⟩

theorem region_sound {E : Env} (hE : EnvOk E) {F : Fm} {id : Nat} {ops : Array Oper} {draw : Bool} {s s' : St} (h : evalRegion E ops draw s = some s') {Q : Exit → Act → World → Prop} {a : Act} {w : World} (hr : RelS E F s a w)
    (hQ : ∀ a w, RelS E F s' a w → Q .normal a w) : (Code.region id ops draw).wp E.P Q a w := by
  unfold evalRegion at h
  split at h
  · cases h
  · rename_i s1 ts hev
    split at h
    · rename_i hcond
      cases h
      cases draw with
      | false =>
        refine wp_region ?_
        have := ops_seq hE hev (k := 0) (by simp) hQ hr
        rw [List.range_eq_range']
        simpa using this
      | true =>
        simp only [Bool.not_true, Bool.false_or, Bool.and_eq_true] at hcond
        obtain ⟨⟨hord, hedge⟩, hmix⟩ := hcond
        obtain ⟨steps, h1, h2, h3, h4, h5⟩ := trace_of hev
        obtain ⟨hn, γ, hrel, hg⟩ := hr
        obtain ⟨hrel', hev'⟩ := hrel.draw
        refine wp_region_any hmix ?_
        have hfalse : ∀ i, (Array.replicate ops.size false).getD i false = false := fun i => by
          by_cases hi : i < ops.size <;> simp [hi]
        have hzero : ∀ (xs : List Stp) (k : Nat) (m : Mem), memOf (fun i => (Array.replicate ops.size false).getD i false) k xs m = m := by
          intro xs
          induction xs with
          | nil => intro k m; rfl
          | cons x xs ih =>
            intro k m
            show memOf _ (k + 1) xs (if (Array.replicate ops.size false).getD k false = true then x.step m else m) = m
            rw [hfalse k, if_neg (by simp)]
            exact ih (k + 1) m
        refine ops_any hE h1 h3 (fun p hp t ht => by rw [← hn]; exact h4 p hp t ht) (by rw [← h2]; exact hord) hedge (fun a w hr => hQ a w ⟨by rw [h5]; exact hn, hr⟩) ops.size (Array.replicate ops.size false) a _ (by simp) ?_ ?_ ?_
        · unfold unl
          rw [List.filter_eq_self.2 (fun i hi => by rw [List.mem_range] at hi; simp [hi])]
          simp
        · intro j o _ hl
          rw [hfalse] at hl
          cases hl
        · exact ⟨γ, by rw [hzero]; exact hrel', hg.mono hev'⟩
    · cases h
end Go.Dm
