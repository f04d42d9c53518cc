/-
  The data machine, part C: a store; an append in place; an append into a new row.
-/
import Derived.Test.YthadbladkbfcmaaDmB
namespace Go.Dm
open Go.RowKit

theorem heap_setCells_ne (b : Nat) : ∀ (vs : List Value) (o : Nat) (w : World) (k : Nat), k ≠ b → (w.setCells b o vs).heap[k]? = w.heap[k]?
  | [], _, _, _, _ => rfl
  | v :: r, o, w, k, h => by
    rw [World.setCells, heap_setCells_ne b r (o + 1) _ k h]
    exact Below.heap_setCell _ _ _ _ h

theorem heap_setCells_map (b : Nat) : ∀ (vs : List Value) (o : Nat) (w : World) (k : Nat) (es : Array MapEntry) (c : Nat), w.heap[k]? = some (.map es c) → (w.setCells b o vs).heap[k]? = some (.map es c)
  | [], _, _, _, _, _, h => h
  | v :: r, o, w, k, es, c, h => by
    rw [World.setCells]
    refine heap_setCells_map b r (o + 1) _ k es c ?_
    simp only [World.setCell, Array.getElem?_modify]
    split
    · rename_i hb; have hb' : b = k := hb; subst hb'; rw [h]; rfl
    · exact h

theorem size_setCells (b : Nat) : ∀ (vs : List Value) (o : Nat) (w : World), (w.setCells b o vs).heap.size = w.heap.size
  | [], _, _ => rfl
  | v :: r, o, w => by rw [World.setCells, size_setCells b r]; simp

theorem heap_setCells_same (b : Nat) : ∀ (vs : List Value) (o : Nat) (w : World) (arr : Array Value) (e : TypeId) (fz : Nat × Nat), w.heap[b]? = some (.cells arr e fz) →
    ∃ arr', (w.setCells b o vs).heap[b]? = some (.cells arr' e fz) ∧ arr'.size = arr.size
  | [], _, _, arr, _, _, h => ⟨arr, h, rfl⟩
  | v :: r, o, w, arr, e, fz, h => by
    rw [World.setCells]
    have h1 : (w.setCell ⟨b, o, none⟩ v).heap[b]? = some (.cells (arr.setIfInBounds o v) e fz) := by
      simp only [World.setCell, Array.getElem?_modify, if_true, h]; rfl
    obtain ⟨arr', h2, h3⟩ := heap_setCells_same b r (o + 1) _ _ e fz h1
    exact ⟨arr', h2, by rw [h3]; simp⟩

/-- Cells that don't stay are written: all that stays, stays. -/
theorem Ev.setCells {Fr Fr' : Nat → Nat → Prop} {w : World} (b o : Nat) (vs : List Value) (hf : ∀ b o, Fr b o → Fr' b o) (hno : ∀ j, j < vs.length → ¬ Fr b (o + j)) : Ev Fr Fr' w (w.setCells b o vs) where
  fr := hf
  cell b' o' v hfr hv := by
    rw [World.cell?_setCells_out b vs o w ⟨b', o', none⟩ (fun hb _ => ?_)]
    · exact hv
    · simp only at hb
      subst hb
      rcases Nat.lt_or_ge o' o with h | h
      · exact .inl h
      · rcases Nat.lt_or_ge o' (o + vs.length) with h' | h'
        · exfalso
          have := hno (o' - o) (by omega)
          rw [show o + (o' - o) = o' by omega] at this
          exact this hfr
        · exact .inr h'
  obj b' es c _ hv := heap_setCells_map b vs o w b' es c hv

theorem All2.splice {R : V → Value → Prop} {xs ys : List V} {vs us : List Value} (h : All2 R xs vs) (k : All2 R ys us) (off : Nat) :
    All2 R (xs.take off ++ ys ++ xs.drop (off + ys.length)) (vs.take off ++ us ++ vs.drop (off + us.length)) := by
  rw [k.length]
  exact ((h.take off).append k).append (h.drop _)

theorem splice_length {α : Type} (xs ys : List α) (off : Nat) (h : off + ys.length ≤ xs.length) : (xs.take off ++ ys ++ xs.drop (off + ys.length)).length = xs.length := by
  simp only [List.length_append, List.length_take, List.length_drop]; omega

theorem rangeAt_splice {w : World} {b o : Nat} {vs us : List Value} (h : w.rangeAt b o vs) (ht : w.there b o vs.length) (off : Nat) (hin : off + us.length ≤ vs.length) :
    (w.setCells b (o + off) us).rangeAt b o (vs.take off ++ us ++ vs.drop (off + us.length)) := by
  intro j v hv
  by_cases h1 : j < off
  · rw [World.cell?_setCells_out b us (o + off) w _ (fun _ _ => .inl (by simp; omega))]
    rw [List.append_assoc, List.getElem?_append_left (by simp; omega), List.getElem?_take, if_pos h1] at hv
    exact h j v hv
  · by_cases h2 : j < off + us.length
    · have hsome : ∀ i, i < us.length → (w.cell? ⟨b, o + off + i, none⟩).isSome = true := fun i hi => by
        have := (ht (off + i) (by omega)).1
        rwa [show o + off + i = o + (off + i) by omega]
      have := World.cell?_setCells_in b us (o + off) w hsome (j - off) (by omega)
      rw [show o + off + (j - off) = o + j by omega] at this
      rw [this, ← hv]
      rw [List.append_assoc, List.getElem?_append_right (by simp; omega), List.getElem?_append_left (by simp; omega)]
      simp only [List.length_take]
      rw [show j - min off vs.length = j - off by omega, List.getElem?_eq_getElem (by omega)]
    · rw [World.cell?_setCells_out b us (o + off) w _ (fun _ _ => .inr (by simp; omega))]
      rw [List.getElem?_append_right (by simp; omega), List.getElem?_drop] at hv
      refine h j v ?_
      rw [← hv]
      congr 1
      simp; omega

/-- A part of a variable is written. -/
theorem Rel.store {F : Fm} {γ : Gh} {m : Mem} {a : Act} {w : World} (h : Rel F γ m a w) {id b o : Nat} {xs : List V} (hv : m.var id = some xs) (hl : γ.loc id = some (b, o)) (off : Nat) {ys : List V} {us : List Value}
    (hy : All2 (V.rep γ m.tok w) ys us) (hin : off + ys.length ≤ xs.length) :
    let m' : Mem := { m with var := fun i => if i = id then some (xs.take off ++ ys ++ xs.drop (off + ys.length)) else m.var i }
    Rel F γ m' a (w.setCells b (o + off) us) := by
  intro m'
  obtain ⟨b', o', h1, ⟨vs, h2, h3⟩, h4, h5⟩ := h.vars id xs hv
  rw [h1] at hl; cases hl
  have hyl := hy.length
  have hvl := h2.length
  have hno : ∀ j, j < us.length → ¬ γ.fr b (o + off + j) := fun j hj => by
    have := (h5 (off + j) (by omega)).1
    rwa [show o + off + j = o + (off + j) by omega]
  have hex : Ex γ γ m.tok m.tok w (w.setCells b (o + off) us) := ⟨.setCells b (o + off) us (fun _ _ h => h) hno, fun _ _ h => h, fun _ _ h => .inl ⟨h, rfl⟩⟩
  exact {
    defers := h.defers
    size := h.size
    base := h.base.setCells fun j hj => by
      have := (h5 (off + j) (by omega)).2
      rwa [show o + off + j = o + (off + j) by omega]
    fr0 := h.fr0
    frs := h.frs
    frlt := fun b o hx => by rw [size_setCells]; exact h.frlt b o hx
    loclt := fun i b o hx => by rw [size_setCells]; exact h.loclt i b o hx
    tmps := fun t => T.rep.mono hex _ _ (h.tmps t)
    vars := fun i zs hi => by
      by_cases he : i = id
      · subst he
        simp only [m', if_true, Option.some.injEq] at hi
        subst hi
        refine ⟨b, o, h1, ⟨_, ((h2.mono (fun x v => V.rep.mono hex x v)).splice (hy.mono (fun x v => V.rep.mono hex x v)) off), rangeAt_splice h3 (by rw [← hvl]; exact h4) off (by omega)⟩, ?_, ?_⟩
        · rw [splice_length _ _ _ hin]; exact World.there_setCells h4 _ _ _
        · rw [splice_length _ _ _ hin]; exact h5
      · simp only [m', he, if_false] at hi
        obtain ⟨b', o', k1, ⟨vs', k2, k3⟩, k4, k5⟩ := h.vars i zs hi
        refine ⟨b', o', k1, ⟨vs', k2.mono (fun x v => V.rep.mono hex x v), World.rangeAt_setCells_apart k3 _ _ _ ?_⟩, World.there_setCells k4 _ _ _, k5⟩
        have := h.apart i id zs xs b' o' b o he hi hv k1 h1
        have hk := k2.length
        omega
    novar := fun i hi => by
      by_cases he : i = id
      · subst he; simp [m'] at hi
      · simp [m', he] at hi; exact h.novar i hi
    lentloc := h.lentloc
    apart := fun i j ys' zs b1 o1 b2 o2 hij hi hj hl1 hl2 => by
      have key : ∀ k zs', m'.var k = some zs' → ∃ zs, m.var k = some zs ∧ zs.length = zs'.length := fun k zs' hk => by
        by_cases he : k = id
        · subst he
          simp only [m', if_true, Option.some.injEq] at hk
          subst hk
          exact ⟨xs, hv, (splice_length _ _ _ hin).symm⟩
        · simp only [m', he, if_false] at hk; exact ⟨zs', hk, rfl⟩
      obtain ⟨zs1, hz1, e1⟩ := key i _ hi
      obtain ⟨zs2, hz2, e2⟩ := key j _ hj
      have := h.apart i j zs1 zs2 b1 o1 b2 o2 hij hz1 hz2 hl1 hl2
      omega
    toks := fun i n hi => by
      obtain ⟨k1, k2⟩ := h.toks i n hi
      refine ⟨k1, ?_⟩
      by_cases hc : (γ.tk i).cap = n
      · exact .inl hc
      · obtain ⟨b', hbs, hge, ⟨arr, e, harr, hcap⟩, hfr⟩ := k2.resolve_left hc
        have hne : b' ≠ b := fun he => by
          have := h.tvar i n id xs b o hi hv h1 hc
          rw [hbs] at this
          exact this (by simp [he])
        exact .inr ⟨b', hbs, hge, ⟨arr, e, by rw [heap_setCells_ne _ _ _ _ _ hne]; exact harr, hcap⟩, hfr⟩
    tapart := h.tapart
    tvar := fun i n j zs b1 o1 hi hj hl1 hc => by
      by_cases he : j = id
      · subst he; exact h.tvar i n j xs b1 o1 hi hv hl1 hc
      · simp only [m', he, if_false] at hj; exact h.tvar i n j zs b1 o1 hi hj hl1 hc }

theorem Rel.store_ex {F : Fm} {γ : Gh} {m : Mem} {a : Act} {w : World} (h : Rel F γ m a w) {id b o : Nat} {xs : List V} (hv : m.var id = some xs) (hl : γ.loc id = some (b, o)) (off : Nat) {us : List Value} (hin : off + us.length ≤ xs.length) :
    Ex γ γ m.tok m.tok w (w.setCells b (o + off) us) := by
  obtain ⟨b', o', h1, _, _, h5⟩ := h.vars id xs hv
  rw [h1] at hl; cases hl
  exact ⟨.setCells b (o + off) us (fun _ _ h => h) (fun j hj => by
    have := (h5 (off + j) (by omega)).1
    rwa [show o + off + j = o + (off + j) by omega]), fun _ _ h => h, fun _ _ h => .inl ⟨h, rfl⟩⟩

/-- Elements come behind the length of a row, in place. -/
theorem Rel.inPlace {F : Fm} {γ : Gh} {m : Mem} {a : Act} {w : World} (h : Rel F γ m a w) {i n k b : Nat} (hi : m.tok i = some n) (hc : (γ.tk i).cap ≠ n) (hb : (γ.tk i).base = some ⟨b, 0, none⟩)
    (us : List Value) (hus : us.length = k * (γ.tk i).sz) (hcap : n + k ≤ (γ.tk i).cap) (hk : 0 < k) :
    let γ' : Gh := { γ with fr := fun b' o => γ.fr b' o ∨ (b' = b ∧ o < (n + k) * (γ.tk i).sz ∧ n * (γ.tk i).sz ≤ o) }
    let m' : Mem := { m with tok := fun j => if j = i then some (n + k) else m.tok j }
    Rel F γ' m' a (w.setCells b (n * (γ.tk i).sz) us) ∧ Ex γ γ' m.tok m'.tok w (w.setCells b (n * (γ.tk i).sz) us) ∧ w.there b (n * (γ.tk i).sz) us.length := by
  intro γ' m'
  obtain ⟨k1, k2⟩ := h.toks i n hi
  obtain ⟨b', hbs, hge, ⟨arr, e, harr, hcapsz⟩, hfr⟩ := k2.resolve_left hc
  rw [hb] at hbs; cases hbs
  have hblt : b < w.heap.size := by
    rcases Nat.lt_or_ge b w.heap.size with h | h
    · exact h
    · rw [Array.getElem?_eq_none h] at harr; cases harr
  have hmul : n * (γ.tk i).sz + us.length ≤ arr.size := by
    rw [hus, ← Nat.add_mul]
    exact Nat.le_trans (Nat.mul_le_mul_right _ hcap) hcapsz
  have hex : Ex γ γ' m.tok m'.tok w (w.setCells b (n * (γ.tk i).sz) us) := by
    refine ⟨.setCells b _ us (fun _ _ h => .inl h) (fun j hj => hfr _ (by omega)), fun _ _ h => h, fun j l hj => ?_⟩
    by_cases he : j = i
    · subst he
      rw [hi] at hj; cases hj
      exact .inr ⟨n + k, by simp [m'], by omega⟩
    · exact .inl ⟨by simp [m', he, hj], rfl⟩
  have hvb : ∀ id xs b1 o1, m.var id = some xs → γ.loc id = some (b1, o1) → b1 ≠ b := fun id xs b1 o1 hv hl he => by
    have := h.tvar i n id xs b1 o1 hi hv hl hc
    rw [hb] at this
    exact this (by simp [he])
  refine ⟨?_, hex, fun j hj => ?_⟩
  · exact {
      defers := h.defers
      size := h.size
      base := h.base.setCells fun j hj => .inr hge
      fr0 := fun b o hx => .inl (h.fr0 b o hx)
      frs := fun b1 o hx => by
        rcases hx with hx | ⟨rfl, _⟩
        · exact h.frs b1 o hx
        · exact .inr (.inr hge)
      frlt := fun b1 o hx => by
        rw [size_setCells]
        rcases hx with hx | ⟨rfl, _⟩
        · exact h.frlt b1 o hx
        · exact hblt
      loclt := fun j b o hx => by rw [size_setCells]; exact h.loclt j b o hx
      tmps := fun t => T.rep.mono hex _ _ (h.tmps t)
      vars := fun id xs hv => by
        obtain ⟨b1, o1, h1, ⟨vs, h2, h3⟩, h4, h5⟩ := h.vars id xs hv
        have hne := hvb id xs b1 o1 hv h1
        refine ⟨b1, o1, h1, ⟨vs, h2.mono (fun x v => V.rep.mono hex x v), World.rangeAt_setCells_apart h3 _ _ _ (.inl hne)⟩, World.there_setCells h4 _ _ _, fun j hj => ⟨fun hx => ?_, (h5 j hj).2⟩⟩
        rcases hx with hx | ⟨he, _⟩
        · exact (h5 j hj).1 hx
        · exact hne he
      novar := h.novar
      lentloc := h.lentloc
      apart := h.apart
      toks := fun j l hj => by
        by_cases he : j = i
        · subst he
          simp only [m', if_true, Option.some.injEq] at hj
          subst hj
          refine ⟨hcap, .inr ⟨b, hb, hge, ?_, fun o ho hx => ?_⟩⟩
          · obtain ⟨arr', g1, g2⟩ := heap_setCells_same b us (n * (γ.tk j).sz) w arr e (0, 0) harr
            exact ⟨arr', e, g1, by rw [g2]; exact hcapsz⟩
          · rcases hx with hx | ⟨_, hx, _⟩
            · refine hfr o (Nat.le_trans (Nat.mul_le_mul_right _ (by omega)) ho) hx
            · exact absurd ho (Nat.not_le.2 hx)
        · simp only [m', he, if_false] at hj
          obtain ⟨k1', k2'⟩ := h.toks j l hj
          refine ⟨k1', ?_⟩
          by_cases hc' : (γ.tk j).cap = l
          · exact .inl hc'
          · obtain ⟨b2, hbs, hge2, ⟨arr2, e2, harr2, hcap2⟩, hfr2⟩ := k2'.resolve_left hc'
            have hne : b2 ≠ b := fun hq => by
              have := h.tapart j i l n he hj hi hc' hc
              rw [hbs, hb] at this
              exact this (by simp [hq])
            refine .inr ⟨b2, hbs, hge2, ⟨arr2, e2, by rw [heap_setCells_ne _ _ _ _ _ hne]; exact harr2, hcap2⟩, fun o ho hx => ?_⟩
            rcases hx with hx | ⟨hq, _⟩
            · exact hfr2 o ho hx
            · exact hne hq
      tapart := fun j l x y hjl hj hl hcj hcl => by
        have key : ∀ j x, m'.tok j = some x → (γ.tk j).cap ≠ x → ∃ x', m.tok j = some x' ∧ (γ.tk j).cap ≠ x' := fun j x hj hcj => by
          by_cases he : j = i
          · subst he; exact ⟨n, hi, hc⟩
          · simp only [m', he, if_false] at hj; exact ⟨x, hj, hcj⟩
        obtain ⟨x', a1, a2⟩ := key j x hj hcj
        obtain ⟨y', b1, b2⟩ := key l y hl hcl
        exact h.tapart j l x' y' hjl a1 b1 a2 b2
      tvar := fun j x id xs b1 o1 hj hv hl hcj => by
        by_cases he : j = i
        · subst he; exact h.tvar j n id xs b1 o1 hi hv hl hc
        · simp only [m', he, if_false] at hj; exact h.tvar j x id xs b1 o1 hj hv hl hcj }
  · have hlt : n * (γ.tk i).sz + j < arr.size := by omega
    constructor
    · simp [World.cell?, harr, hlt]
    · simp [World.frozen?, harr]

/-- A token stands for a new row, in a new block (the world has been drawn from, and the row laid). -/
theorem Rel.newRow {F : Fm} {γ : Gh} {m : Mem} {a : Act} {w w' : World} (h : Rel F γ m a w) (hb : Below w.heap.size w w') {i n n' cap sz : Nat} (hi : m.tok i = none ∨ (m.tok i = some n ∧ n < n'))
    {arr : Array Value} {e : TypeId} (harr : w'.heap[w.heap.size]? = some (.cells arr e (0, 0))) (hcap : n' ≤ cap) (hsz : cap * sz ≤ arr.size) :
    let γ' : Gh := { fr := fun b o => γ.fr b o ∨ (b = w.heap.size ∧ o < n' * sz), loc := γ.loc, tk := fun j => if j = i then ⟨some ⟨w.heap.size, 0, none⟩, cap, sz⟩ else γ.tk j }
    let m' : Mem := { m with tok := fun j => if j = i then some n' else m.tok j }
    Rel F γ' m' a w' ∧ Ex γ γ' m.tok m'.tok w w' := by
  intro γ' m'
  have hlt' : w.heap.size < w'.heap.size := by
    rcases Nat.lt_or_ge w.heap.size w'.heap.size with h | h
    · exact h
    · rw [Array.getElem?_eq_none h] at harr; cases harr
  have hg := (h.grow hb (fr' := γ'.fr) (fun _ _ h => .inl h) (fun b o hx => by
    rcases hx with hx | ⟨rfl, _⟩
    · exact .inl hx
    · exact .inr ⟨Nat.le_refl _, hlt'⟩)).1
  have hex : Ex γ γ' m.tok m'.tok w w' := by
    refine ⟨.of_below hb (fun _ _ h => .inl h), fun _ _ h => h, fun j l hj => ?_⟩
    by_cases he : j = i
    · subst he
      rcases hi with hi | ⟨hi, hlt⟩
      · rw [hi] at hj; cases hj
      · rw [hi] at hj; cases hj; exact .inr ⟨n', by simp [m'], hlt⟩
    · exact .inl ⟨by simp [m', he, hj], by simp [γ', he]⟩
  have oldTok : ∀ j x, j ≠ i → m.tok j = some x → (γ.tk j).cap ≠ x → (γ.tk j).base.map (·.block) ≠ some w.heap.size := fun j x _ hj hc heq => by
    obtain ⟨b2, hbs, _, ⟨arr2, e2, harr2, _⟩, _⟩ := (h.toks j x hj).2.resolve_left hc
    rw [hbs] at heq
    simp at heq
    subst heq
    simp at harr2
  refine ⟨?_, hex⟩
  exact {
    defers := h.defers
    size := h.size
    base := hg.base
    fr0 := hg.fr0
    frs := hg.frs
    frlt := hg.frlt
    loclt := hg.loclt
    tmps := fun t => T.rep.mono hex _ _ (h.tmps t)
    vars := fun id xs hv => by
      obtain ⟨b1, o1, h1, ⟨vs, h2, h3⟩, h4, h5⟩ := hg.vars id xs hv
      obtain ⟨b1', o1', h1', ⟨vs', h2', h3'⟩, _⟩ := h.vars id xs hv
      simp only at h1
      rw [h1] at h1'; cases h1'
      exact ⟨b1, o1, h1, ⟨vs', h2'.mono (fun x v => V.rep.mono hex x v), rangeAt_below h3' hb⟩, h4, h5⟩
    novar := h.novar
    lentloc := h.lentloc
    apart := h.apart
    toks := fun j l hj => by
      by_cases he : j = i
      · subst he
        simp only [m', if_true, Option.some.injEq] at hj
        subst hj
        refine ⟨by simp [γ', hcap], .inr ⟨w.heap.size, by simp [γ'], h.base.size, ⟨arr, e, harr, by simp [γ', hsz]⟩, fun o ho hx => ?_⟩⟩
        simp only [γ', if_true] at ho hx
        rcases hx with hx | ⟨_, hx⟩
        · exact absurd (h.frlt _ _ hx) (Nat.lt_irrefl _)
        · omega
      · simp only [m', he, if_false] at hj
        obtain ⟨k1, k2⟩ := hg.toks j l hj
        simpa [TokOk, γ', he] using And.intro k1 k2
    tapart := fun j l x y hjl hj hl hcj hcl => by
      by_cases he : j = i
      · subst he
        have hl' : l ≠ j := Ne.symm hjl
        simp only [m', γ', hl', if_false, if_true] at hl hcl ⊢
        intro heq
        exact oldTok l y hl' hl hcl (by rw [← heq]; rfl)
      · by_cases he' : l = i
        · subst he'
          simp only [m', γ', he, if_false, if_true] at hj hcj ⊢
          intro heq
          exact oldTok j x he hj hcj (by rw [heq]; rfl)
        · simp only [m', γ', he, he', if_false] at hj hl hcj hcl ⊢
          exact h.tapart j l x y hjl hj hl hcj hcl
    tvar := fun j x id xs b1 o1 hj hv hl hcj => by
      by_cases he : j = i
      · subst he
        simp only [γ', if_true, Option.map_some]
        intro heq
        simp at heq
        have := h.loclt id b1 o1 hl
        omega
      · simp only [m', γ', he, if_false] at hj hcj ⊢
        exact h.tvar j x id xs b1 o1 hj hv hl hcj }
end Go.Dm
