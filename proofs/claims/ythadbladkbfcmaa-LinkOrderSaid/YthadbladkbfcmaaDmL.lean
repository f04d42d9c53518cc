/-
  The data machine, part L: a call.
-/
import Derived.Test.YthadbladkbfcmaaDmK
namespace Go.Dm
open Go.RowKit

/-! ### What a call leaves -/
theorem BelowBut.lt_of_cell {w : World} {b o : Nat} {v : Value} (h : w.cell? ⟨b, o, none⟩ = some v) : b < w.heap.size := World.block_lt_of_cell? w _ h

theorem BelowBut.cellKeep {imp : Nat → Nat → Prop} {w w' : World} (h : BelowBut imp w w') {b o : Nat} {v : Value} (hn : ¬ imp b o) (hv : w.cell? ⟨b, o, none⟩ = some v) : w'.cell? ⟨b, o, none⟩ = some v := by
  have hk := h.blk b (World.block_lt_of_cell? w _ hv)
  unfold World.cell? at hv ⊢
  simp only at hv ⊢
  split at hv
  · rename_i c e fz hc
    rw [hc] at hk
    obtain ⟨c', h1, h2, h3⟩ := hk
    simp only [h1]
    simp only [Option.isSome_none, Bool.false_eq_true, if_false] at hv ⊢
    rw [h3 o hn]
    exact hv
  · cases hv

theorem BelowBut.thereKeep {imp : Nat → Nat → Prop} {w w' : World} (h : BelowBut imp w w') {b o n : Nat} (ht : w.there b o n) : w'.there b o n := fun j hj => by
  obtain ⟨h1, h2⟩ := ht j hj
  obtain ⟨u, hu⟩ := Option.isSome_iff_exists.1 h1
  have hk := h.blk b (World.block_lt_of_cell? w _ hu)
  unfold World.cell? at hu ⊢
  unfold World.frozen? at h2 ⊢
  simp only at hu h2 ⊢
  split at hu
  · rename_i c e fz hc
    rw [hc] at hk h2
    obtain ⟨c', k1, k2, k3⟩ := hk
    simp only [k1]
    refine ⟨?_, h2⟩
    simp only [Option.isSome_none, Bool.false_eq_true, if_false] at hu ⊢
    have hlt : o + j < c.size := (Array.getElem?_eq_some_iff.1 hu).1
    simp [k2, hlt]
  · cases hu

theorem BelowBut.mapKeep {imp : Nat → Nat → Prop} {w w' : World} (h : BelowBut imp w w') {b : Nat} {es : Array MapEntry} {c : Nat} (hm : w.heap[b]? = some (.map es c)) : w'.heap[b]? = some (.map es c) := by
  have hlt : b < w.heap.size := by
    rcases Nat.lt_or_ge b w.heap.size with h | h
    · exact h
    · rw [Array.getElem?_eq_none h] at hm; cases hm
  have hk := h.blk b hlt
  rw [hm] at hk
  exact hk

theorem BelowBut.rowKeep {imp : Nat → Nat → Prop} {w w' : World} (h : BelowBut imp w w') {b : Nat} {arr : Array Value} {e : TypeId} {fz : Nat × Nat} (hm : w.heap[b]? = some (.cells arr e fz)) : ∃ arr', w'.heap[b]? = some (.cells arr' e fz) ∧ arr'.size = arr.size := by
  have hlt : b < w.heap.size := by
    rcases Nat.lt_or_ge b w.heap.size with h | h
    · exact h
    · rw [Array.getElem?_eq_none h] at hm; cases hm
  have hk := h.blk b hlt
  rw [hm] at hk
  obtain ⟨c', h1, h2, _⟩ := hk
  exact ⟨c', h1, h2⟩

theorem BelowBut.ev {imp : Nat → Nat → Prop} {w w' : World} (h : BelowBut imp w w') {Fr Fr' : Nat → Nat → Prop} (hf : ∀ b o, Fr b o → Fr' b o) (hn : ∀ b o, Fr b o → ¬ imp b o) : Ev Fr Fr' w w' :=
  ⟨hf, fun b o _ hfr hv => h.cellKeep (hn b o hfr) hv, fun _ _ _ _ hv => h.mapKeep hv⟩

theorem Kept.mono {p q : Nat → Prop} {x y : Option Obj} (h : Kept p x y) (hpq : ∀ j, p j → q j) : Kept q x y := by
  unfold Kept at h ⊢
  split
  · rename_i c e fz
    obtain ⟨c', h1, h2, h3⟩ := h
    exact ⟨c', h1, h2, fun j hj => h3 j (fun hp => hj (hpq j hp))⟩
  · rename_i hx
    split at h
    · rename_i c e fz; exact absurd rfl (hx c e fz)
    · exact h

/-- One variable was lent, in part. -/
theorem Rel.lent {F : Fm} {γ : Gh} {m : Mem} {a : Act} {w w' : World} (h : Rel F γ m a w) {id b o off n : Nat} {ys : List V} {ds : List C} (hv : m.var id = some ys) (hl : γ.loc id = some (b, o)) (hin : off + n ≤ ys.length) {fr' : Nat → Nat → Prop}
    (hbb : BelowBut (fun b' x => b' = b ∧ o + off ≤ x ∧ x < o + off + n) w w') (hf : ∀ b o, γ.fr b o → fr' b o) (hn : ∀ b o, fr' b o → γ.fr b o ∨ (w.heap.size ≤ b ∧ b < w'.heap.size)) (hds : lentAt fr' w' ds (b, o + off)) (hdl : ds.length = n) :
    let m' : Mem := { m with var := fun i => if i = id then some (ys.take off ++ ds.map .c ++ ys.drop (off + ds.length)) else m.var i }
    Rel F { γ with fr := fr' } m' a w' ∧ Ex γ { γ with fr := fr' } m.tok m.tok w w' := by
  intro m'
  subst hdl
  obtain ⟨b', o', h1, ⟨vs, h2, h3⟩, h4, h5⟩ := h.vars id ys hv
  rw [h1] at hl; cases hl
  have hnl : ∀ b' x, γ.fr b' x → ¬ (b' = b ∧ o + off ≤ x ∧ x < o + off + ds.length) := fun b' x hfr ⟨hb, h6, h7⟩ => by
    subst hb
    have := (h5 (x - o) (by omega)).1
    rw [show o + (x - o) = x by omega] at this
    exact this hfr
  have hex : Ex γ { γ with fr := fr' } m.tok m.tok w w' := ⟨hbb.ev hf hnl, fun _ _ h => h, fun _ _ h => .inl ⟨h, rfl⟩⟩
  have old : ∀ b o, b < w.heap.size → fr' b o → γ.fr b o := fun b o hlt hx => (hn b o hx).resolve_right (by omega)
  have hlen : (ys.take off ++ ds.map V.c ++ ys.drop (off + ds.length)).length = ys.length := by
    have := splice_length ys (ds.map V.c) off (by simpa using hin)
    simpa using this
  have hvl := h2.length
  refine ⟨?_, hex⟩
  exact {
    defers := h.defers
    size := h.size
    base := ⟨hbb.os.trans h.base.os, hbb.tape.trans h.base.tape, hbb.output.trans h.base.output, Nat.le_trans h.base.size hbb.size, fun i hi => (h.base.blk i hi).trans ((hbb.blk i (Nat.lt_of_lt_of_le hi h.base.size)).mono (fun j hj => by
      obtain ⟨rfl, h6, h7⟩ := hj
      have := (h5 (j - o) (by omega)).2
      rw [show o + (j - o) = j by omega] at this
      rcases this with this | this
      · exact this
      · omega))⟩
    fr0 := fun b o x => hf b o (h.fr0 b o x)
    frs := fun b o x => by
      rcases hn b o x with x | x
      · exact h.frs b o x
      · exact .inr (.inr (by have := h.base.size; omega))
    frlt := fun b o x => by
      rcases hn b o x with x | x
      · exact Nat.lt_of_lt_of_le (h.frlt b o x) hbb.size
      · exact x.2
    loclt := fun id b o hl => Nat.lt_of_lt_of_le (h.loclt id b o hl) hbb.size
    tmps := fun t => T.rep.mono hex _ _ (h.tmps t)
    vars := fun i zs hi => by
      by_cases he : i = id
      · subst he
        simp only [m', if_true, Option.some.injEq] at hi
        subst hi
        obtain ⟨⟨us, hu1, hu2⟩, _, _⟩ := hds
        have hul := hu1.length
        refine ⟨b, o, h1, ⟨vs.take off ++ us ++ vs.drop (off + us.length), ?_, fun j v hj => ?_⟩, ?_, ?_⟩
        · have k1 := h2.mono (fun x v => V.rep.mono hex x v)
          have k2 : All2 (V.rep { γ with fr := fr' } m.tok w') (ds.map V.c) us := V.cells_rep hu1
          have := k1.splice k2 off
          simpa using this
        · by_cases c1 : j < off
          · rw [List.append_assoc, List.getElem?_append_left (by simp; omega), List.getElem?_take, if_pos c1] at hj
            exact hbb.cellKeep (fun hq => by omega) (h3 j v hj)
          · by_cases c2 : j < off + us.length
            · rw [List.append_assoc, List.getElem?_append_right (by simp; omega), List.getElem?_append_left (by simp; omega)] at hj
              have := hu2 (j - off) v (by rw [← hj]; congr 1; simp; omega)
              rwa [show (b, o + off).2 + (j - off) = o + j by simp; omega] at this
            · rw [List.getElem?_append_right (by simp; omega), List.getElem?_drop] at hj
              refine hbb.cellKeep (fun hq => by omega) (h3 j v ?_)
              rw [← hj]; congr 1; simp; omega
        · rw [hlen]; exact hbb.thereKeep h4
        · rw [hlen]
          intro j hj
          refine ⟨fun hx => ?_, (h5 j hj).2⟩
          obtain ⟨u, hu⟩ := Option.isSome_iff_exists.1 (h4 j hj).1
          exact (h5 j hj).1 (old b _ (World.block_lt_of_cell? w _ hu) hx)
      · simp only [m', he, if_false] at hi
        obtain ⟨b2, o2, k1, ⟨vs', k2, k3⟩, k4, k5⟩ := h.vars i zs hi
        have hap := h.apart i id zs ys b2 o2 b o he hi hv k1 h1
        have hkl := k2.length
        refine ⟨b2, o2, k1, ⟨vs', k2.mono (fun x v => V.rep.mono hex x v), fun j v hj => hbb.cellKeep (fun hq => ?_) (k3 j v hj)⟩, hbb.thereKeep k4, fun j hj => ⟨fun hx => ?_, (k5 j hj).2⟩⟩
        · have := (List.getElem?_eq_some_iff.1 hj).1
          omega
        · obtain ⟨u, hu⟩ := Option.isSome_iff_exists.1 (k4 j hj).1
          exact (k5 j hj).1 (old b2 _ (World.block_lt_of_cell? w _ hu) hx)
    novar := fun i hi => by
      by_cases he : i = id
      · subst he; simp [m'] at hi
      · simp [m', he] at hi; exact h.novar i hi
    lentloc := h.lentloc
    apart := fun i j zs us b1 o1 b2 o2 hij hi hj hl1 hl2 => by
      have key : ∀ k zs', m'.var k = some zs' → ∃ zs, m.var k = some zs ∧ zs.length = zs'.length := fun k zs' hk => by
        by_cases he : k = id
        · subst he
          simp only [m', if_true, Option.some.injEq] at hk
          subst hk
          exact ⟨ys, hv, hlen.symm⟩
        · simp only [m', he, if_false] at hk; exact ⟨zs', hk, rfl⟩
      obtain ⟨zs1, hz1, e1⟩ := key i _ hi
      obtain ⟨zs2, hz2, e2⟩ := key j _ hj
      have := h.apart i j zs1 zs2 b1 o1 b2 o2 hij hz1 hz2 hl1 hl2
      omega
    toks := fun i k hi => by
      obtain ⟨k1, k2⟩ := h.toks i k hi
      refine ⟨k1, ?_⟩
      by_cases hc : (γ.tk i).cap = k
      · exact .inl hc
      · obtain ⟨b2, hbs, hge, ⟨arr, e, harr, hcap⟩, hfr⟩ := k2.resolve_left hc
        obtain ⟨arr', g1, g2⟩ := hbb.rowKeep harr
        have hlt : b2 < w.heap.size := by
          rcases Nat.lt_or_ge b2 w.heap.size with h | h
          · exact h
          · rw [Array.getElem?_eq_none h] at harr; cases harr
        exact .inr ⟨b2, hbs, hge, ⟨arr', e, g1, by rw [g2]; exact hcap⟩, fun o ho hx => hfr o ho (old b2 o hlt hx)⟩
    tapart := h.tapart
    tvar := fun i k j zs b1 o1 hi hj hl1 hc => by
      by_cases he : j = id
      · subst he; exact h.tvar i k j ys b1 o1 hi hv hl1 hc
      · simp only [m', he, if_false] at hj; exact h.tvar i k j zs b1 o1 hi hj hl1 hc }

end Go.Dm
