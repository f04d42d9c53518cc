/-
  A part of the proofs over this seat: what its functions make of data (the file in which the theorems stand says what is proved).
-/
import Derived.Test.YtigkecdnnkgghaaLs
import Derived.Test.YtigkecdnnkgghaaLm
namespace Go.Dm
open Go Go.RowKit Go.Proofs

theorem miOf_cs {e : List C} {m : Mi} (h : miOf e = some m) : e = m.cs := by
  unfold miOf at h
  split at h
  · cases h; rfl
  · cases h
theorem mapM_cs {es : List (List C)} {l : List Mi} (h : es.mapM miOf = some l) : es = mints l := by
  induction es generalizing l with
  | nil => simp at h; subst h; rfl
  | cons e es ih =>
    rw [List.mapM_cons] at h
    cases he : miOf e with
    | none => simp [he] at h
    | some m =>
      cases hr : es.mapM miOf with
      | none => simp [he, hr] at h
      | some r =>
        simp [he, hr] at h
        subst h
        rw [miOf_cs he, ih hr]
        rfl
theorem mintsAt_of {Fr : Nat → Nat → Prop} {w : World} (hf : ∀ b o, Fr b o → b < w.heap.size) {sz : Nat} {l : List Mi} (hs : sz = 3 ∨ mints l = []) {v : Value} (h : (C.slice sz (mints l)).rep Fr w v) :
    ∃ a len cap, v = .slice a len cap ∧ MintsAt w.heap.size w v l := by
  simp only [C.rep] at h
  obtain ⟨a, len, cap, rfl, hlen, hcap, h4⟩ := h
  refine ⟨a, len, cap, rfl, ?_⟩
  rw [mints_len] at hlen
  by_cases hl : l = []
  · subst hl
    simp at hlen
    subst hlen
    exact .inl ⟨a, cap, rfl, rfl⟩
  · have hsz : sz = 3 := by
      rcases hs with h | h
      · exact h
      · exact absurd (List.map_eq_nil_iff.1 h) hl
    subst hsz
    rcases h4 with ⟨h4, _⟩ | ⟨b, o, rfl, hr⟩
    · exact absurd (List.eq_nil_of_length_eq_zero (by omega)) hl
    · have hg : ∀ j (hj : j < l.length), cellsAt Fr w b (l[j]).cs (o + j * 3) := fun j hj => (rowsAt_get hr j _ (by simp [mints, hj])).2
      have hb : b < w.heap.size := by
        have h0 : 0 < l.length := List.length_pos_iff.2 hl
        exact hf _ _ (cellsAt_get (hg 0 h0) 0 _ rfl).1
      refine .inr ⟨b, o, cap, by rw [hlen], hb, fun j hj => ?_⟩
      have hc := hg j hj
      rw [List.getElem?_eq_getElem hj, Option.getD_some]
      intro i x hx
      match i, hx with
      | 0, hx => simp at hx; subst hx; obtain ⟨v, h1, h2⟩ := (cellsAt_get hc 0 _ rfl).2; simp only [C.rep] at h2; rw [h1, h2.1]
      | 1, hx => simp at hx; subst hx; obtain ⟨v, h1, h2⟩ := (cellsAt_get hc 1 _ rfl).2; simp only [C.rep] at h2; rw [h1, h2.1]
      | 2, hx => simp at hx; subst hx; obtain ⟨v, h1, h2⟩ := (cellsAt_get hc 2 _ rfl).2; simp only [C.rep] at h2; rw [h1, h2.1]
      | i + 3, hx => simp at hx
theorem tabOk : TabOk PP GL XX := ⟨fun f h xs ims rs ims' hx hh => by
  unfold XX at hx
  split at hx
  · rename_i hf
    subst hf
    cases hx
    unfold parTab at hh
    split at hh
    · rename_i sz es
      split at hh
      · rename_i hc
        obtain ⟨hs, hlen⟩ := hc
        rw [Option.map_eq_some_iff] at hh
        obtain ⟨l, hl, he⟩ := hh
        cases he
        have hes := mapM_cs hl
        subst hes
        rw [mints_len] at hlen
        refine ⟨⟨_, Proofs.Try.func18, rfl, by kernel_rfl⟩, ?_⟩
        intro Fr w locs vs hf hgl him hap hxs
        obtain ⟨v, vs', rfl, hv, hnil⟩ : ∃ v vs', vs = v :: vs' ∧ (C.slice sz (mints l)).rep Fr w v ∧ vs' = [] := by
          cases vs with
          | nil => exact hxs.elim
          | cons v vs' => refine ⟨v, vs', rfl, hxs.1, ?_⟩; cases vs' with
            | nil => rfl
            | cons _ _ => exact hxs.2.elim
        subst hnil
        obtain ⟨a, len, cap, rfl, hM⟩ := mintsAt_of hf hs hv
        have hcall := callsIn_wide.1 (Bw.parents_in Fence.wide 3 trivial trivial trivial rfl (Nat.le_refl _) a len cap l hlen w hM)
        refine hcall.mono ?_
        rintro e w' ⟨rfl, ⟨ents, clock, hm1, hm2⟩, hB⟩
        refine ⟨[.map (some w.heap.size)], fun b o => Fr b o ∨ (b = w.heap.size ∧ o = 0), rfl, BelowBut.of_below hB, fun b o h => .inl h, ?_, ⟨?_, trivial⟩, trivial, ?_, rfl⟩
        · rintro b o (h | ⟨rfl, rfl⟩)
          · exact .inl h
          · exact .inr ⟨Nat.le_refl _, (Array.getElem?_eq_some_iff.1 hm1).1⟩
        · simp only [Res.rep, C.rep]
          exact ⟨_, ents, clock, rfl, .inr ⟨rfl, trivial⟩, hm1, hm2⟩
        · cases locs with
          | nil => trivial
          | cons _ _ => exact him.elim
      · cases hh
    · cases hh
  · cases hx⟩
end Go.Dm
