/-
  The data machine, part 1: what is shown of some functions of Go's library once, whatever their numbers are.
-/
import Derived.Test.YthadbladkbfcmaaDmW
namespace Go.Dm
open Go.RowKit

theorem push_at (h : Array Obj) (o : Obj) (n : Nat) (hn : n = h.size) : (h.push o)[n]? = some o := by subst hn; simp

/-- A copy of a slice (slices.Clone), from what it does to nil and to what isn't nil. -/
theorem clone_meets {P : Program} {gl : Nat → Option (List C)} {f : FuncId} {t e : TypeId} {i : TypeInfo} {z : Value} (hu : P.underlying t = some (.slice e)) (hi : P.info? e = some i) (hz : i.zero = some z) (hzs : z.cells.size = i.size) (_hpos : 0 < i.size) (hby : i.bytes ≤ 131072)
    (hnil : ∀ (n cap : Nat) (w : World), Calls P f #[.slice none n cap] w fun e w' => e = .returned (.slice none 0 0) ∧ w' = w)
    (hsome : ∀ (a : Addr) (n cap : Nat) (w : World) (v' : Value) (w' : World), (∀ ty, (Builtin.append_ #[t, t] ty #[.slice (some ⟨w.heap.size, 0, none⟩) 0 0, .slice (some a) n cap]).run P (w.alloc (.cells #[] e)) = .ok v' w') →
      Calls P f #[.slice (some a) n cap] w fun e w2 => e = .returned v' ∧ w2 = w')
    {sz : Nat} {es : List (List C)} (hsz : sz = i.size ∨ es = []) (hlen : es.length ≤ 1000000) : Meets P gl f [.c (.slice sz es)] [] [.top i.size es] [] := by
  intro Fr w locs vs hf hgl him hap hxs
  obtain ⟨v, rfl, hr⟩ : ∃ v, vs = [v] ∧ (C.slice sz es).rep Fr w v := by
    match vs, hxs with
    | [v], h => exact ⟨v, rfl, h.1⟩
    | [], h => exact h.elim
    | _ :: _ :: _, h => exact h.2.elim
  have hl : locs = [] := by
    cases locs with
    | nil => rfl
    | cons _ _ => exact him.elim
  subst hl
  have hr0 := hr
  simp only [C.rep] at hr0
  obtain ⟨a, len, cap, rfl, hle, hcap, hrow⟩ := hr0
  have hle' := hle
  cases a with
  | none =>
    have h0 : es = [] := by
      rcases hrow with ⟨h, _⟩ | ⟨_, _, h, _⟩
      · exact List.eq_nil_of_length_eq_zero (by omega)
      · cases h
    subst h0
    refine (hnil len cap w).mono ?_
    rintro e w' ⟨rfl, rfl⟩
    refine ⟨[.slice none 0 0], Fr, rfl, BelowBut.of_below (Below.refl _ _), fun b o h => h, fun b o h => .inl h, ⟨?_, trivial⟩, ⟨fun j sz es u h => by simp at h, trivial⟩, trivial, rfl⟩
    simp only [Res.rep, C.rep]
    exact ⟨⟨none, 0, 0, rfl, rfl, Nat.le_refl _, .inl ⟨rfl, rfl⟩⟩, none, 0, rfl, Nat.le_refl _, .inl rfl⟩
  | some ad =>
    have hb1 : Below w.heap.size w (w.alloc (.cells #[] e)) := (Below.refl _ w).alloc (Nat.le_refl _) _
    have hev1 : Ev Fr Fr w (w.alloc (.cells #[] e)) := (BelowBut.of_below hb1 : BelowBut (fun _ _ => False) w _).ev (fun _ _ h => h) (fun _ _ _ h => h)
    have hr1 := C.rep.mono hev1 _ _ hr
    obtain ⟨hn, _, hsizes, _⟩ := slice_vals (P := P) hr1 hsz
    obtain ⟨news, hnews, hsrc⟩ := slice_src hu hr1 hsz
    have hnl := hnews.length
    rw [flatten_len hsizes] at hnl
    by_cases h0 : len = 0
    · have he : es = [] := List.eq_nil_of_length_eq_zero (by omega)
      subst he
      subst h0
      have hn0 : news = [] := List.eq_nil_of_length_eq_zero (by rw [← hnl]; simp)
      subst hn0
      refine (hsome ad 0 cap w _ _ (fun ty => run_append_nothing _ t t ty e i hu hi (some ⟨w.heap.size, 0, none⟩) 0 0 (Nat.le_refl _) _ hsrc)).mono ?_
      rintro e' w' ⟨rfl, rfl⟩
      refine ⟨[.slice (some ⟨w.heap.size, 0, none⟩) 0 0], Fr, rfl, BelowBut.of_below hb1, fun b o h => h, fun b o h => .inl h, ⟨?_, trivial⟩, ⟨fun j sz es u h => by simp at h, trivial⟩, trivial, rfl⟩
      simp only [Res.rep, C.rep]
      exact ⟨⟨_, 0, 0, rfl, rfl, Nat.le_refl _, .inl ⟨rfl, rfl⟩⟩, _, 0, rfl, Nat.le_refl _, .inl rfl⟩
    · have hG := grownCap_le (w.alloc (.cells #[] e)) (0 + len) 0 e
      have hold : (Builtin.firstCells i.size 0 (.slice (some ⟨w.heap.size, 0, none⟩) 0 0)).run P (w.alloc (.cells #[] e)).drew = .ok ([] : List Value).toArray (w.alloc (.cells #[] e)).drew :=
        run_firstCells_some _ i.size 0 _ 0 0 [] (by simp) (fun j u hj => by simp at hj)
      have hfit : Builtin.nextslicecap (0 + len) 0 * i.bytes ≤ 281474976710656 := growslice_fits (by omega) (by
        calc (0 + len) * i.bytes ≤ 1000000 * 131072 := Nat.mul_le_mul (by omega) hby
          _ ≤ 140737488355328 := by decide)
      refine (hsome ad len cap w _ _ (fun ty => run_append_grow_src _ t t ty e i z hu hi hz (some ⟨w.heap.size, 0, none⟩) 0 0 [] hold _ len news hsrc (by omega) (by omega) hfit)).mono ?_
      rintro e' w' ⟨rfl, rfl⟩
      have hb2 : Below w.heap.size w ((w.alloc (.cells #[] e)).drew.alloc (.cells (([] ++ news).toArray ++ Builtin.zeroCells z.cells (grownCap (w.alloc (.cells #[] e)) (0 + len) 0 e - (0 + len))) e)) :=
        ((hb1.drew).alloc (by simp) _)
      have hsize : (w.alloc (.cells #[] e)).heap.size = w.heap.size + 1 := by simp
      have hev2 : Ev (fun b o => Fr b o) (fun b o => Fr b o ∨ (b = w.heap.size + 1 ∧ o < es.length * i.size)) (w.alloc (.cells #[] e)) ((w.alloc (.cells #[] e)).drew.alloc (.cells (([] ++ news).toArray ++ Builtin.zeroCells z.cells (grownCap (w.alloc (.cells #[] e)) (0 + len) 0 e - (0 + len))) e)) := by
        have hb3 : Below (w.alloc (.cells #[] e)).heap.size (w.alloc (.cells #[] e)) ((w.alloc (.cells #[] e)).drew.alloc (.cells (([] ++ news).toArray ++ Builtin.zeroCells z.cells (grownCap (w.alloc (.cells #[] e)) (0 + len) 0 e - (0 + len))) e)) :=
          ((Below.refl (w.alloc (.cells #[] e)).heap.size (w.alloc (.cells #[] e))).drew).alloc (by simp) _
        exact (BelowBut.of_below hb3 : BelowBut (fun _ _ => False) _ _).ev (fun _ _ h => .inl h) (fun _ _ _ h => h)
      refine ⟨[.slice (some ⟨(w.alloc (.cells #[] e)).heap.size, 0, none⟩) (0 + len) (grownCap (w.alloc (.cells #[] e)) (0 + len) 0 e)], fun b o => Fr b o ∨ (b = w.heap.size + 1 ∧ o < es.length * i.size), rfl, BelowBut.of_below hb2, fun b o h => .inl h, ?_, ⟨?_, trivial⟩, ⟨fun j sz es u h => by simp at h, trivial⟩, trivial, rfl⟩
      · rintro b o (h | ⟨rfl, _⟩)
        · exact .inl h
        · exact .inr ⟨by omega, by simp⟩
      · simp only [Res.rep, C.rep]
        have hkey : ∀ (o : Nat), ((w.alloc (.cells #[] e)).drew.alloc (.cells (([] ++ news).toArray ++ Builtin.zeroCells z.cells (grownCap (w.alloc (.cells #[] e)) (0 + len) 0 e - (0 + len))) e)).cell? ⟨w.heap.size + 1, 0 + o, none⟩ = (([] ++ news).toArray ++ Builtin.zeroCells z.cells (grownCap (w.alloc (.cells #[] e)) (0 + len) 0 e - (0 + len)))[0 + o]? := fun o => by
          have := World.cell?_alloc_new (w.alloc (.cells #[] e)).drew (([] ++ news).toArray ++ Builtin.zeroCells z.cells (grownCap (w.alloc (.cells #[] e)) (0 + len) 0 e - (0 + len))) e (0 + o)
          simp only [World.size_drew, hsize] at this
          exact this
        refine ⟨⟨_, _, _, rfl, by omega, hG, .inr ⟨w.heap.size + 1, 0, by simp [hsize], ?_⟩⟩, some ⟨(w.alloc (.cells #[] e)).heap.size, 0, none⟩, grownCap (w.alloc (.cells #[] e)) (0 + len) 0 e, by rw [← hle, Nat.zero_add], by omega, .inr ⟨w.heap.size + 1, by simp [hsize], by omega, ⟨_, e, push_at (w.alloc (.cells #[] e)).drew.heap _ _ (by simp), ?_⟩, ?_⟩⟩
        · refine rows_new hev2 hnews hsizes (fun o ho => .inr ⟨rfl, ho⟩) (fun q v hq => ?_)
          have hql : q < news.length := (List.getElem?_eq_some_iff.1 hq).1
          rw [hkey q, Nat.zero_add, Array.getElem?_append_left (by simpa using hql)]
          simpa using hq
        · rw [Array.size_append, zeroCells_size, hzs]
          have e1 : ([] ++ news).toArray.size = (0 + len) * i.size := by simp only [List.nil_append, List.size_toArray, Nat.zero_add]; rw [← hnl, hle]
          rw [e1, ← Nat.add_mul]
          refine Nat.mul_le_mul_right _ ?_
          omega
        · rintro o ho (h | ⟨_, h⟩)
          · have := hf _ _ h
            omega
          · omega
end Go.Dm
