/-
  The data machine, part H: what is made of parts; parts of what is made.
-/
import Derived.Test.YthadbladkbfcmaaDmG
namespace Go.Dm
open Go.RowKit

def setFrom (cells : Array Value) (off : Nat) : List Value → Array Value
  | [] => cells
  | v :: r => setFrom (cells.setIfInBounds off v) (off + 1) r

theorem setFrom_toList : ∀ (vs : List Value) (cells : Array Value) (off : Nat), off + vs.length ≤ cells.size → (setFrom cells off vs).toList = cells.toList.take off ++ vs ++ cells.toList.drop (off + vs.length)
  | [], cells, off, _ => by simp [setFrom]
  | v :: r, cells, off, h => by
    simp only [List.length_cons] at h
    rw [setFrom, setFrom_toList r _ _ (by simp; omega)]
    have hlt : off < cells.toList.length := by simp; omega
    have e1 : (cells.setIfInBounds off v).toList = cells.toList.set off v := by simp
    rw [e1, List.set_eq_take_append_cons_drop, if_pos hlt]
    have hl : (cells.toList.take off).length = off := by rw [List.length_take]; omega
    have e2 : List.take (off + 1) (List.take off cells.toList ++ v :: List.drop (off + 1) cells.toList) = List.take off cells.toList ++ [v] := by
      rw [List.take_append, hl]
      simp [List.take_take]
    have e3 : List.drop (off + 1 + r.length) (List.take off cells.toList ++ v :: List.drop (off + 1) cells.toList) = List.drop (off + (v :: r).length) cells.toList := by
      rw [List.drop_append, hl, show off + 1 + r.length - off = r.length + 1 by omega, List.drop_eq_nil_of_le (by rw [hl]; omega)]
      simp [List.drop_drop]
      congr 1
      omega
    rw [e2, e3]
    simp

theorem foldl_zipIdx (off : Nat) : ∀ (vs : List Value) (k : Nat) (cells : Array Value), (vs.zipIdx k).foldl (fun cs x => cs.setIfInBounds (off + x.2) x.1) cells = setFrom cells (off + k) vs
  | [], _, _ => rfl
  | v :: r, k, cells => by
    simp only [List.zipIdx_cons, List.foldl_cons, setFrom]
    rw [foldl_zipIdx off r (k + 1)]
    rfl

theorem fill_part (off : Nat) (v : Value) (cells : Array Value) : v.cells.zipIdx.foldl (fun cs (c, j) => cs.setIfInBounds (off + j) c) cells = setFrom cells off v.cells.toList := by
  rw [← Array.foldl_toList]
  have := foldl_zipIdx off v.cells.toList 0 cells
  simpa using this

theorem K.cells_rep {γ : Gh} {tok : Nat → Option Nat} {w : World} {k : K} {v : Value} (h : k.rep γ tok w v) : All2 (V.rep γ tok w) k.cells v.cells.toList := by
  cases k with
  | v x =>
    simp only [K.rep] at h
    have h1 := V.rep_one h
    have : v.cells = #[v] := by cases v <;> first | rfl | (simp [Value.oneCell'] at h1)
    rw [this]
    exact ⟨h, trivial⟩
  | agg xs =>
    simp only [K.rep] at h
    obtain ⟨vs, rfl, h2⟩ := h
    simpa only [Value.cells, K.cells] using h2

theorem fillV_sound {γ : Gh} {tok : Nat → Option Nat} {w : World} {place place' : Nat → Option (Nat × Nat)} (hp : ∀ i p, place i = some p → place' i = some p) : ∀ {parts : List (Nat × T)} {vals : List (Nat × Value)} {cells cells' : List V} {vs : Array Value},
    All2 (fun (p : Nat × T) (q : Nat × Value) => p.1 = q.1 ∧ p.2.rep γ tok w q.2) parts vals → fillV place cells parts = some cells' → All2 (V.rep γ tok w) cells vs.toList →
    ∃ vs' : Array Value, Instr.fill place' vs vals = some vs' ∧ All2 (V.rep γ tok w) cells' vs'.toList
  | [], [], cells, cells', vs, _, h, hc => by simp [fillV] at h; subst h; exact ⟨vs, rfl, hc⟩
  | (i, x) :: parts, (j, v) :: vals, cells, cells', vs, hpv, h, hc => by
    obtain ⟨⟨hij, hx⟩, hrest⟩ := hpv
    simp only at hij hx
    subst hij
    simp only [fillV] at h
    split at h
    · rename_i off size k hpl hk
      split at h
      · rename_i hcond
        rw [k?_eq hk] at hx
        simp only [T.rep] at hx
        have hkc := K.cells_rep hx
        have hlen := hkc.length
        have hcl := hc.length
        simp only [Array.length_toList] at hlen hcl
        have hin : off + v.cells.toList.length ≤ vs.size := by simp; omega
        have hnew : All2 (V.rep γ tok w) (cells.take off ++ k.cells ++ cells.drop (off + size)) (setFrom vs off v.cells.toList).toList := by
          rw [setFrom_toList _ _ _ hin]
          have := hc.splice hkc off
          rwa [hcond.1] at this
        obtain ⟨vs', h1, h2⟩ := fillV_sound hp hrest h hnew
        refine ⟨vs', ?_, h2⟩
        have hsize : ¬ ((v.cells.size != size) = true ∨ off + v.cells.size > vs.size) := by
          simp; omega
        simp only [Instr.fill, hp _ _ hpl]
        rw [if_neg (by simp; omega), fill_part]
        exact h1
      · cases h
    · cases h
  | [], _ :: _, _, _, _, h, _, _ => h.elim
  | _ :: _, [], _, _, _, h, _, _ => h.elim

theorem zeroOf_sound {P : Program} {γ : Gh} {tok : Nat → Option Nat} {w : World} {t : TypeId} {xs : List V} (h : zeroOf P t = some xs) : ∃ z, (zeroValue t).run P w = .ok z w ∧ All2 (V.rep γ tok w) xs z.cells.toList ∧ ∃ i, P.info? t = some i ∧ i.zero = some z := by
  unfold zeroOf at h
  split at h
  · rename_i z hz
    simp only [Option.map_eq_some_iff] at h
    obtain ⟨k, hk, rfl⟩ := h
    cases hi : P.info? t with
    | none => simp [hi] at hz
    | some i =>
      simp only [hi, Option.bind_some] at hz
      refine ⟨z, ?_, fitAgg_rep (K.cells_rep (ofValueK_rep hk)), i, rfl, hz⟩
      simp [zeroValue, typeInfo, hi, hz]
  · cases h

theorem run_places {P : Program} (w : World) : ∀ (fs : List Field), fs.all (fun f => (P.info? f.type).isSome) = true →
    (fs.mapM (m := Sem) fun f => do pure (f.offset, ← sizeOf f.type)).run P w = .ok (fs.map fun f => (f.offset, P.cellsOf f.type)) w
  | [], _ => by simp
  | f :: fs, h => by
    simp only [List.all_cons, Bool.and_eq_true] at h
    obtain ⟨i, hi⟩ := Option.isSome_iff_exists.1 h.1
    have ih := run_places (P := P) w fs h.2
    rw [List.mapM_cons, Sem.run_bind]
    simp only [Sem.run_bind, run_sizeOf hi, Result.andThen_ok, Sem.run_pure]
    rw [ih]
    rfl

theorem buildT_sound {P : Program} {γ : Gh} {tok : Nat → Option Nat} {w : World} {t : TypeId} {parts : List (Nat × T)} {vals : List (Nat × Value)} {r : T} (h : buildT P t parts = some r)
    (hp : All2 (fun (p : Nat × T) (q : Nat × Value) => p.1 = q.1 ∧ p.2.rep γ tok w q.2) parts vals) : ∃ v, (Instr.build t vals.toArray).run P w = .ok v w ∧ r.rep γ tok w v := by
  unfold buildT at h
  split at h
  · rename_i z place hz hpl
    simp only [Option.map_eq_some_iff] at h
    obtain ⟨cs, hcs, rfl⟩ := h
    obtain ⟨zv, hzrun, hzrep, _⟩ := zeroOf_sound (γ := γ) (tok := tok) (w := w) hz
    unfold placesOf at hpl
    split at hpl
    · rename_i fs hu
      split at hpl
      · rename_i hall
        cases hpl
        have hpl' : ∀ (i : Nat) (p : Nat × Nat), (fs[i]?).map (fun (f : Field) => (f.offset, P.cellsOf f.type)) = some p → ((fs.toList.map fun (f : Field) => (f.offset, P.cellsOf f.type)).toArray)[i]? = some p := fun i p hip => by
          simpa using hip
        obtain ⟨vs', h1, h2⟩ := fillV_sound hpl' hp hcs hzrep
        refine ⟨.agg vs', ?_, ⟨vs'.toList, by simp, fitAgg_rep h2⟩⟩
        have hm : (fs.mapM (m := Sem) fun (f : Field) => do pure (f.offset, ← sizeOf f.type)).run P w = .ok (fs.toList.map fun (f : Field) => (f.offset, P.cellsOf f.type)).toArray w := by
          have := run_places (P := P) w fs.toList hall
          rw [← Array.toArray_toList (xs := fs), List.mapM_toArray, Sem.run_map, this]
          simp
        simp only [Instr.build, Sem.run_bind, hzrun, Result.andThen_ok, run_underlying hu, hm, h1, Sem.run_pure]
      · cases hpl
    · rename_i n e hu
      split at hpl
      · rename_i hi
        cases hpl
        obtain ⟨i, hi⟩ := Option.isSome_iff_exists.1 hi
        obtain ⟨vs', h1, h2⟩ := fillV_sound (place' := fun i => some (i * P.cellsOf e, P.cellsOf e)) (fun _ _ h => h) hp hcs hzrep
        refine ⟨.agg vs', ?_, ⟨vs'.toList, by simp, fitAgg_rep h2⟩⟩
        simp only [Instr.build, Sem.run_bind, hzrun, Result.andThen_ok, run_underlying hu, run_sizeOf hi, h1, Sem.run_pure]
      · cases hpl
    · cases hpl
  · cases h

/-! ### Parts -/
theorem fieldOf_sound {P : Program} {s : TypeId} {i : Nat} {f : Field} (h : fieldOf P s i = some f) : ∃ fs, P.underlying s = some (.struct fs) ∧ fs[i]? = some f := by
  unfold fieldOf at h
  split at h
  · exact ⟨_, by assumption, h⟩
  · cases h

theorem run_fieldPlace {P : Program} {f : Field} (h0 : ¬ P.cellsOf f.type = 0) (b o : Nat) (w : World) : (fieldPlace ⟨b, o, none⟩ f).run P w = .ok ⟨b, o + f.offset, none⟩ w := by
  cases hi : P.info? f.type with
  | none => simp [Program.cellsOf, hi] at h0
  | some i => simp [fieldPlace, run_sizeOf hi, h0, Addr.add_mid]

theorem fieldAddrT_sound {P : Program} {γ : Gh} {tok : Nat → Option Nat} {w : World} {s : TypeId} {x r : T} {i : Nat} {a : Value} (h : fieldAddrT P s x i = some r) (hx : x.rep γ tok w a) : ∃ v, (Instr.fieldAt s a i).run P w = .ok v w ∧ r.rep γ tok w v := by
  unfold fieldAddrT at h
  split at h
  · rename_i f id off hf hc
    obtain ⟨fs, hu, hfi⟩ := fieldOf_sound hf
    split at h
    · cases h
    · rename_i h0
      cases h
      rw [cell?_eq hc] at hx
      simp only [T.rep, K.rep, V.rep] at hx
      obtain ⟨b, o, hl, rfl⟩ := hx
      refine ⟨.pointer (some ⟨b, o + off + f.offset, none⟩), ?_, ?_⟩
      · simp [Instr.fieldAt, run_underlying hu, hfi, Instr.sureAddr, run_fieldPlace h0]
      · simp only [T.rep, K.rep, V.rep]; exact ⟨b, o, hl, by rw [Nat.add_assoc]⟩
  · rename_i f cells hf hc
    obtain ⟨fs, hu, hfi⟩ := fieldOf_sound hf
    split at h
    · cases h
    · rename_i h0
      cases h
      rw [cell?_eq hc] at hx
      simp only [T.rep, K.rep, V.rep, C.rep] at hx
      obtain ⟨b, o, rfl, hcs⟩ := hx
      refine ⟨.pointer (some ⟨b, o + f.offset, none⟩), ?_, ?_⟩
      · simp [Instr.fieldAt, run_underlying hu, hfi, Instr.sureAddr, run_fieldPlace h0]
      · simp only [T.rep, K.rep, V.rep, C.rep]; exact ⟨b, _, rfl, cellsAt_drop hcs _⟩
  · cases h

theorem partT_sound {P : Program} {γ : Gh} {tok : Nat → Option Nat} {w : World} {t : TypeId} {xs : List V} {vs : List Value} {off : Nat} {r : T} (h : partT P t xs off = some r) (hx : All2 (V.rep γ tok w) xs vs) : ∃ v, (part t vs.toArray off).run P w = .ok v w ∧ r.rep γ tok w v := by
  unfold partT aggOf at h
  cases hu : P.underlying t with
  | none => simp [hu] at h
  | some d =>
    obtain ⟨i, hi⟩ := info_of_underlying hu
    cases hd : d.isRow with
    | true =>
      simp only [hu, Option.map_some, hd] at h
      split at h
      · cases h
        refine ⟨.agg ((vs.drop off).take (P.cellsOf t)).toArray, ?_, ⟨_, rfl, (hx.drop _).take _⟩⟩
        unfold part
        simp only [Sem.run_bind, run_isAgg hu, hd, Result.andThen_ok, if_true, run_sizeOf hi, Sem.run_pure]
        congr 2
        apply Array.ext'
        simp [List.extract_eq_take_drop]
      · cases h
    | false =>
      simp only [hu, Option.map_some, hd, Option.map_eq_some_iff] at h
      obtain ⟨x, hxo, rfl⟩ := h
      obtain ⟨v, hv, hr⟩ := hx.get off x hxo
      refine ⟨v, ?_, by simpa only [T.rep, K.rep] using hr⟩
      unfold part
      simp [run_isAgg hu, hd, hv]

theorem fieldT_sound {P : Program} {γ : Gh} {tok : Nat → Option Nat} {w : World} {s : TypeId} {x r : T} {i : Nat} {a : Value} (h : fieldT P s x i = some r) (hx : x.rep γ tok w a) : ∃ v, (Instr.field s a i).run P w = .ok v w ∧ r.rep γ tok w v := by
  unfold fieldT at h
  split at h
  · rename_i f xs hf
    obtain ⟨fs, hu, hfi⟩ := fieldOf_sound hf
    simp only [T.rep, K.rep] at hx
    obtain ⟨vs, rfl, hvs⟩ := hx
    obtain ⟨v, h1, h2⟩ := partT_sound h hvs
    exact ⟨v, by simp [Instr.field, run_underlying hu, hfi, asAgg, h1], h2⟩
  · cases h

theorem idxOf_sound {γ : Gh} {tok : Nat → Option Nat} {w : World} {i : T} {n j : Nat} {a : Value} (h : idxOf i n = some j) (hx : i.rep γ tok w a) : ∃ k x, a = .int k x ∧ 0 ≤ x ∧ x < n ∧ x.toNat = j := by
  unfold idxOf at h
  split at h
  · rename_i q x hi
    split at h
    · rename_i hb
      cases h
      rw [int?_eq hi, pure_rep] at hx
      exact ⟨q, x, hx.1, hb.1, hb.2, rfl⟩
    · cases h
  · cases h

theorem sliceOf_rep {γ : Gh} {tok : Nat → Option Nat} {w : World} {x : V} {v : Value} {sz : Nat} {es : List (List C)} (h : x.sliceOf = some (sz, es)) (hx : x.rep γ tok w v) : (C.slice sz es).rep γ.fr w v := by
  unfold V.sliceOf at h
  split at h
  · cases h; simpa only [V.rep] using hx
  · cases h; exact hx.1
  · cases h

theorem C.slice_get {Fr : Nat → Nat → Prop} {w : World} {sz : Nat} {es : List (List C)} {v : Value} (h : (C.slice sz es).rep Fr w v) {j : Nat} {c : List C} (hj : es[j]? = some c) :
    ∃ b o cap, v = .slice (some ⟨b, o, none⟩) es.length cap ∧ es.length ≤ cap ∧ c.length = sz ∧ cellsAt Fr w b c (o + j * sz) := by
  simp only [C.rep] at h
  obtain ⟨a, len, cap, rfl, rfl, hle, h⟩ := h
  rcases h with ⟨_, h0, _⟩ | ⟨b, o, rfl, hr⟩
  · have := (List.getElem?_eq_some_iff.1 hj).1; omega
  · exact ⟨b, o, cap, rfl, hle, rowsAt_get hr j c hj⟩

theorem indexAddrT_sound {P : Program} {γ : Gh} {tok : Nat → Option Nat} {w : World} {t : TypeId} {x i r : T} {a ia : Value} (h : indexAddrT P t x i = some r) (hx : x.rep γ tok w a) (hi : i.rep γ tok w ia) :
    ∃ v, (Instr.indexAt t a ia).run P w = .ok v w ∧ r.rep γ tok w v := by
  unfold indexAddrT at h
  split at h
  · rename_i n e hu
    split at h
    · cases h
    · rename_i hie
      obtain ⟨ie, hie⟩ : ∃ i, P.info? e = some i := by
        cases hq : P.info? e with
        | none => simp [hq] at hie
        | some i => exact ⟨i, rfl⟩
      split at h
      · rename_i id off hc
        simp only [Option.map_eq_some_iff] at h
        obtain ⟨j, hj, rfl⟩ := h
        obtain ⟨k, q, rfl, h0, h1, rfl⟩ := idxOf_sound hj hi
        rw [cell?_eq hc] at hx
        simp only [T.rep, K.rep, V.rep] at hx
        obtain ⟨b, o, hl, rfl⟩ := hx
        refine ⟨.pointer (some ⟨b, o + off + q.toNat * P.cellsOf e, none⟩), ?_, ?_⟩
        · simp [Instr.indexAt, asIntOf, run_underlying hu, Instr.sureAddr, h0, h1, run_sizeOf hie, Addr.add_mid]
        · simp only [T.rep, K.rep, V.rep]; exact ⟨b, o, hl, by rw [Nat.add_assoc]⟩
      · rename_i cells hc
        simp only [Option.map_eq_some_iff] at h
        obtain ⟨j, hj, rfl⟩ := h
        obtain ⟨k, q, rfl, h0, h1, rfl⟩ := idxOf_sound hj hi
        rw [cell?_eq hc] at hx
        simp only [T.rep, K.rep, V.rep, C.rep] at hx
        obtain ⟨b, o, rfl, hcs⟩ := hx
        refine ⟨.pointer (some ⟨b, o + q.toNat * P.cellsOf e, none⟩), ?_, ?_⟩
        · simp [Instr.indexAt, asIntOf, run_underlying hu, Instr.sureAddr, h0, h1, run_sizeOf hie, Addr.add_mid]
        · simp only [T.rep, K.rep, V.rep, C.rep]; exact ⟨b, _, rfl, cellsAt_drop hcs _⟩
      · cases h
  · rename_i e hu
    split at h
    · cases h
    · rename_i hie
      obtain ⟨ie, hie⟩ : ∃ i, P.info? e = some i := by
        cases hq : P.info? e with
        | none => simp [hq] at hie
        | some i => exact ⟨i, rfl⟩
      split at h
      · rename_i id off sz n hc
        split at h
        · rename_i hsz
          simp only [Option.map_eq_some_iff] at h
          obtain ⟨j, hj, rfl⟩ := h
          obtain ⟨k, q, rfl, h0, h1, rfl⟩ := idxOf_sound hj hi
          rw [cell?_eq hc] at hx
          simp only [T.rep, K.rep, V.rep] at hx
          obtain ⟨b, o, cap, hl, rfl, _⟩ := hx
          refine ⟨.pointer (some ⟨b, o + off + q.toNat * P.cellsOf e, none⟩), ?_, ?_⟩
          · simp [Instr.indexAt, asIntOf, run_underlying hu, h0, h1, run_sizeOf hie, Addr.add_mid]
          · simp only [T.rep, K.rep, V.rep]; exact ⟨b, o, hl, by rw [hsz, Nat.add_assoc]⟩
        · cases h
      · rename_i u _ hc
        rw [cell?_eq hc] at hx
        simp only [T.rep, K.rep] at hx
        split at h
        · rename_i sz es hs
          split at h
          · rename_i hsz
            split at h
            · rename_i j hj
              split at h
              · rename_i c hcj
                cases h
                obtain ⟨k, q, rfl, h0, h1, rfl⟩ := idxOf_sound hj hi
                obtain ⟨b, o, cap, rfl, _, hl, hcs⟩ := C.slice_get (sliceOf_rep hs hx) hcj
                refine ⟨.pointer (some ⟨b, o + q.toNat * P.cellsOf e, none⟩), ?_, ?_⟩
                · simp [Instr.indexAt, asIntOf, run_underlying hu, h0, h1, run_sizeOf hie, Addr.add_mid]
                · simp only [T.rep, K.rep, V.rep, C.rep]; exact ⟨b, _, rfl, by rw [← hsz]; exact hcs⟩
              · cases h
            · cases h
          · cases h
        · cases h
      · cases h
  · cases h
end Go.Dm
