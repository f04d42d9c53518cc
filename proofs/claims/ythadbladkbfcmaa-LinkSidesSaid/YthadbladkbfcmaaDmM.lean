/-
  The data machine, part M: a call's arguments and results.
-/
import Derived.Test.YthadbladkbfcmaaDmL
namespace Go.Dm
open Go.RowKit

def locOf (γ : Gh) (l : Nat × Nat × List C) : Nat × Nat := match γ.loc l.1 with | some (b, o) => (b, o + l.2.1) | none => (0, 0)

/-- What is lent is a part of a variable. -/
def lentOk (γ : Gh) (m : Mem) (l : Nat × Nat × List C) : Prop :=
  ∃ ys b o, m.var l.1 = some ys ∧ γ.loc l.1 = some (b, o) ∧ l.2.1 + l.2.2.length ≤ ys.length ∧ ((ys.drop l.2.1).take l.2.2.length).mapM V.toC = some l.2.2

theorem mapM_length {α β : Type} {f : α → Option β} : ∀ {xs : List α} {ys : List β}, xs.mapM f = some ys → ys.length = xs.length
  | [], ys, h => by simp at h; subst h; rfl
  | x :: xs, ys, h => by
    rw [List.mapM_cons] at h
    simp only [Option.pure_def, Option.bind_eq_bind, Option.bind_eq_some_iff, Option.some.injEq] at h
    obtain ⟨y, _, zs, hz, rfl⟩ := h
    simp [mapM_length hz]

theorem snap_sound {F : Fm} {γ : Gh} {m : Mem} {a : Act} {w : World} (h : Rel F γ m a w) {id off : Nat} {cs : List C} (hs : snap m id off = some cs) {Fr : Nat → Nat → Prop} (hFr : ∀ b o, γ.fr b o → Fr b o)
    (hsn : ∀ ys b o, m.var id = some ys → γ.loc id = some (b, o) → ∀ j, j < ys.length → Fr b (o + j)) {b o : Nat} (hl : γ.loc id = some (b, o)) : cellsAt Fr w b cs (o + off) := by
  unfold snap at hs
  split at hs
  · rename_i xs hv
    obtain ⟨b', o', h1, ⟨vs, h2, h3⟩, _⟩ := h.vars id xs hv
    rw [hl] at h1; cases h1
    have hc := toCs_rep hs (h2.drop off)
    have hlen := mapM_length hs
    refine cellsAt_of fun i c hi => ?_
    obtain ⟨v, hv', hr⟩ := hc.get i c hi
    have hlt := (List.getElem?_eq_some_iff.1 hi).1
    rw [hlen, List.length_drop] at hlt
    refine ⟨?_, v, ?_, C.rep.mono ⟨hFr, fun _ _ _ _ h => h, fun _ _ _ _ h => h⟩ c v hr⟩
    · have := hsn xs b o hv hl (off + i) (by omega)
      rwa [show o + off + i = o + (off + i) by omega]
    · exact rangeAt_drop h3 off i v hv'
  · cases hs

theorem chunks_rows {Fr : Nat → Nat → Prop} {w : World} {sz b : Nat} : ∀ {n : Nat} {cs : List C} {es : List (List C)} {o : Nat}, chunks sz n cs = some es → cellsAt Fr w b cs o → rowsAt Fr w sz b es o ∧ es.length = n
  | 0, cs, es, o, h, _ => by simp [chunks] at h; subst h; exact ⟨by simp only [rowsAt], rfl⟩
  | n + 1, cs, es, o, h, hc => by
    simp only [chunks] at h
    split at h
    · rename_i hle
      simp only [Option.map_eq_some_iff] at h
      obtain ⟨r, hr, rfl⟩ := h
      obtain ⟨h1, h2⟩ := chunks_rows hr (cellsAt_drop hc sz)
      exact ⟨by simp only [rowsAt]; exact ⟨by simp; omega, cellsAt_take hc sz, h1⟩, by simp [h2]⟩
    · cases h

theorem caps_sound {F : Fm} {γ : Gh} {m : Mem} {a : Act} {w : World} (h : Rel F γ m a w) {Fr : Nat → Nat → Prop} (hFr : ∀ b o, γ.fr b o → Fr b o) : ∀ {caps : List (C ⊕ (Nat × Nat))} {cs : List C} {vs : List Value}, caps.mapM (capOf m) = some cs → All2 (capRep γ w) caps vs →
    (∀ id ∈ caps.flatMap capReads, ∀ ys b o, m.var id = some ys → γ.loc id = some (b, o) → ∀ j, j < ys.length → Fr b (o + j)) → All2 (C.rep Fr w) cs vs
  | [], cs, [], hc, _, _ => by simp at hc; subst hc; trivial
  | x :: xs, cs, v :: vs, hc, hr, hsn => by
    rw [List.mapM_cons] at hc
    simp only [Option.pure_def, Option.bind_eq_bind, Option.bind_eq_some_iff, Option.some.injEq] at hc
    obtain ⟨c, hcc, r, hrr, rfl⟩ := hc
    refine ⟨?_, caps_sound h hFr hrr hr.2 (fun id hid => hsn id (by simp only [List.flatMap_cons, List.mem_append]; exact .inr hid))⟩
    cases x with
    | inl x =>
      simp only [capOf, Option.some.injEq] at hcc
      subst hcc
      exact C.rep.mono ⟨hFr, fun _ _ _ _ h => h, fun _ _ _ _ h => h⟩ x v hr.1
    | inr p =>
      obtain ⟨id, off⟩ := p
      simp only [capOf, Option.map_eq_some_iff] at hcc
      obtain ⟨cs', hs, rfl⟩ := hcc
      obtain ⟨b, o, hl, hv⟩ := hr.1
      simp only [C.rep]
      exact ⟨b, o + off, hv, snap_sound h hs hFr (hsn id (by simp [capReads])) hl⟩
  | [], _, _ :: _, _, h, _ => h.elim
  | _ :: _, _, [], _, h, _ => h.elim

theorem toA_rep {γ : Gh} {tok : Nat → Option Nat} {w : World} {Fr : Nat → Nat → Prop} {all : List (Nat × Nat)} {u : V} {x : A} (h : u.toA = some x) (hev : Ev γ.fr Fr w w) {v : Value} (hv : u.rep γ tok w v) : x.rep Fr w all v := by
  unfold V.toA at h
  split at h
  · cases h
    simp only [V.rep, C.rep, tkRep] at hv
    obtain ⟨⟨a, len, cap, rfl, rfl, _⟩, a', n, he⟩ := hv
    cases he
    exact ⟨a, rfl⟩
  · rw [Option.map_eq_some_iff] at h
    obtain ⟨c, hc, rfl⟩ := h
    exact C.rep.mono hev c v (toC_rep hc hv)

theorem args_sound {P : Program} {F : Fm} {γ : Gh} {m : Mem} {a : Act} {w : World} (h : Rel F γ m a w) {Fr : Nat → Nat → Prop} (hFr : ∀ b o, γ.fr b o → Fr b o) : ∀ {tys : List TypeId} {xs : List T} {vs : List Value} {k : Nat} {as : List A} {ls : List (Nat × Nat × List C)} {rs : List Nat},
    argsOf P m tys xs k = some (as, ls, rs) → All2 (T.rep γ m.tok w) xs vs → (∀ id ∈ rs, ∀ ys b o, m.var id = some ys → γ.loc id = some (b, o) → ∀ j, j < ys.length → Fr b (o + j)) →
    ∀ (all : List (Nat × Nat)), (∀ (j : Nat) p, (ls.map (locOf γ))[j]? = some p → all[k + j]? = some p) → All2 (A.rep Fr w all) as vs ∧ ∀ l ∈ ls, lentOk γ m l
  | [], [], [], k, as, ls, rs, ha, _, _, all, _ => by
    simp only [argsOf, Option.some.injEq, Prod.mk.injEq] at ha
    obtain ⟨rfl, rfl, rfl⟩ := ha
    exact ⟨trivial, by simp⟩
  | t :: ts, x :: xs, v :: vs, k, as, ls, rs, ha, hx, hsn, all, hall => by
    have hev : Ev γ.fr Fr w w := ⟨hFr, fun _ _ _ _ h => h, fun _ _ _ _ h => h⟩
    have hx1 := hx.1
    simp only [argsOf] at ha
    split at ha
    · rename_i ys
      split at ha
      · rename_i cs as' ls' rs' hcs hrec
        simp only [Option.some.injEq, Prod.mk.injEq] at ha
        obtain ⟨rfl, rfl, rfl⟩ := ha
        obtain ⟨h1, h2⟩ := args_sound h hFr hrec hx.2 hsn all hall
        simp only [T.rep, K.rep] at hx1
        obtain ⟨us, rfl, hus⟩ := hx1
        exact ⟨⟨⟨us, rfl, (toCs_rep hcs hus).mono (fun c v hc => C.rep.mono hev c v hc)⟩, h1⟩, h2⟩
      · cases ha
    · rename_i id off
      split at ha
      · rename_i e ys hu hv
        split at ha
        · rename_i hle
          split at ha
          · rename_i cs as' ls' rs' hcs hrec
            simp only [Option.some.injEq, Prod.mk.injEq] at ha
            obtain ⟨rfl, rfl, rfl⟩ := ha
            have hall' : ∀ (j : Nat) p, (ls'.map (locOf γ))[j]? = some p → all[k + 1 + j]? = some p := fun j p hj => by
              have := hall (j + 1) p (by simpa using hj)
              rwa [show k + (j + 1) = k + 1 + j by omega] at this
            obtain ⟨h1, h2⟩ := args_sound h hFr hrec hx.2 hsn all hall'
            simp only [T.rep, K.rep, V.rep] at hx1
            obtain ⟨b, o, hl, rfl⟩ := hx1
            have hcl := mapM_length hcs
            simp only [List.length_take, List.length_drop] at hcl
            refine ⟨⟨⟨b, o + off, ?_, rfl⟩, h1⟩, fun l hl' => ?_⟩
            · have := hall 0 (b, o + off) (by simp [locOf, hl])
              simpa using this
            · rcases List.mem_cons.1 hl' with rfl | hl'
              · refine ⟨ys, b, o, hv, hl, by simp only; omega, ?_⟩
                simp only
                rw [show cs.length = P.cellsOf e by omega]
                exact hcs
              · exact h2 l hl'
          · cases ha
        · cases ha
      · cases ha
    · rename_i id off sz n
      split at ha
      · rename_i cs hcs
        split at ha
        · rename_i es as' ls' rs' hes hrec
          simp only [Option.some.injEq, Prod.mk.injEq] at ha
          obtain ⟨rfl, rfl, rfl⟩ := ha
          obtain ⟨h1, h2⟩ := args_sound h hFr hrec hx.2 (fun i hi => hsn i (by simp [hi])) all hall
          simp only [T.rep, K.rep, V.rep] at hx1
          obtain ⟨b, o, cap, hl, rfl, hle⟩ := hx1
          have hcells := snap_sound h hcs hFr (hsn id (by simp)) hl
          obtain ⟨hr, hlen⟩ := chunks_rows hes hcells
          refine ⟨⟨?_, h1⟩, h2⟩
          simp only [A.rep, C.rep]
          exact ⟨_, n, cap, rfl, hlen.symm, hle, .inr ⟨b, o + off, rfl, hr⟩⟩
        · cases ha
      · cases ha
    · rename_i f caps
      split at ha
      · rename_i cs as' ls' rs' hcs hrec
        simp only [Option.some.injEq, Prod.mk.injEq] at ha
        obtain ⟨rfl, rfl, rfl⟩ := ha
        obtain ⟨h1, h2⟩ := args_sound h hFr hrec hx.2 (fun i hi => hsn i (by simp [hi])) all hall
        simp only [T.rep, K.rep, V.rep] at hx1
        obtain ⟨us, rfl, hus⟩ := hx1
        refine ⟨⟨?_, h1⟩, h2⟩
        simp only [A.rep, C.rep]
        exact ⟨us, rfl, listRep_iff.2 (caps_sound h hFr hcs hus (fun i hi => hsn i (by simp only [List.mem_append]; exact .inl hi)))⟩
      · cases ha
    · rename_i u _ _ _
      split at ha
      · rename_i c as' ls' rs' hcs hrec
        simp only [Option.some.injEq, Prod.mk.injEq] at ha
        obtain ⟨rfl, rfl, rfl⟩ := ha
        obtain ⟨h1, h2⟩ := args_sound h hFr hrec hx.2 hsn all hall
        simp only [T.rep, K.rep] at hx1
        exact ⟨⟨toA_rep hcs hev hx1, h1⟩, h2⟩
      · cases ha
    · cases ha
  | [], [], _ :: _, _, _, _, _, _, h, _, _, _ => h.elim
  | [], _ :: _, _, _, _, _, _, h, _, _, _, _ => by simp [argsOf] at h
  | _ :: _, [], _, _, _, _, _, h, _, _, _, _ => by simp [argsOf] at h
  | _ :: _, _ :: _, [], _, _, _, _, _, h, _, _, _ => h.elim

/-! ### Results -/
def addToks (ut : List (Nat × Nat)) (tok : Nat → Option Nat) : Nat → Option Nat := fun i => match lk ut i with | some n => some n | none => tok i

theorem addToks_cons (i n : Nat) (ut : List (Nat × Nat)) (tok : Nat → Option Nat) : addToks ((i, n) :: ut) tok = addToks ut (fun j => if j = i then some n else tok j) := by
  funext j
  simp only [addToks, lk]
  cases lk ut j with
  | some y => rfl
  | none =>
    by_cases h : i = j
    · simp [h]
    · simp [h, Ne.symm h]

theorem addToks_nil (tok : Nat → Option Nat) : addToks [] tok = tok := rfl

theorem Ex.trans {γ γ' γ'' : Gh} {tok tok' tok'' : Nat → Option Nat} {w w' w'' : World} (h : Ex γ γ' tok tok' w w') (k : Ex γ' γ'' tok' tok'' w' w'') : Ex γ γ'' tok tok'' w w'' where
  ev := h.ev.trans k.ev
  loc id p hp := k.loc id p (h.loc id p hp)
  tok i n hi := by
    rcases h.tok i n hi with ⟨h1, h2⟩ | ⟨n', h1, h2⟩
    · rcases k.tok i n h1 with ⟨k1, k2⟩ | ⟨n'', k1, k2⟩
      · exact .inl ⟨k1, k2.trans h2⟩
      · exact .inr ⟨n'', k1, k2⟩
    · rcases k.tok i n' h1 with ⟨k1, _⟩ | ⟨n'', k1, k2⟩
      · exact .inr ⟨n', k1, h2⟩
      · exact .inr ⟨n'', k1, by omega⟩

theorem resK_ids : ∀ {rs : List Res} {nt i n : Nat}, (i, n) ∈ (resK nt rs).2 → nt ≤ i
  | [], nt, i, n, h => by simp [resK] at h
  | .c x :: rs, nt, i, n, h => resK_ids (rs := rs) (by simpa [resK] using h)
  | .agg xs :: rs, nt, i, n, h => resK_ids (rs := rs) (by simpa [resK] using h)
  | .top sz es :: rs, nt, i, n, h => by
    simp only [resK, List.mem_cons, Prod.mk.injEq] at h
    rcases h with ⟨rfl, _⟩ | h
    · exact Nat.le_refl _
    · have := resK_ids (rs := rs) h; omega

theorem res_sound {F : Fm} {a : Act} {w : World} {n0 : Nat} (hn0 : F.w0.heap.size ≤ n0) : ∀ {rs : List Res} {us : List Value} {nt : Nat} {γ : Gh} {m : Mem}, Rel F γ m a w → All2 (Res.rep γ.fr n0 w) rs us → topsApart rs us → (∀ i n, (i, n) ∈ (resK nt rs).2 → m.tok i = none) →
    (∀ id b o, γ.loc id = some (b, o) → b < n0) → (∀ j l, m.tok j = some l → (γ.tk j).cap ≠ l → ∀ (r : Nat) sz es u, rs[r]? = some (.top sz es) → us[r]? = some u → ∀ b, spareBlock u = some b → (γ.tk j).base.map (·.block) ≠ some b) →
    ∃ γ' : Gh, γ'.fr = γ.fr ∧ Rel F γ' { m with tok := addToks (resK nt rs).2 m.tok } a w ∧ Ex γ γ' m.tok (addToks (resK nt rs).2 m.tok) w w ∧ All2 (K.rep γ' (addToks (resK nt rs).2 m.tok) w) (resK nt rs).1 us
  | [], [], nt, γ, m, h, _, _, _, _, _ => ⟨γ, rfl, by simpa only [resK, addToks_nil] using h, by simpa only [resK, addToks_nil] using Ex.refl γ m.tok w, trivial⟩
  | .c x :: rs, u :: us, nt, γ, m, h, hr, ht, hnt, hloc, hap => by
    obtain ⟨γ', h1, h2, hx, h3⟩ := res_sound hn0 h hr.2 ht (fun i n hi => hnt i n (by simpa [resK] using hi)) hloc (fun j l hj hc r sz es u hr hu => hap j l hj hc (r + 1) sz es u (by simpa using hr) (by simpa using hu))
    refine ⟨γ', h1, h2, hx, ?_, h3⟩
    simp only [K.rep, V.rep]
    rw [h1]
    exact hr.1
  | .agg xs :: rs, u :: us, nt, γ, m, h, hr, ht, hnt, hloc, hap => by
    obtain ⟨γ', h1, h2, hx, h3⟩ := res_sound hn0 h hr.2 ht (fun i n hi => hnt i n (by simpa [resK] using hi)) hloc (fun j l hj hc r sz es u hr hu => hap j l hj hc (r + 1) sz es u (by simpa using hr) (by simpa using hu))
    refine ⟨γ', h1, h2, hx, ?_, h3⟩
    obtain ⟨vs, hv, hxs⟩ := hr.1
    simp only [K.rep]
    refine ⟨vs, hv, V.cells_rep ?_⟩
    rw [h1]
    exact hxs
  | .top sz es :: rs, u :: us, nt, γ, m, h, hr, ht, hnt, hloc, hap => by
    obtain ⟨hslice, base, cap, rfl, hle, htop⟩ := hr.1
    have hk : es.length ≤ cap ∧ (cap = es.length ∨ ∃ b, base = some ⟨b, 0, none⟩ ∧ F.w0.heap.size ≤ b ∧ (∃ arr e, w.heap[b]? = some (.cells arr e (0, 0)) ∧ cap * sz ≤ arr.size) ∧ ∀ o, es.length * sz ≤ o → ¬ γ.fr b o) := by
      refine ⟨hle, ?_⟩
      rcases htop with htop | ⟨b, h1, h2, h3, h4⟩
      · exact .inl htop
      · exact .inr ⟨b, h1, Nat.le_trans hn0 h2, h3, h4⟩
    have hspare : cap ≠ es.length → ∃ b, base = some ⟨b, 0, none⟩ ∧ n0 ≤ b ∧ spareBlock (.slice base es.length cap) = some b := fun hc => by
      obtain ⟨b, h1, h2, _, _⟩ := htop.resolve_left hc
      exact ⟨b, h1, h2, by simp [spareBlock, h1, hc]⟩
    obtain ⟨h1, h2⟩ := h.addTok (i := nt) (n := es.length) (hnt nt es.length (by simp [resK])) (k := ⟨base, cap, sz⟩) hk
      (fun j l hj hcj hc => by
        obtain ⟨b, hb, _, hsp⟩ := hspare hc
        have := hap j l hj hcj 0 sz es _ rfl rfl b hsp
        simpa [hb] using this)
      (fun id xs b o _ hl hc => by
        obtain ⟨b', hb, hge, _⟩ := hspare hc
        have := hloc id b o hl
        simp only [hb, Option.map_some, ne_eq, Option.some.injEq]
        omega)
    have hr' : All2 (Res.rep γ.fr n0 w) rs us := hr.2
    obtain ⟨γ', g1, g2, gx, g3⟩ := res_sound (rs := rs) (us := us) (nt := nt + 1) hn0 h1 hr' ht.2 (fun i n hi => by
        show (if i = nt then _ else _) = none
        have := resK_ids hi
        rw [if_neg (by omega)]; exact hnt i n (by simp only [resK, List.mem_cons]; exact .inr hi)) hloc (fun j l hj hc r sz' es' u hr hu b hb => by
          by_cases he : j = nt
          · subst he
            simp only [if_true, Option.some.injEq] at hj hc ⊢
            subst hj
            obtain ⟨b', hb', _, hsp⟩ := hspare hc
            have := ht.1 r sz' es' u hr hu b' hsp
            simp only [hb', Option.map_some, ne_eq, Option.some.injEq]
            rintro rfl
            exact this hb
          · simp only [he, if_false] at hj hc ⊢
            exact hap j l hj hc (r + 1) sz' es' u (by simpa using hr) (by simpa using hu) b hb)
    refine ⟨γ', g1, ?_, ?_, ?_, ?_⟩
    · simp only [resK, addToks_cons]
      exact g2
    · simp only [resK, addToks_cons]
      exact h2.trans gx
    · simp only [resK, addToks_cons]
      refine K.rep.mono gx (.v (.own sz es (.tok nt))) _ ?_
      simp only [K.rep, V.rep]
      exact ⟨hslice, es.length, by simp, Nat.le_refl _, fun _ => ⟨by simp, by simp⟩⟩
    · simp only [resK, addToks_cons]
      exact g3
  | [], _ :: _, _, _, _, _, h, _, _, _, _ => h.elim
  | _ :: _, [], _, _, _, _, h, _, _, _, _ => h.elim
end Go.Dm
