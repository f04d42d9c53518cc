/-
  The data machine, part I: an element; a slice of a slice; lengths; functions made.
-/
import Derived.Test.YthadbladkbfcmaaDmH
namespace Go.Dm
open Go.RowKit

theorem indexT_sound {P : Program} {γ : Gh} {tok : Nat → Option Nat} {w : World} {t : TypeId} {x i r : T} {a ia : Value} (h : indexT P t x i = some r) (hx : x.rep γ tok w a) (hi : i.rep γ tok w ia) :
    ∃ v, (Instr.index t a ia).run P w = .ok v w ∧ r.rep γ tok w v := by
  unfold indexT at h
  split at h
  · rename_i n e xs hu
    split at h
    · rename_i j hj
      obtain ⟨k, q, rfl, h0, h1, rfl⟩ := idxOf_sound hj hi
      simp only [T.rep, K.rep] at hx
      obtain ⟨vs, rfl, hvs⟩ := hx
      obtain ⟨v, h2, h3⟩ := partT_sound h hvs
      have hie : ∃ ie, P.info? e = some ie := by
        unfold partT aggOf at h
        cases hue : P.underlying e with
        | none => simp [hue] at h
        | some d => exact info_of_underlying hue
      obtain ⟨ie, hie⟩ := hie
      exact ⟨v, by simp [Instr.index, asIntOf, run_underlying hu, h0, h1, run_sizeOf hie, h2], h3⟩
    · cases h
  · rename_i s hu
    split at h
    · rename_i j hj
      split at h
      · rename_i b hb
        cases h
        obtain ⟨k, q, rfl, h0, h1, rfl⟩ := idxOf_sound hj hi
        simp only [T.rep, K.rep, V.rep, C.rep] at hx
        obtain ⟨rfl, _⟩ := hx
        refine ⟨.int .u8 b.toNat, ?_, pure_rep.2 ⟨rfl, rfl⟩⟩
        simp [Instr.index, asIntOf, run_underlying hu, h0, hb]
      · cases h
    · cases h
  · cases h

def OptRep (γ : Gh) (tok : Nat → Option Nat) (w : World) : Option T → Option Value → Prop
  | none, none => True
  | some x, some a => x.rep γ tok w a
  | _, _ => False

theorem bound_sound {P : Program} {γ : Gh} {tok : Nat → Option Nat} {w : World} {x : Option T} {d top n : Nat} (h : bound x d top = some n) {a : Option Value} (hx : OptRep γ tok w x a) :
    (x = none ∧ a = none ∧ n = d) ∨ ∃ v, a = some v ∧ n ≤ top ∧ ∀ top' code, n ≤ top' → (Instr.sliceBound v top' code).run P w = .ok n w := by
  cases x with
  | none =>
    simp only [bound, Option.some.injEq] at h
    cases a with
    | none => exact .inl ⟨rfl, rfl, h.symm⟩
    | some a => exact hx.elim
  | some x =>
    simp only [bound] at h
    cases a with
    | none => exact hx.elim
    | some a =>
      split at h
      · rename_i q i hi
        split at h
        · rename_i hb
          cases h
          simp only [OptRep] at hx
          rw [int?_eq hi] at hx
          have hx := (pure_rep.1 hx).1
          subst hx
          refine .inr ⟨_, rfl, by omega, fun top' code hle => ?_⟩
          have : 0 ≤ i ∧ i ≤ (top' : Int) := ⟨hb.1, by omega⟩
          simp [Instr.sliceBound, asIntOf, this]
        · cases h
      · cases h

theorem run_sliceBound_int {P : Program} {w : World} {k : IntKind} {i : Int} {y : Nat} {code : BoundsCode} (h : 0 ≤ i ∧ i ≤ (y : Int)) : (Instr.sliceBound (.int k i) y code).run P w = .ok i.toNat w := by
  simp [Instr.sliceBound, asIntOf, h]

theorem run_bounds {P : Program} {γ : Gh} {tok : Nat → Option Nat} {w : World} {lo hi : Option T} {l h len top cap : Nat} {isSlice : Bool} (hh : bound hi len top = some h) (hl : bound lo 0 h = some l) {alo ahi : Option Value} (hlo : OptRep γ tok w lo alo) (hhi : OptRep γ tok w hi ahi)
    (hle : len ≤ cap) (htop : top ≤ cap) : (Instr.sliceBounds isSlice len cap alo ahi none).run P w = .ok (l, h, cap) w ∧ l ≤ h ∧ h ≤ max len top := by
  have key : ∀ code, (match alo with | some v => Instr.sliceBound v h code | none => pure 0 : Sem Nat).run P w = .ok l w ∧ l ≤ h := by
    intro code
    rcases bound_sound (P := P) hl hlo with ⟨_, rfl, rfl⟩ | ⟨v, rfl, h1, h2⟩
    · exact ⟨rfl, Nat.zero_le _⟩
    · exact ⟨h2 h code h1, h1⟩
  rcases bound_sound (P := P) hh hhi with ⟨_, rfl, rfl⟩ | ⟨v, rfl, h1, h2⟩
  · refine ⟨?_, (key .sliceB).2, by omega⟩
    have k := (key .sliceB).1
    cases alo <;> simp_all [Instr.sliceBounds]
  · refine ⟨?_, (key .sliceB).2, by omega⟩
    have k := (key .sliceB).1
    have hb := h2 cap (if isSlice then .sliceAcap else .sliceAlen) (by omega)
    cases alo <;> simp_all [Instr.sliceBounds]

theorem sliceT_sound {P : Program} {γ : Gh} {tok : Nat → Option Nat} {w : World} {t : TypeId} {x r : T} {lo hi mx : Option T} {a : Value} {alo ahi amx : Option Value} (h : sliceT P t x lo hi mx = some r) (hx : x.rep γ tok w a)
    (hlo : OptRep γ tok w lo alo) (hhi : OptRep γ tok w hi ahi) (hmx : OptRep γ tok w mx amx) : ∃ v, (Instr.sliceAt t a alo ahi amx).run P w = .ok v w ∧ r.rep γ tok w v := by
  unfold sliceT at h
  split at h
  · rename_i s hu hc
    rw [cell?_eq hc] at hx
    simp only [T.rep, K.rep, V.rep, C.rep] at hx
    obtain ⟨rfl, _⟩ := hx
    split at h
    · cases h
    · cases amx with
      | some _ => exact hmx.elim
      | none =>
        split at h
        · rename_i h' hh
          split at h
          · rename_i l hl
            cases h
            obtain ⟨hb, _, _⟩ := run_bounds (P := P) (isSlice := false) hh hl hlo hhi (Nat.le_refl _) (Nat.le_refl _)
            refine ⟨.string (s.extract l h'), ?_, pure_rep.2 ⟨rfl, rfl⟩⟩
            simp [Instr.sliceAt, Instr.slice, run_underlying hu, hb]
          · cases h
        · cases h
  · rename_i e v hu hc
    rw [cell?_eq hc] at hx
    simp only [T.rep, K.rep] at hx
    split at h
    · rename_i sz es hs
      have hrep := sliceOf_rep hs hx
      split at h
      · rename_i hcond
        obtain ⟨hsz, hie⟩ := hcond
        obtain ⟨ie, hie⟩ := Option.isSome_iff_exists.1 hie
        have hrep0 := hrep
        simp only [C.rep] at hrep
        obtain ⟨base, len, cap, rfl, rfl, hle, hbase⟩ := hrep
        split at h
        · rename_i m
          cases amx with
          | none => exact hmx.elim
          | some am =>
            split at h
            · rename_i hi'
              split at h
              · rename_i k1 p k2 q l hm hh hl
                split at h
                · rename_i heq
                  obtain ⟨rfl, rfl⟩ := heq
                  cases h
                  cases ahi with
                  | none => exact hhi.elim
                  | some ah =>
                    simp only [OptRep] at hmx hhi
                    rw [int?_eq hm] at hmx
                    rw [int?_eq hh] at hhi
                    have e1 := (pure_rep.1 hmx).1
                    have e2 := (pure_rep.1 hhi).1
                    subst e1; subst e2
                    have hb : (Instr.sliceBounds true es.length cap alo (some (.int k2 l)) (some (.int k1 l))).run P w = .ok (l, l, l) w := by
                      have b1 := fun (y : Nat) code (hy : l ≤ y) => run_sliceBound_int (P := P) (w := w) (k := k1) (i := (l : Int)) (y := y) (code := code) (by omega)
                      have b2 := fun (y : Nat) code (hy : l ≤ y) => run_sliceBound_int (P := P) (w := w) (k := k2) (i := (l : Int)) (y := y) (code := code) (by omega)
                      simp only [Int.toNat_natCast] at b1 b2
                      rcases bound_sound (P := P) hl hlo with ⟨_, rfl, rfl⟩ | ⟨v, rfl, h1, h2⟩
                      · simp only [Instr.sliceBounds, Sem.run_bind, b1 cap _ (by omega), b2 _ _ (Nat.le_refl _), Result.andThen_ok, Sem.run_pure]
                      · simp only [Instr.sliceBounds, Sem.run_bind, b1 cap _ (by omega), b2 _ _ (Nat.le_refl _), h2 _ _ (Nat.le_refl _), Result.andThen_ok, Sem.run_pure]
                    refine ⟨.slice base 0 0, ?_, ?_⟩
                    · simp [Instr.sliceAt, Instr.slice, run_underlying hu, hb, run_sizeOf hie]
                    · simp only [T.rep, K.rep, V.rep]
                      refine ⟨?_, base, 0, rfl⟩
                      simp only [C.rep]
                      refine ⟨base, 0, 0, rfl, rfl, Nat.le_refl _, ?_⟩
                      rcases hbase with ⟨_, _⟩ | ⟨b, o, rfl, hr⟩
                      · exact .inl ⟨rfl, rfl⟩
                      · exact .inr ⟨b, o, rfl, by simp only [rowsAt]⟩
                · cases h
              · cases h
            · cases h
        · cases amx with
          | some _ => exact hmx.elim
          | none =>
            split at h
            · rename_i h' hh
              split at h
              · rename_i l hl
                obtain ⟨hb, hlh, hhl⟩ := run_bounds (P := P) (isSlice := true) hh hl hlo hhi hle hle
                have hlen : h' ≤ es.length := by omega
                have hrun : (Instr.sliceAt t (.slice base es.length cap) alo ahi none).run P w = .ok (.slice (if cap = l then base else base.map (·.add (l * P.cellsOf e))) (h' - l) (cap - l)) w := by
                  simp [Instr.sliceAt, Instr.slice, run_underlying hu, hb, run_sizeOf hie]
                have hrep' : (C.slice (P.cellsOf e) ((es.take h').drop l)).rep γ.fr w (.slice (if cap = l then base else base.map (·.add (l * P.cellsOf e))) (h' - l) (cap - l)) := by
                  simp only [C.rep]
                  refine ⟨_, _, _, rfl, by simp; omega, by omega, ?_⟩
                  rcases hbase with ⟨h0, hc0⟩ | ⟨b, o, rfl, hr⟩
                  · left; refine ⟨by omega, by omega⟩
                  · right
                    by_cases hcl : cap = l
                    · refine ⟨b, o, by simp [hcl], ?_⟩
                      rw [List.drop_eq_nil_of_le (by simp; omega)]
                      simp only [rowsAt]
                    · refine ⟨b, o + l * P.cellsOf e, by simp [hcl, Addr.add_mid], ?_⟩
                      rcases hsz with rfl | rfl
                      · exact rowsAt_drop l (rowsAt_take h' hr) (by simp; omega)
                      · simp [rowsAt]
                split at h
                · rename_i hv hnone
                  cases h
                  refine ⟨_, hrun, ?_⟩
                  simp only [T.rep, K.rep, V.rep]
                  have hx2 := hx
                  simp only [V.rep, tkRep] at hx2
                  obtain ⟨_, a', n', hq⟩ := hx2
                  have hh2 : h' = es.length := by simpa [bound] using hh.symm
                  subst hh2
                  rw [List.take_length] at hrep'
                  simp only [Value.slice.injEq] at hq
                  obtain ⟨_, hq1, hq2⟩ := hq
                  exact ⟨hrep', _, _, by rw [hq1, hq2]⟩
                · cases h
                  exact ⟨_, hrun, by simpa only [T.rep, K.rep, V.rep] using hrep'⟩
              · cases h
            · cases h
      · cases h
    · cases h
  · rename_i n e id off hu hc
    rw [cell?_eq hc] at hx
    simp only [T.rep, K.rep, V.rep] at hx
    obtain ⟨b, o, hl, rfl⟩ := hx
    split at h
    · rename_i _ h' hh
      cases amx with
      | some _ => exact hmx.elim
      | none =>
        split at h
        · rename_i _ l hlo'
          split at h
          · rename_i hcond
            cases h
            have hie : ∃ ie, P.info? e = some ie := by
              cases hi : P.info? e with
              | none => simp [Program.cellsOf, hi] at hcond
              | some i => exact ⟨i, rfl⟩
            obtain ⟨ie, hie⟩ := hie
            obtain ⟨hb, _, _⟩ := run_bounds (P := P) (isSlice := false) hh hlo' hlo hhi (Nat.le_refl _) (Nat.le_refl _)
            have hne : ¬ n = l := by omega
            refine ⟨.slice (some ⟨b, o + off + l * P.cellsOf e, none⟩) (h' - l) (n - l), ?_, ?_⟩
            · simp [Instr.sliceAt, run_underlying hu, Instr.sureAddr, hb, run_sizeOf hie, hne, Addr.add_mid]
            · simp only [T.rep, K.rep, V.rep]
              exact ⟨b, o, n - l, hl, by rw [Nat.add_assoc], by omega⟩
          · cases h
        · cases h
    · cases h
  · cases h
end Go.Dm
