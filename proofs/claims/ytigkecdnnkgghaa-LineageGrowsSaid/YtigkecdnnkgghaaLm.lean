/-
  A part of the proofs over this seat: what its functions make of data (the file in which the theorems stand says what is proved).
-/
import Derived.Test.YtigkecdnnkgghaaLl
namespace Go.Dm
open Go
theorem growsL (l : List Mi) (m : Mi) (old : Int) (k : Nat) : orac PP GL XX HH NN (k + 10) 5 [.c (.slice 3 (mints l)), .agg [u m.g, u m.p, ii m.n], .c (u old)] [] = some ([.c (.raw (.bool true))], []) := by
  cases g1 : decide ((↑(mints l).length : Int) > 100) with
  | true => exact gra l m old g1 k
  | false =>
    have hk : l.length ≤ 100 := by rw [mints_len] at g1; simp at g1; omega
    have hB : l.length < BIG := by unfold BIG; omega
    have hl2 : l.length ≤ 100000 := by omega
    cases gz : m.g == 0 with
    | true => exact grb l m old g1 gz k
    | false =>
      cases hb : l.any (kn m) with
      | true =>
        have hj := findIdx_lt_of_any hb
        have hx := List.getElem?_eq_getElem hj
        have hp : kn m l[l.findIdx (kn m)] = true := List.findIdx_getElem (w := hj)
        cases hg : l[l.findIdx (kn m)].g == m.g with
        | true => exact grc l m old g1 gz hB hb _ hx hg k
        | false =>
          unfold kn at hp
          have hp' : (l[l.findIdx (kn m)].p == m.g) = true := by
            unfold kn at hg
            rw [hg, Bool.false_or] at hp
            exact hp
          exact grd l m old g1 gz hB hb _ hx hg hp' k
      | false =>
        cases hp : m.p == m.g with
        | true => exact gre l m old g1 gz hB hb hp k
        | false =>
          cases ho : old == m.g with
          | true => exact grf l m old g1 gz hB hb hp ho k
          | false =>
            have hp' : m.p ≠ m.g := by simpa using hp
            have ho' : old ≠ m.g := by simpa using ho
            have eqn := line_new hb gz hp'
            have eqo := line_old hb gz ho'
            have eqr := right_app hb gz
            have hq : (lineM (l ++ [m]) m.g).length < 9223372036854775808 := by have := lineM_len (l ++ [m]) m.g; simp at this; omega
            have hr : (lineM (l ++ [m]) old).length < 9223372036854775808 := by have := lineM_len (l ++ [m]) old; simp at this; omega
            have hm : (lineM l m.p).length ≤ 101 := by have := lineM_len l m.p; omega
            by_cases hu : us (lineM l m.p) = []
            · have hu' : lineM l m.p = [] := List.map_eq_nil_iff.1 hu
              by_cases h : l = []
              · subst h
                have := grj m old gz hp ho _ _ _ rfl hu' rfl rfl hq hr k
                unfold grj_0 at this
                rw [eqn, eqo, eqr, hu'] at this
                simpa [show rightL [] = true from rfl] using this
              · have := grh l m old (fun h2 => h (noMints l h2)) g1 gz hk hB hl2 hb hp ho _ _ _ rfl hu' rfl rfl hq hr k
                unfold grh_0 at this
                rw [eqn, eqo, eqr, hu'] at this
                simpa using this
            · by_cases h : l = []
              · subst h
                have := gri m old gz hp ho _ _ _ _ rfl rfl rfl rfl hu hm hq hr k
                unfold gri_0 at this
                rw [eqn, eqo, eqr] at this
                simpa [show rightL [] = true from rfl] using this
              · have := grg l m old (fun h2 => h (noMints l h2)) g1 gz hk hB hl2 hb hp ho _ _ _ _ rfl rfl rfl rfl hu hm hq hr k
                unfold grg_0 at this
                rw [eqn, eqo, eqr] at this
                simpa using this
end Go.Dm
