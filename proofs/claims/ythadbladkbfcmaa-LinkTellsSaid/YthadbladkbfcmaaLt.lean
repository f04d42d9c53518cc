/-
  A part of the proofs over this seat: what its functions make of data (the file in which the theorems stand says what is proved).
-/
import Derived.Test.YthadbladkbfcmaaLp
import Derived.Test.YthadbladkbfcmaaLh
import Derived.Test.YthadbladkbfcmaaLc
import Derived.Test.YthadbladkbfcmaaDm1
set_option linter.unusedSimpArgs false
set_option linter.unusedVariables false
namespace Go.Dm
open Go Go.RowKit Go.Proofs

theorem tabOk : TabOk PP GL XX := ⟨fun f h xs ims rs ims' hx hh => by
  unfold XX at hx
  split at hx
  · cases hx
    unfold growTab at hh
    split at hh
    · rename_i n
      split at hh
      · rename_i hc
        obtain ⟨hn0, hn⟩ := hc
        cases hh
        refine ⟨⟨_, Proofs.Try.func28, rfl, by kernel_rfl⟩, ?_⟩
        intro Fr w locs vs hf hgl him hap hxs
        obtain ⟨m, rfl⟩ : ∃ m : Nat, n = (m : Int) := ⟨n.toNat, by omega⟩
        obtain ⟨a, rfl⟩ : ∃ a, vs = [.slice a 0 0, .int .i64 m] := by
          match vs, hxs with
          | [v1, v2], ⟨⟨a, h1⟩, h2, _⟩ => exact ⟨a, by simp only [A.rep, C.rep] at h2; rw [h1, h2.1]⟩
          | [], h => exact h.elim
          | [_], h => exact h.2.elim
          | _ :: _ :: _ :: _, h => exact h.2.2.elim
        have hl : locs = [] := by
          cases locs with
          | nil => rfl
          | cons _ _ => exact him.elim
        subst hl
        by_cases h0 : m = 0
        · subst h0
          refine (Gr.none a w).mono ?_
          rintro e w' ⟨rfl, rfl⟩
          refine ⟨[.slice a 0 0], Fr, rfl, BelowBut.of_below (Below.refl _ _), fun b o h => h, fun b o h => .inl h, ⟨?_, trivial⟩, ⟨fun j sz es u h => by simp at h, trivial⟩, trivial, rfl⟩
          simp only [Res.rep, C.rep]
          exact ⟨⟨a, 0, 0, rfl, rfl, Nat.le_refl _, .inl ⟨rfl, rfl⟩⟩, a, 0, rfl, Nat.le_refl _, .inl rfl⟩
        · obtain ⟨i0, hi0⟩ : ∃ i0, PP.info? 9 = some i0 := Option.isSome_iff_exists.1 (by kernel_rfl)
          obtain ⟨z, hz⟩ : ∃ z, i0.zero = some z := by
            have h : ((PP.info? 9).bind (·.zero)).isSome = true := by kernel_rfl
            rw [hi0] at h
            exact Option.isSome_iff_exists.1 h
          have hs : i0.size = 1 := by
            have h : (PP.info? 9).map (·.size) = some 1 := by kernel_rfl
            rw [hi0] at h
            simpa using h
          have hb : i0.bytes = 16 := by
            have h : (PP.info? 9).map (·.bytes) = some 16 := by kernel_rfl
            rw [hi0] at h
            simpa using h
          have hzc : z.cells.size = 1 := by
            have h : ((PP.info? 9).bind (·.zero)).map (·.cells.size) = some 1 := by kernel_rfl
            rw [hi0] at h
            simp only [Option.bind_some, hz, Option.map_some, Option.some.injEq] at h
            exact h
          refine (Gr.grow i0 z hi0 hz (by omega) (by omega) a m (by omega) (by omega) w).mono ?_
          rintro e w' ⟨rfl, rfl⟩
          refine ⟨[.slice (some ⟨w.heap.size, 0, none⟩) 0 (grownCap w m 0 9)], Fr, rfl, BelowBut.of_below (((Below.refl _ w).drew).alloc (Nat.le_refl _) _), fun b o h => h, fun b o h => .inl h, ⟨?_, trivial⟩, ⟨fun j sz es u h => by simp at h, trivial⟩, trivial, rfl⟩
          simp only [Res.rep, C.rep]
          refine ⟨⟨_, 0, _, rfl, rfl, Nat.zero_le _, .inr ⟨_, _, rfl, trivial⟩⟩, _, _, rfl, Nat.zero_le _, .inr ⟨w.heap.size, rfl, Nat.le_refl _, ⟨_, _, (push_at w.drew.heap _ w.heap.size rfl), ?_⟩, ?_⟩⟩
          · have hG := grownCap_ge w m 0 9
            simp only [Array.size_append, zeroCells_size, hzc]
            omega
          · intro o _ h
            have := hf _ _ h
            omega
      · cases hh
    · cases hh
  · cases hx
    unfold cloneTab at hh
    split at hh
    · rename_i z es
      split at hh
      · rename_i hc
        obtain ⟨hs, hlen⟩ := hc
        cases hh
        obtain ⟨i, hi⟩ : ∃ i, PP.info? 9 = some i := Option.isSome_iff_exists.1 (by kernel_rfl)
        obtain ⟨zz, hz⟩ : ∃ z, i.zero = some z := by
          have h : ((PP.info? 9).bind (·.zero)).isSome = true := by kernel_rfl
          rw [hi] at h
          exact Option.isSome_iff_exists.1 h
        have hsz : i.size = 1 := by
          have h : (PP.info? 9).map (·.size) = some 1 := by kernel_rfl
          rw [hi] at h
          simpa using h
        have hb : i.bytes = 16 := by
          have h : (PP.info? 9).map (·.bytes) = some 16 := by kernel_rfl
          rw [hi] at h
          simpa using h
        have hzc : zz.cells.size = 1 := by
          have h : ((PP.info? 9).bind (·.zero)).map (·.cells.size) = some 1 := by kernel_rfl
          rw [hi] at h
          simp only [Option.bind_some, hz, Option.map_some, Option.some.injEq] at h
          exact h
        refine ⟨⟨_, Proofs.Try.func21, rfl, by kernel_rfl⟩, ?_⟩
        have := clone_meets (P := PP) (gl := GL) (f := 21) (t := 23) (e := 9) Proofs.Try.underlying23 hi hz (by omega) (by omega) (by omega) Cl21.nil Cl21.some (sz := z) (es := es) (by rw [hsz]; exact hs) hlen
        rwa [hsz] at this
      · cases hh
    · cases hh
  · cases hx⟩
end Go.Dm
