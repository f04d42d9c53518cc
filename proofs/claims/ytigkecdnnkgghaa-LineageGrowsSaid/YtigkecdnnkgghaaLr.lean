/- Statements about lineages (layer 12): each law's function returns true whatever it is handed, and leaves what it is handed as it was. -/
import Derived.Test.YtigkecdnnkgghaaLt
import Derived.Test.YtigkecdnnkgghaaLm
import Derived.Test.YtigkecdnnkgghaaLi
import Derived.Test.YtigkecdnnkgghaaDmZ
import Derived.Test.YtigkecdnnkgghaaRows
namespace Go.Proofs.Ytigkecdnnkgghaa
open Go.ChangeShapes Go.WideShapes Go.ChangeAt Go.RowKit Go.Dm

theorem agg22 : aggOf PP 22 = some false := by kernel_rfl
theorem agg23 : aggOf PP 23 = some false := by kernel_rfl
theorem agg32 : aggOf PP 32 = some true := by kernel_rfl
theorem cells32 : PP.cellsOf 32 = 3 := by kernel_rfl
theorem typ_u64 {n : Nat} {xs : List C} (h : Typ PP (n + 1) 23 xs) : ∃ i, xs = [u i] := by
  obtain ⟨i, rfl, _⟩ := typ_int Try.underlying23 h
  exact ⟨i, rfl⟩
theorem typ_i64 {n : Nat} {xs : List C} (h : Typ PP (n + 1) 3 xs) : ∃ i, xs = [ii i] := by
  obtain ⟨i, rfl, _⟩ := typ_int Try.underlying3 h
  exact ⟨i, rfl⟩
theorem typ_mint {n : Nat} {xs : List C} (h : Typ PP (n + 2) 32 xs) : ∃ m : Mi, xs = m.cs := by
  obtain ⟨ps, rfl, h1⟩ := typ_struct Try.underlying32 h
  obtain ⟨x1, _, rfl, g1, h2⟩ := all2_cons h1
  obtain ⟨x2, _, rfl, g2, h3⟩ := all2_cons h2
  obtain ⟨x3, _, rfl, g3, h4⟩ := all2_cons h3
  obtain rfl := all2_nil h4
  obtain ⟨a, rfl⟩ := typ_u64 g1
  obtain ⟨b, rfl⟩ := typ_u64 g2
  obtain ⟨c, rfl⟩ := typ_i64 g3
  exact ⟨⟨a, b, c⟩, rfl⟩
theorem typ_mints {n : Nat} {xs : List C} (h : Typ PP (n + 3) 22 xs) : ∃ l : List Mi, xs = [.slice 3 (mints l)] := by
  obtain ⟨es, rfl, hlen, he⟩ := typ_slice Try.underlying22 h
  obtain ⟨l, rfl, _⟩ := list_typ (f := Mi.cs) (Q := fun _ => True) (fun x hx => by obtain ⟨m, rfl⟩ := typ_mint hx; exact ⟨m, rfl, trivial⟩) he
  exact ⟨l, by rw [cells32]⟩
theorem noNames : PP.funcs.toList.all (fun fn => !(fn.name == "runtime.NumGoroutine")) = true := by kernel_rfl
theorem noName : ∀ (f : FuncId) fn, PP.funcs[f]? = some fn → (fn.name == "runtime.NumGoroutine") = false := fun f fn h => by
  have hm : fn ∈ PP.funcs.toList := by
    obtain ⟨hf, rfl⟩ := Array.getElem?_eq_some_iff.1 h
    simp
  have := List.all_eq_true.1 noNames fn hm
  simpa using this
theorem Try.own : ownKnob Try.prog.godebug = none := by kernel_rfl
theorem Try.laidOut : laidOutB Try.prog = true := by kernel_rfl
theorem law_tells (xss : List (List C)) (h : All2 (Typ PP 8) [22, 23, 23] xss) : orac PP GL XX HH NN 11 3 (mkAs PP [22, 23, 23] xss) [] = some ([.c (.raw (.bool true))], []) := by
  obtain ⟨y0, _, rfl, h0, h⟩ := all2_cons h
  obtain ⟨y1, _, rfl, h1, h⟩ := all2_cons h
  obtain ⟨y2, _, rfl, h2, h⟩ := all2_cons h
  obtain rfl := all2_nil h
  obtain ⟨l0, rfl⟩ := typ_mints h0
  obtain ⟨x1, rfl⟩ := typ_u64 h1
  obtain ⟨x2, rfl⟩ := typ_u64 h2
  have := tellsM l0 x1 x2 1
  simpa only [mkAs, mkA, agg22, agg23, agg32] using this
set_option maxRecDepth 100000 in
theorem lineageTells_lifted (os : Os) (started : os.Started) (H : Type) (enc : TypeId × Value → H) :
    ReturnsInHanded {} Try.checked os 3 .any (Rows.lineageTellsSpec.pre6 enc Try.prog Try.f3 Rows.lineageTellsRow.domain false) (Rows.lineageTellsSpec.post enc Try.prog Try.f3 false true false false) := by
  refine returnsInHanded_of_change (C := Try.checked) Try.own started (by kernel_rfl) Try.func3
    (ChangeSpec.witness6 (enc := enc) (C := Try.checked) false ⟨#[], #[.slice none 0 0, .int .u64 0, .int .u64 0], []⟩ 8 (by kernel_rfl) (by kernel_rfl) (by kernel_rfl) (by kernel_rfl)) ?_
  intro W base args ds gs before hval hW _ _
  exact law_contract (E := EE 11) (orac_ok tabOk noName 11) rfl (n := 8) (tb := 4) Try.laidOut (by rw [Try.params3]; intro t ht; simp at ht; rcases ht with rfl | rfl <;> exact ⟨by kernel_rfl, of_decide_eq_true (by kernel_rfl)⟩) (by rw [Try.params3]; kernel_rfl) rfl
    (fun ds hd => by rw [Try.params3] at hd; match ds, hd with | [d1, d2, d3], _ => rfl) rfl Try.underlying4 (by rw [Try.params3]; exact law_tells) W (fun g cs h => by cases h) base args ds gs before hval hW
theorem lineageTells_holds : Rows.LineageTellsSaid :=
  OpenClaim.holds_of_wide 3 Try.f3 rfl rfl rfl rfl rfl rfl rfl ⟨rfl, rfl, rfl, rfl, rfl⟩ rfl rfl rfl rfl rfl (by kernel_rfl) Try.func3 (by kernel_rfl)
    (of_decide_eq_true (by kernel_rfl)) (by unfold Func.isWrapper; first | (rw [if_pos (by decide +kernel)]; kernel_rfl) | (rw [if_neg (by decide +kernel)]; exact ⟨rfl, rfl⟩))
    (fun os started H enc _ => lineageTells_lifted os started H enc)
theorem law_apart (xss : List (List C)) (h : All2 (Typ PP 8) [22, 23, 23] xss) : orac PP GL XX HH NN 11 4 (mkAs PP [22, 23, 23] xss) [] = some ([.c (.raw (.bool true))], []) := by
  obtain ⟨y0, _, rfl, h0, h⟩ := all2_cons h
  obtain ⟨y1, _, rfl, h1, h⟩ := all2_cons h
  obtain ⟨y2, _, rfl, h2, h⟩ := all2_cons h
  obtain rfl := all2_nil h
  obtain ⟨l0, rfl⟩ := typ_mints h0
  obtain ⟨x1, rfl⟩ := typ_u64 h1
  obtain ⟨x2, rfl⟩ := typ_u64 h2
  have := apartL l0 x1 x2 1
  simpa only [mkAs, mkA, agg22, agg23, agg32] using this
set_option maxRecDepth 100000 in
theorem lineageApart_lifted (os : Os) (started : os.Started) (H : Type) (enc : TypeId × Value → H) :
    ReturnsInHanded {} Try.checked os 4 .any (Rows.lineageApartSpec.pre6 enc Try.prog Try.f4 Rows.lineageApartRow.domain false) (Rows.lineageApartSpec.post enc Try.prog Try.f4 false true false false) := by
  refine returnsInHanded_of_change (C := Try.checked) Try.own started (by kernel_rfl) Try.func4
    (ChangeSpec.witness6 (enc := enc) (C := Try.checked) false ⟨#[], #[.slice none 0 0, .int .u64 0, .int .u64 0], []⟩ 8 (by kernel_rfl) (by kernel_rfl) (by kernel_rfl) (by kernel_rfl)) ?_
  intro W base args ds gs before hval hW _ _
  exact law_contract (E := EE 11) (orac_ok tabOk noName 11) rfl (n := 8) (tb := 4) Try.laidOut (by rw [Try.params4]; intro t ht; simp at ht; rcases ht with rfl | rfl <;> exact ⟨by kernel_rfl, of_decide_eq_true (by kernel_rfl)⟩) (by rw [Try.params4]; kernel_rfl) rfl
    (fun ds hd => by rw [Try.params4] at hd; match ds, hd with | [d1, d2, d3], _ => rfl) rfl Try.underlying4 (by rw [Try.params4]; exact law_apart) W (fun g cs h => by cases h) base args ds gs before hval hW
theorem lineageApart_holds : Rows.LineageApartSaid :=
  OpenClaim.holds_of_wide 4 Try.f4 rfl rfl rfl rfl rfl rfl rfl ⟨rfl, rfl, rfl, rfl, rfl⟩ rfl rfl rfl rfl rfl (by kernel_rfl) Try.func4 (by kernel_rfl)
    (of_decide_eq_true (by kernel_rfl)) (by unfold Func.isWrapper; first | (rw [if_pos (by decide +kernel)]; kernel_rfl) | (rw [if_neg (by decide +kernel)]; exact ⟨rfl, rfl⟩))
    (fun os started H enc _ => lineageApart_lifted os started H enc)
theorem law_grows (xss : List (List C)) (h : All2 (Typ PP 8) [22, 32, 23] xss) : orac PP GL XX HH NN 11 5 (mkAs PP [22, 32, 23] xss) [] = some ([.c (.raw (.bool true))], []) := by
  obtain ⟨y0, _, rfl, h0, h⟩ := all2_cons h
  obtain ⟨y1, _, rfl, h1, h⟩ := all2_cons h
  obtain ⟨y2, _, rfl, h2, h⟩ := all2_cons h
  obtain rfl := all2_nil h
  obtain ⟨l0, rfl⟩ := typ_mints h0
  obtain ⟨m1, rfl⟩ := typ_mint h1
  obtain ⟨x2, rfl⟩ := typ_u64 h2
  have := growsL l0 m1 x2 1
  simpa only [mkAs, mkA, agg22, agg23, agg32] using this
set_option maxRecDepth 100000 in
theorem lineageGrows_lifted (os : Os) (started : os.Started) (H : Type) (enc : TypeId × Value → H) :
    ReturnsInHanded {} Try.checked os 5 .any (Rows.lineageGrowsSpec.pre6 enc Try.prog Try.f5 Rows.lineageGrowsRow.domain false) (Rows.lineageGrowsSpec.post enc Try.prog Try.f5 false true false false) := by
  refine returnsInHanded_of_change (C := Try.checked) Try.own started (by kernel_rfl) Try.func5
    (ChangeSpec.witness6 (enc := enc) (C := Try.checked) false ⟨#[], #[.slice none 0 0, .agg #[.int .u64 0, .int .u64 0, .int .i64 0], .int .u64 0], []⟩ 8 (by kernel_rfl) (by kernel_rfl) (by kernel_rfl) (by kernel_rfl)) ?_
  intro W base args ds gs before hval hW _ _
  exact law_contract (E := EE 11) (orac_ok tabOk noName 11) rfl (n := 8) (tb := 4) Try.laidOut (by rw [Try.params5]; intro t ht; simp at ht; rcases ht with rfl | rfl | rfl <;> exact ⟨by kernel_rfl, of_decide_eq_true (by kernel_rfl)⟩) (by rw [Try.params5]; kernel_rfl) rfl
    (fun ds hd => by rw [Try.params5] at hd; match ds, hd with | [d1, d2, d3], _ => rfl) rfl Try.underlying4 (by rw [Try.params5]; exact law_grows) W (fun g cs h => by cases h) base args ds gs before hval hW
theorem lineageGrows_holds : Rows.LineageGrowsSaid :=
  OpenClaim.holds_of_wide 5 Try.f5 rfl rfl rfl rfl rfl rfl rfl ⟨rfl, rfl, rfl, rfl, rfl⟩ rfl rfl rfl rfl rfl (by kernel_rfl) Try.func5 (by kernel_rfl)
    (of_decide_eq_true (by kernel_rfl)) (by unfold Func.isWrapper; first | (rw [if_pos (by decide +kernel)]; kernel_rfl) | (rw [if_neg (by decide +kernel)]; exact ⟨rfl, rfl⟩))
    (fun os started H enc _ => lineageGrows_lifted os started H enc)
end Go.Proofs.Ytigkecdnnkgghaa
