/- Statements about links (layer 14): each law's function returns true whatever it is handed, and leaves what it is handed as it was. -/
import Derived.Test.YthadbladkbfcmaaLi
import Derived.Test.YthadbladkbfcmaaDmY
import Derived.Test.YthadbladkbfcmaaDmZ
import Derived.Test.YthadbladkbfcmaaRows
set_option linter.unusedSimpArgs false
set_option linter.unusedVariables false
namespace Go.Proofs.Ythadbladkbfcmaa
open Go.ChangeShapes Go.WideShapes Go.ChangeAt Go.RowKit Go.Dm

theorem agg26 : aggOf PP 26 = some true := by kernel_rfl
theorem agg23 : aggOf PP 23 = some false := by kernel_rfl
theorem agg3 : aggOf PP 3 = some false := by kernel_rfl
theorem agg4 : aggOf PP 4 = some false := by kernel_rfl
theorem cells9 : PP.cellsOf 9 = 1 := by kernel_rfl
theorem typ_i64 {n : Nat} {xs : List C} (h : Typ PP (n + 1) 3 xs) : ∃ i, xs = [ii i] := by
  obtain ⟨i, rfl, _⟩ := typ_int Try.underlying3 h
  exact ⟨i, rfl⟩
theorem typ_b {n : Nat} {xs : List C} (h : Typ PP (n + 1) 4 xs) : ∃ b, xs = [bo b] := by
  obtain ⟨b, rfl⟩ := typ_bool Try.underlying4 h
  exact ⟨b, rfl⟩
theorem typ_u64 {n : Nat} {xs : List C} (h : Typ PP (n + 1) 22 xs) : ∃ i, xs = [u i] := by
  obtain ⟨i, rfl, _⟩ := typ_int Try.underlying22 h
  exact ⟨i, rfl⟩
theorem typ_strs {n : Nat} {xs : List C} (h : Typ PP (n + 2) 23 xs) : ∃ l : List ByteArray, xs = [.slice 1 (strs l)] := by
  obtain ⟨es, rfl, hlen, he⟩ := typ_slice Try.underlying23 h
  obtain ⟨l, rfl, _⟩ := list_typ (f := eS) (Q := fun _ => True) (fun x hx => by obtain ⟨s, rfl, _⟩ := typ_string Try.underlying9 hx; exact ⟨s, rfl, trivial⟩) he
  exact ⟨l, by rw [cells9]⟩
theorem typ_link {n : Nat} {xs : List C} (h : Typ PP (n + 4) 26 xs) : ∃ l : Lk, xs = l.cs := by
  obtain ⟨ps, rfl, h1⟩ := typ_struct Try.underlying26 h
  obtain ⟨x1, _, rfl, g1, h2⟩ := all2_cons h1
  obtain ⟨x2, _, rfl, g2, h3⟩ := all2_cons h2
  obtain ⟨x3, _, rfl, g3, h4⟩ := all2_cons h3
  obtain rfl := all2_nil h4
  obtain ⟨a, rfl⟩ := typ_b g1
  obtain ⟨b, rfl⟩ := typ_u64 g2
  obtain ⟨es, rfl, hl, he⟩ := typ_array Try.underlying24 g3
  match es, hl with
  | [y, z], _ =>
    obtain ⟨c, rfl⟩ := typ_strs (he y (by simp))
    obtain ⟨d, rfl⟩ := typ_strs (he z (by simp))
    exact ⟨⟨a, b, c, d⟩, rfl⟩
theorem noNames : PP.funcs.toList.all (fun fn => !(fn.name == "runtime.NumGoroutine")) = true := by kernel_rfl
theorem noName : ∀ (f : FuncId) fn, PP.funcs[f]? = some fn → (fn.name == "runtime.NumGoroutine") = false := fun f fn h => by
  have hm : fn ∈ PP.funcs.toList := by
    obtain ⟨hf, rfl⟩ := Array.getElem?_eq_some_iff.1 h
    simp
  have := List.all_eq_true.1 noNames fn hm
  simpa using this
theorem Try.own : ownKnob Try.prog.godebug = none := by kernel_rfl
theorem Try.laidOut : laidOutB Try.prog = true := by kernel_rfl
theorem law_tells (xss : List (List C)) (h : All2 (Typ PP 8) [26, 26, 3] xss) : orac PP GL XX HH NN 10 3 (mkAs PP [26, 26, 3] xss) [] = some ([.c (.raw (.bool true))], []) := by
  obtain ⟨y0, _, rfl, h0, h⟩ := all2_cons h
  obtain ⟨y1, _, rfl, h1, h⟩ := all2_cons h
  obtain ⟨y2, _, rfl, h2, h⟩ := all2_cons h
  obtain rfl := all2_nil h
  obtain ⟨l0, rfl⟩ := typ_link h0
  obtain ⟨l1, rfl⟩ := typ_link h1
  obtain ⟨x2, rfl⟩ := typ_i64 h2
  have := tells14 l0 l1 x2 1
  simpa only [mkAs, mkA, agg26, agg23, agg3, agg4] using this
set_option maxRecDepth 100000 in
theorem linkTells_lifted (os : Os) (started : os.Started) (H : Type) (enc : TypeId × Value → H) :
    ReturnsInHanded {} Try.checked os 3 .any (Rows.linkTellsSpec.pre6 enc Try.prog Try.f3 Rows.linkTellsRow.domain false) (Rows.linkTellsSpec.post enc Try.prog Try.f3 false true false false) := by
  refine returnsInHanded_of_change (C := Try.checked) Try.own started (by kernel_rfl) Try.func3
    (ChangeSpec.witness6 (enc := enc) (C := Try.checked) false ⟨#[], #[.agg #[.bool false, .int .u64 0, .slice none 0 0, .slice none 0 0], .agg #[.bool false, .int .u64 0, .slice none 0 0, .slice none 0 0], .int .i64 0], []⟩ 8 (by kernel_rfl) (by kernel_rfl) (by kernel_rfl) (by kernel_rfl)) ?_
  intro W base args ds gs before hval hW _ _
  exact law_contract (E := EE 10) (orac_ok tabOk noName 10) rfl (n := 8) (tb := 4) Try.laidOut (by rw [Try.params3]; intro t ht; simp at ht; rcases ht with rfl | rfl <;> exact ⟨by kernel_rfl, of_decide_eq_true (by kernel_rfl)⟩) (by rw [Try.params3]; kernel_rfl) rfl
    (fun ds hd => by rw [Try.params3] at hd; match ds, hd with | [d1, d2, d3], _ => rfl) rfl Try.underlying4 (by rw [Try.params3]; exact law_tells) W (fun g cs h => by cases h) base args ds gs before hval hW
theorem linkTells_holds : Rows.LinkTellsSaid :=
  OpenClaim.holds_of_wide 3 Try.f3 rfl rfl rfl rfl rfl rfl rfl ⟨rfl, rfl, rfl, rfl, rfl⟩ rfl rfl rfl rfl rfl (by kernel_rfl) Try.func3 (by kernel_rfl)
    (of_decide_eq_true (by kernel_rfl)) (by unfold Func.isWrapper; first | (rw [if_pos (by decide +kernel)]; kernel_rfl) | (rw [if_neg (by decide +kernel)]; exact ⟨rfl, rfl⟩))
    (fun os started H enc _ => linkTells_lifted os started H enc)
theorem law_order (xss : List (List C)) (h : All2 (Typ PP 8) [26, 23, 4] xss) : orac PP GL XX HH NN 10 4 (mkAs PP [26, 23, 4] xss) [] = some ([.c (.raw (.bool true))], []) := by
  obtain ⟨y0, _, rfl, h0, h⟩ := all2_cons h
  obtain ⟨y1, _, rfl, h1, h⟩ := all2_cons h
  obtain ⟨y2, _, rfl, h2, h⟩ := all2_cons h
  obtain rfl := all2_nil h
  obtain ⟨l0, rfl⟩ := typ_link h0
  obtain ⟨q1, rfl⟩ := typ_strs h1
  obtain ⟨b2, rfl⟩ := typ_b h2
  have := order14 l0 q1 b2 1
  simpa only [mkAs, mkA, agg26, agg23, agg3, agg4] using this
set_option maxRecDepth 100000 in
theorem linkOrder_lifted (os : Os) (started : os.Started) (H : Type) (enc : TypeId × Value → H) :
    ReturnsInHanded {} Try.checked os 4 .any (Rows.linkOrderSpec.pre6 enc Try.prog Try.f4 Rows.linkOrderRow.domain false) (Rows.linkOrderSpec.post enc Try.prog Try.f4 false true false false) := by
  refine returnsInHanded_of_change (C := Try.checked) Try.own started (by kernel_rfl) Try.func4
    (ChangeSpec.witness6 (enc := enc) (C := Try.checked) false ⟨#[], #[.agg #[.bool false, .int .u64 0, .slice none 0 0, .slice none 0 0], .slice none 0 0, .bool false], []⟩ 8 (by kernel_rfl) (by kernel_rfl) (by kernel_rfl) (by kernel_rfl)) ?_
  intro W base args ds gs before hval hW _ _
  exact law_contract (E := EE 10) (orac_ok tabOk noName 10) rfl (n := 8) (tb := 4) Try.laidOut (by rw [Try.params4]; intro t ht; simp at ht; rcases ht with rfl | rfl | rfl <;> exact ⟨by kernel_rfl, of_decide_eq_true (by kernel_rfl)⟩) (by rw [Try.params4]; kernel_rfl) rfl
    (fun ds hd => by rw [Try.params4] at hd; match ds, hd with | [d1, d2, d3], _ => rfl) rfl Try.underlying4 (by rw [Try.params4]; exact law_order) W (fun g cs h => by cases h) base args ds gs before hval hW
theorem linkOrder_holds : Rows.LinkOrderSaid :=
  OpenClaim.holds_of_wide 4 Try.f4 rfl rfl rfl rfl rfl rfl rfl ⟨rfl, rfl, rfl, rfl, rfl⟩ rfl rfl rfl rfl rfl (by kernel_rfl) Try.func4 (by kernel_rfl)
    (of_decide_eq_true (by kernel_rfl)) (by unfold Func.isWrapper; first | (rw [if_pos (by decide +kernel)]; kernel_rfl) | (rw [if_neg (by decide +kernel)]; exact ⟨rfl, rfl⟩))
    (fun os started H enc _ => linkOrder_lifted os started H enc)
theorem law_sides (xss : List (List C)) (h : All2 (Typ PP 8) [26, 23, 4] xss) : orac PP GL XX HH NN 10 5 (mkAs PP [26, 23, 4] xss) [] = some ([.c (.raw (.bool true))], []) := by
  obtain ⟨y0, _, rfl, h0, h⟩ := all2_cons h
  obtain ⟨y1, _, rfl, h1, h⟩ := all2_cons h
  obtain ⟨y2, _, rfl, h2, h⟩ := all2_cons h
  obtain rfl := all2_nil h
  obtain ⟨l0, rfl⟩ := typ_link h0
  obtain ⟨q1, rfl⟩ := typ_strs h1
  obtain ⟨b2, rfl⟩ := typ_b h2
  have := sides14 l0 q1 b2 1
  simpa only [mkAs, mkA, agg26, agg23, agg3, agg4] using this
set_option maxRecDepth 100000 in
theorem linkSides_lifted (os : Os) (started : os.Started) (H : Type) (enc : TypeId × Value → H) :
    ReturnsInHanded {} Try.checked os 5 .any (Rows.linkSidesSpec.pre6 enc Try.prog Try.f5 Rows.linkSidesRow.domain false) (Rows.linkSidesSpec.post enc Try.prog Try.f5 false true false false) := by
  refine returnsInHanded_of_change (C := Try.checked) Try.own started (by kernel_rfl) Try.func5
    (ChangeSpec.witness6 (enc := enc) (C := Try.checked) false ⟨#[], #[.agg #[.bool false, .int .u64 0, .slice none 0 0, .slice none 0 0], .slice none 0 0, .bool false], []⟩ 8 (by kernel_rfl) (by kernel_rfl) (by kernel_rfl) (by kernel_rfl)) ?_
  intro W base args ds gs before hval hW _ _
  exact law_contract (E := EE 10) (orac_ok tabOk noName 10) rfl (n := 8) (tb := 4) Try.laidOut (by rw [Try.params5]; intro t ht; simp at ht; rcases ht with rfl | rfl | rfl <;> exact ⟨by kernel_rfl, of_decide_eq_true (by kernel_rfl)⟩) (by rw [Try.params5]; kernel_rfl) rfl
    (fun ds hd => by rw [Try.params5] at hd; match ds, hd with | [d1, d2, d3], _ => rfl) rfl Try.underlying4 (by rw [Try.params5]; exact law_sides) W (fun g cs h => by cases h) base args ds gs before hval hW
theorem linkSides_holds : Rows.LinkSidesSaid :=
  OpenClaim.holds_of_wide 5 Try.f5 rfl rfl rfl rfl rfl rfl rfl ⟨rfl, rfl, rfl, rfl, rfl⟩ rfl rfl rfl rfl rfl (by kernel_rfl) Try.func5 (by kernel_rfl)
    (of_decide_eq_true (by kernel_rfl)) (by unfold Func.isWrapper; first | (rw [if_pos (by decide +kernel)]; kernel_rfl) | (rw [if_neg (by decide +kernel)]; exact ⟨rfl, rfl⟩))
    (fun os started H enc _ => linkSides_lifted os started H enc)
end Go.Proofs.Ythadbladkbfcmaa
