/- Each of the four statements about vectors: the law's function returns true whatever it is handed, and leaves what it is handed as it was. -/
import Derived.Test.YtpbljfeahhojaaaLf
import Derived.Test.YtpbljfeahhojaaaDmZ
import Derived.Test.YtpbljfeahhojaaaRows
namespace Go.Proofs.Ytpbljfeahhojaaa
open Go.ChangeShapes Go.WideShapes Go.ChangeAt Go.RowKit Go.Dm

theorem agg25 : aggOf PP 25 = some true := by kernel_rfl
theorem agg22 : aggOf PP 22 = some false := by kernel_rfl
theorem agg35 : aggOf PP 35 = some false := by kernel_rfl
theorem agg38 : aggOf PP 38 = some true := by kernel_rfl
theorem cells22 : PP.cellsOf 22 = 1 := by kernel_rfl

theorem typ_u64 {n : Nat} {xs : List C} (h : Typ PP (n + 1) 22 xs) : ∃ i, xs = [u i] := by
  obtain ⟨i, rfl, _⟩ := typ_int Try.underlying22 h
  exact ⟨i, rfl⟩
theorem typ_vec {n : Nat} {xs : List C} (h : Typ PP (n + 3) 25 xs) : ∃ a b c d, xs = [u a, u b, u c, u d] := by
  obtain ⟨ps, rfl, h1⟩ := typ_struct Try.underlying25 h
  obtain ⟨x1, _, rfl, g1, h2⟩ := all2_cons h1
  obtain ⟨x2, _, rfl, g2, h3⟩ := all2_cons h2
  obtain ⟨x3, _, rfl, g3, h4⟩ := all2_cons h3
  obtain rfl := all2_nil h4
  obtain ⟨a, rfl⟩ := typ_u64 g1
  obtain ⟨b, rfl⟩ := typ_u64 g2
  obtain ⟨es, rfl, hl, he⟩ := typ_array Try.underlying23 g3
  obtain ⟨l, rfl, _⟩ := list_typ (f := fun i => [u i]) (Q := fun _ => True) (fun x hx => by obtain ⟨i, rfl⟩ := typ_u64 hx; exact ⟨i, rfl, trivial⟩) he
  match l, hl with
  | [c, d], _ => exact ⟨a, b, c, d, rfl⟩
theorem typ_arr3 {n : Nat} {xs : List C} (h : Typ PP (n + 2) 38 xs) : ∃ a b c, xs = [u a, u b, u c] := by
  obtain ⟨es, rfl, hl, he⟩ := typ_array Try.underlying38 h
  obtain ⟨l, rfl, _⟩ := list_typ (f := fun i => [u i]) (Q := fun _ => True) (fun x hx => by obtain ⟨i, rfl⟩ := typ_u64 hx; exact ⟨i, rfl, trivial⟩) he
  match l, hl with
  | [a, b, c], _ => exact ⟨a, b, c, rfl⟩
theorem typ_list {n : Nat} {xs : List C} (h : Typ PP (n + 2) 35 xs) : ∃ l : List Int, xs = [.slice 1 (us l)] ∧ l.length < 9223372036854775808 := by
  obtain ⟨es, rfl, hl, he⟩ := typ_slice Try.underlying35 h
  obtain ⟨l, rfl, _⟩ := list_typ (f := fun i => [u i]) (Q := fun _ => True) (fun x hx => by obtain ⟨i, rfl⟩ := typ_u64 hx; exact ⟨i, rfl, trivial⟩) he
  rw [cells22]
  refine ⟨l, rfl, ?_⟩
  rw [List.length_map] at hl
  unfold maxLen at hl
  omega

theorem law3 (xss : List (List C)) (h : All2 (Typ PP 8) [25, 22] xss) : orac PP GL HH NN 8 3 (mkAs PP [25, 22] xss) [] = some ([.c (.raw (.bool true))], []) := by
  obtain ⟨x, _, rfl, h1, h⟩ := all2_cons h
  obtain ⟨y, _, rfl, h2, h⟩ := all2_cons h
  obtain rfl := all2_nil h
  obtain ⟨a, b, c, d, rfl⟩ := typ_vec h1
  obtain ⟨g, rfl⟩ := typ_u64 h2
  have := makes a b c d g 0
  rw [makes_true] at this
  simpa only [mkAs, mkA, agg25, agg22] using this
theorem law4 (xss : List (List C)) (h : All2 (Typ PP 8) [25, 35] xss) : orac PP GL HH NN 8 4 (mkAs PP [25, 35] xss) [] = some ([.c (.raw (.bool true))], []) := by
  obtain ⟨x, _, rfl, h1, h⟩ := all2_cons h
  obtain ⟨y, _, rfl, h2, h⟩ := all2_cons h
  obtain rfl := all2_nil h
  obtain ⟨a, b, c, d, rfl⟩ := typ_vec h1
  obtain ⟨l, rfl, hl⟩ := typ_list h2
  have := vhas a b c d l hl 0
  rw [vhas_true] at this
  simpa only [mkAs, mkA, agg25, agg35] using this
theorem law5 (xss : List (List C)) (h : All2 (Typ PP 8) [25, 22] xss) : orac PP GL HH NN 8 5 (mkAs PP [25, 22] xss) [] = some ([.c (.raw (.bool true))], []) := by
  obtain ⟨x, _, rfl, h1, h⟩ := all2_cons h
  obtain ⟨y, _, rfl, h2, h⟩ := all2_cons h
  obtain rfl := all2_nil h
  obtain ⟨a, b, c, d, rfl⟩ := typ_vec h1
  obtain ⟨g, rfl⟩ := typ_u64 h2
  have := stays a b c d g 0
  rw [stays_true] at this
  simpa only [mkAs, mkA, agg25, agg22] using this
theorem law6 (xss : List (List C)) (h : All2 (Typ PP 8) [25, 38] xss) : orac PP GL HH NN 8 6 (mkAs PP [25, 38] xss) [] = some ([.c (.raw (.bool true))], []) := by
  obtain ⟨x, _, rfl, h1, h⟩ := all2_cons h
  obtain ⟨y, _, rfl, h2, h⟩ := all2_cons h
  obtain rfl := all2_nil h
  obtain ⟨a, b, c, d, rfl⟩ := typ_vec h1
  obtain ⟨g0, g1, g2, rfl⟩ := typ_arr3 h2
  have := long a b c d g0 g1 g2 0
  rw [long_true] at this
  simpa only [mkAs, mkA, agg25, agg38] using this

theorem noNames : PP.funcs.toList.all (fun fn => !(fn.name == "runtime.NumGoroutine")) = true := by kernel_rfl
theorem noName : ∀ (f : FuncId) fn, PP.funcs[f]? = some fn → (fn.name == "runtime.NumGoroutine") = false := fun f fn h => by
  have hm : fn ∈ PP.funcs.toList := by
    obtain ⟨hf, rfl⟩ := Array.getElem?_eq_some_iff.1 h
    simp
  have := List.all_eq_true.1 noNames fn hm
  simpa using this

theorem Try.own : ownKnob Try.prog.godebug = none := by kernel_rfl
theorem Try.laidOut : laidOutB Try.prog = true := by kernel_rfl
set_option maxRecDepth 100000 in
theorem vectorMakes_lifted (os : Os) (started : os.Started) (H : Type) (enc : TypeId × Value → H) :
    ReturnsInHanded {} Try.checked os 3 .any (Rows.vectorMakesSpec.pre6 enc Try.prog Try.f3 Rows.vectorMakesRow.domain false) (Rows.vectorMakesSpec.post enc Try.prog Try.f3 false true false false) := by
  refine returnsInHanded_of_change (C := Try.checked) Try.own started (by kernel_rfl) Try.func3
    (ChangeSpec.witness6 (enc := enc) (C := Try.checked) false ⟨#[], #[.agg #[.int .u64 0, .int .u64 0, .int .u64 0, .int .u64 0], .int .u64 0], []⟩ 8 (by kernel_rfl) (by kernel_rfl) (by kernel_rfl) (by kernel_rfl)) ?_
  intro W base args ds gs before hval hW _ _
  exact law_contract (E := EE 8) (orac_ok noName 8) rfl (fun _ => rfl) (n := 8) (tb := 4) Try.laidOut (by rw [Try.params3]; intro t ht; simp at ht; rcases ht with rfl | rfl <;> exact ⟨by kernel_rfl, of_decide_eq_true (by kernel_rfl)⟩) (by rw [Try.params3]; kernel_rfl) rfl
    (fun ds hd => by rw [Try.params3] at hd; match ds, hd with | [d1, d2], _ => rfl) rfl Try.underlying4 (by rw [Try.params3]; exact law3) W base args ds gs before hval hW
theorem vectorMakes_holds : Rows.VectorMakesSaid :=
  OpenClaim.holds_of_wide 3 Try.f3 rfl rfl rfl rfl rfl rfl rfl ⟨rfl, rfl, rfl, rfl, rfl⟩ rfl rfl rfl rfl rfl (by kernel_rfl) Try.func3 (by kernel_rfl)
    (of_decide_eq_true (by kernel_rfl)) (by unfold Func.isWrapper; first | (rw [if_pos (by decide +kernel)]; kernel_rfl) | (rw [if_neg (by decide +kernel)]; exact ⟨rfl, rfl⟩))
    (fun os started H enc _ => vectorMakes_lifted os started H enc)
set_option maxRecDepth 100000 in
theorem vectorHas_lifted (os : Os) (started : os.Started) (H : Type) (enc : TypeId × Value → H) :
    ReturnsInHanded {} Try.checked os 4 .any (Rows.vectorHasSpec.pre6 enc Try.prog Try.f4 Rows.vectorHasRow.domain false) (Rows.vectorHasSpec.post enc Try.prog Try.f4 false true false false) := by
  refine returnsInHanded_of_change (C := Try.checked) Try.own started (by kernel_rfl) Try.func4
    (ChangeSpec.witness6 (enc := enc) (C := Try.checked) false ⟨#[], #[.agg #[.int .u64 0, .int .u64 0, .int .u64 0, .int .u64 0], .slice none 0 0], []⟩ 8 (by kernel_rfl) (by kernel_rfl) (by kernel_rfl) (by kernel_rfl)) ?_
  intro W base args ds gs before hval hW _ _
  exact law_contract (E := EE 8) (orac_ok noName 8) rfl (fun _ => rfl) (n := 8) (tb := 4) Try.laidOut (by rw [Try.params4]; intro t ht; simp at ht; rcases ht with rfl | rfl <;> exact ⟨by kernel_rfl, of_decide_eq_true (by kernel_rfl)⟩) (by rw [Try.params4]; kernel_rfl) rfl
    (fun ds hd => by rw [Try.params4] at hd; match ds, hd with | [d1, d2], _ => rfl) rfl Try.underlying4 (by rw [Try.params4]; exact law4) W base args ds gs before hval hW
theorem vectorHas_holds : Rows.VectorHasSaid :=
  OpenClaim.holds_of_wide 4 Try.f4 rfl rfl rfl rfl rfl rfl rfl ⟨rfl, rfl, rfl, rfl, rfl⟩ rfl rfl rfl rfl rfl (by kernel_rfl) Try.func4 (by kernel_rfl)
    (of_decide_eq_true (by kernel_rfl)) (by unfold Func.isWrapper; first | (rw [if_pos (by decide +kernel)]; kernel_rfl) | (rw [if_neg (by decide +kernel)]; exact ⟨rfl, rfl⟩))
    (fun os started H enc _ => vectorHas_lifted os started H enc)
set_option maxRecDepth 100000 in
theorem vectorStays_lifted (os : Os) (started : os.Started) (H : Type) (enc : TypeId × Value → H) :
    ReturnsInHanded {} Try.checked os 5 .any (Rows.vectorStaysSpec.pre6 enc Try.prog Try.f5 Rows.vectorStaysRow.domain false) (Rows.vectorStaysSpec.post enc Try.prog Try.f5 false true false false) := by
  refine returnsInHanded_of_change (C := Try.checked) Try.own started (by kernel_rfl) Try.func5
    (ChangeSpec.witness6 (enc := enc) (C := Try.checked) false ⟨#[], #[.agg #[.int .u64 0, .int .u64 0, .int .u64 0, .int .u64 0], .int .u64 0], []⟩ 8 (by kernel_rfl) (by kernel_rfl) (by kernel_rfl) (by kernel_rfl)) ?_
  intro W base args ds gs before hval hW _ _
  exact law_contract (E := EE 8) (orac_ok noName 8) rfl (fun _ => rfl) (n := 8) (tb := 4) Try.laidOut (by rw [Try.params5]; intro t ht; simp at ht; rcases ht with rfl | rfl <;> exact ⟨by kernel_rfl, of_decide_eq_true (by kernel_rfl)⟩) (by rw [Try.params5]; kernel_rfl) rfl
    (fun ds hd => by rw [Try.params5] at hd; match ds, hd with | [d1, d2], _ => rfl) rfl Try.underlying4 (by rw [Try.params5]; exact law5) W base args ds gs before hval hW
theorem vectorStays_holds : Rows.VectorStaysSaid :=
  OpenClaim.holds_of_wide 5 Try.f5 rfl rfl rfl rfl rfl rfl rfl ⟨rfl, rfl, rfl, rfl, rfl⟩ rfl rfl rfl rfl rfl (by kernel_rfl) Try.func5 (by kernel_rfl)
    (of_decide_eq_true (by kernel_rfl)) (by unfold Func.isWrapper; first | (rw [if_pos (by decide +kernel)]; kernel_rfl) | (rw [if_neg (by decide +kernel)]; exact ⟨rfl, rfl⟩))
    (fun os started H enc _ => vectorStays_lifted os started H enc)
set_option maxRecDepth 100000 in
theorem vectorLong_lifted (os : Os) (started : os.Started) (H : Type) (enc : TypeId × Value → H) :
    ReturnsInHanded {} Try.checked os 6 .any (Rows.vectorLongSpec.pre6 enc Try.prog Try.f6 Rows.vectorLongRow.domain false) (Rows.vectorLongSpec.post enc Try.prog Try.f6 false true false false) := by
  refine returnsInHanded_of_change (C := Try.checked) Try.own started (by kernel_rfl) Try.func6
    (ChangeSpec.witness6 (enc := enc) (C := Try.checked) false ⟨#[], #[.agg #[.int .u64 0, .int .u64 0, .int .u64 0, .int .u64 0], .agg #[.int .u64 0, .int .u64 0, .int .u64 0]], []⟩ 8 (by kernel_rfl) (by kernel_rfl) (by kernel_rfl) (by kernel_rfl)) ?_
  intro W base args ds gs before hval hW _ _
  exact law_contract (E := EE 8) (orac_ok noName 8) rfl (fun _ => rfl) (n := 8) (tb := 4) Try.laidOut (by rw [Try.params6]; intro t ht; simp at ht; rcases ht with rfl | rfl <;> exact ⟨by kernel_rfl, of_decide_eq_true (by kernel_rfl)⟩) (by rw [Try.params6]; kernel_rfl) rfl
    (fun ds hd => by rw [Try.params6] at hd; match ds, hd with | [d1, d2], _ => rfl) rfl Try.underlying4 (by rw [Try.params6]; exact law6) W base args ds gs before hval hW
theorem vectorLong_holds : Rows.VectorLongSaid :=
  OpenClaim.holds_of_wide 6 Try.f6 rfl rfl rfl rfl rfl rfl rfl ⟨rfl, rfl, rfl, rfl, rfl⟩ rfl rfl rfl rfl rfl (by kernel_rfl) Try.func6 (by kernel_rfl)
    (of_decide_eq_true (by kernel_rfl)) (by unfold Func.isWrapper; first | (rw [if_pos (by decide +kernel)]; kernel_rfl) | (rw [if_neg (by decide +kernel)]; exact ⟨rfl, rfl⟩))
    (fun os started H enc _ => vectorLong_lifted os started H enc)
end Go.Proofs.Ytpbljfeahhojaaa
