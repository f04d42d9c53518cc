/- Statements about the rule of layer 11: each law's function returns true whatever it is handed, and leaves what it is handed as it was. -/
import Derived.Test.YtlmhcmlbnbgaaaaLi
import Derived.Test.YtlmhcmlbnbgaaaaDmZ
import Derived.Test.YtlmhcmlbnbgaaaaRows
namespace Go.Proofs.Ytlmhcmlbnbgaaaa
open Go.ChangeShapes Go.WideShapes Go.ChangeAt Go.RowKit Go.Dm

theorem agg25 : aggOf PP 25 = some true := by kernel_rfl
theorem agg28 : aggOf PP 28 = some true := by kernel_rfl
theorem agg32 : aggOf PP 32 = some true := by kernel_rfl

theorem typ_u64 {n : Nat} {xs : List C} (h : Typ PP (n + 1) 22 xs) : ∃ i, xs = [u i] := by
  obtain ⟨i, rfl, _⟩ := typ_int Try.underlying22 h
  exact ⟨i, rfl⟩
theorem typ_i64 {n : Nat} {xs : List C} (h : Typ PP (n + 1) 3 xs) : ∃ i, xs = [ii i] := by
  obtain ⟨i, rfl, _⟩ := typ_int Try.underlying3 h
  exact ⟨i, rfl⟩
theorem typ_u32 {n : Nat} {xs : List C} (h : Typ PP (n + 1) 26 xs) : ∃ i, xs = [w4 i] ∧ (Lit.int .u32 i).wf = true := by
  obtain ⟨i, rfl, hw⟩ := typ_int Try.underlying26 h
  exact ⟨i, rfl, hw⟩
theorem typ_vec {n : Nat} {xs : List C} (h : Typ PP (n + 3) 25 xs) : ∃ a b c d, xs = [u a, u b, u c, u d] := by
  obtain ⟨ps, rfl, h1⟩ := typ_struct Try.underlying25 h
  obtain ⟨x1, _, rfl, g1, h2⟩ := all2_cons h1
  obtain ⟨x2, _, rfl, g2, h3⟩ := all2_cons h2
  obtain ⟨x3, _, rfl, g3, h4⟩ := all2_cons h3
  obtain rfl := all2_nil h4
  obtain ⟨a, rfl⟩ := typ_u64 g1
  obtain ⟨b, rfl⟩ := typ_u64 g2
  obtain ⟨es, rfl, hl, he⟩ := typ_array Try.underlying23 g3
  obtain ⟨l, rfl, _⟩ := list_typ (f := fun i => [u i]) (Q := fun _ => True) (fun x hx => by obtain ⟨i, rfl⟩ := typ_u64 hx; exact ⟨i, rfl, trivial⟩) he
  match l, hl with
  | [c, d], _ => exact ⟨a, b, c, d, rfl⟩
theorem typ_verdict {n : Nat} {xs : List C} (h : Typ PP (n + 3) 32 xs) : ∃ a b, xs = [ii a, ii b] := by
  obtain ⟨ps, rfl, h1⟩ := typ_struct Try.underlying32 h
  obtain ⟨x1, _, rfl, g1, h2⟩ := all2_cons h1
  obtain ⟨x2, _, rfl, g2, h3⟩ := all2_cons h2
  obtain rfl := all2_nil h3
  obtain ⟨a, rfl⟩ := typ_i64 g1
  obtain ⟨b, rfl⟩ := typ_i64 g2
  exact ⟨a, b, rfl⟩
theorem typ_hello {n : Nat} {xs : List C} (h : Typ PP (n + 4) 28 xs) : ∃ B c b o q i w d p m, xs = hello B c b o q i w d p m ∧ (Lit.int .u32 m).wf = true := by
  obtain ⟨ps, rfl, hh⟩ := typ_struct Try.underlying28 h
  obtain ⟨x1, _, rfl, g1, h⟩ := all2_cons hh
  obtain ⟨x2, _, rfl, g2, h⟩ := all2_cons h
  obtain ⟨x3, _, rfl, g3, h⟩ := all2_cons h
  obtain ⟨x4, _, rfl, g4, h⟩ := all2_cons h
  obtain ⟨x5, _, rfl, g5, h⟩ := all2_cons h
  obtain ⟨x6, _, rfl, g6, h⟩ := all2_cons h
  obtain ⟨x7, _, rfl, g7, h⟩ := all2_cons h
  obtain rfl := all2_nil h
  obtain ⟨B, rfl⟩ := typ_i64 g1
  obtain ⟨c, b, o, q, rfl⟩ := typ_vec g2
  obtain ⟨i, rfl⟩ := typ_bool Try.underlying4 g3
  obtain ⟨w, rfl⟩ := typ_bool Try.underlying4 g4
  obtain ⟨d, rfl⟩ := typ_bool Try.underlying4 g5
  obtain ⟨p, rfl⟩ := typ_bool Try.underlying4 g6
  obtain ⟨m, rfl, hm⟩ := typ_u32 g7
  exact ⟨B, c, b, o, q, i, w, d, p, m, rfl, hm⟩

theorem law_decides (xss : List (List C)) (h : All2 (Typ PP 8) [28, 28] xss) : orac PP GL HH NN 14 3 (mkAs PP [28, 28] xss) [] = some ([.c (.raw (.bool true))], []) := by
  obtain ⟨x, _, rfl, h1, h⟩ := all2_cons h
  obtain ⟨y, _, rfl, h2, h⟩ := all2_cons h
  obtain rfl := all2_nil h
  obtain ⟨B, c, b, o, q, i, w, d, p, m, rfl, hm⟩ := typ_hello h1
  obtain ⟨B', c', b', o', q', i', w', d', p', m', rfl, hm'⟩ := typ_hello h2
  have := decidesM B c b o q i w d p m B' c' b' o' q' i' w' d' p' m' hm hm' 1
  
  simpa only [mkAs, mkA, agg28] using this

theorem noNames : PP.funcs.toList.all (fun fn => !(fn.name == "runtime.NumGoroutine")) = true := by kernel_rfl
theorem noName : ∀ (f : FuncId) fn, PP.funcs[f]? = some fn → (fn.name == "runtime.NumGoroutine") = false := fun f fn h => by
  have hm : fn ∈ PP.funcs.toList := by
    obtain ⟨hf, rfl⟩ := Array.getElem?_eq_some_iff.1 h
    simp
  have := List.all_eq_true.1 noNames fn hm
  simpa using this

theorem Try.own : ownKnob Try.prog.godebug = none := by kernel_rfl
theorem Try.laidOut : laidOutB Try.prog = true := by kernel_rfl
set_option maxRecDepth 100000 in
theorem ruleDecides_lifted (os : Os) (started : os.Started) (H : Type) (enc : TypeId × Value → H) :
    ReturnsInHanded {} Try.checked os 3 .any (Rows.ruleDecidesSpec.pre6 enc Try.prog Try.f3 Rows.ruleDecidesRow.domain false) (Rows.ruleDecidesSpec.post enc Try.prog Try.f3 false true false false) := by
  refine returnsInHanded_of_change (C := Try.checked) Try.own started (by kernel_rfl) Try.func3
    (ChangeSpec.witness6 (enc := enc) (C := Try.checked) false ⟨#[], #[.agg #[.int .i64 0, .int .u64 0, .int .u64 0, .int .u64 0, .int .u64 0, .bool false, .bool false, .bool false, .bool false, .int .u32 0], .agg #[.int .i64 0, .int .u64 0, .int .u64 0, .int .u64 0, .int .u64 0, .bool false, .bool false, .bool false, .bool false, .int .u32 0]], []⟩ 8 (by kernel_rfl) (by kernel_rfl) (by kernel_rfl) (by kernel_rfl)) ?_
  intro W base args ds gs before hval hW _ _
  exact law_contract (E := EE 14) (orac_ok noName 14) rfl (fun _ => rfl) (n := 8) (tb := 4) Try.laidOut (by rw [Try.params3]; intro t ht; simp at ht; rcases ht with rfl | rfl <;> exact ⟨by kernel_rfl, of_decide_eq_true (by kernel_rfl)⟩) (by rw [Try.params3]; kernel_rfl) rfl
    (fun ds hd => by rw [Try.params3] at hd; match ds, hd with | [d1, d2], _ => rfl) rfl Try.underlying4 (by rw [Try.params3]; exact law_decides) W base args ds gs before hval hW
theorem ruleDecides_holds : Rows.RuleDecidesSaid :=
  OpenClaim.holds_of_wide 3 Try.f3 rfl rfl rfl rfl rfl rfl rfl ⟨rfl, rfl, rfl, rfl, rfl⟩ rfl rfl rfl rfl rfl (by kernel_rfl) Try.func3 (by kernel_rfl)
    (of_decide_eq_true (by kernel_rfl)) (by unfold Func.isWrapper; first | (rw [if_pos (by decide +kernel)]; kernel_rfl) | (rw [if_neg (by decide +kernel)]; exact ⟨rfl, rfl⟩))
    (fun os started H enc _ => ruleDecides_lifted os started H enc)
end Go.Proofs.Ytlmhcmlbnbgaaaa
