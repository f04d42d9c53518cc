/- Statements about audits (layer 24): each law's function returns true whatever it is handed, and leaves what it is handed as it was. -/
import Derived.Test.YtafmihnhdodekaaGreatRows
import Derived.Test.YtafmihnhdodekaaGreatL3
namespace Go.Proofs.YtafmihnhdodekaaGreat
open Go.ChangeShapes Go.WideShapes Go.ChangeAt Go.RowKit Go.Dm
set_option maxRecDepth 100000
theorem agg5 : aggOf PP 5 = some false := by kernel_rfl
theorem agg22 : aggOf PP 22 = some false := by kernel_rfl
theorem cells69 : PP.cellsOf 69 = 7 := by kernel_rfl
theorem cells4 : PP.cellsOf 4 = 1 := by kernel_rfl
theorem typ_u8 {n : Nat} {xs : List C} (h : Typ PP (n + 1) 5 xs) : ∃ i, xs = [by8 i] ∧ 0 ≤ i := by
  obtain ⟨i, rfl, hw⟩ := typ_int Tryz.underlying5 h
  refine ⟨i, rfl, ?_⟩
  have : 0 ≤ i ∧ i ≤ 255 := by simpa [Lit.wf, IntKind.min, IntKind.max, IntKind.signed, IntKind.bits] using hw
  exact this.1
theorem typ_i64 {n : Nat} {xs : List C} (h : Typ PP (n + 1) 3 xs) : ∃ i, xs = [ii i] := by
  obtain ⟨i, rfl, _⟩ := typ_int Tryz.underlying3 h
  exact ⟨i, rfl⟩
theorem typ_u64 {n : Nat} {xs : List C} (h : Typ PP (n + 1) 29 xs) : ∃ i, xs = [u i] := by
  obtain ⟨i, rfl, _⟩ := typ_int Tryz.underlying29 h
  exact ⟨i, rfl⟩
theorem typ_keeps {n : Nat} {xs : List C} (h : Typ PP (n + 2) 67 xs) : ∃ l : List Bool, xs = [.slice 1 (l.map eB)] := by
  obtain ⟨es, rfl, hlen, he⟩ := typ_slice Tryz.underlying67 h
  obtain ⟨l, rfl, _⟩ := list_typ (f := eB) (Q := fun _ => True) (fun x hx => by obtain ⟨s, rfl⟩ := typ_bool Tryz.underlying4 hx; exact ⟨s, rfl, trivial⟩) he
  exact ⟨l, by rw [cells4]⟩
theorem typ_event {n : Nat} {xs : List C} (h : Typ PP (n + 3) 69 xs) : ∃ e : Evt, xs = e.cs := by
  obtain ⟨ps, rfl, h1⟩ := typ_struct Tryz.underlying69 h
  obtain ⟨x1, _, rfl, g1, h2⟩ := all2_cons h1
  obtain ⟨x2, _, rfl, g2, h3⟩ := all2_cons h2
  obtain ⟨x3, _, rfl, g3, h4⟩ := all2_cons h3
  obtain ⟨x4, _, rfl, g4, h5⟩ := all2_cons h4
  obtain ⟨x5, _, rfl, g5, h6⟩ := all2_cons h5
  obtain ⟨x6, _, rfl, g6, h7⟩ := all2_cons h6
  obtain ⟨x7, _, rfl, g7, h8⟩ := all2_cons h7
  obtain rfl := all2_nil h8
  obtain ⟨a, rfl⟩ := typ_i64 g1
  obtain ⟨b, rfl⟩ := typ_i64 g2
  obtain ⟨c, rfl⟩ := typ_i64 g3
  obtain ⟨d, rfl⟩ := typ_i64 g4
  obtain ⟨e, rfl, _⟩ := typ_string Tryz.underlying9 g5
  obtain ⟨f, rfl⟩ := typ_u64 g6
  obtain ⟨g, rfl⟩ := typ_keeps g7
  exact ⟨⟨a, b, c, d, e, f, g⟩, rfl⟩
theorem typ_events {n : Nat} {xs : List C} (h : Typ PP (n + 4) 22 xs) : ∃ l : List Evt, xs = [.slice 7 (l.map Evt.cs)] := by
  obtain ⟨es, rfl, hlen, he⟩ := typ_slice Tryz.underlying22 h
  obtain ⟨l, rfl, _⟩ := list_typ (f := Evt.cs) (Q := fun _ => True) (fun x hx => by obtain ⟨e, rfl⟩ := typ_event hx; exact ⟨e, rfl, trivial⟩) he
  exact ⟨l, by rw [cells69]⟩
theorem noNames : PP.funcs.toList.all (fun fn => !(fn.name == "runtime.NumGoroutine")) = true := by kernel_rfl
theorem noName : ∀ (f : FuncId) fn, PP.funcs[f]? = some fn → (fn.name == "runtime.NumGoroutine") = false := fun f fn h => by
  have hm : fn ∈ PP.funcs.toList := by
    obtain ⟨hf, rfl⟩ := Array.getElem?_eq_some_iff.1 h
    simp
  have := List.all_eq_true.1 noNames fn hm
  simpa using this
theorem Tryz.own : ownKnob Tryz.prog.godebug = none := by kernel_rfl
theorem Tryz.laidOut : laidOutB Tryz.prog = true := by kernel_rfl
theorem law_tells (xss : List (List C)) (h : All2 (Typ PP 8) [5, 22, 22] xss) : orac PP GL XX HH NN 20 3 (mkAs PP [5, 22, 22] xss) [] = some ([.c (.raw (.bool true))], []) := by
  obtain ⟨y0, _, rfl, h0, h⟩ := all2_cons h
  obtain ⟨y1, _, rfl, h1, h⟩ := all2_cons h
  obtain ⟨y2, _, rfl, h2, h⟩ := all2_cons h
  obtain rfl := all2_nil h
  obtain ⟨b0, rfl, hb0⟩ := typ_u8 h0
  obtain ⟨q1, rfl⟩ := typ_events h1
  obtain ⟨q2, rfl⟩ := typ_events h2
  have := tells b0 hb0 q1 q2 0
  simpa only [mkAs, mkA, agg5, agg22] using this
set_option maxRecDepth 100000 in
theorem auditTells_lifted (os : Os) (started : os.Started) (H : Type) (enc : TypeId × Value → H) :
    ReturnsInHanded {} Tryz.checked os 3 .any (Rows.auditTellsSpec.pre6 enc Tryz.prog Tryz.f3 Rows.auditTellsRow.domain false) (Rows.auditTellsSpec.post enc Tryz.prog Tryz.f3 false true false false) := by
  refine returnsInHanded_of_change (C := Tryz.checked) Tryz.own started (by kernel_rfl) Tryz.func3
    (ChangeSpec.witness6 (enc := enc) (C := Tryz.checked) false ⟨#[], #[.int .u8 0, .slice none 0 0, .slice none 0 0], []⟩ 8 (by kernel_rfl) (by kernel_rfl) (by kernel_rfl) (by kernel_rfl)) ?_
  intro W base args ds gs before hval hW _ _
  exact law_contract (E := EE 20) (orac_ok tabOk noName 20) rfl (n := 8) (tb := 4) Tryz.laidOut (by rw [Tryz.params3]; intro t ht; simp at ht; rcases ht with rfl | rfl <;> exact ⟨by kernel_rfl, of_decide_eq_true (by kernel_rfl)⟩) (by rw [Tryz.params3]; kernel_rfl) rfl
    (fun ds hd => by rw [Tryz.params3] at hd; match ds, hd with | [d1, d2, d3], _ => rfl) rfl Tryz.underlying4 (by rw [Tryz.params3]; exact law_tells) W (fun g cs h => by cases h) base args ds gs before hval hW
theorem auditTells_holds : Rows.AuditTellsSaid :=
  OpenClaim.holds_of_wide 3 Tryz.f3 rfl rfl rfl rfl rfl rfl rfl ⟨rfl, rfl, rfl, rfl, rfl⟩ rfl rfl rfl rfl rfl (by kernel_rfl) Tryz.func3 (by kernel_rfl)
    (of_decide_eq_true (by kernel_rfl)) (by unfold Func.isWrapper; first | (rw [if_pos (by decide +kernel)]; kernel_rfl) | (rw [if_neg (by decide +kernel)]; exact ⟨rfl, rfl⟩))
    (fun os started H enc _ => auditTells_lifted os started H enc)
end Go.Proofs.YtafmihnhdodekaaGreat
