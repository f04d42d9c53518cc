/- Statements about audits (layer 24): each law's function returns true whatever it is handed, and leaves what it is handed as it was. -/
import Derived.Test.YtafmihnhdodekaaGreatRows
import Derived.Test.YtafmihnhdodekaaGreatReL2
namespace Go.Proofs.YtafmihnhdodekaaGreat
open Go.ChangeShapes Go.WideShapes Go.ChangeAt Go.RowKit Go.Dm
set_option maxRecDepth 100000
theorem G5 : g9 PP 5 = some false := by kernel_rfl
theorem F9 : g9 PP 22 = some false := by kernel_rfl
theorem B1 : PP.cellsOf 69 = 7 := by kernel_rfl
theorem CS : PP.cellsOf 4 = 1 := by kernel_rfl
theorem CN {n : Nat} {xs : List C} (h : Typ PP (n + 1) 5 xs) : ∃ i, xs = [by8 i] ∧ 0 ≤ i := by
  obtain ⟨i, rfl, hw⟩ := rW Tryz.underlying5 h
  refine ⟨i, rfl, ?_⟩
  have : 0 ≤ i ∧ i ≤ 255 := by simpa [Lit.wf, IntKind.min, IntKind.max, IntKind.signed, IntKind.bits] using hw
  exact this.1
theorem o5 {n : Nat} {xs : List C} (h : Typ PP (n + 1) 3 xs) : ∃ i, xs = [ii i] := by
  obtain ⟨i, rfl, _⟩ := rW Tryz.underlying3 h
  exact ⟨i, rfl⟩
theorem Bo {n : Nat} {xs : List C} (h : Typ PP (n + 1) 29 xs) : ∃ i, xs = [u i] ∧ R64 i := by
  obtain ⟨i, rfl, hw⟩ := rW Tryz.underlying29 h
  refine ⟨i, rfl, ?_⟩
  have : 0 ≤ i ∧ i ≤ 18446744073709551615 := by simpa [Lit.wf, IntKind.min, IntKind.max, IntKind.signed, IntKind.bits] using hw
  unfold R64
  omega
theorem ws {n : Nat} {xs : List C} (h : Typ PP (n + 2) 67 xs) : ∃ l : List Bool, xs = [.slice 1 (l.map eB)] := by
  obtain ⟨es, rfl, hlen, he⟩ := qa Tryz.underlying67 h
  obtain ⟨l, rfl, _⟩ := o7 (f := eB) (Q := fun _ => True) (fun x hx => by obtain ⟨s, rfl⟩ := Aa Tryz.underlying4 hx; exact ⟨s, rfl, trivial⟩) he
  exact ⟨l, by rw [CS]⟩
theorem yo {n : Nat} {xs : List C} (h : Typ PP (n + 3) 69 xs) : ∃ e : Evt, xs = e.cs ∧ R64 e.n := by
  obtain ⟨ps, rfl, h1⟩ := ux Tryz.underlying69 h
  obtain ⟨x1, _, rfl, g1, h2⟩ := d5 h1
  obtain ⟨x2, _, rfl, g2, h3⟩ := d5 h2
  obtain ⟨x3, _, rfl, g3, h4⟩ := d5 h3
  obtain ⟨x4, _, rfl, g4, h5⟩ := d5 h4
  obtain ⟨x5, _, rfl, g5, h6⟩ := d5 h5
  obtain ⟨x6, _, rfl, g6, h7⟩ := d5 h6
  obtain ⟨x7, _, rfl, g7, h8⟩ := d5 h7
  obtain rfl := tT h8
  obtain ⟨a, rfl⟩ := o5 g1
  obtain ⟨b, rfl⟩ := o5 g2
  obtain ⟨c, rfl⟩ := o5 g3
  obtain ⟨d, rfl⟩ := o5 g4
  obtain ⟨e, rfl, _⟩ := uL Tryz.underlying9 g5
  obtain ⟨f, rfl, hf⟩ := Bo g6
  obtain ⟨g, rfl⟩ := ws g7
  exact ⟨⟨a, b, c, d, e, f, g⟩, rfl, hf⟩
theorem ui {n : Nat} {xs : List C} (h : Typ PP (n + 4) 22 xs) : ∃ l : List Evt, xs = [.slice 7 (l.map Evt.cs)] ∧ ∀ e ∈ l, R64 e.n := by
  obtain ⟨es, rfl, hlen, he⟩ := qa Tryz.underlying22 h
  obtain ⟨l, rfl, hq⟩ := o7 (f := Evt.cs) (Q := fun e => R64 e.n) (fun x hx => by obtain ⟨e, rfl, hr⟩ := yo hx; exact ⟨e, rfl, hr⟩) he
  exact ⟨l, by rw [B1], hq⟩
theorem B4 : PP.funcs.toList.all (fun fn => !(fn.name == "runtime.NumGoroutine")) = true := by kernel_rfl
theorem CQ : ∀ (f : FuncId) fn, PP.funcs[f]? = some fn → (fn.name == "runtime.NumGoroutine") = false := fun f fn h => by
  have hm : fn ∈ PP.funcs.toList := by
    obtain ⟨hf, rfl⟩ := Array.getElem?_eq_some_iff.1 h
    simp
  have := List.all_eq_true.1 B4 fn hm
  simpa using this
theorem Tryz.own : ownKnob Tryz.prog.godebug = none := by kernel_rfl
theorem Tryz.laidOut : laidOutB Tryz.prog = true := by kernel_rfl
theorem sy (xss : List (List C)) (h : bf (Typ PP 8) [5, 22] xss) : aj PP GL XX HH NN 20 5 (yW PP [5, 22] xss) [] = some ([.c (.raw (.bool true))], []) := by
  obtain ⟨y0, _, rfl, h0, h⟩ := d5 h
  obtain ⟨y1, _, rfl, h1, h⟩ := d5 h
  obtain rfl := tT h
  obtain ⟨b0, rfl, hb0⟩ := CN h0
  obtain ⟨q1, rfl, hb1⟩ := ui h1
  have := A5 b0 hb0 q1 hb1 0
  simpa only [yW, mkA, G5, F9] using this
set_option maxRecDepth 100000 in
theorem jn (os : Os) (started : os.Started) (H : Type) (enc : TypeId × Value → H) :
    ReturnsInHanded {} Tryz.checked os 5 .any (Rows.auditRefusesSpec.pre6 enc Tryz.prog Tryz.f5 Rows.auditRefusesRow.domain false) (Rows.auditRefusesSpec.post enc Tryz.prog Tryz.f5 false true false false) := by
  refine returnsInHanded_of_change (C := Tryz.checked) Tryz.own started (by kernel_rfl) Tryz.func5
    (ChangeSpec.witness6 (enc := enc) (C := Tryz.checked) false ⟨#[], #[.int .u8 0, .slice none 0 0], []⟩ 8 (by kernel_rfl) (by kernel_rfl) (by kernel_rfl) (by kernel_rfl)) ?_
  intro W base args ds gs before hval hW _ _
  exact pD (E := EE 20) (wP Fo CQ 20) rfl (n := 8) (tb := 4) Tryz.laidOut (by rw [Tryz.params5]; intro t ht; simp at ht; rcases ht with rfl | rfl <;> exact ⟨by kernel_rfl, of_decide_eq_true (by kernel_rfl)⟩) (by rw [Tryz.params5]; kernel_rfl) rfl
    (fun ds hd => by rw [Tryz.params5] at hd; match ds, hd with | [d1, d2], _ => rfl) rfl Tryz.underlying4 (by rw [Tryz.params5]; exact sy) W (fun g cs h => by cases h) base args ds gs before hval hW
theorem auditRefuses_holds : Rows.AuditRefusesSaid :=
  OpenClaim.holds_of_wide 5 Tryz.f5 rfl rfl rfl rfl rfl rfl rfl ⟨rfl, rfl, rfl, rfl, rfl⟩ rfl rfl rfl rfl rfl (by kernel_rfl) Tryz.func5 (by kernel_rfl)
    (of_decide_eq_true (by kernel_rfl)) (by unfold Func.isWrapper; first | (rw [if_pos (by decide +kernel)]; kernel_rfl) | (rw [if_neg (by decide +kernel)]; exact ⟨rfl, rfl⟩))
    (fun os started H enc _ => jn os started H enc)
end Go.Proofs.YtafmihnhdodekaaGreat
