/- Statements about audits (layer 24): each law's function returns true whatever it is handed, and leaves what it is handed as it was. -/
import Derived.Test.YtafmihnhdodekaaGreatRows
import Derived.Test.YtafmihnhdodekaaGreatFaL2
namespace Go.Proofs.YtafmihnhdodekaaGreat
open Go.ChangeShapes Go.WideShapes Go.ChangeAt Go.RowKit Go.Dm
set_option maxRecDepth 100000
theorem Fg : gG PP 5 = some false := by kernel_rfl
theorem DZ : gG PP 22 = some false := by kernel_rfl
theorem AC : PP.cellsOf 69 = 7 := by kernel_rfl
theorem Cy : PP.cellsOf 4 = 1 := by kernel_rfl
theorem CA {n : Nat} {xs : List C} (h : Typ PP (n + 1) 5 xs) : ∃ i, xs = [by8 i] ∧ 0 ≤ i := by
  obtain ⟨i, rfl, hw⟩ := qU Tryz.underlying5 h
  refine ⟨i, rfl, ?_⟩
  have : 0 ≤ i ∧ i ≤ 255 := by simpa [Lit.wf, IntKind.min, IntKind.max, IntKind.signed, IntKind.bits] using hw
  exact this.1
theorem ov {n : Nat} {xs : List C} (h : Typ PP (n + 1) 3 xs) : ∃ i, xs = [ii i] := by
  obtain ⟨i, rfl, _⟩ := qU Tryz.underlying3 h
  exact ⟨i, rfl⟩
theorem AE {n : Nat} {xs : List C} (h : Typ PP (n + 1) 29 xs) : ∃ i, xs = [u i] ∧ R64 i := by
  obtain ⟨i, rfl, hw⟩ := qU Tryz.underlying29 h
  refine ⟨i, rfl, ?_⟩
  have : 0 ≤ i ∧ i ≤ 18446744073709551615 := by simpa [Lit.wf, IntKind.min, IntKind.max, IntKind.signed, IntKind.bits] using hw
  unfold R64
  omega
theorem wm {n : Nat} {xs : List C} (h : Typ PP (n + 2) 67 xs) : ∃ l : List Bool, xs = [.slice 1 (l.map eB)] := by
  obtain ⟨es, rfl, hlen, he⟩ := qo Tryz.underlying67 h
  obtain ⟨l, rfl, _⟩ := nK (f := eB) (Q := fun _ => True) (fun x hx => by obtain ⟨s, rfl⟩ := xU Tryz.underlying4 hx; exact ⟨s, rfl, trivial⟩) he
  exact ⟨l, by rw [Cy]⟩
theorem u5 {n : Nat} {xs : List C} (h : Typ PP (n + 3) 69 xs) : ∃ e : Evt, xs = e.cs ∧ R64 e.n := by
  obtain ⟨ps, rfl, h1⟩ := ub Tryz.underlying69 h
  obtain ⟨x1, _, rfl, g1, h2⟩ := dT h1
  obtain ⟨x2, _, rfl, g2, h3⟩ := dT h2
  obtain ⟨x3, _, rfl, g3, h4⟩ := dT h3
  obtain ⟨x4, _, rfl, g4, h5⟩ := dT h4
  obtain ⟨x5, _, rfl, g5, h6⟩ := dT h5
  obtain ⟨x6, _, rfl, g6, h7⟩ := dT h6
  obtain ⟨x7, _, rfl, g7, h8⟩ := dT h7
  obtain rfl := sy h8
  obtain ⟨a, rfl⟩ := ov g1
  obtain ⟨b, rfl⟩ := ov g2
  obtain ⟨c, rfl⟩ := ov g3
  obtain ⟨d, rfl⟩ := ov g4
  obtain ⟨e, rfl, _⟩ := uq Tryz.underlying9 g5
  obtain ⟨f, rfl, hf⟩ := AE g6
  obtain ⟨g, rfl⟩ := wm g7
  exact ⟨⟨a, b, c, d, e, f, g⟩, rfl, hf⟩
theorem tG {n : Nat} {xs : List C} (h : Typ PP (n + 4) 22 xs) : ∃ l : List Evt, xs = [.slice 7 (l.map Evt.cs)] ∧ ∀ e ∈ l, R64 e.n := by
  obtain ⟨es, rfl, hlen, he⟩ := qo Tryz.underlying22 h
  obtain ⟨l, rfl, hq⟩ := nK (f := Evt.cs) (Q := fun e => R64 e.n) (fun x hx => by obtain ⟨e, rfl, hr⟩ := u5 hx; exact ⟨e, rfl, hr⟩) he
  exact ⟨l, by rw [AC], hq⟩
theorem AS : PP.funcs.toList.all (fun fn => !(fn.name == "runtime.NumGoroutine")) = true := by kernel_rfl
theorem Cr : ∀ (f : FuncId) fn, PP.funcs[f]? = some fn → (fn.name == "runtime.NumGoroutine") = false := fun f fn h => by
  have hm : fn ∈ PP.funcs.toList := by
    obtain ⟨hf, rfl⟩ := Array.getElem?_eq_some_iff.1 h
    simp
  have := List.all_eq_true.1 AS fn hm
  simpa using this
theorem Tryz.own : ownKnob Tryz.prog.godebug = none := by kernel_rfl
theorem Tryz.laidOut : laidOutB Tryz.prog = true := by kernel_rfl
theorem yc (xss : List (List C)) (h : bp (Typ PP 8) [5, 22] xss) : ak PP GL XX HH NN 20 4 (yu PP [5, 22] xss) [] = some ([.c (.raw (.bool true))], []) := by
  obtain ⟨y0, _, rfl, h0, h⟩ := dT h
  obtain ⟨y1, _, rfl, h1, h⟩ := dT h
  obtain rfl := sy h
  obtain ⟨b0, rfl, hb0⟩ := CA h0
  obtain ⟨q1, rfl, hb1⟩ := tG h1
  have := Dr b0 hb0 q1 hb1 0
  simpa only [yu, mkA, Fg, DZ] using this
set_option maxRecDepth 100000 in
theorem kU (os : Os) (started : os.Started) (H : Type) (enc : TypeId × Value → H) :
    ReturnsInHanded {} Tryz.checked os 4 .any (Rows.auditFairSpec.pre6 enc Tryz.prog Tryz.f4 Rows.auditFairRow.domain false) (Rows.auditFairSpec.post enc Tryz.prog Tryz.f4 false true false false) := by
  refine returnsInHanded_of_change (C := Tryz.checked) Tryz.own started (by kernel_rfl) Tryz.func4
    (ChangeSpec.witness6 (enc := enc) (C := Tryz.checked) false ⟨#[], #[.int .u8 0, .slice none 0 0], []⟩ 8 (by kernel_rfl) (by kernel_rfl) (by kernel_rfl) (by kernel_rfl)) ?_
  intro W base args ds gs before hval hW _ _
  exact pv (E := EE 20) (vk D8 Cr 20) rfl (n := 8) (tb := 4) Tryz.laidOut (by rw [Tryz.params4]; intro t ht; simp at ht; rcases ht with rfl | rfl <;> exact ⟨by kernel_rfl, of_decide_eq_true (by kernel_rfl)⟩) (by rw [Tryz.params4]; kernel_rfl) rfl
    (fun ds hd => by rw [Tryz.params4] at hd; match ds, hd with | [d1, d2], _ => rfl) rfl Tryz.underlying4 (by rw [Tryz.params4]; exact yc) W (fun g cs h => by cases h) base args ds gs before hval hW
theorem auditFair_holds : Rows.AuditFairSaid :=
  OpenClaim.holds_of_wide 4 Tryz.f4 rfl rfl rfl rfl rfl rfl rfl ⟨rfl, rfl, rfl, rfl, rfl⟩ rfl rfl rfl rfl rfl (by kernel_rfl) Tryz.func4 (by kernel_rfl)
    (of_decide_eq_true (by kernel_rfl)) (by unfold Func.isWrapper; first | (rw [if_pos (by decide +kernel)]; kernel_rfl) | (rw [if_neg (by decide +kernel)]; exact ⟨rfl, rfl⟩))
    (fun os started H enc _ => kU os started H enc)
end Go.Proofs.YtafmihnhdodekaaGreat
