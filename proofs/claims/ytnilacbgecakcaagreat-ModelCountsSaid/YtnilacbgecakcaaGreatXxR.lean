/- Statements about models (layer 25): each law's function returns true whatever it is handed, and leaves what it is handed as it was. -/
import Derived.Test.YtnilacbgecakcaaGreatRows
import Derived.Test.YtnilacbgecakcaaGreatXxL2
namespace Go.Proofs.YtnilacbgecakcaaGreat
open Go.ChangeShapes Go.WideShapes Go.ChangeAt Go.RowKit Go.Dm
set_option maxRecDepth 100000
theorem G8 : fY PP 5 = some false := by kernel_rfl
theorem Gy : fY PP 22 = some false := by kernel_rfl
theorem A2 : PP.cellsOf 69 = 7 := by kernel_rfl
theorem CO : PP.cellsOf 4 = 1 := by kernel_rfl
theorem CZ {n : Nat} {xs : List C} (h : Typ PP (n + 1) 5 xs) : ∃ i, xs = [by8 i] ∧ 0 ≤ i := by
  obtain ⟨i, rfl, hw⟩ := qD Tryz.underlying5 h
  refine ⟨i, rfl, ?_⟩
  have : 0 ≤ i ∧ i ≤ 255 := by simpa [Lit.wf, IntKind.min, IntKind.max, IntKind.signed, IntKind.bits] using hw
  exact this.1
theorem nD {n : Nat} {xs : List C} (h : Typ PP (n + 1) 3 xs) : ∃ i, xs = [ii i] := by
  obtain ⟨i, rfl, _⟩ := qD Tryz.underlying3 h
  exact ⟨i, rfl⟩
theorem Bl {n : Nat} {xs : List C} (h : Typ PP (n + 1) 30 xs) : ∃ i, xs = [u i] ∧ R64 i := by
  obtain ⟨i, rfl, hw⟩ := qD Tryz.underlying30 h
  refine ⟨i, rfl, ?_⟩
  have : 0 ≤ i ∧ i ≤ 18446744073709551615 := by simpa [Lit.wf, IntKind.min, IntKind.max, IntKind.signed, IntKind.bits] using hw
  unfold R64
  omega
theorem u4 {n : Nat} {xs : List C} (h : Typ PP (n + 2) 67 xs) : ∃ l : List Bool, xs = [.slice 1 (l.map eB)] := by
  obtain ⟨es, rfl, hlen, he⟩ := pY Tryz.underlying67 h
  obtain ⟨l, rfl, _⟩ := oJ (f := eB) (Q := fun _ => True) (fun x hx => by obtain ⟨s, rfl⟩ := za Tryz.underlying4 hx; exact ⟨s, rfl, trivial⟩) he
  exact ⟨l, by rw [CO]⟩
theorem wJ {n : Nat} {xs : List C} (h : Typ PP (n + 3) 69 xs) : ∃ e : Evt, xs = e.cs ∧ R64 e.n := by
  obtain ⟨ps, rfl, h1⟩ := tA Tryz.underlying69 h
  obtain ⟨x1, _, rfl, g1, h2⟩ := du h1
  obtain ⟨x2, _, rfl, g2, h3⟩ := du h2
  obtain ⟨x3, _, rfl, g3, h4⟩ := du h3
  obtain ⟨x4, _, rfl, g4, h5⟩ := du h4
  obtain ⟨x5, _, rfl, g5, h6⟩ := du h5
  obtain ⟨x6, _, rfl, g6, h7⟩ := du h6
  obtain ⟨x7, _, rfl, g7, h8⟩ := du h7
  obtain rfl := sZ h8
  obtain ⟨a, rfl⟩ := nD g1
  obtain ⟨b, rfl⟩ := nD g2
  obtain ⟨c, rfl⟩ := nD g3
  obtain ⟨d, rfl⟩ := nD g4
  obtain ⟨e, rfl, _⟩ := tg Tryz.underlying9 g5
  obtain ⟨f, rfl, hf⟩ := Bl g6
  obtain ⟨g, rfl⟩ := u4 g7
  exact ⟨⟨a, b, c, d, e, f, g⟩, rfl, hf⟩
theorem t9 {n : Nat} {xs : List C} (h : Typ PP (n + 4) 22 xs) : ∃ l : List Evt, xs = [.slice 7 (l.map Evt.cs)] ∧ ∀ e ∈ l, R64 e.n := by
  obtain ⟨es, rfl, hlen, he⟩ := pY Tryz.underlying22 h
  obtain ⟨l, rfl, hq⟩ := oJ (f := Evt.cs) (Q := fun e => R64 e.n) (fun x hx => by obtain ⟨e, rfl, hr⟩ := wJ hx; exact ⟨e, rfl, hr⟩) he
  exact ⟨l, by rw [A2], hq⟩
theorem Bg : PP.funcs.toList.all (fun fn => !(fn.name == "runtime.NumGoroutine")) = true := by kernel_rfl
theorem DO : ∀ (f : FuncId) fn, PP.funcs[f]? = some fn → (fn.name == "runtime.NumGoroutine") = false := fun f fn h => by
  have hm : fn ∈ PP.funcs.toList := by
    obtain ⟨hf, rfl⟩ := Array.getElem?_eq_some_iff.1 h
    simp
  have := List.all_eq_true.1 Bg fn hm
  simpa using this
set_option maxHeartbeats 0 in
theorem Cn : ∀ (f : FuncId) (sz : Nat), B1 HH f = some sz → Go.Dm.Enters PP f ∧ j5 PP f sz := fun f sz h => by
  have e : B1 HH f = (match (HC f).forget with | [sz] => some sz | _ => none) := rfl
  rw [e] at h
  unfold HC at h
  split at h
  · rename_i s hs
    split at hs
    · cases hs; cases h; exact tr
    · cases hs; cases h; exact ux
    · cases hs; cases h; exact tP
    · cases hs
  · cases h
theorem Tryz.own : ownKnob Tryz.prog.godebug = none := by kernel_rfl
theorem Tryz.laidOut : laidOutB Tryz.prog = true := by kernel_rfl
theorem uf (xss : List (List C)) (h : aJ (Typ PP 8) [5, 22] xss) : ag PP GL XX HH NN 20 4 (xT PP [5, 22] xss) [] = some ([.c (.raw (.bool true))], []) := by
  obtain ⟨y0, _, rfl, h0, h⟩ := du h
  obtain ⟨y1, _, rfl, h1, h⟩ := du h
  obtain rfl := sZ h
  obtain ⟨b0, rfl, hb0⟩ := CZ h0
  obtain ⟨q1, rfl, hb1⟩ := t9 h1
  have := CE b0 hb0 q1 0
  simpa only [xT, mkA, G8, Gy] using this
set_option maxRecDepth 100000 in
theorem jc (os : Os) (started : os.Started) (H : Type) (enc : TypeId × Value → H) :
    ReturnsInHanded {} Tryz.checked os 4 .any (Rows.modelCountsSpec.pre6 enc Tryz.prog Tryz.f4 Rows.modelCountsRow.domain false) (Rows.modelCountsSpec.post enc Tryz.prog Tryz.f4 false true false false) := by
  refine returnsInHanded_of_change (C := Tryz.checked) Tryz.own started (by kernel_rfl) Tryz.func4
    (ChangeSpec.witness6 (enc := enc) (C := Tryz.checked) false ⟨#[], #[.int .u8 0, .slice none 0 0], []⟩ 8 (by kernel_rfl) (by kernel_rfl) (by kernel_rfl) (by kernel_rfl)) ?_
  intro W base args ds gs before hval hW _ _
  exact qn (E := EE 20) (u5 EV Cn DO 20) rfl (n := 8) (tb := 4) Tryz.laidOut (by rw [Tryz.params4]; intro t ht; simp at ht; rcases ht with rfl | rfl <;> exact ⟨by kernel_rfl, of_decide_eq_true (by kernel_rfl)⟩) (by rw [Tryz.params4]; kernel_rfl) rfl
    (fun ds hd => by rw [Tryz.params4] at hd; match ds, hd with | [d1, d2], _ => rfl) rfl Tryz.underlying4 (by rw [Tryz.params4]; exact uf) W (fun g cs h => by cases h) base args ds gs before hval hW
theorem modelCounts_holds : Rows.ModelCountsSaid :=
  OpenClaim.holds_of_wide 4 Tryz.f4 rfl rfl rfl rfl rfl rfl rfl ⟨rfl, rfl, rfl, rfl, rfl⟩ rfl rfl rfl rfl rfl (by kernel_rfl) Tryz.func4 (by kernel_rfl)
    (of_decide_eq_true (by kernel_rfl)) (by unfold Func.isWrapper; first | (rw [if_pos (by decide +kernel)]; kernel_rfl) | (rw [if_neg (by decide +kernel)]; exact ⟨rfl, rfl⟩))
    (fun os started H enc _ => jc os started H enc)
end Go.Proofs.YtnilacbgecakcaaGreat
