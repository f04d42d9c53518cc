/- Statements about masks (layer 3), over the table of math/bits that its own initialiser lays: each law's function returns true whatever it is handed, and leaves what it is handed as it was. -/
import Derived.Test.YtplmfdbiinjccaaDoorLi
import Derived.Test.YtplmfdbiinjccaaDoorLj
import Derived.Test.YtplmfdbiinjccaaDoorDmZ
import Derived.Test.YtplmfdbiinjccaaDoorCards
import Derived.Test.YtplmfdbiinjccaaDoorTie
import Derived.ProofKit
import Derived.OpenShut
import Derived.Deep.DeepHandedRow
import Derived.Lib.LaidTab
namespace Go.Proofs.YtplmfdbiinjccaaDoor
open Go.ChangeShapes Go.WideShapes Go.ChangeAt Go.RowKit Go.Dm

theorem agg3 : aggOf PP 3 = some false := by kernel_rfl
theorem agg22 : aggOf PP 22 = some false := by kernel_rfl
theorem agg30 : aggOf PP 30 = some false := by kernel_rfl
theorem agg33 : aggOf PP 33 = some false := by kernel_rfl
theorem cells3 : PP.cellsOf 3 = 1 := by kernel_rfl
theorem cells22 : PP.cellsOf 22 = 1 := by kernel_rfl
theorem typ_u32 {n : Nat} {xs : List C} (h : Typ PP (n + 1) 22 xs) : ∃ x : BitVec 32, xs = [w4 (mi x)] := by
  obtain ⟨i, rfl, hw⟩ := typ_int Tryd.underlying22 h
  obtain ⟨x, rfl⟩ := mi_of hw
  exact ⟨x, rfl⟩
theorem typ_i64 {n : Nat} {xs : List C} (h : Typ PP (n + 1) 3 xs) : ∃ i, xs = [ii i] ∧ -9223372036854775808 ≤ i ∧ i ≤ 9223372036854775807 := by
  obtain ⟨i, rfl, hw⟩ := typ_int Tryd.underlying3 h
  refine ⟨i, rfl, ?_⟩
  simpa [Lit.wf, IntKind.min, IntKind.max, IntKind.signed, IntKind.bits] using hw
theorem typ_is {n : Nat} {xs : List C} (h : Typ PP (n + 2) 30 xs) : ∃ l : List Int, xs = [.slice 1 (is l)] ∧ l.length < 9223372036854775808 := by
  obtain ⟨es, rfl, hlen, he⟩ := typ_slice Tryd.underlying30 h
  obtain ⟨l, rfl, _⟩ := list_typ (f := fun i => [ii i]) (Q := fun _ => True) (fun x hx => by obtain ⟨i, rfl, _⟩ := typ_i64 hx; exact ⟨i, rfl, trivial⟩) he
  refine ⟨l, by rw [cells3], ?_⟩
  unfold maxLen at hlen
  rw [List.length_map] at hlen
  omega
theorem typ_ms {n : Nat} {xs : List C} (h : Typ PP (n + 2) 33 xs) : ∃ l : List (BitVec 32), xs = [.slice 1 (ms l)] ∧ l.length < 9223372036854775808 := by
  obtain ⟨es, rfl, hlen, he⟩ := typ_slice Tryd.underlying33 h
  obtain ⟨l, rfl, _⟩ := list_typ (f := fun i => [w4 (mi i)]) (Q := fun _ => True) (fun x hx => by obtain ⟨i, rfl⟩ := typ_u32 hx; exact ⟨i, rfl, trivial⟩) he
  refine ⟨l, by rw [cells22], ?_⟩
  unfold maxLen at hlen
  rw [List.length_map] at hlen
  omega
theorem law_tells (xss : List (List C)) (h : All2 (Typ PP 8) [22, 3, 3] xss) : orac PP GL XX HH NN 9 3 (mkAs PP [22, 3, 3] xss) [] = some ([.c (.raw (.bool true))], []) := by
  obtain ⟨x, _, rfl, h1, h⟩ := all2_cons h
  obtain ⟨y, _, rfl, h2, h⟩ := all2_cons h
  obtain ⟨z, _, rfl, h3, h⟩ := all2_cons h
  obtain rfl := all2_nil h
  obtain ⟨m, rfl⟩ := typ_u32 h1
  obtain ⟨i, rfl, hi⟩ := typ_i64 h2
  obtain ⟨f, rfl, _⟩ := typ_i64 h3
  have := tells m i f hi 1
  rw [tells_true] at this
  simpa only [mkAs, mkA, agg22, agg3] using this
theorem law_makes (xss : List (List C)) (h : All2 (Typ PP 8) [22, 30, 33] xss) : orac PP GL XX HH NN 9 4 (mkAs PP [22, 30, 33] xss) [] = some ([.c (.raw (.bool true))], []) := by
  obtain ⟨x, _, rfl, h1, h⟩ := all2_cons h
  obtain ⟨y, _, rfl, h2, h⟩ := all2_cons h
  obtain ⟨z, _, rfl, h3, h⟩ := all2_cons h
  obtain rfl := all2_nil h
  obtain ⟨m, rfl⟩ := typ_u32 h1
  obtain ⟨l, rfl, hl⟩ := typ_is h2
  obtain ⟨n, rfl, hn⟩ := typ_ms h3
  have := makes m l n hl hn 1
  simpa only [mkAs, mkA, agg22, agg30, agg33] using this
theorem law_ones (xss : List (List C)) (h : All2 (Typ PP 8) [22, 22] xss) : orac PP GL XX HH NN 9 5 (mkAs PP [22, 22] xss) [] = some ([.c (.raw (.bool true))], []) := by
  obtain ⟨x, _, rfl, h1, h⟩ := all2_cons h
  obtain ⟨y, _, rfl, h2, h⟩ := all2_cons h
  obtain rfl := all2_nil h
  obtain ⟨m, rfl⟩ := typ_u32 h1
  obtain ⟨n, rfl⟩ := typ_u32 h2
  have := onesL m n 1
  rw [onesL_true] at this
  simpa only [mkAs, mkA, agg22] using this

theorem noNames : PP.funcs.toList.all (fun fn => !(fn.name == "runtime.NumGoroutine")) = true := by kernel_rfl
theorem noName : ∀ (f : FuncId) fn, PP.funcs[f]? = some fn → (fn.name == "runtime.NumGoroutine") = false := fun f fn h => by
  have hm : fn ∈ PP.funcs.toList := by
    obtain ⟨hf, rfl⟩ := Array.getElem?_eq_some_iff.1 h
    simp
  have := List.all_eq_true.1 noNames fn hm
  simpa using this
theorem own : ownKnob Tryd.prog.godebug = none := by kernel_rfl
theorem laidOut : laidOutB Tryd.prog = true := by kernel_rfl
theorem gTab : Tryd.prog.globalNamed "math/bits.deBruijn32tab" = some 0 := by kernel_rfl
theorem gTabType : (Tryd.prog.globals[0]?).map (·.type) = some 42 := by kernel_rfl
theorem cells42 : Tryd.prog.cellsOf 42 = 32 := by kernel_rfl
theorem cells5 : Tryd.prog.cellsOf 5 = 1 := by kernel_rfl
/-- What the rows' list gives: the table's cells hold its numbers. -/
theorem table {W : World} (h : laidMetH Tryd.prog Rows.maskTellsRow.laid W) : Lib.TabIs Tryd.prog W "math/bits.deBruijn32tab" .u8 [0, 1, 28, 2, 29, 14, 24, 3, 30, 22, 20, 15, 25, 17, 4, 8, 31, 27, 13, 23, 21, 19, 16, 7, 26, 12, 18, 6, 11, 5, 10, 9] :=
  Lib.tabIs_of_head (rest := []) gTab gTabType Tryd.underlying42 Tryd.underlying5 cells5 cells42 h
theorem globs {W : World} (h : laidMetH Tryd.prog Rows.maskTellsRow.laid W) : Globs GL (FrOf W) W := fun g cs hg => by
  unfold GL at hg
  split at hg
  · rename_i h0
    subst h0
    cases hg
    refine cellsAt_of fun i c hi => ?_
    rw [List.getElem?_map, Option.map_eq_some_iff] at hi
    obtain ⟨n, hn, rfl⟩ := hi
    have hlt : i < tab.length := (List.getElem?_eq_some_iff.1 hn).1
    have hc : W.cell? ⟨0, 0 + i, none⟩ = some (.int .u8 n) := by
      have := (table h).cell gTab i (by simpa [tab] using hlt)
      rw [Nat.zero_add, this]
      congr 2
      rw [List.getD_eq_getElem?_getD]
      show (tab[i]?).getD 0 = n
      rw [hn]; rfl
    exact ⟨World.block_lt_of_cell? W _ hc, _, hc, by simp [C.rep, Value.oneCell']⟩
  · cases hg
/-- A world for the witness. -/
noncomputable def laidWorld (os : Os) : World :=
  { World.holding Tryd.prog os ⟨#[], #[], []⟩ with heap := (World.holding Tryd.prog os ⟨#[], #[], []⟩).heap.modify 0 fun
      | .cells _ t frozen => .cells #[.int .u8 0, .int .u8 1, .int .u8 28, .int .u8 2, .int .u8 29, .int .u8 14, .int .u8 24, .int .u8 3, .int .u8 30, .int .u8 22, .int .u8 20, .int .u8 15, .int .u8 25, .int .u8 17, .int .u8 4, .int .u8 8, .int .u8 31, .int .u8 27, .int .u8 13, .int .u8 23, .int .u8 21, .int .u8 19, .int .u8 16, .int .u8 7, .int .u8 26, .int .u8 12, .int .u8 18, .int .u8 6, .int .u8 11, .int .u8 5, .int .u8 10, .int .u8 9] t frozen
      | o => o }

theorem maskTells_met (os : Os) : laidMet Tryd.prog Rows.maskTellsRow.laid ((laidWorld os).forCall (fun _ _ => 0) ⟨#[], #[.int .u32 0, .int .i64 0, .int .i64 0], []⟩).memory :=
  laidMet_of_run' 8 (by kernel_rfl) (by kernel_rfl)
theorem maskTells_reads (os : Os) {H : Type} (enc : TypeId × Value → H) : ∃ places, DataW.whole enc Tryd.prog ((laidWorld os).forCall (fun _ _ => 0) ⟨#[], #[.int .u32 0, .int .i64 0, .int .i64 0], []⟩).memory Tryd.f3.params.toList Rows.maskTellsSpec.vars false (#[.int .u32 0, .int .i64 0, .int .i64 0] : Array Value).toList 8 = some ([.lit (.int .u32 0), .lit (.int .i64 0), .lit (.int .i64 0)], [], places) :=
  ⟨[], by kernel_rfl⟩
set_option maxRecDepth 100000 in
theorem maskTells_lifted (os : Os) (started : os.Started) (H : Type) (enc : TypeId × Value → H) (F : Stop.Interp) :
    ReturnsInHanded {} Tryd.checked os 3 .any ((OpenSpec.ofChange Rows.maskTellsSpec).preRow enc Tryd.prog Tryd.f3 Rows.maskTellsRow.domain false Rows.maskTellsRow.laid) (((OpenSpec.ofChange Rows.maskTellsSpec).at F).post enc Tryd.prog Tryd.f3 false true false false) := by
  obtain ⟨places, hx⟩ := maskTells_reads os enc
  refine returnsInHanded_of_row (C := Tryd.checked) (s := OpenSpec.ofChange Rows.maskTellsSpec) own started (by kernel_rfl) Tryd.func3
    (witness_row_at (enc := enc) (C := Tryd.checked) false (laidWorld os) #[.int .u32 0, .int .i64 0, .int .i64 0] rfl (by kernel_rfl) (by kernel_rfl) (by kernel_rfl)
      (OpenSpec.preRow_of_cond 8 hx (by kernel_rfl) (fun k hk => by cases hk) (by kernel_rfl) (maskTells_met os))) ?_
  intro W base args ds gs before hval hW _ _ _ hL _ _
  exact law_contract (E := EE 9) (orac_ok (TabOk.nil _ _) noName 9) rfl (n := 8) (tb := 4) laidOut (by rw [Tryd.params3]; intro t ht; simp at ht; rcases ht with rfl | rfl | rfl <;> exact ⟨by kernel_rfl, of_decide_eq_true (by kernel_rfl)⟩) (by rw [Tryd.params3]; kernel_rfl) rfl
    (fun ds hd => by rw [Tryd.params3] at hd; match ds, hd with | [d1, d2, d3], _ => rfl) rfl Tryd.underlying4 (by rw [Tryd.params3]; exact law_tells) W (globs hL) base args ds gs before hval hW
theorem maskTells_said : Rows.MaskTellsSaid :=
  OpenClaim.holds_of_cond 3 Tryd.f3 rfl rfl rfl rfl rfl rfl rfl ⟨rfl, rfl, rfl, rfl, rfl⟩ rfl rfl rfl rfl rfl (by kernel_rfl) Tryd.func3 (by kernel_rfl)
    (of_decide_eq_true (by kernel_rfl)) (by unfold Func.isWrapper; first | (rw [if_pos (by decide +kernel)]; kernel_rfl) | (rw [if_neg (by decide +kernel)]; exact ⟨rfl, rfl⟩))
    (fun os started H enc _ F => by rw [OpenClaim.pre_eq_preRow]; exact maskTells_lifted os started H enc F)
theorem maskTells_plain (f : FuncId) (fn : Func) (hf : Tryd.pinned.checked.prog.funcNamed "gemination/geminationlaw03.MaskTells" = some f) (hfn : Tryd.pinned.checked.prog.funcs[f]? = some fn) :
    false = Tryd.pinned.checked.prog.looks [] ∧ ∀ (j : Nat) t, fn.params[j]? = some t → Tryd.pinned.checked.prog.wantsStandIn t = false := by
  obtain rfl : f = 3 := Option.some.inj ((show Tryd.prog.funcNamed "gemination/geminationlaw03.MaskTells" = some 3 by kernel_rfl).symm.trans hf) |>.symm
  obtain rfl : fn = Tryd.f3 := (Option.some.inj (Tryd.func3.symm.trans hfn)).symm
  refine ⟨by kernel_rfl, fun j t ht => ?_⟩
  rw [Tryd.params3] at ht
  have hall : ([22, 3, 3] : List TypeId).all (fun t => !(Tryd.prog.wantsStandIn t)) = true := by kernel_rfl
  have hm : t ∈ ([22, 3, 3] : List TypeId) := by simpa using Array.mem_of_getElem? ht
  have := List.all_eq_true.1 hall t hm
  have h2 : Tryd.prog.wantsStandIn t = false := by simpa using this
  exact h2
theorem maskTells_holds : Rows.MaskTellsCardSaid :=
  Claim7.holds_tied_plain_at .later [] _ _ _ _ maskTells_said (fun _ h => by cases h) (by kernel_rfl) (fun _ h => by cases h) maskTells_row_tie rfl ⟨rfl, rfl⟩ (by kernel_rfl) rfl maskTells_plain (by kernel_rfl)

theorem maskMakes_met (os : Os) : laidMet Tryd.prog Rows.maskMakesRow.laid ((laidWorld os).forCall (fun _ _ => 0) ⟨#[], #[.int .u32 0, .slice none 0 0, .slice none 0 0], []⟩).memory :=
  laidMet_of_run' 8 (by kernel_rfl) (by kernel_rfl)
theorem maskMakes_reads (os : Os) {H : Type} (enc : TypeId × Value → H) : ∃ places, DataW.whole enc Tryd.prog ((laidWorld os).forCall (fun _ _ => 0) ⟨#[], #[.int .u32 0, .slice none 0 0, .slice none 0 0], []⟩).memory Tryd.f4.params.toList Rows.maskMakesSpec.vars false (#[.int .u32 0, .slice none 0 0, .slice none 0 0] : Array Value).toList 8 = some ([.lit (.int .u32 0), .nil, .nil], [], places) :=
  ⟨[], by kernel_rfl⟩
set_option maxRecDepth 100000 in
theorem maskMakes_lifted (os : Os) (started : os.Started) (H : Type) (enc : TypeId × Value → H) (F : Stop.Interp) :
    ReturnsInHanded {} Tryd.checked os 4 .any ((OpenSpec.ofChange Rows.maskMakesSpec).preRow enc Tryd.prog Tryd.f4 Rows.maskMakesRow.domain false Rows.maskMakesRow.laid) (((OpenSpec.ofChange Rows.maskMakesSpec).at F).post enc Tryd.prog Tryd.f4 false true false false) := by
  obtain ⟨places, hx⟩ := maskMakes_reads os enc
  refine returnsInHanded_of_row (C := Tryd.checked) (s := OpenSpec.ofChange Rows.maskMakesSpec) own started (by kernel_rfl) Tryd.func4
    (witness_row_at (enc := enc) (C := Tryd.checked) false (laidWorld os) #[.int .u32 0, .slice none 0 0, .slice none 0 0] rfl (by kernel_rfl) (by kernel_rfl) (by kernel_rfl)
      (OpenSpec.preRow_of_cond 8 hx (by kernel_rfl) (fun k hk => by cases hk) (by kernel_rfl) (maskMakes_met os))) ?_
  intro W base args ds gs before hval hW _ _ _ hL _ _
  exact law_contract (E := EE 9) (orac_ok (TabOk.nil _ _) noName 9) rfl (n := 8) (tb := 4) laidOut (by rw [Tryd.params4]; intro t ht; simp at ht; rcases ht with rfl | rfl | rfl <;> exact ⟨by kernel_rfl, of_decide_eq_true (by kernel_rfl)⟩) (by rw [Tryd.params4]; kernel_rfl) rfl
    (fun ds hd => by rw [Tryd.params4] at hd; match ds, hd with | [d1, d2, d3], _ => rfl) rfl Tryd.underlying4 (by rw [Tryd.params4]; exact law_makes) W (globs hL) base args ds gs before hval hW
theorem maskMakes_said : Rows.MaskMakesSaid :=
  OpenClaim.holds_of_cond 4 Tryd.f4 rfl rfl rfl rfl rfl rfl rfl ⟨rfl, rfl, rfl, rfl, rfl⟩ rfl rfl rfl rfl rfl (by kernel_rfl) Tryd.func4 (by kernel_rfl)
    (of_decide_eq_true (by kernel_rfl)) (by unfold Func.isWrapper; first | (rw [if_pos (by decide +kernel)]; kernel_rfl) | (rw [if_neg (by decide +kernel)]; exact ⟨rfl, rfl⟩))
    (fun os started H enc _ F => by rw [OpenClaim.pre_eq_preRow]; exact maskMakes_lifted os started H enc F)
theorem maskMakes_plain (f : FuncId) (fn : Func) (hf : Tryd.pinned.checked.prog.funcNamed "gemination/geminationlaw03.MaskMakes" = some f) (hfn : Tryd.pinned.checked.prog.funcs[f]? = some fn) :
    false = Tryd.pinned.checked.prog.looks [] ∧ ∀ (j : Nat) t, fn.params[j]? = some t → Tryd.pinned.checked.prog.wantsStandIn t = false := by
  obtain rfl : f = 4 := Option.some.inj ((show Tryd.prog.funcNamed "gemination/geminationlaw03.MaskMakes" = some 4 by kernel_rfl).symm.trans hf) |>.symm
  obtain rfl : fn = Tryd.f4 := (Option.some.inj (Tryd.func4.symm.trans hfn)).symm
  refine ⟨by kernel_rfl, fun j t ht => ?_⟩
  rw [Tryd.params4] at ht
  have hall : ([22, 30, 33] : List TypeId).all (fun t => !(Tryd.prog.wantsStandIn t)) = true := by kernel_rfl
  have hm : t ∈ ([22, 30, 33] : List TypeId) := by simpa using Array.mem_of_getElem? ht
  have := List.all_eq_true.1 hall t hm
  have h2 : Tryd.prog.wantsStandIn t = false := by simpa using this
  exact h2
theorem maskMakes_holds : Rows.MaskMakesCardSaid :=
  Claim7.holds_tied_plain_at .later [] _ _ _ _ maskMakes_said (fun _ h => by cases h) (by kernel_rfl) (fun _ h => by cases h) maskMakes_row_tie rfl ⟨rfl, rfl⟩ (by kernel_rfl) rfl maskMakes_plain (by kernel_rfl)

theorem maskOnes_met (os : Os) : laidMet Tryd.prog Rows.maskOnesRow.laid ((laidWorld os).forCall (fun _ _ => 0) ⟨#[], #[.int .u32 0, .int .u32 0], []⟩).memory :=
  laidMet_of_run' 8 (by kernel_rfl) (by kernel_rfl)
theorem maskOnes_reads (os : Os) {H : Type} (enc : TypeId × Value → H) : ∃ places, DataW.whole enc Tryd.prog ((laidWorld os).forCall (fun _ _ => 0) ⟨#[], #[.int .u32 0, .int .u32 0], []⟩).memory Tryd.f5.params.toList Rows.maskOnesSpec.vars false (#[.int .u32 0, .int .u32 0] : Array Value).toList 8 = some ([.lit (.int .u32 0), .lit (.int .u32 0)], [], places) :=
  ⟨[], by kernel_rfl⟩
set_option maxRecDepth 100000 in
theorem maskOnes_lifted (os : Os) (started : os.Started) (H : Type) (enc : TypeId × Value → H) (F : Stop.Interp) :
    ReturnsInHanded {} Tryd.checked os 5 .any ((OpenSpec.ofChange Rows.maskOnesSpec).preRow enc Tryd.prog Tryd.f5 Rows.maskOnesRow.domain false Rows.maskOnesRow.laid) (((OpenSpec.ofChange Rows.maskOnesSpec).at F).post enc Tryd.prog Tryd.f5 false true false false) := by
  obtain ⟨places, hx⟩ := maskOnes_reads os enc
  refine returnsInHanded_of_row (C := Tryd.checked) (s := OpenSpec.ofChange Rows.maskOnesSpec) own started (by kernel_rfl) Tryd.func5
    (witness_row_at (enc := enc) (C := Tryd.checked) false (laidWorld os) #[.int .u32 0, .int .u32 0] rfl (by kernel_rfl) (by kernel_rfl) (by kernel_rfl)
      (OpenSpec.preRow_of_cond 8 hx (by kernel_rfl) (fun k hk => by cases hk) (by kernel_rfl) (maskOnes_met os))) ?_
  intro W base args ds gs before hval hW _ _ _ hL _ _
  exact law_contract (E := EE 9) (orac_ok (TabOk.nil _ _) noName 9) rfl (n := 8) (tb := 4) laidOut (by rw [Tryd.params5]; intro t ht; simp at ht; rcases ht with rfl | rfl <;> exact ⟨by kernel_rfl, of_decide_eq_true (by kernel_rfl)⟩) (by rw [Tryd.params5]; kernel_rfl) rfl
    (fun ds hd => by rw [Tryd.params5] at hd; match ds, hd with | [d1, d2], _ => rfl) rfl Tryd.underlying4 (by rw [Tryd.params5]; exact law_ones) W (globs hL) base args ds gs before hval hW
theorem maskOnes_said : Rows.MaskOnesSaid :=
  OpenClaim.holds_of_cond 5 Tryd.f5 rfl rfl rfl rfl rfl rfl rfl ⟨rfl, rfl, rfl, rfl, rfl⟩ rfl rfl rfl rfl rfl (by kernel_rfl) Tryd.func5 (by kernel_rfl)
    (of_decide_eq_true (by kernel_rfl)) (by unfold Func.isWrapper; first | (rw [if_pos (by decide +kernel)]; kernel_rfl) | (rw [if_neg (by decide +kernel)]; exact ⟨rfl, rfl⟩))
    (fun os started H enc _ F => by rw [OpenClaim.pre_eq_preRow]; exact maskOnes_lifted os started H enc F)
theorem maskOnes_plain (f : FuncId) (fn : Func) (hf : Tryd.pinned.checked.prog.funcNamed "gemination/geminationlaw03.MaskOnes" = some f) (hfn : Tryd.pinned.checked.prog.funcs[f]? = some fn) :
    false = Tryd.pinned.checked.prog.looks [] ∧ ∀ (j : Nat) t, fn.params[j]? = some t → Tryd.pinned.checked.prog.wantsStandIn t = false := by
  obtain rfl : f = 5 := Option.some.inj ((show Tryd.prog.funcNamed "gemination/geminationlaw03.MaskOnes" = some 5 by kernel_rfl).symm.trans hf) |>.symm
  obtain rfl : fn = Tryd.f5 := (Option.some.inj (Tryd.func5.symm.trans hfn)).symm
  refine ⟨by kernel_rfl, fun j t ht => ?_⟩
  rw [Tryd.params5] at ht
  have hall : ([22, 22] : List TypeId).all (fun t => !(Tryd.prog.wantsStandIn t)) = true := by kernel_rfl
  have hm : t ∈ ([22, 22] : List TypeId) := by simpa using Array.mem_of_getElem? ht
  have := List.all_eq_true.1 hall t hm
  have h2 : Tryd.prog.wantsStandIn t = false := by simpa using this
  exact h2
theorem maskOnes_holds : Rows.MaskOnesCardSaid :=
  Claim7.holds_tied_plain_at .later [] _ _ _ _ maskOnes_said (fun _ h => by cases h) (by kernel_rfl) (fun _ h => by cases h) maskOnes_row_tie rfl ⟨rfl, rfl⟩ (by kernel_rfl) rfl maskOnes_plain (by kernel_rfl)
end Go.Proofs.YtplmfdbiinjccaaDoor
