/-
  A part of the proofs over this seat: what its functions make of data (the file in which the theorems stand says what is proved).
-/
import Derived.RangeFuncWrites
import Derived.RangeFuncBox
import Derived.RangeFuncLeaves
import Derived.Shelf.Abstract
import Derived.WalkKit
import Derived.OwnWalkIn
import Derived.TacticsInMore
import Derived.LoopNIn
import Derived.LoopIn
import Derived.Maps.OwnIn
import Derived.MapKept
import Derived.Test.YtigkecdnnkgghaaLh
namespace Go.Proofs
open Go.RowKit Go.Shelf Go.Dm
attribute [local go_sem] Oper.semAt_some

/-- A map from generations to generations stands in block b. -/
def MapIs (W : World) (b : Nat) (m : List (Int × Int)) : Prop := ∃ es clock, W.heap[b]? = some (.map es clock) ∧ es.toList.map (fun e => (e.key, e.val)) = encM m

theorem MapIs.made (w : World) : MapIs (w.alloc (.map #[] 0)) w.heap.size [] := ⟨#[], 0, World.alloc_heap_new w _, rfl⟩
theorem MapIs.kept {w w' : World} {row : Option Nat} {b : Nat} {m : List (Int × Int)} (h : MapIs w b m) (hg : w.grownBy w' row) (hne : some b ≠ row) : MapIs w' b m := by
  obtain ⟨es, c, h1, h2⟩ := h
  exact ⟨es, c, (hg.block b (Array.getElem?_eq_some_iff.1 h1).1 hne).trans h1, h2⟩
theorem MapIs.alloc {w : World} {b : Nat} {m : List (Int × Int)} (h : MapIs w b m) (o : Obj) : MapIs (w.alloc o) b m := h.kept (World.grownBy_alloc w o none) (by simp)

theorem find_upd (g p : Int) : ∀ (es : List MapEntry) (m : List (Int × Int)) (i : Nat), es.map (fun e => (e.key, e.val)) = encM m →
    (Instr.findNow (.int .u64) (.int .u64 g) es i = some none ∧ upd g p m = m ++ [(g, p)]) ∨
    (∃ j e, Instr.findNow (.int .u64) (.int .u64 g) es i = some (some (i + j, e.val)) ∧ es[j]? = some e ∧ e.key = .int .u64 g ∧ encM (upd g p m) = (es.modify j fun e => { e with key := .int .u64 g, val := .int .u64 p }).map (fun e => (e.key, e.val)))
  | [], m, i, h => by
    cases m with
    | nil => exact .inl ⟨rfl, rfl⟩
    | cons _ _ => simp [encM] at h
  | e :: es, m, i, h => by
    cases m with
    | nil => simp [encM] at h
    | cons x m =>
      obtain ⟨a, b⟩ := x
      simp only [List.map_cons, List.cons.injEq, Prod.mk.injEq, encM] at h
      obtain ⟨⟨h1, h2⟩, h3⟩ := h
      have hs : Instr.sameNow (.int .u64) (.int .u64 g) e.key = some (g == a) := by rw [h1]; simp [Instr.sameNow]
      cases hga : g == a with
      | true =>
        obtain rfl := eq_of_beq hga
        refine .inr ⟨0, e, by simp [Instr.findNow, hs], rfl, h1, ?_⟩
        simp [upd, encM]
        exact h3.symm
      | false =>
        rw [hga] at hs
        rcases find_upd g p es m (i + 1) h3 with ⟨h4, h5⟩ | ⟨j, e', h4, h5, h6, h7⟩
        · exact .inl ⟨by simp [Instr.findNow, hs, h4], by simp [upd, hga, h5]⟩
        · refine .inr ⟨j + 1, e', by simp [Instr.findNow, hs, h4]; omega, by simpa using h5, h6, ?_⟩
          simp only [upd, hga, Bool.false_eq_true, if_false, encM, List.map_cons, List.modify_succ_cons, h1, h2]
          simp only [encM] at h7
          rw [h7]

theorem MapIs.update {P : Program} {t k e : TypeId} {w : World} {b : Nat} {m : List (Int × Int)} (h : MapIs w b m) (ht : P.underlying t = some (.map k e)) (hk : P.underlying k = some (.int .u64)) (g p : Int) :
    ∃ w', (Instr.mapUpdate t (.map (some b)) (.int .u64 g) (.int .u64 p)).run P w = .ok () w' ∧ MapIs w' b (upd g p m) ∧ w.grownBy w' (some b) := by
  obtain ⟨es, clock, hb, he⟩ := h
  have hck := MapKept.run_checkKey (P := P) (w := w) (kt := k) (d := .int .u64) (k := .int .u64 g) hk rfl false 9999
  rcases find_upd g p es.toList m 0 he with ⟨h1, h2⟩ | ⟨j, x, h1, h2, h3, h4⟩
  · refine ⟨{ w with heap := w.heap.setIfInBounds b (.map (es.push { key := .int .u64 g, val := .int .u64 p, born := clock }) (clock + 1)) }, ?_, ⟨_, _, (MapKept.heap_set hb).1, ?_⟩, ⟨rfl, rfl, rfl, by simp, fun i _ hi => (MapKept.heap_set hb).2 i (fun e => hi (by rw [e]))⟩⟩
    · simp [Instr.mapUpdate, run_underlying ht, MapKept.run_getObj_map hb, hck, MapKept.run_findKey hk h1, MapKept.run_setObj_map _ hb, Result.andThen]
    rw [h2]
    simp [encM] at he ⊢
    rw [he]
  · have hj : es[j]? = some x := by simpa using h2
    have hst := MapKept.run_keyThatStays (P := P) (w := w) (d := .int .u64) (k := .int .u64 g) rfl
    rw [Nat.zero_add] at h1
    refine ⟨{ w with heap := w.heap.setIfInBounds b (.map (es.modify j fun e => { e with key := .int .u64 g, val := .int .u64 p }) clock) }, ?_, ⟨_, _, (MapKept.heap_set hb).1, ?_⟩, ⟨rfl, rfl, rfl, by simp, fun i _ hi => (MapKept.heap_set hb).2 i (fun e => hi (by rw [e]))⟩⟩
    · simp [Instr.mapUpdate, run_underlying ht, MapKept.run_getObj_map hb, hck, MapKept.run_findKey hk h1, hj, h3, hst, MapKept.run_setObj_map _ hb, Result.andThen]
    rw [h4, Array.toList_modify]

theorem wpListIn_mapUpdate_is {F : Fence} {nF : Nat} {P : Program} (w : World) {ops : Array Oper} {rest : List Oper} {o : Oper} {a : Act} {Q : Exit → Act → World → Prop}
    (hg : o.guard = none) (m x v : Operand) (t : TypeId) (hop : o.op = Op.mapUpdate t m x v)
    (k e : TypeId) (ht : P.underlying t = some (.map k e)) (hk : P.underlying k = some (.int .u64)) (b : Nat) (D : List (Int × Int))
    (hm : a.eval m = .map (some b)) (hown : MapIs w b D) (g p : Int) (hx : a.eval x = .int .u64 g) (hv : a.eval v = .int .u64 p)
    (hK : ∀ w', MapIs w' b (upd g p D) → w.grownBy w' (some b) → wpListIn F nF P ops Q rest (a.put o.dst undef) w') :
    wpListIn F nF P ops Q (o :: rest) a w := by
  refine wpListIn_plain hg fun K' hK' => ?_
  obtain ⟨w', hrun, r1, r2⟩ := hown.update ht hk g p
  unfold Oper.wpIn
  refine ⟨by simp [Oper.about, hop], ?_⟩
  rw [Oper.semAt_plain F _ _ (by rw [hop]; intro c hc'; cases hc')]
  simp [execOp, hop, hm, hx, hv, hrun, Result.andThen]
  exact hK' _ _ (hK w' r1 r2)
end Go.Proofs
