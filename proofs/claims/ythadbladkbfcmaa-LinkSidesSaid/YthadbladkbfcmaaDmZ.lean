/-
  The data machine, part Z: data of a type, opened.
-/
import Derived.Test.YthadbladkbfcmaaDmY
namespace Go.Dm
open Go.RowKit

theorem typ_bool {P : Program} {n : Nat} {t : TypeId} {xs : List C} (hu : P.underlying t = some .bool) (h : Typ P (n + 1) t xs) : ∃ b, xs = [.raw (.bool b)] := by simpa only [Typ, hu] using h
theorem typ_int {P : Program} {n : Nat} {t : TypeId} {xs : List C} {k : IntKind} (hu : P.underlying t = some (.int k)) (h : Typ P (n + 1) t xs) : ∃ i, xs = [.raw (.int k i)] ∧ (Lit.int k i).wf = true := by simpa only [Typ, hu] using h
theorem typ_string {P : Program} {n : Nat} {t : TypeId} {xs : List C} (hu : P.underlying t = some .string) (h : Typ P (n + 1) t xs) : ∃ s : ByteArray, xs = [.raw (.string s)] ∧ s.size ≤ maxLen := by simpa only [Typ, hu] using h
theorem typ_slice {P : Program} {n : Nat} {t e : TypeId} {xs : List C} (hu : P.underlying t = some (.slice e)) (h : Typ P (n + 1) t xs) : ∃ es, xs = [.slice (P.cellsOf e) es] ∧ es.length ≤ maxLen ∧ ∀ x ∈ es, Typ P n e x := by simpa only [Typ, hu] using h
theorem typ_array {P : Program} {n m : Nat} {t e : TypeId} {xs : List C} (hu : P.underlying t = some (.array m e)) (h : Typ P (n + 1) t xs) : ∃ es : List (List C), xs = es.flatten ∧ es.length = m ∧ ∀ x ∈ es, Typ P n e x := by simpa only [Typ, hu] using h
theorem typ_struct {P : Program} {n : Nat} {t : TypeId} {xs : List C} {fs : Array Field} (hu : P.underlying t = some (.struct fs)) (h : Typ P (n + 1) t xs) : ∃ ps : List (List C), xs = ps.flatten ∧ All2 (fun g x => Typ P n g.type x) fs.toList ps := by simpa only [Typ, hu] using h

/-- A list of data of one type, by what each is. -/
theorem list_typ {α : Type} {R : List C → Prop} {f : α → List C} {Q : α → Prop} (hR : ∀ x, R x → ∃ a, x = f a ∧ Q a) : ∀ {es : List (List C)}, (∀ x ∈ es, R x) → ∃ l : List α, es = l.map f ∧ ∀ a ∈ l, Q a
  | [], _ => ⟨[], rfl, by simp⟩
  | e :: es, h => by
    obtain ⟨a, rfl, ha⟩ := hR e (h e (by simp))
    obtain ⟨l, rfl, hl⟩ := list_typ (es := es) hR (fun x hx => h x (by simp [hx]))
    exact ⟨a :: l, rfl, by simpa using ⟨ha, hl⟩⟩

theorem all2_nil {α β : Type} {R : α → β → Prop} {bs : List β} (h : All2 R [] bs) : bs = [] := by
  cases bs with
  | nil => rfl
  | cons _ _ => exact h.elim
theorem all2_cons {α β : Type} {R : α → β → Prop} {a : α} {as : List α} {bs : List β} (h : All2 R (a :: as) bs) : ∃ b bs', bs = b :: bs' ∧ R a b ∧ All2 R as bs' := by
  cases bs with
  | nil => exact h.elim
  | cons b bs' => exact ⟨b, bs', rfl, h.1, h.2⟩
end Go.Dm
