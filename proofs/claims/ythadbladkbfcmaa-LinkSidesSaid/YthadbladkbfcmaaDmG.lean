/-
  The data machine, part G: '==' of whole values; the operations on numbers, strings, bools.
-/
import Derived.Test.YthadbladkbfcmaaDmF
import Derived.Laws.BytesString
import Derived.Laws.Cells
import Derived.Laws.StructEq
import Derived.ChangeKeysEq
namespace Go.Dm
open Go.RowKit

/-- The value of type t that these cells are. -/
def mkVal (d : TypeDesc) (xs : List Value) : Value := if d.isRow then .agg xs.toArray else xs.headD undef

theorem run_part {P : Program} {t : TypeId} {d : TypeDesc} (hu : P.underlying t = some d) (xs : List Value) (off : Nat) (w : World) (h : d.isRow = true ∨ (off < xs.length ∧ P.cellsOf t ≠ 0)) :
    (part t xs.toArray off).run P w = .ok (mkVal d ((xs.drop off).take (P.cellsOf t))) w := by
  obtain ⟨i, hi⟩ := info_of_underlying hu
  unfold part mkVal
  simp only [Sem.run_bind, run_isAgg hu, Result.andThen_ok]
  cases hd : d.isRow with
  | true =>
    simp only [if_true, Sem.run_bind, run_sizeOf hi, Result.andThen_ok, Sem.run_pure]
    congr 2
    apply Array.ext'
    simp [List.extract_eq_take_drop]
  | false =>
    obtain ⟨hlt, hz⟩ : off < xs.length ∧ P.cellsOf t ≠ 0 := by
      rcases h with h | h
      · rw [hd] at h; cases h
      · exact h
    have : ((xs.drop off).take (P.cellsOf t)).head?.getD undef = xs[off] := by
      obtain ⟨n, hn⟩ : ∃ n, P.cellsOf t = n + 1 := ⟨P.cellsOf t - 1, by omega⟩
      rw [hn, List.drop_eq_getElem_cons hlt]
      rfl
    simp [this, hlt]

theorem eqWalk_cells {P : Program} {f : Nat} {t : TypeId} {xs ys : List Value} {r : Bool} {d : TypeDesc} (hu : P.underlying t = some d) (hd : d.isRow = false) (h : eqWalk P f t xs ys = some r) : xs.length = 1 ∧ ys.length = 1 := by
  cases f with
  | zero => simp [eqWalk] at h
  | succ f =>
    cases d <;> simp [TypeDesc.isRow] at hd <;> simp only [eqWalk, hu] at h <;> (try (cases h; done)) <;> (split at h <;> (try (cases h; done)) <;> simp)

theorem eqWalk_underlying {P : Program} {f : Nat} {t : TypeId} {xs ys : List Value} {r : Bool} (h : eqWalk P f t xs ys = some r) : ∃ d, P.underlying t = some d := by
  cases f with
  | zero => simp [eqWalk] at h
  | succ f =>
    cases hu : P.underlying t with
    | none => simp [eqWalk, hu] at h
    | some d => exact ⟨d, rfl⟩

theorem part_ok {P : Program} {f : Nat} {t : TypeId} {xs ys : List Value} {r : Bool} {d : TypeDesc} {off : Nat} (hu : P.underlying t = some d) (h : eqWalk P f t ((xs.drop off).take (P.cellsOf t)) ((ys.drop off).take (P.cellsOf t)) = some r) (w : World) :
    (part t xs.toArray off).run P w = .ok (mkVal d ((xs.drop off).take (P.cellsOf t))) w ∧ (part t ys.toArray off).run P w = .ok (mkVal d ((ys.drop off).take (P.cellsOf t))) w := by
  cases hd : d.isRow with
  | true => exact ⟨run_part hu _ _ w (.inl hd), run_part hu _ _ w (.inl hd)⟩
  | false =>
    obtain ⟨h1, h2⟩ := eqWalk_cells hu hd h
    simp only [List.length_take, List.length_drop] at h1 h2
    exact ⟨run_part hu _ _ w (.inr ⟨by omega, by omega⟩), run_part hu _ _ w (.inr ⟨by omega, by omega⟩)⟩

theorem run_eqWalk {P : Program} : ∀ (f d : Nat) (t : TypeId) (xs ys : List Value) (r : Bool) (w : World) (td : TypeDesc), f ≤ d → P.underlying t = some td → eqWalk P f t xs ys = some r →
    (Op.equalIn d t (mkVal td xs) (mkVal td ys)).run P w = .ok r w
  | 0, _, _, _, _, _, _, _, _, _, h => by simp [eqWalk] at h
  | f + 1, d, t, xs, ys, r, w, td, hfd, hu, h => by
    obtain ⟨d, rfl⟩ : ∃ d', d = d' + 1 := ⟨d - 1, by omega⟩
    have hfd' : f ≤ d := by omega
    simp only [eqWalk, hu] at h
    split at h
    · rename_i he; cases he
      split at h
      · cases h; exact run_equalIn_bool w d t _ _ hu
      · cases h
    · rename_i he; cases he
      split at h
      · split at h
        · rename_i hk; cases h; subst hk; exact run_equalIn_int w d t _ _ _ _ hu
        · cases h
      · cases h
    · rename_i he; cases he
      split at h
      · cases h
        simp [mkVal, TypeDesc.isRow, Op.equalIn, run_underlying hu]
      · cases h
    · rename_i fs he; cases he
      split at h
      · cases h
      · rename_i hs
        have hf : P.fieldsOf t = fs := by simp [Program.fieldsOf, hu]
        have ht : P.underlying t = some (.struct (P.fieldsOf t)) := by rw [hf]; exact hu
        show (Op.equalIn (d + 1) t (.agg xs.toArray) (.agg ys.toArray)).run P w = _
        rw [run_equalIn_struct w d t _ _ ht (by simpa using hs), hf]
        clear ht hf hu
        generalize fs.toList = l at h
        induction l generalizing r with
        | nil => simp at h; subst h; simp [Op.eqFields]
        | cons g l ih =>
          simp only [List.foldr_cons] at h
          split at h
          · cases h
          · rename_i hn
            split at h
            · rename_i a b h1 h2
              cases h
              obtain ⟨td, hg⟩ := eqWalk_underlying h1
              obtain ⟨p1, p2⟩ := part_ok hg h1 w
              have p3 := run_eqWalk f d g.type _ _ a w td hfd' hg h1
              have p4 := ih b h2
              simp only [Op.eqFields, hn, ne_eq, not_false_eq_true, if_true, Sem.run_bind, p1, p2, p3, p4, Result.andThen_ok, Sem.run_ite, Sem.run_pure]
              cases a <;> simp
            · cases h
    · rename_i n e he; cases he
      show (Op.equalIn (d + 1) t (.agg xs.toArray) (.agg ys.toArray)).run P w = _
      split at h
      · cases h
      · rename_i hi
        obtain ⟨i, hi⟩ : ∃ i, P.info? e = some i := by
          cases hq : P.info? e with
          | none => simp [hq] at hi
          | some i => exact ⟨i, rfl⟩
        rw [run_equalIn_array w d _ _ hu hi]
        clear hu
        generalize List.range n = l at h
        induction l generalizing r with
        | nil => simp at h; subst h; simp [Op.eqItems]
        | cons j l ih =>
          simp only [List.foldr_cons] at h
          split at h
          · rename_i a b h1 h2
            cases h
            obtain ⟨td, hg⟩ := eqWalk_underlying h1
            obtain ⟨p1, p2⟩ := part_ok hg h1 w
            have p3 := run_eqWalk f d e _ _ a w td hfd' hg h1
            have p4 := ih b h2
            simp only [Op.eqItems, Sem.run_bind, p1, p2, p3, p4, Result.andThen_ok, Sem.run_ite, Sem.run_pure]
            cases a <;> simp
          · cases h
    · cases h
end Go.Dm

namespace Go.Dm
open Go.RowKit

theorem run_guard_plain {P : Program} {op : BinOp} {t : TypeId} {x y : Operand} {a b : Value} (w : World) (h : (isInt a && isInt b) || (match a, b with | .string _, .string _ => true | .bool _, .bool _ => true | _, _ => false) = true) :
    (eqGuard op t x y a b).run P w = .ok () w := by
  unfold eqGuard
  cases a <;> cases b <;> simp [isInt] at h <;> (split <;> rfl)

theorem run_intBin {P : Program} {op : BinOp} {t : TypeId} {k : IntKind} {a b : Int} {r : Value} (w : World) (h : intBin op k a b = some r) : (binOp op t (.int k a) (.int k b)).run P w = .ok r w := by
  cases op <;> simp only [intBin, reduceCtorEq, Option.some.injEq] at h
  case quo | rem =>
    split at h
    · cases h
    · rename_i hb; cases h; simp [binOp, Op.intDiv, hb]
  all_goals (first | (subst h; simp [binOp, Op.intArith, Op.intCmp, Op.intBits, bitsOp]; done) | (cases h; done))

theorem run_shiftBin {P : Program} {op : BinOp} {t : TypeId} {k k' : IntKind} {a b : Int} {r : Value} (w : World) (h : shiftBin op k a b = some r) : (binOp op t (.int k a) (.int k' b)).run P w = .ok r w := by
  unfold shiftBin at h
  split at h
  · cases h
  · rename_i hb
    cases op <;> simp only [reduceCtorEq, Option.some.injEq] at h <;> subst h <;> simp [binOp, Op.shift, hb]

theorem run_strBin {P : Program} {op : BinOp} {t : TypeId} {a b : ByteArray} {r : Value} (w : World) (h : strBin op a b = some r) : (binOp op t (.string a) (.string b)).run P w = .ok r w := by
  cases op <;> simp only [strBin, reduceCtorEq, Option.some.injEq] at h
  case add =>
    split at h
    · rename_i hle
      cases h
      have hmax : IntKind.i64.max = 9223372036854775807 := by decide
      have : ¬ (9223372036854775807 < ((a.size : Int) + (b.size : Int))) := by omega
      simp [binOp, Op.stringOp, hmax, this]
    · cases h
  case eql => subst h; simp [binOp, Op.stringOp, beq_toListBytes]
  case neq => subst h; simp [binOp, Op.stringOp, beq_toListBytes]

theorem run_rawBin {P : Program} {op : BinOp} {t : TypeId} {x y : Operand} {a b : Value} {r : Value} (w : World) (h : rawBin op a b = some r) :
    (do eqGuard op t x y a b; binOp op t a b : Sem Value).run P w = .ok r w := by
  unfold rawBin at h
  split at h
  · rename_i k a k' b
    rw [Sem.run_bind, run_guard_plain w (by simp [isInt]), Result.andThen_ok]
    split at h
    · exact run_shiftBin w h
    · exact run_shiftBin w h
    · split at h
      · rename_i hk; subst hk; exact run_intBin w h
      · cases h
  · rename_i a b
    rw [Sem.run_bind, run_guard_plain w (by simp [isInt]), Result.andThen_ok]
    exact run_strBin w h
  · cases h

theorem rawBin_one {op : BinOp} {a b r : Value} (h : rawBin op a b = some r) : r.oneCell' = true := by
  unfold rawBin at h
  split at h
  · split at h
    · unfold shiftBin at h; split at h <;> simp at h; subst h; rfl
    · unfold shiftBin at h; split at h <;> simp at h; subst h; rfl
    · split at h
      · cases op <;> simp only [intBin, reduceCtorEq, Option.some.injEq] at h <;> (try (split at h <;> simp at h)) <;> (try (subst h; rfl))
      · cases h
  · cases op <;> simp only [strBin, reduceCtorEq, Option.some.injEq] at h <;> (try (split at h <;> simp at h)) <;> (try (subst h; rfl))
  · cases h

theorem raws_rep {γ : Gh} {tok : Nat → Option Nat} {w : World} : ∀ {xs : List V} {as : List Value} {vs : List Value}, xs.mapM V.raw? = some as → All2 (V.rep γ tok w) xs vs → vs = as
  | [], as, [], h, _ => by simp at h; exact h.symm
  | x :: xs, as, v :: vs, h, hr => by
    rw [List.mapM_cons] at h
    simp only [Option.pure_def, Option.bind_eq_bind, Option.bind_eq_some_iff, Option.some.injEq] at h
    obtain ⟨y, hy, zs, hz, rfl⟩ := h
    have := raws_rep hz hr.2
    subst this
    unfold V.raw? at hy
    split at hy
    · cases hy
      have h1 := hr.1
      simp only [V.rep, C.rep] at h1
      rw [h1.1]
    · cases hy
  | [], _, _ :: _, _, h => h.elim
  | _ :: _, _, [], _, h => h.elim

theorem binT_sound {P : Program} {γ : Gh} {tok : Nat → Option Nat} {w : World} {op : BinOp} {t : TypeId} {x y : T} {ox oy : Operand} {a b : Value} {r : T} (h : binT P op t x y = some r) (hx : x.rep γ tok w a) (hy : y.rep γ tok w b) :
    ∃ v, (do eqGuard op t ox oy a b; binOp op t a b : Sem Value).run P w = .ok v w ∧ r.rep γ tok w v := by
  unfold binT at h
  split at h
  · rename_i p q
    simp only [T.rep, K.rep, V.rep, C.rep] at hx hy
    obtain ⟨rfl, ha⟩ := hx
    obtain ⟨rfl, hb⟩ := hy
    split at h
    · rename_i p q
      have hgd : (eqGuard op t ox oy (.bool p) (.bool q)).run P w = .ok () w := run_guard_plain w (by simp [isInt])
      split at h
      · rename_i hu
        cases h
        refine ⟨.bool (p == q), ?_, pure_rep.2 ⟨rfl, rfl⟩⟩
        rw [Sem.run_bind, hgd, Result.andThen_ok]
        simp only [binOp, Sem.run_bind, run_equal_bool w t p q hu, Result.andThen_ok, Sem.run_pure]
      · rename_i hu
        cases h
        refine ⟨.bool (!(p == q)), ?_, pure_rep.2 ⟨rfl, rfl⟩⟩
        rw [Sem.run_bind, hgd, Result.andThen_ok]
        simp only [binOp, Sem.run_bind, run_equal_bool w t p q hu, Result.andThen_ok, Sem.run_pure]
      · cases h
    · simp only [Option.map_eq_some_iff] at h
      obtain ⟨v, hv, rfl⟩ := h
      exact ⟨v, run_rawBin w hv, pure_rep.2 ⟨rfl, rawBin_one hv⟩⟩
  · rename_i xs ys
    simp only [T.rep, K.rep] at hx hy
    obtain ⟨vs, rfl, hvs⟩ := hx
    obtain ⟨us, rfl, hus⟩ := hy
    split at h
    · rename_i as bs h1 h2
      have e1 := raws_rep h1 hvs
      have e2 := raws_rep h2 hus
      subst e1; subst e2
      split at h
      · cases h
      · rename_i hgd
        split at h
        · rename_i r' hr
          obtain ⟨td, htd⟩ := eqWalk_underlying hr
          have hrow : td.isRow = true := by
            simp only [not_or, ne_eq, Decidable.not_not, aggOf, htd, Option.map_some, Option.some.injEq] at hgd
            exact hgd.2
          have hguard : (eqGuard op t ox oy (.agg vs.toArray) (.agg us.toArray)).run P w = .ok () w := by
            unfold eqGuard
            simp only [Sem.run_ite]
            have hg2 := (not_or.1 hgd).1
            split <;> simp [hg2]
          have heq := run_eqWalk 100 10000 t vs us r' w td (by omega) htd hr
          simp only [mkVal, hrow, if_true] at heq
          split at h
          · cases h
            refine ⟨.bool r', ?_, pure_rep.2 ⟨rfl, rfl⟩⟩
            rw [Sem.run_bind, hguard, Result.andThen_ok, run_eql_struct, heq]; rfl
          · cases h
            refine ⟨.bool (!r'), ?_, pure_rep.2 ⟨rfl, rfl⟩⟩
            rw [Sem.run_bind, hguard, Result.andThen_ok, run_neq_struct, heq]; rfl
          · cases h
        · cases h
    · cases h
  · cases h

theorem unT_sound {P : Program} {γ : Gh} {tok : Nat → Option Nat} {w : World} {op : UnOp} {x : T} {a : Value} {r : T} (h : unT op x = some r) (hx : x.rep γ tok w a) : ∃ v, (Op.unary op a).run P w = .ok v w ∧ r.rep γ tok w v := by
  unfold unT at h
  split at h
  · rename_i b hb
    cases h
    rw [raw?_eq hb, pure_rep] at hx
    obtain ⟨rfl, _⟩ := hx
    exact ⟨_, rfl, pure_rep.2 ⟨rfl, rfl⟩⟩
  · rename_i k n hb
    cases h
    rw [raw?_eq hb, pure_rep] at hx
    obtain ⟨rfl, _⟩ := hx
    exact ⟨_, rfl, pure_rep.2 ⟨rfl, rfl⟩⟩
  · cases h

theorem bytes_vals {Fr : Nat → Nat → Prop} {w : World} {sz : Nat} {es : List (List C)} {ns : List Int} {a : Value} (hsz : sz = 1 ∨ es = []) (hns : bytesIn es = some ns) (h : (C.slice sz es).rep Fr w a) :
    es.length = ns.length ∧ ((∃ (ad : Option Addr) (cap : Nat), a = .slice ad 0 cap ∧ ns = []) ∨ ∃ (ad : Addr) (cap : Nat), a = .slice (some ad) ns.length cap ∧ ∀ (j : Nat) v, (ns.map (Value.int .u8))[j]? = some v → w.cell? (ad.add j) = some v) := by
  have key : ∀ {es : List (List C)} {ns : List Int}, bytesIn es = some ns → es = ns.map fun n => [C.raw (.int .u8 n)] := by
    intro es
    induction es with
    | nil => intro ns h; simp [bytesIn] at h; subst h; rfl
    | cons e es ih =>
      intro ns h
      unfold bytesIn at h
      split at h
      · rename_i heq; cases heq
      · rename_i n r heq
        cases heq
        simp only [Option.map_eq_some_iff] at h
        obtain ⟨ms, hms, rfl⟩ := h
        rw [ih hms]; rfl
      · cases h
  have hes := key hns
  subst hes
  refine ⟨by simp, ?_⟩
  simp only [C.rep] at h
  obtain ⟨ad, len, cap, rfl, rfl, hle, h4⟩ := h
  by_cases hn : ns = []
  · subst hn; exact .inl ⟨ad, cap, rfl, rfl⟩
  · have hs1 : sz = 1 := by
      rcases hsz with h | h
      · exact h
      · exact absurd (List.map_eq_nil_iff.1 h) hn
    subst hs1
    rcases h4 with ⟨h0, _⟩ | ⟨b, o, rfl, hr⟩
    · exact absurd (List.eq_nil_of_length_eq_zero (by simpa using h0)) hn
    · refine .inr ⟨⟨b, o, none⟩, cap, by simp, fun j v hj => ?_⟩
      rw [List.getElem?_map, Option.map_eq_some_iff] at hj
      obtain ⟨n, hj, rfl⟩ := hj
      have hg := (rowsAt_get hr j [C.raw (.int .u8 n)] (by simp [hj])).2
      obtain ⟨_, v, hv, hrep⟩ := cellsAt_get hg 0 _ rfl
      simp only [C.rep] at hrep
      rw [hrep.1] at hv
      rw [Addr.add_mid]
      simpa using hv

theorem convT_sound {P : Program} {γ : Gh} {tok : Nat → Option Nat} {w : World} {src dst : TypeId} {x : T} {a : Value} {r : T} (h : convT P src dst x = some r) (hx : x.rep γ tok w a) : ∃ v, (convert src dst a).run P w = .ok v w ∧ r.rep γ tok w v := by
  unfold convT at h
  split at h
  · rename_i es hes
    simp only [Option.map_eq_some_iff] at h
    obtain ⟨ns, hns, rfl⟩ := h
    have key : ∀ (e : TypeId) (sz : Nat), P.underlying src = some (.slice e) → P.underlying dst = some .string → P.underlying e = some (.int .u8) → (sz = 1 ∨ es = []) → (C.slice sz es).rep γ.fr w a → ∃ v, (convert src dst a).run P w = .ok v w ∧ (T.pure (.string (bstr ns))).rep γ tok w v := by
      intro e sz h1 h2 h3 hsz hr
      refine ⟨.string (bstr ns), ?_, pure_rep.2 ⟨rfl, rfl⟩⟩
      obtain ⟨hrow, hall⟩ := bytes_vals hsz hns hr
      rcases hall with ⟨ad, cap, rfl, rfl⟩ | ⟨ad, cap, rfl, hl⟩
      · rw [run_convert_bytes_string w src dst e ad 0 cap h1 h3 h2]
        cases ad with
        | none => rfl
        | some ad => exact run_bytesToString w ad 0 cap [] (by exact run_loadCells_list w ad [] (by simp))
      · rw [run_convert_bytes_string w src dst e _ _ cap h1 h3 h2]
        exact run_bytesToString w ad _ cap ns (by rw [← List.length_map (f := Value.int .u8)]; exact run_loadCells_list w ad _ hl)
    unfold convB at hes
    split at hes
    · rename_i x' e sz es' h1 h2
      split at hes
      · rename_i h3
        split at hes
        · rename_i hsz
          cases hes
          simp only [T.rep, K.rep, V.rep] at hx
          exact key e sz h1 h2 h3 hsz hx
        · cases hes
      · cases hes
    · rename_i x' e sz es' tk h1 h2
      split at hes
      · rename_i h3
        split at hes
        · rename_i hsz
          cases hes
          simp only [T.rep, K.rep, V.rep] at hx
          exact key e sz h1 h2 h3 hsz hx.1
        · cases hes
      · cases hes
    · cases hes
  rename_i hnone
  split at h
  · rename_i d k k' n h1 h2 hb
    cases h
    rw [raw?_eq hb, pure_rep] at hx
    obtain ⟨rfl, _⟩ := hx
    refine ⟨.int k (k.wrap n), ?_, pure_rep.2 ⟨rfl, rfl⟩⟩
    simp [convert, run_underlying h1, run_underlying h2, Conv.intToInt]
  · rename_i d s h1 h2 hb
    cases h
    rw [raw?_eq hb, pure_rep] at hx
    obtain ⟨rfl, _⟩ := hx
    refine ⟨.string s, ?_, pure_rep.2 ⟨rfl, rfl⟩⟩
    simp [convert, run_underlying h1, run_underlying h2]
  · cases h
end Go.Dm
