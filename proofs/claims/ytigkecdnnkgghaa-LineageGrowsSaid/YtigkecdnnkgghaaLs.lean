/-
  A part of the proofs over this seat: what its functions make of data (the file in which the theorems stand says what is proved).
-/
import Derived.RangeFuncNested
import Derived.Test.YtigkecdnnkgghaaLq
namespace Go.Proofs
open Go.RowKit Go.Shelf Go.Dm
attribute [local go_sem] Oper.semAt_some

set_option maxRecDepth 100000 in
set_option maxHeartbeats 2000000 in
theorem Bw.parents_in (F : Fence) (n : Nat) (h18 : F.fn 18) (h22 : F.fn 22) (h24 : F.fn 24) (hro : F.round = none) (hn : 3 ≤ n) (a : Option Addr) (len cap : Nat) (zs : List Mi) (hlen : zs.length ≤ 1000000) (w : World) (hL : MintsAt w.heap.size w (.slice a len cap) zs) :
    CallsIn F n Try.prog 18 #[.slice a len cap] w fun e W' => e = .returned (.map (some w.heap.size)) ∧ MapIs W' w.heap.size (par zs) ∧ Below w.heap.size w W' := by
  have h1 : 1 ≤ n := by omega
  have hmm := @run_makeMap Try.prog
  refine callsIn_of_wp_marks Try.func18 rfl h18 ?_ hro
  simp only [Try.ntmps18, List.size_toArray, List.length_cons, List.length_nil, Nat.reduceAdd, Nat.reduceSub, Array.replicate_succ, Array.replicate_zero, List.push_toArray, List.append_toArray, List.nil_append, List.cons_append]
  gi_wp2_with (gi_at_call 22; refine (Bw.backward_in F (n - 1) h22 hro _ _ _ _).mono ?_; rintro e w' ⟨rfl, rfl⟩)
  have cM := MapIs.made w
  have bM := Boxed.new (w.alloc (.map #[] 0)) 34 (.map (some w.heap.size))
  have bS := Boxed.new ((w.alloc (.map #[] 0)).alloc (.cells #[.map (some w.heap.size)] 34)) 22 (.slice a len cap)
  simp only [World.size_alloc] at bM bS
  have hB0 : Below w.heap.size w (((w.alloc (.map #[] 0)).alloc (.cells #[.map (some w.heap.size)] 34)).alloc (.cells #[.slice a len cap] 22)) := (((Below.refl _ w).alloc (Nat.le_refl _) _).alloc (by simp) _).alloc (by simp; omega) _
  refine wpIn_rangeFunc_ownH hro h1 (gf := 24) (lb := #[.pointer (some ⟨w.heap.size + 1 + 1, 0, none⟩)]) rfl h24 (enters_of Try.func24 (by kernel_rfl) rfl)
    (Bw.stops F (n - 1) h24 hro (by omega) (w.heap.size + 1 + 1) w.heap.size _ zs hlen _ (by simp) (by simp; omega) bS.cell (hL.below hB0)) (fun h k => h.trans k) (KpB.putObj (by simp; omega) (by simp)) (Below.refl _ _) (fun _ => rfl)
    (fun pre W => (Boxed W (w.heap.size + 1) 34 (.map (some w.heap.size)) ∧ Boxed W (w.heap.size + 1 + 1) 22 (.slice a len cap) ∧ MapIs W w.heap.size (parF pre)) ∧ Below w.heap.size w W)
    (fun _ _ _ => False)
    (OwnFrom.and (fun s A B row hs hg hr => ⟨hs.1.kept hg (fun e => by have := (hr _ e.symm).1; simp at this; omega), hs.2.1.kept hg (fun e => by have := (hr _ e.symm).1; simp at this; omega), hs.2.2.kept hg (fun e => by have := (hr _ e.symm).1; simp at this; omega)⟩) (ownFrom_below (Nat.le_refl _) (by simp; omega)))
    (fun _ _ _ _ _ hs _ _ => hs)
    ⟨⟨bM.alloc _, bS, (cM.alloc _).alloc _⟩, hB0⟩
    (fun x a' W => ∃ bx, w.heap.size + 3 ≤ bx ∧ W.heap[bx]? = some (.cells #[.int .u64 x.2.g, .int .u64 x.2.p, .int .i64 x.2.n] 32 (0, 0)) ∧ a' = { tmps := #[.slice a len cap, undef, .map none, .pointer (some ⟨w.heap.size + 1, 0, none⟩), undef, .pointer (some ⟨bx, 0, none⟩), .map (some w.heap.size), .slice a len cap, .func (.func 24) #[] #[.pointer (some ⟨w.heap.size + 1 + 1, 0, none⟩)], .int .i64 (x.1 : Int), .agg #[.int .u64 x.2.g, .int .u64 x.2.p, .int .i64 x.2.n], undef, undef, undef, undef, undef, undef], defers := [] })
    ?Ax ?assign ?body ?done ?stop
  case Ax =>
    rintro x a' _ A B row ⟨bx, h1, h2, h3⟩ hg hr
    exact ⟨bx, h1, (hg.block bx (Array.getElem?_eq_some_iff.1 h2).1 (fun e => by obtain ⟨_, o, ho, hc⟩ := hr bx e.symm; rw [h2] at ho; cases ho; cases hc)).trans h2, h3⟩
  case assign =>
    rintro l pre x W K ⟨⟨hb, hs, hm⟩, hB⟩ hK
    gi_wp2
    have hlt := hs.lt
    exact hK _ _ (KeepsFrom.of_grownBy (World.grownBy_alloc W _ none) (fun j e => by cases e)) ⟨(Below.refl _ W).alloc hB.size _, Below.heap_alloc _ _ _ hlt⟩ ⟨⟨hb.alloc _, hs.alloc _, hm.alloc _⟩, hB.alloc hB.size _⟩
      ⟨W.heap.size, by omega, World.alloc_heap_new W _, rfl⟩
  case body =>
    rintro l pre x a' W hl hloop ⟨⟨hb, hs, hm⟩, hB⟩ ⟨bx, hbx, hx, rfl⟩ hlt
    have hc := hb.cell
    have hx0 : W.cell? ⟨bx, 0, none⟩ = some (.int .u64 x.2.g) := by simp [World.cell?, hx]
    have hx1 : W.cell? ⟨bx, 1, none⟩ = some (.int .u64 x.2.p) := by simp [World.cell?, hx]
    gi_wp2_with (gi_at_mapUpdate; refine wpListIn_mapUpdate_is _ rfl _ _ _ 34 rfl 23 23 Try.underlying34 Try.underlying23 w.heap.size (parF pre) rfl hm _ _ rfl rfl ?_; intro w1 hown1 hgrow1)
    exact ⟨KeepsFrom.of_grownBy hgrow1 (fun j e => by cases e; simp; omega), ⟨(Below.refl _ W).grown hgrow1 hB.size (fun k e => by cases e; exact Nat.le_refl _), hgrow1.block _ hs.lt (fun e => by simp at e; omega)⟩,
      ⟨hb.kept hgrow1 (fun e => by simp at e), hs.kept hgrow1 (fun e => by simp at e; omega), by rw [parF_snoc]; exact hown1⟩, hB.grown hgrow1 hB.size (fun k e => by cases e; exact Nat.le_refl _)⟩
  case done =>
    rintro D ys W hD rfl ⟨⟨hb, hs, hm⟩, hB⟩ hK
    have hc := hb.cell
    gi_wp2
    refine ⟨by simp, .inl ⟨_, _, rfl, run_takeDeferred hK, ?_⟩⟩
    rw [parF_bk] at hm
    exact ⟨_, results_tmp rfl _ _ _, rfl, hm.kept (grownBy_putObj' _ D _) (fun e => by cases e; simp at hD; omega), hB.trans (belowK_b (w := w) (Nat.le_refl _) W D _ _ (by simp at hD; omega) hK rfl rfl)⟩
  case stop =>
    rintro D c pre W _ _ h _
    exact h.elim
end Go.Proofs
