/-
  A part of the proofs over this seat: what its functions make of data (the file in which the theorems stand says what is proved).
-/
import Derived.Test.YtigkecdnnkgghaaLp
namespace Go.Proofs
open Go.RowKit Go.Shelf Go.Dm
attribute [local go_sem] Oper.semAt_some

/-- what has come when k rounds are over -/
def bk (l : List Mi) (k : Nat) : List (Nat × Mi) := (List.range k).map fun j => (l.length - 1 - j, l[l.length - 1 - j]?.getD default)
theorem bk_succ (l : List Mi) (k : Nat) : bk l (k + 1) = bk l k ++ [(l.length - 1 - k, l[l.length - 1 - k]?.getD default)] := by simp [bk, List.range_succ]
theorem bk_length (l : List Mi) (k : Nat) : (bk l k).length = k := by simp [bk]
abbrev encB (x : Nat × Mi) : Array Value := #[.int .i64 (x.1 : Int), .agg #[.int .u64 x.2.g, .int .u64 x.2.p, .int .i64 x.2.n]]

/-- what a round keeps: what lay below n₀, and the iterator's box -/
def KpB (n₀ Bs : Nat) (A B : World) : Prop := Below n₀ A B ∧ B.heap[Bs]? = A.heap[Bs]?
theorem KpB.refl (n₀ Bs : Nat) (A : World) : KpB n₀ Bs A A := ⟨Below.refl _ _, rfl⟩
theorem KpB.trans {n₀ Bs : Nat} {A B C : World} (h : KpB n₀ Bs A B) (k : KpB n₀ Bs B C) : KpB n₀ Bs A C := ⟨h.1.trans k.1, k.2.trans h.2⟩
theorem KpB.putObj {n₀ Bs : Nat} {w : World} (hn : n₀ ≤ w.heap.size) (hB : Bs < w.heap.size) (W : World) (l : Nat) (o o' : Obj) (hl : w.heap.size ≤ l) (h : W.heap[l]? = some o) (h1 : o.isCells = false) (h2 : o.isWalk = false) : KpB n₀ Bs W (W.putObj l o') :=
  ⟨belowK_b hn W l o o' hl h h1 h2, World.putObj_heap_other (by omega)⟩

set_option maxRecDepth 100000 in
set_option maxHeartbeats 2000000 in
theorem Bw.closure_in (F : Fence) (n : Nat) (h24 : F.fn 24) (hro : F.round = none) (hn : 1 ≤ n) (l Bs n₀ b off cap : Nat) (zs : List Mi) (hreach : zs.length ≤ 1000000) (hb : b < n₀) (J Jx : List (Nat × Mi) → World → Prop)
    (hY : ∀ pre x W, J pre W → pre.length < zs.length → YieldAt F (n - 1) Try.prog l (encB x) W fun e W' =>
      (e = .returned (.bool true) ∧ J (pre ++ [x]) W' ∧ KpB n₀ Bs W W') ∨ (e = .returned (.bool false) ∧ Jx (pre ++ [x]) W'))
    (W : World) (hBs : W.cell? ⟨Bs, 0, none⟩ = some (.slice (some ⟨b, off, none⟩) zs.length cap))
    (hc : ∀ j, j < zs.length → W.rangeAt b (off + j * 3) [.int .u64 (zs[j]?.getD default).g, .int .u64 (zs[j]?.getD default).p, .int .i64 (zs[j]?.getD default).n]) (h0 : J [] W) :
    CallsIn F n Try.prog 24 #[.func (.yield l) #[] #[], .pointer (some ⟨Bs, 0, none⟩)] W fun e W' => (∃ v, e = .returned v) ∧
      ((∃ ys, ys = bk zs zs.length ∧ J ys W') ∨ (∃ pre, (∃ k, k ≤ zs.length ∧ pre = bk zs k) ∧ Jx pre W')) := by
  refine callsIn_of_wp Try.func24 rfl h24 ?_ hro
  simp only [Try.ntmps24, List.size_toArray, List.length_cons, List.length_nil, Nat.reduceAdd, Nat.reduceSub, Array.replicate_succ, Array.replicate_zero, List.push_toArray, List.append_toArray, List.nil_append, List.cons_append]
  gi_wp2
  gi_loopw [3] (fun i wr => ∃ k : Nat, k ≤ zs.length ∧ i = .int .i64 ((zs.length : Int) - 1 - k) ∧ J (bk zs k) wr ∧ KpB n₀ Bs W wr)
    (fun i _ => (intOf i + 1).toNat)
  case atStart => exact ⟨0, Nat.zero_le _, by simp, h0, KpB.refl _ _ _⟩
  case round =>
    obtain ⟨k, hk, rfl, hJs, hnx⟩ := hrel
    by_cases hlt : k < zs.length
    · obtain ⟨fn, tmps, assign, body, hy, hR⟩ := hY _ (zs.length - 1 - k, zs[zs.length - 1 - k]?.getD default) wr hJs (by rw [bk_length]; exact hlt)
      obtain ⟨q, hq⟩ : ∃ q, zs.length - 1 - k = q := ⟨_, rfl⟩
      have hqi : (zs.length : Int) - 1 - k = (q : Int) := by omega
      have hql : q < zs.length := by omega
      simp only [encB, hq] at hy
      rw [hqi]
      have hBx : wr.cell? ⟨Bs, 0, none⟩ = some (.slice (some ⟨b, off, none⟩) zs.length cap) := (World.cell?_of_block (w := W) hnx.2).trans hBs
      have hr := hc q hql
      have hx0 : wr.cell? ⟨b, off + q * 3, none⟩ = _ := (hnx.1.cell (p := ⟨b, off + q * 3, none⟩) hb).trans (hr 0 _ rfl)
      have hx1 : wr.cell? ⟨b, off + q * 3 + 1, none⟩ = _ := (hnx.1.cell (p := ⟨b, off + q * 3 + 1, none⟩) hb).trans (hr 1 _ rfl)
      have hx2 : wr.cell? ⟨b, off + q * 3 + 2, none⟩ = _ := (hnx.1.cell (p := ⟨b, off + q * 3 + 2, none⟩) hb).trans (hr 2 _ rfl)
      clear hc
      simp only [List.getElem?_eq_getElem hql, Option.getD_some] at hy hx0 hx1 hx2
      gi_wp2
      refine hR.mono ?_
      rintro e W3 (⟨rfl, hJ3, hk3⟩ | ⟨rfl, hJx3⟩)
      · gi_wp2
        go_roundw
        case rel => exact ⟨k + 1, by omega, by simp; omega, by rw [bk_succ]; exact hJ3, hnx.trans hk3⟩
        case measure => simp [intOf]
      · gi_wp2
        refine bodyPost_ret (results_none rfl _ _ _) rfl ?_
        exact ⟨⟨_, rfl⟩, .inr ⟨_, ⟨k + 1, by omega, (bk_succ _ _).symm⟩, hJx3⟩⟩
    · obtain rfl : k = zs.length := by omega
      gi_wp2
      go_end0
      exact ⟨⟨_, rfl⟩, .inl ⟨_, rfl, hJs⟩⟩

set_option maxRecDepth 100000 in
set_option maxHeartbeats 1000000 in
theorem Bw.closure_nil_in (F : Fence) (n : Nat) (h24 : F.fn 24) (hro : F.round = none) (l Bs cap : Nat) (a : Option Addr) (J : List (Nat × Mi) → World → Prop) (W : World) (hBs : W.cell? ⟨Bs, 0, none⟩ = some (.slice a 0 cap)) (h0 : J [] W) :
    CallsIn F n Try.prog 24 #[.func (.yield l) #[] #[], .pointer (some ⟨Bs, 0, none⟩)] W fun e W' => (∃ v, e = .returned v) ∧ J [] W' := by
  refine callsIn_of_wp Try.func24 rfl h24 ?_ hro
  simp only [Try.ntmps24, List.size_toArray, List.length_cons, List.length_nil, Nat.reduceAdd, Nat.reduceSub, Array.replicate_succ, Array.replicate_zero, List.push_toArray, List.append_toArray, List.nil_append, List.cons_append]
  gi_wp2
  gi_loopw [3] (fun i wr => i = .int .i64 (-1) ∧ J [] wr) (fun _ _ => 0)
  case atStart => exact ⟨by simp, h0⟩
  case round =>
    obtain ⟨rfl, hJs⟩ := hrel
    gi_wp2
    go_end0
    exact ⟨⟨_, rfl⟩, hJs⟩

set_option maxHeartbeats 1000000 in
theorem Bw.backward_in (F : Fence) (n : Nat) (h22 : F.fn 22) (hro : F.round = none) (a : Option Addr) (len cap : Nat) (w : World) :
    CallsIn F n Try.prog 22 #[.slice a len cap] w fun e w' => e = .returned (.func (.func 24) #[] #[.pointer (some ⟨w.heap.size, 0, none⟩)]) ∧ w' = w.alloc (.cells #[.slice a len cap] 22) := by
  refine callsIn_of_wp Try.func22 rfl h22 ?_ hro
  simp only [Try.ntmps22, List.size_toArray, List.length_cons, List.length_nil, Nat.reduceAdd, Nat.reduceSub, Array.replicate_succ, Array.replicate_zero, List.push_toArray, List.append_toArray, List.nil_append, List.cons_append]
  gi_wp2
  go_ret
  exact ⟨rfl, rfl⟩

/-- the slice value holds the mints -/
def MintsAt (n₀ : Nat) (W : World) (sv : Value) (zs : List Mi) : Prop :=
  (∃ a cap, sv = .slice a 0 cap ∧ zs = []) ∨ ∃ b off cap, sv = .slice (some ⟨b, off, none⟩) zs.length cap ∧ b < n₀ ∧
    ∀ j, j < zs.length → W.rangeAt b (off + j * 3) [.int .u64 (zs[j]?.getD default).g, .int .u64 (zs[j]?.getD default).p, .int .i64 (zs[j]?.getD default).n]
theorem MintsAt.below {n₀ : Nat} {A B : World} (h : Below n₀ A B) {sv : Value} {zs : List Mi} : MintsAt n₀ A sv zs → MintsAt n₀ B sv zs
  | .inl e => .inl e
  | .inr ⟨b, off, cap, e, hb, hc⟩ => .inr ⟨b, off, cap, e, hb, fun j hj i v hv => (h.cell (p := ⟨b, off + j * 3 + i, none⟩) hb).trans (hc j hj i v hv)⟩

theorem Bw.stops (F : Fence) (n : Nat) (h24 : F.fn 24) (hro : F.round = none) (hn : 1 ≤ n) (Bs n₀ : Nat) (sv : Value) (zs : List Mi) (hreach : zs.length ≤ 1000000) (w : World) (hBs : Bs < w.heap.size) (hn₀ : n₀ ≤ w.heap.size)
    (hc : w.cell? ⟨Bs, 0, none⟩ = some sv) (hI : MintsAt n₀ w sv zs) :
    SeqStopsK F n Try.prog 24 #[.pointer (some ⟨Bs, 0, none⟩)] encB (KpB n₀ Bs) (fun ys => ys = bk zs zs.length) (fun pre => ∃ k, k ≤ zs.length ∧ pre = bk zs k) zs.length w := fun l J Jx W hW _ _ hY h0 => by
  have hc' := (hW.cell (p := ⟨Bs, 0, none⟩) hBs).trans hc
  rcases hI.below (hW.mono hn₀) with ⟨a, cap, rfl, rfl⟩ | ⟨b, off, cap, rfl, hb, hcs⟩
  · exact (Bw.closure_nil_in F n h24 hro l Bs cap a J W hc' h0).mono fun e W' ⟨he, hj⟩ => ⟨he, .inl ⟨_, rfl, hj⟩⟩
  · exact Bw.closure_in F n h24 hro hn l Bs n₀ b off cap zs hreach hb J Jx hY W hc' hcs h0

def parF (xs : List (Nat × Mi)) : List (Int × Int) := xs.foldl (fun m x => upd x.2.g x.2.p m) []
theorem parF_snoc (pre : List (Nat × Mi)) (x : Nat × Mi) : parF (pre ++ [x]) = upd x.2.g x.2.p (parF pre) := by simp [parF]
theorem bk_rev (l : List Mi) : (bk l l.length).map (·.2) = l.reverse := by
  apply List.ext_getElem
  · simp [bk]
  · intro i h1 h2
    have hi : i < l.length := by simpa using h2
    have : l.length - 1 - i < l.length := by omega
    simp [bk, this]
theorem parF_bk (l : List Mi) : parF (bk l l.length) = par l := by
  have : parF (bk l l.length) = ((bk l l.length).map (·.2)).foldl (fun m x => upd x.g x.p m) [] := by rw [List.foldl_map]; rfl
  rw [this, bk_rev, List.foldl_reverse]
  rfl
end Go.Proofs
