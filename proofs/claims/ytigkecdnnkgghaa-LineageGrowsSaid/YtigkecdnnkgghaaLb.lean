/-
  A part of the proofs over this seat: what its functions make of data (the file in which the theorems stand says what is proved).
-/
import Derived.Test.YtigkecdnnkgghaaLa
namespace Go.Dm
open Go
def S10 (l : List Mi) (c0 : Int) (c1 : List (List C)) : St := St.mk [T.hole, tc (u c0), T.hole, T.hole, T.k (K.v (V.own 1 c1 (Tk.tok 0))), tc (C.map (encM (par l))), T.hole, T.hole, T.hole, T.hole, T.hole, T.hole, T.hole, T.hole, T.hole, T.hole, T.hole, T.hole, T.hole, T.hole, T.hole, T.hole, T.hole, T.hole] [] [List.length c1]
def b10_s0 (l : List Mi) (a : List Int) (g : Int) : St := St.mk [T.hole, tc (u g), T.hole, T.hole, T.k (K.v (V.own 1 (us a) (Tk.tok 0))), tc (C.map (encM (par l))), T.hole, T.hole, tc (u g), tc (bo (g != 0)), tc (bo (g != 0)), T.skip, T.skip, T.skip, T.skip, tc (bo false), T.hole, T.hole, T.hole, T.hole, T.hole, T.hole, T.hole, T.hole] [] [List.length (us a)]
theorem b10_0 (l : List Mi) (a : List Int) (g : Int) (k : Nat) (h0 : (g == 0) = true) : OutIs (EE (k + 4)) (HH 10) NN (LB PP 10 2) (S10 l g (us a)) (Ext.exit 0) (b10_s0 l a g) :=
  out_of (gs := [G.b false, G.b false, G.b false, G.b false, G.b false, G.b false]) (ps := [(g != (0 : Int)) = false, (g != (0 : Int)) = false, (g != (0 : Int)) = false, (g != (0 : Int)) = false, (g != (0 : Int)) = false, false = false]) (by kernel_rfl) ⟨(congrArg not h0), (congrArg not h0), (congrArg not h0), (congrArg not h0), (congrArg not h0), rfl, trivial⟩
def b10_s1 (l : List Mi) (a : List Int) (g : Int) : St := St.mk [T.hole, tc (u g), T.hole, T.hole, T.k (K.v (V.own 1 (us a) (Tk.tok 0))), tc (C.map (encM (par l))), T.hole, T.hole, tc (u g), tc (bo (g != 0)), tc (bo (g != 0)), T.k (K.v (V.own 1 (us a) (Tk.tok 0))), tc (u g), tc (bo (List.contains a g)), tc (bo !List.contains a g), tc (bo !List.contains a g), T.hole, T.hole, T.hole, T.hole, T.hole, T.hole, T.hole, T.hole] [] [List.length (us a)]
theorem b10_1 (l : List Mi) (a : List Int) (g : Int) (ha : List.length a < BIG) (k : Nat) (h0 : (g == 0) = false) (h1 : (List.contains a g) = true) : OutIs (EE (k + 4)) (HH 10) NN (LB PP 10 2) (S10 l g (us a)) (Ext.exit 0) (b10_s1 l a g) :=
  out_of (gs := [G.b true, G.b true, G.b true, G.call [Res.c (bo (List.contains a g))] [], G.b true, G.b true, G.b false]) (ps := [(g != (0 : Int)) = true, (g != (0 : Int)) = true, (g != (0 : Int)) = true, orac PP GL XX HH NN (k + 4) 19 [A.c (C.slice 1 (us a)), A.c (u g)] [] = some ([Res.c (bo (List.contains a g))], []), (g != (0 : Int)) = true, (g != (0 : Int)) = true, (!List.contains a g) = false]) (by kernel_rfl) ⟨(congrArg not h0), (congrArg not h0), (congrArg not h0), (contains a g ha _), (congrArg not h0), (congrArg not h0), (congrArg not h1), trivial⟩
theorem b10_2 (l : List Mi) (a : List Int) (g : Int) (ha : List.length a < BIG) (hk : List.length a ≤ (1000000 : Nat)) (k : Nat) (h0 : (g == 0) = false) (h1 : (List.contains a g) = false) : NextIs (EE (k + 4)) (HH 10) NN (LB PP 10 2) 0 1 (S10 l g (us a)) (S10 l (Prod.fst (luk (par l) g)) (us a ++ [[u g]])) :=
  next_of (gs := [G.b true, G.b true, G.b true, G.call [Res.c (bo (List.contains a g))] [], G.b true, G.b true, G.b true, G.app true, G.look (Prod.fst (luk (par l) g)) (Prod.snd (luk (par l) g))]) (ps := [(g != (0 : Int)) = true, (g != (0 : Int)) = true, (g != (0 : Int)) = true, orac PP GL XX HH NN (k + 4) 19 [A.c (C.slice 1 (us a)), A.c (u g)] [] = some ([Res.c (bo (List.contains a g))], []), (g != (0 : Int)) = true, (g != (0 : Int)) = true, (!List.contains a g) = true, [u g] :: nilC ≠ nilC, List.length (us a) + List.length ([u g] :: nilC) ≤ most, List.length (us a) = List.length (us a), lookV IntKind.u64 g IntKind.u64 (encM (par l)) = some (Prod.fst (luk (par l) g), Prod.snd (luk (par l) g))]) (by kernel_rfl) ⟨(congrArg not h0), (congrArg not h0), (congrArg not h0), (contains a g ha _), (congrArg not h0), (congrArg not h0), (congrArg not h1), (List.cons_ne_nil _ _), (by show _ ≤ (1073741824 : Nat); first | omega | (simp; omega) | simp), (by first | rfl | assumption | omega | decide | simp_all), (look_pair _ _), trivial⟩
def S11 (l : List Mi) (c0 : Int) (c1 : List (List C)) : St := St.mk [tc (C.slice 3 (mints l)), tc (u c0), T.hole, T.hole, T.hole, T.k (K.v (V.own 1 c1 (Tk.tok 0))), T.hole, T.hole, T.hole, T.hole, T.hole, T.hole, T.hole, T.hole, T.hole, T.hole, T.hole, T.hole, T.hole, T.hole, T.hole, T.hole] [] [List.length c1]
def b11_s0 (l : List Mi) (a : List Int) (g : Int) : St := St.mk [tc (C.slice 3 (mints l)), tc (u g), T.hole, T.hole, T.hole, T.k (K.v (V.own 1 (us a) (Tk.tok 0))), tc (u g), tc (bo (g != 0)), tc (bo (g != 0)), T.skip, T.skip, T.skip, T.skip, tc (bo false), T.hole, T.hole, T.hole, T.hole, T.hole, T.hole, T.hole, T.hole] [] [List.length (us a)]
theorem b11_0 (l : List Mi) (a : List Int) (g : Int) (k : Nat) (h0 : (g == 0) = true) : OutIs (EE (k + 4)) (HH 11) NN (LB PP 11 2) (S11 l g (us a)) (Ext.exit 0) (b11_s0 l a g) :=
  out_of (gs := [G.b false, G.b false, G.b false, G.b false, G.b false, G.b false]) (ps := [(g != (0 : Int)) = false, (g != (0 : Int)) = false, (g != (0 : Int)) = false, (g != (0 : Int)) = false, (g != (0 : Int)) = false, false = false]) (by kernel_rfl) ⟨(congrArg not h0), (congrArg not h0), (congrArg not h0), (congrArg not h0), (congrArg not h0), rfl, trivial⟩
def b11_s1 (l : List Mi) (a : List Int) (g : Int) : St := St.mk [tc (C.slice 3 (mints l)), tc (u g), T.hole, T.hole, T.hole, T.k (K.v (V.own 1 (us a) (Tk.tok 0))), tc (u g), tc (bo (g != 0)), tc (bo (g != 0)), T.k (K.v (V.own 1 (us a) (Tk.tok 0))), tc (u g), tc (bo (List.contains a g)), tc (bo !List.contains a g), tc (bo !List.contains a g), T.hole, T.hole, T.hole, T.hole, T.hole, T.hole, T.hole, T.hole] [] [List.length (us a)]
theorem b11_1 (l : List Mi) (a : List Int) (g : Int) (ha : List.length a < BIG) (k : Nat) (h0 : (g == 0) = false) (h1 : (List.contains a g) = true) : OutIs (EE (k + 4)) (HH 11) NN (LB PP 11 2) (S11 l g (us a)) (Ext.exit 0) (b11_s1 l a g) :=
  out_of (gs := [G.b true, G.b true, G.b true, G.call [Res.c (bo (List.contains a g))] [], G.b true, G.b true, G.b false]) (ps := [(g != (0 : Int)) = true, (g != (0 : Int)) = true, (g != (0 : Int)) = true, orac PP GL XX HH NN (k + 4) 20 [A.c (C.slice 1 (us a)), A.c (u g)] [] = some ([Res.c (bo (List.contains a g))], []), (g != (0 : Int)) = true, (g != (0 : Int)) = true, (!List.contains a g) = false]) (by kernel_rfl) ⟨(congrArg not h0), (congrArg not h0), (congrArg not h0), (has12 a g ha _), (congrArg not h0), (congrArg not h0), (congrArg not h1), trivial⟩
theorem b11_2 (l : List Mi) (a : List Int) (g : Int) (hl : List.length l < BIG) (ha : List.length a < BIG) (hk : List.length a ≤ (1000000 : Nat)) (k : Nat) (h0 : (g == 0) = false) (h1 : (List.contains a g) = false) : NextIs (EE (k + 4)) (HH 11) NN (LB PP 11 2) 0 1 (S11 l g (us a)) (S11 l (parL l g) (us a ++ [[u g]])) :=
  next_of (gs := [G.b true, G.b true, G.b true, G.call [Res.c (bo (List.contains a g))] [], G.b true, G.b true, G.b true, G.app true, G.call [Res.c (u (parL l g))] []]) (ps := [(g != (0 : Int)) = true, (g != (0 : Int)) = true, (g != (0 : Int)) = true, orac PP GL XX HH NN (k + 4) 20 [A.c (C.slice 1 (us a)), A.c (u g)] [] = some ([Res.c (bo (List.contains a g))], []), (g != (0 : Int)) = true, (g != (0 : Int)) = true, (!List.contains a g) = true, [u g] :: nilC ≠ nilC, List.length (us a) + List.length ([u g] :: nilC) ≤ most, List.length (us a) = List.length (us a), orac PP GL XX HH NN (k + 4) 21 [A.c (C.slice 3 (mints l)), A.c (u g)] [] = some ([Res.c (u (parL l g))], [])]) (by kernel_rfl) ⟨(congrArg not h0), (congrArg not h0), (congrArg not h0), (has12 a g ha _), (congrArg not h0), (congrArg not h0), (congrArg not h1), (List.cons_ne_nil _ _), (by show _ ≤ (1073741824 : Nat); first | omega | (simp; omega) | simp), (by first | rfl | assumption | omega | decide | simp_all), (parent l g hl _), trivial⟩
/-! ### A line -/
/-- the generation behind i steps -/
def gI (f : Int → Int) (g : Int) : Nat → Int
  | 0 => g
  | i + 1 => f (gI f g i)
def acc (f : Int → Int) (g : Int) (i : Nat) : List Int := (List.range i).map (gI f g)
/-- it ends here -/
def stopAt (f : Int → Int) (g : Int) (i : Nat) : Bool := gI f g i == 0 || (acc f g i).contains (gI f g i)
/-- how long a line is: at most so many steps -/
def lenL (f : Int → Int) (g : Int) (B : Nat) : Nat := (List.range (B + 1)).findIdx (stopAt f g)
def lineL (f : Int → Int) (g : Int) (B : Nat) : List Int := acc f g (lenL f g B)
theorem acc_succ (f : Int → Int) (g : Int) (i : Nat) : acc f g (i + 1) = acc f g i ++ [gI f g i] := by
  unfold acc; rw [List.range_succ]; simp
theorem acc_len (f : Int → Int) (g : Int) (i : Nat) : (acc f g i).length = i := by unfold acc; simp
theorem nodup_len {l1 : List Int} : ∀ {l2 : List Int}, l1.Nodup → (∀ x ∈ l1, x ∈ l2) → l1.length ≤ l2.length := by
  induction l1 with
  | nil => intro l2 _ _; simp
  | cons a l1 ih =>
    intro l2 hn hs
    have ha := hs a (by simp)
    have hn' := List.nodup_cons.1 hn
    have := ih (l2 := l2.erase a) hn'.2 (fun x hx => by
      have hx2 := hs x (by simp [hx])
      have hne : x ≠ a := fun h => hn'.1 (h ▸ hx)
      exact (List.mem_erase_of_ne hne).2 hx2)
    rw [List.length_erase_of_mem ha] at this
    have : 0 < l2.length := List.length_pos_of_mem ha
    simp only [List.length_cons]
    omega
theorem acc_nodup {f : Int → Int} {g : Int} : ∀ {i : Nat}, (∀ j, j < i → stopAt f g j = false) → (acc f g i).Nodup
  | 0, _ => by simp [acc]
  | i + 1, h => by
    rw [acc_succ, List.nodup_append]
    have hs := h i (by omega)
    unfold stopAt at hs
    simp only [Bool.or_eq_false_iff] at hs
    refine ⟨acc_nodup (fun j hj => h j (by omega)), by simp, fun a ha b hb => ?_⟩
    simp at hb
    subst hb
    intro he
    subst he
    have : (acc f g i).contains (gI f g i) = true := by simpa using ha
    rw [this] at hs
    exact absurd hs.2 (by simp)
/-- Where only some have a parent, lines end. -/
theorem line_ends {f : Int → Int} {K : List Int} (hK : ∀ x, f x ≠ 0 → x ∈ K) {B : Nat} (hB : K.length + 1 ≤ B) (g : Int) : (List.range (B + 1)).any (stopAt f g) = true := by
  cases hb : (List.range (B + 1)).any (stopAt f g) with
  | true => rfl
  | false =>
    have hall : ∀ j, j ≤ B → stopAt f g j = false := fun j hj => by
      have := List.all_eq_true.1 (all_of_any hb) j (by simp; omega)
      simpa using this
    have hn := acc_nodup (f := f) (g := g) (i := B) (fun j hj => hall j (by omega))
    have hs : ∀ x ∈ acc f g B, x ∈ K := fun x hx => by
      unfold acc at hx
      simp at hx
      obtain ⟨j, hj, rfl⟩ := hx
      apply hK
      intro h0
      have := hall (j + 1) (by omega)
      unfold stopAt at this
      simp only [Bool.or_eq_false_iff] at this
      have h1 : gI f g (j + 1) = 0 := h0
      rw [h1] at this
      exact absurd this.1 (by simp)
    have := nodup_len hn hs
    rw [acc_len] at this
    omega
theorem lenL_spec {f : Int → Int} {g : Int} {B : Nat} (h : (List.range (B + 1)).any (stopAt f g) = true) : lenL f g B ≤ B ∧ stopAt f g (lenL f g B) = true ∧ ∀ j, j < lenL f g B → stopAt f g j = false := by
  have hl := findIdx_lt_of_any h
  have h1 : lenL f g B < B + 1 := by simpa [lenL] using hl
  refine ⟨by omega, ?_, fun j hj => ?_⟩
  · have := List.findIdx_getElem (w := hl)
    simpa [lenL] using this
  · have := List.not_of_lt_findIdx (xs := List.range (B + 1)) (p := stopAt f g) (i := j) hj
    simpa using this
end Go.Dm
