/-
  A part of the proofs over this seat: what its functions make of data (the file in which the theorems stand says what is proved).
-/
import Derived.Test.YtigkecdnnkgghaaLb
namespace Go.Dm
open Go
theorem luk_upd (a b : Int) : ∀ (m : List (Int × Int)) (g : Int), luk (upd a b m) g = if g == a then (b, true) else luk m g
  | [], g => rfl
  | (c, d) :: r, g => by
    unfold upd
    cases hac : a == c with
    | true =>
      obtain rfl := eq_of_beq hac
      simp only [if_true, luk]
      cases g == a <;> rfl
    | false =>
      simp only [Bool.false_eq_true, if_false, luk]
      cases hgc : g == c with
      | true =>
        obtain rfl := eq_of_beq hgc
        have : (g == a) = false := by rw [Bool.beq_comm]; exact hac
        rw [this]; rfl
      | false => simpa using luk_upd a b r g
theorem luk_par : ∀ (l : List Mi) (g : Int), luk (par l) g = (parL l g, l.any (·.g == g))
  | [], g => rfl
  | x :: l, g => by
    have ih := luk_par l g
    show luk (upd x.g x.p (par l)) g = _
    rw [luk_upd, ih]
    unfold parL
    rw [List.find?_cons, List.any_cons, Bool.beq_comm (a := g)]
    cases x.g == g <;> rfl
theorem luk1 (l : List Mi) (g : Int) : (luk (par l) g).1 = parL l g := by rw [luk_par]
theorem parL_key (l : List Mi) (x : Int) (h : parL l x ≠ 0) : x ∈ l.map (·.g) := by
  unfold parL at h
  cases hf : l.find? (·.g == x) with
  | none => rw [hf] at h; exact absurd rfl h
  | some y =>
    have h1 := List.mem_of_find?_eq_some hf
    have h2 := List.find?_some hf
    rw [List.mem_map]
    exact ⟨y, h1, by simpa using h2⟩
abbrev stepsL (l : List Mi) : Nat := l.length + 1
abbrev lenM (l : List Mi) (g : Int) : Nat := lenL (parL l) g (stepsL l)
/-- a generation's line -/
def lineM (l : List Mi) (g : Int) : List Int := lineL (parL l) g (stepsL l)
abbrev lastM (l : List Mi) (g : Int) : Int := gI (parL l) g (lenM l g)
theorem lineM_spec (l : List Mi) (g : Int) : lenM l g ≤ l.length + 1 ∧ stopAt (parL l) g (lenM l g) = true ∧ ∀ j, j < lenM l g → stopAt (parL l) g j = false :=
  lenL_spec (line_ends (K := l.map (·.g)) (parL_key l) (by simp) g)
theorem lineM_len (l : List Mi) (g : Int) : (lineM l g).length ≤ l.length + 1 := by
  unfold lineM lineL
  rw [acc_len]
  exact (lineM_spec l g).1
theorem step10 (l : List Mi) (hl : l.length ≤ 100000) (g : Int) (k i : Nat) (hi : i < lenM l g) : NextIs (EE (k + 4)) (HH 10) NN (LB PP 10 2) 0 1 (S10 l (gI (parL l) g i) (us (acc (parL l) g i))) (S10 l (gI (parL l) g (i + 1)) (us (acc (parL l) g (i + 1)))) := by
  obtain ⟨h1, _, h3⟩ := lineM_spec l g
  have hs := h3 i hi
  unfold stopAt at hs
  simp only [Bool.or_eq_false_iff] at hs
  have hlen := acc_len (parL l) g i
  have := b10_2 l (acc (parL l) g i) (gI (parL l) g i) (by rw [hlen]; unfold BIG; omega) (by rw [hlen]; omega) k hs.1 hs.2
  rw [luk1] at this
  rw [acc_succ]
  simpa [us, gI] using this
theorem L10a (l : List Mi) (g : Int) (hl : l.length ≤ 100000) (s : St) (hs : s.head (HH 10 2) = S10 l g []) (hz : (lastM l g == 0) = true) (k : Nat) : LoopIs (EE (k + 4)) (HH 10) NN (LB PP 10 2) s (.exit 0) (b10_s0 l (lineM l g) (lastM l g)) := by
  obtain ⟨h1, _, _⟩ := lineM_spec l g
  refine loop_of (nv := 0) (nt := 1) (fun i => S10 l (gI (parL l) g i) (us (acc (parL l) g i))) (lenM l g) (by rw [show firstRegion (LB PP 10 2) = 2 by kernel_rfl]; exact hs) (by kernel_rfl) (by kernel_rfl) (fun i hi => step10 l hl g k i hi) ?_ (by unfold NN; omega)
  exact b10_0 l (lineM l g) (lastM l g) k hz
theorem L10b (l : List Mi) (g : Int) (hl : l.length ≤ 100000) (s : St) (hs : s.head (HH 10 2) = S10 l g []) (hz : (lastM l g == 0) = false) (k : Nat) : LoopIs (EE (k + 4)) (HH 10) NN (LB PP 10 2) s (.exit 0) (b10_s1 l (lineM l g) (lastM l g)) := by
  obtain ⟨h1, h2, _⟩ := lineM_spec l g
  refine loop_of (nv := 0) (nt := 1) (fun i => S10 l (gI (parL l) g i) (us (acc (parL l) g i))) (lenM l g) (by rw [show firstRegion (LB PP 10 2) = 2 by kernel_rfl]; exact hs) (by kernel_rfl) (by kernel_rfl) (fun i hi => step10 l hl g k i hi) ?_ (by unfold NN; omega)
  have hc : (lineM l g).contains (lastM l g) = true := by
    unfold stopAt at h2
    have hz' : (gI (parL l) g (lenM l g) == 0) = false := hz
    rw [hz', Bool.false_or] at h2
    exact h2
  exact b10_1 l (lineM l g) (lastM l g) (by have := lineM_len l g; unfold BIG; omega) k hz hc
theorem line (l : List Mi) (g : Int) (hl : List.length l ≤ (100000 : Nat)) (k : Nat) : orac PP GL XX HH NN (k + 6) 10 [A.c (C.slice 3 (mints l)), A.c (u g)] [] = some ([Res.top 1 (us (lineM l g))], []) := by
  rcases Bool.eq_false_or_eq_true (lastM l g == 0) with h0 | h0
  · exact (orac_fn (show PP.funcs[10]? = some _ from rfl) (show XX 10 = none from rfl) (rs := [Res.top 1 (us (lineM l g))]) (ims' := []) (gs := [G.call [Res.c (C.map (encM (par l)))] [], G.loop (Ext.exit 0) (St.mk [T.hole, tc (u (lastM l g)), T.hole, T.hole, T.k (K.v (V.own 1 (us (lineM l g)) (Tk.tok 0))), tc (C.map (encM (par l))), T.hole, T.hole, tc (u (lastM l g)), tc (bo (lastM l g != 0)), tc (bo (lastM l g != 0)), T.skip, T.skip, T.skip, T.skip, tc (bo false), T.hole, T.hole, T.hole, T.hole, T.hole, T.hole, T.hole, T.hole] [] [List.length (us (lineM l g))])]) (ps := [orac PP GL XX HH NN (k + 5) 18 [A.c (C.slice 3 (mints l))] [] = some ([Res.c (C.map (encM (par l)))], []), LoopIs (Env.mk PP (orac PP GL XX HH NN (k + (5 : Nat))) GL) (HH (10 : Nat)) NN (LB PP (10 : Nat) (2 : Nat)) (St.mk [tc (C.slice (3 : Nat) (mints l)), tc (u g), T.skip, T.skip, T.k (K.v (V.own (0 : Nat) nilC Tk.exact)), tc (C.map (encM (par l))), tc (C.slice (3 : Nat) (mints l)), tc (C.map (encM (par l))), T.skip, T.skip, T.skip, T.skip, T.skip, T.skip, T.skip, T.skip, T.skip, T.skip, T.skip, T.skip, T.skip, T.skip, T.skip, T.skip] [] []) (Ext.exit (0 : Nat)) (St.mk [T.hole, tc (u (lastM l g)), T.hole, T.hole, T.k (K.v (V.own (1 : Nat) (us (lineM l g)) (Tk.tok (0 : Nat)))), tc (C.map (encM (par l))), T.hole, T.hole, tc (u (lastM l g)), tc (bo (lastM l g != (0 : Int))), tc (bo (lastM l g != (0 : Int))), T.skip, T.skip, T.skip, T.skip, tc (bo false), T.hole, T.hole, T.hole, T.hole, T.hole, T.hole, T.hole, T.hole] [] [List.length (us (lineM l g))]), List.length (us (lineM l g)) = List.length (us (lineM l g))]) (by kernel_rfl) ⟨(parents l hl _), (L10a l g hl _ (by kernel_rfl) h0 _), (by first | rfl | assumption | omega | decide | simp_all), trivial⟩)
  · exact (orac_fn (show PP.funcs[10]? = some _ from rfl) (show XX 10 = none from rfl) (rs := [Res.top 1 (us (lineM l g))]) (ims' := []) (gs := [G.call [Res.c (C.map (encM (par l)))] [], G.loop (Ext.exit 0) (St.mk [T.hole, tc (u (lastM l g)), T.hole, T.hole, T.k (K.v (V.own 1 (us (lineM l g)) (Tk.tok 0))), tc (C.map (encM (par l))), T.hole, T.hole, tc (u (lastM l g)), tc (bo (lastM l g != 0)), tc (bo (lastM l g != 0)), T.k (K.v (V.own 1 (us (lineM l g)) (Tk.tok 0))), tc (u (lastM l g)), tc (bo (List.contains (lineM l g) (lastM l g))), tc (bo !List.contains (lineM l g) (lastM l g)), tc (bo !List.contains (lineM l g) (lastM l g)), T.hole, T.hole, T.hole, T.hole, T.hole, T.hole, T.hole, T.hole] [] [List.length (us (lineM l g))])]) (ps := [orac PP GL XX HH NN (k + 5) 18 [A.c (C.slice 3 (mints l))] [] = some ([Res.c (C.map (encM (par l)))], []), LoopIs (Env.mk PP (orac PP GL XX HH NN (k + (5 : Nat))) GL) (HH (10 : Nat)) NN (LB PP (10 : Nat) (2 : Nat)) (St.mk [tc (C.slice (3 : Nat) (mints l)), tc (u g), T.skip, T.skip, T.k (K.v (V.own (0 : Nat) nilC Tk.exact)), tc (C.map (encM (par l))), tc (C.slice (3 : Nat) (mints l)), tc (C.map (encM (par l))), T.skip, T.skip, T.skip, T.skip, T.skip, T.skip, T.skip, T.skip, T.skip, T.skip, T.skip, T.skip, T.skip, T.skip, T.skip, T.skip] [] []) (Ext.exit (0 : Nat)) (St.mk [T.hole, tc (u (lastM l g)), T.hole, T.hole, T.k (K.v (V.own (1 : Nat) (us (lineM l g)) (Tk.tok (0 : Nat)))), tc (C.map (encM (par l))), T.hole, T.hole, tc (u (lastM l g)), tc (bo (lastM l g != (0 : Int))), tc (bo (lastM l g != (0 : Int))), T.k (K.v (V.own (1 : Nat) (us (lineM l g)) (Tk.tok (0 : Nat)))), tc (u (lastM l g)), tc (bo (List.contains (lineM l g) (lastM l g))), tc (bo !List.contains (lineM l g) (lastM l g)), tc (bo !List.contains (lineM l g) (lastM l g)), T.hole, T.hole, T.hole, T.hole, T.hole, T.hole, T.hole, T.hole] [] [List.length (us (lineM l g))]), List.length (us (lineM l g)) = List.length (us (lineM l g))]) (by kernel_rfl) ⟨(parents l hl _), (L10b l g hl _ (by kernel_rfl) h0 _), (by first | rfl | assumption | omega | decide | simp_all), trivial⟩)
theorem step11 (l : List Mi) (hl : l.length ≤ 100000) (g : Int) (k i : Nat) (hi : i < lenM l g) : NextIs (EE (k + 4)) (HH 11) NN (LB PP 11 2) 0 1 (S11 l (gI (parL l) g i) (us (acc (parL l) g i))) (S11 l (gI (parL l) g (i + 1)) (us (acc (parL l) g (i + 1)))) := by
  obtain ⟨h1, _, h3⟩ := lineM_spec l g
  have hs := h3 i hi
  unfold stopAt at hs
  simp only [Bool.or_eq_false_iff] at hs
  have hlen := acc_len (parL l) g i
  have := b11_2 l (acc (parL l) g i) (gI (parL l) g i) (by unfold BIG; omega) (by rw [hlen]; unfold BIG; omega) (by rw [hlen]; omega) k hs.1 hs.2
  rw [acc_succ]
  simpa [us, gI] using this
theorem L11a (l : List Mi) (g : Int) (hl : l.length ≤ 100000) (s : St) (hs : s.head (HH 11 2) = S11 l g []) (hz : (lastM l g == 0) = true) (k : Nat) : LoopIs (EE (k + 4)) (HH 11) NN (LB PP 11 2) s (.exit 0) (b11_s0 l (lineM l g) (lastM l g)) := by
  obtain ⟨h1, _, _⟩ := lineM_spec l g
  refine loop_of (nv := 0) (nt := 1) (fun i => S11 l (gI (parL l) g i) (us (acc (parL l) g i))) (lenM l g) (by rw [show firstRegion (LB PP 11 2) = 2 by kernel_rfl]; exact hs) (by kernel_rfl) (by kernel_rfl) (fun i hi => step11 l hl g k i hi) ?_ (by unfold NN; omega)
  exact b11_0 l (lineM l g) (lastM l g) k hz
theorem L11b (l : List Mi) (g : Int) (hl : l.length ≤ 100000) (s : St) (hs : s.head (HH 11 2) = S11 l g []) (hz : (lastM l g == 0) = false) (k : Nat) : LoopIs (EE (k + 4)) (HH 11) NN (LB PP 11 2) s (.exit 0) (b11_s1 l (lineM l g) (lastM l g)) := by
  obtain ⟨h1, h2, _⟩ := lineM_spec l g
  refine loop_of (nv := 0) (nt := 1) (fun i => S11 l (gI (parL l) g i) (us (acc (parL l) g i))) (lenM l g) (by rw [show firstRegion (LB PP 11 2) = 2 by kernel_rfl]; exact hs) (by kernel_rfl) (by kernel_rfl) (fun i hi => step11 l hl g k i hi) ?_ (by unfold NN; omega)
  have hc : (lineM l g).contains (lastM l g) = true := by
    unfold stopAt at h2
    have hz' : (gI (parL l) g (lenM l g) == 0) = false := hz
    rw [hz', Bool.false_or] at h2
    exact h2
  exact b11_1 l (lineM l g) (lastM l g) (by have := lineM_len l g; unfold BIG; omega) k hz hc
theorem line12 (l : List Mi) (g : Int) (hl : List.length l ≤ (100000 : Nat)) (k : Nat) : orac PP GL XX HH NN (k + 6) 11 [A.c (C.slice 3 (mints l)), A.c (u g)] [] = some ([Res.top 1 (us (lineM l g))], []) := by
  rcases Bool.eq_false_or_eq_true (lastM l g == 0) with h0 | h0
  · exact (orac_fn (show PP.funcs[11]? = some _ from rfl) (show XX 11 = none from rfl) (rs := [Res.top 1 (us (lineM l g))]) (ims' := []) (gs := [G.loop (Ext.exit 0) (St.mk [tc (C.slice 3 (mints l)), tc (u (lastM l g)), T.hole, T.hole, T.hole, T.k (K.v (V.own 1 (us (lineM l g)) (Tk.tok 0))), tc (u (lastM l g)), tc (bo (lastM l g != 0)), tc (bo (lastM l g != 0)), T.skip, T.skip, T.skip, T.skip, tc (bo false), T.hole, T.hole, T.hole, T.hole, T.hole, T.hole, T.hole, T.hole] [] [List.length (us (lineM l g))])]) (ps := [LoopIs (Env.mk PP (orac PP GL XX HH NN (k + (5 : Nat))) GL) (HH (11 : Nat)) NN (LB PP (11 : Nat) (2 : Nat)) (St.mk [tc (C.slice (3 : Nat) (mints l)), tc (u g), T.skip, T.skip, T.k (K.v (V.own (0 : Nat) nilC Tk.exact)), T.k (K.v (V.own (0 : Nat) nilC Tk.exact)), T.skip, T.skip, T.skip, T.skip, T.skip, T.skip, T.skip, T.skip, T.skip, T.skip, T.skip, T.skip, T.skip, T.skip, T.skip, T.skip] [] []) (Ext.exit (0 : Nat)) (St.mk [tc (C.slice (3 : Nat) (mints l)), tc (u (lastM l g)), T.hole, T.hole, T.hole, T.k (K.v (V.own (1 : Nat) (us (lineM l g)) (Tk.tok (0 : Nat)))), tc (u (lastM l g)), tc (bo (lastM l g != (0 : Int))), tc (bo (lastM l g != (0 : Int))), T.skip, T.skip, T.skip, T.skip, tc (bo false), T.hole, T.hole, T.hole, T.hole, T.hole, T.hole, T.hole, T.hole] [] [List.length (us (lineM l g))]), List.length (us (lineM l g)) = List.length (us (lineM l g))]) (by kernel_rfl) ⟨(L11a l g hl _ (by kernel_rfl) h0 _), (by first | rfl | assumption | omega | decide | simp_all), trivial⟩)
  · exact (orac_fn (show PP.funcs[11]? = some _ from rfl) (show XX 11 = none from rfl) (rs := [Res.top 1 (us (lineM l g))]) (ims' := []) (gs := [G.loop (Ext.exit 0) (St.mk [tc (C.slice 3 (mints l)), tc (u (lastM l g)), T.hole, T.hole, T.hole, T.k (K.v (V.own 1 (us (lineM l g)) (Tk.tok 0))), tc (u (lastM l g)), tc (bo (lastM l g != 0)), tc (bo (lastM l g != 0)), T.k (K.v (V.own 1 (us (lineM l g)) (Tk.tok 0))), tc (u (lastM l g)), tc (bo (List.contains (lineM l g) (lastM l g))), tc (bo !List.contains (lineM l g) (lastM l g)), tc (bo !List.contains (lineM l g) (lastM l g)), T.hole, T.hole, T.hole, T.hole, T.hole, T.hole, T.hole, T.hole] [] [List.length (us (lineM l g))])]) (ps := [LoopIs (Env.mk PP (orac PP GL XX HH NN (k + (5 : Nat))) GL) (HH (11 : Nat)) NN (LB PP (11 : Nat) (2 : Nat)) (St.mk [tc (C.slice (3 : Nat) (mints l)), tc (u g), T.skip, T.skip, T.k (K.v (V.own (0 : Nat) nilC Tk.exact)), T.k (K.v (V.own (0 : Nat) nilC Tk.exact)), T.skip, T.skip, T.skip, T.skip, T.skip, T.skip, T.skip, T.skip, T.skip, T.skip, T.skip, T.skip, T.skip, T.skip, T.skip, T.skip] [] []) (Ext.exit (0 : Nat)) (St.mk [tc (C.slice (3 : Nat) (mints l)), tc (u (lastM l g)), T.hole, T.hole, T.hole, T.k (K.v (V.own (1 : Nat) (us (lineM l g)) (Tk.tok (0 : Nat)))), tc (u (lastM l g)), tc (bo (lastM l g != (0 : Int))), tc (bo (lastM l g != (0 : Int))), T.k (K.v (V.own (1 : Nat) (us (lineM l g)) (Tk.tok (0 : Nat)))), tc (u (lastM l g)), tc (bo (List.contains (lineM l g) (lastM l g))), tc (bo !List.contains (lineM l g) (lastM l g)), tc (bo !List.contains (lineM l g) (lastM l g)), T.hole, T.hole, T.hole, T.hole, T.hole, T.hole, T.hole, T.hole] [] [List.length (us (lineM l g))]), List.length (us (lineM l g)) = List.length (us (lineM l g))]) (by kernel_rfl) ⟨(L11b l g hl _ (by kernel_rfl) h0 _), (by first | rfl | assumption | omega | decide | simp_all), trivial⟩)
theorem lineBig {l : List Mi} (hl : l.length ≤ 100000) (g : Int) : (lineM l g).length < BIG := by have := lineM_len l g; unfold BIG; omega
theorem inP (l : List Mi) (o : Int) (g : Int) (hl : List.length l ≤ (100000 : Nat)) (k : Nat) : orac PP GL XX HH NN (k + 7) 12 [A.c (C.slice 3 (mints l)), A.c (u o), A.c (u g)] [] = some ([Res.c (bo (List.contains (lineM l g) o))], []) := by
  exact (orac_fn (show PP.funcs[12]? = some _ from rfl) (show XX 12 = none from rfl) (rs := [Res.c (bo (List.contains (lineM l g) o))]) (ims' := []) (gs := [G.call [Res.top 1 (us (lineM l g))] [], G.call [Res.c (bo (List.contains (lineM l g) o))] []]) (ps := [orac PP GL XX HH NN (k + 6) 10 [A.c (C.slice 3 (mints l)), A.c (u g)] [] = some ([Res.top 1 (us (lineM l g))], []), orac PP GL XX HH NN (k + 6) 19 [A.c (C.slice 1 (us (lineM l g))), A.c (u o)] [] = some ([Res.c (bo (List.contains (lineM l g) o))], [])]) (by kernel_rfl) ⟨(line l g hl _), (contains (lineM l g) o (lineBig hl g) _), trivial⟩)
theorem in12 (l : List Mi) (o : Int) (g : Int) (hl : List.length l ≤ (100000 : Nat)) (k : Nat) : orac PP GL XX HH NN (k + 7) 13 [A.c (C.slice 3 (mints l)), A.c (u o), A.c (u g)] [] = some ([Res.c (bo (List.contains (lineM l g) o))], []) := by
  exact (orac_fn (show PP.funcs[13]? = some _ from rfl) (show XX 13 = none from rfl) (rs := [Res.c (bo (List.contains (lineM l g) o))]) (ims' := []) (gs := [G.call [Res.top 1 (us (lineM l g))] [], G.call [Res.c (bo (List.contains (lineM l g) o))] []]) (ps := [orac PP GL XX HH NN (k + 6) 11 [A.c (C.slice 3 (mints l)), A.c (u g)] [] = some ([Res.top 1 (us (lineM l g))], []), orac PP GL XX HH NN (k + 6) 20 [A.c (C.slice 1 (us (lineM l g))), A.c (u o)] [] = some ([Res.c (bo (List.contains (lineM l g) o))], [])]) (by kernel_rfl) ⟨(line12 l g hl _), (has12 (lineM l g) o (lineBig hl g) _), trivial⟩)
def apartP_0 (l : List Mi) (a : Int) (b : Int) : Bool := bif List.contains (lineM l b) a then false else !List.contains (lineM l a) b
theorem apartP (l : List Mi) (a : Int) (b : Int) (hl : List.length l ≤ (100000 : Nat)) (k : Nat) : orac PP GL XX HH NN (k + 8) 14 [A.c (C.slice 3 (mints l)), A.c (u a), A.c (u b)] [] = some ([Res.c (bo (apartP_0 l a b))], []) := by
  rcases Bool.eq_false_or_eq_true (List.contains (lineM l b) a) with h0 | h0
  · exact (orac_fn (show PP.funcs[14]? = some _ from rfl) (show XX 14 = none from rfl) (rs := [Res.c (bo false)]) (ims' := []) (gs := [G.call [Res.c (bo (List.contains (lineM l b) a))] [], G.b false, G.b false, G.b false, G.b false, G.b false, G.b false]) (ps := [orac PP GL XX HH NN (k + 7) 12 [A.c (C.slice 3 (mints l)), A.c (u a), A.c (u b)] [] = some ([Res.c (bo (List.contains (lineM l b) a))], []), (!List.contains (lineM l b) a) = false, (!List.contains (lineM l b) a) = false, (!List.contains (lineM l b) a) = false, (!List.contains (lineM l b) a) = false, (!List.contains (lineM l b) a) = false, (!List.contains (lineM l b) a) = false]) (by kernel_rfl) ⟨(inP l a b hl _), (congrArg not h0), (congrArg not h0), (congrArg not h0), (congrArg not h0), (congrArg not h0), (congrArg not h0), trivial⟩).trans (by rw [show apartP_0 l a b = (false) from (ct h0 rfl)])
  · exact (orac_fn (show PP.funcs[14]? = some _ from rfl) (show XX 14 = none from rfl) (rs := [Res.c (bo !List.contains (lineM l a) b)]) (ims' := []) (gs := [G.call [Res.c (bo (List.contains (lineM l b) a))] [], G.b true, G.b true, G.b true, G.b true, G.call [Res.c (bo (List.contains (lineM l a) b))] [], G.b true, G.b true]) (ps := [orac PP GL XX HH NN (k + 7) 12 [A.c (C.slice 3 (mints l)), A.c (u a), A.c (u b)] [] = some ([Res.c (bo (List.contains (lineM l b) a))], []), (!List.contains (lineM l b) a) = true, (!List.contains (lineM l b) a) = true, (!List.contains (lineM l b) a) = true, (!List.contains (lineM l b) a) = true, orac PP GL XX HH NN (k + 7) 12 [A.c (C.slice 3 (mints l)), A.c (u b), A.c (u a)] [] = some ([Res.c (bo (List.contains (lineM l a) b))], []), (!List.contains (lineM l b) a) = true, (!List.contains (lineM l b) a) = true]) (by kernel_rfl) ⟨(inP l a b hl _), (congrArg not h0), (congrArg not h0), (congrArg not h0), (congrArg not h0), (inP l b a hl _), (congrArg not h0), (congrArg not h0), trivial⟩).trans (by rw [show apartP_0 l a b = (!List.contains (lineM l a) b) from (cf h0 rfl)])
def apart12_0 (l : List Mi) (a : Int) (b : Int) : Bool := bif List.contains (lineM l b) a then false else !List.contains (lineM l a) b
theorem apart12 (l : List Mi) (a : Int) (b : Int) (hl : List.length l ≤ (100000 : Nat)) (k : Nat) : orac PP GL XX HH NN (k + 8) 15 [A.c (C.slice 3 (mints l)), A.c (u a), A.c (u b)] [] = some ([Res.c (bo (apart12_0 l a b))], []) := by
  rcases Bool.eq_false_or_eq_true (List.contains (lineM l b) a) with h0 | h0
  · exact (orac_fn (show PP.funcs[15]? = some _ from rfl) (show XX 15 = none from rfl) (rs := [Res.c (bo false)]) (ims' := []) (gs := [G.call [Res.c (bo (List.contains (lineM l b) a))] [], G.b false, G.b false, G.b false, G.b false, G.b false, G.b false]) (ps := [orac PP GL XX HH NN (k + 7) 13 [A.c (C.slice 3 (mints l)), A.c (u a), A.c (u b)] [] = some ([Res.c (bo (List.contains (lineM l b) a))], []), (!List.contains (lineM l b) a) = false, (!List.contains (lineM l b) a) = false, (!List.contains (lineM l b) a) = false, (!List.contains (lineM l b) a) = false, (!List.contains (lineM l b) a) = false, (!List.contains (lineM l b) a) = false]) (by kernel_rfl) ⟨(in12 l a b hl _), (congrArg not h0), (congrArg not h0), (congrArg not h0), (congrArg not h0), (congrArg not h0), (congrArg not h0), trivial⟩).trans (by rw [show apart12_0 l a b = (false) from (ct h0 rfl)])
  · exact (orac_fn (show PP.funcs[15]? = some _ from rfl) (show XX 15 = none from rfl) (rs := [Res.c (bo !List.contains (lineM l a) b)]) (ims' := []) (gs := [G.call [Res.c (bo (List.contains (lineM l b) a))] [], G.b true, G.b true, G.b true, G.b true, G.call [Res.c (bo (List.contains (lineM l a) b))] [], G.b true, G.b true]) (ps := [orac PP GL XX HH NN (k + 7) 13 [A.c (C.slice 3 (mints l)), A.c (u a), A.c (u b)] [] = some ([Res.c (bo (List.contains (lineM l b) a))], []), (!List.contains (lineM l b) a) = true, (!List.contains (lineM l b) a) = true, (!List.contains (lineM l b) a) = true, (!List.contains (lineM l b) a) = true, orac PP GL XX HH NN (k + 7) 13 [A.c (C.slice 3 (mints l)), A.c (u b), A.c (u a)] [] = some ([Res.c (bo (List.contains (lineM l a) b))], []), (!List.contains (lineM l b) a) = true, (!List.contains (lineM l b) a) = true]) (by kernel_rfl) ⟨(in12 l a b hl _), (congrArg not h0), (congrArg not h0), (congrArg not h0), (congrArg not h0), (in12 l b a hl _), (congrArg not h0), (congrArg not h0), trivial⟩).trans (by rw [show apart12_0 l a b = (!List.contains (lineM l a) b) from (cf h0 rfl)])
end Go.Dm
