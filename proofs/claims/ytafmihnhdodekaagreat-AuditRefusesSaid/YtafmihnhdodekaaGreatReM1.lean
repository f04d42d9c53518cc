/-
  A part of the proofs over this seat: what its functions make of data, in plain terms (the file in which the theorems stand says what is proved).
-/
import Derived.KernelRfl
import Derived.Test.YtafmihnhdodekaaGreatReM0
namespace Go.Dm
open Go
section
variable {V : Bool → Ve → Prop}
def QT (n : Nd) (p : Pk) (c : Int) : Prop :=
  (p.kind = 8 ∧ n.state = 3 ∧ c = eN n) ∨ (p.kind = 6 ∧ n.state = 4 ∧ n.store.super.inc = true ∧ c = n.peer.v.cur) ∨
  (p.kind = 1 ∧ n.state = 1 ∧ (((aN n p.hello).1.kind = 1 ∧ c = eN n) ∨ ((aN n p.hello).1.kind ≠ 4 ∧ (aN n p.hello).1.kind ≠ 1 ∧ (aN n p.hello).1.src ≠ n.id ∧ c = p.hello.v.cur)))
theorem Ab (hc : Cp V) {n : Nd} (hn : NI V n) (hx : Exa n) {p : Pk} (hf : bw n p = true) (hh : p.kind = 1 → V p.hello.inc p.hello.v) : Xs (QT n p) n (eC n p) := by
  obtain ⟨hu, hk⟩ := iy hf
  unfold eC
  rcases hk with ⟨k1, s1⟩ | ⟨k1, s1, k6, k8, k9⟩
  · have : (p.kind == 1) = true := by rw [k1]; rfl
    rw [this]
    exact Cu hc hn hu s1 hx (hh k1) _ (fun h => Or.inr (Or.inr ⟨k1, s1, Or.inl ⟨h, rfl⟩⟩)) (fun a b c => Or.inr (Or.inr ⟨k1, s1, Or.inr ⟨a, b, c, rfl⟩⟩))
  · refine mH (fun h => absurd (eq_of_beq h) k1) (fun _ => ?_)
    refine kc (xe hu hx _ _) (kc (xh hu hx _) (kc ⟨sQ hu hx _, dp.nil _⟩ (kc ⟨Vx.refl hx, dp.se _ _ (p := pkd 6 _ _) (by show (6 : Int) ≠ 8; decide)⟩ ?_)))
    refine mH (fun h => BM hc hn hu (k6 (eq_of_beq h)) hx _ _ (fun hi => Or.inr (Or.inl ⟨eq_of_beq h, k6 (eq_of_beq h), hi, rfl⟩))) (fun _ => ?_)
    refine kc ⟨vQ hu hx _, dp.nil _⟩ ?_
    refine mH (fun h => vX hc hn hu hx (Or.inl ⟨eq_of_beq h, k8 (eq_of_beq h), rfl⟩)) (fun _ => ?_)
    exact kc ⟨Vx.sup hx hu rfl rfl rfl (fun _ => rfl), dp.nil _⟩ (wz hc hn hu hx _)
theorem mR (hc : Cp V) {n : Nd} (hn : NI V n) (hx : Exa n) {b : ByteArray} (hb : (aA b n.ses).2 = 0 → HeB V b) : Xs (fun c => (aA b n.ses).2 = 0 ∧ (bc b).2 = 0 ∧ QT n (bc b).1 c) n (aw n b) := by
  unfold aw
  refine kc ⟨Vx.refl hx, dp.nil _⟩ (kc ⟨Vx.refl hx, dp.nil _⟩ (mH (fun _ => ⟨Vx.refl hx, .cons (nE _ _) (.nil _)⟩) (fun h => ?_)))
  simp only [Bool.or_eq_false_iff, Bool.not_eq_false'] at h
  have h0 : (aA b n.ses).2 = 0 := eq_of_beq h.1
  have h1 := jt h0
  have ht := Ab hc hn hx h.2 (fun hk => by rw [h1.2.2] at hk ⊢; exact hb h0 h1.1 hk)
  refine ⟨⟨ht.1.bl, ht.1.pe, ht.1.iv, ht.1.ex, fun v hv => ?_⟩, ht.2⟩
  rcases ht.1.nw v hv with h5 | h5
  · exact Or.inl h5
  · exact Or.inr ⟨h0, h1.1, by rw [← h1.2.2]; exact h5⟩
theorem kV {n : Nd} (h1 : n.state = 1) (b : ByteArray) : (aw n b).1 = n ∨ ((aA b n.ses).2 = 0 ∧ (bc b).2 = 0 ∧ (bc b).1.kind = 1 ∧ n.up = true ∧ (aw n b).1 = (yz n (bc b).1.hello).1) := by
  unfold aw
  cases c1 : (!n.up || n.state == 0) with
  | true => exact Or.inl rfl
  | false =>
    cases c2 : (aA b n.ses).2 == 16 with
    | true => exact Or.inl rfl
    | false =>
      cases c3 : (!((aA b n.ses).2 == 0) || !bw n (aA b n.ses).1) with
      | true => exact Or.inl rfl
      | false =>
        right
        simp only [Bool.or_eq_false_iff, Bool.not_eq_false'] at c3
        have h0 : (aA b n.ses).2 = 0 := eq_of_beq c3.1
        have h2 := jt h0
        have hf := iy c3.2
        rw [h2.2.2] at hf
        have hk : (bc b).1.kind = 1 := by
          have := hf.2
          omega
        have hk2 : ((bc b).1.kind == 1) = true := by rw [hk]; rfl
        refine ⟨h0, h2.1, hk, hf.1, ?_⟩
        show (eC n (aA b n.ses).1).1 = _
        rw [h2.2.2]
        unfold eC
        rw [hk2]
        rfl
theorem nO (hc : Cp V) {n : Nd} (hn : NI V n) (hu : n.up = true) (h1 : n.state = 1) {h : He} {v : Vd} (m : BitVec 32) (h3 : (ka n h v m).1.state = 3) : v.kind ≠ 4 ∧ v.kind ≠ 1 ∧ v.src = n.id := by
  unfold ka at h3
  cases k4 : v.kind == 4 with
  | true => rw [k4] at h3; simp at h3; omega
  | false =>
    rw [k4] at h3
    cases k1 : v.kind == 1 with
    | true =>
      exfalso
      rw [k1] at h3
      have hb : SV V (ck n) := hc.ret _ _ (hn.s hu)
      cases hk : (ac n (ck n)).2 with
      | true => rw [hk] at h3; simp [lU] at h3
      | false =>
        obtain ⟨x, _, _, _, _, x5⟩ := fm hc hn.d hb hk
        rw [hk, x5] at h3
        simp [ch] at h3
    | false =>
      rw [k1] at h3
      refine ⟨by simpa using k4, by simpa using k1, ?_⟩
      cases hs : v.src == n.id with
      | true => exact eq_of_beq hs
      | false =>
        exfalso
        rw [hs] at h3
        cases hk : (eQ n m).2 with
        | false =>
          have he : (eQ n m).1 = ch { n with store := (dK n.store m).1 } := dN hk
          rw [hk, he] at h3
          simp [ch] at h3
        | true =>
          rw [hk] at h3
          cases hk2 : (ac (eQ n m).1 (jr n h)).2 with
          | false =>
            rw [hk2] at h3
            simp only [Bool.not_true, Bool.not_false, cond_true, cond_false] at h3
            have : (ac (eQ n m).1 (jr n h)).1.state = 0 := by
              unfold ac at hk2 ⊢
              cases hz : !((bO (eQ n m).1.store (jr n h)).2 == 0) with
              | true => rfl
              | false => rw [hz] at hk2; simp at hk2
            omega
          | true =>
            rw [hk2] at h3
            simp only [Bool.not_true, cond_false] at h3
            have hq : ∀ y : Nd, y.state = 4 → (cQ y).1.state = 4 ∨ (cQ y).1.state = 0 := by
              intro y hy
              unfold cQ
              refine ai (p := fun (z : Nd × List Ou) => z.1.state = 4 ∨ z.1.state = 0) (Or.inl hy) (ai (p := fun (z : Nd × List Ou) => z.1.state = 4 ∨ z.1.state = 0) (Or.inl hy) ?_)
              have hz : (ac y (gi y)).1.state = 4 ∨ (ac y (gi y)).1.state = 0 := by
                unfold ac
                exact ai (p := fun (z : Nd × Bool) => z.1.state = 4 ∨ z.1.state = 0) (Or.inr rfl) (Or.inl hy)
              exact ai (p := fun (z : Nd × List Ou) => z.1.state = 4 ∨ z.1.state = 0) hz hz
            have := hq (lU (ac (eQ n m).1 (jr n h)).1 h 4) rfl
            omega
theorem uy (y : Nd) : (cQ y).1.up = true → (cQ y).1.peer = y.peer := by
  unfold cQ
  refine ai (p := fun (z : Nd × List Ou) => z.1.up = true → z.1.peer = y.peer) (fun _ => rfl) (ai (p := fun (z : Nd × List Ou) => z.1.up = true → z.1.peer = y.peer) (fun _ => rfl) ?_)
  have hz : (ac y (gi y)).1.up = true → (ac y (gi y)).1.peer = y.peer := by
    unfold ac
    exact ai (p := fun (z : Nd × Bool) => z.1.up = true → z.1.peer = y.peer) (fun h => absurd h (by simp [ch])) (fun _ => rfl)
  exact ai (p := fun (z : Nd × List Ou) => z.1.up = true → z.1.peer = y.peer) hz hz
theorem pX {n : Nd} (h1 : n.state = 1) {h : He} {v : Vd} (m : BitVec 32) (hu : (ka n h v m).1.up = true) (h4 : (ka n h v m).1.state ≠ 1) : (ka n h v m).1.peer = h := by
  have key : (ka n h v m).1.up = true → (ka n h v m).1.state = 1 ∨ (ka n h v m).1.peer = h := by
    unfold ka
    have hd : ∀ (y : Nd) (b : Su), (ac y b).2 = false → (ac y b).1.up = false := by
      intro y b hk
      unfold ac at hk ⊢
      cases hz : !((bO y.store b).2 == 0) with
      | true => rfl
      | false => rw [hz] at hk; simp at hk
    cases v.kind == 4 with
    | true => exact fun _ => Or.inl h1
    | false =>
      cases v.kind == 1 with
      | true =>
        cases hk : (ac n (ck n)).2 with
        | true => exact fun _ => Or.inr rfl
        | false => intro hu2; have hu2 : (ac n (ck n)).1.up = true := hu2; rw [hd _ _ hk] at hu2; exact absurd hu2 (by simp)
      | false =>
        cases hk : (eQ n m).2 with
        | false =>
          intro hu2
          have hu2 : (eQ n m).1.up = true := hu2
          have he : (eQ n m).1 = ch { n with store := (dK n.store m).1 } := dN hk
          rw [he] at hu2
          exact absurd hu2 (by simp [ch])
        | true =>
          cases v.src == n.id with
          | true => exact fun _ => Or.inr rfl
          | false =>
            cases hk2 : (ac (eQ n m).1 (jr n h)).2 with
            | false => intro hu2; have hu2 : (ac (eQ n m).1 (jr n h)).1.up = true := hu2; rw [hd _ _ hk2] at hu2; exact absurd hu2 (by simp)
            | true => intro hu2; exact Or.inr (uy _ hu2)
  rcases key hu with h5 | h5
  · exact absurd h5 h4
  · exact h5
end
theorem tJ {T : Tre} {n : Nd} (hn : NI (PV T) n) {v : Ve} (h : Pos n v) : PV T false v := by
  cases hu : n.up with
  | true =>
    have h1 := h.1 hu
    have h2 : PV T n.store.super.inc n.store.super.v := hn.s hu
    rw [h1.1, h1.2] at h2
    exact h2
  | false =>
    obtain ⟨s, h1, h2, h3⟩ := yA.of hn.d (h.2 hu)
    have h1 : PV T s.inc s.v := h1
    rw [h2, h3] at h1
    exact h1
structure Sy (T T' : Tre) (n m : Nd) : Prop where
  sx : Sx T T' n m
  ex : Exa m
  bl : m.up = true → n.up = true ∧ m.store.super.blocks = n.store.super.blocks
  po : ∀ v, Pos m v → Pos n v ∨ (n.store.super.inc = false ∧ ∃ g, T' = (g, eN n) :: T ∧ v = dB n.store.super.v g)
theorem xz {T : Tre} (ht : b9 T) {n : Nd} (hn : NI (PV T) n) (hu : n.up = true) (h0 : n.state = 0) (hf : Fr T n) (hx : Exa n) : aH n = (n, 14) ∨ ∃ g, Sy T ((g, eN n) :: T) n (aH n).1 := by
  rcases gM ht hn hu h0 hf with h | ⟨g, hm, _⟩
  · exact Or.inl h
  · right
    suffices key : Exa (aH n).1 ∧ ((aH n).1.up = true → n.up = true ∧ (aH n).1.store.super.blocks = n.store.super.blocks) ∧ (∀ v, Pos (aH n).1 v → Pos n v ∨ (n.store.super.inc = false ∧ ∃ g', (g, eN n) :: T = (g', eN n) :: T ∧ v = dB n.store.super.v g')) from ⟨g, hm.sx, key.1, key.2.1, key.2.2⟩
    have hg : ∃ r, n.draws = g :: r := ⟨_, hm.dr⟩
    obtain ⟨r, hd⟩ := hg
    obtain ⟨f1, f2, f3, f4⟩ := hf g (by rw [hd]; simp)
    have hv : VeR (kj n g).v := ((hn.s hu).mint f4 hm.tr).1
    have he : aH n = fL n g r := by unfold aH; rw [hd]
    have z : (g == 0) = false := by simpa using f1
    have hxv : OkD (Lks (i6 n g r).store.super) (i6 n g r).store.disk := hx hu
    have hk := de hxv hv
    rw [he]
    unfold fL
    rw [z]
    simp only [cond_false]
    cases hk2 : (ac (i6 n g r) (kj n g)).2 with
    | false =>
      obtain ⟨x, x1, x2⟩ := hk.2 hk2
      simp only [Bool.not_false, cond_true]
      rw [x1]
      refine ⟨fun h => absurd h (by simp [ch]), fun h => absurd h (by simp [ch]), fun v hv => ?_⟩
      obtain ⟨s, s1, s2, s3⟩ := yA.of (d := (ch x).store.disk) (x2.same rfl rfl) (hv.2 rfl)
      rcases s1 with s1 | s1
      · have s1 : Lks n.store.super s := s1
        exact Or.inl ⟨fun _ => ⟨s1.1.symm.trans s2, s1.2.symm.trans s3⟩, fun h => absurd (hu.symm.trans h) (by simp)⟩
      · have a1 : s.inc = n.store.super.inc := s1.1
        have a2 : s.v = dB n.store.super.v g := s1.2
        exact Or.inr ⟨a1.symm.trans s2, g, rfl, s3.symm.trans a2⟩
    | true =>
      obtain ⟨d, hdd, he2⟩ := hk.1 hk2
      simp only [Bool.not_true, cond_false]
      rw [he2]
      refine ⟨fun _ => hdd, fun _ => ⟨hu, rfl⟩, fun v hv => ?_⟩
      have h5 := hv.1 hu
      have a1 : n.store.super.inc = false := h5.1
      have a2 : dB n.store.super.v g = v := h5.2
      exact Or.inr ⟨a1, g, rfl, a2.symm⟩
theorem xc {T : Tre} (ht : b9 T) {n : Nd} (hn : NI (PV T) n) (hf : Fr T n) (hx : Exa n) (w : Bool) : ∃ T', Sy T T' n (dD n w).1.1 := by
  have hsame : Sy T T n n := ⟨Sx.flat ht hn rfl rfl rfl, hx, fun h => ⟨h, rfl⟩, fun v hv => Or.inl hv⟩
  unfold dD
  cases hu : n.up with
  | false => exact ⟨T, hsame⟩
  | true =>
    simp only [Bool.not_true, cond_false]
    have key : ∃ T', Sy T T' n (an n).1 := by
      have hl : NI (PV T) (fD n) := ⟨hn.d, hn.s, fun h4 => absurd h4 (by simp [fD]), fun _ => rfl⟩
      have hlost : Sy T T n (fD n) := ⟨Sx.flat ht hl rfl rfl rfl, hx, fun h => ⟨h, rfl⟩, fun v hv => Or.inl hv⟩
      unfold an
      cases hs : n.state == 0 with
      | true => exact ⟨T, hsame⟩
      | false =>
        simp only [cond_false]
        cases hr : n.req.on with
        | false => exact ⟨T, hlost⟩
        | true =>
          simp only [Bool.not_true, cond_false]
          have hm : ∃ T', Sy T T' n (aH (fD n)).1 := by
            rcases xz ht hl hu rfl hf hx with h | ⟨g, h⟩
            · rw [h]; exact ⟨T, hlost⟩
            · refine ⟨_, ⟨h.sx.ok, h.sx.tr, h.sx.id, h.sx.hi⟩, h.ex, h.bl, fun v hv => ?_⟩
              rcases h.po v hv with h5 | h5
              · exact Or.inl h5
              · exact Or.inr h5
          exact ai (p := fun (x : Nd × List Ou) => ∃ T', Sy T T' n x.1) hm hm
    exact ai (p := fun (x : (Nd × Bool) × List Ou) => ∃ T', Sy T T' n x.1.1) key key
theorem sC {T : Tre} (ht : b9 T) {n : Nd} (hn : NI (PV T) n) (hf : Fr T n) (hx : Exa n) (id b : Int) (x : ByteArray) :
    dp (bR n id b x).1 (bR n id b x).2 ∧ (Vx (fun _ => False) n (bR n id b x).1 ∧ Bec (PV T) n (bR n id b x).1 ∨ (n.state = 0 ∧ (bR n id b x).1.state = 0 ∧ ∃ T', Sy T T' n (bR n id b x).1)) := by
  unfold bR
  cases hb : !(bP n b x == 0) with
  | true => exact ⟨dp.re _ _ _ _ _, Or.inl ⟨Vx.refl hx, Bec.refl hn⟩⟩
  | false =>
    simp only [cond_false]
    obtain ⟨hu, h1, _, _⟩ := l3 (n := n) (b := b) (x := x) (by simpa using hb)
    cases hs : (n.state == 0 && !n.minted) with
    | false =>
      have := qd (Q := fun _ => False) hu hx id b x
      exact ⟨this.2, Or.inl ⟨this.1, (jR hn h1 id b x).1⟩⟩
    | true =>
      simp only [cond_true]
      have h0 : n.state = 0 := by simp at hs; exact hs.1
      rcases gM ht hn hu h0 hf with h | ⟨g, h, h2⟩
      · rw [h]; exact ⟨dp.re _ _ _ _ _, Or.inl ⟨Vx.refl hx, Bec.refl hn⟩⟩
      · have hy : ∃ g, Sy T ((g, eN n) :: T) n (aH n).1 := by
          rcases xz ht hn hu h0 hf hx with h5 | h5
          · exfalso
            rw [h5] at h2
            rcases h2 with h2 | h2
            · exact absurd h2.1 (by simp)
            · exact absurd h2.1 (by simp)
          · exact h5
        obtain ⟨g2, hy⟩ := hy
        rcases h2 with ⟨h2, h3⟩ | ⟨h2, h3⟩
        · rw [h2]
          exact ⟨dp.nil _, Or.inr ⟨h0, h.st, _, hy⟩⟩
        · rw [h2]
          have hni := hy.sx.ok
          have hw := jR hni (by rw [h.st]; decide) id b x
          have hxs := qd (Q := fun _ => False) h3 hy.ex id b x
          refine ⟨hxs.2, Or.inr ⟨h0, ?_, _, ⟨hw.1.ok, hy.sx.tr, hw.1.id.trans hy.sx.id, ?_⟩, hxs.1.ex, fun hu2 => ?_, fun v hv => ?_⟩⟩
          · show (cf (aH n).1 id b x).1.state = 0
            cases hu2 : (cf (aH n).1 id b x).1.up with
            | false => exact hw.1.ok.z hu2
            | true =>
              have := hw.1.st hu2
              rw [h.st] at this
              omega
          · rcases hy.sx.hi with ⟨e, _⟩ | ⟨g3, e1, e2, e3⟩
            · exact absurd (congrArg List.length e) (by simp)
            · refine Or.inr ⟨g3, e1, ?_, ?_⟩
              · show n.draws = g3 :: (cf (aH n).1 id b x).1.draws
                rw [hw.1.dr]; exact e2
              · show (cf (aH n).1 id b x).1.mints = _
                rw [hw.1.mi]; exact e3
          · exact ⟨hu, (hxs.1.bl hu2).trans (hy.bl h3).2⟩
          · rcases hxs.1.nw v hv with h5 | h5
            · exact hy.po v h5
            · exact h5.elim
theorem rx {d : Dk} (hc : d.cache = []) (h0 : (bq d).2 = 0) : OkD (Lks (bq d).1.super) d ∧ (bq d).1.super.blocks = IntKind.wrap .i64 ((d.sure.length : Int) - 2) := by
  have hs := lZ (P := fun s => (cu (dj d 0)).2 = 0 → s = (cu (dj d 0)).1) (d := d) ⟨fun h => by
    have e : d.sure.getD 0 ⟨#[]⟩ = dj d 0 := by unfold dj; rw [hc]; rfl
    rw [e]; exact fun _ => rfl, fun w hw => by rw [hc] at hw; simp at hw⟩ h0
  have e : d.sure.getD 0 ⟨#[]⟩ = dj d 0 := by unfold dj; rw [hc]; rfl
  refine ⟨⟨fun h => ?_, fun w hw => by rw [hc] at hw; simp at hw⟩, ?_⟩
  · rw [e] at h ⊢
    rw [hs.2 h]
    exact ⟨rfl, rfl⟩
  · unfold bq at h0 ⊢
    cases h1 : !((gd d).2 == 0) with
    | true =>
      rw [h1] at h0
      exfalso
      have : (gd d).2 = 0 := h0
      rw [this] at h1
      simp at h1
    | false =>
      rw [h1] at h0
      cases h2 : !((fj d).2 == 0) with
      | true =>
        rw [h2] at h0
        exfalso
        have : (fj d).2 = 0 := h0
        rw [this] at h2
        simp at h2
      | false =>
        rw [h2] at h0
        cases h3 : !((tA d).2 == 0) with
        | true =>
          rw [h3] at h0
          exfalso
          have : (tA d).2 = 0 := h0
          rw [this] at h3
          simp at h3
        | false =>
          show (gd d).1.blocks = _
          have hs : (gd d).2 = 0 := by simpa using h1
          unfold gd at hs ⊢
          cases h4 : !((bd d 0).2 == 0) with
          | true =>
            rw [h4] at hs
            exfalso
            have : (bd d 0).2 = 0 := hs
            rw [this] at h4
            simp at h4
          | false =>
            rw [h4] at hs
            cases h5 : !((cu (bd d 0).1).2 == 0) with
            | true =>
              rw [h5] at hs
              exfalso
              have : (cu (bd d 0).1).2 = 0 := hs
              rw [this] at h5
              simp at h5
            | false =>
              rw [h5] at hs
              cases h6 : !mV d (cu (bd d 0).1).1 with
              | true => rw [h6] at hs; simp at hs
              | false =>
                show (cu (bd d 0).1).1.blocks = _
                have h7 : mV d (cu (bd d 0).1).1 = true := by simpa using h6
                unfold mV at h7
                exact (eq_of_beq h7).symm
theorem uT (d : Dk) (ks : List Bool) : (bU d ks).sure.length = d.sure.length := by
  unfold bU
  have key : ∀ (l : List (Wr × Bool)) (s : List ByteArray), (l.foldl (fun s x => bif x.2 then s.set x.1.sec.toNat x.1.data else s) s).length = s.length := by
    intro l
    induction l with
    | nil => intro s; rfl
    | cons w l ih =>
      intro s
      rw [List.foldl_cons, ih]
      exact ai (p := fun (x : List ByteArray) => x.length = s.length) (by simp) rfl
  exact key _ _
theorem iz {n : Nd} (hx : Exa n) (ks : List Bool) : Exa (bt n ks).1 ∧ (∀ v, Pos (bt n ks).1 v → Pos n v) ∧ ((bt n ks).1.up = true → n.up = false → (bt n ks).1.store.super.blocks = IntKind.wrap .i64 ((n.store.disk.sure.length : Int) - 2)) := by
  unfold bt
  cases hu : n.up with
  | true => exact ⟨hx, fun v hv => hv, fun _ h => absurd h (by simp)⟩
  | false =>
    simp only [cond_false]
    have hr := qT (A7 n.store.disk) ks
    cases ha : !((bq (bU n.store.disk ks)).2 == 0) with
    | true =>
      simp only [cond_true]
      refine ⟨fun h => absurd h (by simp), fun v hv => ⟨fun h => absurd (hu.symm.trans h) (by simp), fun _ => ?_⟩, fun h => absurd h (by simp)⟩
      obtain ⟨s, s1, s2, s3⟩ := yA.of hr (hv.2 rfl)
      rw [← s3]
      exact s1 s2
    | false =>
      simp only [cond_false]
      have h0 : (bq (bU n.store.disk ks)).2 = 0 := by simpa using ha
      have h1 := lZ hr h0
      have h2 := rx (d := bU n.store.disk ks) rfl h0
      refine ⟨fun _ => ?_, fun v hv => ⟨fun h => absurd (hu.symm.trans h) (by simp), fun _ => ?_⟩, fun _ _ => ?_⟩
      · show OkD (Lks (bq (bU n.store.disk ks)).1.super) (bq (bU n.store.disk ks)).1.disk
        rw [h1.1]
        exact h2.1
      · have h3 := hv.1 rfl
        have a1 : (bq (bU n.store.disk ks)).1.super.inc = false := h3.1
        have a2 : (bq (bU n.store.disk ks)).1.super.v = v := h3.2
        rw [← a2]
        exact h1.2 a1
      · show (bq (bU n.store.disk ks)).1.super.blocks = _
        rw [h2.2, uT]
end Go.Dm
namespace Go.Dm
open Go
def JJ (T : Tre) (a b : Nd) : Prop := ∀ v w, Pos a v → Pos b w → Gp T v w ∧ Gp T w v
theorem JJ.symm {T : Tre} {a b : Nd} (h : JJ T a b) : JJ T b a := fun v w hv hw => (h w v hw hv).symm
theorem JJ.step {T : Tre} {Q : Int → Prop} {a b m : Nd} (h : JJ T a b) (hv : Vx Q a m) (hq : ∀ c, Q c → b.up = true ∧ c = eN b) : JJ T m b := by
  intro v w pv pw
  rcases hv.nw v pv with h5 | h5
  · exact h v w h5 pw
  · obtain ⟨h6, h7⟩ := hq _ h5
    have h8 : w.cur = v.cur := by rw [h7]; have := (pw.1 h6).2; unfold eN; rw [this]
    exact ⟨Gp.eq h8, Gp.eq h8.symm⟩
theorem JJ.mint {T T' : Tre} {a b m : Nd} (na : NI (PV T) a) (nb : NI (PV T) b) (h : JJ T a b) (hy : Sy T T' a m) : JJ T' m b := by
  intro v w pv pw
  have kw := (tJ nb pw).2.1
  have ht := hy.sx.tr
  have hold : Pos a v → Gp T' v w ∧ Gp T' w v := by
    intro h5
    obtain ⟨g1, g2⟩ := h v w h5 pw
    have kv := (tJ na h5).2.1
    rcases hy.sx.hi with ⟨e, _⟩ | ⟨g, e, _⟩
    · rw [e]; exact ⟨g1, g2⟩
    · rw [e] at ht ⊢
      exact ⟨g1.more ht kv, g2.more ht kw⟩
  rcases hy.po v pv with h5 | ⟨hi, g, e, rfl⟩
  · exact hold h5
  · have hpv := tJ hy.sx.ok pv
    rw [e] at ht hpv ⊢
    have hcur : (dB a.store.super.v g).cur = g := by unfold dB; cases a.store.super.v.bit == 0 <;> rfl
    have hbit : (dB a.store.super.v g).bit ≠ 0 := by
      unfold dB
      cases hb : a.store.super.v.bit == 0 with
      | true => exact Kn.nz ht.2.2.2.2 ht.2.2.2.1
      | false => simpa using hb
    exact ⟨Gp.two (Kn.nz ht.2.2.2.2 kw) (hpv.2.2 rfl).2 hbit, Gp.fresh ht kw hcur⟩
structure Core (fut : List Int) (T : Tre) (B : Int) (a b : Nd) : Prop where
  ci : CI fut T a b
  xa : Exa a
  xb : Exa b
  j : JJ T a b
  ba : a.up = true → a.store.super.blocks = B
  bb : b.up = true → b.store.super.blocks = B
def wc (n : Nd) (h : He) (x : ByteArray) : Prop := (bc x).2 = 0 → (bc x).1.kind = 8 → n.state ≠ 1 ∧ n.store.super.inc = false ∧ eN n = h.v.cur
structure GrX (T : Tre) (a b : Nd) (k : Lk) (H0 H1 : He) : Prop where
  g : GrH T a b k H0 H1
  f0 : a.state = 3 → (ag H0 H1).src = 0
  f1 : b.state = 3 → (ag H0 H1).src = 1
  q0 : a.state = 4 → a.peer = H1
  q1 : b.state = 4 → b.peer = H0
  e0 : ∀ x ∈ k.to0, wc b H0 x
  e1 : ∀ x ∈ k.to1, wc a H1 x
structure Iv (fut : List Int) (T : Tre) (B : Int) (c : Cl) : Prop where
  co : Core fut T B c.n0 c.n1
  dn : c.link.up = false → c.n0.state = 0 ∧ c.n1.state = 0
  up : c.link.up = true → ∃ H0 H1, GrX T c.n0 c.n1 c.link H0 H1
theorem Iv.inv {fut : List Int} {T : Tre} {B : Int} {c : Cl} (h : Iv fut T B c) : Inv fut T c :=
  ⟨h.co.ci, ⟨h.dn, fun hk => by obtain ⟨H0, H1, hg⟩ := h.up hk; exact ⟨H0, H1, hg.g⟩⟩⟩
theorem Core.syA {fut : List Int} {T T' : Tre} {B : Int} {a b m : Nd} (h : Core fut T B a b) (hy : Sy T T' a m) : Core fut T' B m b :=
  ⟨h.ci.stepA hy.sx, hy.ex, h.xb, h.j.mint h.ci.na h.ci.nb hy, fun hu => (hy.bl hu).2.trans (h.ba (hy.bl hu).1), h.bb⟩
theorem Core.vxA {fut : List Int} {T : Tre} {B : Int} {Q : Int → Prop} {a b m : Nd} (h : Core fut T B a b) (hb : Bec (PV T) a m) (hv : Vx Q a m) (hq : ∀ c, Q c → b.up = true ∧ c = eN b) : Core fut T B m b :=
  ⟨h.ci.stepA (Sx.bec h.ci.tr hb), hv.ex, h.xb, h.j.step hv hq, fun hu => (hv.bl hu).trans (h.ba (hb.up hu).1), h.bb⟩
theorem GrX.step0 {T : Tre} {Q : Int → Prop} {a b m : Nd} {k : Lk} {H0 H1 : He} (h : GrX T a b k H0 H1) (hb : Bec (PV T) a m) (hv : Vx Q a m) (hu : m.up = true) (h4 : m.state = 4 → a.state ≠ 4 → (ag H0 H1).src = 1 ∧ m.peer = H1) (h3 : m.state = 3 → a.state ≠ 3 → (ag H0 H1).src = 0) {l : List Ou} (ho : dg l) (he : dp m l) : GrX T m b (a9 0 k l) H0 H1 := by
  have hst := hb.st hu
  have hsl := gR l k
  have hq : m.state = 4 → m.peer = H1 := by
    intro hm
    by_cases h5 : a.state = 4
    · rw [hv.pe hu (by omega)]; exact h.q0 h5
    · exact (h4 hm h5).2
  have hf : m.state = 3 → (ag H0 H1).src = 0 := by
    intro hm
    by_cases h5 : a.state = 3
    · exact h.f0 h5
    · exact h3 hm h5
  have hee : ∀ x ∈ (a9 0 k l).to1, wc m H1 x := by
    intro x hx h0 h8
    rcases hsl.2 x hx with hx | ⟨o, hol, hk, rfl⟩
    · obtain ⟨a1, a2, a3⟩ := h.e1 x hx h0 h8
      obtain ⟨b1, b2⟩ := hv.iv hu a1 a2
      exact ⟨by omega, b1, b2.trans a3⟩
    · obtain ⟨_, a2, a3, a4⟩ := he o hol hk h0 h8
      exact ⟨by omega, a3, by rw [a4, hq a2]⟩
  exact { g := h.g.step0 hb hu (fun x y => (h4 x y).1) (ho.is _), f0 := hf, f1 := h.f1, q0 := hq, q1 := h.q1, e0 := by rw [hsl.1]; exact h.e0, e1 := hee }
theorem GrX.sam0 {T : Tre} {a b m : Nd} {k : Lk} {H0 H1 : He} (h : GrX T a b k H0 H1) (hs : Sam a m) (hp : m.peer = a.peer) (hi : m.store.super.inc = a.store.super.inc) : GrX T m b k H0 H1 :=
  { g := h.g.sam0 hs, f0 := by rw [hs.st]; exact h.f0, f1 := h.f1, q0 := by rw [hs.st, hp]; exact h.q0, q1 := h.q1, e0 := h.e0, e1 := fun x hx h0 h8 => by have := h.e1 x hx h0 h8; rw [hs.st, hi, hs.cur]; exact this }
theorem Core.syB {fut : List Int} {T T' : Tre} {B : Int} {a b m : Nd} (h : Core fut T B a b) (hy : Sy T T' b m) : Core fut T' B a m :=
  ⟨h.ci.stepB hy.sx, h.xa, hy.ex, (h.j.symm.mint h.ci.nb h.ci.na hy).symm, h.ba, fun hu => (hy.bl hu).2.trans (h.bb (hy.bl hu).1)⟩
theorem Core.vxB {fut : List Int} {T : Tre} {B : Int} {Q : Int → Prop} {a b m : Nd} (h : Core fut T B a b) (hb : Bec (PV T) b m) (hv : Vx Q b m) (hq : ∀ c, Q c → a.up = true ∧ c = eN a) : Core fut T B a m :=
  ⟨h.ci.stepB (Sx.bec h.ci.tr hb), h.xa, hv.ex, (h.j.symm.step hv hq).symm, h.ba, fun hu => (hv.bl hu).trans (h.bb (hb.up hu).1)⟩
theorem GrX.step1 {T : Tre} {Q : Int → Prop} {a b m : Nd} {k : Lk} {H0 H1 : He} (h : GrX T a b k H0 H1) (hb : Bec (PV T) b m) (hv : Vx Q b m) (hu : m.up = true) (h4 : m.state = 4 → b.state ≠ 4 → (ag H0 H1).src = 0 ∧ m.peer = H0) (h3 : m.state = 3 → b.state ≠ 3 → (ag H0 H1).src = 1) {l : List Ou} (ho : dg l) (he : dp m l) : GrX T a m (a9 1 k l) H0 H1 := by
  have hst := hb.st hu
  have hsl := gE l k
  have hq : m.state = 4 → m.peer = H0 := by
    intro hm
    by_cases h5 : b.state = 4
    · rw [hv.pe hu (by omega)]; exact h.q1 h5
    · exact (h4 hm h5).2
  have hf : m.state = 3 → (ag H0 H1).src = 1 := by
    intro hm
    by_cases h5 : b.state = 3
    · exact h.f1 h5
    · exact h3 hm h5
  have hee : ∀ x ∈ (a9 1 k l).to0, wc m H0 x := by
    intro x hx h0 h8
    rcases hsl.2 x hx with hx | ⟨o, hol, hk, rfl⟩
    · obtain ⟨a1, a2, a3⟩ := h.e0 x hx h0 h8
      obtain ⟨b1, b2⟩ := hv.iv hu a1 a2
      exact ⟨by omega, b1, b2.trans a3⟩
    · obtain ⟨_, a2, a3, a4⟩ := he o hol hk h0 h8
      exact ⟨by omega, a3, by rw [a4, hq a2]⟩
  exact { g := h.g.step1 hb hu (fun x y => (h4 x y).1) (ho.is _), f1 := hf, f0 := h.f0, q1 := hq, q0 := h.q0, e1 := by rw [hsl.1]; exact h.e1, e0 := hee }
theorem GrX.sam1 {T : Tre} {a b m : Nd} {k : Lk} {H0 H1 : He} (h : GrX T a b k H0 H1) (hs : Sam b m) (hp : m.peer = b.peer) (hi : m.store.super.inc = b.store.super.inc) : GrX T a m k H0 H1 :=
  { g := h.g.sam1 hs, f1 := by rw [hs.st]; exact h.f1, f0 := h.f0, q1 := by rw [hs.st, hp]; exact h.q1, q0 := h.q0, e1 := h.e1, e0 := fun x hx h0 h8 => by have := h.e0 x hx h0 h8; rw [hs.st, hi, hs.cur]; exact this }
theorem lS {fut : List Int} {T : Tre} {B : Int} {c : Cl} (h : Core fut T B c.n0 c.n1) : ∃ T', Iv fut T' B (fo c).1 := by
  obtain ⟨T1, h1⟩ := xc h.ci.tr h.ci.na h.ci.fa h.xa c.w0
  have s1 := sE h.ci.tr h.ci.na h.ci.fa c.w0
  have k1 := h.syA h1
  obtain ⟨T2, h2⟩ := xc k1.ci.tr k1.ci.nb k1.ci.fb k1.xb c.w1
  have s2 := sE k1.ci.tr k1.ci.nb k1.ci.fb c.w1
  exact ⟨T2, ⟨k1.syB h2, fun _ => ⟨s1, s2⟩, fun hu => absurd hu (by simp [fo, bi])⟩⟩
theorem tt {x y : He} (h : (ag x y).kind = 1) : (ag x y).src = -1 ∧ x.v.cur = y.v.cur := by
  have ho : ∀ k s (t : He), k ≠ 1 → (aO k s t).kind ≠ 1 := by
    intro k s t hk
    unfold aO
    exact ai (p := fun (z : Vd) => z.kind ≠ 1) (by show (4 : Int) ≠ 1; decide) hk
  have hh : ∀ s t, ee s t ≠ 1 := by
    intro s t
    unfold ee
    exact ai (p := fun (z : Int) => z ≠ 1) (by decide) (ai (p := fun (z : Int) => z ≠ 1) (by decide) (ai (p := fun (z : Int) => z ≠ 1) (by decide) (ai (p := fun (z : Int) => z ≠ 1) (by decide) (ai (p := fun (z : Int) => z ≠ 1) (by decide) (by decide)))))
  have hk : ∀ p, cl p ≠ 1 := by
    intro p
    unfold cl
    exact ai (p := fun (z : Int) => z ≠ 1) (by decide) (ai (p := fun (z : Int) => z ≠ 1) (by decide) (by decide))
  have key : ∀ {b : Bool} {u w : Vd}, (u.kind ≠ 1) → (w.kind = 1 → w.src = -1 ∧ x.v.cur = y.v.cur) → (bif b then u else w).kind = 1 → (bif b then u else w).src = -1 ∧ x.v.cur = y.v.cur := by
    intro b u w hu hw
    cases b
    · exact hw
    · exact fun h => absurd h hu
  revert h
  unfold ag
  refine key (by show (4 : Int) ≠ 1; decide) (key (ho _ _ _ (hh _ _)) (key (ho _ _ _ (hh _ _)) (key (ho _ _ _ (by decide)) (key (ho _ _ _ (by decide)) ?_))))
  cases hc : x.v.cur == y.v.cur with
  | true =>
    simp only [cond_true]
    cases (mi x.mask == 0 && mi y.mask == 0) with
    | true => exact fun _ => ⟨rfl, eq_of_beq hc⟩
    | false =>
      simp only [cond_false]
      exact fun h => absurd h (ai (p := fun (z : Vd) => z.kind ≠ 1) (ho _ _ _ (by decide)) (ho _ _ _ (by decide)))
  | false =>
    simp only [cond_false]
    exact key (ho _ _ _ (hk _)) (key (ho _ _ _ (hk _)) (fun h => absurd h (by show (4 : Int) ≠ 1; decide)))
theorem ry {n : Nd} {s : Int} : ∀ o ∈ (cv n s).2, o.kind = 1 → ∀ m h, wc m h o.data := by
  intro o ho _ m h h0 h8
  have he : o = aR (eM n s) ⟨1, 0, cy (eM n s), 0, ⟨#[]⟩⟩ := by
    unfold cv at ho
    simpa using ho
  subst he
  have h1 := sX (p := ⟨1, s, cy n, 0, ⟨#[]⟩⟩) h0
  have h8 : (bc (dF ⟨1, s, cy n, 0, ⟨#[]⟩⟩).1).1.kind = 8 := h8
  rw [h1] at h8
  exact absurd h8 (show (1 : Int) ≠ 8 by decide)
theorem ti {fut : List Int} {T : Tre} {B : Int} {c : Cl} (h : Core fut T B c.n0 c.n1) (u0 : c.n0.up = true) (u1 : c.n1.up = true) {k : Lk} (hk : c.link = cL k) : Iv fut T B (fP (dU c).1).1 := by
  have hb := (uu h.ci u0 u1 hk).1
  have hv : c.link.to0 = [] ∧ c.link.to1 = [] := by rw [hk]; exact ⟨rfl, rfl⟩
  have e1 := qt { c with n0 := eM c.n0 c.link.ses, link := a9 0 c.link (cv c.n0 c.link.ses).2 } u1
  rw [p7 c u0, e1] at hb ⊢
  refine ⟨⟨hb.1, h.xa, h.xb, h.j, h.ba, h.bb⟩, hb.2.dn, fun hu => ?_⟩
  obtain ⟨H0, H1, hg⟩ := hb.2.up hu
  refine ⟨H0, H1, ⟨hg, fun hh => absurd hh (show (1 : Int) ≠ 3 by decide), fun hh => absurd hh (show (1 : Int) ≠ 3 by decide), fun hh => absurd hh (show (1 : Int) ≠ 4 by decide), fun hh => absurd hh (show (1 : Int) ≠ 4 by decide), ?_, ?_⟩⟩
  · intro x hx
    rcases (gE _ _).2 x hx with hx | ⟨o, ho, hk, rfl⟩
    · rw [(gR _ _).1, hv.1] at hx
      exact absurd hx (by simp)
    · exact ry o ho hk _ _
  · intro x hx
    simp only at hx
    rw [(gE _ _).1] at hx
    rcases (gR _ _).2 x hx with hx | ⟨o, ho, hk, rfl⟩
    · rw [hv.2] at hx
      exact absurd hx (by simp)
    · exact ry o ho hk _ _
theorem xn {fut : List Int} {T : Tre} {B : Int} {c : Cl} {m : Nd} {l : List Ou} (hc : Core fut T B m c.n1) (hd : c.link.up = false → m.state = 0 ∧ c.n1.state = 0) (hu : c.link.up = true → m.up = true → ∃ H0 H1, GrX T m c.n1 (a9 0 c.link l) H0 H1) : ∃ T', Iv fut T' B (bC c 0 m l).1 := by
  rcases qm c m l with ⟨h0, h1, h2, h3⟩ | ⟨d, h1, h2, h3⟩
  · refine ⟨T, ⟨by rw [h1, h2]; exact hc, fun hk => ?_, fun hk => ?_⟩⟩
    · rw [h3, (cn 0 l c.link).1] at hk
      rw [h1, h2]
      have := hd hk
      exact this
    · rw [h3, (cn 0 l c.link).1] at hk
      rw [h1, h2, h3]
      refine hu hk ?_
      rcases h0 with h0 | h0
      · rw [h0] at hk; exact absurd hk (by simp)
      · exact h0
  · have hc2 : Core fut T B d.n0 d.n1 := by rw [h1, h2]; exact hc
    rw [h3]
    exact lS hc2
theorem F1 {fut : List Int} {T : Tre} {B : Int} {Q : Int → Prop} {c : Cl} (h : Iv fut T B c) {x : Nd × List Ou} (ho : dg x.2) (he : dp x.1 x.2) (hb : Bec (PV T) c.n0 x.1) (hv : Vx Q c.n0 x.1) (hq : ∀ z, Q z → c.n1.up = true ∧ z = eN c.n1)
    (h4 : x.1.up = true → ((x.1.state = 4 ∧ c.n0.state ≠ 4) ∨ (x.1.state = 3 ∧ c.n0.state ≠ 3)) → c.link.up = true → ∃ H0 H1, GrX T c.n0 c.n1 c.link H0 H1 ∧ (x.1.state = 4 → (ag H0 H1).src = 1 ∧ x.1.peer = H1) ∧ (x.1.state = 3 → (ag H0 H1).src = 0)) : ∃ T', Iv fut T' B (bC c 0 x.1 x.2).1 := by
  refine xn (h.co.vxA hb hv hq) (fun hk => ?_) (fun hk hu => ?_)
  · have hd := h.dn hk
    refine ⟨?_, hd.2⟩
    have hz : c.n0.state = 0 := hd.1
    cases hu : x.1.up with
    | false => exact hb.ok.z hu
    | true => have := hb.st hu; omega
  · by_cases hx4 : (x.1.state = 4 ∧ c.n0.state ≠ 4) ∨ (x.1.state = 3 ∧ c.n0.state ≠ 3)
    · obtain ⟨H0, H1, hg, hs, hs3⟩ := h4 hu hx4 hk
      exact ⟨H0, H1, hg.step0 hb hv hu (fun a _ => hs a) (fun a _ => hs3 a) ho he⟩
    · obtain ⟨H0, H1, hg⟩ := h.up hk
      exact ⟨H0, H1, hg.step0 hb hv hu (fun a b => absurd (Or.inl ⟨a, b⟩) hx4) (fun a b => absurd (Or.inr ⟨a, b⟩) hx4) ho he⟩
theorem GT {fut : List Int} {T : Tre} {B : Int} {c : Cl} (h : Iv fut T B c) {x : Nd × List Ou} (s0 : c.n0.state = 0) (s1 : x.1.state = 0) {T' : Tre} (hy : Sy T T' c.n0 x.1) : ∃ T', Iv fut T' B (bC c 0 x.1 x.2).1 := by
  refine xn (h.co.syA hy) (fun hk => ?_) (fun hk _ => ?_)
  · have hd := h.dn hk
    exact ⟨s1, hd.2⟩
  · obtain ⟨H0, H1, hg⟩ := h.up hk
    exact absurd s0 hg.g.s0
theorem BQ {fut : List Int} {T : Tre} {B : Int} {c : Cl} (h : Iv fut T B c) {x : Nd × List Ou} (hr : Rs (PV T) c.n0 x) (hx : Xs (fun _ => False) c.n0 x) (hq : Qs c.n0 x.1) : ∃ T', Iv fut T' B (bC c 0 x.1 x.2).1 :=
  F1 h hr.2 hx.2 hr.1 hx.1 (fun _ hf => hf.elim) (fun hu hx4 hk => by
    obtain ⟨H0, H1, hg⟩ := h.up hk
    have := hg.g.s0
    unfold Qs at hq
    have hz := hr.1.st hu
    omega)
theorem GG {fut : List Int} {T : Tre} {B : Int} {c : Cl} (h : Iv fut T B c) {b : ByteArray} (hb : c.link.up = true → (aA b c.link.ses).2 = 0 → b ∈ c.link.to0) :
    Rs (PV T) c.n0 (aw c.n0 b) ∧ ∃ Q, Xs Q c.n0 (aw c.n0 b) ∧ (∀ z, Q z → c.n1.up = true ∧ z = eN c.n1) ∧
    ((aw c.n0 b).1.up = true → (((aw c.n0 b).1.state = 4 ∧ c.n0.state ≠ 4) ∨ ((aw c.n0 b).1.state = 3 ∧ c.n0.state ≠ 3)) → ∃ H0 H1, GrX T c.n0 c.n1 c.link H0 H1 ∧ ((aw c.n0 b).1.state = 4 → (ag H0 H1).src = 1 ∧ (aw c.n0 b).1.peer = H1) ∧ ((aw c.n0 b).1.state = 3 → (ag H0 H1).src = 0)) := by
  have hn : NI (PV T) c.n0 := h.co.ci.na
  have hid : c.n0.id = 0 := h.co.ci.ia
  have hx : Exa c.n0 := h.co.xa
  have hR := (EV h.inv hb).1
  refine ⟨hR, ?_⟩
  by_cases h0 : c.n0.state = 0
  · have e : aw c.n0 b = (c.n0, []) := by
      unfold aw
      rw [h0]
      cases c.n0.up <;> rfl
    rw [e]
    refine ⟨fun _ => False, ⟨Vx.refl hx, dp.nil _⟩, fun _ hf => hf.elim, fun _ h4 => ?_⟩
    exfalso
    simp only at h4
    omega
  · have hk : c.link.up = true := by
      cases hk : c.link.up with
      | true => rfl
      | false => have := h.dn hk; omega
    obtain ⟨H0, H1, hg⟩ := h.up hk
    have hses : c.n0.ses = c.link.ses := hg.g.k0
    have hin : (aA b c.n0.ses).2 = 0 → b ∈ c.link.to0 := fun hr => hb hk (by rw [hses] at hr; exact hr)
    have hheb : (aA b c.n0.ses).2 = 0 → HeB (PV T) b := fun hr hd hk1 => by
      rw [hg.g.l0 b (hin hr) hd hk1]
      exact hg.g.p1
    have hX := mR (jW T) hn hx hheb
    have hver : c.n0.state = 1 → (aN c.n0 H1).1 = ag H0 H1 := by
      intro q2
      have ho := hg.g.o0 q2
      unfold aN
      rw [hid, ho]
      rfl
    refine ⟨_, hX, ?_, ?_⟩
    · rintro z ⟨z1, z2, z3⟩
      refine ⟨hg.g.u1, ?_⟩
      have hm := hin z1
      rcases z3 with ⟨k8, s3, rfl⟩ | ⟨k6, s4, hi, rfl⟩ | ⟨k1, s1, hz⟩
      · obtain ⟨_, _, e3⟩ := hg.e0 b hm z2 k8
        have hs := hg.f0 s3
        have hd := hg.g.d0 (by rw [hs]; decide)
        rw [e3, hd]
      · have hs := hg.g.c0 s4
        have hd := hg.g.d1 (by rw [hs]; decide)
        rw [hg.q0 s4, hd]
      · have hh := hg.g.l0 b hm z2 k1
        rw [hh, hver s1] at hz
        rcases hz with ⟨v1, rfl⟩ | ⟨v1, v2, v3, rfl⟩
        · have hkc := tt v1
          have hd1 := hg.g.d0 (by rw [hkc.1]; decide)
          have hd2 := hg.g.d1 (by rw [hkc.1]; decide)
          rw [hd1, hd2]
          exact hkc.2
        · rw [hid] at v3
          have hs : (ag H0 H1).src = 1 := by have := (dO v1 v2).src; omega
          have hd := hg.g.d1 (by rw [hs]; decide)
          rw [hd]
    · intro hu h4
      have hst := hR.1.st hu
      have s1 : c.n0.state = 1 := by omega
      refine ⟨H0, H1, hg, ?_⟩
      rcases kV s1 b with he | ⟨r0, r1, r2, r3, he⟩
      · exfalso
        rw [he] at h4
        omega
      · have hh := hg.g.l0 b (hin r0) r1 r2
        rw [hh] at he
        have he : (aw c.n0 b).1 = (ka c.n0 H1 (aN c.n0 H1).1 (aN c.n0 H1).2).1 := he
        refine ⟨fun a4 => ⟨?_, ?_⟩, fun a3 => ?_⟩
        · have h5 := ku (jW T) hn r3 s1 _ (by rw [← he]; exact a4)
          rw [hver s1, hid] at h5
          have := (dO h5.1 h5.2.1).src
          omega
        · rw [he]
          exact pX s1 _ (by rw [← he]; exact hu) (by rw [← he]; omega)
        · have h5 := nO (jW T) hn r3 s1 _ (by rw [← he]; exact a3)
          rw [hver s1, hid] at h5
          exact h5.2.2
theorem G7 {fut : List Int} {T : Tre} {B : Int} {c : Cl} (h : Iv fut T B c) : ∃ T', Iv fut T' B (n4 c 0).1 := by
  unfold n4
  cases hl : c.link.to0 with
  | nil =>
    have e1 : (dk c.link 0).2.2 = false := by unfold dk; rw [hl]; rfl
    rw [e1]
    exact ⟨T, h⟩
  | cons x r =>
    have e1 : dk c.link 0 = (x, { c.link with to0 := r }, true) := by unfold dk; rw [hl]; rfl
    rw [e1]
    have hw : ∀ H0 H1, GrX T c.n0 c.n1 c.link H0 H1 → GrX T c.n0 c.n1 { c.link with to0 := r } H0 H1 := fun H0 H1 hg =>
      { g := { hg.g with l0 := fun y hy => hg.g.l0 y (by rw [hl]; exact List.mem_cons_of_mem _ hy), l1 := hg.g.l1 }, f0 := hg.f0, f1 := hg.f1, q0 := hg.q0, q1 := hg.q1, e0 := fun y hy => hg.e0 y (by rw [hl]; exact List.mem_cons_of_mem _ hy), e1 := hg.e1 }
    have hi : Iv fut T B { c with link := { c.link with to0 := r } } := by
      refine ⟨h.co, h.dn, fun hk => ?_⟩
      obtain ⟨H0, H1, hg⟩ := h.up hk
      exact ⟨H0, H1, hw _ _ hg⟩
    obtain ⟨hR, Q, hX, hq, h4⟩ := GG h (b := x) (fun _ _ => by rw [hl]; simp)
    exact F1 hi hR.2 hX.2 hR.1 hX.1 hq (fun a b _ => by
      obtain ⟨H0, H1, hg, z⟩ := h4 a b
      exact ⟨H0, H1, hw _ _ hg, z⟩)
theorem Hy {fut : List Int} {T : Tre} {B : Int} {c : Cl} (h : Iv fut T B c) : ∃ T', Iv fut T' B (ey c 0).1 := by
  unfold ey
  cases hu : !(ij c 0).up with
  | true => exact ⟨T, h⟩
  | false =>
    have p0 : (ax c 0 true).n0 = c.n0 := gm _ _ _
    have p1 : (ax c 0 true).n1 = c.n1 := gn _ _ _
    have pk : (ax c 0 true).link = c.link := eE _ _ _
    cases hw : (!yg (ax c 0 true) (1 - 0) || !(ij c (1 - 0)).up || c.link.up) with
    | true => exact ⟨T, ⟨by show Core fut T B (ax c 0 true).n0 (ax c 0 true).n1; rw [p0, p1]; exact h.co, by show (ax c 0 true).link.up = false → (ax c 0 true).n0.state = 0 ∧ (ax c 0 true).n1.state = 0; rw [p0, p1, pk]; exact h.dn, by show (ax c 0 true).link.up = true → ∃ H0 H1, GrX T (ax c 0 true).n0 (ax c 0 true).n1 (ax c 0 true).link H0 H1; rw [p0, p1, pk]; exact h.up⟩⟩
    | false =>
      simp only [Bool.or_eq_false_iff, Bool.not_eq_false'] at hu hw
      have v0 : c.n0.up = true := hu
      have v1 : c.n1.up = true := hw.1.2
      exact ⟨T, ti (c := { ax c 0 true with link := cL c.link }) (by show Core fut T B (ax c 0 true).n0 (ax c 0 true).n1; rw [p0, p1]; exact h.co) (by show (ax c 0 true).n0.up = true; rw [p0]; exact v0) (by show (ax c 0 true).n1.up = true; rw [p1]; exact v1) rfl⟩
theorem HB {fut : List Int} {T : Tre} {B : Int} {c : Cl} (h : Iv fut T B c) (hB : IntKind.wrap .i64 ((c.n0.store.disk.sure.length : Int) - 2) = B) (ks : List Bool) : ∃ T', Iv fut T' B (aZ c 0 (bt c.n0 ks).1) := by
  obtain ⟨hs, hq⟩ := gG h.co.ci.tr h.co.ci.na ks
  obtain ⟨y1, y2, y3⟩ := iz h.co.xa ks
  rcases hq with hq | ⟨hu, h0⟩
  · rw [hq]; exact ⟨T, ⟨h.co, h.dn, h.up⟩⟩
  · have hbl : (bt c.n0 ks).1.up = true → (bt c.n0 ks).1.store.super.blocks = B := fun h5 => (y3 h5 hu).trans hB
    have hj : JJ T (bt c.n0 ks).1 c.n1 := fun v w hv hw => h.co.j v w (y2 v hv) hw
    refine ⟨T, ⟨⟨h.co.ci.stepA hs, y1, h.co.xb, hj, hbl, h.co.bb⟩, fun hk => ?_, fun hk => ?_⟩⟩
    · have := h.dn hk
      exact ⟨h0, this.2⟩
    · obtain ⟨H0, H1, hg⟩ := h.up hk
      exact absurd hg.g.u0 (by rw [hu]; simp)
theorem Da {fut : List Int} {T : Tre} {B : Int} {c d : Cl} (h : Iv fut T B c) (e0 : d.n0 = c.n0) (e1 : d.n1 = c.n1) (ek : d.link = c.link) : ∃ T', Iv fut T' B (At d).1 := by
  unfold At
  cases hk : !d.link.up with
  | true => exact ⟨T, ⟨by rw [cond_true, e0, e1]; exact h.co, by rw [cond_true, e0, e1, ek]; exact h.dn, by rw [cond_true, e0, e1, ek]; exact h.up⟩⟩
  | false => exact lS (by rw [e0, e1]; exact h.co)
theorem Hn {T : Tre} {n : Nd} (hx : Exa n) (k : Int) : Vx (fun _ => False) n (du n k) := by
  unfold du
  cases hu : n.up with
  | false => exact Vx.refl hx
  | true => exact Vx.flat (fun _ => (hx hu).same rfl rfl) hu.symm (fun _ => ⟨rfl, rfl, rfl⟩) (fun h => absurd (hu.symm.trans h) (by simp)) (fun _ _ => rfl)
theorem DM {fut : List Int} {T : Tre} {B : Int} {c : Cl} (h : Iv fut T B c) (hB : IntKind.wrap .i64 ((c.n0.store.disk.sure.length : Int) - 2) = B) (e : Evt) (h13 : e.kind ≠ 13) : ∃ T', Iv fut T' B (oh c e 0 c.n0).1 := by
  have hn : NI (PV T) c.n0 := h.co.ci.na
  have hx : Exa c.n0 := h.co.xa
  have hcp := jW T
  have pc : ∀ {b : Bool} {x y : Cl × List Ou}, (∃ T', Iv fut T' B x.1) → (∃ T', Iv fut T' B y.1) → ∃ T', Iv fut T' B (bif b then x else y).1 := by
    intro b x y hx hy
    cases b
    · exact hy
    · exact hx
  have hsame : ∃ T', Iv fut T' B (c, ([] : List Ou)).1 := ⟨T, h⟩
  unfold oh
  refine pc (BQ h (mB hcp hn _) (mu hcp hn hx _) (nS _ _)) ?_
  refine pc (BQ h (nG hcp hn _) (n8 hcp hn hx _) (qz _ _)) ?_
  refine pc (BQ h (mv hcp hn _) (mG hcp hn hx _) (ob _ _)) ?_
  refine pc (BQ h (qI hn _ _) (qj hx _ _) (tg _ _ _)) ?_
  have hw := sC h.co.ci.tr hn h.co.ci.fa hx e.id e.block e.data
  have hwo := (qk h.co.ci.tr hn h.co.ci.fa e.id e.block e.data).1
  have hq := ud c.n0 e.id e.block e.data
  refine pc ?_ ?_
  · rcases hw.2 with ⟨hv, hb⟩ | ⟨s0, s1, T', hy⟩
    · exact BQ h ⟨hb, hwo⟩ ⟨hv, hw.1⟩ hq
    · exact GT h s0 s1 hy
  refine pc (Hy h) ?_
  refine pc (Da h (gm _ _ _) (gn _ _ _) (eE _ _ _)) ?_
  refine pc (Da h rfl rfl rfl) ?_
  refine pc (G7 h) ?_
  refine pc ?_ ?_
  · cases hu : c.n0.up with
    | false => exact hsame
    | true => exact BQ (x := (ch c.n0, [])) h ⟨Bec.down hn.d rfl rfl rfl, dg.nil⟩ ⟨Vx.downOld hu (hx hu), dp.nil _⟩ (Or.inr rfl)
  refine pc (HB h hB _) ?_
  refine pc (BQ (x := (du c.n0 e.n, [])) h ⟨(jD hn _).1, dg.nil⟩ ⟨Hn (T := T) hx _, dp.nil _⟩ (jD hn _).2) ?_
  cases hk : e.kind == 13 with
  | true => exact absurd (eq_of_beq hk) h13
  | false =>
    rw [cond_false]
    refine pc ?_ hsame
    cases hf : (aA e.data c.link.ses).2 == 0 with
    | true => exact hsame
    | false =>
      obtain ⟨hR, Q, hX, hq, h4⟩ := GG h (b := e.data) (fun _ h0 => by rw [h0] at hf; exact absurd hf (by simp))
      exact F1 h hR.2 hX.2 hR.1 hX.1 hq (fun a b _ => h4 a b)
theorem Hi {fut : List Int} {T : Tre} {B : Int} {c : Cl} {g : Int} (h : Iv (g :: fut) T B c) : Iv fut T B (aZ c 0 (cI c.n0 g)) := by
  have hi := vB h.inv
  obtain ⟨k1, k2, k3, k4⟩ := lJ h.co.ci.na g
  have hst : (cI c.n0 g).store = c.n0.store ∧ (cI c.n0 g).peer = c.n0.peer := by
    unfold cI
    exact ai (p := fun (x : Nd) => x.store = c.n0.store ∧ x.peer = c.n0.peer) ⟨rfl, rfl⟩ ⟨rfl, rfl⟩
  generalize cI c.n0 g = m at hi k1 k2 k3 k4 hst
  have hpos : ∀ v, Pos m v → Pos c.n0 v := fun v hv => by
    unfold Pos at hv ⊢
    rw [← hst.1, ← k2.up]
    exact hv
  have hex : Exa m := fun hu => by rw [hst.1]; exact h.co.xa (by rw [← k2.up]; exact hu)
  have hbl : m.up = true → m.store.super.blocks = B := fun hu => by rw [hst.1]; exact h.co.ba (by rw [← k2.up]; exact hu)
  refine ⟨⟨hi.1, hex, h.co.xb, fun v w hv hw => h.co.j v w (hpos v hv) hw, hbl, h.co.bb⟩, fun hk => hi.2.dn hk, fun hk => ?_⟩
  obtain ⟨H0, H1, hg⟩ := h.up hk
  exact ⟨H0, H1, hg.sam0 k2 hst.2 (show m.store.super.inc = c.n0.store.super.inc by rw [hst.1])⟩
theorem iv0 {l : List Evt} {T : Tre} {B : Int} {c : Cl} {e : Evt} (h : Iv (j9 (e :: l)) T B c) (hB : IntKind.wrap .i64 ((c.n0.store.disk.sure.length : Int) - 2) = B) (he : e.node = 0) : ∃ T', Iv (j9 l) T' B (doM c e).1 := by
  have e1 : doM c e = oh c e 0 c.n0 := by unfold doM; rw [he]; rfl
  rw [e1]
  by_cases h13 : e.kind = 13
  · have e2 : (oh c e 0 c.n0).1 = aZ c 0 (cI c.n0 e.n) := by unfold oh; rw [h13]; rfl
    rw [e2]
    rw [jE h13] at h
    exact ⟨T, Hi h⟩
  · rw [jN h13] at h
    exact DM h hB e h13
theorem vV {fut : List Int} {T : Tre} {B : Int} {c : Cl} {m : Nd} {l : List Ou} (hc : Core fut T B c.n0 m) (hd : c.link.up = false → m.state = 0 ∧ c.n0.state = 0) (hu : c.link.up = true → m.up = true → ∃ H0 H1, GrX T c.n0 m (a9 1 c.link l) H0 H1) : ∃ T', Iv fut T' B (bC c 1 m l).1 := by
  rcases qY c m l with ⟨h0, h1, h2, h3⟩ | ⟨d, h1, h2, h3⟩
  · refine ⟨T, ⟨by rw [h1, h2]; exact hc, fun hk => ?_, fun hk => ?_⟩⟩
    · rw [h3, (cn 1 l c.link).1] at hk
      rw [h1, h2]
      have := hd hk
      exact ⟨this.2, this.1⟩
    · rw [h3, (cn 1 l c.link).1] at hk
      rw [h1, h2, h3]
      refine hu hk ?_
      rcases h0 with h0 | h0
      · rw [h0] at hk; exact absurd hk (by simp)
      · exact h0
  · have hc2 : Core fut T B d.n0 d.n1 := by rw [h1, h2]; exact hc
    rw [h3]
    exact lS hc2
theorem Fb {fut : List Int} {T : Tre} {B : Int} {Q : Int → Prop} {c : Cl} (h : Iv fut T B c) {x : Nd × List Ou} (ho : dg x.2) (he : dp x.1 x.2) (hb : Bec (PV T) c.n1 x.1) (hv : Vx Q c.n1 x.1) (hq : ∀ z, Q z → c.n0.up = true ∧ z = eN c.n0)
    (h4 : x.1.up = true → ((x.1.state = 4 ∧ c.n1.state ≠ 4) ∨ (x.1.state = 3 ∧ c.n1.state ≠ 3)) → c.link.up = true → ∃ H0 H1, GrX T c.n0 c.n1 c.link H0 H1 ∧ (x.1.state = 4 → (ag H0 H1).src = 0 ∧ x.1.peer = H0) ∧ (x.1.state = 3 → (ag H0 H1).src = 1)) : ∃ T', Iv fut T' B (bC c 1 x.1 x.2).1 := by
  refine vV (h.co.vxB hb hv hq) (fun hk => ?_) (fun hk hu => ?_)
  · have hd := h.dn hk
    refine ⟨?_, hd.1⟩
    have hz : c.n1.state = 0 := hd.2
    cases hu : x.1.up with
    | false => exact hb.ok.z hu
    | true => have := hb.st hu; omega
  · by_cases hx4 : (x.1.state = 4 ∧ c.n1.state ≠ 4) ∨ (x.1.state = 3 ∧ c.n1.state ≠ 3)
    · obtain ⟨H0, H1, hg, hs, hs3⟩ := h4 hu hx4 hk
      exact ⟨H0, H1, hg.step1 hb hv hu (fun a _ => hs a) (fun a _ => hs3 a) ho he⟩
    · obtain ⟨H0, H1, hg⟩ := h.up hk
      exact ⟨H0, H1, hg.step1 hb hv hu (fun a b => absurd (Or.inl ⟨a, b⟩) hx4) (fun a b => absurd (Or.inr ⟨a, b⟩) hx4) ho he⟩
theorem GV {fut : List Int} {T : Tre} {B : Int} {c : Cl} (h : Iv fut T B c) {x : Nd × List Ou} (s0 : c.n1.state = 0) (s1 : x.1.state = 0) {T' : Tre} (hy : Sy T T' c.n1 x.1) : ∃ T', Iv fut T' B (bC c 1 x.1 x.2).1 := by
  refine vV (h.co.syB hy) (fun hk => ?_) (fun hk _ => ?_)
  · have hd := h.dn hk
    exact ⟨s1, hd.1⟩
  · obtain ⟨H0, H1, hg⟩ := h.up hk
    exact absurd s0 hg.g.s1
theorem B2 {fut : List Int} {T : Tre} {B : Int} {c : Cl} (h : Iv fut T B c) {x : Nd × List Ou} (hr : Rs (PV T) c.n1 x) (hx : Xs (fun _ => False) c.n1 x) (hq : Qs c.n1 x.1) : ∃ T', Iv fut T' B (bC c 1 x.1 x.2).1 :=
  Fb h hr.2 hx.2 hr.1 hx.1 (fun _ hf => hf.elim) (fun hu hx4 hk => by
    obtain ⟨H0, H1, hg⟩ := h.up hk
    have := hg.g.s1
    unfold Qs at hq
    have hz := hr.1.st hu
    omega)
theorem GD {fut : List Int} {T : Tre} {B : Int} {c : Cl} (h : Iv fut T B c) {b : ByteArray} (hb : c.link.up = true → (aA b c.link.ses).2 = 0 → b ∈ c.link.to1) :
    Rs (PV T) c.n1 (aw c.n1 b) ∧ ∃ Q, Xs Q c.n1 (aw c.n1 b) ∧ (∀ z, Q z → c.n0.up = true ∧ z = eN c.n0) ∧
    ((aw c.n1 b).1.up = true → (((aw c.n1 b).1.state = 4 ∧ c.n1.state ≠ 4) ∨ ((aw c.n1 b).1.state = 3 ∧ c.n1.state ≠ 3)) → ∃ H0 H1, GrX T c.n0 c.n1 c.link H0 H1 ∧ ((aw c.n1 b).1.state = 4 → (ag H0 H1).src = 0 ∧ (aw c.n1 b).1.peer = H0) ∧ ((aw c.n1 b).1.state = 3 → (ag H0 H1).src = 1)) := by
  have hn : NI (PV T) c.n1 := h.co.ci.nb
  have hid : c.n1.id = 1 := h.co.ci.ib
  have hx : Exa c.n1 := h.co.xb
  have hR := (Gv h.inv hb).1
  refine ⟨hR, ?_⟩
  by_cases h0 : c.n1.state = 0
  · have e : aw c.n1 b = (c.n1, []) := by
      unfold aw
      rw [h0]
      cases c.n1.up <;> rfl
    rw [e]
    refine ⟨fun _ => False, ⟨Vx.refl hx, dp.nil _⟩, fun _ hf => hf.elim, fun _ h4 => ?_⟩
    exfalso
    simp only at h4
    omega
  · have hk : c.link.up = true := by
      cases hk : c.link.up with
      | true => rfl
      | false => have := h.dn hk; omega
    obtain ⟨H0, H1, hg⟩ := h.up hk
    have hses : c.n1.ses = c.link.ses := hg.g.k1
    have hin : (aA b c.n1.ses).2 = 0 → b ∈ c.link.to1 := fun hr => hb hk (by rw [hses] at hr; exact hr)
    have hheb : (aA b c.n1.ses).2 = 0 → HeB (PV T) b := fun hr hd hk1 => by
      rw [hg.g.l1 b (hin hr) hd hk1]
      exact hg.g.p0
    have hX := mR (jW T) hn hx hheb
    have hver : c.n1.state = 1 → (aN c.n1 H0).1 = ag H0 H1 := by
      intro q2
      have ho := hg.g.o1 q2
      unfold aN
      rw [hid, ho]
      rfl
    refine ⟨_, hX, ?_, ?_⟩
    · rintro z ⟨z1, z2, z3⟩
      refine ⟨hg.g.u0, ?_⟩
      have hm := hin z1
      rcases z3 with ⟨k8, s3, rfl⟩ | ⟨k6, s4, hi, rfl⟩ | ⟨k1, s1, hz⟩
      · obtain ⟨_, _, e3⟩ := hg.e1 b hm z2 k8
        have hs := hg.f1 s3
        have hd := hg.g.d1 (by rw [hs]; decide)
        rw [e3, hd]
      · have hs := hg.g.c1 s4
        have hd := hg.g.d0 (by rw [hs]; decide)
        rw [hg.q1 s4, hd]
      · have hh := hg.g.l1 b hm z2 k1
        rw [hh, hver s1] at hz
        rcases hz with ⟨v1, rfl⟩ | ⟨v1, v2, v3, rfl⟩
        · have hkc := tt v1
          have hd1 := hg.g.d1 (by rw [hkc.1]; decide)
          have hd2 := hg.g.d0 (by rw [hkc.1]; decide)
          rw [hd1, hd2]
          exact hkc.2.symm
        · rw [hid] at v3
          have hs : (ag H0 H1).src = 0 := by have := (dO v1 v2).src; omega
          have hd := hg.g.d0 (by rw [hs]; decide)
          rw [hd]
    · intro hu h4
      have hst := hR.1.st hu
      have s1 : c.n1.state = 1 := by omega
      refine ⟨H0, H1, hg, ?_⟩
      rcases kV s1 b with he | ⟨r0, r1, r2, r3, he⟩
      · exfalso
        rw [he] at h4
        omega
      · have hh := hg.g.l1 b (hin r0) r1 r2
        rw [hh] at he
        have he : (aw c.n1 b).1 = (ka c.n1 H0 (aN c.n1 H0).1 (aN c.n1 H0).2).1 := he
        refine ⟨fun a4 => ⟨?_, ?_⟩, fun a3 => ?_⟩
        · have h5 := ku (jW T) hn r3 s1 _ (by rw [← he]; exact a4)
          rw [hver s1, hid] at h5
          have := (dO h5.1 h5.2.1).src
          omega
        · rw [he]
          exact pX s1 _ (by rw [← he]; exact hu) (by rw [← he]; omega)
        · have h5 := nO (jW T) hn r3 s1 _ (by rw [← he]; exact a3)
          rw [hver s1, hid] at h5
          exact h5.2.2
theorem Hz {fut : List Int} {T : Tre} {B : Int} {c : Cl} (h : Iv fut T B c) : ∃ T', Iv fut T' B (n4 c 1).1 := by
  unfold n4
  cases hl : c.link.to1 with
  | nil =>
    have e1 : (dk c.link 1).2.2 = false := by unfold dk; rw [hl]; rfl
    rw [e1]
    exact ⟨T, h⟩
  | cons x r =>
    have e1 : dk c.link 1 = (x, { c.link with to1 := r }, true) := by unfold dk; rw [hl]; rfl
    rw [e1]
    have hw : ∀ H0 H1, GrX T c.n0 c.n1 c.link H0 H1 → GrX T c.n0 c.n1 { c.link with to1 := r } H0 H1 := fun H0 H1 hg =>
      { g := { hg.g with l1 := fun y hy => hg.g.l1 y (by rw [hl]; exact List.mem_cons_of_mem _ hy), l0 := hg.g.l0 }, f0 := hg.f0, f1 := hg.f1, q0 := hg.q0, q1 := hg.q1, e1 := fun y hy => hg.e1 y (by rw [hl]; exact List.mem_cons_of_mem _ hy), e0 := hg.e0 }
    have hi : Iv fut T B { c with link := { c.link with to1 := r } } := by
      refine ⟨h.co, h.dn, fun hk => ?_⟩
      obtain ⟨H0, H1, hg⟩ := h.up hk
      exact ⟨H0, H1, hw _ _ hg⟩
    obtain ⟨hR, Q, hX, hq, h4⟩ := GD h (b := x) (fun _ _ => by rw [hl]; simp)
    exact Fb hi hR.2 hX.2 hR.1 hX.1 hq (fun a b _ => by
      obtain ⟨H0, H1, hg, z⟩ := h4 a b
      exact ⟨H0, H1, hw _ _ hg, z⟩)
theorem GK {fut : List Int} {T : Tre} {B : Int} {c : Cl} (h : Iv fut T B c) : ∃ T', Iv fut T' B (ey c 1).1 := by
  unfold ey
  cases hu : !(ij c 1).up with
  | true => exact ⟨T, h⟩
  | false =>
    have p0 : (ax c 1 true).n0 = c.n0 := gm _ _ _
    have p1 : (ax c 1 true).n1 = c.n1 := gn _ _ _
    have pk : (ax c 1 true).link = c.link := eE _ _ _
    cases hw : (!yg (ax c 1 true) (1 - 1) || !(ij c (1 - 1)).up || c.link.up) with
    | true => exact ⟨T, ⟨by show Core fut T B (ax c 1 true).n0 (ax c 1 true).n1; rw [p0, p1]; exact h.co, by show (ax c 1 true).link.up = false → (ax c 1 true).n0.state = 0 ∧ (ax c 1 true).n1.state = 0; rw [p0, p1, pk]; exact h.dn, by show (ax c 1 true).link.up = true → ∃ H0 H1, GrX T (ax c 1 true).n0 (ax c 1 true).n1 (ax c 1 true).link H0 H1; rw [p0, p1, pk]; exact h.up⟩⟩
    | false =>
      simp only [Bool.or_eq_false_iff, Bool.not_eq_false'] at hu hw
      have v1 : c.n1.up = true := hu
      have v0 : c.n0.up = true := hw.1.2
      exact ⟨T, ti (c := { ax c 1 true with link := cL c.link }) (by show Core fut T B (ax c 1 true).n0 (ax c 1 true).n1; rw [p0, p1]; exact h.co) (by show (ax c 1 true).n0.up = true; rw [p0]; exact v0) (by show (ax c 1 true).n1.up = true; rw [p1]; exact v1) rfl⟩
theorem GX {fut : List Int} {T : Tre} {B : Int} {c : Cl} (h : Iv fut T B c) (hB : IntKind.wrap .i64 ((c.n1.store.disk.sure.length : Int) - 2) = B) (ks : List Bool) : ∃ T', Iv fut T' B (aZ c 1 (bt c.n1 ks).1) := by
  obtain ⟨hs, hq⟩ := gG h.co.ci.tr h.co.ci.nb ks
  obtain ⟨y1, y2, y3⟩ := iz h.co.xb ks
  rcases hq with hq | ⟨hu, h0⟩
  · rw [hq]; exact ⟨T, ⟨h.co, h.dn, h.up⟩⟩
  · have hbl : (bt c.n1 ks).1.up = true → (bt c.n1 ks).1.store.super.blocks = B := fun h5 => (y3 h5 hu).trans hB
    have hj : JJ T c.n0 (bt c.n1 ks).1 := fun v w hv hw => h.co.j v w hv (y2 w hw)
    refine ⟨T, ⟨⟨h.co.ci.stepB hs, h.co.xa, y1, hj, h.co.ba, hbl⟩, fun hk => ?_, fun hk => ?_⟩⟩
    · have := h.dn hk
      exact ⟨this.1, h0⟩
    · obtain ⟨H0, H1, hg⟩ := h.up hk
      exact absurd hg.g.u1 (by rw [hu]; simp)
theorem C9 {fut : List Int} {T : Tre} {B : Int} {c d : Cl} (h : Iv fut T B c) (e0 : d.n0 = c.n0) (e1 : d.n1 = c.n1) (ek : d.link = c.link) : ∃ T', Iv fut T' B (At d).1 := by
  unfold At
  cases hk : !d.link.up with
  | true => exact ⟨T, ⟨by rw [cond_true, e0, e1]; exact h.co, by rw [cond_true, e0, e1, ek]; exact h.dn, by rw [cond_true, e0, e1, ek]; exact h.up⟩⟩
  | false => exact lS (by rw [e0, e1]; exact h.co)
theorem HE {T : Tre} {n : Nd} (hx : Exa n) (k : Int) : Vx (fun _ => False) n (du n k) := by
  unfold du
  cases hu : n.up with
  | false => exact Vx.refl hx
  | true => exact Vx.flat (fun _ => (hx hu).same rfl rfl) hu.symm (fun _ => ⟨rfl, rfl, rfl⟩) (fun h => absurd (hu.symm.trans h) (by simp)) (fun _ _ => rfl)
theorem CX {fut : List Int} {T : Tre} {B : Int} {c : Cl} (h : Iv fut T B c) (hB : IntKind.wrap .i64 ((c.n1.store.disk.sure.length : Int) - 2) = B) (e : Evt) (h13 : e.kind ≠ 13) : ∃ T', Iv fut T' B (oh c e 1 c.n1).1 := by
  have hn : NI (PV T) c.n1 := h.co.ci.nb
  have hx : Exa c.n1 := h.co.xb
  have hcp := jW T
  have pc : ∀ {b : Bool} {x y : Cl × List Ou}, (∃ T', Iv fut T' B x.1) → (∃ T', Iv fut T' B y.1) → ∃ T', Iv fut T' B (bif b then x else y).1 := by
    intro b x y hx hy
    cases b
    · exact hy
    · exact hx
  have hsame : ∃ T', Iv fut T' B (c, ([] : List Ou)).1 := ⟨T, h⟩
  unfold oh
  refine pc (B2 h (mB hcp hn _) (mu hcp hn hx _) (nS _ _)) ?_
  refine pc (B2 h (nG hcp hn _) (n8 hcp hn hx _) (qz _ _)) ?_
  refine pc (B2 h (mv hcp hn _) (mG hcp hn hx _) (ob _ _)) ?_
  refine pc (B2 h (qI hn _ _) (qj hx _ _) (tg _ _ _)) ?_
  have hw := sC h.co.ci.tr hn h.co.ci.fb hx e.id e.block e.data
  have hwo := (qk h.co.ci.tr hn h.co.ci.fb e.id e.block e.data).1
  have hq := ud c.n1 e.id e.block e.data
  refine pc ?_ ?_
  · rcases hw.2 with ⟨hv, hb⟩ | ⟨s0, s1, T', hy⟩
    · exact B2 h ⟨hb, hwo⟩ ⟨hv, hw.1⟩ hq
    · exact GV h s0 s1 hy
  refine pc (GK h) ?_
  refine pc (C9 h (gm _ _ _) (gn _ _ _) (eE _ _ _)) ?_
  refine pc (C9 h rfl rfl rfl) ?_
  refine pc (Hz h) ?_
  refine pc ?_ ?_
  · cases hu : c.n1.up with
    | false => exact hsame
    | true => exact B2 (x := (ch c.n1, [])) h ⟨Bec.down hn.d rfl rfl rfl, dg.nil⟩ ⟨Vx.downOld hu (hx hu), dp.nil _⟩ (Or.inr rfl)
  refine pc (GX h hB _) ?_
  refine pc (B2 (x := (du c.n1 e.n, [])) h ⟨(jD hn _).1, dg.nil⟩ ⟨HE (T := T) hx _, dp.nil _⟩ (jD hn _).2) ?_
  cases hk : e.kind == 13 with
  | true => exact absurd (eq_of_beq hk) h13
  | false =>
    rw [cond_false]
    refine pc ?_ hsame
    cases hf : (aA e.data c.link.ses).2 == 0 with
    | true => exact hsame
    | false =>
      obtain ⟨hR, Q, hX, hq, h4⟩ := GD h (b := e.data) (fun _ h0 => by rw [h0] at hf; exact absurd hf (by simp))
      exact Fb h hR.2 hX.2 hR.1 hX.1 hq (fun a b _ => h4 a b)
theorem Hd {fut : List Int} {T : Tre} {B : Int} {c : Cl} {g : Int} (h : Iv (g :: fut) T B c) : Iv fut T B (aZ c 1 (cI c.n1 g)) := by
  have hi := xX h.inv
  obtain ⟨k1, k2, k3, k4⟩ := lJ h.co.ci.nb g
  have hst : (cI c.n1 g).store = c.n1.store ∧ (cI c.n1 g).peer = c.n1.peer := by
    unfold cI
    exact ai (p := fun (x : Nd) => x.store = c.n1.store ∧ x.peer = c.n1.peer) ⟨rfl, rfl⟩ ⟨rfl, rfl⟩
  generalize cI c.n1 g = m at hi k1 k2 k3 k4 hst
  have hpos : ∀ v, Pos m v → Pos c.n1 v := fun v hv => by
    unfold Pos at hv ⊢
    rw [← hst.1, ← k2.up]
    exact hv
  have hex : Exa m := fun hu => by rw [hst.1]; exact h.co.xb (by rw [← k2.up]; exact hu)
  have hbl : m.up = true → m.store.super.blocks = B := fun hu => by rw [hst.1]; exact h.co.bb (by rw [← k2.up]; exact hu)
  refine ⟨⟨hi.1, h.co.xa, hex, fun v w hv hw => h.co.j v w hv (hpos w hw), h.co.ba, hbl⟩, fun hk => hi.2.dn hk, fun hk => ?_⟩
  obtain ⟨H0, H1, hg⟩ := h.up hk
  exact ⟨H0, H1, hg.sam1 k2 hst.2 (show m.store.super.inc = c.n1.store.super.inc by rw [hst.1])⟩
theorem iv1 {l : List Evt} {T : Tre} {B : Int} {c : Cl} {e : Evt} (h : Iv (j9 (e :: l)) T B c) (hB : IntKind.wrap .i64 ((c.n1.store.disk.sure.length : Int) - 2) = B) (he : e.node = 1) : ∃ T', Iv (j9 l) T' B (doM c e).1 := by
  have e1 : doM c e = oh c e 1 c.n1 := by unfold doM; rw [he]; rfl
  rw [e1]
  by_cases h13 : e.kind = 13
  · have e2 : (oh c e 1 c.n1).1 = aZ c 1 (cI c.n1 e.n) := by unfold oh; rw [h13]; rfl
    rw [e2]
    rw [jE h13] at h
    exact ⟨T, Hd h⟩
  · rw [jN h13] at h
    exact CX h hB e h13
theorem CP {N a m s : Nat} {l : List Evt} {T : Tre} {B : Int} {c : Cl} {e : Evt} (hB : IntKind.wrap .i64 ((N : Int) - 2) = B) (hb : ClB N a m s c) (h : Iv (j9 (e :: l)) T B c) : ∃ T', Iv (j9 l) T' B (doM c e).1 := by
  by_cases h0 : e.node = 0
  · exact iv0 h (by rw [hb.n0.1.1]; exact hB) h0
  · by_cases h1 : e.node = 1
    · exact iv1 h (by rw [hb.n1.1.1]; exact hB) h1
    · have e1 : doM c e = (c, []) := by
        have b0 : (e.node == 0) = false := by simpa using h0
        have b1 : (e.node == 1) = false := by simpa using h1
        unfold doM
        rw [b0, b1]
        rfl
      rw [e1]
      refine ⟨T, ⟨⟨h.co.ci.less fun x => ?_, h.co.xa, h.co.xb, h.co.j, h.co.ba, h.co.bb⟩, h.dn, h.up⟩⟩
      by_cases h13 : e.kind = 13
      · rw [jE h13, List.count_cons]; exact Nat.le_add_right _ _
      · rw [jN h13]; exact Nat.le_refl _
theorem uZ (l : List Evt) (c : Cl) (o : List Ou) : (l.foldl (fun x e => ((doM x.1 e).1, x.2 ++ (doM x.1 e).2)) (c, o)).1 = (ja c l).1 := by
  induction l generalizing c o with
  | nil => rfl
  | cons e l ih =>
    unfold ja
    rw [List.foldl_cons, List.foldl_cons, ih, ih]
theorem xS : ∀ (l r : List Evt) {N a m s : Nat} {T : Tre} {B : Int} {c : Cl}, IntKind.wrap .i64 ((N : Int) - 2) = B → ClB N a m s c → Iv (j9 (l ++ r)) T B c → ∃ T', Iv (j9 r) T' B (ja c l).1
  | [], r, _, _, _, _, T, _, c, _, _, h => ⟨T, h⟩
  | e :: l, r, _, _, _, _, T, _, c, hB, hb, h => by
    obtain ⟨T1, h1⟩ := CP (l := l ++ r) hB hb h
    obtain ⟨T2, h2⟩ := xS l r hB (yE hb e).1 h1
    refine ⟨T2, ?_⟩
    have : (ja c (e :: l)).1 = (ja (doM c e).1 l).1 := by
      unfold ja
      rw [List.foldl_cons]
      exact uZ _ _ _
    rw [this]
    exact h2
end Go.Dm
namespace Go.Dm
open Go
theorem u2 {T : Tre} (ht : b9 T) : ∀ {x y : Int}, Kn T x → Kn T y → x ∈ bB T y → y ∈ bB T x → x = y := by
  induction T with
  | nil => intro x y _ _ h _; simp [bB] at h; exact h
  | cons e T ih =>
    obtain ⟨a, p⟩ := e
    intro x y hx hy h1 h2
    have kn : ∀ z, z ≠ a → Kn ((a, p) :: T) z → Kn T z := by
      intro z hz h
      rcases h with h | h
      · exact Or.inl h
      · simp only [oq, List.map_cons, List.mem_cons] at h
        rcases h with h | h
        · exact absurd h hz
        · exact Or.inr h
    by_cases hxa : x = a
    · by_cases hya : y = a
      · rw [hxa, hya]
      · exfalso
        rw [bB, if_neg hya] at h1
        exact ez ht (jx ht.2.2.2.2 (kn y hya hy) x h1) hxa
    · by_cases hya : y = a
      · exfalso
        rw [bB, if_neg hxa] at h2
        exact ez ht (jx ht.2.2.2.2 (kn x hxa hx) y h2) hya
      · rw [bB, if_neg hya] at h1
        rw [bB, if_neg hxa] at h2
        exact ih ht.2.2.2.2 (kn x hxa hx) (kn y hya hy) h1 h2
theorem mD {v : Ve} {g : Int} (h0 : g ≠ 0) (hc : v.cur ≠ g) : (aL v g > 0 ∧ (g = v.bit ∨ g = v.o0 ∨ g = v.o1)) ∨ (aL v g < 0 ∧ ¬ (g = v.bit ∨ g = v.o0 ∨ g = v.o1)) := by
  have a0 : (g == 0) = false := by simpa using h0
  have a1 : (v.cur == g) = false := by simpa using hc
  unfold aL
  rw [a0, a1]
  cases h2 : v.bit == g with
  | true => exact Or.inl ⟨by simp, Or.inl (eq_of_beq h2).symm⟩
  | false =>
    cases h3 : v.o0 == g with
    | true => exact Or.inl ⟨by simp, Or.inr (Or.inl (eq_of_beq h3).symm)⟩
    | false =>
      cases h4 : v.o1 == g with
      | true => exact Or.inl ⟨by simp, Or.inr (Or.inr (eq_of_beq h4).symm)⟩
      | false =>
        refine Or.inr ⟨by simp, ?_⟩
        simp at h2 h3 h4
        omega
theorem tR {T : Tre} (ht : b9 T) {v w : Ve} (hv : Kn T v.cur) (hne : w.cur ≠ v.cur) (hin : w.cur ∈ bB T v.cur) (hG : Gp T v w) (hno : ¬ (w.cur = v.bit ∨ w.cur = v.o0 ∨ w.cur = v.o1)) : v8 (bB T v.cur) w.cur > 2 := by
  have hp : ¬ (w.cur = di T v.cur ∨ w.cur = di T (di T v.cur)) := fun h => hno (hG hne h)
  have hany : (bB T v.cur).any (w.cur == ·) = true := by
    rw [List.any_eq_true]
    exact ⟨_, hin, by simp⟩
  have hl : (bB T v.cur).findIdx (w.cur == ·) < (bB T v.cur).length := ce hany
  have hx := List.findIdx_getElem (w := hl)
  have hx := eq_of_beq hx
  obtain ⟨r, hr⟩ := iG T v.cur
  have hg := (og (sK ht hv).1 (x := v.cur) (by rw [hr]; rfl)).1 _ hl
  rw [← hx] at hg
  unfold v8
  rw [hany, cond_true]
  generalize (bB T v.cur).findIdx (w.cur == ·) = i at hg
  by_cases h3 : i > 2
  · omega
  · exfalso
    have : i = 0 ∨ i = 1 ∨ i = 2 := by omega
    rcases this with rfl | rfl | rfl
    · exact hne hg.symm
    · exact hp (Or.inl hg.symm)
    · exact hp (Or.inr hg.symm)
def kb (c : Cl) : Vd := ag (cy c.n0) (cy c.n1)
def bI (k s r b10 b01 : Int) (p0 p1 : Bool) : Bool :=
  bif r == 3 then k == 4 else
  bif !(k == 4) then (!(s == 0) || !(r == 2)) && (!(s == 1) || !(r == 1)) else
  bif p0 && p1 then true else
  r == 1 && (p1 || decide (b10 > 2)) || r == 2 && (p0 || decide (b01 > 2))
def bH (c : Cl) : Bool :=
  bif decide (l5 c < 0) || c.n0.store.super.inc || c.n1.store.super.inc || c.n0.store.super.dis || c.n1.store.super.dis then true else
  bI (kb c).kind (kb c).src (l5 c) (hJ c c.n1.store.super.v.cur c.n0.store.super.v.cur) (hJ c c.n0.store.super.v.cur c.n1.store.super.v.cur) c.n0.primary c.n1.primary
theorem rZ {x y : He} {r b10 b01 : Int} (hb : x.blocks = y.blocks) (xi : x.inc = false) (yi : y.inc = false) (xd : x.dis = false) (yd : y.dis = false)
    (h0 : x.v.cur = y.v.cur → r = 0) (h1 : x.v.cur ≠ y.v.cur → aL x.v y.v.cur > 0 → r = 1 ∧ aL y.v x.v.cur < 0) (h2 : x.v.cur ≠ y.v.cur → aL y.v x.v.cur > 0 → r = 2 ∧ aL x.v y.v.cur < 0)
    (h3 : r = 1 → ¬ aL x.v y.v.cur > 0 → b10 > 2) (h4 : r = 2 → ¬ aL y.v x.v.cur > 0 → b01 > 2) (h5 : x.v.cur ≠ y.v.cur → r = 1 ∨ r = 2 ∨ r = 3) :
    bI (ag x y).kind (ag x y).src r b10 b01 x.pri y.pri = true := by
  have e : (!(x.blocks == y.blocks) || x.pri && y.pri || x.inc && y.inc || x.dis && y.dis) = (x.pri && y.pri) := by simp [hb, xi, xd]
  unfold ag
  rw [e, xi, yi, xd, yd]
  simp only [cond_false]
  obtain ⟨xb, xv, xi', xw, xd', xp, xm⟩ := x
  obtain ⟨yb, yv, yi', yw, yd', yp, ym⟩ := y
  simp only at h0 h1 h2 h3 h4 h5 ⊢
  by_cases hc : xv.cur = yv.cur
  · obtain rfl := h0 hc
    rw [show (xv.cur == yv.cur) = true by simpa using hc]
    cases (mi xm == 0 && mi ym == 0) <;> cases xp <;> cases yp <;> cases xw <;> cases yw <;> simp [aO, ay, bI]
  · rw [show (xv.cur == yv.cur) = false by simpa using hc]
    have h1 := h1 hc
    have h2 := h2 hc
    have h5 := h5 hc
    generalize aL xv yv.cur = P at *
    generalize aL yv xv.cur = Q at *
    by_cases hP : P > 0
    · obtain ⟨rfl, hQ⟩ := h1 hP
      have : (cl P == 4) = false := by
        unfold cl
        rw [show (P == 0) = false by simp; omega]
        cases P == 1 <;> rfl
      have k4 : ¬ cl P = 4 := by simpa using this
      cases xp <;> cases yp <;> simp [aO, ay, bI, hP, hQ, this, k4]
    · by_cases hQ : Q > 0
      · obtain ⟨rfl, hP2⟩ := h2 hQ
        have : (cl Q == 4) = false := by
          unfold cl
          rw [show (Q == 0) = false by simp; omega]
          cases Q == 1 <;> rfl
        have k4 : ¬ cl Q = 4 := by simpa using this
        cases xp <;> cases yp <;> simp [aO, ay, bI, hP, hP2, hQ, this, k4]
      · have c1 : (decide (P > 0) && decide (Q < 0)) = false := by simp [hP]
        have c2 : (decide (Q > 0) && decide (P < 0)) = false := by simp [hQ]
        rw [c1, c2]
        rcases h5 with rfl | rfl | rfl
        · have := h3 rfl hP
          cases xp <;> cases yp <;> simp [ay, bI, this]
        · have := h4 rfl hQ
          cases xp <;> cases yp <;> simp [ay, bI, this]
        · cases xp <;> cases yp <;> simp [ay, bI]
theorem uB {fut : List Int} {T : Tre} {B : Int} {c : Cl} (h : Iv fut T B c) : bH c = true := by
  unfold bH
  cases hg : (decide (l5 c < 0) || c.n0.store.super.inc || c.n1.store.super.inc || c.n0.store.super.dis || c.n1.store.super.dis) with
  | true => rfl
  | false =>
    rw [cond_false]
    simp only [Bool.or_eq_false_iff] at hg
    obtain ⟨⟨⟨⟨g0, i0⟩, i1⟩, d0⟩, d1⟩ := hg
    have hu : c.n0.up = true ∧ c.n1.up = true := by
      unfold l5 at g0
      cases u0 : c.n0.up <;> cases u1 : c.n1.up <;> simp [u0, u1] at g0 ⊢
    obtain ⟨u0, u1⟩ := hu
    have ht := h.co.ci.tr
    have p0 := h.co.ci.na.s u0
    have p1 := h.co.ci.nb.s u1
    have k0 := p0.2.1
    have k1 := p1.2.1
    have z0 := Kn.nz ht k0
    have z1 := Kn.nz ht k1
    have q0 : Pos c.n0 c.n0.store.super.v := ⟨fun _ => ⟨i0, rfl⟩, fun hd => absurd (u0.symm.trans hd) (by simp)⟩
    have q1 : Pos c.n1 c.n1.store.super.v := ⟨fun _ => ⟨i1, rfl⟩, fun hd => absurd (u1.symm.trans hd) (by simp)⟩
    obtain ⟨G0, G1⟩ := h.co.j _ _ q0 q1
    have l0 : ∀ g, inL (bL c) g c.n0.store.super.v.cur = (bB T c.n0.store.super.v.cur).contains g := fun g => xL h.inv k0
    have l1 : ∀ g, inL (bL c) g c.n1.store.super.v.cur = (bB T c.n1.store.super.v.cur).contains g := fun g => xL h.inv k1
    have b0 : ∀ g, hJ c g c.n0.store.super.v.cur = v8 (bB T c.n0.store.super.v.cur) g := fun g => by
      unfold hJ; rw [show gk (bL c) c.n0.store.super.v.cur = bB T c.n0.store.super.v.cur from h.co.ci.mt.line ht k0]
    have b1 : ∀ g, hJ c g c.n1.store.super.v.cur = v8 (bB T c.n1.store.super.v.cur) g := fun g => by
      unfold hJ; rw [show gk (bL c) c.n1.store.super.v.cur = bB T c.n1.store.super.v.cur from h.co.ci.mt.line ht k1]
    have hr : l5 c = bif c.n0.store.super.v.cur == c.n1.store.super.v.cur then 0 else bif (bB T c.n0.store.super.v.cur).contains c.n1.store.super.v.cur then 1 else bif (bB T c.n1.store.super.v.cur).contains c.n0.store.super.v.cur then 2 else 3 := by
      unfold l5
      rw [u0, u1]
      simp only [mN, Bool.not_true, Bool.or_self, cond_false, beq_self_eq_true, cond_true, show ((1 : Int) == 0) = false from rfl]
      rw [l0, l1]
    have c0 : ∀ g, (g = c.n0.store.super.v.bit ∨ g = c.n0.store.super.v.o0 ∨ g = c.n0.store.super.v.o1) → g = 0 ∨ g ∈ bB T c.n0.store.super.v.cur := (p0.2.2 i0).1
    have c1 : ∀ g, (g = c.n1.store.super.v.bit ∨ g = c.n1.store.super.v.o0 ∨ g = c.n1.store.super.v.o1) → g = 0 ∨ g ∈ bB T c.n1.store.super.v.cur := (p1.2.2 i1).1
    show bI (kb c).kind (kb c).src (l5 c) (hJ c c.n1.store.super.v.cur c.n0.store.super.v.cur) (hJ c c.n0.store.super.v.cur c.n1.store.super.v.cur) (cy c.n0).pri (cy c.n1).pri = true
    rw [b0, b1, hr]
    unfold kb
    have anti := fun h1 h2 => u2 ht k0 k1 h1 h2
    have far0 := fun hne hin => tR ht k0 (w := c.n1.store.super.v) hne hin G0
    have far1 := fun hne hin => tR ht k1 (w := c.n0.store.super.v) hne hin G1
    have pl0 := fun hc => mD (v := c.n0.store.super.v) z1 hc
    have pl1 := fun hc => mD (v := c.n1.store.super.v) z0 hc
    refine rZ (x := cy c.n0) (y := cy c.n1) ((h.co.ba u0).trans (h.co.bb u1).symm) i0 i1 d0 d1 ?_ ?_ ?_ ?_ ?_ ?_
    · intro he
      have he : c.n0.store.super.v.cur = c.n1.store.super.v.cur := he
      rw [show (c.n0.store.super.v.cur == c.n1.store.super.v.cur) = true by simpa using he]; rfl
    · intro hne hp
      have hne : c.n0.store.super.v.cur ≠ c.n1.store.super.v.cur := hne
      have hp : aL c.n0.store.super.v c.n1.store.super.v.cur > 0 := hp
      have hin : c.n1.store.super.v.cur ∈ bB T c.n0.store.super.v.cur := by
        rcases pl0 hne with ⟨_, hh⟩ | ⟨hn, _⟩
        · rcases c0 _ hh with h5 | h5
          · exact absurd h5 z1
          · exact h5
        · omega
      refine ⟨?_, ?_⟩
      · rw [show (c.n0.store.super.v.cur == c.n1.store.super.v.cur) = false by simpa using hne, show (bB T c.n0.store.super.v.cur).contains c.n1.store.super.v.cur = true by simpa using hin]; rfl
      · show aL c.n1.store.super.v c.n0.store.super.v.cur < 0
        rcases pl1 (Ne.symm hne) with ⟨_, hh⟩ | ⟨hn, _⟩
        · exfalso
          rcases c1 _ hh with h5 | h5
          · exact absurd h5 z0
          · exact hne (anti h5 hin)
        · exact hn
    · intro hne hp
      have hne : c.n0.store.super.v.cur ≠ c.n1.store.super.v.cur := hne
      have hp : aL c.n1.store.super.v c.n0.store.super.v.cur > 0 := hp
      have hin : c.n0.store.super.v.cur ∈ bB T c.n1.store.super.v.cur := by
        rcases pl1 (Ne.symm hne) with ⟨_, hh⟩ | ⟨hn, _⟩
        · rcases c1 _ hh with h5 | h5
          · exact absurd h5 z0
          · exact h5
        · omega
      have hnin : ¬ c.n1.store.super.v.cur ∈ bB T c.n0.store.super.v.cur := fun h5 => hne (anti hin h5)
      refine ⟨?_, ?_⟩
      · rw [show (c.n0.store.super.v.cur == c.n1.store.super.v.cur) = false by simpa using hne, show (bB T c.n0.store.super.v.cur).contains c.n1.store.super.v.cur = false by simpa using hnin, show (bB T c.n1.store.super.v.cur).contains c.n0.store.super.v.cur = true by simpa using hin]; rfl
      · show aL c.n0.store.super.v c.n1.store.super.v.cur < 0
        rcases pl0 hne with ⟨_, hh⟩ | ⟨hn, _⟩
        · exfalso
          rcases c0 _ hh with h5 | h5
          · exact absurd h5 z1
          · exact hnin h5
        · exact hn
    · intro hr1 hp
      have hp : ¬ aL c.n0.store.super.v c.n1.store.super.v.cur > 0 := hp
      by_cases he : c.n0.store.super.v.cur = c.n1.store.super.v.cur
      · rw [show (c.n0.store.super.v.cur == c.n1.store.super.v.cur) = true by simpa using he] at hr1; simp at hr1
      · rw [show (c.n0.store.super.v.cur == c.n1.store.super.v.cur) = false by simpa using he] at hr1
        have hin : c.n1.store.super.v.cur ∈ bB T c.n0.store.super.v.cur := by
          cases hi : (bB T c.n0.store.super.v.cur).contains c.n1.store.super.v.cur with
          | true => simpa using hi
          | false => rw [hi] at hr1; cases hj : (bB T c.n1.store.super.v.cur).contains c.n0.store.super.v.cur <;> rw [hj] at hr1 <;> simp at hr1
        rcases pl0 he with ⟨hh, _⟩ | ⟨_, hh⟩
        · exact absurd hh hp
        · exact far0 (Ne.symm he) hin hh
    · intro hr1 hp
      have hp : ¬ aL c.n1.store.super.v c.n0.store.super.v.cur > 0 := hp
      by_cases he : c.n0.store.super.v.cur = c.n1.store.super.v.cur
      · rw [show (c.n0.store.super.v.cur == c.n1.store.super.v.cur) = true by simpa using he] at hr1; simp at hr1
      · rw [show (c.n0.store.super.v.cur == c.n1.store.super.v.cur) = false by simpa using he] at hr1
        have hin : c.n0.store.super.v.cur ∈ bB T c.n1.store.super.v.cur := by
          cases hi : (bB T c.n0.store.super.v.cur).contains c.n1.store.super.v.cur with
          | true => rw [hi] at hr1; simp at hr1
          | false => cases hj : (bB T c.n1.store.super.v.cur).contains c.n0.store.super.v.cur with
            | true => simpa using hj
            | false => rw [hi, hj] at hr1; simp at hr1
        rcases pl1 (Ne.symm he) with ⟨hh, _⟩ | ⟨_, hh⟩
        · exact absurd hh hp
        · exact far1 he hin hh
    · intro hne
      have hne : c.n0.store.super.v.cur ≠ c.n1.store.super.v.cur := hne
      rw [show (c.n0.store.super.v.cur == c.n1.store.super.v.cur) = false by simpa using hne]
      cases (bB T c.n0.store.super.v.cur).contains c.n1.store.super.v.cur <;> cases (bB T c.n1.store.super.v.cur).contains c.n0.store.super.v.cur <;> simp
end Go.Dm
