/-
  The data machine, part T: code; a function; a law.
-/
import Derived.Test.YthadbladkbfcmaaDmS
namespace Go.Dm
open Go.RowKit

theorem RelS.head {E : Env} {F : Fm} {s : St} {a : Act} {w : World} (h : RelS E F s a w) (hint : LoopHint) : RelS E F (s.head hint) a w := by
  unfold St.head
  have h1 := tagTmps_sound (vs := s.vars) (ts' := (tagTmps s.tmps s.toks hint.tags).1) (ks' := (tagTmps s.tmps s.toks hint.tags).2) rfl h
  have h2 := tagVars_sound (vs' := (tagVars s.vars (tagTmps s.tmps s.toks hint.tags).2 hint.vtags).1) (ks' := (tagVars s.vars (tagTmps s.tmps s.toks hint.tags).2 hint.vtags).2) rfl h1
  exact h2.forget hint.forget

def Ext.toExit : Ext → Exit
  | .normal => .normal
  | .exit id => .exit id
  | .ret => .ret

theorem iter_ne {f : St → Option (Ext × St)} {g : St → Option St} : ∀ (n : Nat) (s s' : St), iter f g n s ≠ some (.normal, s')
  | 0, s, s', h => by simp [iter] at h
  | n + 1, s, s', h => by
    simp only [iter] at h
    split at h
    · split at h
      · exact iter_ne n _ _ h
      · cases h
    · rename_i hne
      exact hne s' h

theorem iter_sound {E : Env} {F : Fm} {c : Code} {f : St → Option (Ext × St)} {g : St → Option St} {Q : Exit → Act → World → Prop}
    (hf : ∀ (s : St) (e : Ext) (s' : St) (Q' : Exit → Act → World → Prop) (a : Act) (w : World), f s = some (e, s') → RelS E F s a w → (∀ a' w', RelS E F s' a' w' → Q' e.toExit a' w') → c.wp E.P Q' a w)
    (hg : ∀ (s s' : St) (a : Act) (w : World), g s = some s' → RelS E F s a w → RelS E F s' a w) : ∀ (n : Nat) (s : St) (e : Ext) (s' : St) (a : Act) (w : World), iter f g n s = some (e, s') → RelS E F s a w → (∀ a' w', RelS E F s' a' w' → Q e.toExit a' w') →
    Code.rounds E.P c Q n a w
  | 0, s, e, s', a, w, h, _, _ => by simp [iter] at h
  | n + 1, s, e, s', a, w, h, hr, hQ => by
    rw [rounds_succ]
    have hall := h
    simp only [iter] at h
    split at h
    · rename_i s1 hs1
      split at h
      · rename_i s2 hs2
        exact hf s .normal s1 _ a w hs1 hr (fun a' w' hr' => iter_sound hf hg n s2 e s' a' w' h (hg s1 s2 a' w' hs2 hr') hQ)
      · cases h
    · cases e with
      | normal => exact absurd hall (iter_ne (n + 1) s s')
      | exit id => exact hf s _ s' _ a w h hr (fun a' w' hr' => hQ a' w' hr')
      | ret => exact hf s _ s' _ a w h hr (fun a' w' hr' => hQ a' w' hr')

theorem setVars_length' {vs vs' : List (List V)} {uv : List (Nat × List V)} (h : setVars vs uv = some vs') : vs'.length = vs.length := (setVars_get h).1

theorem apply_vars {s s' : St} {d : Option Tmp} {e : Eff} (h : s.apply d e = some s') : s.vars.length ≤ s'.vars.length := by
  unfold St.apply at h
  split at h
  · rename_i vs ts hv _
    have hl := setVars_length' hv
    simp only at h
    cases hn : e.nv <;> simp only [hn] at h <;> split at h
    · split at h
      · cases h; simp only; omega
      · cases h
    · cases h; simp only; omega
    · split at h
      · cases h; simp only [List.length_append, List.length_singleton]; omega
      · cases h
    · cases h; simp only [List.length_append, List.length_singleton]; omega
  · cases h

theorem evalOps_vars {E : Env} {ops : Array Oper} : ∀ {l : List Oper} {s s' : St} {ts : List Touch}, evalOps E ops l s = some (s', ts) → s.vars.length ≤ s'.vars.length
  | [], s, s', ts, h => by simp only [evalOps, Option.some.injEq, Prod.mk.injEq] at h; obtain ⟨rfl, _⟩ := h; exact Nat.le_refl _
  | o :: rest, s, s', ts, h => by
    simp only [evalOps] at h
    split at h
    · cases h
    · split at h
      · cases h
      · split at h
        · cases h
        · rename_i s1 hs1
          split at h
          · cases h
          · rename_i s2 ts2 hrec
            simp only [Option.some.injEq, Prod.mk.injEq] at h
            obtain ⟨rfl, _⟩ := h
            exact Nat.le_trans (apply_vars hs1) (evalOps_vars hrec)

theorem region_vars {E : Env} {ops : Array Oper} {draw : Bool} {s s' : St} (h : evalRegion E ops draw s = some s') : s.vars.length ≤ s'.vars.length := by
  unfold evalRegion at h
  split at h
  · cases h
  · rename_i s1 ts hev
    split at h
    · cases h; exact evalOps_vars hev
    · cases h

theorem tagVars_length : ∀ (hs : List (Nat × Nat × Nat)) (vs : List (List V)) (ks : List Nat), (tagVars vs ks hs).1.length = vs.length
  | [], vs, ks => rfl
  | (id, off, z) :: hs, vs, ks => by
    simp only [tagVars]
    split
    · split
      · rw [tagVars_length hs]; simp
      · exact tagVars_length hs vs ks
    · exact tagVars_length hs vs ks

theorem iter_vars {f : St → Option (Ext × St)} {g : St → Option St} {m : Nat} (hf : ∀ s e s', f s = some (e, s') → s.vars.length ≤ s'.vars.length) (hg : ∀ s s', g s = some s' → m ≤ s.vars.length → m ≤ s'.vars.length) :
    ∀ (n : Nat) (s : St) (e : Ext) (s' : St), iter f g n s = some (e, s') → m ≤ s.vars.length → m ≤ s'.vars.length
  | 0, s, e, s', h, _ => by simp [iter] at h
  | n + 1, s, e, s', h, hm => by
    simp only [iter] at h
    split at h
    · rename_i s1 hs1
      split at h
      · rename_i s2 hs2
        exact iter_vars hf hg n s2 e s' h (hg s1 s2 hs2 (Nat.le_trans hm (hf s _ s1 hs1)))
      · cases h
    · exact Nat.le_trans hm (hf s e s' h)

theorem cut_vars {s s' : St} {n k : Nat} (h : s.cut n k = some s') (hn : n ≤ s.vars.length) : s'.vars.length = n := by
  unfold St.cut at h
  split at h
  · cases h; simp; omega
  · cases h

theorem code_vars {E : Env} {H : Nat → LoopHint} {n : Nat} : ∀ (c : Code) (s : St) (e : Ext) (s' : St), evalCode E H n c s = some (e, s') → s.vars.length ≤ s'.vars.length
  | .skip, s, e, s', h => by simp only [evalCode, Option.some.injEq, Prod.mk.injEq] at h; obtain ⟨_, rfl⟩ := h; exact Nat.le_refl _
  | .region id ops draw, s, e, s', h => by
    simp only [evalCode] at h
    split at h
    · rename_i s1 hs1
      simp only [Option.some.injEq, Prod.mk.injEq] at h
      obtain ⟨_, rfl⟩ := h
      exact region_vars hs1
    · cases h
  | .seq x y, s, e, s', h => by
    simp only [evalCode] at h
    split at h
    · rename_i s1 hs1
      exact Nat.le_trans (code_vars x s _ s1 hs1) (code_vars y s1 e s' h)
    · exact code_vars x s e s' h
  | .cond c x y, s, e, s', h => by
    simp only [evalCode] at h
    split at h
    · exact code_vars x s e s' h
    · exact code_vars y s e s' h
    · cases h
  | .block id b, s, e, s', h => by
    simp only [evalCode] at h
    split at h
    · rename_i i s1 hs1
      have := code_vars b s _ s1 hs1
      split at h <;> (simp only [Option.some.injEq, Prod.mk.injEq] at h; obtain ⟨_, rfl⟩ := h; exact this)
    · exact code_vars b s e s' h
  | .loop b, s, e, s', h => by
    simp only [evalCode] at h
    have hlen : (s.head (H (firstRegion b))).vars.length = s.vars.length := by unfold St.head; exact tagVars_length _ _ _
    rw [← hlen]
    refine iter_vars (m := (s.head (H (firstRegion b))).vars.length) (fun s e s' h => code_vars b s e s' h) (fun s1 s2 h1 hm => ?_) n _ e s' h (Nat.le_refl _)
    simp only [Option.map_eq_some_iff] at h1
    obtain ⟨s3, hs3, rfl⟩ := h1
    have := cut_vars hs3 hm
    simp only
    omega
  | .exit id, s, e, s', h => by simp only [evalCode, Option.some.injEq, Prod.mk.injEq] at h; obtain ⟨_, rfl⟩ := h; exact Nat.le_refl _
  | .ret, s, e, s', h => by simp only [evalCode, Option.some.injEq, Prod.mk.injEq] at h; obtain ⟨_, rfl⟩ := h; exact Nat.le_refl _
  | .rangeFunc _ _ _ _, s, e, s', h => by simp [evalCode] at h
  | .scope _, s, e, s', h => by simp [evalCode] at h
  | .label _, s, e, s', h => by simp [evalCode] at h
  | .goto _, s, e, s', h => by simp [evalCode] at h
  | .refuse _, s, e, s', h => by simp [evalCode] at h

/-- **CODE.** -/
theorem code_sound {E : Env} (hE : EnvOk E) {F : Fm} {H : Nat → LoopHint} {n : Nat} : ∀ (c : Code) (s : St) (e : Ext) (s' : St) (Q : Exit → Act → World → Prop) (a : Act) (w : World), evalCode E H n c s = some (e, s') → F.locs.length ≤ s.vars.length → RelS E F s a w →
    (∀ a' w', RelS E F s' a' w' → Q e.toExit a' w') → c.wp E.P Q a w
  | .skip, s, e, s', Q, a, w, h, _, hr, hQ => by
    simp only [evalCode, Option.some.injEq, Prod.mk.injEq] at h
    obtain ⟨rfl, rfl⟩ := h
    exact wp_skip (hQ a w hr)
  | .region id ops draw, s, e, s', Q, a, w, h, _, hr, hQ => by
    simp only [evalCode] at h
    split at h
    · rename_i s1 hs1
      simp only [Option.some.injEq, Prod.mk.injEq] at h
      obtain ⟨rfl, rfl⟩ := h
      exact region_sound hE hs1 hr hQ
    · cases h
  | .seq x y, s, e, s', Q, a, w, h, hl, hr, hQ => by
    simp only [evalCode] at h
    refine wp_seq ?_
    split at h
    · rename_i s1 hs1
      exact code_sound hE x s _ s1 _ a w hs1 hl hr (fun a' w' hr' => code_sound hE y s1 e s' Q a' w' h (Nat.le_trans hl (code_vars x s _ s1 hs1)) hr' hQ)
    · rename_i hne
      cases e with
      | normal => exact absurd h (hne s')
      | exit id => exact code_sound hE x s _ s' _ a w h hl hr (fun a' w' hr' => hQ a' w' hr')
      | ret => exact code_sound hE x s _ s' _ a w h hl hr (fun a' w' hr' => hQ a' w' hr')
  | .cond c x y, s, e, s', Q, a, w, h, hl, hr, hQ => by
    simp only [evalCode] at h
    have hc : ∀ b, (E.ev s.mem c).bool? = some b → a.eval c = .bool b := fun b hb => by
      obtain ⟨_, γ, hrel, hg⟩ := hr
      have := ev_rep hrel hg c
      rw [bool?_eq hb, pure_rep] at this
      exact this.1
    split at h
    · rename_i hb
      exact wp_cond_true (hc true hb) (code_sound hE x s e s' Q a w h hl hr hQ)
    · rename_i hb
      exact wp_cond_false (hc false hb) (code_sound hE y s e s' Q a w h hl hr hQ)
    · cases h
  | .block id b, s, e, s', Q, a, w, h, hl, hr, hQ => by
    simp only [evalCode] at h
    refine wp_block ?_
    split at h
    · rename_i i s1 hs1
      refine code_sound hE b s _ s1 _ a w hs1 hl hr (fun a' w' hr' => ?_)
      simp only [Ext.toExit, Exit.inBlock]
      split at h
      · rename_i hi
        simp only [Option.some.injEq, Prod.mk.injEq] at h
        obtain ⟨rfl, rfl⟩ := h
        rw [if_pos hi]
        exact hQ a' w' hr'
      · rename_i hi
        simp only [Option.some.injEq, Prod.mk.injEq] at h
        obtain ⟨rfl, rfl⟩ := h
        rw [if_neg hi]
        exact hQ a' w' hr'
    · rename_i hne
      refine code_sound hE b s e s' _ a w h hl hr (fun a' w' hr' => ?_)
      cases e with
      | exit i => exact absurd h (hne i s')
      | normal => exact hQ a' w' hr'
      | ret => exact hQ a' w' hr'
  | .loop b, s, e, s', Q, a, w, h, hl, hr, hQ => by
    simp only [evalCode] at h
    have hlen : (s.head (H (firstRegion b))).vars.length = s.vars.length := by unfold St.head; exact tagVars_length _ _ _
    refine wp_loop_rounds n ?_
    -- the variables that are lent stay
    have key := iter_sound (E := E) (F := F) (c := b) (Q := Q) (f := fun s1 => if F.locs.length ≤ s1.vars.length then evalCode E H n b s1 else none)
      (g := fun s1 => (s1.cut (s.head (H (firstRegion b))).vars.length (s.head (H (firstRegion b))).toks.length).map fun s2 => { s2 with tmps := forgetAll s2.tmps (H (firstRegion b)).forget })
      (fun s1 e1 s2 Q' a1 w1 h1 hr1 hQ1 => by
        split at h1
        · rename_i hl1
          exact code_sound hE b s1 e1 s2 Q' a1 w1 h1 hl1 hr1 hQ1
        · cases h1)
      (fun s1 s2 a1 w1 h1 hr1 => by
        simp only [Option.map_eq_some_iff] at h1
        obtain ⟨s3, hs3, rfl⟩ := h1
        exact (hr1.cut (by omega) hs3).forget _)
    refine key n (s.head (H (firstRegion b))) e s' a w ?_ (hr.head _) hQ
    -- the check holds all along
    rw [← h]
    have aux : ∀ (k : Nat) (s1 : St), (s.head (H (firstRegion b))).vars.length ≤ s1.vars.length →
        iter (fun s1 => if F.locs.length ≤ s1.vars.length then evalCode E H n b s1 else none) (fun s1 => (s1.cut (s.head (H (firstRegion b))).vars.length (s.head (H (firstRegion b))).toks.length).map fun s2 => { s2 with tmps := forgetAll s2.tmps (H (firstRegion b)).forget }) k s1 =
        iter (fun s1 => evalCode E H n b s1) (fun s1 => (s1.cut (s.head (H (firstRegion b))).vars.length (s.head (H (firstRegion b))).toks.length).map fun s2 => { s2 with tmps := forgetAll s2.tmps (H (firstRegion b)).forget }) k s1 := by
      intro k
      induction k with
      | zero => intro s1 _; rfl
      | succ k ih =>
        intro s1 hs1
        simp only [iter]
        rw [if_pos (by omega)]
        cases hev : evalCode E H n b s1 with
        | none => rfl
        | some r =>
          obtain ⟨e1, s2⟩ := r
          cases e1 with
          | normal =>
            simp only
            cases hcut : s2.cut (s.head (H (firstRegion b))).vars.length (s.head (H (firstRegion b))).toks.length with
            | none => rfl
            | some s3 =>
              simp only [Option.map_some]
              refine ih _ ?_
              have h1 := code_vars b s1 _ s2 hev
              have := cut_vars hcut (by omega)
              simp only
              omega
          | _ => rfl
    exact aux n _ (Nat.le_refl _)
  | .exit id, s, e, s', Q, a, w, h, _, hr, hQ => by
    simp only [evalCode, Option.some.injEq, Prod.mk.injEq] at h
    obtain ⟨rfl, rfl⟩ := h
    exact wp_exit (hQ a w hr)
  | .ret, s, e, s', Q, a, w, h, _, hr, hQ => by
    simp only [evalCode, Option.some.injEq, Prod.mk.injEq] at h
    obtain ⟨rfl, rfl⟩ := h
    exact wp_ret (hQ a w hr)
  | .rangeFunc _ _ _ _, s, e, s', _, _, _, h, _, _, _ => by simp [evalCode] at h
  | .scope _, s, e, s', _, _, _, h, _, _, _ => by simp [evalCode] at h
  | .label _, s, e, s', _, _, _, h, _, _, _ => by simp [evalCode] at h
  | .goto _, s, e, s', _, _, _, h, _, _, _ => by simp [evalCode] at h
  | .refuse _, s, e, s', _, _, _, h, _, _, _ => by simp [evalCode] at h
end Go.Dm
