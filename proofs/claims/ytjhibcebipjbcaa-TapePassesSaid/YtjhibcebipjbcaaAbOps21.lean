/- Code, and whole functions. -/
import Derived.Test.YtjhibcebipjbcaaAbOps20
set_option linter.unusedSimpArgs false
namespace Go.Ab
variable {U : Nat → Type}
def loopRun (E : Env U) (h : Hd) (c : Code) (i : Nat) : Nat → St U → Option (Ex × St U)
  | 0, _ => none
  | k + 1, σ => match (round E h c i σ).run with
    | some (.inl σ') => loopRun E h c i k σ'
    | some (.inr e) => some e
    | none => none
def LoopsOk (E : Env U) : Code → Nat → Prop
  | .seq a b, i => LoopsOk E a i ∧ LoopsOk E b (i + nl a)
  | .cond _ a b, i => LoopsOk E a i ∧ LoopsOk E b (i + nl a)
  | .block _ c, i => LoopsOk E c i
  | .loop c, i => (∀ h spec, E.lps i = some (h, spec) → ∀ σ r x p, spec σ = some r → r.o = some x → (r.out x).run = some p → ∃ k, loopRun E h c i k σ = some p) ∧ LoopsOk E c (i + 1)
  | _, _ => True
def exOf : Ex → Exit
  | .norm => .normal
  | .exit id => .exit id
  | .ret => .ret
theorem exists_least {p : Nat → Prop} : (∃ k, p k) → ∃ m, p m ∧ ∀ j, p j → m ≤ j := by
  rintro ⟨k, hk⟩
  induction k using Nat.strongRecOn with
  | _ k ih =>
    by_cases h : ∃ j, j < k ∧ p j
    · obtain ⟨j, h1, h2⟩ := h
      exact ih j h1 h2
    · exact ⟨k, hk, fun j hj => by
        rcases Nat.lt_or_ge j k with h' | h'
        · exact absurd ⟨j, h', hj⟩ h
        · exact h'⟩
section
variable {E : Env U} {A F0 : Nat → Prop} {w0 : World} {I0 : Mp}
theorem exec_ok (ok : CdOk E.P E.cd) (env : ∀ f p s, E.fns f = some (p, s) → FnOk E.P E.cd f s) (hI : Start E.n0 I0) : ∀ (c : Code) (i : Nat), LoopsOk E c i → ∀ (σ : St U) (p : Ex × St U), (exec E c i σ).run = some p →
    ∀ (a : Act) (w : World), RSt E.P E.cd E.nt A F0 w0 I0 σ a w → ∀ Q : Exit → Act → World → Prop, (∀ a' w', RSt E.P E.cd E.nt A F0 w0 I0 p.2 a' w' → Q (exOf p.1) a' w') → c.wp E.P Q a w := by
  intro c
  induction c with
  | skip =>
    intro i _ σ p h a w hs Q hQ
    simp only [exec, Tree.run, Option.some.injEq] at h
    subst h
    exact wp_skip (hQ a w hs)
  | region id ops d =>
    intro i _ σ p h a w hs Q hQ
    simp only [exec, Tree.run_map] at h
    obtain ⟨σ', h1, rfl⟩ := Option.map_eq_some_iff.1 h
    exact region_ok ok env hI.out h1 hs hQ
  | seq x y ihx ihy =>
    intro i hl σ p h a w hs Q hQ
    simp only [exec, Tree.run_bind] at h
    obtain ⟨q, h1, h2⟩ := Option.bind_eq_some_iff.1 h
    refine wp_seq (ihx i hl.1 σ q h1 a w hs _ fun a' w' h' => ?_)
    obtain ⟨e, σ'⟩ := q
    cases e with
    | norm => exact ihy _ hl.2 σ' p h2 a' w' h' Q hQ
    | exit id =>
      simp only [Tree.run, Option.some.injEq] at h2
      subst h2
      exact hQ a' w' h'
    | ret =>
      simp only [Tree.run, Option.some.injEq] at h2
      subst h2
      exact hQ a' w' h'
  | cond o x y ihx ihy =>
    intro i hl σ p h a w hs Q hQ
    simp only [exec] at h
    have hs' := hs
    obtain ⟨M, Fz, hr⟩ := hs
    have hev := ev_ok hr.tm o
    split at h
    · rename_i he
      rw [he] at hev
      have hev : R1 E.P E.cd M Fz w _ (a.eval o) := hev
      generalize hv : a.eval o = v at hev
      cases hev
      exact wp_cond_true hv (ihx i hl.1 σ p h a w hs' Q hQ)
    · rename_i he
      rw [he] at hev
      have hev : R1 E.P E.cd M Fz w _ (a.eval o) := hev
      generalize hv : a.eval o = v at hev
      cases hev
      exact wp_cond_false hv (ihy _ hl.2 σ p h a w hs' Q hQ)
    · rename_i b he
      rw [he] at hev
      have hev : R1 E.P E.cd M Fz w _ (a.eval o) := hev
      generalize hv : a.eval o = v at hev
      cases hev
      refine wp_cond hv ?_
      cases b with
      | true => exact ihx i hl.1 σ p h a w hs' Q hQ
      | false => exact ihy _ hl.2 σ p h a w hs' Q hQ
    · cases h
  | block id c ih =>
    intro i hl σ p h a w hs Q hQ
    simp only [exec, Tree.run_map] at h
    obtain ⟨q, h1, rfl⟩ := Option.map_eq_some_iff.1 h
    refine wp_block (ih i hl σ q h1 a w hs _ fun a' w' h' => ?_)
    obtain ⟨e, σ'⟩ := q
    cases e with
    | norm => exact hQ a' w' h'
    | exit id' =>
      simp only [cond_eq_ite] at hQ
      simp only [exOf, Exit.inBlock]
      split
      · rename_i hid
        subst hid
        rw [if_pos (by simp)] at hQ
        exact hQ a' w' h'
      · rename_i hid
        rw [if_neg (fun e => hid (Nat.eq_of_beq_eq_true e))] at hQ
        exact hQ a' w' h'
    | ret => exact hQ a' w' h'
  | loop c ih =>
    intro i hl σ p h a w hs Q hQ
    simp only [exec] at h
    split at h
    · rename_i hd spec hlp
      split at h
      · rename_i r hr
        simp only [Tree.run] at h
        obtain ⟨x, hx, h⟩ := Option.bind_eq_some_iff.1 h
        obtain ⟨k, hk⟩ := hl.1 hd spec hlp _ r x p hr hx h
        have h0 := nrm_ok ok hI hd.keep hd.own hs
        have prog : ∀ k a w, (∃ σ, loopRun E hd c i k σ = some p ∧ RSt E.P E.cd E.nt A F0 w0 I0 σ a w) →
            c.wp E.P (Exit.then (fun a' w' => ∃ j, j < k ∧ ∃ σ, loopRun E hd c i j σ = some p ∧ RSt E.P E.cd E.nt A F0 w0 I0 σ a' w') Q) a w := by
          rintro k a w ⟨σ, hk, hs⟩
          cases k with
          | zero => cases hk
          | succ k =>
            simp only [loopRun, round, Tree.run_map] at hk
            cases he : (exec E c (i + 1) σ).run with
            | none => rw [he] at hk; cases hk
            | some q =>
              rw [he] at hk
              refine ih (i + 1) hl.2 σ q he a w hs _ fun a' w' h' => ?_
              obtain ⟨e, σ'⟩ := q
              cases e with
              | norm => exact ⟨k, Nat.lt_succ_self k, nrm E.n0 hd.keep hd.own σ', hk, nrm_ok ok hI hd.keep hd.own h'⟩
              | exit id =>
                simp only [Option.map_some, Option.some.injEq] at hk
                rw [← hk] at hQ
                exact hQ a' w' (nrm_ok ok hI hd.xkeep hd.own h')
              | ret =>
                simp only [Option.map_some, Option.some.injEq] at hk
                rw [← hk] at hQ
                exact hQ a' w' (nrm_ok ok hI hd.xkeep hd.own h')
        let q : Act → World → Nat → Prop := fun a w k => ∃ σ, loopRun E hd c i k σ = some p ∧ RSt E.P E.cd E.nt A F0 w0 I0 σ a w
        have wl : ∀ a w, (∃ k, q a w k) → ∃ m, q a w m ∧ ∀ j, q a w j → m ≤ j := fun a w => exists_least
        classical
        refine wp_loop (fun a w => ∃ k, q a w k) (fun a w => if h : ∃ k, q a w k then Classical.choose (wl a w h) else 0) ⟨k, _, hk, h0⟩ fun a w hI' => ?_
        have hm := Classical.choose_spec (wl a w hI')
        refine wp_mono (prog _ a w hm.1) fun e a' w' hq => ?_
        cases e <;> first | exact hq | skip
        obtain ⟨j, hj, hp⟩ := hq
        have hex : ∃ k, q a' w' k := ⟨j, hp⟩
        refine ⟨hex, ?_⟩
        simp only [dif_pos hI', dif_pos hex]
        exact Nat.lt_of_le_of_lt ((Classical.choose_spec (wl a' w' hex)).2 j hp) hj
      · cases h
    · cases h
  | exit id =>
    intro i _ σ p h a w hs Q hQ
    simp only [exec, Tree.run, Option.some.injEq] at h
    subst h
    exact wp_exit (hQ a w hs)
  | ret =>
    intro i _ σ p h a w hs Q hQ
    simp only [exec, Tree.run, Option.some.injEq] at h
    subst h
    exact wp_ret (hQ a w hs)
  | _ =>
    intros
    rename_i h _ _ _ _ _
    simp only [exec, Tree.run] at h
    cases h
end
end Go.Ab
