/- A region's operation in memory. -/
import Derived.Test.YtjhibcebipjbcaaAbOps14
set_option linter.unusedSimpArgs false
namespace Go.Ab
variable {U : Nat → Type}
section
variable {E : Env U}

variable {A F0 : Nat → Prop} {w0 : World} {I0 : Mp}
theorem RS.post {nt : Nat} {P : Program} {cd : Cd U} {σ : St U} {a : Act} {w w' : World} {M : Mp} {Fz : Nat → Prop} (h : RS P cd nt A F0 w0 I0 σ a w M Fz) {dst : Option Nat} (hd : ∀ t, dst = some t → t < nt) {d : D U} {hp' : List (Blk U)} {v : Value}
    (hp : Post P cd M Fz w d hp' v w') : RSt P cd nt A F0 w0 I0 { putD σ dst d with hp := hp' } (a.put dst v) w' := by
  obtain ⟨M', F', h1, h2, h3, h4, h5, h6, h7⟩ := hp
  refine ⟨M', F', ⟨h2, ?_, ?_, ?_, ?_, ?_, ?_, ?_, h.ext.trans h3⟩⟩
  · have := h.tm.mono (Fz' := F') (w' := w') h3 h4
    cases dst with
    | none => exact this
    | some t => exact this.put (by rw [h.size]; exact hd t rfl) h1
  · cases dst with
    | none => exact h.size
    | some t => simp [Act.put, h.size]
  · cases dst with
    | none => exact h.defers
    | some t => exact h.defers
  · refine h.keep.trans h5 fun b hb hM => ?_
    rcases h.own b hM with h' | h'
    · exact h'
    · omega
  · intro k hk
    rcases h6 k hk with h' | h'
    · exact h.own k h'
    · have := h.keep.size
      exact .inr (by omega)
  · exact fun k hk => (h4 k (h.f0 k hk)).1
  · intro k hk
    rcases h7 k hk with h' | h' | h'
    · exact h.f1 k h'
    · exact .inr (h.own k h')
    · have := h.keep.size
      exact .inr (.inr (by omega))
theorem yielded_of {P : Program} {cd : Cd U} {M : Mp} {Fz : Nat → Prop} {w : World} {tm : List (Nat × D U)} {a : Array Value} (h : Tm P cd M Fz w tm a) {ops : Array Oper} {j t : Nat} (hj : (ops[j]?).bind (·.dst) = some t) :
    (∀ b, getA tm t = some (.v (.one (.kb b))) ∨ getA tm t = some (.v (.one (.bool b))) → yielded ops a j = some b) ∧ (getA tm t = some (.v (.one .skp)) → yielded ops a j = none) := by
  constructor
  · intro b hb
    have : ∃ v, a[t]? = some v ∧ v = .bool b := by
      rcases hb with hb | hb
      · obtain ⟨v, h1, h2⟩ := h t _ hb
        have h2 : R1 P cd M Fz w _ v := h2
        cases h2
        exact ⟨_, h1, rfl⟩
      · obtain ⟨v, h1, h2⟩ := h t _ hb
        have h2 : R1 P cd M Fz w _ v := h2
        cases h2
        exact ⟨_, h1, rfl⟩
    obtain ⟨v, h1, rfl⟩ := this
    simp [yielded, hj, h1]
  · intro hb
    obtain ⟨v, h1, h2⟩ := h t _ hb
    have h2 : R1 P cd M Fz w _ v := h2
    cases h2
    simp [yielded, hj, h1, undef]
theorem isDead_ok {hp : List (Blk U)} {b : Nat} (h : isDead hp b = true) : hp[b]? = some .dead := by
  unfold isDead at h
  rw [nth_eq] at h
  split at h
  · assumption
  · cases h
theorem step_ok (ok : CdOk E.P E.cd) (env : ∀ f p s, E.fns f = some (p, s) → FnOk E.P E.cd f s) {r : Rg} {x : Tg} (hi : r.ops[x.i]? = some x.o) {nt : Nat} (hd : ∀ t, x.o.dst = some t → t < nt) {σ σ1 : St U} (hs : stepO E r x.i x.id x.o σ = some σ1)
    {a : Act} {w : World} (h : RSt E.P E.cd nt A F0 w0 I0 σ a w) {K : Act → World → Prop} {Q : Exit → Act → World → Prop} (hK : ∀ a' w', RSt E.P E.cd nt A F0 w0 I0 σ1 a' w' → K a' w') : wpOp E.P r.ops Q x.i K a w := by
  obtain ⟨M, Fz, h⟩ := h
  unfold wpOp
  rw [hi]
  simp only []
  have skip : σ1 = putD σ x.o.dst (.v (.one .skp)) → K (a.put x.o.dst undef) w := by
    rintro rfl
    have := h.post hd (Post.same (d := .v (.one .skp)) (v := undef) h.hr .skp)
    rw [putD_self] at this
    exact hK _ _ this
  have go : doS E r x.i x.id x.o σ = some σ1 → x.o.wp E.P a w K Q := by
    intro hgo
    have hev := fun y => ev_ok h.tm y
    unfold doS at hgo
    split at hgo
    · rename_i c y z ho
      have pk : ∀ b, RD E.P E.cd M Fz w (ev σ.tm c) (.bool b) → a.eval c = .bool b → σ1 = putD σ x.o.dst (typD E.P x.o.type (ev σ.tm (bif b then y else z))) → x.o.wp E.P a w K Q := by
        rintro b _ hb rfl
        unfold Oper.wp execOp
        simp only [ho, hb, asBool, Sem.run_bind, Sem.run_pure, Result.andThen]
        have hv : RD E.P E.cd M Fz w (typD E.P x.o.type (ev σ.tm (bif b then y else z))) (if b = true then a.eval y else a.eval z) := by
          cases b
          · exact typD_ok (hev z)
          · exact typD_ok (hev y)
        have := h.post hd (Post.same h.hr hv)
        rw [putD_self] at this
        exact hK _ _ this
      have hc := hev c
      split at hgo
      · rename_i b hb
        injection hgo with hgo
        have hc2 := hc
        rw [hb] at hc2
        have hc2 : R1 E.P E.cd M Fz w _ (a.eval c) := hc2
        generalize hv : a.eval c = v at hc2
        cases hc2
        exact pk b (by rw [← hv]; exact hc) hv hgo.symm
      · rename_i b hb
        injection hgo with hgo
        have hc2 := hc
        rw [hb] at hc2
        have hc2 : R1 E.P E.cd M Fz w _ (a.eval c) := hc2
        generalize hv : a.eval c = v at hc2
        cases hc2
        exact pk b (by rw [← hv]; exact hc) hv hgo.symm
      · cases hgo
    · rw [cond_eq_ite] at hgo
      split at hgo
      · rename_i hc
        simp only [Bool.and_eq_true, Bool.or_eq_true, Bool.not_eq_true'] at hc
        obtain ⟨p, hp, rfl⟩ := Option.map_eq_some_iff.1 hgo
        exact opK_ok E ok env h.hr hev x.o (fun hm => isDead_ok (hc.1.2.resolve_left (by simp [hm]))) p.1 p.2 hp K Q fun v w' hpost => hK _ _ (h.post hd hpost)
      · cases hgo
  unfold stepO at hs
  split at hs
  · rename_i hg
    rw [if_pos (by simp [Region.wanted, hg])]
    exact .inl (go hs)
  · rename_i j want hg
    split at hs
    · rename_i hj
      have hy : yielded r.ops a.tmps j = none := by simp [yielded, hj]
      rw [if_neg (by simp [Region.wanted, hg, hy])]
      exact skip (Option.some.inj hs).symm
    · rename_i t hj
      have hy := yielded_of h.tm hj
      split at hs
      · rename_i b hb
        have hyb := hy.1 b (.inl hb)
        rw [cond_eq_ite] at hs
        split at hs
        · rename_i hw
          rw [if_pos (by simpa [Region.wanted, hg, hyb] using hw)]
          exact .inl (go hs)
        · rename_i hw
          rw [if_neg (by simpa [Region.wanted, hg, hyb] using hw)]
          exact skip (Option.some.inj hs).symm
      · rename_i b hb
        have hyb := hy.1 b (.inr hb)
        rw [cond_eq_ite] at hs
        split at hs
        · rename_i hw
          rw [if_pos (by simpa [Region.wanted, hg, hyb] using hw)]
          exact .inl (go hs)
        · rename_i hw
          rw [if_neg (by simpa [Region.wanted, hg, hyb] using hw)]
          exact skip (Option.some.inj hs).symm
      · rename_i hb
        have hyb := hy.2 hb
        rw [if_neg (by simp [Region.wanted, hg, hyb])]
        exact skip (Option.some.inj hs).symm
      · cases hs
theorem tags_get : ∀ (l : List Oper) (i id : Nat) (x : Tg), x ∈ tags l i id → i ≤ x.i ∧ l[x.i - i]? = some x.o ∧ x.id = id + countM (l.take (x.i - i))
  | [], _, _, _, h => by simp [tags] at h
  | o :: l, i, id, x, h => by
    simp only [tags, List.mem_cons] at h
    rcases h with rfl | h
    · simp [countM]
    · obtain ⟨h1, h2, h3⟩ := tags_get l _ _ x h
      refine ⟨by omega, ?_, ?_⟩
      · rw [show x.i - i = (x.i - (i + 1)) + 1 by omega]
        simpa using h2
      · rw [show x.i - i = (x.i - (i + 1)) + 1 by omega, List.take_succ_cons]
        simp only [countM, cond_eq_ite] at h3 ⊢
        rw [h3]
        split <;> omega
/-- in the given order -/
theorem steps_ok (ok : CdOk E.P E.cd) (env : ∀ f p s, E.fns f = some (p, s) → FnOk E.P E.cd f s) {r : Rg} {nt : Nat} {Q : Exit → Act → World → Prop} {σ' : St U} : ∀ (l : List Tg) (σ : St U), (∀ x ∈ l, r.ops[x.i]? = some x.o ∧ ∀ t, x.o.dst = some t → t < nt) → steps E r l σ = some σ' →
    ∀ a w, RSt E.P E.cd nt A F0 w0 I0 σ a w → (∀ a' w', RSt E.P E.cd nt A F0 w0 I0 σ' a' w' → Q .normal a' w') → wpOps E.P r.ops Q (l.map (·.i)) a w
  | [], σ, _, hs, a, w, h, hQ => by
    simp only [steps, Option.some.injEq] at hs
    subst hs
    exact hQ a w h
  | x :: l, σ, hx, hs, a, w, h, hQ => by
    simp only [steps] at hs
    obtain ⟨σ1, h1, h2⟩ := Option.bind_eq_some_iff.1 hs
    rw [List.map_cons, wpOps_cons]
    obtain ⟨h3, h4⟩ := hx x (by simp)
    exact step_ok ok env h3 h4 h1 h fun a' w' h' => steps_ok ok env l σ1 (fun y hy => hx y (by simp [hy])) h2 a' w' h' hQ
end
end Go.Ab
