/- Whole functions. -/
import Derived.Test.YtjhibcebipjbcaaAbOps21
set_option linter.unusedSimpArgs false
namespace Go.Ab
variable {U : Nat → Type}
section
variable {P : Program} {cd : Cd U} {M M' : Mp} {Fz Fz' : Nat → Prop} {w w' : World}
def cutM (n : Nat) (M : Mp) : Mp := fun b => if b < n then M b else none
theorem keep_renum (n : Nat) (M : Mp) : Renum M (cutM n M) (keepG n) := by
  constructor
  · intro b v b' v' pos t ver len cap hm hg hv
    simp only [keepG, cond_eq_ite] at hg
    split at hg
    · rename_i hb
      have hb : b < n := of_decide_eq_true (by simpa using hb)
      simp only [Option.some.injEq, Prod.mk.injEq] at hg
      obtain ⟨rfl, rfl⟩ := hg
      exact ⟨ver, by simp [cutM, hb, hm], hv, id⟩
    · cases hg
  · intro b k b' v' hm hg
    simp only [keepG, cond_eq_ite] at hg
    split at hg
    · rename_i hb
      have hb : b < n := of_decide_eq_true (by simpa using hb)
      simp only [Option.some.injEq, Prod.mk.injEq] at hg
      obtain ⟨rfl, rfl⟩ := hg
      simp [cutM, hb, hm]
    · cases hg
theorem firstB_get : ∀ (n : Nat) (hp : List (Blk U)) (b : Nat), (firstB n hp)[b]? = if b < n then hp[b]? else none
  | 0, hp, b => by simp [firstB]
  | n + 1, [], b => by simp [firstB]
  | n + 1, x :: hp, 0 => by simp [firstB]
  | n + 1, x :: hp, b + 1 => by
    simp only [firstB, List.getElem?_cons_succ]
    rw [firstB_get n hp b]
    split <;> split <;> first | rfl | omega
theorem outB_get (n : Nat) : ∀ (hp : List (Blk U)) (b : Nat), (outB n hp)[b]? = (hp[b]?).map fun
    | .cells cs => .cells (cs.map (renC (keepG n)))
    | x => x
  | [], b => by simp [outB]
  | x :: hp, 0 => by cases x <;> simp [outB]
  | x :: hp, b + 1 => by
    cases x <;> simp only [outB, List.getElem?_cons_succ] <;> exact outB_get n hp b
theorem cut_hr (ok : CdOk P cd) {hp : List (Blk U)} (h : HR P cd M Fz hp w) (n : Nat) : HR P cd (cutM n M) Fz (outB n (firstB n hp)) w := by
  have le : ∀ b i, cutM n M b = some i → M b = some i := fun b i hb => by
    unfold cutM at hb
    split at hb
    · exact hb
    · cases hb
  refine ⟨?_, ?_, ?_, ?_, h.frz, ?_⟩
  · intro b x hx
    rw [outB_get, firstB_get] at hx
    split at hx
    · rename_i hb
      obtain ⟨y, hy, rfl⟩ := Option.map_eq_some_iff.1 hx
      have hbk := h.blk b y hy
      have hc : cutM n M b = M b := by simp [cutM, hb]
      cases y with
      | dead => exact hc.trans hbk
      | cells cs =>
        obtain ⟨k, arr, e, e1, e2, e3⟩ := hbk
        exact ⟨k, arr, e, hc.trans e1, e2, e3.ren ok (keep_renum n M)⟩
      | row t v l =>
        obtain ⟨pos, cap, e1, e2⟩ := hbk
        exact ⟨pos, cap, hc.trans e1, e2.ren ok⟩
    · cases hx
  · intro b hb
    unfold cutM
    split
    · rename_i hbn
      have h1 : (outB n (firstB n hp))[b]? = none := List.getElem?_eq_none hb
      rw [outB_get, firstB_get, if_pos hbn, Option.map_eq_none_iff] at h1
      exact h.out b (List.getElem?_eq_none_iff.1 h1)
    · rfl
  · intro b b' i i' k h1 h2
    exact h.inj b b' i i' k (le b i h1) (le b' i' h2)
  · intro b i k h1
    exact h.apart b i k (le b i h1)
  · intro b i k h1
    exact h.lt b i k (le b i h1)
theorem argsT_get : ∀ (l : List (V U)) (i t : Nat) (d : D U), getA (argsT i l) t = some d → i ≤ t ∧ ∃ x, l[t - i]? = some x ∧ d = .v x
  | [], _, _, _, h => by simp [argsT, getA] at h
  | x :: l, i, t, d, h => by
    simp only [argsT, getA, cond_eq_ite] at h
    split at h
    · rename_i e
      have := Nat.eq_of_beq_eq_true e
      subst this
      injection h with h
      exact ⟨Nat.le_refl _, x, by simp, h.symm⟩
    · rename_i e
      obtain ⟨h1, y, h2, h3⟩ := argsT_get l (i + 1) t d h
      exact ⟨by omega, y, by rw [show t - i = (t - (i + 1)) + 1 by omega]; simpa using h2, h3⟩
theorem rows0_ok : ∀ {hp : List (Blk U)}, rows0 hp = true → ∀ (b t v : Nat) (l : List (U t)), hp[b]? = some (Blk.row t v l) → v = 0
  | [], _, _, _, _, _, h => by simp at h
  | x :: hp, e, b, t, v, l, h => by
    cases x with
    | row t' v' l' =>
      simp only [rows0, cond_eq_ite] at e
      split at e
      · rename_i hv
        cases b with
        | zero =>
          simp only [List.getElem?_cons_zero, Option.some.injEq, Blk.row.injEq] at h
          rw [← h.2.1]
          exact Nat.eq_of_beq_eq_true hv
        | succ b => exact rows0_ok e b t v l (by simpa using h)
      · cases e
    | cells cs =>
      cases b with
      | zero => simp at h
      | succ b => exact rows0_ok (hp := hp) e b t v l (by simpa using h)
    | dead =>
      cases b with
      | zero => simp at h
      | succ b => exact rows0_ok (hp := hp) e b t v l (by simpa using h)
def resF (a : Array Value) : ResultVar → Sem Value
  | .tmp t => pure (a.getD t undef)
  | .cell b t => do loadVar t (← asAddr (a.getD b undef))
theorem mapM_two {α : Type} (f : α → Sem Value) {x : α} {l : List α} {v : Value} {us : List Value} (h1 : (f x).run P w = .ok v w) (h2 : (l.mapM f).run P w = .ok us w) : ((x :: l).mapM f).run P w = .ok (v :: us) w := by
  rw [List.mapM_cons]
  simp only [Sem.run_bind, h1, Result.andThen, h2, Sem.run_pure]
/-- a function's results -/
theorem resV_ok (ok : CdOk P cd) {σ : St U} {a : Array Value} (h : HR P cd M Fz σ.hp w) (ht : Tm P cd M Fz w σ.tm a) (n : Nat) : ∀ (rs : List ResultVar) (ts : List Nat) (vs : List (V U)), rs.length = ts.length → resV P n σ (rs.zip ts) = some vs →
    ∃ us, (rs.mapM (resF a)).run P w = .ok us w ∧ RVs P cd (cutM n M) Fz w vs us
  | [], _, vs, _, e => by
    simp only [List.zip_nil_left, resV, Option.some.injEq] at e
    subst e
    exact ⟨[], rfl, rfl, fun j x v h1 => by simp at h1⟩
  | _ :: _, [], _, hl, _ => by simp at hl
  | r :: rs, ty :: ts, vs, hl, e => by
    simp only [List.zip_cons_cons] at e
    have hl' : rs.length = ts.length := by simpa using hl
    have push : ∀ (x : V U) (vs' : List (V U)) (v : Value) (us : List Value), RV P cd (cutM n M) Fz w x v → RVs P cd (cutM n M) Fz w vs' us → RVs P cd (cutM n M) Fz w (x :: vs') (v :: us) := by
      intro x vs' v us h1 h2
      refine ⟨by simp [h2.1], fun j y u e1 e2 => ?_⟩
      cases j with
      | zero => simp at e1 e2; subst e1; subst e2; exact h1
      | succ j => exact h2.2 j y u (by simpa using e1) (by simpa using e2)
    cases r with
    | tmp t =>
      simp only [resV] at e
      split at e
      · rename_i x r' hx hr'
        injection e with e
        subst e
        obtain ⟨us, h1, h2⟩ := resV_ok ok h ht n rs ts r' hl' hr'
        obtain ⟨v, e1, e2⟩ := ht t _ hx
        refine ⟨v :: us, ?_, push _ _ _ _ ((typV_ok (t := ty) e2).ren ok (keep_renum n M)) h2⟩
        refine mapM_two _ ?_ h1
        simp only [resF, Sem.run_pure, Array.getD_eq_getD_getElem?, e1, Option.getD_some]
      · cases e
    | cell t ct =>
      simp only [resV] at e
      split at e
      · rename_i b o r' hx hr'
        rw [nth_eq] at e
        split at e
        · rename_i cs hcs
          split at e
          · rename_i q hq
            split at e
            · rename_i v hv
              injection e with e
              subst e
              obtain ⟨us, h1, h2⟩ := resV_ok ok h ht n rs ts r' hl' hr'
              obtain ⟨u, e1, e2⟩ := ht t _ hx
              have e2 : R1 P cd M Fz w _ u := e2
              cases e2 with
              | ptr _ _ k hm =>
                obtain ⟨arr, el, hh, hrl⟩ := h.cells_at hcs hm
                obtain ⟨k1, k2⟩ := hrl.cut ok hq
                have hlen : ((arr.toList.drop o).take (P.cellsOf ct)).length = P.cellsOf ct := by simp; simp at k2; omega
                obtain ⟨y, y1, y2⟩ := load_var (w := w) (k := k) (o := o) hv hlen k1 (fun j x hj => by
                  rw [List.getElem?_take] at hj
                  split at hj
                  · rw [List.getElem?_drop] at hj
                    simp only [World.cell?, at0, hh]
                    simpa using hj
                  · cases hj)
                refine ⟨y :: us, ?_, push _ _ _ _ (y2.ren ok (keep_renum n M)) h2⟩
                refine mapM_two _ ?_ h1
                simp only [resF, Sem.run_bind, Sem.run_pure, Result.andThen, Array.getD_eq_getD_getElem?, e1, Option.getD_some, asAddr, y1]
            · cases e
          · cases e
        · cases e
      · cases e
end
section
variable {E : Env U}
theorem fn_ok (ok : CdOk E.P E.cd) (env : ∀ f p s, E.fns f = some (p, s) → FnOk E.P E.cd f s) {f : Nat} {fn : Func} (hf : E.P.funcs[f]? = some fn) (hname : (fn.name == "runtime.NumGoroutine") = false) (hl : ∀ c, fn.body = some c → LoopsOk E c 0)
    {spec : List (V U) → List (Blk U) → Option (FnOut U)} (hs : ∀ args hp r, spec args hp = some r → ∀ x, r.o = some x → ∀ p, (r.out x).run = some p → (execF E fn args hp).run = some p) : FnOk E.P E.cd f spec := by
  intro M Fz w hp args vargs hr ha r hsp x hx out hout
  have hrun := hs args hp r hsp x hx out hout
  unfold execF at hrun
  rw [cond_eq_ite] at hrun
  split at hrun
  case isFalse => cases hrun
  rename_i hc
  simp only [Bool.and_eq_true] at hc
  obtain ⟨⟨⟨⟨hc1, hc2⟩, hc3⟩, hc4⟩, hc5⟩ := hc
  have hn0 : hp.length = E.n0 := Nat.eq_of_beq_eq_true hc1
  have hnt : fn.ntmps = E.nt := Nat.eq_of_beq_eq_true hc3
  have hle : args.length ≤ fn.ntmps := Nat.le_of_ble_eq_true hc4
  have hrs : fn.results.size = fn.resultTypes.size := Nat.eq_of_beq_eq_true hc5
  split at hrun
  case h_2 => cases hrun
  rename_i c hbody
  rw [Tree.run_bind] at hrun
  obtain ⟨p, hp1, hp2⟩ := Option.bind_eq_some_iff.1 hrun
  have hI : Start E.n0 M := ⟨fun b hb => hr.out b (by omega), fun b q t v l c hb => by
    have hlt : b < hp.length := by
      rcases Nat.lt_or_ge b hp.length with h' | h'
      · exact h'
      · rw [hr.out b h'] at hb; cases hb
    have hx := List.getElem?_eq_getElem hlt
    have hbk := hr.blk b _ hx
    revert hx hbk
    generalize hp[b] = y
    intro hx hbk
    cases y with
    | dead => exact absurd (hb.symm.trans hbk) (by simp)
    | cells cs => obtain ⟨k, arr, e, e1, _⟩ := hbk; rw [hb] at e1; cases e1
    | row t' v' l' =>
      obtain ⟨pos', cap', e1, _⟩ := hbk
      rw [hb] at e1
      injection e1 with e1
      injection e1 with e1 e2 e3
      rw [e3]
      exact rows0_ok hc2 b t' v' l' hx⟩
  refine ⟨fn, hf, hname, by rw [hbody]; rfl, ?_⟩
  refine calls_of_wp hf hbody ?_
  have h0 : RSt E.P E.cd E.nt (Held M) Fz w M { tm := argsT 0 args, hp } { tmps := vargs.toArray ++ Array.replicate (fn.ntmps - vargs.toArray.size) undef, defers := [] } w := by
    refine ⟨M, Fz, ⟨hr, ?_, ?_, rfl, .refl _ _, fun k hk => .inl hk, fun k hk => hk, fun k hk => .inl hk, .refl _⟩⟩
    · intro t d ht
      obtain ⟨_, y, hy, rfl⟩ := argsT_get args 0 t d ht
      rw [Nat.sub_zero] at hy
      have hlt := (List.getElem?_eq_some_iff.1 hy).1
      have hlt2 : t < vargs.length := by rw [ha.1]; exact hlt
      refine ⟨vargs[t], ?_, ha.2 t y _ hy (List.getElem?_eq_getElem hlt2)⟩
      rw [Array.getElem?_append_left (by simpa using hlt2)]
      simp
    · simp [ha.1]
      omega
  refine exec_ok ok env hI c 0 (hl c hbody) _ p hp1 _ w h0 _ fun a' w' h' => ?_
  have h2 := frzS_ok ok E.n0 hI.out h'
  have fin : (match resV E.P E.n0 (frzS E.n0 p.2) (fn.results.toList.zip fn.resultTypes.toList) with
      | some vs => Tree.leaf (vs, outB E.n0 (firstB E.n0 (frzS E.n0 p.2).hp))
      | none => .fail).run = some out → a'.defers = [] ∧ ∃ v, (results fn a'.tmps).run E.P w' = .ok v w' ∧ ∃ v_1, Ending.returned v = .returned v_1 ∧ Post E.P E.cd M Fz w (resD out.1) out.2 v_1 w' := by
    intro hfin
    obtain ⟨M', F', h3⟩ := h2
    refine ⟨h3.defers, ?_⟩
    split at hfin
    · rename_i vs hvs
      simp only [Tree.run, Option.some.injEq] at hfin
      rw [← hfin]
      obtain ⟨us, u1, u2⟩ := resV_ok ok h3.hr h3.tm E.n0 fn.results.toList fn.resultTypes.toList vs (by simpa using hrs) hvs
      have hpost : ∀ v, RD E.P E.cd (cutM E.n0 M') F' w' (resD vs) v → Post E.P E.cd M Fz w (resD vs) (outB E.n0 (firstB E.n0 (frzS E.n0 p.2).hp)) v w' := by
        intro v hv
        have le : ∀ b i, cutM E.n0 M' b = some i → M' b = some i := fun b i hb => by
          unfold cutM at hb
          split at hb
          · exact hb
          · cases hb
        refine ⟨cutM E.n0 M', F', hv, cut_hr ok h3.hr E.n0, ?_, ?_, h3.keep, ?_, h3.f1⟩
        · intro b i hb
          obtain ⟨i', e1, e2⟩ := h3.ext b i hb
          have : b < E.n0 := by
            rcases Nat.lt_or_ge b E.n0 with h' | h'
            · exact h'
            · rw [hI.out b h'] at hb; cases hb
          exact ⟨i', by simp [cutM, this, e1], e2⟩
        · intro k hk
          exact ⟨h3.f0 k hk, h3.keep.old k (hr.frz k hk) (fun ⟨b, i, e1, e2⟩ => hr.apart b i k e1 e2 hk)⟩
        · rintro k ⟨b, i, e1, e2⟩
          exact h3.own k ⟨b, i, le b i e1, e2⟩
      have hmap : ∀ (f : ResultVar → Sem Value) (l : Array ResultVar) (us : List Value), (l.toList.mapM f).run E.P w' = .ok us w' → (l.mapM f).run E.P w' = .ok us.toArray w' := by
        intro f l us hh
        rw [Array.mapM_eq_mapM_toList]
        show (do let __x ← l.toList.mapM f; pure __x.toArray : Sem (Array Value)).run E.P w' = _
        simp only [Sem.run_bind, hh, Result.andThen, Sem.run_pure]
      have hres := hmap _ _ _ u1
      refine ⟨if h : us.toArray.size = 1 then us.toArray[0] else .tuple us.toArray, ?_, _, rfl, ?_⟩
      · have hfun : results fn a'.tmps = (do let vs ← fn.results.mapM (resF a'.tmps); pure (if h : vs.size = 1 then vs[0] else .tuple vs)) := by
          unfold results
          congr 1
        rw [hfun]
        simp only [Sem.run_bind, hres, Result.andThen, Sem.run_pure]
      · refine hpost _ ?_
        have hul := u2.1
        match vs, us, u2, hul with
        | [y], [u], u2, _ => exact u2.2 0 y u rfl rfl
        | [], [], u2, _ => exact ⟨#[], rfl, u2⟩
        | y :: z :: vs, u :: u' :: us, u2, _ =>
          have : ¬ (u :: u' :: us).toArray.size = 1 := by simp
          rw [dif_neg this]
          exact ⟨_, rfl, by simpa using u2⟩
    · cases hfin
  obtain ⟨e, σ'⟩ := p
  cases e with
  | norm => exact fin hp2
  | exit id => cases hp2
  | ret => exact fin hp2
end
end Go.Ab
