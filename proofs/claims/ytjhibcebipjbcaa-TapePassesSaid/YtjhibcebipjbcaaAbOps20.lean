/- A loop's head: blocks numbered anew. -/
import Derived.Test.YtjhibcebipjbcaaAbOps19
set_option linter.unusedSimpArgs false
namespace Go.Ab
variable {U : Nat → Type}
section
variable {P : Program} {cd : Cd U} {M M' : Mp} {Fz Fz' : Nat → Prop} {w w' : World}
variable {nt : Nat} {A F0 : Nat → Prop} {w0 : World} {I0 : Mp}

theorem RL.split {c : C U} {cs : List (C U)} {vs : List Value} (h : RL P cd M Fz w (c :: cs) vs) : ∃ us vs', vs = us ++ vs' ∧ RL P cd M Fz w [c] us ∧ RL P cd M Fz w cs vs' := by
  obtain ⟨h1, h2⟩ := okA_cons.1 h.1
  have hl : vs.length = (leaf cd c).length + (leaves cd cs).length := by rw [h.2.1, leaves_cons, List.length_append]
  refine ⟨vs.take (leaf cd c).length, vs.drop (leaf cd c).length, (List.take_append_drop _ _).symm, ?_, ?_⟩
  · refine h.of_leaves 0 (leaf cd c).length h1 ?_ (by simp)
    rw [leaves_cons, leaves_cons]
    simp [leaves]
  · refine h.of_leaves (leaf cd c).length (leaves cd cs).length h2 ?_ ?_
    · rw [leaves_cons]
      simp
    · rw [List.take_of_length_le (by simp; omega)]
theorem dedup_pre : ∀ (l acc : List Nat), ∃ r, dedup acc l = acc ++ r
  | [], acc => ⟨[], by simp [dedup]⟩
  | b :: l, acc => by
    simp only [dedup, cond_eq_ite]
    split
    · exact dedup_pre l acc
    · obtain ⟨r, hr⟩ := dedup_pre l (acc ++ [b])
      exact ⟨b :: r, by rw [hr]; simp⟩
theorem bfs_pre (hp : List (Blk U)) : ∀ (f : Nat) (l : List Nat), ∃ r, bfs hp f l = l ++ r
  | 0, l => ⟨[], by simp [bfs]⟩
  | f + 1, l => by
    simp only [bfs]
    obtain ⟨r1, h1⟩ := dedup_pre (l.flatMap fun b => refsB (nth hp b)) l
    obtain ⟨r2, h2⟩ := bfs_pre hp f (dedup l (l.flatMap fun b => refsB (nth hp b)))
    exact ⟨r1 ++ r2, by rw [h2, h1]; simp⟩
theorem upTo_get : ∀ (n b : Nat), b < n → (upTo n)[b]? = some b
  | 0, _, h => by omega
  | n + 1, b, h => by
    have hl : ∀ m, (upTo m).length = m := by
      intro m
      induction m with
      | zero => rfl
      | succ m ih => simp [upTo, ih]
    simp only [upTo]
    rcases Nat.lt_or_ge b n with hb | hb
    · rw [List.getElem?_append_left (by rw [hl]; exact hb)]
      exact upTo_get n b hb
    · have : b = n := by omega
      subst this
      rw [List.getElem?_append_right (by rw [hl]; exact Nat.le_refl _), hl]
      simp
theorem RD.ren (ok : CdOk P cd) {M2 : Mp} {g : Nat → Nat → Option (Nat × Nat)} (hg : Renum M M2 g) {x : D U} {v : Value} (h : RD P cd M Fz w x v) : RD P cd M2 Fz w (renD g x) v := by
  cases x with
  | v x => exact RV.ren ok hg h
  | tup xs => obtain ⟨a, e, r⟩ := h; exact ⟨a, e, r.ren ok hg⟩
/-- What is asked of the blocks that a function is handed. -/
structure Start (n : Nat) (I0 : Mp) : Prop where
  out : ∀ b, n ≤ b → I0 b = none
  ver : ∀ b p t v l c, I0 b = some (.row p t v l c) → v = 0
theorem gcS_ok (ok : CdOk P cd) {σ : St U} {a : Act} {n : Nat} (hI : Start n I0) (h : RSt P cd nt A F0 w0 I0 σ a w) : RSt P cd nt A F0 w0 I0 (gcS n σ) a w := by
  unfold gcS
  simp only [cond_eq_ite]
  split
  case isFalse => exact h
  rename_i hc
  simp only [Bool.and_eq_true] at hc
  obtain ⟨M, Fz, h⟩ := h
  have hnd := nodupB_ok hc.1
  have hren := into_renum h.hr n (bfs σ.hp 3 (dedup (upTo n) (refsT σ.tm)))
  refine ⟨small n M (bfs σ.hp 3 (dedup (upTo n) (refsT σ.tm))), Fz, ⟨small_hr ok h.hr n hnd, ?_, h.size, h.defers, h.keep, fun k hk => h.own k (small_held hk), h.f0, h.f1, ?_⟩⟩
  · intro t d ht
    have ht : getA (σ.tm.map fun p => (p.1, renD (into n σ.hp (bfs σ.hp 3 (dedup (upTo n) (refsT σ.tm)))) p.2)) t = some d := ht
    rw [getA_map] at ht
    obtain ⟨d0, hd0, rfl⟩ := Option.map_eq_some_iff.1 ht
    obtain ⟨v, e1, e2⟩ := h.tm t d0 hd0
    exact ⟨v, e1, e2.ren ok hren⟩
  · intro b i hi
    have hb : b < n := by
      rcases Nat.lt_or_ge b n with h' | h'
      · exact h'
      · rw [hI.out b h'] at hi; cases hi
    obtain ⟨r1, h1⟩ := dedup_pre (refsT σ.tm) (upTo n)
    obtain ⟨r2, h2⟩ := bfs_pre σ.hp 3 (dedup (upTo n) (refsT σ.tm))
    have hg : (bfs σ.hp 3 (dedup (upTo n) (refsT σ.tm)))[b]? = some b := by
      have hu := upTo_get n b hb
      have := (List.getElem?_eq_some_iff.1 hu).1
      rw [h2, h1, List.append_assoc, List.getElem?_append_left this]
      exact hu
    obtain ⟨i', e1, e2⟩ := h.ext b i hi
    refine ⟨i'.reset n b, by simp [small, hg, e1], ?_⟩
    have hv : ∀ v, ver0 n b v = bif Nat.beq v 0 then 0 else 1 := by
      intro v
      unfold ver0
      rw [show Nat.blt b n = true by simpa using hb]; rfl
    cases i with
    | cells k => cases e2; exact .refl _
    | row p t v l c =>
      have := hI.ver b p t v l c hi
      subst this
      cases e2 with
      | refl =>
        simp only [Inf.reset, hv]
        exact .refl _
      | later _ _ _ _ _ v' _ _ _ _ hlt =>
        simp only [Inf.reset, hv]
        refine .later _ _ _ _ _ _ _ _ _ _ ?_
        rw [show Nat.beq v' 0 = false by cases v' with | zero => omega | succ v' => rfl]
        exact Nat.zero_lt_one
theorem keepT_get {α : Type} {ks : List Nat} : ∀ {l : List (Nat × D U)} {t : Nat} {d : D U}, getA (keepT ks l) t = some d → getA l t = some d
  | [], _, _, h => by simp [keepT, getA] at h
  | (k, x) :: l, t, d, h => by
    simp only [keepT, cond_eq_ite] at h
    by_cases hk : memN ks k = true
    · rw [if_pos hk] at h
      simp only [getA, cond_eq_ite] at h ⊢
      split at h
      · rename_i e; rw [if_pos e]; exact h
      · rename_i e; rw [if_neg e]; exact keepT_get (α := α) h
    · rw [if_neg hk] at h
      have h2 := keepT_get (α := α) h
      simp only [getA, cond_eq_ite]
      split
      · rename_i e
        have := Nat.eq_of_beq_eq_true e
        subst this
        exfalso
        have : ∀ (l : List (Nat × D U)), getA (keepT ks l) k = none := by
          intro l
          induction l with
          | nil => rfl
          | cons p l ih =>
            obtain ⟨j, y⟩ := p
            simp only [keepT, cond_eq_ite]
            split
            · rename_i hj
              simp only [getA, cond_eq_ite]
              rw [if_neg (fun e => hk (by have := Nat.eq_of_beq_eq_true e; subst this; exact hj))]
              exact ih
            · exact ih
        rw [this l] at h
        cases h
      · exact h2
theorem keepT_ok {σ : St U} {a : Act} (ks : List Nat) (h : RSt P cd nt A F0 w0 I0 σ a w) : RSt P cd nt A F0 w0 I0 { σ with tm := keepT ks σ.tm } a w := by
  obtain ⟨M, Fz, h⟩ := h
  exact ⟨M, Fz, ⟨h.hr, fun t d ht => h.tm t d (keepT_get (α := Unit) ht), h.size, h.defers, h.keep, h.own, h.f0, h.f1, h.ext⟩⟩

/-- more rows, without a place -/
structure More (P : Program) (cd : Cd U) (Fz : Nat → Prop) (w : World) (M : Mp) (hp : List (Blk U)) (M' : Mp) (hp' : List (Blk U)) : Prop where
  hr : HR P cd M' Fz hp' w
  ext : Ext M M'
  held : ∀ k, Held M' k → Held M k
theorem More.trans {M'' : Mp} {hp hp' hp'' : List (Blk U)} (h : More P cd Fz w M hp M' hp') (k : More P cd Fz w M' hp' M'' hp'') : More P cd Fz w M hp M'' hp'' := ⟨k.hr, h.ext.trans k.ext, fun b hb => h.held b (k.held b hb)⟩
theorem ownC_ok {hp : List (Blk U)} (h : HR P cd M Fz hp w) {c : C U} {v : Value} (hr : R1 P cd M Fz w c v) : ∃ M', More P cd Fz w M hp M' (ownC c hp).2 ∧ R1 P cd M' Fz w (ownC c hp).1 v := by
  unfold ownC
  split
  · rename_i t l
    unfold ownE
    split
    case h_2 => exact ⟨M, ⟨h, .refl _, fun _ hk => hk⟩, hr⟩
    have hn : M hp.length = none := h.out _ (Nat.le_refl _)
    have he : Ext M (upd M hp.length (some (.row none t 0 0 0))) := ext_upd fun i hi => by rw [hn] at hi; cases hi
    have hf := Frz.refl Fz w
    have hnb : ∀ b i k, upd M hp.length (some (.row none t 0 0 0)) b = some i → i.blk = some k → M b = some i := by
      intro b i k hb hk
      by_cases e : b = hp.length
      · subst e; rw [upd_same] at hb; injection hb with hb; subst hb; cases hk
      · rwa [upd_other _ _ e] at hb
    refine ⟨_, ⟨⟨?_, ?_, ?_, ?_, h.frz, ?_⟩, he, ?_⟩, ?_⟩
    · intro b x hx
      rcases Nat.lt_or_ge b hp.length with hb | hb
      · rw [List.getElem?_append_left hb] at hx
        have hbk := h.blk b x hx
        have hu : upd M hp.length (some (.row none t 0 0 0)) b = M b := upd_other _ _ (by omega)
        cases x with
        | dead => exact hu.trans hbk
        | cells cs =>
          obtain ⟨k, arr, e, e1, e2, e3⟩ := hbk
          exact ⟨k, arr, e, hu.trans e1, e2, e3.mono he hf⟩
        | row t' v' l =>
          obtain ⟨pos, cap, e1, e2⟩ := hbk
          refine ⟨pos, cap, hu.trans e1, ?_⟩
          cases pos with
          | none => exact e2
          | some k =>
            obtain ⟨cur, r⟩ := e2
            refine ⟨cur, r.heap, r.le, r.max, r.size, fun j c hj => ?_⟩
            obtain ⟨v, q1, q2⟩ := r.cells j c hj
            exact ⟨v, q1, q2.mono he hf⟩
      · rw [List.getElem?_append_right hb] at hx
        have hb0 : b - hp.length = 0 := by
          have := (List.getElem?_eq_some_iff.1 hx).1
          simp at this; omega
        rw [hb0] at hx
        simp at hx
        subst hx
        have : b = hp.length := by omega
        subst this
        exact ⟨none, 0, upd_same .., rfl⟩
    · intro b hb
      simp only [List.length_append, List.length_singleton] at hb
      rw [upd_other _ _ (by omega)]
      exact h.out b (by omega)
    · intro b b' i i' k h1 h2 h3 h4
      exact h.inj b b' i i' k (hnb b i k h1 h3) (hnb b' i' k h2 h4) h3 h4
    · intro b i k h1 h2
      exact h.apart b i k (hnb b i k h1 h2) h2
    · intro b i k h1 h2
      exact h.lt b i k (hnb b i k h1 h2) h2
    · rintro k ⟨b, i, h1, h2⟩
      exact ⟨b, i, hnb b i k h1 h2, h2⟩
    · cases hr with
      | sl _ _ _ a cap f h1 h0 h2 h3 =>
        have : cap = 0 := h1 rfl
        subst this
        exact .row _ 0 none t 0 0 0 _ (upd_same ..) (Nat.le_refl _) rfl fun _ => ⟨a, rfl⟩
  · exact ⟨M, ⟨h, .refl _, fun _ hk => hk⟩, hr⟩
theorem ownC_arr {c : C U} {hp : List (Blk U)} {t n : Nat} {l : List (U t)} (h : c = .arr t n l) : ownC c hp = (c, hp) := by
  subst h; rfl
theorem ownL_ok (ok : CdOk P cd) : ∀ {cs : List (C U)} {vs : List Value} {hp : List (Blk U)} {M : Mp}, HR P cd M Fz hp w → RL P cd M Fz w cs vs → ∃ M', More P cd Fz w M hp M' (ownL cs hp).2 ∧ RL P cd M' Fz w (ownL cs hp).1 vs
  | [], vs, hp, M, h, hr => ⟨M, ⟨h, .refl _, fun _ hk => hk⟩, hr⟩
  | c :: cs, vs, hp, M, h, hr => by
    obtain ⟨us, vs', rfl, h1, h2⟩ := hr.split
    have hone : ∃ M', More P cd Fz w M hp M' (ownC c hp).2 ∧ RL P cd M' Fz w [(ownC c hp).1] us := by
      by_cases hc : ∃ t n l, c = .arr t n l
      · obtain ⟨t, n, l, e⟩ := hc
        rw [ownC_arr e]
        exact ⟨M, ⟨h, .refl _, fun _ hk => hk⟩, h1⟩
      · obtain ⟨v, rfl, hv⟩ := h1.single fun t n l e => hc ⟨t, n, l, e⟩
        obtain ⟨M', q1, q2⟩ := ownC_ok h hv
        exact ⟨M', q1, .of1 q2⟩
    obtain ⟨M', q1, q2⟩ := hone
    obtain ⟨M'', q3, q4⟩ := ownL_ok ok q1.hr (h2.mono q1.ext (.refl Fz w))
    refine ⟨M'', q1.trans q3, ?_⟩
    exact (q2.mono q3.ext (.refl Fz w)).append q4
theorem ownT_ok (ok : CdOk P cd) {a : Array Value} : ∀ {tm : List (Nat × D U)} {hp : List (Blk U)} {M : Mp}, HR P cd M Fz hp w → (∀ p ∈ tm, ∃ v, a[p.1]? = some v ∧ RD P cd M Fz w p.2 v) →
    ∃ M', More P cd Fz w M hp M' (ownT tm hp).2 ∧ ∀ p ∈ (ownT tm hp).1, ∃ v, a[p.1]? = some v ∧ RD P cd M' Fz w p.2 v
  | [], hp, M, h, _ => ⟨M, ⟨h, .refl _, fun _ hk => hk⟩, fun p hp => by simp [ownT] at hp⟩
  | (k, d) :: l, hp, M, h, hr => by
    obtain ⟨v, hv1, hv2⟩ := hr (k, d) (by simp)
    have hone : ∃ d' hp1 M', More P cd Fz w M hp M' hp1 ∧ RD P cd M' Fz w d' v ∧ ownT ((k, d) :: l) hp = ((k, d') :: (ownT l hp1).1, (ownT l hp1).2) := by
      cases d with
      | tup xs => exact ⟨_, hp, M, ⟨h, .refl _, fun _ hk => hk⟩, hv2, rfl⟩
      | v x =>
        cases x with
        | one c =>
          obtain ⟨M', q1, q2⟩ := ownC_ok h hv2
          exact ⟨.v (.one (ownC c hp).1), _, M', q1, q2, rfl⟩
        | agg cs =>
          obtain ⟨b, rfl, hb⟩ := hv2
          obtain ⟨M', q1, q2⟩ := ownL_ok ok h hb
          exact ⟨.v (.agg (ownL cs hp).1), _, M', q1, ⟨b, rfl, q2⟩, rfl⟩
    obtain ⟨d', hp1, M', q1, q2, e⟩ := hone
    obtain ⟨M'', q3, q4⟩ := ownT_ok ok q1.hr (tm := l) (fun p hp => by
      obtain ⟨v, e1, e2⟩ := hr p (by simp [hp])
      exact ⟨v, e1, e2.mono q1.ext (.refl Fz w)⟩)
    rw [e]
    refine ⟨M'', q1.trans q3, fun p hp => ?_⟩
    rcases List.mem_cons.1 hp with rfl | hp
    · exact ⟨v, hv1, q2.mono q3.ext (.refl Fz w)⟩
    · exact q4 p hp
theorem ownB_ok (ok : CdOk P cd) : ∀ (n j : Nat) {hp : List (Blk U)} {M : Mp}, HR P cd M Fz hp w → ∃ M', More P cd Fz w M hp M' (ownB n j hp)
  | 0, _, hp, M, h => ⟨M, ⟨h, .refl _, fun _ hk => hk⟩⟩
  | n + 1, j, hp, M, h => by
    simp only [ownB, nth_eq]
    split
    · rename_i cs hcs
      obtain ⟨k, arr, e, e1, e2, e3⟩ := h.blk j _ hcs
      obtain ⟨M', q1, q2⟩ := ownL_ok ok h e3
      have h2 : HR P cd M' Fz (setN (ownL cs hp).2 j (.cells (ownL cs hp).1)) w := by
        rw [setN_eq]
        obtain ⟨i', hi', hle⟩ := q1.ext j _ e1
        cases hle
        refine ⟨?_, fun b hb => q1.hr.out b (by simpa using hb), q1.hr.inj, q1.hr.apart, q1.hr.frz, q1.hr.lt⟩
        intro b x hx
        rw [List.getElem?_set] at hx
        split at hx
        · rename_i e'
          subst e'
          split at hx
          · injection hx with hx
            subst hx
            exact ⟨k, arr, e, hi', e2, q2⟩
          · cases hx
        · exact q1.hr.blk b x hx
      obtain ⟨M'', q3⟩ := ownB_ok ok n (j + 1) h2
      exact ⟨M'', ⟨q3.hr, q1.ext.trans q3.ext, fun k hk => q1.held k (q3.held k hk)⟩⟩
    · exact ownB_ok ok n (j + 1) h
theorem getA_mem {α : Type} : ∀ {l : List (Nat × α)} {i : Nat} {x : α}, getA l i = some x → (i, x) ∈ l
  | [], _, _, h => by simp [getA] at h
  | (k, y) :: l, i, x, h => by
    simp only [getA, cond_eq_ite] at h
    split at h
    · rename_i e
      injection h with h
      subst h
      rw [← Nat.eq_of_beq_eq_true e]
      simp
    · exact List.mem_cons_of_mem _ (getA_mem h)
theorem onceT_ok : ∀ {l : List (Nat × D U)}, onceT l = true → ∀ p ∈ l, getA l p.1 = some p.2
  | [], _, p, h => by simp at h
  | (k, y) :: l, e, p, h => by
    simp only [onceT, cond_eq_ite] at e
    split at e
    · cases e
    · rename_i hk
      rcases List.mem_cons.1 h with rfl | h
      · simp [getA]
      · have := onceT_ok e p h
        simp only [getA, cond_eq_ite]
        rw [if_neg (fun e' => hk (by rw [Nat.eq_of_beq_eq_true e', this]; rfl))]
        exact this
theorem RD.can (ok : CdOk P cd) {x : D U} {v : Value} (h : RD P cd M Fz w x v) : RD P cd M Fz w (canD x) v := by
  cases x with
  | v x => exact RV.can ok h
  | tup xs => obtain ⟨a, e, r⟩ := h; exact ⟨a, e, r.can ok⟩
theorem canS_ok (ok : CdOk P cd) {σ : St U} {a : Act} (h : RSt P cd nt A F0 w0 I0 σ a w) : RSt P cd nt A F0 w0 I0 (canS σ) a w := by
  obtain ⟨M, Fz, h⟩ := h
  refine ⟨M, Fz, ⟨h.hr.can ok, fun t d ht => ?_, h.size, h.defers, h.keep, h.own, h.f0, h.f1, h.ext⟩⟩
  have ht : getA (σ.tm.map fun p => (p.1, canD p.2)) t = some d := ht
  rw [getA_map] at ht
  obtain ⟨d0, hd0, rfl⟩ := Option.map_eq_some_iff.1 ht
  obtain ⟨v, e1, e2⟩ := h.tm t d0 hd0
  exact ⟨v, e1, e2.can ok⟩
theorem nrm_ok (ok : CdOk P cd) {σ : St U} {a : Act} {n : Nat} (hI : Start n I0) (keep : List Nat) (own : Bool) (h : RSt P cd nt A F0 w0 I0 σ a w) : RSt P cd nt A F0 w0 I0 (nrm n keep own σ) a w := by
  have h1 := gcS_ok ok hI (keepT_ok keep h)
  unfold nrm
  refine canS_ok ok ?_
  simp only [cond_eq_ite]
  split
  case isFalse => exact h1
  revert h1
  generalize gcS n { σ with tm := keepT keep σ.tm } = σ1
  intro h1
  refine gcS_ok ok hI ?_
  split
  case isFalse => exact h1
  rename_i honce
  obtain ⟨M, Fz, h⟩ := h1
  obtain ⟨M1, q1, q2⟩ := ownT_ok ok h.hr (tm := σ1.tm) (a := a.tmps) (fun p hp => h.tm p.1 p.2 (onceT_ok honce p hp))
  obtain ⟨M2, q3⟩ := ownB_ok ok σ1.hp.length 0 q1.hr
  refine ⟨M2, Fz, ⟨q3.hr, ?_, h.size, h.defers, h.keep, fun k hk => h.own k (q1.held k (q3.held k hk)), h.f0, h.f1, (h.ext.trans q1.ext).trans q3.ext⟩⟩
  intro t d ht
  obtain ⟨v, e1, e2⟩ := q2 (t, d) (getA_mem ht)
  exact ⟨v, e1, e2.mono q3.ext (.refl Fz w)⟩
end
end Go.Ab
