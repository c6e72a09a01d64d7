/- Rows taken for good; whole regions. -/
import Derived.Test.YtjhibcebipjbcaaAbOps18
set_option linter.unusedSimpArgs false
namespace Go.Ab
variable {U : Nat → Type}
section
variable {P : Program} {cd : Cd U} {M M' : Mp} {Fz Fz' : Nat → Prop} {w w' : World}

/-- the blocks of rows from n on -/
def RowAt (n : Nat) (hp : List (Blk U)) (M : Mp) (k : Nat) : Prop := ∃ b t v l, n ≤ b ∧ hp[b]? = some (.row t v l) ∧ ∃ i, M b = some i ∧ i.blk = some k
def frzM (n : Nat) (hp : List (Blk U)) (M : Mp) : Mp := fun b => if b < n then M b else match hp[b]? with
  | some (.row _ _ _) => none
  | _ => M b
theorem frzM_le (n : Nat) (hp : List (Blk U)) (M : Mp) {b : Nat} {i : Inf} (h : frzM n hp M b = some i) : M b = some i := by
  unfold frzM at h
  split at h
  · exact h
  · split at h
    · cases h
    · exact h
theorem frz1_ok (ok : CdOk P cd) {hp : List (Blk U)} (h : HR P cd M Fz hp w) (n : Nat) {c : C U} {v : Value} (hr : R1 P cd M Fz w c v) : R1 P cd (frzM n hp M) (fun k => Fz k ∨ RowAt n hp M k) w (frz1 n hp c) v := by
  have hF : ∀ k, Fz k → (Fz k ∨ RowAt n hp M k) := fun k hk => .inl hk
  have small : ∀ b, b < n → frzM n hp M b = M b := fun b hb => by simp [frzM, hb]
  cases hr with
  | unk v => exact .unk v
  | skp => exact .skp
  | kb b => exact .bool b
  | bool b => exact .bool b
  | int k n => exact .int k n
  | str s => exact .str s
  | nils => exact .nils
  | sl t l full a cap f h1 h0 h2 h3 =>
    exact .sl t l false a cap f (fun e => by cases e) h0 (fun hl => let ⟨k, o, ha, hk, hc⟩ := h2 hl; ⟨k, o, ha, hF k hk, hc⟩) fun j c hj => (h3 j c hj).plain ok hF (plain_flat ok hj)
  | row b v pos t ver len cap val h1 h2 h3 h4 =>
    simp only [frz1, cond_eq_ite, nth_eq]
    split
    · rename_i hb
      have hb : b < n := of_decide_eq_true (by simpa using hb)
      exact .row b v pos t ver len cap _ ((small b hb).trans h1) h2 h3 h4
    · rename_i hb
      have hb : n ≤ b := by
        rcases Nat.lt_or_ge b n with h' | h'
        · exact absurd (by simpa using h') hb
        · exact h'
      split
      · rename_i t' v' l hbk
        split
        · rename_i hvv
          obtain rfl := Nat.eq_of_beq_eq_true hvv
          obtain ⟨rfl, rfl, rfl, hpos⟩ := h.row_at hbk h1
          have hval := h4 rfl
          cases pos with
          | none =>
            obtain ⟨a, rfl⟩ := hval
            have : l = [] := hpos
            subst this
            exact .sl t [] false a 0 (fun _ => undef) (fun e => by cases e) (Nat.le_refl _) (fun e => absurd rfl e) (fun j c hj => by simp at hj)
          | some k =>
            obtain ⟨cur, r⟩ := hpos
            simp only [RowV] at hval
            subst hval
            refine .sl t l false _ cap (fun j => cur.getD j undef) (fun e => by cases e) r.le (fun _ => ⟨k, 0, rfl, .inr ⟨b, t, ver, l, hb, hbk, _, h1, rfl⟩, fun j c hj => ?_⟩) (fun j c hj => ?_)
            · obtain ⟨v, e1, e2⟩ := r.cells j c hj
              simp [World.cell?, at0, r.heap, e1, Array.getD_eq_getD_getElem?]
            · obtain ⟨v, e1, e2⟩ := r.cells j c hj
              simp only [Array.getD_eq_getD_getElem?, e1, Option.getD_some]
              exact e2.plain ok hF (plain_flat ok hj)
        · exact .unk _
      · exact .unk _
  | own b v lo m pos t ver len cap val h1 h2 h3 h4 =>
    simp only [frz1, cond_eq_ite, nth_eq]
    split
    · rename_i hb
      have hb : b < n := of_decide_eq_true (by simpa using hb)
      exact .own b v lo m pos t ver len cap _ ((small b hb).trans h1) h2 h3 h4
    · rename_i hb
      have hb : n ≤ b := by
        rcases Nat.lt_or_ge b n with h' | h'
        · exact absurd (by simpa using h') hb
        · exact h'
      split
      · rename_i t' v' l hbk
        split
        · rename_i hvv
          obtain rfl := Nat.eq_of_beq_eq_true hvv
          obtain ⟨rfl, rfl, rfl, hpos⟩ := h.row_at hbk h1
          obtain ⟨e0, a, c, rfl, e1, e2⟩ := h4 rfl
          have hlen : ((l.drop lo).take m).length = m := by simp; omega
          have key : R1 P cd (frzM n hp M) (fun k => Fz k ∨ RowAt n hp M k) w (.sl t ((l.drop lo).take m) false) (.slice a ((l.drop lo).take m).length c) := by
            rcases Nat.eq_zero_or_pos m with hm | hm
            · subst hm
              simp only [List.take_zero]
              exact .sl t [] false a c (fun _ => undef) (fun e => by cases e) (Nat.zero_le _) (fun e => absurd rfl e) (fun j c hj => by simp at hj)
            · obtain ⟨k, rfl, rfl⟩ := e2 hm
              obtain ⟨cur, r⟩ := hpos
              have hg : ∀ j c', ((((l.drop lo).take m).flatMap (cd.enc t)))[j]? = some c' → ∃ v, cur[lo * P.cellsOf t + j]? = some v ∧ R1 P cd M Fz w c' v := by
                intro j c' hj
                rw [flat_take ok, flat_drop ok, List.getElem?_take] at hj
                split at hj
                · rw [List.getElem?_drop] at hj
                  exact r.cells _ _ hj
                · cases hj
              refine .sl t _ false _ c (fun j => cur.getD (lo * P.cellsOf t + j) undef) (fun e => by cases e) (by rw [hlen]; exact e1) (fun _ => ⟨k, lo * P.cellsOf t, rfl, .inr ⟨b, t, ver, l, hb, hbk, _, h1, rfl⟩, fun j c hj => ?_⟩) (fun j c hj => ?_)
              · obtain ⟨v, q1, q2⟩ := hg j c hj
                simp [World.cell?, at0, r.heap, q1, Array.getD_eq_getD_getElem?]
              · obtain ⟨v, q1, q2⟩ := hg j c hj
                simp only [Array.getD_eq_getD_getElem?, q1, Option.getD_some]
                exact q2.plain ok hF (plain_flat ok hj)
          rw [hlen] at key
          exact key
        · exact .unk _
      · exact .unk _
  | ptr b o k h1 =>
    refine .ptr b o k ?_
    unfold frzM
    split
    · exact h1
    · split
      · rename_i hbk
        obtain ⟨pos, cap, e1, _⟩ := h.blk b _ hbk
        rw [h1] at e1
        cases e1
      · exact h1
  | elp b v i sub pos t ver len cap val h1 h2 h3 h4 =>
    simp only [frz1, cond_eq_ite]
    split
    · rename_i hb
      have hb : b < n := of_decide_eq_true (by simpa using hb)
      exact .elp b v i sub pos t ver len cap _ ((small b hb).trans h1) h2 h3 h4
    · exact .unk _
  | ap b o t i sub k h1 =>
    refine .ap b o t i sub k ?_
    unfold frzM
    split
    · exact h1
    · split
      · rename_i hbk
        obtain ⟨pos, cap, e1, _⟩ := h.blk b _ hbk
        rw [h1] at e1
        cases e1
      · exact h1
  | xp t x sub k o f h1 h2 h3 => exact .xp t x sub k o f (hF k h1) h2 fun j c hj => (h3 j c hj).plain ok hF (ok.plain t x c (List.mem_of_getElem? hj))
  | fn f a c g k h1 h2 =>
    simp only [frz1]
    split
    · exact .fn f [] [] g k (fun j x hj => by simp at hj) (fun j x hj => by simp at hj)
    · exact .unk _
  | nilp => exact .nilp
  | mp l r es ck h1 h2 h3 h4 => exact .mp l r es ck (hF r h1) h2 h3 h4
theorem frzC_ok (ok : CdOk P cd) {hp : List (Blk U)} (h : HR P cd M Fz hp w) (n : Nat) {c : C U} {v : Value} (hr : R1 P cd M Fz w c v) : R1 P cd (frzM n hp M) (fun k => Fz k ∨ RowAt n hp M k) w (frzC n hp c) v := by
  cases c with
  | fn f a c =>
    cases hr with
    | fn _ _ _ p q h1 h2 =>
      have := R1.fn (P := P) (cd := cd) (M := frzM n hp M) (Fz := fun k => Fz k ∨ RowAt n hp M k) (w := w) f (a.map (frz1 n hp)) (c.map (frz1 n hp)) p q (fun j x hj => by
        rw [List.getElem?_map] at hj
        obtain ⟨y, hy, rfl⟩ := Option.map_eq_some_iff.1 hj
        exact frz1_ok ok h n (h1 j y hy)) (fun j x hj => by
        rw [List.getElem?_map] at hj
        obtain ⟨y, hy, rfl⟩ := Option.map_eq_some_iff.1 hj
        exact frz1_ok ok h n (h2 j y hy))
      simpa [frzC] using this
  | _ => exact frz1_ok ok h n hr
theorem frz_na {n : Nat} {hp : List (Blk U)} (c : C U) (hc : ∀ t n l, c ≠ .arr t n l) : ∀ t m l, frzC n hp c ≠ .arr t m l := by
  intro t m l e
  cases c with
  | arr t' n' l' => exact hc _ _ _ rfl
  | row b v =>
    simp only [frzC, frz1, cond_eq_ite] at e
    split at e
    · cases e
    · split at e
      · split at e <;> cases e
      · cases e
  | own b v lo k =>
    simp only [frzC, frz1, cond_eq_ite] at e
    split at e
    · cases e
    · split at e
      · split at e <;> cases e
      · cases e
  | elp b v i s =>
    simp only [frzC, frz1, cond_eq_ite] at e
    split at e <;> cases e
  | _ => cases e
theorem RL.frz (ok : CdOk P cd) {hp : List (Blk U)} (h : HR P cd M Fz hp w) (n : Nat) {cs : List (C U)} {vs : List Value} (hr : RL P cd M Fz w cs vs) : RL P cd (frzM n hp M) (fun k => Fz k ∨ RowAt n hp M k) w (cs.map (frzC n hp)) vs :=
  RL.mapC ok.plain (fun _ _ _ => rfl) frz_na (fun _ _ _ hr => frzC_ok ok h n hr) (fun _ _ hp hr => hr.plain ok (fun _ hk => .inl hk) hp) hr
theorem RV.frz (ok : CdOk P cd) {hp : List (Blk U)} (h : HR P cd M Fz hp w) (n : Nat) {x : V U} {v : Value} (hr : RV P cd M Fz w x v) : RV P cd (frzM n hp M) (fun k => Fz k ∨ RowAt n hp M k) w (frzV n hp x) v := by
  cases x with
  | one c => exact frzC_ok ok h n hr
  | agg cs => obtain ⟨a, e, r⟩ := hr; exact ⟨a, e, r.frz ok h n⟩
theorem RD.frz (ok : CdOk P cd) {hp : List (Blk U)} (h : HR P cd M Fz hp w) (n : Nat) {x : D U} {v : Value} (hr : RD P cd M Fz w x v) : RD P cd (frzM n hp M) (fun k => Fz k ∨ RowAt n hp M k) w (frzD n hp x) v := by
  cases x with
  | v x => exact RV.frz ok h n hr
  | tup xs =>
    obtain ⟨a, e, r⟩ := hr
    refine ⟨a, e, by rw [List.length_map]; exact r.1, fun j x v h1 h2 => ?_⟩
    rw [List.getElem?_map] at h1
    obtain ⟨y, hy, rfl⟩ := Option.map_eq_some_iff.1 h1
    exact (r.2 j y v hy h2).frz ok h n
theorem getA_map {α β : Type} (f : α → β) : ∀ (l : List (Nat × α)) (i : Nat), getA (l.map fun p => (p.1, f p.2)) i = (getA l i).map f
  | [], _ => rfl
  | (k, x) :: l, i => by
    simp only [List.map_cons, getA, cond_eq_ite]
    split
    · rfl
    · exact getA_map f l i
theorem frzHp_get (n : Nat) (hp : List (Blk U)) : ∀ (l : List (Blk U)) (j i : Nat), (frzHp n hp j l)[i]? = (l[i]?).map fun
    | .cells cs => .cells (cs.map (frzC n hp))
    | .row t v l => bif Nat.blt (j + i) n then .row t v l else .dead
    | .dead => .dead
  | [], _, _ => by simp [frzHp]
  | b :: l, j, 0 => by cases b <;> simp [frzHp]
  | b :: l, j, i + 1 => by
    cases b <;> simp only [frzHp, List.getElem?_cons_succ] <;> rw [frzHp_get n hp l (j + 1) i, show j + 1 + i = j + (i + 1) by omega]
theorem frzHp_len (n : Nat) (hp : List (Blk U)) : ∀ (l : List (Blk U)) (j : Nat), (frzHp n hp j l).length = l.length
  | [], _ => rfl
  | b :: l, j => by cases b <;> simp [frzHp, frzHp_len n hp l]
theorem HR.frzn (ok : CdOk P cd) {hp : List (Blk U)} (h : HR P cd M Fz hp w) (n : Nat) : HR P cd (frzM n hp M) (fun k => Fz k ∨ RowAt n hp M k) (frzHp n hp 0 hp) w := by
  refine ⟨?_, ?_, ?_, ?_, ?_, ?_⟩
  · intro b x hx
    rw [frzHp_get] at hx
    obtain ⟨y, hy, rfl⟩ := Option.map_eq_some_iff.1 hx
    have hb := h.blk b y hy
    rw [Nat.zero_add]
    cases y with
    | dead =>
      show frzM n hp M b = none
      unfold frzM
      split
      · exact hb
      · rw [hy]; exact hb
    | cells cs =>
      obtain ⟨k, arr, e, e1, e2, e3⟩ := hb
      refine ⟨k, arr, e, ?_, e2, e3.frz ok h n⟩
      unfold frzM
      split
      · exact e1
      · rw [hy]; exact e1
    | row t v l =>
      obtain ⟨pos, cap, e1, e2⟩ := hb
      simp only [cond_eq_ite]
      split
      · rename_i hlt
        have hlt : b < n := of_decide_eq_true (by simpa using hlt)
        refine ⟨pos, cap, by simp only [frzM, if_pos hlt]; exact e1, ?_⟩
        cases pos with
        | none => exact e2
        | some k =>
          obtain ⟨cur, r⟩ := e2
          refine ⟨cur, r.heap, r.le, r.max, r.size, fun j c hj => ?_⟩
          obtain ⟨v, q1, q2⟩ := r.cells j c hj
          exact ⟨v, q1, q2.plain ok (fun _ hk => .inl hk) (plain_flat ok hj)⟩
      · rename_i hlt
        show frzM n hp M b = none
        unfold frzM
        rw [if_neg (fun h' => hlt (by simpa using h')), hy]
  · intro b hb
    rw [frzHp_len] at hb
    unfold frzM
    split
    · exact h.out b hb
    · rw [List.getElem?_eq_none hb]; exact h.out b hb
  · intro b b' i i' k h1 h2
    exact h.inj b b' i i' k (frzM_le n hp M h1) (frzM_le n hp M h2)
  · intro b i k h1 h2 h3
    have h1' := frzM_le n hp M h1
    rcases h3 with h3 | ⟨b', t, v, l, hn, hb', i', e1, e2⟩
    · exact h.apart b i k h1' h2 h3
    · have := h.inj b b' i i' k h1' e1 h2 e2
      subst this
      unfold frzM at h1
      rw [if_neg (by omega), hb'] at h1
      cases h1
  · intro k hk
    rcases hk with hk | ⟨b', t, v, l, hn, hb', i', e1, e2⟩
    · exact h.frz k hk
    · exact h.lt b' i' k e1 e2
  · intro b i k h1 h2
    exact h.lt b i k (frzM_le n hp M h1) h2
variable {nt : Nat} {A F0 : Nat → Prop} {w0 : World} {I0 : Mp}
theorem frzS_ok (ok : CdOk P cd) {σ : St U} {a : Act} (n : Nat) (hI : ∀ b, n ≤ b → I0 b = none) (h : RSt P cd nt A F0 w0 I0 σ a w) : RSt P cd nt A F0 w0 I0 (frzS n σ) a w := by
  obtain ⟨M, Fz, h⟩ := h
  refine ⟨_, _, ⟨h.hr.frzn ok n, ?_, h.size, h.defers, h.keep, ?_, fun k hk => .inl (h.f0 k hk), ?_, ?_⟩⟩
  · intro t d ht
    simp only [frzS] at ht
    rw [getA_map] at ht
    obtain ⟨d0, hd0, rfl⟩ := Option.map_eq_some_iff.1 ht
    obtain ⟨v, e1, e2⟩ := h.tm t d0 hd0
    exact ⟨v, e1, e2.frz ok h.hr n⟩
  · rintro k ⟨b, i, e1, e2⟩
    exact h.own k ⟨b, i, frzM_le n _ M e1, e2⟩
  · rintro k (hk | ⟨b, t, v, l, hn, hb, i, e1, e2⟩)
    · exact h.f1 k hk
    · exact .inr (h.own k ⟨b, i, e1, e2⟩)
  · intro b i hi
    obtain ⟨i', e1, e2⟩ := h.ext b i hi
    refine ⟨i', ?_, e2⟩
    have : b < n := by
      rcases Nat.lt_or_ge b n with h' | h'
      · exact h'
      · rw [hI b h'] at hi; cases hi
    simp only [frzM, if_pos this]
    exact e1
/-- more blocks, none of them there -/
theorem RSt.more {σ : St U} {a : Act} (h : RSt P cd nt A F0 w0 I0 σ a w) (m : Nat) : RSt P cd nt A F0 w0 I0 { σ with hp := σ.hp ++ List.replicate m .dead } a w := by
  obtain ⟨M, Fz, h⟩ := h
  refine ⟨M, Fz, ⟨⟨?_, ?_, h.hr.inj, h.hr.apart, h.hr.frz, h.hr.lt⟩, h.tm, h.size, h.defers, h.keep, h.own, h.f0, h.f1, h.ext⟩⟩
  · intro b x hx
    rcases Nat.lt_or_ge b σ.hp.length with hb | hb
    · rw [List.getElem?_append_left hb] at hx
      exact h.hr.blk b x hx
    · rw [List.getElem?_append_right hb, List.getElem?_replicate] at hx
      split at hx
      · injection hx with hx
        subst hx
        exact h.hr.out b hb
      · cases hx
  · intro b hb
    simp only [List.length_append] at hb
    exact h.hr.out b (by omega)
theorem RSt.drawn {σ : St U} {a : Act} (h : RSt P cd nt A F0 w0 I0 σ a w) (n : Nat) : RSt P cd nt A F0 w0 I0 σ a { w with drawn := n } := by
  obtain ⟨M, Fz, h⟩ := h
  have hf : Frz Fz w Fz { w with drawn := n } := fun k hk => ⟨hk, rfl⟩
  have he := Ext.refl M
  refine ⟨M, Fz, ⟨⟨?_, h.hr.out, h.hr.inj, h.hr.apart, h.hr.frz, h.hr.lt⟩, h.tm.mono he hf, h.size, h.defers, ?_, h.own, h.f0, h.f1, h.ext⟩⟩
  · intro b x hx
    have hb := h.hr.blk b x hx
    cases x with
    | dead => exact hb
    | cells cs =>
      obtain ⟨k, arr, e, e1, e2, e3⟩ := hb
      exact ⟨k, arr, e, e1, e2, e3.mono he hf⟩
    | row t v l =>
      obtain ⟨pos, cap, e1, e2⟩ := hb
      refine ⟨pos, cap, e1, ?_⟩
      cases pos with
      | none => exact e2
      | some k =>
        obtain ⟨cur, r⟩ := e2
        refine ⟨cur, r.heap, r.le, r.max, r.size, fun j c hj => ?_⟩
        obtain ⟨v, q1, q2⟩ := r.cells j c hj
        exact ⟨v, q1, q2.mono he hf⟩
  · exact ⟨h.keep.os, h.keep.tape, h.keep.output, h.keep.size, h.keep.old⟩
end
section
variable {E : Env U} {A F0 : Nat → Prop} {w0 w : World} {I0 : Mp}
theorem dstsOk_ok {n : Nat} : ∀ {l : List Oper}, dstsOk n l = true → ∀ o ∈ l, ∀ t, o.dst = some t → t < n
  | [], _, o, h, _, _ => by simp at h
  | x :: l, e, o, h, t, ht => by
    have e' : (bif (match x.dst with | some t => Nat.blt t n | none => true) then dstsOk n l else false) = true := e
    cases hx : (match x.dst with | some t => Nat.blt t n | none => true) with
    | false => rw [hx] at e'; cases e'
    | true =>
      rw [hx] at e'
      rcases List.mem_cons.1 h with rfl | h
      · rw [ht] at hx
        exact of_decide_eq_true (by simpa using hx)
      · exact dstsOk_ok e' o h t ht
theorem tags_map : ∀ (l : List Oper) (i id : Nat), (tags l i id).map (·.i) = List.range' i l.length
  | [], _, _ => rfl
  | o :: l, i, id => by simp [tags, tags_map l, List.range'_succ]
theorem region_ok (ok : CdOk E.P E.cd) (env : ∀ f p s, E.fns f = some (p, s) → FnOk E.P E.cd f s) (hI : ∀ b, E.n0 ≤ b → I0 b = none) {id : Nat} {ops : Array Oper} {draw : Bool} {σ σ' : St U} (h : (region E id ops draw σ).run = some σ')
    {a : Act} (hs : RSt E.P E.cd E.nt A F0 w0 I0 σ a w) {Q : Exit → Act → World → Prop} (hQ : ∀ a' w', RSt E.P E.cd E.nt A F0 w0 I0 σ' a' w' → Q .normal a' w') : (Code.region id ops draw).wp E.P Q a w := by
  unfold region at h
  simp only [cond_eq_ite] at h
  split at h
  case isFalse => cases h
  rename_i hc
  simp only [Bool.and_eq_true, Bool.or_eq_true, Bool.not_eq_true'] at hc
  have h1 : RSt E.P E.cd E.nt A F0 w0 I0 (if E.frz id = true then frzS E.n0 σ else σ) a w := by
    split
    · exact frzS_ok ok E.n0 hI hs
    · exact hs
  revert h h1
  generalize (if E.frz id = true then frzS E.n0 σ else σ) = σ1
  intro h h1
  have h2 := h1.more (countM ops.toList)
  have h3 := runOps_run ops.toList 0 σ1.hp.length [] _ σ' (fun t b hb => by simp [getA] at hb) h
  have hd := dstsOk_ok hc.1
  cases draw with
  | false =>
    refine wp_region ?_
    have h4 := steps_ok ok env (r := ⟨ops, Region.before ops, σ1.hp.length, false, E.fps id⟩) (Q := Q) (tags ops.toList 0 σ1.hp.length) _ (fun x hx => by
      obtain ⟨_, q2, _⟩ := tags_get _ _ _ x hx
      rw [Nat.sub_zero] at q2
      exact ⟨by rw [← Array.getElem?_toList]; exact q2, hd x.o (List.mem_of_getElem? q2)⟩) h3 a w h2 hQ
    rw [tags_map, ← List.range_eq_range', Array.length_toList] at h4
    exact h4
  | true =>
    have hc2 := hc.2.resolve_left (by simp)
    have hdo := hc2.1
    unfold drawOk at hdo
    simp only [Bool.and_eq_true] at hdo
    refine wp_region_any hc2.2 ?_
    have hun : unl (tags ops.toList 0 σ1.hp.length) (Array.replicate ops.size false) = tags ops.toList 0 σ1.hp.length := List.filter_eq_self.2 fun x hx => by
      obtain ⟨_, q2, _⟩ := tags_get _ _ _ x hx
      rw [Nat.sub_zero] at q2
      have := (List.getElem?_eq_some_iff.1 q2).1
      simp at this
      simp [Array.getD_eq_getD_getElem?, Array.getElem?_replicate, this]
    refine any_ok ok env (r := ⟨ops, Region.before ops, σ1.hp.length, true, E.fps id⟩) rfl rfl hd hdo.1 hdo.2 hQ ops.size _ _ a _ (by simp) (fun i o ho hl => ?_) ?_ ?_ (h2.drawn _)
    · have := (Array.getElem?_eq_some_iff.1 ho).1
      simp only [Array.getD_eq_getD_getElem?, Array.getElem?_replicate] at hl
      rw [if_pos this] at hl
      cases hl
    · rw [hun]
      have := congrArg List.length (tags_map ops.toList 0 σ1.hp.length)
      simpa using this
    · rw [hun]; exact h3
end
end Go.Ab
