/- Regions in any order: exchange. -/
import Derived.Test.YtjhibcebipjbcaaAbOps16
set_option linter.unusedSimpArgs false
namespace Go.Ab
variable {U : Nat → Type}
section
variable {E : Env U}
theorem fits_alo {r : Rg} {i : Nat} {o : Oper} {t : Tree (Blk U)} {mk : Nat → C U} (h : fitsB E r i o (.alo t mk) = true) : grade E o = 1 ∧ makes o = true := by
  simp only [fitsB, Bool.and_eq_true] at h
  exact ⟨Nat.eq_of_beq_eq_true h.1, h.2⟩
theorem fits_lod {r : Rg} {i b : Nat} {o : Oper} {f : Blk U → Tree (D U)} (h : fitsB E r i o (.lod b f) = true) : grade E o = 1 ∧ fpRd (r.fps i) b = true := by
  simp only [fitsB, Bool.and_eq_true] at h
  exact ⟨Nat.eq_of_beq_eq_true h.1.1, h.2⟩
/-- what is read is not changed -/
theorem lod_frame {r : Rg} {i j b : Nat} {o x : Oper} {ρ : Operand → D U} {f : Blk U → Tree (D U)} {g : List (Blk U) → Nat → Tree (D U × List (Blk U))} (hf : fitsB E r i o (.lod b f) = true) (hk : opK E ρ x = .wri g) {hp hp' : List (Blk U)} (hw : wOk E.P (r.fps j) ρ hp x (.wri g) = true) (hd : fpDisj (r.fps i) (r.fps j) = true ∨ fpDisj (r.fps j) (r.fps i) = true)
    {id : Nat} {d : D U} (h : (g hp id).run = some (d, hp')) : hp'[b]? = hp[b]? := by
  have hr := (fits_lod hf).2
  generalize r.fps i = p at hr hd
  generalize r.fps j = q at hw hd
  cases p with
  | none => rcases hd with hd | hd <;> cases q <;> simp [fpDisj] at hd
  | wr l n => cases hr
  | rd l =>
    cases q with
    | none => rcases hd with hd | hd <;> simp [fpDisj] at hd
    | rd m => cases hw
    | wr m n =>
      have hd : disjN l m = true ∧ ltAll n l = true := by rcases hd with hd | hd <;> simpa [fpDisj] using hd
      simp only [wOk, Bool.and_eq_true] at hw
      have hb := memN_ok.1 hr
      have hlt := ltAll_ok hd.2 b hb
      have hle : n ≤ hp.length := Nat.le_of_ble_eq_true hw.1
      have hw := hw.2
      split at hw
      · rename_i L ht
        exact tch_ok hk ht h (fun hm => disjN_ok hd.1 b hb (subN_ok hw b hm)) (by omega)
      · cases hw
theorem sem_lod_eq {b : Nat} {f : Blk U → Tree (D U)} {hp hp' : List (Blk U)} {id : Nat} {d : D U} {q : List (Blk U)} (h : (K.lod b f).sem hp id = some (d, q)) (e : hp'[b]? = hp[b]?) : (K.lod b f).sem hp' id = some (d, hp') := by
  simp only [K.sem] at h ⊢
  rw [nth_eq] at h ⊢
  rw [e]
  split at h
  · cases h
  · rename_i blk hn hb
    obtain ⟨d', h1, h2⟩ := Option.map_eq_some_iff.1 h
    simp only [Prod.mk.injEq] at h2
    simp only [h1, Option.map_some, h2.1]
  · cases h
theorem fits_wri {r : Rg} {i : Nat} {o : Oper} {f : List (Blk U) → Nat → Tree (D U × List (Blk U))} (h : fitsB E r i o (.wri f) = true) : grade E o = 2 := by
  simp only [fitsB] at h
  exact Nat.eq_of_beq_eq_true h
def okId (o : Oper) (hp : List (Blk U)) (id : Nat) : Prop := makes o = true → isDead hp id = true
theorem heap_swap {r : Rg} {y x : Tg} (h : Ind E r y x) {k k' : K U} (fk : fitsB E r y.i y.o k = true) (fk' : fitsB E r x.i x.o k' = true) {ρy ρx : Operand → D U} (ky : opK E ρy y.o = k) (kx : opK E ρx x.o = k') {hp hp1 hp2 : List (Blk U)} {d d' : D U} (h1 : k.sem hp y.id = some (d, hp1)) (h2 : k'.sem hp1 x.id = some (d', hp2))
    (e1 : okId y.o hp y.id) (e2 : okId x.o hp1 x.id) (w1 : wOk E.P (r.fps y.i) ρy hp y.o k = true) (w2 : wOk E.P (r.fps x.i) ρx hp1 x.o k' = true) :
    ∃ q, k'.sem hp x.id = some (d', q) ∧ k.sem q y.id = some (d, hp2) ∧ okId x.o hp x.id ∧ okId y.o q y.id ∧ wOk E.P (r.fps x.i) ρx hp x.o k' = true ∧ wOk E.P (r.fps y.i) ρy q y.o k = true := by
  have hgr := h.gr
  rcases sem_hp h1 with ⟨t, rfl, rfl, ht⟩ | ⟨t, mk, blk, rfl, rfl, ht, rfl⟩ | ⟨b, f, rfl, rfl⟩ | ⟨f, rfl⟩
  · refine ⟨hp2, h2, by simp only [K.sem, ht]; rfl, e2, fun hm => ?_, w2, rfl⟩
    rcases sem_hp h2 with ⟨t', rfl, rfl, _⟩ | ⟨t', mk', blk', rfl, rfl, _, _⟩ | ⟨b', f', rfl, rfl⟩ | ⟨f', rfl⟩
    · exact e1 hm
    · rw [isDead_set (Ne.symm (Nat.ne_of_lt (h.ids hm)))]; exact e1 hm
    · exact e1 hm
    · have := fits_wri fk'
      rcases hgr with h0 | h0 | h0 | h0
      · exact absurd h0 (makes_grade hm)
      · omega
      · omega
      · rw [h0.2.1] at hm; cases hm
  · obtain ⟨g1, m1⟩ := fits_alo fk
    have hlt := h.ids m1
    have hset : ∀ id', isDead (setN hp y.id blk) id' = true → y.id ≠ id' → isDead hp id' = true := fun id' hh hne => by rwa [isDead_set hne] at hh
    rcases sem_hp h2 with ⟨t', rfl, rfl, ht'⟩ | ⟨t', mk', blk', rfl, rfl, ht', rfl⟩ | ⟨b', f', rfl, rfl⟩ | ⟨f', rfl⟩
    · exact ⟨hp, by simp only [K.sem, ht']; rfl, h1, fun hm => hset _ (e2 hm) (Nat.ne_of_lt hlt), e1, rfl, rfl⟩
    · refine ⟨setN hp x.id blk', by simp only [K.sem, ht']; rfl, ?_, fun hm => hset _ (e2 hm) (Nat.ne_of_lt hlt), fun hm => ?_, rfl, rfl⟩
      · simp only [K.sem, ht, Option.map_some, setN_eq]
        rw [List.set_comm _ _ (Nat.ne_of_lt hlt)]
      · rw [isDead_set (Ne.symm (Nat.ne_of_lt hlt))]; exact e1 hm
    · have hne := h.lod1 fk' m1
      refine ⟨hp, ?_, h1, fun hm => hset _ (e2 hm) (Nat.ne_of_lt hlt), e1, rfl, rfl⟩
      have hs := sem_lod (f := f') (hp := hp) (id := x.id) (x := blk) hne
      rw [h2] at hs
      cases hq : (K.lod b' f').sem hp x.id with
      | none => rw [hq] at hs; cases hs
      | some p =>
        rw [hq] at hs
        simp only [Option.map_some, Option.some.injEq] at hs
        have : p.2 = hp := by
          rcases sem_hp (d := p.1) (hp' := p.2) hq with ⟨_, hc, _⟩ | ⟨_, _, _, hc, _⟩ | ⟨_, _, _, hc⟩ | ⟨_, hc⟩ <;> first | exact hc | cases hc
        congr 1
        exact Prod.ext hs.symm this
    · have := fits_wri fk'
      rcases hgr with h0 | h0 | h0 | h0
      · omega
      · omega
      · omega
      · rw [h0.2.1] at m1; cases m1
  · have g1 := (fits_lod fk).1
    rcases sem_hp h2 with ⟨t', rfl, rfl, ht'⟩ | ⟨t', mk', blk', rfl, rfl, ht', rfl⟩ | ⟨b', f', rfl, rfl⟩ | ⟨f', rfl⟩
    · exact ⟨_, h2, h1, e2, e1, rfl, rfl⟩
    · obtain ⟨g2, m2⟩ := fits_alo fk'
      have hne := h.lod2 fk m2
      refine ⟨_, h2, ?_, e2, fun hm => ?_, rfl, rfl⟩
      · have hs := sem_lod (f := f) (hp := hp1) (id := y.id) (x := blk') hne
        rw [h1] at hs
        cases hq : (K.lod b f).sem (setN hp1 x.id blk') y.id with
        | none => rw [hq] at hs; cases hs
        | some p =>
          rw [hq] at hs
          simp only [Option.map_some, Option.some.injEq] at hs
          have : p.2 = setN hp1 x.id blk' := by
            rcases sem_hp (d := p.1) (hp' := p.2) hq with ⟨_, hc, _⟩ | ⟨_, _, _, hc, _⟩ | ⟨_, _, _, hc⟩ | ⟨_, hc⟩ <;> first | exact hc | cases hc
          congr 1
          exact Prod.ext hs this
      · rw [isDead_set (Ne.symm (Nat.ne_of_lt (h.ids hm)))]; exact e1 hm
    · exact ⟨_, h2, h1, e2, e1, rfl, rfl⟩
    · have g2 := fits_wri fk'
      rcases hgr with h0 | h0 | h0 | h0
      · omega
      · omega
      · omega
      · exact ⟨hp2, h2, sem_lod_eq h1 (lod_frame fk kx w2 (.inl h0.1) h2), e2, fun hm => (by rw [h0.2.1] at hm; cases hm), w2, rfl⟩
  · have g1 := fits_wri fk
    have key : grade E x.o = 0 ∨ (fpDisj (r.fps y.i) (r.fps x.i) = true ∧ makes y.o = false ∧ makes x.o = false) := by
      rcases hgr with h0 | h0 | h0 | h0
      · omega
      · exact .inl h0
      · omega
      · exact .inr h0
    rcases sem_hp h2 with ⟨t', rfl, rfl, ht'⟩ | ⟨t', mk', blk', rfl, rfl, ht', rfl⟩ | ⟨b', f', rfl, rfl⟩ | ⟨f', rfl⟩
    · refine ⟨hp, by simp only [K.sem, ht']; rfl, h1, fun hm => ?_, e1, rfl, w1⟩
      rcases key with h0 | h0
      · exact absurd h0 (makes_grade hm)
      · rw [h0.2.2] at hm; cases hm
    · obtain ⟨g2, m2⟩ := fits_alo fk'
      rcases key with h0 | h0
      · omega
      · rw [h0.2.2] at m2; cases m2
    · have g2 := (fits_lod fk').1
      rcases key with h0 | h0
      · omega
      · exact ⟨hp, sem_lod_eq h2 (lod_frame fk' ky w1 (.inr h0.1) h1).symm, h1, fun hm => (by rw [h0.2.2] at hm; cases hm), e1, rfl, w1⟩
    · have g2 := fits_wri fk'
      rcases key with h0 | h0
      · omega
      · exfalso
        have h3 := h0.1
        generalize r.fps y.i = p at w1 h3
        generalize r.fps x.i = q at w2 h3
        cases p <;> cases q <;> simp [fpDisj] at h3 <;> simp [wOk] at w1 w2
theorem okId_iff {o : Oper} {hp : List (Blk U)} {id : Nat} : (!makes o || isDead hp id) = true ↔ okId o hp id := by
  unfold okId
  cases makes o <;> simp
theorem doA_put {P : Program} {fp : Fp} {id : Nat} {o : Oper} {σ σ' : St U} {d : D U} (h : doA P fp id o σ (.put d) = some σ') : σ' = putD σ o.dst d := (Option.some.inj h).symm
theorem doA_mem {P : Program} {fp : Fp} {id : Nat} {o : Oper} {σ σ' : St U} {k : K U} (h : doA P fp id o σ (.mem k) = some σ') : okId o σ.hp id ∧ wOk P fp (ev σ.tm) σ.hp o k = true ∧ ∃ d hp, k.sem σ.hp id = some (d, hp) ∧ σ' = { putD σ o.dst d with hp } := by
  simp only [doA, cond_eq_ite] at h
  split at h
  · rename_i hc
    obtain ⟨h1, h2⟩ := (Bool.and_eq_true_iff).1 hc
    obtain ⟨p, h3, h4⟩ := Option.map_eq_some_iff.1 h
    exact ⟨okId_iff.1 h1, h2, p.1, p.2, h3, h4.symm⟩
  · cases h
theorem doA_mem_mk {P : Program} {fp : Fp} {id : Nat} {o : Oper} {σ : St U} {k : K U} {d : D U} {hp : List (Blk U)} (h1 : okId o σ.hp id) (hw : wOk P fp (ev σ.tm) σ.hp o k = true) (h2 : k.sem σ.hp id = some (d, hp)) : doA P fp id o σ (.mem k) = some { putD σ o.dst d with hp } := by
  simp only [doA, cond_eq_ite]
  rw [if_pos ((Bool.and_eq_true_iff).2 ⟨okId_iff.2 h1, hw⟩), h2]
  rfl
theorem putD_with (σ : St U) (d : Option Nat) (x : D U) (hp : List (Blk U)) : putD { σ with hp := hp } d x = { putD σ d x with hp := hp } := by cases d <;> rfl
theorem swap {r : Rg} (hdraw : r.draw = true) {y x : Tg} (h : Ind E r y x) {σ σa σb : St U} (h1 : stepO E r y.i y.id y.o σ = some σa) (h2 : stepO E r x.i x.id x.o σa = some σb) :
    ∃ σc, stepO E r x.i x.id x.o σ = some σc ∧ stepO E r y.i y.id y.o σc = some σb := by
  obtain ⟨a1, a2, a3⟩ := Oper.apart_spec h.apart
  rw [stepO_ac] at h1 h2
  cases hy : acO E r y.i y.o σ.tm with
  | no => rw [hy] at h1; cases h1
  | put d =>
    rw [hy] at h1
    obtain rfl := doA_put h1
    have hx := acO_putD (E := E) (i := x.i) (σ := σ) (v := d) a1 σ.hp
    rw [putD_self] at hx
    rw [hx] at h2
    cases hc : acO E r x.i x.o σ.tm with
    | no => rw [hc] at h2; cases h2
    | put e =>
      rw [hc] at h2
      obtain rfl := doA_put h2
      refine ⟨putD σ x.o.dst e, by rw [stepO_ac, hc]; rfl, ?_⟩
      have hy' := acO_putD (E := E) (i := y.i) (σ := σ) (v := e) a3 σ.hp
      rw [putD_self] at hy'
      rw [stepO_ac, hy', hy, putD_comm σ a2]
      rfl
    | mem k =>
      rw [hc] at h2
      obtain ⟨k1, kw, e, hp, k2, rfl⟩ := doA_mem h2
      rw [putD_hp] at k1 kw k2
      have kw' : wOk E.P (r.fps x.i) (ev σ.tm) σ.hp x.o k = true := by
        rw [← kw]
        refine (wOk_congr σ.hp x.o k fun z hz => ?_).symm
        have := ev_putD (σ := σ) (v := d) a1 σ.hp z hz
        rwa [putD_self] at this
      refine ⟨{ putD σ x.o.dst e with hp }, by rw [stepO_ac, hc]; exact doA_mem_mk k1 kw' k2, ?_⟩
      have hy' := acO_putD (E := E) (i := y.i) (σ := σ) (v := e) a3 hp
      rw [stepO_ac, hy', hy, putD_comm σ a2]
      show some _ = some _
      rw [putD_with]
  | mem k =>
    rw [hy] at h1
    obtain ⟨q1, qw, d, hp1, q2, rfl⟩ := doA_mem h1
    have hx := acO_putD (E := E) (i := x.i) (σ := σ) (v := d) a1 hp1
    rw [hx] at h2
    cases hc : acO E r x.i x.o σ.tm with
    | no => rw [hc] at h2; cases h2
    | put e =>
      rw [hc] at h2
      obtain rfl := doA_put h2
      refine ⟨putD σ x.o.dst e, by rw [stepO_ac, hc]; rfl, ?_⟩
      have hy' := acO_putD (E := E) (i := y.i) (σ := σ) (v := e) a3 σ.hp
      rw [putD_self] at hy'
      rw [stepO_ac, hy', hy, putD_with (putD σ y.o.dst d) x.o.dst e hp1, putD_comm σ a2]
      have qw' : wOk E.P (r.fps y.i) (ev (putD σ x.o.dst e).tm) σ.hp y.o k = true := by
        rw [← qw]
        refine wOk_congr σ.hp y.o k fun z hz => ?_
        have := ev_putD (σ := σ) (v := e) a3 σ.hp z hz
        rwa [putD_self] at this
      rw [← putD_hp σ x.o.dst e] at q1 q2 qw'
      exact doA_mem_mk q1 qw' q2
    | mem k' =>
      rw [hc] at h2
      obtain ⟨k1, kw, e, hp2, k2, rfl⟩ := doA_mem h2
      have kw' : wOk E.P (r.fps x.i) (ev σ.tm) hp1 x.o k' = true := by
        rw [← kw]
        exact (wOk_congr hp1 x.o k' (ev_putD (σ := σ) (v := d) a1 hp1)).symm
      obtain ⟨q, p1, p2, p3, p4, p5, p6⟩ := heap_swap h (acO_fits hdraw hy) (acO_fits hdraw hc) (acO_mem hy) (acO_mem hc) q2 k2 q1 k1 qw kw'
      refine ⟨{ putD σ x.o.dst e with hp := q }, by rw [stepO_ac, hc]; exact doA_mem_mk p3 p5 p1, ?_⟩
      have hy' := acO_putD (E := E) (i := y.i) (σ := σ) (v := e) a3 q
      rw [stepO_ac, hy', hy]
      have p6' : wOk E.P (r.fps y.i) (ev ({ putD σ x.o.dst e with hp := q } : St U).tm) q y.o k = true := by
        rw [← p6]
        exact wOk_congr q y.o k (ev_putD (σ := σ) (v := e) a3 q)
      rw [doA_mem_mk p4 p6' p2]
      rw [putD_with (putD σ x.o.dst e) y.o.dst d q, putD_with (putD σ y.o.dst d) x.o.dst e hp1, putD_comm σ a2]
theorem steps_front {r : Rg} (hdraw : r.draw = true) {x : Tg} : ∀ (pre post : List Tg) {σ σ' : St U}, (∀ y ∈ pre, Ind E r y x) → steps E r (pre ++ x :: post) σ = some σ' → ∃ σ1, stepO E r x.i x.id x.o σ = some σ1 ∧ steps E r (pre ++ post) σ1 = some σ'
  | [], post, σ, σ', _, h => by
    simp only [List.nil_append, steps] at h
    obtain ⟨σ1, h1, h2⟩ := Option.bind_eq_some_iff.1 h
    exact ⟨σ1, h1, h2⟩
  | y :: pre, post, σ, σ', hi, h => by
    simp only [List.cons_append, steps] at h
    obtain ⟨σ1, h1, h2⟩ := Option.bind_eq_some_iff.1 h
    obtain ⟨σ2, h3, h4⟩ := steps_front hdraw pre post (fun z hz => hi z (by simp [hz])) h2
    obtain ⟨σc, h5, h6⟩ := swap hdraw (hi y (by simp)) h1 h3
    refine ⟨σc, h5, ?_⟩
    simp only [List.cons_append, steps, h6]
    exact h4
end
end Go.Ab
