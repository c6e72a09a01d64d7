/- Regions in any order: exchange. -/
import Derived.Test.YtnhhimlienefkaaAbOps16
set_option linter.unusedSimpArgs false
namespace Go.Ab
variable {U : Nat → Type}
section
variable {E : Env U}
theorem fits_alo {r : Rg} {i : Nat} {o : Oper} {t : Tree (Blk U)} {mk : Nat → C U} (h : fitsB E r i o (.alo t mk) = true) : grade E o = 1 ∧ makes o = true := by
  simp only [fitsB, Bool.and_eq_true] at h
  exact ⟨Nat.eq_of_beq_eq_true h.1, h.2⟩
theorem fits_lod {r : Rg} {i b : Nat} {o : Oper} {f : Blk U → Tree (D U)} (h : fitsB E r i o (.lod b f) = true) : grade E o = 1 := by
  simp only [fitsB, Bool.and_eq_true] at h
  exact Nat.eq_of_beq_eq_true h.1
theorem fits_wri {r : Rg} {i : Nat} {o : Oper} {f : List (Blk U) → Nat → Tree (D U × List (Blk U))} (h : fitsB E r i o (.wri f) = true) : grade E o = 2 := by
  simp only [fitsB] at h
  exact Nat.eq_of_beq_eq_true h
def okId (o : Oper) (hp : List (Blk U)) (id : Nat) : Prop := makes o = true → isDead hp id = true
theorem heap_swap {r : Rg} {y x : Tg} (h : Ind E r y x) {k k' : K U} (fk : fitsB E r y.i y.o k = true) (fk' : fitsB E r x.i x.o k' = true) {hp hp1 hp2 : List (Blk U)} {d d' : D U} (h1 : k.sem hp y.id = some (d, hp1)) (h2 : k'.sem hp1 x.id = some (d', hp2))
    (e1 : okId y.o hp y.id) (e2 : okId x.o hp1 x.id) : ∃ q, k'.sem hp x.id = some (d', q) ∧ k.sem q y.id = some (d, hp2) ∧ okId x.o hp x.id ∧ okId y.o q y.id := by
  have hgr := h.gr
  rcases sem_hp h1 with ⟨t, rfl, rfl, ht⟩ | ⟨t, mk, blk, rfl, rfl, ht, rfl⟩ | ⟨b, f, rfl, rfl⟩ | ⟨f, rfl⟩
  · refine ⟨hp2, h2, by simp only [K.sem, ht]; rfl, e2, fun hm => ?_⟩
    rcases sem_hp h2 with ⟨t', rfl, rfl, _⟩ | ⟨t', mk', blk', rfl, rfl, _, _⟩ | ⟨b', f', rfl, rfl⟩ | ⟨f', rfl⟩
    · exact e1 hm
    · rw [isDead_set (Ne.symm (Nat.ne_of_lt (h.ids hm)))]; exact e1 hm
    · exact e1 hm
    · have := fits_wri fk'
      exact absurd (show grade E y.o = 0 by omega) (makes_grade hm)
  · obtain ⟨g1, m1⟩ := fits_alo fk
    have hlt := h.ids m1
    have hset : ∀ id', isDead (setN hp y.id blk) id' = true → y.id ≠ id' → isDead hp id' = true := fun id' hh hne => by rwa [isDead_set hne] at hh
    rcases sem_hp h2 with ⟨t', rfl, rfl, ht'⟩ | ⟨t', mk', blk', rfl, rfl, ht', rfl⟩ | ⟨b', f', rfl, rfl⟩ | ⟨f', rfl⟩
    · exact ⟨hp, by simp only [K.sem, ht']; rfl, h1, fun hm => hset _ (e2 hm) (Nat.ne_of_lt hlt), e1⟩
    · refine ⟨setN hp x.id blk', by simp only [K.sem, ht']; rfl, ?_, fun hm => hset _ (e2 hm) (Nat.ne_of_lt hlt), fun hm => ?_⟩
      · simp only [K.sem, ht, Option.map_some, setN_eq]
        rw [List.set_comm _ _ (Nat.ne_of_lt hlt)]
      · rw [isDead_set (Ne.symm (Nat.ne_of_lt hlt))]; exact e1 hm
    · have hne := h.lod1 fk' m1
      refine ⟨hp, ?_, h1, fun hm => hset _ (e2 hm) (Nat.ne_of_lt hlt), e1⟩
      have hs := sem_lod (f := f') (hp := hp) (id := x.id) (x := blk) hne
      rw [h2] at hs
      cases hq : (K.lod b' f').sem hp x.id with
      | none => rw [hq] at hs; cases hs
      | some p =>
        rw [hq] at hs
        simp only [Option.map_some, Option.some.injEq] at hs
        have : p.2 = hp := by
          rcases sem_hp (d := p.1) (hp' := p.2) hq with ⟨_, hc, _⟩ | ⟨_, _, _, hc, _⟩ | ⟨_, _, _, hc⟩ | ⟨_, hc⟩ <;> first | exact hc | cases hc
        congr 1
        exact Prod.ext hs.symm this
    · have := fits_wri fk'; omega
  · have g1 := fits_lod fk
    rcases sem_hp h2 with ⟨t', rfl, rfl, ht'⟩ | ⟨t', mk', blk', rfl, rfl, ht', rfl⟩ | ⟨b', f', rfl, rfl⟩ | ⟨f', rfl⟩
    · exact ⟨_, h2, h1, e2, e1⟩
    · obtain ⟨g2, m2⟩ := fits_alo fk'
      have hne := h.lod2 fk m2
      refine ⟨_, h2, ?_, e2, fun hm => ?_⟩
      · have hs := sem_lod (f := f) (hp := hp1) (id := y.id) (x := blk') hne
        rw [h1] at hs
        cases hq : (K.lod b f).sem (setN hp1 x.id blk') y.id with
        | none => rw [hq] at hs; cases hs
        | some p =>
          rw [hq] at hs
          simp only [Option.map_some, Option.some.injEq] at hs
          have : p.2 = setN hp1 x.id blk' := by
            rcases sem_hp (d := p.1) (hp' := p.2) hq with ⟨_, hc, _⟩ | ⟨_, _, _, hc, _⟩ | ⟨_, _, _, hc⟩ | ⟨_, hc⟩ <;> first | exact hc | cases hc
          congr 1
          exact Prod.ext hs this
      · rw [isDead_set (Ne.symm (Nat.ne_of_lt (h.ids hm)))]; exact e1 hm
    · exact ⟨_, h2, h1, e2, e1⟩
    · have := fits_wri fk'; omega
  · have g1 := fits_wri fk
    have g2 : grade E x.o = 0 := by omega
    rcases sem_hp h2 with ⟨t', rfl, rfl, ht'⟩ | ⟨t', mk', blk', rfl, rfl, ht', rfl⟩ | ⟨b', f', rfl, rfl⟩ | ⟨f', rfl⟩
    · exact ⟨hp, by simp only [K.sem, ht']; rfl, h1, fun hm => absurd g2 (makes_grade hm), e1⟩
    · have := (fits_alo fk').1; omega
    · have := fits_lod fk'; omega
    · have := fits_wri fk'; omega
theorem okId_iff {o : Oper} {hp : List (Blk U)} {id : Nat} : (!makes o || isDead hp id) = true ↔ okId o hp id := by
  unfold okId
  cases makes o <;> simp
theorem doA_put {id : Nat} {o : Oper} {σ σ' : St U} {d : D U} (h : doA id o σ (.put d) = some σ') : σ' = putD σ o.dst d := (Option.some.inj h).symm
theorem doA_mem {id : Nat} {o : Oper} {σ σ' : St U} {k : K U} (h : doA id o σ (.mem k) = some σ') : okId o σ.hp id ∧ ∃ d hp, k.sem σ.hp id = some (d, hp) ∧ σ' = { putD σ o.dst d with hp } := by
  simp only [doA, cond_eq_ite] at h
  split at h
  · rename_i hc
    obtain ⟨p, h1, h2⟩ := Option.map_eq_some_iff.1 h
    exact ⟨okId_iff.1 hc, p.1, p.2, h1, h2.symm⟩
  · cases h
theorem doA_mem_mk {id : Nat} {o : Oper} {σ : St U} {k : K U} {d : D U} {hp : List (Blk U)} (h1 : okId o σ.hp id) (h2 : k.sem σ.hp id = some (d, hp)) : doA id o σ (.mem k) = some { putD σ o.dst d with hp } := by
  simp only [doA, cond_eq_ite]
  rw [if_pos (okId_iff.2 h1), h2]
  rfl
theorem putD_with (σ : St U) (d : Option Nat) (x : D U) (hp : List (Blk U)) : putD { σ with hp := hp } d x = { putD σ d x with hp := hp } := by cases d <;> rfl
theorem swap {r : Rg} (hdraw : r.draw = true) {y x : Tg} (h : Ind E r y x) {σ σa σb : St U} (h1 : stepO E r y.i y.id y.o σ = some σa) (h2 : stepO E r x.i x.id x.o σa = some σb) :
    ∃ σc, stepO E r x.i x.id x.o σ = some σc ∧ stepO E r y.i y.id y.o σc = some σb := by
  obtain ⟨a1, a2, a3⟩ := Oper.apart_spec h.apart
  rw [stepO_ac] at h1 h2
  cases hy : acO E r y.i y.o σ.tm with
  | no => rw [hy] at h1; cases h1
  | put d =>
    rw [hy] at h1
    obtain rfl := doA_put h1
    have hx := acO_putD (E := E) (i := x.i) (σ := σ) (v := d) a1 σ.hp
    rw [putD_self] at hx
    rw [hx] at h2
    cases hc : acO E r x.i x.o σ.tm with
    | no => rw [hc] at h2; cases h2
    | put e =>
      rw [hc] at h2
      obtain rfl := doA_put h2
      refine ⟨putD σ x.o.dst e, by rw [stepO_ac, hc]; rfl, ?_⟩
      have hy' := acO_putD (E := E) (i := y.i) (σ := σ) (v := e) a3 σ.hp
      rw [putD_self] at hy'
      rw [stepO_ac, hy', hy, putD_comm σ a2]
      rfl
    | mem k =>
      rw [hc] at h2
      obtain ⟨k1, e, hp, k2, rfl⟩ := doA_mem h2
      rw [putD_hp] at k1 k2
      refine ⟨{ putD σ x.o.dst e with hp }, by rw [stepO_ac, hc]; exact doA_mem_mk k1 k2, ?_⟩
      have hy' := acO_putD (E := E) (i := y.i) (σ := σ) (v := e) a3 hp
      rw [stepO_ac, hy', hy, putD_comm σ a2]
      show some _ = some _
      rw [putD_with]
  | mem k =>
    rw [hy] at h1
    obtain ⟨q1, d, hp1, q2, rfl⟩ := doA_mem h1
    have hx := acO_putD (E := E) (i := x.i) (σ := σ) (v := d) a1 hp1
    rw [hx] at h2
    cases hc : acO E r x.i x.o σ.tm with
    | no => rw [hc] at h2; cases h2
    | put e =>
      rw [hc] at h2
      obtain rfl := doA_put h2
      refine ⟨putD σ x.o.dst e, by rw [stepO_ac, hc]; rfl, ?_⟩
      have hy' := acO_putD (E := E) (i := y.i) (σ := σ) (v := e) a3 σ.hp
      rw [putD_self] at hy'
      rw [stepO_ac, hy', hy, putD_with (putD σ y.o.dst d) x.o.dst e hp1, putD_comm σ a2]
      rw [← putD_hp σ x.o.dst e] at q1 q2
      exact doA_mem_mk q1 q2
    | mem k' =>
      rw [hc] at h2
      obtain ⟨k1, e, hp2, k2, rfl⟩ := doA_mem h2
      obtain ⟨q, p1, p2, p3, p4⟩ := heap_swap h (acO_fits hdraw hy) (acO_fits hdraw hc) q2 k2 q1 k1
      refine ⟨{ putD σ x.o.dst e with hp := q }, by rw [stepO_ac, hc]; exact doA_mem_mk p3 p1, ?_⟩
      have hy' := acO_putD (E := E) (i := y.i) (σ := σ) (v := e) a3 q
      rw [stepO_ac, hy', hy]
      rw [doA_mem_mk p4 p2]
      rw [putD_with (putD σ x.o.dst e) y.o.dst d q, putD_with (putD σ y.o.dst d) x.o.dst e hp1, putD_comm σ a2]
theorem steps_front {r : Rg} (hdraw : r.draw = true) {x : Tg} : ∀ (pre post : List Tg) {σ σ' : St U}, (∀ y ∈ pre, Ind E r y x) → steps E r (pre ++ x :: post) σ = some σ' → ∃ σ1, stepO E r x.i x.id x.o σ = some σ1 ∧ steps E r (pre ++ post) σ1 = some σ'
  | [], post, σ, σ', _, h => by
    simp only [List.nil_append, steps] at h
    obtain ⟨σ1, h1, h2⟩ := Option.bind_eq_some_iff.1 h
    exact ⟨σ1, h1, h2⟩
  | y :: pre, post, σ, σ', hi, h => by
    simp only [List.cons_append, steps] at h
    obtain ⟨σ1, h1, h2⟩ := Option.bind_eq_some_iff.1 h
    obtain ⟨σ2, h3, h4⟩ := steps_front hdraw pre post (fun z hz => hi z (by simp [hz])) h2
    obtain ⟨σc, h5, h6⟩ := swap hdraw (hi y (by simp)) h1 h3
    refine ⟨σc, h5, ?_⟩
    simp only [List.cons_append, steps, h6]
    exact h4
end
end Go.Ab
