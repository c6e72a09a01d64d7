/- Regions, step by step. -/
import Derived.Test.YtjhibcebipjbcaaAbOps13
set_option linter.unusedSimpArgs false
namespace Go.Ab
variable {U : Nat → Type}
section
variable {E : Env U}

/-- an operation is done -/
def doS (E : Env U) (r : Rg) (i id : Nat) (o : Oper) (σ : St U) : Option (St U) := match o.op with
  | .pick c a b => match ev σ.tm c with
    | .v (.one (.kb x)) => some (putD σ o.dst (typD E.P o.type (ev σ.tm (bif x then a else b))))
    | .v (.one (.bool x)) => some (putD σ o.dst (typD E.P o.type (ev σ.tm (bif x then a else b))))
    | _ => none
  | _ => bif (!r.draw || fitsB E r i o (opK E (ev σ.tm) o)) && (!makes o || isDead σ.hp id) && wOk E.P (r.fps i) (ev σ.tm) σ.hp o (opK E (ev σ.tm) o) then ((opK E (ev σ.tm) o).sem σ.hp id).map fun p => { putD σ o.dst p.1 with hp := p.2 } else none
/-- an operation's turn -/
def stepO (E : Env U) (r : Rg) (i id : Nat) (o : Oper) (σ : St U) : Option (St U) := match o.guard with
  | none => doS E r i id o σ
  | some (j, want) => match (r.ops[j]?).bind (·.dst) with
    | none => some (putD σ o.dst (.v (.one .skp)))
    | some t => match getA σ.tm t with
      | some (.v (.one (.kb b))) => bif b == want then doS E r i id o σ else some (putD σ o.dst (.v (.one .skp)))
      | some (.v (.one (.bool b))) => bif b == want then doS E r i id o σ else some (putD σ o.dst (.v (.one .skp)))
      | some (.v (.one .skp)) => some (putD σ o.dst (.v (.one .skp)))
      | _ => none
structure Tg where
  i : Nat
  id : Nat
  o : Oper
def tags : List Oper → Nat → Nat → List Tg
  | [], _, _ => []
  | o :: l, i, id => ⟨i, id, o⟩ :: tags l (i + 1) (bif makes o then id + 1 else id)
def steps (E : Env U) (r : Rg) : List Tg → St U → Option (St U)
  | [], σ => some σ
  | x :: l, σ => (stepO E r x.i x.id x.o σ).bind (steps E r l)

def KnOk (kn : List (Nat × Bool)) (σ : St U) : Prop := ∀ t b, getA kn t = some b → getA σ.tm t = some (.v (.one (.bool b)))
theorem KnOk.put {kn : List (Nat × Bool)} {σ : St U} (h : KnOk kn σ) {dst : Option Nat} (hd : knows kn dst = false) (x : D U) (hp : List (Blk U)) : KnOk kn { putD σ dst x with hp } := by
  intro t b ht
  cases dst with
  | none => exact h t b ht
  | some d =>
    have hne : d ≠ t := by
      rintro rfl
      simp [knows, ht] at hd
    show getA (putA σ.tm d x) t = _
    rw [getA_put_other _ _ _ _ hne]
    exact h t b ht
theorem KnOk.cons {kn : List (Nat × Bool)} {σ : St U} (h : KnOk kn σ) {t : Nat} {b : Bool} (ht : getA σ.tm t = some (.v (.one (.bool b)))) : KnOk ((t, b) :: kn) σ := by
  intro t' b' h'
  simp only [getA, cond_eq_ite] at h'
  split at h'
  · rename_i e
    injection h' with h'
    subst h'
    rw [← Nat.eq_of_beq_eq_true e]
    exact ht
  · exact h t' b' h'
theorem knows_cons {kn : List (Nat × Bool)} {dst : Option Nat} (hd : knows kn dst = false) {t : Nat} {b : Bool} (ht : dst ≠ some t) : knows ((t, b) :: kn) dst = false := by
  cases dst with
  | none => rfl
  | some d =>
    have hne : ¬ t = d := fun e => ht (by rw [e])
    simp only [knows, getA, cond_eq_ite]
    rw [if_neg (fun e => hne (Nat.eq_of_beq_eq_true e))]
    exact hd
theorem putD_hp (σ : St U) (d : Option Nat) (x : D U) : (putD σ d x).hp = σ.hp := by cases d <;> rfl
theorem putD_self (σ : St U) (d : Option Nat) (x : D U) : ({ putD σ d x with hp := σ.hp } : St U) = putD σ d x := by cases d <;> rfl
theorem doK_run (σ : St U) (o : Oper) (id : Nat) (k : K U) : (doK σ o id k).run = (k.sem σ.hp id).map fun p => { putD σ o.dst p.1 with hp := p.2 } := by
  cases k with
  | pur t =>
    simp only [doK, K.sem, Tree.run_map, Option.map_map]
    congr 1
    funext d
    exact (putD_self σ _ _).symm
  | alo t mk =>
    simp only [doK, K.sem, Tree.run_map, Option.map_map]
    rfl
  | lod b f =>
    simp only [doK, K.sem]
    cases nth σ.hp b with
    | none => rfl
    | some blk =>
      cases blk with
      | dead => rfl
      | _ =>
        simp only [Tree.run_map, Option.map_map]
        congr 1
        funext d
        exact (putD_self σ _ _).symm
  | wri f =>
    simp only [doK, K.sem, Tree.run_map]
theorem doOp_run {r : Rg} {i id : Nat} {o : Oper} {kn : List (Nat × Bool)} {σ σ' : St U} (hk : KnOk kn σ) (h : (doOp E r i id o kn σ).run = some σ') : doS E r i id o σ = some σ' := by
  unfold doOp at h
  unfold doS
  split at h
  · rename_i c a b ho
    simp only [ho]
    split at h
    · rename_i hc
      have : ev σ.tm c = .v (.one (.bool true)) := by
        cases c <;> first | (cases hc; done) | skip
        rename_i t
        simp only [ev, hk t true hc]
      rw [this]
      exact h
    · rename_i hc
      have : ev σ.tm c = .v (.one (.bool false)) := by
        cases c <;> first | (cases hc; done) | skip
        rename_i t
        simp only [ev, hk t false hc]
      rw [this]
      exact h
    · split at h
      · rename_i hc; rw [hc]; exact h
      · rename_i hc; rw [hc]; exact h
      · rename_i x hc
        rw [hc]
        cases x
        · exact h
        · exact h
      · cases h
  · rename_i hno
    simp only [cond_eq_ite] at h
    split at h
    · rename_i hf
      split
      · rename_i ho; exact absurd ho (hno _ _ _)
      · rw [cond_eq_ite, if_pos hf, ← doK_run]
        exact h
    · cases h
theorem doS_put {r : Rg} {i id : Nat} {o : Oper} {σ σ' : St U} (h : doS E r i id o σ = some σ') : ∃ d hp, σ' = { putD σ o.dst d with hp } := by
  unfold doS at h
  split at h
  · split at h
    · injection h with h; exact ⟨_, σ.hp, by rw [putD_self]; exact h.symm⟩
    · injection h with h; exact ⟨_, σ.hp, by rw [putD_self]; exact h.symm⟩
    · cases h
  · rw [cond_eq_ite] at h
    split at h
    · obtain ⟨p, _, rfl⟩ := Option.map_eq_some_iff.1 h
      exact ⟨_, _, rfl⟩
    · cases h
theorem runOps_run {r : Rg} : ∀ (l : List Oper) (i id : Nat) (kn : List (Nat × Bool)) (σ σ' : St U), KnOk kn σ → (runOps E r l i id kn σ).run = some σ' → steps E r (tags l i id) σ = some σ'
  | [], i, id, kn, σ, σ', _, h => h
  | o :: l, i, id, kn, σ, σ', hk, h => by
    simp only [runOps, cond_eq_ite] at h
    split at h
    · cases h
    rename_i hkn
    rw [Bool.not_eq_true] at hkn
    have yes : ∀ kn', KnOk kn' σ → knows kn' o.dst = false → ((doOp E r i id o kn' σ).bind (fun σ => runOps E r l (i + 1) (if makes o = true then id + 1 else id) kn' σ)).run = some σ' → (doS E r i id o σ).bind (steps E r (tags l (i + 1) (if makes o = true then id + 1 else id))) = some σ' := by
      intro kn' hk' hn' h'
      rw [Tree.run_bind] at h'
      obtain ⟨σ1, h1, h2⟩ := Option.bind_eq_some_iff.1 h'
      have h3 := doOp_run hk' h1
      rw [h3]
      obtain ⟨d, hp, rfl⟩ := doS_put h3
      exact runOps_run l _ _ kn' _ σ' (hk'.put hn' d hp) h2
    have no : ∀ kn', KnOk kn' σ → knows kn' o.dst = false → (runOps E r l (i + 1) (if makes o = true then id + 1 else id) kn' (putD σ o.dst (.v (.one .skp)))).run = some σ' → steps E r (tags l (i + 1) (if makes o = true then id + 1 else id)) (putD σ o.dst (.v (.one .skp))) = some σ' := by
      intro kn' hk' hn' h'
      have := hk'.put hn' (.v (.one .skp)) σ.hp
      rw [putD_self] at this
      exact runOps_run l _ _ kn' _ σ' this h'
    simp only [tags, steps, stepO, cond_eq_ite]
    split at h
    · rename_i hg
      rw [hg]
      exact yes kn hk hkn h
    · rename_i j want hg
      rw [hg]
      simp only []
      split at h
      · rename_i hj
        rw [hj]
        exact no kn hk hkn h
      · rename_i t hj
        rw [hj]
        simp only []
        split at h
        · rename_i b hb
          rw [hk t b hb]
          simp only []
          split at h
          · rename_i hw; rw [if_pos hw]; exact yes kn hk hkn h
          · rename_i hw; rw [if_neg hw]; exact no kn hk hkn h
        · split at h
          · rename_i b hb
            rw [hb]
            simp only []
            split at h
            · rename_i hw; rw [if_pos hw]; exact yes kn hk hkn h
            · rename_i hw; rw [if_neg hw]; exact no kn hk hkn h
          · rename_i hnone b hb
            rw [hb]
            split at h
            · cases h
            · rename_i hdk
              have hdt : o.dst ≠ some t := by
                intro e
                apply hdk
                simp [knows, e, getA]
              cases b <;> cases want <;> simp only [Tree.run, cond_eq_ite, if_true, if_false, Bool.false_eq_true] at h ⊢
              · exact yes _ (hk.cons hb) (knows_cons hkn hdt) h
              · exact no _ (hk.cons hb) (knows_cons hkn hdt) h
              · exact no _ (hk.cons hb) (knows_cons hkn hdt) h
              · exact yes _ (hk.cons hb) (knows_cons hkn hdt) h
          · rename_i hb
            rw [hb]
            exact no kn hk hkn h
          · cases h
end
end Go.Ab
