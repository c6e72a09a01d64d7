/- States of the abstract machine and of memory. -/
import Derived.Test.YtjhibcebipjbcaaAbRel
import Derived.Laws.CopyRow
import Derived.Laws.IdiomCopy
import Derived.Laws.NewFold
namespace Go.Ab
variable {U : Nat → Type}

theorem nth_eq {α : Type} : ∀ (l : List α) (i : Nat), nth l i = l[i]?
  | [], i => by simp [nth]
  | x :: l, 0 => rfl
  | x :: l, i + 1 => by
    simp only [nth, cond_eq_ite]
    rw [if_neg (by simp), nth_eq l]
    simp
theorem setN_eq {α : Type} : ∀ (l : List α) (i : Nat) (y : α), setN l i y = l.set i y
  | [], i, y => by simp [setN]
  | x :: l, 0, y => rfl
  | x :: l, i + 1, y => by
    simp only [setN, cond_eq_ite]
    rw [if_neg (by simp), setN_eq l]
    simp
theorem getA_put_same {α : Type} (l : List (Nat × α)) (i : Nat) (y : α) : getA (putA l i y) i = some y := by
  induction l with
  | nil => simp [putA, getA]
  | cons p l ih =>
    obtain ⟨k, x⟩ := p
    simp only [putA, cond_eq_ite]
    split
    · rename_i h; simp only [getA, h, cond_true]
    · split
      · simp [getA]
      · rename_i h _
        simp only [getA, cond_eq_ite, if_neg h, ih]
theorem getA_put_other {α : Type} (l : List (Nat × α)) (i j : Nat) (y : α) (hne : i ≠ j) : getA (putA l i y) j = getA l j := by
  have hb : Nat.beq i j = false := by rw [Bool.eq_false_iff]; intro h; exact hne (Nat.eq_of_beq_eq_true h)
  induction l with
  | nil => simp [putA, getA, hb]
  | cons p l ih =>
    obtain ⟨k, x⟩ := p
    simp only [putA, cond_eq_ite]
    split
    · rename_i h
      have : k = i := by simpa using h
      subst this
      simp only [getA, hb]; rfl
    · split
      · simp only [getA, hb]; rfl
      · simp only [getA, ih]

section
variable {P : Program} {cd : Cd U} {M M' : Mp} {Fz Fz' : Nat → Prop} {w w' : World}

def RV (P : Program) (cd : Cd U) (M : Mp) (Fz : Nat → Prop) (w : World) : V U → Value → Prop
  | .one c, v => R1 P cd M Fz w c v
  | .agg cs, v => ∃ a, v = .agg a ∧ RL P cd M Fz w cs a.toList
def RVs (P : Program) (cd : Cd U) (M : Mp) (Fz : Nat → Prop) (w : World) (xs : List (V U)) (vs : List Value) : Prop :=
  vs.length = xs.length ∧ ∀ (j : Nat) x v, xs[j]? = some x → vs[j]? = some v → RV P cd M Fz w x v
def RD (P : Program) (cd : Cd U) (M : Mp) (Fz : Nat → Prop) (w : World) : D U → Value → Prop
  | .v x, v => RV P cd M Fz w x v
  | .tup xs, v => ∃ a : Array Value, v = .tuple a ∧ RVs P cd M Fz w xs a.toList
def Tm (P : Program) (cd : Cd U) (M : Mp) (Fz : Nat → Prop) (w : World) (tm : List (Nat × D U)) (a : Array Value) : Prop :=
  ∀ t d, getA tm t = some d → ∃ v, a[t]? = some v ∧ RD P cd M Fz w d v

theorem RV.mono {x : V U} {v : Value} (h : RV P cd M Fz w x v) (he : Ext M M') (hf : Frz Fz w Fz' w') : RV P cd M' Fz' w' x v := by
  cases x with
  | one c => exact R1.mono h he hf
  | agg cs => obtain ⟨a, e, r⟩ := h; exact ⟨a, e, r.mono he hf⟩
theorem RVs.mono {x : List (V U)} {v : List Value} (h : RVs P cd M Fz w x v) (he : Ext M M') (hf : Frz Fz w Fz' w') : RVs P cd M' Fz' w' x v :=
  ⟨h.1, fun j x v h1 h2 => (h.2 j x v h1 h2).mono he hf⟩
theorem RD.mono {x : D U} {v : Value} (h : RD P cd M Fz w x v) (he : Ext M M') (hf : Frz Fz w Fz' w') : RD P cd M' Fz' w' x v := by
  cases x with
  | v x => exact RV.mono h he hf
  | tup xs => obtain ⟨a, e, r⟩ := h; exact ⟨a, e, r.mono he hf⟩
theorem Tm.mono {tm : List (Nat × D U)} {a : Array Value} (h : Tm P cd M Fz w tm a) (he : Ext M M') (hf : Frz Fz w Fz' w') : Tm P cd M' Fz' w' tm a :=
  fun t d hd => let ⟨v, h1, h2⟩ := h t d hd; ⟨v, h1, h2.mono he hf⟩
theorem Tm.put {tm : List (Nat × D U)} {a : Array Value} (h : Tm P cd M Fz w tm a) {t : Nat} (ht : t < a.size) {d : D U} {v : Value} (hd : RD P cd M Fz w d v) :
    Tm P cd M Fz w (putA tm t d) (a.setIfInBounds t v) := by
  intro k d' hk
  by_cases e : t = k
  · subst e
    rw [getA_put_same] at hk
    injection hk with hk
    subst hk
    exact ⟨v, by simp [ht], hd⟩
  · rw [getA_put_other _ _ _ _ e] at hk
    obtain ⟨u, h1, h2⟩ := h k d' hk
    exact ⟨u, by rw [Array.getElem?_setIfInBounds_ne e]; exact h1, h2⟩

theorem RV.cells {x : V U} {v : Value} (h : RV P cd M Fz w x v) (hs : ∀ c, x = .one c → v.oneCell' = true) : RL P cd M Fz w x.cells v.cells.toList := by
  cases x with
  | agg cs => obtain ⟨a, rfl, r⟩ := h; exact r
  | one c =>
    have h1 := hs c rfl
    have : v.cells = #[v] := by cases v <;> first | rfl | simp [Value.oneCell'] at h1
    rw [this]
    exact RL.of1 h

/-! ### memory -/
/-- How a row lies. -/
structure RowOk (P : Program) (cd : Cd U) (M : Mp) (Fz : Nat → Prop) (w : World) (t : Nat) (l : List (U t)) (cap k : Nat) (cur : Array Value) : Prop where
  heap : w.heap[k]? = some (.cells cur t (0, 0))
  le : l.length ≤ cap
  max : cap ≤ maxLen
  size : cur.size = cap * P.cellsOf t
  cells : ∀ (j : Nat) c, (l.flatMap (cd.enc t))[j]? = some c → ∃ v, cur[j]? = some v ∧ R1 P cd M Fz w c v
def RowPos (P : Program) (cd : Cd U) (M : Mp) (Fz : Nat → Prop) (w : World) (t : Nat) (l : List (U t)) (cap : Nat) : Option Nat → Prop
  | none => l = []
  | some k => ∃ cur, RowOk P cd M Fz w t l cap k cur
def RB (P : Program) (cd : Cd U) (M : Mp) (Fz : Nat → Prop) (w : World) (b : Nat) : Blk U → Prop
  | .dead => M b = none
  | .cells cs => ∃ k arr e, M b = some (.cells k) ∧ w.heap[k]? = some (.cells arr e (0, 0)) ∧ RL P cd M Fz w cs arr.toList
  | .row t ver l => ∃ pos cap, M b = some (.row pos t ver l.length cap) ∧ RowPos P cd M Fz w t l cap pos
structure HR (P : Program) (cd : Cd U) (M : Mp) (Fz : Nat → Prop) (hp : List (Blk U)) (w : World) : Prop where
  blk : ∀ (b : Nat) x, hp[b]? = some x → RB P cd M Fz w b x
  out : ∀ b, hp.length ≤ b → M b = none
  inj : ∀ b b' i i' k, M b = some i → M b' = some i' → i.blk = some k → i'.blk = some k → b = b'
  apart : ∀ b i k, M b = some i → i.blk = some k → ¬ Fz k
  frz : ∀ k, Fz k → k < w.heap.size
  lt : ∀ b i k, M b = some i → i.blk = some k → k < w.heap.size

def upd (M : Mp) (b : Nat) (i : Option Inf) : Mp := fun x => if x = b then i else M x
theorem upd_same (M : Mp) (b : Nat) (i : Option Inf) : upd M b i b = i := by simp [upd]
theorem upd_other (M : Mp) {b x : Nat} (i : Option Inf) (h : x ≠ b) : upd M b i x = M x := by simp [upd, h]

theorem ext_upd {b : Nat} {i' : Inf} (h : ∀ i, M b = some i → Inf.Le i i') : Ext M (upd M b (some i')) := by
  intro x i hx
  by_cases e : x = b
  · subst e; exact ⟨i', upd_same .., h i hx⟩
  · exact ⟨i, by rw [upd_other _ _ e]; exact hx, .refl i⟩

/-- One block is changed, or new. -/
theorem HR.update {hp : List (Blk U)} (h : HR P cd M Fz hp w) (b : Nat) (x' : Blk U) (i' : Inf) (hb : b < hp.length) (hle : ∀ i, M b = some i → Inf.Le i i')
    (hsz : w.heap.size ≤ w'.heap.size) (hold : ∀ k, k < w.heap.size → (∀ i, M b = some i → i.blk ≠ some k) → w'.heap[k]? = w.heap[k]?)
    (hnew : ∀ k, i'.blk = some k → k < w'.heap.size ∧ ((∃ i, M b = some i ∧ i.blk = some k) ∨ w.heap.size ≤ k))
    (hx : RB P cd (upd M b (some i')) Fz w' b x') : HR P cd (upd M b (some i')) Fz (hp.set b x') w' ∧ Ext M (upd M b (some i')) ∧ Frz Fz w Fz w' := by
  have he : Ext M (upd M b (some i')) := ext_upd hle
  have hf : Frz Fz w Fz w' := fun k hk => ⟨hk, hold k (h.frz k hk) fun i hi e => h.apart b i k hi e hk⟩
  refine ⟨⟨?_, ?_, ?_, ?_, ?_, ?_⟩, he, hf⟩
  · intro c y hc
    rw [List.getElem?_set, show (if b < hp.length then some x' else none) = some x' from if_pos hb] at hc
    split at hc
    · rename_i e
      subst e
      injection hc with hc
      subst hc
      exact hx
    · rename_i e
      have hm : upd M b (some i') c = M c := upd_other _ _ (Ne.symm e)
      have hr := h.blk c y hc
      cases y with
      | dead => exact hm.trans hr
      | cells cs =>
        obtain ⟨k, arr, el, h1, h2, h3⟩ := hr
        refine ⟨k, arr, el, hm.trans h1, ?_, h3.mono he hf⟩
        rw [hold k (h.lt c _ k h1 rfl) fun i hi e' => e (h.inj b c i _ k hi h1 e' rfl)]
        exact h2
      | row t ver l =>
        obtain ⟨pos, cap, h1, h2⟩ := hr
        refine ⟨pos, cap, hm.trans h1, ?_⟩
        cases pos with
        | none => exact h2
        | some k =>
          obtain ⟨cur, r⟩ := h2
          refine ⟨cur, ⟨?_, r.le, r.max, r.size, fun j c' hj => ?_⟩⟩
          · rw [hold k (h.lt c _ k h1 rfl) fun i hi e' => e (h.inj b c i _ k hi h1 e' rfl)]
            exact r.heap
          · obtain ⟨v, h3, h4⟩ := r.cells j c' hj
            exact ⟨v, h3, h4.mono he hf⟩
  · intro c hc
    simp only [List.length_set] at hc
    rw [upd_other _ _ (by omega)]
    exact h.out c hc
  · intro c c' i j k h1 h2 h3 h4
    by_cases e : c = b
    · by_cases e' : c' = b
      · rw [e, e']
      · subst e
        rw [upd_same] at h1
        injection h1 with h1
        subst h1
        rw [upd_other _ _ e'] at h2
        rcases (hnew k h3).2 with ⟨i0, hi0, hk0⟩ | hk
        · exact h.inj _ _ _ _ k hi0 h2 hk0 h4
        · have := h.lt c' j k h2 h4; omega
    · by_cases e' : c' = b
      · subst e'
        rw [upd_same] at h2
        injection h2 with h2
        subst h2
        rw [upd_other _ _ e] at h1
        rcases (hnew k h4).2 with ⟨i0, hi0, hk0⟩ | hk
        · exact h.inj _ _ _ _ k h1 hi0 h3 hk0
        · have := h.lt c i k h1 h3; omega
      · rw [upd_other _ _ e] at h1
        rw [upd_other _ _ e'] at h2
        exact h.inj _ _ _ _ k h1 h2 h3 h4
  · intro c i k h1 h2 h3
    by_cases e : c = b
    · subst e
      rw [upd_same] at h1
      injection h1 with h1
      subst h1
      rcases (hnew k h2).2 with ⟨i0, hi0, hk0⟩ | hk
      · exact h.apart _ _ k hi0 hk0 h3
      · have := h.frz k h3; omega
    · rw [upd_other _ _ e] at h1
      exact h.apart c i k h1 h2 h3
  · intro k hk
    have := h.frz k hk
    omega
  · intro c i k h1 h2
    by_cases e : c = b
    · subst e
      rw [upd_same] at h1
      injection h1 with h1
      subst h1
      exact (hnew k h2).1
    · rw [upd_other _ _ e] at h1
      have := h.lt c i k h1 h2
      omega

/-- What has become of memory since w0: nothing that stood then is changed but blocks of A. -/
structure Keep (A : Nat → Prop) (w0 w : World) : Prop where
  os : w.os = w0.os
  tape : w.tape = w0.tape
  output : w.output = w0.output
  size : w0.heap.size ≤ w.heap.size
  old : ∀ k, k < w0.heap.size → ¬ A k → w.heap[k]? = w0.heap[k]?
theorem Keep.refl (A : Nat → Prop) (w : World) : Keep A w w := ⟨rfl, rfl, rfl, Nat.le_refl _, fun _ _ _ => rfl⟩
theorem Keep.trans {A B : Nat → Prop} {w0 w1 w2 : World} (h : Keep A w0 w1) (k : Keep B w1 w2) (hB : ∀ b, b < w0.heap.size → B b → A b) : Keep A w0 w2 :=
  ⟨k.os.trans h.os, k.tape.trans h.tape, k.output.trans h.output, Nat.le_trans h.size k.size,
   fun b hb hA => (k.old b (Nat.lt_of_lt_of_le hb h.size) fun hb' => hA (hB b hb hb')).trans (h.old b hb hA)⟩
def Held (M : Mp) (k : Nat) : Prop := ∃ b i, M b = some i ∧ i.blk = some k

/-- A state of a function's run that began in w0, where the blocks of A were its own and those of F0 taken for good. -/
structure RS (P : Program) (cd : Cd U) (nt : Nat) (A F0 : Nat → Prop) (w0 : World) (I0 : Mp) (σ : St U) (a : Act) (w : World) (M : Mp) (Fz : Nat → Prop) : Prop where
  hr : HR P cd M Fz σ.hp w
  tm : Tm P cd M Fz w σ.tm a.tmps
  size : a.tmps.size = nt
  defers : a.defers = []
  keep : Keep A w0 w
  own : ∀ k, Held M k → A k ∨ w0.heap.size ≤ k
  f0 : ∀ k, F0 k → Fz k
  f1 : ∀ k, Fz k → F0 k ∨ A k ∨ w0.heap.size ≤ k
  ext : Ext I0 M
def RSt (P : Program) (cd : Cd U) (nt : Nat) (A F0 : Nat → Prop) (w0 : World) (I0 : Mp) (σ : St U) (a : Act) (w : World) : Prop := ∃ M Fz, RS P cd nt A F0 w0 I0 σ a w M Fz

end
end Go.Ab
