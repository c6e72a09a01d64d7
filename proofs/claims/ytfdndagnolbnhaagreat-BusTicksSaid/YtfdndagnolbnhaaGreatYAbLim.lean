/- Rules for loops as limits of their rounds. -/
import Derived.Test.YtfdndagnolbnhaaGreatYAbBus18y
import Derived.Test.YtfdndagnolbnhaaGreatYAbMore
section
set_option linter.unusedSimpArgs false
namespace Go.Ab
variable {U : Nat → Type} {α β : Type}
section
variable {P : Program} {cd : Cd U}
def ReadsA (P : Program) (cd : Cd U) (t te m : Nat) (G : U te → Prop) : Prop :=
  ∀ (H : Type) (enc : TypeId × Value → H) (W : World) (fuel : Nat) (cs : List Value) (d : DataW H) (ps : List MemPlace), DataW.trod enc P W 0 (fun _ => true) true fuel t cs = some (d, ps) →
    ∃ l : List (U te), l.length = m ∧ (∀ x ∈ l, G x) ∧ RL P cd M0 (FW W) W (l.flatMap (cd.enc te)) cs
theorem z1u8 {te : Nat} {c : Cdc U (U te)} {G : U te → Prop} (h : Reads P cd te c G) (hc : ∀ x, cd.enc te x = c.enc x) : ReadsA P cd te te 1 G := by
  intro H enc W fuel cs d ps hh
  obtain ⟨x, g, r⟩ := h H enc W fuel cs d ps hh
  refine ⟨[x], rfl, fun y hy => ?_, ?_⟩
  · simp at hy; subst hy; exact g
  · simpa [hc] using r
theorem z1iq {t e te n m : Nat} {G : U te → Prop} (ht : P.underlying t = some (.array n e)) (hn : P.cellsOf t = n * P.cellsOf e) (h : ReadsA P cd e te m G) : ReadsA P cd t te (n * m) G := by
  intro H enc W fuel cs d ps hh
  cases fuel with
  | zero => cases hh
  | succ fuel =>
    have key : cs.length = P.cellsOf t ∧ ∃ r, (List.range n).mapM (fun i => DataW.trod enc P W 0 (fun _ => true) true fuel e ((cs.drop (i * P.cellsOf e)).take (P.cellsOf e))) = some r := by
      simp only [DataW.trod, ht] at hh
      split at hh
      · rename_i hl
        refine ⟨hl, ?_⟩
        obtain ⟨r, hr, _⟩ := Option.map_eq_some_iff.1 hh
        exact ⟨r, hr⟩
      · cases hh
    obtain ⟨hl, r, hr⟩ := key
    have main : ∀ k, k ≤ n → ∃ l : List (U te), l.length = k * m ∧ (∀ x ∈ l, G x) ∧ RL P cd M0 (FW W) W (l.flatMap (cd.enc te)) (cs.take (k * P.cellsOf e)) := by
      intro k
      induction k with
      | zero => intro _; exact ⟨[], by simp, by simp, by simpa using RL.nil⟩
      | succ k ih =>
        intro hk
        obtain ⟨l, h1, h2, h3⟩ := ih (by omega)
        obtain ⟨y, hy⟩ := z10u hr k (by omega)
        obtain ⟨l', k1, k2, k3⟩ := h H enc W fuel _ y.1 y.2 hy
        refine ⟨l ++ l', by simp [h1, k1, Nat.add_mul], fun x hx => ?_, ?_⟩
        · rcases List.mem_append.1 hx with hx | hx
          · exact h2 x hx
          · exact k2 x hx
        · have e1 : cs.take ((k + 1) * P.cellsOf e) = cs.take (k * P.cellsOf e) ++ (cs.drop (k * P.cellsOf e)).take (P.cellsOf e) := by
            rw [Nat.add_mul, Nat.one_mul, List.take_add]
          rw [e1, List.flatMap_append]
          exact h3.append k3
    obtain ⟨l, h1, h2, h3⟩ := main n (Nat.le_refl n)
    refine ⟨l, h1, h2, ?_⟩
    rw [List.take_of_length_le (by omega)] at h3
    exact h3
theorem z1u9 (ok : CdOk P cd) {t te m : Nat} {G : U te → Prop} (h : ReadsA P cd t te m G) : Reads P cd t (cArr te m) fun l => l.length = m ∧ ∀ x ∈ l, G x := by
  intro H enc W fuel cs d ps hh
  obtain ⟨l, h1, h2, h3⟩ := h H enc W fuel cs d ps hh
  refine ⟨l, ⟨h1, h2⟩, ?_⟩
  have e1 : leaves cd (l.flatMap (cd.enc te)) = l.flatMap (cd.enc te) := zjf fun c hc a b k e => by
    obtain ⟨x, _, hx⟩ := List.mem_flatMap.1 hc
    subst e
    have := ok.plain te x _ hx
    simp [plainC] at this
  have e2 : leaves cd ((cArr te m : Cdc U (List (U te))).enc l) = l.flatMap (cd.enc te) := by simp [cArr, leaves, leaf]
  refine ⟨fun t n k hk => ?_, ?_, fun j c v hc hv => ?_⟩
  · simp only [cArr, List.mem_singleton] at hk
    injection hk with a b c
    subst a; subst b; have c := eq_of_heq c; subst c
    exact h1
  · rw [e2]; have := h3.2.1; rw [e1] at this; exact this
  · rw [e2] at hc; exact h3.2.2 j c v (by rw [e1]; exact hc) hv
end
end Go.Ab
end
section
set_option linter.unusedSimpArgs false
namespace Go.Ab
variable {α β : Type}
theorem zlc {f : α → Option (α ⊕ β)} (I : α → Prop) (Q : β → Prop) (μ : α → Nat) (h : ∀ a, I a → (∃ b, f a = some (.inr b) ∧ Q b) ∨ (∃ a', f a = some (.inl a') ∧ I a' ∧ μ a' < μ a)) (a : α) (ha : I a) : ∃ b, lim f a = some b ∧ Q b := by
  generalize hn : μ a = n
  induction n using Nat.strongRecOn generalizing a with
  | ind n ih =>
    rcases h a ha with ⟨b, hb, hq⟩ | ⟨a', ha', hi, hlt⟩
    · exact ⟨b, z2q hb, hq⟩
    · obtain ⟨b, hb, hq⟩ := ih (μ a') (by omega) a' hi rfl
      exact ⟨b, by rw [zqy ha']; exact hb, hq⟩
theorem z4i {f : α → Option (α ⊕ β)} (s : Nat → α) (n : Nat) (h : ∀ i, i < n → f (s i) = some (.inl (s (i + 1)))) : ∀ i, i ≤ n → lim f (s i) = lim f (s n) := by
  intro i hi
  have key : ∀ k, k ≤ n → lim f (s (n - k)) = lim f (s n) := by
    intro k
    induction k with
    | zero => intro _; rfl
    | succ k ih =>
      intro hk
      rw [zqy (h (n - (k + 1)) (by omega)), show n - (k + 1) + 1 = n - k by omega]
      exact ih (by omega)
  have := key (n - i) (by omega)
  rwa [show n - (n - i) = i by omega] at this
theorem z2r {f : α → Option (α ⊕ β)} (s : Nat → α) (n : Nat) (p : Nat → Prop) (bad : Nat → β) (e : β) (h : ∀ i, i < n → p i → f (s i) = some (.inl (s (i + 1)))) (hb : ∀ i, i < n → ¬ p i → f (s i) = some (.inr (bad i))) (he : f (s n) = some (.inr e)) :
    ((∀ i, i < n → p i) ∧ lim f (s 0) = some e) ∨ ∃ i, i < n ∧ ¬ p i ∧ lim f (s 0) = some (bad i) := by
  have key : ∀ k, k ≤ n → ((∀ i, n - k ≤ i → i < n → p i) ∧ lim f (s (n - k)) = some e) ∨ ∃ i, i < n ∧ ¬ p i ∧ lim f (s (n - k)) = some (bad i) := by
    intro k
    induction k with
    | zero => intro _; exact .inl ⟨fun i h1 h2 => by omega, z2q he⟩
    | succ k ih =>
      intro hk
      by_cases hp : p (n - (k + 1))
      · have hn := zqy (h (n - (k + 1)) (by omega) hp)
        rw [show n - (k + 1) + 1 = n - k by omega] at hn
        rcases ih (by omega) with ⟨h1, h2⟩ | ⟨i, h1, h2, h3⟩
        · refine .inl ⟨fun i hi hlt => ?_, by rw [hn]; exact h2⟩
          rcases Nat.lt_or_ge i (n - k) with h' | h'
          · rw [show i = n - (k + 1) by omega]; exact hp
          · exact h1 i h' hlt
        · exact .inr ⟨i, h1, h2, by rw [hn]; exact h3⟩
      · exact .inr ⟨n - (k + 1), by omega, hp, z2q (hb _ (by omega) hp)⟩
  rcases key n (Nat.le_refl n) with ⟨h1, h2⟩ | h
  · rw [Nat.sub_self] at h2; exact .inl ⟨fun i hi => h1 i (by omega) hi, h2⟩
  · rw [Nat.sub_self] at h; exact .inr h
end Go.Ab
end
