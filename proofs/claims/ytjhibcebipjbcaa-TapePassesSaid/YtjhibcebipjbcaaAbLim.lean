/- Rules for loops as limits of their rounds. -/
import Derived.Test.YtjhibcebipjbcaaAbLoop
set_option linter.unusedSimpArgs false
namespace Go.Ab
variable {α β : Type}
/-- A loop with an invariant and a measure ends, and its end is as said. -/
theorem lim_rule {f : α → Option (α ⊕ β)} (I : α → Prop) (Q : β → Prop) (μ : α → Nat) (h : ∀ a, I a → (∃ b, f a = some (.inr b) ∧ Q b) ∨ (∃ a', f a = some (.inl a') ∧ I a' ∧ μ a' < μ a)) (a : α) (ha : I a) : ∃ b, lim f a = some b ∧ Q b := by
  generalize hn : μ a = n
  induction n using Nat.strongRecOn generalizing a with
  | ind n ih =>
    rcases h a ha with ⟨b, hb, hq⟩ | ⟨a', ha', hi, hlt⟩
    · exact ⟨b, lim_done hb, hq⟩
    · obtain ⟨b, hb, hq⟩ := ih (μ a') (by omega) a' hi rfl
      exact ⟨b, by rw [lim_next ha']; exact hb, hq⟩
/-- A loop that counts: from a state for each number, so many rounds on. -/
theorem lim_count {f : α → Option (α ⊕ β)} (s : Nat → α) (n : Nat) (h : ∀ i, i < n → f (s i) = some (.inl (s (i + 1)))) : ∀ i, i ≤ n → lim f (s i) = lim f (s n) := by
  intro i hi
  have key : ∀ k, k ≤ n → lim f (s (n - k)) = lim f (s n) := by
    intro k
    induction k with
    | zero => intro _; rfl
    | succ k ih =>
      intro hk
      rw [lim_next (h (n - (k + 1)) (by omega)), show n - (k + 1) + 1 = n - k by omega]
      exact ih (by omega)
  have := key (n - i) (by omega)
  rwa [show n - (n - i) = i by omega] at this
/-- A loop that looks through numbers for one that is not good. -/
theorem lim_scan {f : α → Option (α ⊕ β)} (s : Nat → α) (n : Nat) (p : Nat → Prop) (bad : Nat → β) (e : β) (h : ∀ i, i < n → p i → f (s i) = some (.inl (s (i + 1)))) (hb : ∀ i, i < n → ¬ p i → f (s i) = some (.inr (bad i))) (he : f (s n) = some (.inr e)) :
    ((∀ i, i < n → p i) ∧ lim f (s 0) = some e) ∨ ∃ i, i < n ∧ ¬ p i ∧ lim f (s 0) = some (bad i) := by
  have key : ∀ k, k ≤ n → ((∀ i, n - k ≤ i → i < n → p i) ∧ lim f (s (n - k)) = some e) ∨ ∃ i, i < n ∧ ¬ p i ∧ lim f (s (n - k)) = some (bad i) := by
    intro k
    induction k with
    | zero => intro _; exact .inl ⟨fun i h1 h2 => by omega, lim_done he⟩
    | succ k ih =>
      intro hk
      by_cases hp : p (n - (k + 1))
      · have hn := lim_next (h (n - (k + 1)) (by omega) hp)
        rw [show n - (k + 1) + 1 = n - k by omega] at hn
        rcases ih (by omega) with ⟨h1, h2⟩ | ⟨i, h1, h2, h3⟩
        · refine .inl ⟨fun i hi hlt => ?_, by rw [hn]; exact h2⟩
          rcases Nat.lt_or_ge i (n - k) with h' | h'
          · rw [show i = n - (k + 1) by omega]; exact hp
          · exact h1 i h' hlt
        · exact .inr ⟨i, h1, h2, by rw [hn]; exact h3⟩
      · exact .inr ⟨n - (k + 1), by omega, hp, lim_done (hb _ (by omega) hp)⟩
  rcases key n (Nat.le_refl n) with ⟨h1, h2⟩ | h
  · rw [Nat.sub_self] at h2; exact .inl ⟨fun i hi => h1 i (by omega) hi, h2⟩
  · rw [Nat.sub_self] at h; exact .inr h
/-- Two loops whose rounds go together. -/
theorem lim_rel {α' β' : Type} {f : α → Option (α ⊕ β)} {g : α' → Option (α' ⊕ β')} (R : α → α' → Prop) (Q : β → β' → Prop) (h : ∀ a a', R a a' → (∃ b b', f a = some (.inr b) ∧ g a' = some (.inr b') ∧ Q b b') ∨ (∃ c c', f a = some (.inl c) ∧ g a' = some (.inl c') ∧ R c c') ∨ f a = none) {a : α} {a' : α'} (ha : R a a') {b : β} (hb : lim f a = some b) : ∃ b', lim g a' = some b' ∧ Q b b' := by
  obtain ⟨k, hk⟩ := lim_some.1 hb
  clear hb
  induction k generalizing a a' with
  | zero => cases hk
  | succ k ih =>
    simp only [iterN] at hk
    rcases h a a' ha with ⟨x, x', h1, h2, hq⟩ | ⟨c, c', h1, h2, hr⟩ | h1
    · rw [h1] at hk
      simp only [Option.some.injEq] at hk
      subst hk
      exact ⟨x', lim_done h2, hq⟩
    · rw [h1] at hk
      obtain ⟨b', e1, e2⟩ := ih hr hk
      exact ⟨b', by rw [lim_next h2]; exact e1, e2⟩
    · rw [h1] at hk; cases hk
end Go.Ab
