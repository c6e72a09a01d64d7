/- Loops as limits of their rounds. -/
import Derived.Test.YtjhibcebipjbcaaAbCodec
set_option linter.unusedSimpArgs false
namespace Go.Ab
variable {U : Nat → Type} {α β : Type}
/-- so many rounds -/
def iterN (f : α → Option (α ⊕ β)) : Nat → α → Option β
  | 0, _ => none
  | k + 1, a => match f a with
    | some (.inl a') => iterN f k a'
    | some (.inr b) => some b
    | none => none
theorem iterN_mono (f : α → Option (α ⊕ β)) : ∀ (k j : Nat) (a : α) (b : β), iterN f k a = some b → iterN f (k + j) a = some b
  | 0, _, _, _, h => by cases h
  | k + 1, j, a, b, h => by
    rw [show k + 1 + j = (k + j) + 1 by omega]
    simp only [iterN] at h ⊢
    split at h
    · exact iterN_mono f k j _ b h
    · exact h
    · cases h
theorem iterN_uniq {f : α → Option (α ⊕ β)} {k j : Nat} {a : α} {b c : β} (h : iterN f k a = some b) (h' : iterN f j a = some c) : b = c := by
  have h1 := iterN_mono f k j a b h
  have h2 := iterN_mono f j k a c h'
  rw [Nat.add_comm] at h2
  exact Option.some.inj (h1.symm.trans h2)
open Classical in
/-- What a loop comes to. -/
noncomputable def lim (f : α → Option (α ⊕ β)) (a : α) : Option β := if h : ∃ b, ∃ k, iterN f k a = some b then some (Classical.choose h) else none
theorem lim_some {f : α → Option (α ⊕ β)} {a : α} {b : β} : lim f a = some b ↔ ∃ k, iterN f k a = some b := by
  unfold lim
  constructor
  · intro h
    split at h
    · rename_i hex
      injection h with h
      subst h
      exact Classical.choose_spec hex
    · cases h
  · rintro ⟨k, hk⟩
    have hex : ∃ b, ∃ k, iterN f k a = some b := ⟨b, k, hk⟩
    rw [dif_pos hex]
    obtain ⟨j, hj⟩ := Classical.choose_spec hex
    rw [iterN_uniq hj hk]
theorem lim_next {f : α → Option (α ⊕ β)} {a a' : α} (h : f a = some (.inl a')) : lim f a = lim f a' := by
  apply Option.ext
  intro b
  rw [lim_some, lim_some]
  constructor
  · rintro ⟨k, hk⟩
    cases k with
    | zero => cases hk
    | succ k => simp only [iterN, h] at hk; exact ⟨k, hk⟩
  · rintro ⟨k, hk⟩
    exact ⟨k + 1, by simp only [iterN, h]; exact hk⟩
theorem lim_done {f : α → Option (α ⊕ β)} {a : α} {b : β} (h : f a = some (.inr b)) : lim f a = some b := lim_some.2 ⟨1, by simp only [iterN, h]⟩
theorem lim_unfold (f : α → Option (α ⊕ β)) (a : α) : lim f a = (f a).bind fun | .inl a' => lim f a' | .inr b => some b := by
  cases h : f a with
  | none =>
    simp only [Option.bind_none]
    cases hl : lim f a with
    | none => rfl
    | some b =>
      obtain ⟨k, hk⟩ := lim_some.1 hl
      cases k with
      | zero => cases hk
      | succ k => simp only [iterN, h] at hk; cases hk
  | some x =>
    cases x with
    | inl a' => exact lim_next h
    | inr b => exact lim_done h
/-- less is told: what the one comes to, the other does -/
def Le {γ : Type} (a b : Option γ) : Prop := ∀ v, a = some v → b = some v
theorem Le.rfl {γ : Type} {a : Option γ} : Le a a := fun _ h => h
def TLe {γ : Type} (a b : Tree γ) : Prop := Le a.run b.run
theorem TLe.rfl {γ : Type} {a : Tree γ} : TLe a a := fun _ h => h
theorem TLe.ite {γ : Type} {c : Bool} {t t' e e' : Tree γ} (h : TLe t t') (k : TLe e e') : TLe (.ite c t e) (.ite c t' e') := by
  intro v hv
  cases c with
  | true => exact h v hv
  | false => exact k v hv
theorem TLe.opt {γ δ : Type} {o o' : Option δ} {f g : δ → Tree γ} (h : Le o o') (k : ∀ x, TLe (f x) (g x)) : TLe (.opt δ o f) (.opt δ o' g) := by
  intro v hv
  simp only [Tree.run] at hv ⊢
  obtain ⟨x, hx, hv⟩ := Option.bind_eq_some_iff.1 hv
  rw [h x hx]
  exact k x v hv
/-- a loop as a limit, or within so many rounds -/
noncomputable def limQ (q : Option Nat) (f : α → Option (α ⊕ β)) (a : α) : Option β := match q with
  | none => lim f a
  | some k => iterN f k a
theorem limQ_le {k : Nat} {f g : α → Option (α ⊕ β)} (h : ∀ s, Le (f s) (g s)) (a : α) : Le (limQ (some k) f a) (limQ none g a) := by
  intro v hv
  refine lim_some.2 ⟨k, ?_⟩
  have hv : iterN f k a = some v := hv
  induction k generalizing a with
  | zero => cases hv
  | succ k ih =>
    simp only [iterN] at hv ⊢
    cases hf : f a with
    | none => rw [hf] at hv; cases hv
    | some x =>
      rw [hf] at hv
      rw [h a x hf]
      cases x with
      | inl a' => exact ih a' hv hv
      | inr b => exact hv
/-- a round's end, as states -/
def sumE (enc : α → St U) (outS : β → Ex × St U) : α ⊕ β → St U ⊕ (Ex × St U)
  | .inl a => .inl (enc a)
  | .inr b => .inr (outS b)
/-- a loop's spec is reached -/
theorem loop_ok {E : Env U} {h : Hd} {c : Code} {i : Nat} {enc : α → St U} {out : β → Tree (Ex × St U)} {outS : β → Ex × St U} {step : α → Tree (α ⊕ β)} (ho : ∀ b, (out b).run = some (outS b))
    (hr : ∀ a, round E h c i (enc a) = (step a).map (sumE enc outS)) {a : α} {b : β} {p : Ex × St U} (hl : lim (fun a => (step a).run) a = some b) (hp : (out b).run = some p) :
    ∃ k, loopRun E h c i k (enc a) = some p := by
  obtain ⟨k, hk⟩ := lim_some.1 hl
  clear hl
  refine ⟨k, ?_⟩
  induction k generalizing a with
  | zero => cases hk
  | succ k ih =>
    simp only [iterN] at hk
    simp only [loopRun]
    rw [hr a, Tree.run_map]
    cases hs : (step a).run with
    | none => rw [hs] at hk; cases hk
    | some x =>
      rw [hs] at hk
      cases x with
      | inl a' =>
        simp only [Option.map_some, sumE]
        exact ih hk
      | inr b' =>
        simp only [Option.some.injEq] at hk
        subst hk
        rw [ho] at hp
        simpa [sumE] using hp
end Go.Ab
