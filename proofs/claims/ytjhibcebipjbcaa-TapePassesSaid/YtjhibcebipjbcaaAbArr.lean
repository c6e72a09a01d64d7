/- Arrays among the arguments of a law. -/
import Derived.Test.YtjhibcebipjbcaaAbRow
set_option linter.unusedSimpArgs false
namespace Go.Ab
variable {U : Nat → Type} {α β : Type}
section
variable {P : Program} {cd : Cd U}
/-- An array, or one element, told as a list of elements. -/
def ReadsA (P : Program) (cd : Cd U) (t te m : Nat) (G : U te → Prop) : Prop :=
  ∀ (H : Type) (enc : TypeId × Value → H) (W : World) (fuel : Nat) (cs : List Value) (d : DataW H) (ps : List MemPlace), DataW.trod enc P W 0 (fun _ => true) true fuel t cs = some (d, ps) →
    ∃ l : List (U te), l.length = m ∧ (∀ x ∈ l, G x) ∧ RL P cd M0 (FW W) W (l.flatMap (cd.enc te)) cs
theorem ra_one {te : Nat} {c : Cdc U (U te)} {G : U te → Prop} (h : Reads P cd te c G) (hc : ∀ x, cd.enc te x = c.enc x) : ReadsA P cd te te 1 G := by
  intro H enc W fuel cs d ps hh
  obtain ⟨x, g, r⟩ := h H enc W fuel cs d ps hh
  refine ⟨[x], rfl, fun y hy => ?_, ?_⟩
  · simp at hy; subst hy; exact g
  · simpa [hc] using r
theorem ra_arr {t e te n m : Nat} {G : U te → Prop} (ht : P.underlying t = some (.array n e)) (hn : P.cellsOf t = n * P.cellsOf e) (h : ReadsA P cd e te m G) : ReadsA P cd t te (n * m) G := by
  intro H enc W fuel cs d ps hh
  cases fuel with
  | zero => cases hh
  | succ fuel =>
    have key : cs.length = P.cellsOf t ∧ ∃ r, (List.range n).mapM (fun i => DataW.trod enc P W 0 (fun _ => true) true fuel e ((cs.drop (i * P.cellsOf e)).take (P.cellsOf e))) = some r := by
      simp only [DataW.trod, ht] at hh
      split at hh
      · rename_i hl
        refine ⟨hl, ?_⟩
        obtain ⟨r, hr, _⟩ := Option.map_eq_some_iff.1 hh
        exact ⟨r, hr⟩
      · cases hh
    obtain ⟨hl, r, hr⟩ := key
    have main : ∀ k, k ≤ n → ∃ l : List (U te), l.length = k * m ∧ (∀ x ∈ l, G x) ∧ RL P cd M0 (FW W) W (l.flatMap (cd.enc te)) (cs.take (k * P.cellsOf e)) := by
      intro k
      induction k with
      | zero => intro _; exact ⟨[], by simp, by simp, by simpa using RL.nil⟩
      | succ k ih =>
        intro hk
        obtain ⟨l, h1, h2, h3⟩ := ih (by omega)
        obtain ⟨y, hy⟩ := mapM_range hr k (by omega)
        obtain ⟨l', k1, k2, k3⟩ := h H enc W fuel _ y.1 y.2 hy
        refine ⟨l ++ l', by simp [h1, k1, Nat.add_mul], fun x hx => ?_, ?_⟩
        · rcases List.mem_append.1 hx with hx | hx
          · exact h2 x hx
          · exact k2 x hx
        · have e1 : cs.take ((k + 1) * P.cellsOf e) = cs.take (k * P.cellsOf e) ++ (cs.drop (k * P.cellsOf e)).take (P.cellsOf e) := by
            rw [Nat.add_mul, Nat.one_mul, List.take_add]
          rw [e1, List.flatMap_append]
          exact h3.append k3
    obtain ⟨l, h1, h2, h3⟩ := main n (Nat.le_refl n)
    refine ⟨l, h1, h2, ?_⟩
    rw [List.take_of_length_le (by omega)] at h3
    exact h3
theorem rd_arr (ok : CdOk P cd) {t te m : Nat} {G : U te → Prop} (h : ReadsA P cd t te m G) : Reads P cd t (cArr te m) fun l => l.length = m ∧ ∀ x ∈ l, G x := by
  intro H enc W fuel cs d ps hh
  obtain ⟨l, h1, h2, h3⟩ := h H enc W fuel cs d ps hh
  refine ⟨l, ⟨h1, h2⟩, ?_⟩
  have e1 : leaves cd (l.flatMap (cd.enc te)) = l.flatMap (cd.enc te) := leaves_plain fun c hc a b k e => by
    obtain ⟨x, _, hx⟩ := List.mem_flatMap.1 hc
    subst e
    have := ok.plain te x _ hx
    simp [plainC] at this
  have e2 : leaves cd ((cArr te m : Cdc U (List (U te))).enc l) = l.flatMap (cd.enc te) := by simp [cArr, leaves, leaf]
  refine ⟨fun t n k hk => ?_, ?_, fun j c v hc hv => ?_⟩
  · simp only [cArr, List.mem_singleton] at hk
    injection hk with a b c
    subst a; subst b; have c := eq_of_heq c; subst c
    exact h1
  · rw [e2]; have := h3.2.1; rw [e1] at this; exact this
  · rw [e2] at hc; exact h3.2.2 j c v (by rw [e1]; exact hc) hv
end
end Go.Ab
