/- TapePasses: plain. -/
import Derived.Test.YtjhibcebipjbcaaAbPure17e
set_option linter.unusedSimpArgs false
set_option linter.unusedVariables false
namespace Go.Proofs.Ytjhibcebipjbcaa
open Go Go.Ab
theorem passes (l : List (List UInt8)) (i : Nat) (t : Tape) (s : Store) (hi : i ≤ l.length) (h1 : t.records = l) (h2 : t.pos = (i : Int)) (h3 : t.ready = true) (h : Sm t s) : ∃ t' s', Llaw17_TapePasses_0 none ⟨l, (i : Int), t, s⟩ = some (.inr (l, t', s')) ∧ t'.records = l ∧ t'.pos = (l.length : Int) ∧ t'.ready = true ∧ Sm t' s' := by
  obtain ⟨r, hr, t', s', e, h'⟩ := lim_rule (f := fun st => (Wlaw17_TapePasses_0 none st).run)
    (fun st => ∃ (i : Nat) (t : Tape) (s : Store), st = ⟨l, (i : Int), t, s⟩ ∧ i ≤ l.length ∧ t.records = l ∧ t.pos = (i : Int) ∧ t.ready = true ∧ Sm t s)
    (fun r => ∃ t' s', r = .inr (l, t', s') ∧ t'.records = l ∧ t'.pos = (l.length : Int) ∧ t'.ready = true ∧ Sm t' s') (fun st => l.length - st.t8.toNat)
    (by
      rintro st ⟨i, t, s, rfl, hi, h1, h2, h3, h⟩
      by_cases hlt : i < l.length
      · right
        obtain ⟨c1, c2⟩ := cmd16_def t s 3 h h3 (by omega)
        rw [tick3] at c1 c2
        have hn : ¬ (doneT t 3).pos = ((doneT t 3).records.length : Int) := by show ¬ t.pos = (t.records.length : Int); rw [h1, h2]; omega
        have hw := wrap_succ hlt (show l.length ≤ 9223372036854775807 by have := h.2.2.1.1; rw [h1] at this; omega)
        have hrec : recAt (doneT t 3) = l[i] := by
          show t.records.getD t.pos.toNat [] = l[i]
          rw [h1, h2, Int.toNat_natCast, List.getD_eq_getElem?_getD, List.getElem?_eq_getElem hlt]; rfl
        have hp : passT (doneT t 3) = { doneT t 3 with pos := ((i + 1 : Nat) : Int), mark := decide (l[i] = []) } := by
          unfold passT
          rw [if_neg hn, hrec]
          have e1 : (doneT t 3).pos + 1 = ((i + 1 : Nat) : Int) := by show t.pos + 1 = _; rw [h2]; omega
          have e2 : ((doneT t 3).mark || decide (l[i] = [])) = decide (l[i] = []) := rfl
          rw [e1, e2]
        have hlt' : (i : Int) < (l.length : Int) := by omega
        have h0 : (0 : Int) ≤ (i : Int) := by omega
        rw [hp] at c1 c2
        refine ⟨⟨l, ((i + 1 : Nat) : Int), { doneT t 3 with pos := ((i + 1 : Nat) : Int), mark := decide (l[i] = []) }, s⟩, ?_, ⟨i + 1, _, s, rfl, hlt, h1, rfl, rfl, c2⟩, ?_⟩
        · simp only [Wlaw17_TapePasses_0, Tree.run, hlt', h0, decide_true, if_true, c1, Option.bind_some, hw, Int.toNat_natCast, List.getElem?_eq_getElem hlt, Bool.not_true, Bool.false_eq_true, if_false, beq_self_eq_true, doneT]
        · dsimp only; omega
      · left
        have hlt' : ¬ (i : Int) < (l.length : Int) := by omega
        exact ⟨.inr (l, t, s), by simp only [Wlaw17_TapePasses_0, Tree.run, hlt', decide_false, Bool.false_eq_true, if_false], t, s, rfl, h1, by rw [h2]; omega, h3, h⟩)
    ⟨l, (i : Int), t, s⟩ ⟨i, t, s, rfl, hi, h1, h2, h3, h⟩
  subst e
  exact ⟨t', s', hr, h'⟩
theorem new256 : memory_New 256 = some (List.replicate 128 0, 0) := by kernel_rfl
theorem rt256 : Rt (List.replicate 128 (0 : Int)) [] := by
  refine ⟨?_, fun w hw => ?_, fun i hi => absurd hi (by simp)⟩
  · rw [List.length_replicate]; unfold Sized; omega
  · rw [List.eq_of_mem_replicate hw]; omega
theorem New_any (l : List (List UInt8)) (hl : l.length ≤ 9223372036854775807) : tape_New none l = some (newT l) := by
  by_cases h : 64 < l.length
  · have h' : 64 < (l.length : Int) := by omega
    simp only [tape_New, Ttape_New, Tree.run, newT, h, h', decide_true, if_true, blank]
  · exact New_def l (by omega)
theorem pf_law17_TapePasses (x : (List (List UInt8)) × Unit) (h : Glaw17_TapePasses x) : law17_TapePasses none x.1 = some true := by
  obtain ⟨l, u⟩ := x
  simp only [law17_TapePasses, Tlaw17_TapePasses, Tree.run]
  have hN : tape_New none l = some (newT l) := New_any l h.1.1
  simp only [hN, Option.bind_some, newT]
  by_cases h1 : 64 < l.length
  · have h1' : 64 < (l.length : Int) := by omega
    simp [h1, h1', alive_true]
  · have h1' : ¬ 64 < (l.length : Int) := by omega
    by_cases h2 : ∃ r ∈ l, 512 < r.length
    · simp [h1, h1', h2, alive_true]
    · have hs : Sm (Tape.mk l 0 false true false false false 0 0 0 0) (Store.mk (List.replicate 128 0) []) := by
        refine ⟨by simp, by simp, ⟨by dsimp only; omega, fun r hr => ?_, ⟨by dsimp only; omega, by dsimp only; omega⟩, ⟨by dsimp only; omega, by dsimp only; omega⟩, ⟨by dsimp only; omega, by dsimp only; omega⟩, ⟨by dsimp only; omega, by dsimp only; omega⟩, ⟨by dsimp only; omega, by dsimp only; omega⟩, by simp⟩, rt256⟩
        apply Classical.byContradiction
        intro hn
        exact h2 ⟨r, hr, by omega⟩
      obtain ⟨t', s', e, p1, p2, p3, p4⟩ := passes l 0 _ _ (Nat.zero_le _) rfl rfl rfl hs
      obtain ⟨c1, c2⟩ := cmd16_def t' s' 3 p4 p3 (by omega)
      rw [tick3] at c1
      have hp : passT (doneT t' 3) = { doneT t' 3 with error := true, end_ := true } := by
        unfold passT
        exact if_pos (show t'.pos = (t'.records.length : Int) by rw [p1, p2])
      rw [hp] at c1
      have e' : Llaw17_TapePasses_0 none ⟨l, (0 : Int), Tape.mk l 0 false true false false false 0 0 0 0, Store.mk (List.replicate 128 0) []⟩ = some (.inr (l, t', s')) := e
      simp only [h1, h1', h2, if_false, decide_true, Bool.not_true, Bool.false_eq_true, new256, Option.bind_some, e', Sum.isLeft_inr, Sum.getRight?_inr, c1, if_true, doneT, p2, alive_true]
end Go.Proofs.Ytjhibcebipjbcaa
