/- TapeTicks: plain. -/
import Derived.Test.YtjhibcebipjbcaaAbPure17d
set_option linter.unusedSimpArgs false
namespace Go.Proofs.Ytjhibcebipjbcaa
open Go Go.Ab
/-- a valid unit and memory, small -/
def Sm (t : Tape) (s : Store) : Prop := s.mem.length ≤ 2048 ∧ s.bad.length ≤ 2048 ∧ RtT t ∧ Rt s.mem s.bad
theorem small_def (t : Tape) (s : Store) : ∃ r, law17_small none t s = some r ∧ (r = true → Sm t s) := by
  simp only [law17_small, Tlaw17_small, Tree.run, decide_eq_true_eq]
  by_cases h1 : (s.mem.length : Int) ≤ 2048
  · by_cases h2 : (s.bad.length : Int) ≤ 2048
    · by_cases h3 : (t.records.length : Int) ≤ 64
      · simp only [h1, h2, h3, if_true, ref_RightT_def t (by omega), Option.bind_some, ref_Right_def s.mem s.bad (by omega) (by omega)]
        by_cases h4 : RtT t
        · by_cases h5 : Rt s.mem s.bad
          · exact ⟨true, by simp [h4, h5], fun _ => ⟨by omega, by omega, h4, h5⟩⟩
          · exact ⟨false, by simp [h4, h5], fun h => by cases h⟩
        · exact ⟨false, by simp [h4], fun h => by cases h⟩
      · exact ⟨false, by simp [h1, h2, h3], fun h => by cases h⟩
    · exact ⟨false, by simp [h1, h2], fun h => by cases h⟩
  · exact ⟨false, by simp [h1], fun h => by cases h⟩
theorem evens_of {m bad : List Int} (hb : bad.length ≤ 2048) (hm : m.length ≤ 2048) (h : Bads m.length bad) : Evens bad := by
  refine ⟨by omega, fun y hy => ?_⟩
  obtain ⟨i, hi, he⟩ := List.mem_iff_getElem.1 hy
  obtain ⟨h1, h2, h3, _⟩ := h i hi
  rw [he] at h1 h2 h3
  omega
theorem fit_of {t : Tape} {s : Store} (h : Sm t s) : Fit t s.mem s.bad := by
  obtain ⟨h1, h2, h3, h4⟩ := h
  exact ⟨⟨h3.1, h3.2.2.1⟩, h3.2.1, h3.2.2.2.2.1, h3.2.2.2.2.2.1, ⟨by omega, h4.2.1⟩, evens_of h2 h1 h4.2.2⟩
theorem keepW_len (a n : Int) (l : List Int) : (keepW a n l).length ≤ l.length := List.length_filter_le _ _
theorem addT_len (t : Tape) (r : List UInt8) (h : t.records.length ≤ 64) : (addT t r).records.length ≤ 65 := by
  unfold addT
  split
  · dsimp only; omega
  · dsimp only
    rw [List.length_append, List.length_take, List.length_cons, List.length_nil]; omega
theorem passT_records (t : Tape) : (passT t).records = t.records := by unfold passT; split <;> rfl
theorem backT_records (t : Tape) : (backT t).records = t.records := by unfold backT; split <;> rfl
theorem tickM_len (t : Tape) (m bad : List Int) (h : t.records.length ≤ 64) : (tickM t m bad).1.records.length ≤ 65 ∧ (tickM t m bad).2.1.length ≤ m.length ∧ (tickM t m bad).2.2.length ≤ bad.length := by
  have h65 : t.records.length ≤ 65 := by omega
  unfold tickM
  repeat' split
  · exact ⟨h65, Nat.le_refl _, Nat.le_refl _⟩
  · exact ⟨h65, Nat.le_refl _, Nat.le_refl _⟩
  · unfold fetchM
    split
    · exact ⟨by rw [passT_records]; exact h65, Nat.le_refl _, Nat.le_refl _⟩
    · split
      · exact ⟨by rw [passT_records]; exact h65, by rw [storeL_len]; exact Nat.le_refl _, keepW_len _ _ _⟩
      · exact ⟨by rw [passT_records]; exact h65, Nat.le_refl _, Nat.le_refl _⟩
  · refine ⟨?_, Nat.le_refl _, Nat.le_refl _⟩
    unfold storeT
    split
    · exact addT_len _ _ h
    · exact h65
  · exact ⟨by rw [passT_records]; exact h65, Nat.le_refl _, Nat.le_refl _⟩
  · exact ⟨by rw [backT_records]; exact h65, Nat.le_refl _, Nat.le_refl _⟩
  · exact ⟨h65, Nat.le_refl _, Nat.le_refl _⟩
  · exact ⟨addT_len _ _ h, Nat.le_refl _, Nat.le_refl _⟩
  · exact ⟨h65, Nat.le_refl _, Nat.le_refl _⟩
theorem pf_law17_TapeTicks (x : Tape × Store × Unit) (h : Glaw17_TapeTicks x) : law17_TapeTicks none x.1 x.2.1 = some true := by
  obtain ⟨t, s, u⟩ := x
  obtain ⟨r, hr, hs⟩ := small_def t s
  simp only [law17_TapeTicks, Tlaw17_TapeTicks, Tree.run, hr, Option.bind_some]
  cases r with
  | false => rfl
  | true =>
    have h' := hs rfl
    have hf := fit_of h'
    have hl := h'.2.2.1.2.2.2.2.2.2.1
    have hlen := tickM_len t s.mem s.bad h'.2.2.1.1
    have hm := h'.1
    have hb := h'.2.1
    simp only [Tick_def t s.mem s.bad hf hl, ref_Tick_def t s.mem s.bad hf hl, Option.bind_some, Same_self _ (show (tickM t s.mem s.bad).1.records.length ≤ 9223372036854775807 by omega), Same_def _ (tickM t s.mem s.bad).2.1 (show (tickM t s.mem s.bad).2.1.length ≤ 9223372036854775807 by omega), Same_def _ (tickM t s.mem s.bad).2.2 (show (tickM t s.mem s.bad).2.2.length ≤ 9223372036854775807 by omega), decide_true, Bool.not_true, Bool.false_eq_true, if_false, if_true, alive_true]
end Go.Proofs.Ytjhibcebipjbcaa
