/- MemoryAccess: plain. -/
import Derived.Test.YtnhhimlienefkaaAbPure08
set_option linter.unusedSimpArgs false
namespace Go.Proofs.Ytnhhimlienefkaa
open Go Go.Ab
theorem alive_true : law08_alive none = some true := lelaw08_alive 300 true (by kernel_rfl)
theorem small_def (m bad : List Int) (r : Bool) (h : law08_small none m bad = some r) : r = true → m.length ≤ 2048 ∧ bad.length ≤ 2048 ∧ Rt m bad := by
  intro hr
  subst hr
  simp only [law08_small, Tlaw08_small, Tree.run, decide_eq_true_eq] at h
  split at h
  · split at h
    · rw [ref_Right_def m bad (by omega) (by omega)] at h
      simp at h
      exact ⟨by omega, by omega, h⟩
    · simp at h
  · simp at h
theorem small_some (m bad : List Int) : ∃ r, law08_small none m bad = some r := by
  simp only [law08_small, Tlaw08_small, Tree.run, decide_eq_true_eq]
  split
  · split
    · rw [ref_Right_def m bad (by omega) (by omega)]
      exact ⟨_, rfl⟩
    · exact ⟨_, rfl⟩
  · exact ⟨_, rfl⟩
theorem writeM_len (m bad : List Int) (a : Int) (b : Bool) (v : Int) : (writeM m bad a b v).1.length ≤ m.length ∧ (writeM m bad a b v).2.1.length ≤ bad.length := by
  unfold writeM
  split
  · exact ⟨by simp, List.length_filter_le _ _⟩
  · simp
theorem pf_law08_MemoryAccess (x : (List Int) × (List Int) × Access × Unit) (h : Glaw08_MemoryAccess x) : law08_MemoryAccess none x.1 x.2.1 x.2.2.1 = some true := by
  obtain ⟨m, bad, ⟨a, b, v⟩, u⟩ := x
  obtain ⟨r, hr⟩ := small_some m bad
  simp only [law08_MemoryAccess, Tlaw08_MemoryAccess, Tree.run, hr, Option.bind_some]
  cases r with
  | false => rfl
  | true =>
    obtain ⟨h1, h2, h3⟩ := small_def m bad true hr rfl
    have hl := writeM_len m bad a b v
    simp only [Read_def m bad a b (by omega) (by omega), ref_Read_def m bad a b (by omega) (by omega), Write_def m bad a b v ⟨by omega, h3.2.1⟩ (by omega), ref_Write_def m bad a b v ⟨by omega, h3.2.1⟩ (by omega), Option.bind_some, Same_def _ (writeM m bad a b v).1 (show (writeM m bad a b v).1.length ≤ 9223372036854775807 by omega), Same_def _ (writeM m bad a b v).2.1 (show (writeM m bad a b v).2.1.length ≤ 9223372036854775807 by omega), decide_true, Bool.not_true, Bool.false_eq_true, if_false, if_true, alive_true]
end Go.Proofs.Ytnhhimlienefkaa
