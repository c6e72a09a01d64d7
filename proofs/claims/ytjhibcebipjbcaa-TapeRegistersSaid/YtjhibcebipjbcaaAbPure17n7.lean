/- TapeRegisters: plain. -/
import Derived.Test.YtjhibcebipjbcaaAbPure17b
set_option linter.unusedSimpArgs false
namespace Go.Proofs.Ytjhibcebipjbcaa
open Go Go.Ab
theorem pf_law17_TapeRegisters (x : Tape × Int × Int × Unit) (h : Glaw17_TapeRegisters x) : law17_TapeRegisters none x.1 x.2.1 x.2.2.1 = some true := by
  obtain ⟨t, r, v, u⟩ := x
  simp only [law17_TapeRegisters, Tlaw17_TapeRegisters, Tree.run, decide_eq_true_eq]
  split
  · rfl
  · rename_i hl
    have hl' : t.records.length ≤ 9223372036854775807 := by omega
    rw [ref_RightT_def t hl']
    simp only [Option.bind_some]
    by_cases hR : RtT t
    · obtain ⟨x, hx⟩ := Read_some t r
      obtain ⟨l, hq, hql⟩ := Requests_some t
      have h1 : (writeT t r v).1.records.length ≤ 9223372036854775807 := by rw [writeT_records]; exact hl'
      have h2 : (acceptT t v).records.length ≤ 9223372036854775807 := hl'
      have h3 : (resetT t).records.length ≤ 9223372036854775807 := hl'
      have h4 : (mountT t).records.length ≤ 9223372036854775807 := by rw [mountT_records]; exact hl'
      simp only [hR, decide_true, Bool.not_true, Bool.false_eq_true, if_false, if_true, Read_eq t r hR, hx, tape_Write_def, ref_WriteT_def, Requests_eq, hq, Accept_def, ref_Accept_def, Reset_def, ref_Reset_def, Mount_def, ref_Mount_def, Option.bind_some, Same_self _ h1, Same_self _ h2, Same_self _ h3, Same_self _ h4, SameReq_self l (by omega), beq_self_eq_true, alive_true]
    · simp only [hR, decide_false, Bool.not_false, if_true]
end Go.Proofs.Ytjhibcebipjbcaa
