/- MemoryRanges: plain. -/
import Derived.Test.YtnhhimlienefkaaAbPure08b
set_option linter.unusedSimpArgs false
namespace Go.Proofs.Ytnhhimlienefkaa
open Go Go.Ab
theorem storeM_len (m : List Int) (a : Int) (s : List UInt8) : (storeM m a s).1.length ≤ m.length := by
  unfold storeM
  split
  · exact Nat.le_of_eq (storeL_len _ _ _)
  · simp
theorem moveM_len (m : List Int) (to from_ n : Int) : (moveM m to from_ n).1.length ≤ m.length := by
  unfold moveM
  split
  · exact Nat.le_of_eq (storeL_len _ _ _)
  · simp
theorem pf_law08_MemoryRanges (x : (List Int) × (List UInt8) × Span × Unit) (h : Glaw08_MemoryRanges x) : law08_MemoryRanges none x.1 x.2.1 x.2.2.1 = some true := by
  obtain ⟨m, s, ⟨t, f, n⟩, u⟩ := x
  obtain ⟨r, hr⟩ := small_some m []
  simp only [law08_MemoryRanges, Tlaw08_MemoryRanges, Tree.run, hr, Option.bind_some]
  cases r with
  | false => rfl
  | true =>
    obtain ⟨h1, h2, h3⟩ := small_def m [] true hr rfl
    have hw : Words m := ⟨by omega, h3.2.1⟩
    have hl := storeM_len m t s
    have hl2 := moveM_len m t f n
    simp only [Bytes_def m f n hw.1, ref_Bytes_def m f n hw.1, Store_def m t s hw, ref_Store_def m t s hw, Move_def m t f n hw, ref_Move_def m t f n hw, Option.bind_some, Same_def _ (storeM m t s).1 (show (storeM m t s).1.length ≤ 9223372036854775807 by omega), Same_def _ (moveM m t f n).1 (show (moveM m t f n).1.length ≤ 9223372036854775807 by omega), decide_true, Bool.not_true, Bool.false_eq_true, if_false, if_true, alive_true]
    split <;> rfl
end Go.Proofs.Ytnhhimlienefkaa
