/- Chapter 17: registers. -/
import Derived.Test.YtjhibcebipjbcaaAbPure17
set_option linter.unusedSimpArgs false
set_option linter.unusedVariables false
namespace Go.Proofs.Ytjhibcebipjbcaa
open Go Go.Ab
def en (v : Int) : Bool := !decide (IntKind.wrap .i64 ((BitVec.ofInt 64 v &&& BitVec.ofInt 64 (64 : Int)).toNat : Int) = 0)
def cmdT (t : Tape) (v : Int) : Tape := if t.ready = true ∧ ¬ v % 2 = 0 then (if v / 2 % 8 = 0 ∨ v / 2 % 8 = 7 then { t with enable := en v, error := false, mark := false, end_ := false, command := 0 } else { t with enable := en v, ready := false, error := false, mark := false, end_ := false, command := v / 2 % 8, left := 16 }) else { t with enable := en v }
theorem shr1 (v : Int) : v.fdiv (2 ^ (min ((1 : Int)).toNat 64)) = v / 2 := by
  rw [show (2 : Int) ^ (min ((1 : Int)).toNat 64) = 2 by decide, fdiv_pos _ (by omega)]
theorem command_def (t : Tape) (v : Int) : tape_command t v = some (cmdT t v) := by
  obtain ⟨a, b, c, d, e, f, g, h, i, j, k⟩ := t
  simp only [tape_command, Ttape_command, Tree.run, cmdT, shr1, and7, and1, show (0 : Int) ≤ 1 by omega, decide_true, if_true, Bool.not_true, Bool.false_eq_true, if_false, decide_eq_true_eq]
  cases d
  · simp [en]
  · by_cases h1 : v % 2 = 0
    · simp [h1, en]
    · simp only [h1, Bool.not_true, Bool.false_eq_true, if_false, not_false_eq_true, and_self, if_true]
      by_cases h2 : 6 < v / 2 % 8
      · have h3 : v / 2 % 8 = 0 ∨ v / 2 % 8 = 7 := by omega
        simp [h2, h3, en]
      · by_cases h4 : v / 2 % 8 = 0
        · simp [h4, en]
        · have h3 : ¬ (v / 2 % 8 = 0 ∨ v / 2 % 8 = 7) := by omega
          simp [h2, h3, h4, en]
          omega
def writeT (t : Tape) (r v : Int) : Tape × Bool := if r = 0 then (cmdT t v, true) else if r = 2 then (if t.ready then { t with count := v % 65536 } else t, true) else if r = 4 then (if t.ready then { t with addr := v % 65536 } else t, true) else (t, false)
theorem tape_Write_def (t : Tape) (r v : Int) : tape_Write t r v = some (writeT t r v) := by
  simp only [tape_Write, Ttape_Write, Tree.run, command_def, Option.bind_some, and65535, writeT, decide_eq_true_eq]
  by_cases h0 : r = 0
  · simp [h0]
  · by_cases h2 : r = 2
    · cases h : t.ready <;> simp [h2]
    · by_cases h4 : r = 4
      · cases h : t.ready <;> simp [h4]
      · simp [h0, h2, h4]
theorem start_def (t : Tape) (c : Int) : ref17_start t c = some (if c = 0 ∨ c = 7 then { t with error := false, mark := false, end_ := false, command := 0 } else { t with ready := false, error := false, mark := false, end_ := false, command := c, left := 16 }) := by
  obtain ⟨a, b, c', d, e, f, g, h, i, j, k⟩ := t
  simp only [ref17_start, Tref17_start, Tree.run]
  by_cases h7 : c = 7
  · simp [h7]
  · by_cases h0 : c = 0
    · simp [h0]
    · simp [h7, h0]
theorem ref_WriteT_def (t : Tape) (r v : Int) : ref17_Write t r v = some (writeT t r v) := by
  simp only [ref17_Write, Tref17_Write, Tree.run, start_def, Option.bind_some, and65535, and1, and7, shr1, writeT, cmdT, decide_eq_true_eq]
  by_cases h0 : r = 0
  · cases h : t.ready
    · simp [h0, en]
    · by_cases h1 : v % 2 = 0
      · simp [h0, h1, en]
      · by_cases h3 : v / 2 % 8 = 0 ∨ v / 2 % 8 = 7
        · simp [h0, h1, h3, en]
        · simp [h0, h1, h3, en]
  · by_cases h2 : r = 2
    · cases h : t.ready <;> simp [h2]
    · by_cases h4 : r = 4
      · cases h : t.ready <;> simp [h4]
      · simp [h0, h2, h4]
theorem Read_some (t : Tape) (r : Int) : ∃ x, ref17_Read t r = some x := by
  simp only [ref17_Read, Tref17_Read, Tree.run, bit_def, Option.bind_some]
  repeat' split
  all_goals exact ⟨_, rfl⟩
theorem or_bit (a : Int) (b : Bool) (n : Nat) (hn : n ≤ 15) (h0 : 0 ≤ a) (h1 : a ≤ 65535) (ha : a < 2 ^ n) : IntKind.wrap .i64 ((BitVec.ofInt 64 a ||| BitVec.ofInt 64 (if b then ((2 : Int) ^ n) else 0)).toNat : Int) = a + (if b then (2 : Int) ^ n else 0) := by
  have hp : (2 : Int) ^ n ≤ 32768 := by
    have : (2 : Nat) ^ n ≤ 2 ^ 15 := Nat.pow_le_pow_right (by omega) hn
    have e : ((2 : Int) ^ n) = ((2 ^ n : Nat) : Int) := by simp
    rw [e]; omega
  have hpos : 0 < (2 : Int) ^ n := by
    have : 0 < (2 : Nat) ^ n := Nat.pow_pos (by omega)
    have e : ((2 : Int) ^ n) = ((2 ^ n : Nat) : Int) := by simp
    rw [e]; omega
  cases b
  · exact or_add' n a 0 h0 ha (by omega) (by simp) (by omega)
  · exact or_add' n a _ h0 ha (by simp; omega) (by simp) (by simp; omega)
theorem Read_eq (t : Tape) (r : Int) (h : RtT t) : tape_Read t r = ref17_Read t r := by
  obtain ⟨-, -, -, hc, -⟩ := h
  simp only [tape_Read, Ttape_Read, ref17_Read, Tref17_Read, Tree.run, bit_eq, bit_def, Option.bind_some, decide_eq_true_eq]
  by_cases h0 : r = 0
  · simp only [h0, if_true, show (0 : Int) ≤ 1 by omega]
    have e1 : IntKind.wrap .i64 (t.command * 2 ^ (min ((1 : Int)).toNat 64)) = 2 * t.command := by
      rw [show (2 : Int) ^ (min ((1 : Int)).toNat 64) = 2 by decide, wrap_id (by omega) (by omega)]; omega
    rw [e1]
    have b6 : (if t.enable = true then (64 : Int) else 0) ≤ 64 ∧ 0 ≤ (if t.enable = true then (64 : Int) else 0) := by split <;> omega
    have b7 : (if t.ready = true then (128 : Int) else 0) ≤ 128 ∧ 0 ≤ (if t.ready = true then (128 : Int) else 0) := by split <;> omega
    have b8 : (if t.mark = true then (256 : Int) else 0) ≤ 256 ∧ 0 ≤ (if t.mark = true then (256 : Int) else 0) := by split <;> omega
    have b9 : (if t.end_ = true then (512 : Int) else 0) ≤ 512 ∧ 0 ≤ (if t.end_ = true then (512 : Int) else 0) := by split <;> omega
    have b10 : (if t.error = true then (32768 : Int) else 0) ≤ 32768 ∧ 0 ≤ (if t.error = true then (32768 : Int) else 0) := by split <;> omega
    have o6 := or_bit (2 * t.command) t.enable 6 (by omega) (by omega) (by omega) (show 2 * t.command < 64 by omega)
    rw [show (2 : Int) ^ 6 = 64 by decide] at o6
    rw [o6]
    have o7 := or_bit (2 * t.command + (if t.enable = true then (64 : Int) else 0)) t.ready 7 (by omega) (by omega) (by omega) (show _ < (128 : Int) by omega)
    rw [show (2 : Int) ^ 7 = 128 by decide] at o7
    rw [o7]
    have o8 := or_bit (2 * t.command + (if t.enable = true then (64 : Int) else 0) + (if t.ready = true then (128 : Int) else 0)) t.mark 8 (by omega) (by omega) (by omega) (show _ < (256 : Int) by omega)
    rw [show (2 : Int) ^ 8 = 256 by decide] at o8
    rw [o8]
    have o9 := or_bit (2 * t.command + (if t.enable = true then (64 : Int) else 0) + (if t.ready = true then (128 : Int) else 0) + (if t.mark = true then (256 : Int) else 0)) t.end_ 9 (by omega) (by omega) (by omega) (show _ < (512 : Int) by omega)
    rw [show (2 : Int) ^ 9 = 512 by decide] at o9
    rw [o9]
    have o10 := or_bit (2 * t.command + (if t.enable = true then (64 : Int) else 0) + (if t.ready = true then (128 : Int) else 0) + (if t.mark = true then (256 : Int) else 0) + (if t.end_ = true then (512 : Int) else 0)) t.error 15 (by omega) (by omega) (by omega) (show _ < (32768 : Int) by omega)
    rw [show (2 : Int) ^ 15 = 32768 by decide] at o10
    rw [o10, wrap_id (n := 2 * t.command) (by omega) (by omega)]
    generalize (if t.enable = true then (64 : Int) else 0) = x6 at *
    generalize (if t.ready = true then (128 : Int) else 0) = x7 at *
    generalize (if t.mark = true then (256 : Int) else 0) = x8 at *
    generalize (if t.end_ = true then (512 : Int) else 0) = x9 at *
    generalize (if t.error = true then (32768 : Int) else 0) = x10 at *
    rw [wrap_id (n := 2 * t.command + x6) (by omega) (by omega), wrap_id (n := 2 * t.command + x6 + x7) (by omega) (by omega), wrap_id (n := 2 * t.command + x6 + x7 + x8) (by omega) (by omega), wrap_id (n := 2 * t.command + x6 + x7 + x8 + x9) (by omega) (by omega), wrap_id (n := 2 * t.command + x6 + x7 + x8 + x9 + x10) (by omega) (by omega)]
  · simp only [h0, if_false]
theorem cmdT_records (t : Tape) (v : Int) : (cmdT t v).records = t.records := by
  unfold cmdT
  split
  · split <;> rfl
  · rfl
theorem writeT_records (t : Tape) (r v : Int) : (writeT t r v).1.records = t.records := by
  unfold writeT
  split
  · exact cmdT_records t v
  · split
    · dsimp only; split <;> rfl
    · split
      · dsimp only; split <;> rfl
      · rfl
theorem mountT_records (t : Tape) : (mountT t).records = t.records := by unfold mountT; split <;> rfl
end Go.Proofs.Ytjhibcebipjbcaa
