/- Chapter 9: the registers. -/
import Derived.Test.YtocjgcccbfmoeaaAbPure09
set_option linter.unusedSimpArgs false
namespace Go.Proofs.Ytocjgcccbfmoeaa
open Go Go.Ab
/-- is there a page's register at an offset -/
def isReg (o : Int) : Prop := 16 ≤ o ∧ o < 80 ∧ o % 2 = 0
instance (o : Int) : Decidable (isReg o) := by unfold isReg; infer_instance
def regOf (o : Int) : Int × Int × Bool × Bool := if isReg o then ((o - 16) / 32, (o - 16) % 32 / 4, decide ((o - 16) % 4 = 2), true) else (0, 0, false, false)
theorem tmod2 (o : Int) : o.tmod 2 = 0 ↔ o % 2 = 0 := by
  rw [Int.tmod_eq_emod]
  split
  · simp
  · rename_i h
    constructor
    · intro h'; omega
    · intro h'; exact absurd (.inr (Int.dvd_of_emod_eq_zero h')) h
theorem page_def (o : Int) : ref09_page o = some (regOf o) := by
  simp only [ref09_page, Tref09_page, Tree.run, decide_eq_true_eq, Bool.not_eq_true', decide_eq_false_iff_not, tmod2, regOf]
  by_cases h1 : o < 16
  · rw [if_pos h1, if_neg (by unfold isReg; omega)]
  rw [if_neg h1]
  by_cases h2 : 80 ≤ o
  · rw [if_pos h2, if_neg (by unfold isReg; omega)]
  rw [if_neg h2, if_neg (by omega)]
  by_cases h3 : o % 2 = 0
  · rw [if_neg (by simpa using h3), if_pos (show isReg o by unfold isReg; omega)]
    have hw : IntKind.wrap .i64 (o - 16) = o - 16 := wrap_id (by omega) (by omega)
    have hn : 0 ≤ o - 16 := by omega
    have hn2 : 0 ≤ (o - 16) % 32 := by omega
    rw [if_neg (by omega), if_neg (by omega), if_neg (by omega), if_neg (by omega)]
    simp only [hw, tdiv_nn hn, tmod_nn hn, tdiv_nn hn2]
    rw [wrap_id (by omega) (by omega), wrap_id (by omega) (by omega)]
  · rw [if_pos (by simpa using h3), if_neg (by unfold isReg; omega)]
theorem register_def (o : Int) (h0 : -9223372036854775808 ≤ o) (h9 : o ≤ 9223372036854775807) : mmu_register o = some (regOf o) := by
  simp only [mmu_register, Tmmu_register, Tree.run, decide_eq_true_eq, Bool.not_eq_true', decide_eq_false_iff_not, from_def, Option.bind_some, regOf]
  by_cases hr : 16 ≤ o ∧ o < 80
  · have hw : IntKind.wrap .i64 (o - 16) = o - 16 := wrap_id (by omega) (by omega)
    have hn : 0 ≤ o - 16 := by omega
    have hn4 : 0 ≤ (o - 16) / 4 := by omega
    simp only [hw, tmod2, tdiv_nn hn, tmod_nn hn]
    rw [if_neg (by omega), if_neg (by omega)]
    by_cases h3 : o % 2 = 0
    · rw [if_neg (by omega), if_neg (by omega), if_neg (by omega), if_neg (by omega), if_neg (by omega), if_pos (show isReg o by unfold isReg; omega)]
      rw [wrap_id (show -9223372036854775808 ≤ (o - 16) / 4 by omega) (by omega), tmod_nn hn4, wrap_id (by omega) (by omega)]
      rw [show (o - 16) / 4 % 8 = (o - 16) % 32 / 4 by omega]
    · rw [if_pos (by omega), if_neg (by unfold isReg; omega)]
  · have hb : ¬ (0 ≤ IntKind.wrap .i64 (o - 16) ∧ IntKind.wrap .i64 (o - 16) ≤ 63) := by rw [IntKind.wrap_i64]; omega
    rw [if_pos hb, if_neg (by unfold isReg; omega)]
/-- the place of a register's page -/
def kr (o : Int) : Nat := ((o - 16) / 32).toNat * 8 + ((o - 16) % 32 / 4).toNat * 1
theorem kr_eq (o : Int) : ((o - 16) / 32).toNat * 8 + ((o - 16) % 32 / 4).toNat * 1 = kr o := rfl
theorem kr_lt {o : Int} (h : isReg o) : kr o < 16 := by
  unfold isReg at h
  unfold kr
  omega
theorem bit_def (b : Bool) (n : Int) : mmu_bit b n = some (if b then n else 0) := by cases b <;> rfl
def got (u : Mmu) (o : Int) : Int × Bool := if o = 0 then (2 * u.status + (if u.on then 1 else 0), true) else if o = 2 then (u.addr, true) else if isReg o then (match u.pages[kr o]? with
  | none => (0, false)
  | some x => (if (o - 16) % 4 = 2 then x.length + 256 * x.access + (if x.written then 32768 else 0) else x.base, true)) else (0, false)
theorem reg_bounds {o : Int} (h : isReg o) : 0 ≤ (o - 16) / 32 ∧ (o - 16) / 32 < 2 ∧ 0 ≤ (o - 16) % 32 / 4 ∧ (o - 16) % 32 / 4 < 8 := by
  unfold isReg at h
  omega
theorem ref_Read_def (u : Mmu) (o : Int) (h : u.pages.length = 16) (hr : Rt u) : ref09_Read u o = some (got u o) := by
  simp only [ref09_Read, Tref09_Read, Tree.run, page_def, Option.bind_some, decide_eq_true_eq, got]
  by_cases h0 : o = 0
  · rw [if_pos h0, if_pos h0]
    obtain ⟨_, ⟨s0, s1⟩, _⟩ := hr
    cases u.on
    · simp [wrap_id (show -9223372036854775808 ≤ 2 * u.status by omega) (by omega)]
    · simp [wrap_id (show -9223372036854775808 ≤ 2 * u.status by omega) (by omega), wrap_id (show -9223372036854775808 ≤ 2 * u.status + 1 by omega) (by omega)]
  rw [if_neg h0, if_neg h0]
  by_cases h2 : o = 2
  · rw [if_pos h2, if_pos h2]
  rw [if_neg h2, if_neg h2]
  by_cases hR : isReg o
  · have hlt : kr o < u.pages.length := by have := kr_lt hR; omega
    have hg := List.getElem?_eq_getElem hlt
    have hx := hr.1 _ (List.getElem_mem hlt)
    generalize u.pages[kr o] = x at hg hx
    obtain ⟨_, ⟨l0, l1⟩, ⟨a0, a1⟩⟩ := hx
    obtain ⟨b0, b1, b2, b3⟩ := reg_bounds hR
    have w1 : IntKind.wrap .i64 (256 * x.access) = 256 * x.access := wrap_id (by omega) (by omega)
    have w2 : IntKind.wrap .i64 (x.length + 256 * x.access) = x.length + 256 * x.access := wrap_id (by omega) (by omega)
    have w3 : IntKind.wrap .i64 (x.length + 256 * x.access + 32768) = x.length + 256 * x.access + 32768 := wrap_id (by omega) (by omega)
    simp only [regOf, if_pos hR, kr_eq, hg, Option.bind_some]
    rw [if_pos b0, if_pos b1, if_pos b2, if_pos b3]
    by_cases hd : (o - 16) % 4 = 2
    · cases hw : x.written <;> simp [hd, w1, w2, w3, hw]
    · simp [hd]
  · simp [regOf, hR]
theorem mmu_Read_def (u : Mmu) (o : Int) (h : u.pages.length = 16) (hr : Rt u) (h0 : -9223372036854775808 ≤ o) (h9 : o ≤ 9223372036854775807) : mmu_Read u o = some (got u o) := by
  have e1 : (2 : Int) ^ (min ((1 : Int)).toNat 64) = 2 := rfl
  have e8 : (2 : Int) ^ (min ((8 : Int)).toNat 64) = 256 := rfl
  simp only [mmu_Read, Tmmu_Read, Tree.run, register_def o h0 h9, bit_def, Option.bind_some, decide_eq_true_eq, got, e1, e8]
  by_cases h0 : o = 0
  · rw [if_pos h0, if_pos h0, if_pos (by omega)]
    obtain ⟨_, ⟨s0, s1⟩, _⟩ := hr
    have hw : IntKind.wrap .i64 (u.status * 2) = 2 * u.status := by rw [wrap_id (by omega) (by omega)]; omega
    rw [hw, or_add' 1 _ _ (by split <;> omega) (by split <;> omega) (by omega) (by omega) (by split <;> omega), Int.add_comm]
  rw [if_neg h0, if_neg h0]
  by_cases h2 : o = 2
  · rw [if_pos h2, if_pos h2]
  rw [if_neg h2, if_neg h2]
  by_cases hR : isReg o
  · have hlt : kr o < u.pages.length := by have := kr_lt hR; omega
    have hg := List.getElem?_eq_getElem hlt
    have hx := hr.1 _ (List.getElem_mem hlt)
    generalize u.pages[kr o] = x at hg hx
    obtain ⟨_, ⟨l0, l1⟩, ⟨a0, a1⟩⟩ := hx
    obtain ⟨b0, b1, b2, b3⟩ := reg_bounds hR
    have w1 : IntKind.wrap .i64 (x.access * 256) = 256 * x.access := by rw [wrap_id (by omega) (by omega)]; omega
    have w2 : IntKind.wrap .i64 ((BitVec.ofInt 64 x.length ||| BitVec.ofInt 64 (256 * x.access)).toNat : Int) = x.length + 256 * x.access := or_add' 8 _ _ l0 (by omega) (by omega) (by omega) (by omega)
    have w3 : IntKind.wrap .i64 ((BitVec.ofInt 64 (x.length + 256 * x.access) ||| BitVec.ofInt 64 (if x.written then 32768 else 0)).toNat : Int) = x.length + 256 * x.access + (if x.written then 32768 else 0) := or_add' 15 _ _ (by omega) (by omega) (by split <;> omega) (by split <;> omega) (by split <;> omega)
    simp only [regOf, if_pos hR, kr_eq, hg, Option.bind_some, w1, w2, w3]
    rw [if_pos b0, if_pos b1, if_pos b2, if_pos b3]
    by_cases hd : (o - 16) % 4 = 2
    · simp [hd]
    · simp [hd]
  · simp [regOf, hR]
/-- the page in which a register has been written -/
def newPage (x : Page) (o v : Int) : Page := if (o - 16) % 4 = 2 then { x with length := if 128 < v % 256 then 128 else v % 256, access := if 2 < v / 256 % 4 then 2 else v / 256 % 4, written := false } else { x with base := v % 4096 }
def wrote (u : Mmu) (o v : Int) : Mmu × Bool := if o = 0 then ({ u with on := decide (v % 2 = 1), status := v / 2 % 4 }, true) else if o = 2 then (u, true) else if isReg o then (match u.pages[kr o]? with
  | none => (u, false)
  | some x => ({ u with pages := u.pages.set (kr o) (newPage x o v) }, true)) else (u, false)
theorem ref_Write_def (u : Mmu) (o v : Int) (h : u.pages.length = 16) : ref09_Write u o v = some (wrote u o v) := by
  have v0 := Int.emod_nonneg v (show (65536 : Int) ≠ 0 by omega)
  have v1 := Int.emod_lt_of_pos v (show (0 : Int) < 65536 by omega)
  have d2 : 0 ≤ v % 65536 / 2 := by omega
  have d256 : 0 ≤ v % 65536 / 256 := by omega
  simp only [ref09_Write, Tref09_Write, Tree.run, word_def, page_def, Option.bind_some, decide_eq_true_eq, wrote, tdiv_nn v0, tmod_nn v0, wrap_id (show -9223372036854775808 ≤ v % 65536 / 2 by omega) (by omega), wrap_id (show -9223372036854775808 ≤ v % 65536 / 256 by omega) (by omega), tmod_nn d2, tmod_nn d256]
  by_cases h0 : o = 0
  · rw [if_pos h0, if_pos h0, if_neg (by omega), if_neg (by omega), if_neg (by omega)]
    rw [show v % 65536 % 2 = v % 2 by omega, show v % 65536 / 2 % 4 = v / 2 % 4 by omega]
  rw [if_neg h0, if_neg h0]
  by_cases h2 : o = 2
  · rw [if_pos h2, if_pos h2]
  rw [if_neg h2, if_neg h2]
  by_cases hR : isReg o
  · have hlt : kr o < u.pages.length := by have := kr_lt hR; omega
    have hg := List.getElem?_eq_getElem hlt
    generalize u.pages[kr o] = x at hg
    obtain ⟨b0, b1, b2, b3⟩ := reg_bounds hR
    simp only [regOf, if_pos hR, kr_eq, hg, Option.bind_some]
    rw [show v % 65536 % 4096 = v % 4096 by omega, show v % 65536 % 256 = v % 256 by omega, show v % 65536 / 256 % 4 = v / 256 % 4 by omega]
    by_cases hd : (o - 16) % 4 = 2
    · simp [hd, b0, b1, b2, b3, List.getElem?_set_self hlt, newPage]
    · simp [hd, b0, b1, b2, b3, newPage]
  · simp [regOf, hR]
theorem mmu_Write_def (u : Mmu) (o v : Int) (h : u.pages.length = 16) (h0 : -9223372036854775808 ≤ o) (h9 : o ≤ 9223372036854775807) : mmu_Write u o v = some (wrote u o v) := by
  have e1 : (2 : Int) ^ (min ((1 : Int)).toNat 64) = 2 := rfl
  have e8 : (2 : Int) ^ (min ((8 : Int)).toNat 64) = 256 := rfl
  simp only [mmu_Write, Tmmu_Write, Tree.run, register_def o h0 h9, Option.bind_some, decide_eq_true_eq, wrote, e1, e8, fdiv_pos v (show (0 : Int) ≤ 2 by omega), fdiv_pos v (show (0 : Int) ≤ 256 by omega), and1, and3, and255, and4095]
  by_cases h0 : o = 0
  · rw [if_pos h0, if_pos h0, if_pos (by omega)]
  rw [if_neg h0, if_neg h0]
  by_cases h2 : o = 2
  · rw [if_pos h2, if_pos h2]
  rw [if_neg h2, if_neg h2]
  by_cases hR : isReg o
  · have hlt : kr o < u.pages.length := by have := kr_lt hR; omega
    have hg := List.getElem?_eq_getElem hlt
    generalize u.pages[kr o] = x at hg
    obtain ⟨b0, b1, b2, b3⟩ := reg_bounds hR
    simp only [regOf, if_pos hR, kr_eq, hg, Option.bind_some]
    by_cases hd : (o - 16) % 4 = 2
    · simp [hd, b0, b1, b2, b3, List.getElem?_set_self hlt, newPage]
    · simp [hd, b0, b1, b2, b3, newPage]
  · simp [regOf, hR]
theorem newPage_ok (x : Page) (o v : Int) (h : OkPage x) : OkPage (newPage x o v) := by
  obtain ⟨h1, h2, h3⟩ := h
  unfold newPage
  split
  · refine ⟨h1, ?_, ?_⟩
    · show 0 ≤ (if 128 < v % 256 then 128 else v % 256) ∧ (if 128 < v % 256 then 128 else v % 256) ≤ 128
      split <;> omega
    · show 0 ≤ (if 2 < v / 256 % 4 then 2 else v / 256 % 4) ∧ (if 2 < v / 256 % 4 then 2 else v / 256 % 4) ≤ 2
      split <;> omega
  · refine ⟨?_, h2, h3⟩
    show 0 ≤ v % 4096 ∧ v % 4096 ≤ 4095
    omega
theorem wrote_right (u : Mmu) (o v : Int) (hr : Rt u) : Rt (wrote u o v).1 ∧ (wrote u o v).1.pages.length = u.pages.length := by
  obtain ⟨h1, h2, h3⟩ := hr
  unfold wrote
  split
  · refine ⟨⟨h1, ?_, h3⟩, rfl⟩
    show 0 ≤ v / 2 % 4 ∧ v / 2 % 4 ≤ 3
    omega
  split
  · exact ⟨⟨h1, h2, h3⟩, rfl⟩
  split
  · split
    · exact ⟨⟨h1, h2, h3⟩, rfl⟩
    · rename_i x hx
      refine ⟨⟨fun p hp => ?_, h2, h3⟩, by simp⟩
      have hp : p ∈ u.pages.set (kr o) (newPage x o v) := hp
      rcases List.mem_or_eq_of_mem_set hp with h' | rfl
      · exact h1 p h'
      · exact newPage_ok x o v (h1 x (List.mem_of_getElem? hx))
  · exact ⟨⟨h1, h2, h3⟩, rfl⟩
end Go.Proofs.Ytocjgcccbfmoeaa
