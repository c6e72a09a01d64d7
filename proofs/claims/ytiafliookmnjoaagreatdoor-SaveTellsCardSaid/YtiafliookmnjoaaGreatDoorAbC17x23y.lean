/- Plain theorems, as in another chapter. -/
import Derived.Test.YtiafliookmnjoaaGreatDoorAbLim
import Derived.Laws.BitsLemmas
import Derived.Test.YtiafliookmnjoaaGreatDoorAb23y
import Derived.Test.YtiafliookmnjoaaGreatDoorAbRd23y
section
set_option linter.unusedSimpArgs false
namespace Go.Ab
variable {α β : Type}
theorem take_one_more {α : Type} {l : List α} {i : Nat} (hi : i < l.length) : l.take (i + 1) = l.take i ++ [l[i]] := by
  rw [List.take_add_one, List.getElem?_eq_getElem hi]; rfl
end Go.Ab
end
section
set_option linter.unusedSimpArgs false
namespace Go.Ab
theorem wrap_id {n : Int} (h1 : -9223372036854775808 ≤ n) (h2 : n ≤ 9223372036854775807) : IntKind.wrap .i64 n = n := by
  rw [IntKind.wrap_i64]; omega
theorem nat_and (a b : Int) : ((BitVec.ofInt 64 a &&& BitVec.ofInt 64 b).toNat : Int) = (((a % 18446744073709551616).toNat &&& (b % 18446744073709551616).toNat : Nat) : Int) := by
  rw [BitVec.toNat_and, BitVec.toNat_ofInt, BitVec.toNat_ofInt]
  rfl
/-- a mask of the lowest bits -/
theorem and_mask (j : Nat) (hj : j ≤ 62) (a : Int) : IntKind.wrap .i64 ((BitVec.ofInt 64 a &&& BitVec.ofInt 64 (2 ^ j - 1)).toNat : Int) = a % 2 ^ j := by
  have hp : (2 : Nat) ^ j ≤ 2 ^ 62 := Nat.pow_le_pow_right (by omega) hj
  have hc : ((2 : Int) ^ j) = ((2 ^ j : Nat) : Int) := by simp
  have h0 : 0 < (2 : Nat) ^ j := Nat.pow_pos (by omega)
  have hd : (2 : Nat) ^ j ∣ 18446744073709551616 := by
    have : (18446744073709551616 : Nat) = 2 ^ 64 := rfl
    rw [this]
    exact Nat.pow_dvd_pow 2 (by omega)
  rw [nat_and]
  have e1 : (((2 : Int) ^ j - 1) % 18446744073709551616).toNat = 2 ^ j - 1 := by
    rw [hc, Int.emod_eq_of_lt (by omega) (by omega)]
    omega
  rw [e1, Nat.and_two_pow_sub_one_eq_mod]
  have e2 : ((a % 18446744073709551616).toNat % 2 ^ j : Nat) = (a % 2 ^ j).toNat := by
    have hn : 0 ≤ a % 18446744073709551616 := Int.emod_nonneg _ (by omega)
    have : (((a % 18446744073709551616).toNat % 2 ^ j : Nat) : Int) = a % 2 ^ j := by
      rw [Int.natCast_emod, Int.toNat_of_nonneg hn, hc]
      exact Int.emod_emod_of_dvd a (Int.natCast_dvd_natCast.2 hd)
    omega
  rw [e2]
  have h1 : 0 ≤ a % 2 ^ j := Int.emod_nonneg _ (by rw [hc]; omega)
  have h2 : a % 2 ^ j < 2 ^ j := Int.emod_lt_of_pos _ (by rw [hc]; omega)
  rw [Int.toNat_of_nonneg h1]
  exact wrap_id (by omega) (by rw [hc] at h2; omega)
theorem and255 (a : Int) : IntKind.wrap .i64 ((BitVec.ofInt 64 a &&& BitVec.ofInt 64 (255 : Int)).toNat : Int) = a % 256 := and_mask 8 (by omega) a
theorem and65535 (a : Int) : IntKind.wrap .i64 ((BitVec.ofInt 64 a &&& BitVec.ofInt 64 (65535 : Int)).toNat : Int) = a % 65536 := and_mask 16 (by omega) a
/-- parts that share no bit are added -/
theorem or_add (j : Nat) (a b : Int) (h0 : 0 ≤ b) (hb : b < 2 ^ j) (ha0 : 0 ≤ a) (ha : a % 2 ^ j = 0) (hs : a + b ≤ 9223372036854775807) : IntKind.wrap .i64 ((BitVec.ofInt 64 a ||| BitVec.ofInt 64 b).toNat : Int) = a + b := by
  rw [BitVec.toNat_or, BitVec.toNat_ofInt, BitVec.toNat_ofInt]
  have e1 : (a % ((2 ^ 64 : Nat) : Int)).toNat = a.toNat := by rw [Int.emod_eq_of_lt ha0 (by omega)]
  have e2 : (b % ((2 ^ 64 : Nat) : Int)).toNat = b.toNat := by rw [Int.emod_eq_of_lt h0 (by omega)]
  rw [e1, e2]
  have hc : ((2 : Int) ^ j) = ((2 ^ j : Nat) : Int) := by simp
  have hm : a.toNat % 2 ^ j = 0 := by
    rw [hc] at ha
    have : ((a.toNat % 2 ^ j : Nat) : Int) = 0 := by rw [Int.natCast_emod, Int.toNat_of_nonneg ha0]; exact ha
    exact Int.ofNat.inj this
  obtain ⟨c, hc'⟩ := Nat.dvd_of_mod_eq_zero hm
  have hlt : b.toNat < 2 ^ j := by rw [hc] at hb; omega
  have : a.toNat ||| b.toNat = a.toNat + b.toNat := by
    rw [hc', Nat.two_pow_add_eq_or_of_lt hlt]
  rw [this]
  rw [wrap_id (by omega) (by omega)]
  omega
theorem tmod_nn {a : Int} (h : 0 ≤ a) (b : Int) : a.tmod b = a % b := Int.tmod_eq_emod_of_nonneg h
theorem fdiv_pos (a : Int) {b : Int} (h : 0 ≤ b) : a.fdiv b = a / b := Int.fdiv_eq_ediv_of_nonneg a h
theorem mask_fix (a m : Int) (hm : 0 < m) : (a % m = a) ↔ (0 ≤ a ∧ a < m) := by
  constructor
  · intro h
    have h1 := Int.emod_nonneg a (show m ≠ 0 by omega)
    have h2 := Int.emod_lt_of_pos a hm
    omega
  · rintro ⟨h1, h2⟩
    exact Int.emod_eq_of_lt h1 h2
end Go.Ab
end
section
set_option linter.unusedSimpArgs false
namespace Go.Ab
theorem bv_andNot (x y : BitVec 64) : x &&& ~~~y = x - (x &&& y) := by
  have h : (x &&& ~~~y) + (x &&& y) = x := by
    rw [BitVec.add_eq_or_of_and_eq_zero]
    · ext i hi
      simp
      cases x[i] <;> cases y[i] <;> rfl
    · ext i hi
      simp
      cases x[i] <;> cases y[i] <;> simp
  exact BitVec.eq_sub_iff_add_eq.2 h
/-- bits taken away -/
theorem andNot_sub (a b : Int) (h0 : 0 ≤ a) (h1 : a ≤ 9223372036854775807) : IntKind.wrap .i64 ((BitVec.ofInt 64 a &&& ~~~BitVec.ofInt 64 b).toNat : Int) = a - IntKind.wrap .i64 ((BitVec.ofInt 64 a &&& BitVec.ofInt 64 b).toNat : Int) := by
  rw [bv_andNot]
  have hle : BitVec.ofInt 64 a &&& BitVec.ofInt 64 b ≤ BitVec.ofInt 64 a := by
    rw [BitVec.le_def, BitVec.toNat_and]
    exact Nat.and_le_left
  rw [BitVec.toNat_sub_of_le hle]
  have ha : (BitVec.ofInt 64 a).toNat = a.toNat := by
    rw [BitVec.toNat_ofInt, Int.emod_eq_of_lt h0 (by omega)]
  have hle' := BitVec.le_def.1 hle
  rw [ha] at hle' ⊢
  rw [wrap_id (by omega) (by omega), wrap_id (by omega) (by omega)]
  omega
end Go.Ab
end
section
set_option linter.unusedSimpArgs false
set_option linter.unusedVariables false
namespace Go.Proofs.YtiafliookmnjoaaGreatDoor
open Go Go.Ab
theorem wrap_succ {i n : Nat} (h : i < n) (hn : n ≤ 9223372036854775807) : IntKind.wrap .i64 ((i : Int) + 1) = ((i + 1 : Nat) : Int) := by rw [wrap_id] <;> omega
/-- two lists are gone through side by side -/
theorem eq_loop {α S : Type} [DecidableEq α] {f : S → Option (S ⊕ (Bool ⊕ Unit))} (s : Nat → S) (l m : List α) (hl : l.length = m.length)
    (h1 : ∀ i (hi : i < l.length) (hj : i < m.length), l[i] = m[i] → f (s i) = some (.inl (s (i + 1)))) (h2 : ∀ i (hi : i < l.length) (hj : i < m.length), l[i] ≠ m[i] → f (s i) = some (.inr (.inl false)))
    (h3 : f (s l.length) = some (.inr (.inr ()))) : lim f (s 0) = some (if l = m then .inr () else .inl false) := by
  rcases lim_scan (f := f) s l.length (fun i => l[i]? = m[i]?) (fun _ => .inl false) (.inr ())
    (fun i hi hp => h1 i hi (by omega) (by
      have hj : i < m.length := by omega
      rw [List.getElem?_eq_getElem hi, List.getElem?_eq_getElem hj] at hp
      exact Option.some.inj hp))
    (fun i hi hp => h2 i hi (by omega) (fun e => hp (by
      have hj : i < m.length := by omega
      rw [List.getElem?_eq_getElem hi, List.getElem?_eq_getElem hj, e])))
    h3 with ⟨q1, q2⟩ | ⟨i, hi, q1, q2⟩
  · have e : l = m := by
      apply List.ext_getElem? 
      intro i
      rcases Nat.lt_or_ge i l.length with hi | hi
      · exact q1 i hi
      · rw [List.getElem?_eq_none hi, List.getElem?_eq_none (by omega)]
    rw [if_pos e]
    exact q2
  · have e : ¬ l = m := fun e => q1 (by rw [e])
    rw [if_neg e]
    exact q2
theorem line_eq (x y : Line) : ((x.rxEnable == y.rxEnable) && ((x.rxReady == y.rxReady) && ((x.overrun == y.overrun) && ((decide (x.rxData = y.rxData)) && ((x.txEnable == y.txEnable) && ((x.txReady == y.txReady) && ((decide (x.txData = y.txData)) && ((decide (x.txLeft = y.txLeft)) && (decide (x.out = y.out)))))))))) = decide (x = y) := by
  cases x; cases y
  rw [Bool.eq_iff_iff]
  simp
theorem Equal_int (l m : List Int) (h : l.length ≤ 1000000) : slices_Equal_int_int none l m = some (decide (l = m)) := by
  simp only [slices_Equal_int_int, Tslices_Equal_int_int, Tree.run]
  by_cases hl : l.length = m.length
  · have hc : Lslices_Equal_int_int_0 none ⟨l, m, (l.length : Int), 0⟩ = some (if l = m then .inr () else .inl false) := eq_loop (f := fun s => (Wslices_Equal_int_int_0 s).run) (fun i : Nat => ⟨l, m, (l.length : Int), (i : Int)⟩) l m hl
      (fun i hi hj e => by
        have k1 : (i : Int) < (l.length : Int) := by omega
        have k2 : (0 : Int) ≤ (i : Int) := by omega
        simp only [Wslices_Equal_int_int_0, Tree.run, k1, k2, Int.toNat_natCast, List.getElem?_eq_getElem hi, List.getElem?_eq_getElem hj, Option.bind_some, e, wrap_succ hi (show l.length ≤ 9223372036854775807 by omega), decide_true, if_true, Bool.not_true, Bool.false_eq_true, if_false])
      (fun i hi hj e => by
        have k1 : (i : Int) < (l.length : Int) := by omega
        have k2 : (0 : Int) ≤ (i : Int) := by omega
        simp only [Wslices_Equal_int_int_0, Tree.run, k1, k2, Int.toNat_natCast, List.getElem?_eq_getElem hi, List.getElem?_eq_getElem hj, Option.bind_some, e, decide_true, if_true, decide_false, Bool.not_false])
      (by simp [Wslices_Equal_int_int_0, Tree.run])
    have hl' : (l.length : Int) = (m.length : Int) := by omega
    by_cases e : l = m
    · rw [if_pos e] at hc
      simp only [hl', decide_true, Bool.not_true, Bool.false_eq_true, if_false, e] at hc ⊢
      simp [hc]
    · rw [if_neg e] at hc
      simp [hl', e] at hc ⊢
      simp [hc]
  · have hl' : ¬ (l.length : Int) = (m.length : Int) := by omega
    have e : ¬ l = m := fun e => hl (by rw [e])
    simp [hl', e]
theorem Equal_line (l m : List Line) (h : l.length ≤ 1000000) : slices_Equal_api_Line_api_Line none l m = some (decide (l = m)) := by
  simp only [slices_Equal_api_Line_api_Line, Tslices_Equal_api_Line_api_Line, Tree.run]
  by_cases hl : l.length = m.length
  · have hc : Lslices_Equal_api_Line_api_Line_0 none ⟨l, m, (l.length : Int), 0⟩ = some (if l = m then .inr () else .inl false) := eq_loop (f := fun s => (Wslices_Equal_api_Line_api_Line_0 s).run) (fun i : Nat => ⟨l, m, (l.length : Int), (i : Int)⟩) l m hl
      (fun i hi hj e => by
        have k1 : (i : Int) < (l.length : Int) := by omega
        have k2 : (0 : Int) ≤ (i : Int) := by omega
        simp only [Wslices_Equal_api_Line_api_Line_0, Tree.run, k1, k2, Int.toNat_natCast, List.getElem?_eq_getElem hi, List.getElem?_eq_getElem hj, Option.bind_some, line_eq, e, wrap_succ hi (show l.length ≤ 9223372036854775807 by omega), decide_true, if_true, Bool.not_true, Bool.false_eq_true, if_false])
      (fun i hi hj e => by
        have k1 : (i : Int) < (l.length : Int) := by omega
        have k2 : (0 : Int) ≤ (i : Int) := by omega
        simp only [Wslices_Equal_api_Line_api_Line_0, Tree.run, k1, k2, Int.toNat_natCast, List.getElem?_eq_getElem hi, List.getElem?_eq_getElem hj, Option.bind_some, line_eq, e, decide_true, if_true, decide_false, Bool.not_false])
      (by simp [Wslices_Equal_api_Line_api_Line_0, Tree.run])
    have hl' : (l.length : Int) = (m.length : Int) := by omega
    by_cases e : l = m
    · rw [if_pos e] at hc
      simp only [hl', decide_true, Bool.not_true, Bool.false_eq_true, if_false, e] at hc ⊢
      simp [hc]
    · rw [if_neg e] at hc
      simp [hl', e] at hc ⊢
      simp [hc]
  · have hl' : ¬ (l.length : Int) = (m.length : Int) := by omega
    have e : ¬ l = m := fun e => hl (by rw [e])
    simp [hl', e]
theorem Equal_text (l m : List (List UInt8)) (h : l.length ≤ 1000000) : slices_Equal_string_string none l m = some (decide (l = m)) := by
  simp only [slices_Equal_string_string, Tslices_Equal_string_string, Tree.run]
  by_cases hl : l.length = m.length
  · have hc : Lslices_Equal_string_string_0 none ⟨l, m, (l.length : Int), 0⟩ = some (if l = m then .inr () else .inl false) := eq_loop (f := fun s => (Wslices_Equal_string_string_0 s).run) (fun i : Nat => ⟨l, m, (l.length : Int), (i : Int)⟩) l m hl
      (fun i hi hj e => by
        have k1 : (i : Int) < (l.length : Int) := by omega
        have k2 : (0 : Int) ≤ (i : Int) := by omega
        simp only [Wslices_Equal_string_string_0, Tree.run, k1, k2, Int.toNat_natCast, List.getElem?_eq_getElem hi, List.getElem?_eq_getElem hj, Option.bind_some, e, wrap_succ hi (show l.length ≤ 9223372036854775807 by omega), decide_true, if_true, Bool.not_true, Bool.false_eq_true, if_false])
      (fun i hi hj e => by
        have k1 : (i : Int) < (l.length : Int) := by omega
        have k2 : (0 : Int) ≤ (i : Int) := by omega
        simp only [Wslices_Equal_string_string_0, Tree.run, k1, k2, Int.toNat_natCast, List.getElem?_eq_getElem hi, List.getElem?_eq_getElem hj, Option.bind_some, e, decide_true, if_true, decide_false, Bool.not_false])
      (by simp [Wslices_Equal_string_string_0, Tree.run])
    have hl' : (l.length : Int) = (m.length : Int) := by omega
    by_cases e : l = m
    · rw [if_pos e] at hc
      simp only [hl', decide_true, Bool.not_true, Bool.false_eq_true, if_false, e] at hc ⊢
      simp [hc]
    · rw [if_neg e] at hc
      simp [hl', e] at hc ⊢
      simp [hc]
  · have hl' : ¬ (l.length : Int) = (m.length : Int) := by omega
    have e : ¬ l = m := fun e => hl (by rw [e])
    simp [hl', e]
theorem ref_SameNames (l m : List (List UInt8)) (h : l.length ≤ 1000000) : ref02_Same none l m = some (decide (l = m)) := by
  simp only [ref02_Same, Tref02_Same, Tree.run]
  by_cases hl : l.length = m.length
  · have hc : Lref02_Same_0 none ⟨l, m, 0⟩ = some (if l = m then .inr () else .inl false) := eq_loop (f := fun s => (Wref02_Same_0 s).run) (fun i : Nat => ⟨l, m, (i : Int)⟩) l m hl
      (fun i hi hj e => by
        have k1 : (i : Int) < (l.length : Int) := by omega
        have k2 : (0 : Int) ≤ (i : Int) := by omega
        simp only [Wref02_Same_0, Tree.run, k1, k2, Int.toNat_natCast, List.getElem?_eq_getElem hi, List.getElem?_eq_getElem hj, Option.bind_some, e, wrap_succ hi (show l.length ≤ 9223372036854775807 by omega), decide_true, if_true, Bool.not_true, Bool.false_eq_true, if_false])
      (fun i hi hj e => by
        have k1 : (i : Int) < (l.length : Int) := by omega
        have k2 : (0 : Int) ≤ (i : Int) := by omega
        simp only [Wref02_Same_0, Tree.run, k1, k2, Int.toNat_natCast, List.getElem?_eq_getElem hi, List.getElem?_eq_getElem hj, Option.bind_some, e, decide_true, if_true, decide_false, Bool.not_false])
      (by simp [Wref02_Same_0, Tree.run])
    have hl' : (l.length : Int) = (m.length : Int) := by omega
    by_cases e : l = m
    · rw [if_pos e] at hc
      simp only [hl', decide_true, Bool.not_true, Bool.false_eq_true, if_false, e] at hc ⊢
      simp [hc]
    · rw [if_neg e] at hc
      simp [hl', e] at hc ⊢
      simp [hc]
  · have hl' : ¬ (l.length : Int) = (m.length : Int) := by omega
    have e : ¬ l = m := fun e => hl (by rw [e])
    simp [hl', e]
theorem Disk_eq1 (x y : Disk) (h1 : x.drive.sectors.length ≤ 1000000) (h2 : x.drive.bad.length ≤ 1000000) : save_sameDisk none x y = some (decide (x = y)) := by
  obtain ⟨⟨a1, a2⟩, a3, a4, a5, a6, a7, a8, a9, a10⟩ := x
  obtain ⟨⟨b1, b2⟩, b3, b4, b5, b6, b7, b8, b9, b10⟩ := y
  simp only at h1 h2
  simp only [save_sameDisk, Tsave_sameDisk, Tree.run, Equal_text _ _ h1, Equal_int _ _ h2, Option.bind_some, Disk.mk.injEq, Drive.mk.injEq]
  by_cases c1 : a1 = b1
  · by_cases c2 : a2 = b2
    · by_cases c3 : a3 = b3
      · by_cases c4 : a4 = b4
        · by_cases c5 : a5 = b5
          · by_cases c6 : a6 = b6
            · by_cases c7 : a7 = b7
              · by_cases c8 : a8 = b8
                · by_cases c9 : a9 = b9
                  · simp [c1, c2, c3, c4, c5, c6, c7, c8, c9]
                  · simp [c1, c2, c3, c4, c5, c6, c7, c8, c9]
                · simp [c1, c2, c3, c4, c5, c6, c7, c8]
              · simp [c1, c2, c3, c4, c5, c6, c7]
            · simp [c1, c2, c3, c4, c5, c6]
          · simp [c1, c2, c3, c4, c5]
        · simp [c1, c2, c3, c4]
      · simp [c1, c2, c3]
    · simp [c1, c2]
  · simp [c1]
theorem Tape_eq1 (x y : Tape) (h1 : x.records.length ≤ 1000000) : save_sameTape none x y = some (decide (x = y)) := by
  obtain ⟨a1, a2, a3, a4, a5, a6, a7, a8, a9, a10, a11⟩ := x
  obtain ⟨b1, b2, b3, b4, b5, b6, b7, b8, b9, b10, b11⟩ := y
  simp only at h1
  simp only [save_sameTape, Tsave_sameTape, Tree.run, Equal_text _ _ h1, Option.bind_some, Tape.mk.injEq]
  by_cases c1 : a1 = b1
  · by_cases c2 : a2 = b2
    · by_cases c3 : a3 = b3
      · by_cases c4 : a4 = b4
        · by_cases c5 : a5 = b5
          · by_cases c6 : a6 = b6
            · by_cases c7 : a7 = b7
              · by_cases c8 : a8 = b8
                · by_cases c9 : a9 = b9
                  · by_cases c10 : a10 = b10
                    · simp [c1, c2, c3, c4, c5, c6, c7, c8, c9, c10]
                    · simp [c1, c2, c3, c4, c5, c6, c7, c8, c9, c10]
                  · simp [c1, c2, c3, c4, c5, c6, c7, c8, c9]
                · simp [c1, c2, c3, c4, c5, c6, c7, c8]
              · simp [c1, c2, c3, c4, c5, c6, c7]
            · simp [c1, c2, c3, c4, c5, c6]
          · simp [c1, c2, c3, c4, c5]
        · simp [c1, c2, c3, c4]
      · simp [c1, c2, c3]
    · simp [c1, c2]
  · simp [c1]
end Go.Proofs.YtiafliookmnjoaaGreatDoor
end
section
set_option linter.unusedSimpArgs false
set_option linter.unusedVariables false
namespace Go.Proofs.YtiafliookmnjoaaGreatDoor
open Go Go.Ab
/-- a machine whose lists are short -/
structure SmM (a : Machine) : Prop where
  mem : a.mem.length ≤ 1000000
  bad : a.bad.length ≤ 1000000
  lines : a.lines.length ≤ 1000000
  sect : a.disk.drive.sectors.length ≤ 1000000
  dbad : a.disk.drive.bad.length ≤ 1000000
  recs : a.tape.records.length ≤ 1000000
def parts : List (List UInt8) := [([67, 112, 117] : List UInt8), ([77, 101, 109] : List UInt8), ([66, 97, 100] : List UInt8), ([77, 109, 117] : List UInt8), ([67, 108, 111, 99, 107] : List UInt8), ([76, 105, 110, 101, 115] : List UInt8), ([68, 105, 115, 107] : List UInt8), ([84, 97, 112, 101] : List UInt8), ([78, 111, 119] : List UInt8), ([72, 97, 108, 116, 101, 100] : List UInt8), ([87, 97, 105, 116, 105, 110, 103] : List UInt8), ([80, 111, 119, 101, 114] : List UInt8), ([80, 111, 119, 101, 114, 84, 114, 97, 112] : List UInt8)]
def sames (a b : Machine) : List Bool := [((decide (a.cpu.r = b.cpu.r)) && ((decide (a.cpu.sP = b.cpu.sP)) && ((decide (a.cpu.pC = b.cpu.pC)) && (decide (a.cpu.pSW = b.cpu.pSW))))), decide (a.mem = b.mem), decide (a.bad = b.bad), ((a.mmu.on == b.mmu.on) && ((decide (a.mmu.pages = b.mmu.pages)) && ((decide (a.mmu.status = b.mmu.status)) && (decide (a.mmu.addr = b.mmu.addr))))), ((a.clock.enable == b.clock.enable) && ((a.clock.ready == b.clock.ready) && ((decide (a.clock.period = b.clock.period)) && (decide (a.clock.left = b.clock.left))))), decide (a.lines = b.lines), decide (a.disk = b.disk), decide (a.tape = b.tape), decide (a.now = b.now), (a.halted == b.halted), (a.waiting == b.waiting), decide (a.power = b.power), (a.powerTrap == b.powerTrap)]
def stepD (n : List UInt8) (b : Bool) (g : List (List UInt8)) : List (List UInt8) := if b then g else g ++ [n]
def diffD : List (List UInt8) → List Bool → List (List UInt8) → List (List UInt8)
  | n :: ns, b :: bs, g => diffD ns bs (stepD n b g)
  | _, _, g => g
theorem stepD_len (n : List UInt8) (b : Bool) (g : List (List UInt8)) {k : Nat} (h : g.length ≤ k) : (stepD n b g).length ≤ k + 1 := by
  unfold stepD
  split
  · omega
  · simp; omega
theorem part_def (n : List UInt8) (b : Bool) (g : List (List UInt8)) {k : Nat} (h : g.length ≤ k) (hk : k ≤ 1000) : save_Diff_1 n b () g = some (stepD n b g) := by
  have k1 : (g.length + ([n] : List (List UInt8)).length) * 16 ≤ 140737488355328 := by simp only [List.length_cons, List.length_nil]; omega
  cases b <;> simp only [save_Diff_1, Tsave_Diff_1, Tree.run, k1, stepD, Bool.not_true, Bool.not_false, Bool.false_eq_true, if_true, if_false, decide_true]
theorem Diff_def (a b : Machine) (h : SmM a) : save_Diff none a b = some (diffD parts (sames a b) []) := by
  obtain ⟨h1, h2, h3, h4, h5, h6⟩ := h
  have l0 : ([] : List (List UInt8)).length ≤ 0 := Nat.le_refl _
  have e0 := part_def ([67, 112, 117] : List UInt8) (((decide (a.cpu.r = b.cpu.r)) && ((decide (a.cpu.sP = b.cpu.sP)) && ((decide (a.cpu.pC = b.cpu.pC)) && (decide (a.cpu.pSW = b.cpu.pSW)))))) [] l0 (by omega)
  have l1 := stepD_len ([67, 112, 117] : List UInt8) (((decide (a.cpu.r = b.cpu.r)) && ((decide (a.cpu.sP = b.cpu.sP)) && ((decide (a.cpu.pC = b.cpu.pC)) && (decide (a.cpu.pSW = b.cpu.pSW)))))) [] l0
  generalize hg1 : stepD ([67, 112, 117] : List UInt8) (((decide (a.cpu.r = b.cpu.r)) && ((decide (a.cpu.sP = b.cpu.sP)) && ((decide (a.cpu.pC = b.cpu.pC)) && (decide (a.cpu.pSW = b.cpu.pSW)))))) [] = g1 at e0 l1
  have e1 := part_def ([77, 101, 109] : List UInt8) (decide (a.mem = b.mem)) g1 l1 (by omega)
  have l2 := stepD_len ([77, 101, 109] : List UInt8) (decide (a.mem = b.mem)) g1 l1
  generalize hg2 : stepD ([77, 101, 109] : List UInt8) (decide (a.mem = b.mem)) g1 = g2 at e1 l2
  have e2 := part_def ([66, 97, 100] : List UInt8) (decide (a.bad = b.bad)) g2 l2 (by omega)
  have l3 := stepD_len ([66, 97, 100] : List UInt8) (decide (a.bad = b.bad)) g2 l2
  generalize hg3 : stepD ([66, 97, 100] : List UInt8) (decide (a.bad = b.bad)) g2 = g3 at e2 l3
  have e3 := part_def ([77, 109, 117] : List UInt8) (((a.mmu.on == b.mmu.on) && ((decide (a.mmu.pages = b.mmu.pages)) && ((decide (a.mmu.status = b.mmu.status)) && (decide (a.mmu.addr = b.mmu.addr)))))) g3 l3 (by omega)
  have l4 := stepD_len ([77, 109, 117] : List UInt8) (((a.mmu.on == b.mmu.on) && ((decide (a.mmu.pages = b.mmu.pages)) && ((decide (a.mmu.status = b.mmu.status)) && (decide (a.mmu.addr = b.mmu.addr)))))) g3 l3
  generalize hg4 : stepD ([77, 109, 117] : List UInt8) (((a.mmu.on == b.mmu.on) && ((decide (a.mmu.pages = b.mmu.pages)) && ((decide (a.mmu.status = b.mmu.status)) && (decide (a.mmu.addr = b.mmu.addr)))))) g3 = g4 at e3 l4
  have e4 := part_def ([67, 108, 111, 99, 107] : List UInt8) (((a.clock.enable == b.clock.enable) && ((a.clock.ready == b.clock.ready) && ((decide (a.clock.period = b.clock.period)) && (decide (a.clock.left = b.clock.left)))))) g4 l4 (by omega)
  have l5 := stepD_len ([67, 108, 111, 99, 107] : List UInt8) (((a.clock.enable == b.clock.enable) && ((a.clock.ready == b.clock.ready) && ((decide (a.clock.period = b.clock.period)) && (decide (a.clock.left = b.clock.left)))))) g4 l4
  generalize hg5 : stepD ([67, 108, 111, 99, 107] : List UInt8) (((a.clock.enable == b.clock.enable) && ((a.clock.ready == b.clock.ready) && ((decide (a.clock.period = b.clock.period)) && (decide (a.clock.left = b.clock.left)))))) g4 = g5 at e4 l5
  have e5 := part_def ([76, 105, 110, 101, 115] : List UInt8) (decide (a.lines = b.lines)) g5 l5 (by omega)
  have l6 := stepD_len ([76, 105, 110, 101, 115] : List UInt8) (decide (a.lines = b.lines)) g5 l5
  generalize hg6 : stepD ([76, 105, 110, 101, 115] : List UInt8) (decide (a.lines = b.lines)) g5 = g6 at e5 l6
  have e6 := part_def ([68, 105, 115, 107] : List UInt8) (decide (a.disk = b.disk)) g6 l6 (by omega)
  have l7 := stepD_len ([68, 105, 115, 107] : List UInt8) (decide (a.disk = b.disk)) g6 l6
  generalize hg7 : stepD ([68, 105, 115, 107] : List UInt8) (decide (a.disk = b.disk)) g6 = g7 at e6 l7
  have e7 := part_def ([84, 97, 112, 101] : List UInt8) (decide (a.tape = b.tape)) g7 l7 (by omega)
  have l8 := stepD_len ([84, 97, 112, 101] : List UInt8) (decide (a.tape = b.tape)) g7 l7
  generalize hg8 : stepD ([84, 97, 112, 101] : List UInt8) (decide (a.tape = b.tape)) g7 = g8 at e7 l8
  have e8 := part_def ([78, 111, 119] : List UInt8) (decide (a.now = b.now)) g8 l8 (by omega)
  have l9 := stepD_len ([78, 111, 119] : List UInt8) (decide (a.now = b.now)) g8 l8
  generalize hg9 : stepD ([78, 111, 119] : List UInt8) (decide (a.now = b.now)) g8 = g9 at e8 l9
  have e9 := part_def ([72, 97, 108, 116, 101, 100] : List UInt8) ((a.halted == b.halted)) g9 l9 (by omega)
  have l10 := stepD_len ([72, 97, 108, 116, 101, 100] : List UInt8) ((a.halted == b.halted)) g9 l9
  generalize hg10 : stepD ([72, 97, 108, 116, 101, 100] : List UInt8) ((a.halted == b.halted)) g9 = g10 at e9 l10
  have e10 := part_def ([87, 97, 105, 116, 105, 110, 103] : List UInt8) ((a.waiting == b.waiting)) g10 l10 (by omega)
  have l11 := stepD_len ([87, 97, 105, 116, 105, 110, 103] : List UInt8) ((a.waiting == b.waiting)) g10 l10
  generalize hg11 : stepD ([87, 97, 105, 116, 105, 110, 103] : List UInt8) ((a.waiting == b.waiting)) g10 = g11 at e10 l11
  have e11 := part_def ([80, 111, 119, 101, 114] : List UInt8) (decide (a.power = b.power)) g11 l11 (by omega)
  have l12 := stepD_len ([80, 111, 119, 101, 114] : List UInt8) (decide (a.power = b.power)) g11 l11
  generalize hg12 : stepD ([80, 111, 119, 101, 114] : List UInt8) (decide (a.power = b.power)) g11 = g12 at e11 l12
  have e12 := part_def ([80, 111, 119, 101, 114, 84, 114, 97, 112] : List UInt8) ((a.powerTrap == b.powerTrap)) g12 l12 (by omega)
  have l13 := stepD_len ([80, 111, 119, 101, 114, 84, 114, 97, 112] : List UInt8) ((a.powerTrap == b.powerTrap)) g12 l12
  generalize hg13 : stepD ([80, 111, 119, 101, 114, 84, 114, 97, 112] : List UInt8) ((a.powerTrap == b.powerTrap)) g12 = g13 at e12 l13
  have hr : diffD parts (sames a b) [] = g13 := by
    show stepD _ _ (stepD _ _ (stepD _ _ (stepD _ _ (stepD _ _ (stepD _ _ (stepD _ _ (stepD _ _ (stepD _ _ (stepD _ _ (stepD _ _ (stepD _ _ (stepD _ _ [])))))))))))) = g13
    rw [hg1, hg2, hg3, hg4, hg5, hg6, hg7, hg8, hg9, hg10, hg11, hg12, hg13]
  rw [hr]
  simp only [save_Diff, Tsave_Diff, Tree.run, Equal_int _ _ h1, Equal_int _ _ h2, Equal_line _ _ h3, Disk_eq1 _ _ h4 h5, Tape_eq1 _ _ h6, Option.bind_some, e0, e1, e2, e3, e4, e5, e6, e7, e8, e9, e10, e11, e12]
theorem Same_def (a b : Machine) (h : SmM a) : save_Same none a b = some (decide ((diffD parts (sames a b) []).length = 0)) := by
  simp only [save_Same, Tsave_Same, Tree.run, Diff_def a b h, Option.bind_some]
  congr 1
  rw [decide_eq_decide]
  omega
theorem sames_self (a : Machine) : sames a a = List.replicate 13 true := by
  simp [sames, List.replicate]
theorem diff_self (a : Machine) : diffD parts (sames a a) [] = [] := by
  rw [sames_self]; rfl
end Go.Proofs.YtiafliookmnjoaaGreatDoor
end
section
set_option linter.unusedSimpArgs false
set_option linter.unusedVariables false
namespace Go.Proofs.YtiafliookmnjoaaGreatDoor
open Go Go.Ab
/-- a machine that is not great -/
structure Modest (a : Machine) : Prop where
  mem : a.mem.length ≤ 2048
  bad : a.bad.length ≤ 100
  lines : a.lines.length ≤ 10
  sect : a.disk.drive.sectors.length ≤ 64
  dbad : a.disk.drive.bad.length ≤ 100
  recs : a.tape.records.length ≤ 10
  outs : ∀ l ∈ a.lines, l.out.length ≤ 600
  sects : ∀ s ∈ a.disk.drive.sectors, s.length ≤ 600
  texts : ∀ s ∈ a.tape.records, s.length ≤ 600
theorem Modest.sm {a : Machine} (h : Modest a) : SmM a := ⟨by have := h.mem; omega, by have := h.bad; omega, by have := h.lines; omega, by have := h.sect; omega, by have := h.dbad; omega, by have := h.recs; omega⟩
theorem get_all {α : Type} {l : List α} {p : α → Prop} (h : ∀ i, i < l.length → ∀ y, l[i]? = some y → p y) : ∀ y ∈ l, p y := fun y hy => by
  obtain ⟨i, hi, he⟩ := List.mem_iff_getElem.1 hy
  exact h i hi y (by rw [List.getElem?_eq_getElem hi, he])
theorem great0 (a : Machine) (hl : a.lines.length ≤ 1000000) : (∀ y ∈ a.lines, y.out.length ≤ 600) ∧ Lref23_Great_0 none ⟨0, a⟩ = some (.inr a) ∨ Lref23_Great_0 none ⟨0, a⟩ = some (.inl (true, a)) := by
  rcases lim_scan (f := fun s => (Wref23_Great_0 s).run) (fun i : Nat => ⟨(i : Int), a⟩) a.lines.length (fun i => ∀ y, a.lines[i]? = some y → y.out.length ≤ 600) (fun _ => .inl (true, a)) (.inr a)
    (fun i hi hp => by
      have k1 : (i : Int) < (a.lines.length : Int) := by omega
      have k2 : (0 : Int) ≤ (i : Int) := by omega
      have hp' := hp _ (List.getElem?_eq_getElem hi)
      have k3 : ¬ (600 : Int) < (a.lines[i].out.length : Int) := by omega
      simp only [Wref23_Great_0, Tree.run, k1, k2, k3, Int.toNat_natCast, List.getElem?_eq_getElem hi, Option.bind_some, wrap_succ hi (show a.lines.length ≤ 9223372036854775807 by omega), decide_true, decide_false, if_true, Bool.false_eq_true, if_false])
    (fun i hi hp => by
      have k1 : (i : Int) < (a.lines.length : Int) := by omega
      have k2 : (0 : Int) ≤ (i : Int) := by omega
      have k3 : (600 : Int) < (a.lines[i].out.length : Int) := by
        rcases Int.lt_or_le 600 (a.lines[i].out.length : Int) with h | h
        · exact h
        · exact absurd (fun y hy => by rw [List.getElem?_eq_getElem hi] at hy; rw [← Option.some.inj hy]; omega) hp
      simp only [Wref23_Great_0, Tree.run, k1, k2, k3, Int.toNat_natCast, List.getElem?_eq_getElem hi, Option.bind_some, decide_true, if_true])
    (by
      have k1 : ¬ (a.lines.length : Int) < (a.lines.length : Int) := by omega
      simp only [Wref23_Great_0, Tree.run, k1, decide_false, Bool.false_eq_true, if_false]) with ⟨q1, q2⟩ | ⟨i, hi, q1, q2⟩
  · exact .inl ⟨get_all q1, q2⟩
  · exact .inr q2
theorem great1 (a : Machine) (hl : a.disk.drive.sectors.length ≤ 1000000) : (∀ y ∈ a.disk.drive.sectors, y.length ≤ 600) ∧ Lref23_Great_1 none ⟨0, a⟩ = some (.inr a) ∨ Lref23_Great_1 none ⟨0, a⟩ = some (.inl (true, a)) := by
  rcases lim_scan (f := fun s => (Wref23_Great_1 s).run) (fun i : Nat => ⟨(i : Int), a⟩) a.disk.drive.sectors.length (fun i => ∀ y, a.disk.drive.sectors[i]? = some y → y.length ≤ 600) (fun _ => .inl (true, a)) (.inr a)
    (fun i hi hp => by
      have k1 : (i : Int) < (a.disk.drive.sectors.length : Int) := by omega
      have k2 : (0 : Int) ≤ (i : Int) := by omega
      have hp' := hp _ (List.getElem?_eq_getElem hi)
      have k3 : ¬ (600 : Int) < (a.disk.drive.sectors[i].length : Int) := by omega
      simp only [Wref23_Great_1, Tree.run, k1, k2, k3, Int.toNat_natCast, List.getElem?_eq_getElem hi, Option.bind_some, wrap_succ hi (show a.disk.drive.sectors.length ≤ 9223372036854775807 by omega), decide_true, decide_false, if_true, Bool.false_eq_true, if_false])
    (fun i hi hp => by
      have k1 : (i : Int) < (a.disk.drive.sectors.length : Int) := by omega
      have k2 : (0 : Int) ≤ (i : Int) := by omega
      have k3 : (600 : Int) < (a.disk.drive.sectors[i].length : Int) := by
        rcases Int.lt_or_le 600 (a.disk.drive.sectors[i].length : Int) with h | h
        · exact h
        · exact absurd (fun y hy => by rw [List.getElem?_eq_getElem hi] at hy; rw [← Option.some.inj hy]; omega) hp
      simp only [Wref23_Great_1, Tree.run, k1, k2, k3, Int.toNat_natCast, List.getElem?_eq_getElem hi, Option.bind_some, decide_true, if_true])
    (by
      have k1 : ¬ (a.disk.drive.sectors.length : Int) < (a.disk.drive.sectors.length : Int) := by omega
      simp only [Wref23_Great_1, Tree.run, k1, decide_false, Bool.false_eq_true, if_false]) with ⟨q1, q2⟩ | ⟨i, hi, q1, q2⟩
  · exact .inl ⟨get_all q1, q2⟩
  · exact .inr q2
theorem great2 (a : Machine) (hl : a.tape.records.length ≤ 1000000) : (∀ y ∈ a.tape.records, y.length ≤ 600) ∧ Lref23_Great_2 none ⟨0, a⟩ = some (.inr ()) ∨ Lref23_Great_2 none ⟨0, a⟩ = some (.inl true) := by
  rcases lim_scan (f := fun s => (Wref23_Great_2 s).run) (fun i : Nat => ⟨(i : Int), a⟩) a.tape.records.length (fun i => ∀ y, a.tape.records[i]? = some y → y.length ≤ 600) (fun _ => .inl true) (.inr ())
    (fun i hi hp => by
      have k1 : (i : Int) < (a.tape.records.length : Int) := by omega
      have k2 : (0 : Int) ≤ (i : Int) := by omega
      have hp' := hp _ (List.getElem?_eq_getElem hi)
      have k3 : ¬ (600 : Int) < (a.tape.records[i].length : Int) := by omega
      simp only [Wref23_Great_2, Tree.run, k1, k2, k3, Int.toNat_natCast, List.getElem?_eq_getElem hi, Option.bind_some, wrap_succ hi (show a.tape.records.length ≤ 9223372036854775807 by omega), decide_true, decide_false, if_true, Bool.false_eq_true, if_false])
    (fun i hi hp => by
      have k1 : (i : Int) < (a.tape.records.length : Int) := by omega
      have k2 : (0 : Int) ≤ (i : Int) := by omega
      have k3 : (600 : Int) < (a.tape.records[i].length : Int) := by
        rcases Int.lt_or_le 600 (a.tape.records[i].length : Int) with h | h
        · exact h
        · exact absurd (fun y hy => by rw [List.getElem?_eq_getElem hi] at hy; rw [← Option.some.inj hy]; omega) hp
      simp only [Wref23_Great_2, Tree.run, k1, k2, k3, Int.toNat_natCast, List.getElem?_eq_getElem hi, Option.bind_some, decide_true, if_true])
    (by
      have k1 : ¬ (a.tape.records.length : Int) < (a.tape.records.length : Int) := by omega
      simp only [Wref23_Great_2, Tree.run, k1, decide_false, Bool.false_eq_true, if_false]) with ⟨q1, q2⟩ | ⟨i, hi, q1, q2⟩
  · exact .inl ⟨get_all q1, q2⟩
  · exact .inr q2
theorem great_def (a : Machine) : ∃ r, ref23_Great none a = some r ∧ (r = false → Modest a) := by
  simp only [ref23_Great, Tref23_Great, Tree.run]
  by_cases c1 : (2048 : Int) < (a.mem.length : Int)
  · exact ⟨true, by simp only [c1, decide_true, if_true], fun h => by cases h⟩
  by_cases c2 : (100 : Int) < (a.bad.length : Int)
  · exact ⟨true, by simp only [c1, c2, decide_true, decide_false, Bool.false_eq_true, if_true, if_false], fun h => by cases h⟩
  by_cases c3 : (10 : Int) < (a.lines.length : Int)
  · exact ⟨true, by simp only [c1, c2, c3, decide_true, decide_false, Bool.false_eq_true, if_true, if_false], fun h => by cases h⟩
  by_cases c4 : (64 : Int) < (a.disk.drive.sectors.length : Int)
  · exact ⟨true, by simp only [c1, c2, c3, c4, decide_true, decide_false, Bool.false_eq_true, if_true, if_false], fun h => by cases h⟩
  by_cases c5 : (100 : Int) < (a.disk.drive.bad.length : Int)
  · exact ⟨true, by simp only [c1, c2, c3, c4, c5, decide_true, decide_false, Bool.false_eq_true, if_true, if_false], fun h => by cases h⟩
  by_cases c6 : (10 : Int) < (a.tape.records.length : Int)
  · exact ⟨true, by simp only [c1, c2, c3, c4, c5, c6, decide_true, decide_false, Bool.false_eq_true, if_true, if_false], fun h => by cases h⟩
  simp only [c1, c2, c3, c4, c5, c6, decide_false, Bool.false_eq_true, if_false]
  rcases great0 a (by omega) with ⟨q0, e0⟩ | e0
  · rcases great1 a (by omega) with ⟨q1, e1⟩ | e1
    · rcases great2 a (by omega) with ⟨q2, e2⟩ | e2
      · exact ⟨false, by simp only [e0, e1, e2, Option.bind_some, Sum.isLeft_inr, Bool.false_eq_true, if_false, Sum.getRight?_inr], fun _ => ⟨by omega, by omega, by omega, by omega, by omega, by omega, q0, q1, q2⟩⟩
      · exact ⟨true, by simp only [e0, e1, e2, Option.bind_some, Sum.isLeft_inr, Sum.isLeft_inl, Bool.false_eq_true, if_false, if_true, Sum.getRight?_inr, Sum.getLeft?_inl], fun h => by cases h⟩
    · exact ⟨true, by simp only [e0, e1, Option.bind_some, Sum.isLeft_inr, Sum.isLeft_inl, Bool.false_eq_true, if_false, if_true, Sum.getRight?_inr, Sum.getLeft?_inl], fun h => by cases h⟩
  · exact ⟨true, by simp only [e0, Option.bind_some, Sum.isLeft_inl, if_true, Sum.getLeft?_inl], fun h => by cases h⟩
end Go.Proofs.YtiafliookmnjoaaGreatDoor
end
section
set_option linter.unusedSimpArgs false
set_option linter.unusedVariables false
namespace Go.Proofs.YtiafliookmnjoaaGreatDoor.C31
open Go Go.Ab
theorem wrap_succ {i n : Nat} (h : i < n) (hn : n ≤ 9223372036854775807) : IntKind.wrap .i64 ((i : Int) + 1) = ((i + 1 : Nat) : Int) := by rw [wrap_id] <;> omega
theorem C08.byte_lt (c : UInt8) : 0 ≤ (c.toNat : Int) ∧ (c.toNat : Int) ≤ 255 := by have := c.toNat_lt; omega
def nums (l : List UInt8) : List Int := l.map fun b => (b.toNat : Int)
/-- a number that is put counts as 0 below 0 -/
def atl (v : Int) : Int := if v < 0 then 0 else v
/-- the first bytes of a number -/
def numsP (v : Int) (n : Nat) : List Int := (List.range n).map fun j => atl v / 256 ^ j % 256
theorem numsP_more (v : Int) (n : Nat) : numsP v (n + 1) = numsP v n ++ [atl v / 256 ^ n % 256] := by
  simp [numsP, List.range_succ]
theorem numsP_len (v : Int) (n : Nat) : (numsP v n).length = n := by simp [numsP]
def putL (v : Int) (n : Nat) : List UInt8 := (numsP v n).map fun x => UInt8.ofNat x.toNat
theorem wrap_u8 (x : Int) : IntKind.wrap .u8 x = x % 256 := rfl
theorem octet_put_loop (v : Int) (n : Nat) (hn : n ≤ 8) : Loctet_Put_0 none ⟨v, (n : Int), (0 : Int), List.replicate n 0⟩ = some (numsP v n) := by
  have hc := lim_count (f := fun s => (Woctet_Put_0 s).run) (fun i : Nat => ⟨v, (n : Int), (i : Int), numsP v i ++ List.replicate (n - i) 0⟩) n (fun i hi => by
    have k1 : (i : Int) < (n : Int) := by omega
    have k2 : (0 : Int) ≤ (i : Int) := by omega
    have w1 : IntKind.wrap .i64 (8 * (i : Int)) = ((8 * i : Nat) : Int) := by rw [wrap_id] <;> omega
    have k3 : (0 : Int) ≤ ((8 * i : Nat) : Int) := by omega
    have hlen : (numsP v i ++ List.replicate (n - i) (0 : Int)).length = n := by rw [List.length_append, numsP_len, List.length_replicate]; omega
    have k4 : (i : Int) < ((numsP v i ++ List.replicate (n - i) (0 : Int)).length : Int) := by rw [hlen]; exact k1
    have g := List.getElem?_eq_getElem (l := numsP v i ++ List.replicate (n - i) (0 : Int)) (i := i) (by omega)
    have w2 := wrap_succ hi (show n ≤ 9223372036854775807 by omega)
    have hv : (if (0 : Int) > v then (0 : Int) else v) = atl v := rfl
    have hp : (2 : Int) ^ (min (8 * i) 64) = 256 ^ i := by
      rw [Nat.min_eq_left (by omega), Int.pow_mul]
      rfl
    have hpos : (0 : Int) < 256 ^ i := Int.pow_pos (by omega)
    have hb : IntKind.wrap .u8 ((atl v).fdiv (256 ^ i)) = atl v / 256 ^ i % 256 := by rw [wrap_u8, fdiv_pos _ (Int.le_of_lt hpos)]
    have hset : (numsP v i ++ List.replicate (n - i) (0 : Int)).set i (atl v / 256 ^ i % 256) = numsP v (i + 1) ++ List.replicate (n - (i + 1)) 0 := by
      rw [List.set_append_right _ _ (by rw [numsP_len]; exact Nat.le_refl _), numsP_len, Nat.sub_self, show n - i = (n - (i + 1)) + 1 by omega, List.replicate_succ, List.set_cons_zero, numsP_more, List.append_assoc]
      rfl
    simp only [Woctet_Put_0, Tree.run, k1, k2, k3, k4, w1, w2, g, decide_true, if_true, Int.toNat_natCast, Option.bind_some, hv, hp, hb, hset]) 0 (Nat.zero_le _)
  have hd : Loctet_Put_0 none ⟨v, (n : Int), (n : Int), numsP v n ++ List.replicate (n - n) 0⟩ = some (numsP v n) := lim_done (by simp [Woctet_Put_0, Tree.run])
  have hc' : Loctet_Put_0 none ⟨v, (n : Int), ((0 : Nat) : Int), numsP v 0 ++ List.replicate (n - 0) 0⟩ = _ := hc
  have h0 : numsP v 0 = [] := rfl
  rw [h0, List.nil_append, Nat.sub_zero] at hc'
  exact hc'.trans hd
theorem octet_Put_def (v : Int) (n : Nat) (hn : n ≤ 8) : octet_Put none v (n : Int) = some (putL v n) := by
  have e1 : (if (8 : Int) < (n : Int) then (8 : Int) else (n : Int)) = (n : Int) := if_neg (by omega)
  have e2 : (if (n : Int) > (0 : Int) then (n : Int) else (0 : Int)) = (n : Int) := by split <;> omega
  have k1 : (0 : Int) ≤ (n : Int) := by omega
  have k2 : (1 : Int) * (n : Int) ≤ 281474976710656 := by omega
  have hl := octet_put_loop v n hn
  simp only [octet_Put, Toctet_Put, Tree.run, e1, e2, k1, k2, decide_true, if_true, Int.toNat_natCast, List.length_replicate, hl, Option.bind_some, putL]
theorem unnums (l : List UInt8) : (nums l).map (fun x => UInt8.ofNat x.toNat) = l := by
  rw [nums, List.map_map]
  refine (List.map_congr_left (g := id) fun b _ => ?_).trans (List.map_id _)
  simp
theorem putL_len (v : Int) (n : Nat) : (putL v n).length = n := by rw [putL, List.length_map, numsP_len]
theorem joined_def (a b : List UInt8) (h : a.length + b.length ≤ 140737488355328) : octet_joined none [a, b] = some (a ++ b) := by
  have l0 : (([] : List Int).length + (nums a).length) * 1 ≤ 140737488355328 := by rw [nums, List.length_map]; simp only [List.length_nil]; omega
  have l1 : ((nums a).length + (nums b).length) * 1 ≤ 140737488355328 := by rw [nums, nums, List.length_map, List.length_map]; omega
  have hc : Loctet_joined_0 none ⟨[a, b], 2, (0 : Int), []⟩ = some (nums (a ++ b)) := by
    have s0 : (Woctet_joined_0 ⟨[a, b], 2, (0 : Int), []⟩).run = some (.inl ⟨[a, b], 2, (1 : Int), nums a⟩) := by
      have w : IntKind.wrap .i64 ((0 : Int) + 1) = 1 := by decide
      have l0' : (([] : List Int).length + (a.map fun b => (b.toNat : Int)).length) * 1 ≤ 140737488355328 := l0
      simp only [Woctet_joined_0, Tree.run, show (0 : Int) < 2 by omega, show (0 : Int) ≤ 0 by omega, decide_true, if_true, show ((0 : Int)).toNat = 0 by rfl, List.getElem?_cons_zero, Option.bind_some, l0', w, List.nil_append]
      rfl
    have s1 : (Woctet_joined_0 ⟨[a, b], 2, (1 : Int), nums a⟩).run = some (.inl ⟨[a, b], 2, (2 : Int), nums a ++ nums b⟩) := by
      have w : IntKind.wrap .i64 ((1 : Int) + 1) = 2 := by decide
      have l1' : ((nums a).length + (b.map fun b => (b.toNat : Int)).length) * 1 ≤ 140737488355328 := l1
      simp only [Woctet_joined_0, Tree.run, show (1 : Int) < 2 by omega, show (0 : Int) ≤ 1 by omega, decide_true, if_true, show ((1 : Int)).toNat = 1 by rfl, List.getElem?_cons_succ, List.getElem?_cons_zero, Option.bind_some, l1', w]
      rfl
    have s2 : (Woctet_joined_0 ⟨[a, b], 2, (2 : Int), nums a ++ nums b⟩).run = some (.inr (nums a ++ nums b)) := by
      simp only [Woctet_joined_0, Tree.run, show ¬ (2 : Int) < 2 by omega, decide_false, Bool.false_eq_true, if_false]
    have e : nums (a ++ b) = nums a ++ nums b := by simp [nums]
    rw [e]
    exact (lim_next s0).trans ((lim_next s1).trans (lim_done s2))
  have hc' : Loctet_joined_0 none ⟨[a, b], (([a, b] : List (List UInt8)).length : Int), (0 : Int), []⟩ = some (nums (a ++ b)) := hc
  simp only [octet_joined, Toctet_joined, Tree.run, hc', Option.bind_some, unnums]
theorem wrap_u32 (x : Int) : IntKind.wrap .u32 x = x % 4294967296 := rfl
theorem and1_32 (n : Nat) : (BitVec.ofInt 32 (n : Int) &&& BitVec.ofInt 32 (1 : Int)).toNat = n % 2 := by
  have h1 : BitVec.ofInt 32 (1 : Int) = 1#32 := by decide
  rw [h1, BitVec.toNat_and, BitVec.ofInt_natCast, BitVec.toNat_ofNat, BitVec.toNat_ofNat, show 1 % 2 ^ 32 = 1 by decide, Nat.and_one_is_mod]
  omega
theorem toNat_32 (n : Nat) (h : n < 4294967296) : (BitVec.ofInt 32 (n : Int)).toNat = n := by
  rw [BitVec.ofInt_natCast, BitVec.toNat_ofNat]
  exact Nat.mod_eq_of_lt h
/-- a step of the checksum -/
def crcS (c : Int) : Int := if c % 2 = 1 then ((BitVec.ofInt 32 (c / 2) ^^^ BitVec.ofInt 32 (3988292384 : Int)).toNat : Int) else c / 2
def U32 (c : Int) : Prop := 0 ≤ c ∧ c < 4294967296
theorem u32_bv (b : BitVec 32) : U32 (b.toNat : Int) := ⟨by omega, by have := b.isLt; omega⟩
theorem wrap_bv (b : BitVec 32) : IntKind.wrap .u32 (b.toNat : Int) = (b.toNat : Int) := by
  have := u32_bv b
  rw [wrap_u32]; exact Int.emod_eq_of_lt this.1 this.2
theorem crcS_in {c : Int} (h : U32 c) : U32 (crcS c) := by
  unfold crcS
  split
  · exact u32_bv _
  · unfold U32 at h ⊢; omega
theorem half1 (c : Int) : c.fdiv (2 ^ (min ((1 : Int)).toNat 32)) = c / 2 := by
  rw [show (2 : Int) ^ (min ((1 : Int)).toNat 32) = 2 by decide, fdiv_pos _ (by omega)]
theorem step_image {c : Int} (h : U32 c) : IntKind.wrap .u32 ((BitVec.ofInt 32 (c / 2) ^^^ BitVec.ofInt 32 (IntKind.wrap .u32 ((IntKind.wrap .u32 ((BitVec.ofInt 32 c &&& BitVec.ofInt 32 (1 : Int)).toNat : Int)) * 3988292384))).toNat : Int) = crcS c := by
  obtain ⟨n, rfl⟩ : ∃ n : Nat, c = (n : Int) := ⟨c.toNat, by have := h.1; omega⟩
  rw [wrap_bv, and1_32]
  have h2 := h.2
  unfold crcS
  rcases (show n % 2 = 0 ∨ n % 2 = 1 by omega) with h1 | h1
  · rw [h1, if_neg (by omega), show IntKind.wrap .u32 ((IntKind.wrap .u32 (((0 : Nat)) : Int)) * 3988292384) = 0 by decide, show BitVec.ofInt 32 (0 : Int) = 0#32 by decide, BitVec.xor_zero, show (n : Int) / 2 = ((n / 2 : Nat) : Int) by omega, toNat_32 _ (by omega)]
  · rw [h1, if_pos (by omega), show IntKind.wrap .u32 ((IntKind.wrap .u32 (((1 : Nat)) : Int)) * 3988292384) = 3988292384 by decide]
def crcN (c : Int) : Nat → Int
  | 0 => c
  | k + 1 => crcS (crcN c k)
theorem crcN_in {c : Int} (h : U32 c) : ∀ k, U32 (crcN c k)
  | 0 => h
  | k + 1 => crcS_in (crcN_in h k)
theorem sum2 (s : Soctet_sum_2) (c : Int) (h : U32 c) : Loctet_sum_2 none { s with t3 := c, t25 := 0 } = some (crcN c 8, s.t5, s.t8, s.t9, s.t10, s.t15, s.t16) := by
  have hc := lim_count (f := fun s => (Woctet_sum_2 s).run) (fun i : Nat => { s with t3 := crcN c i, t25 := (i : Int) }) 8 (fun i hi => by
    have k1 : (i : Int) < 8 := by omega
    have w := wrap_succ hi (show 8 ≤ 9223372036854775807 by omega)
    simp only [Woctet_sum_2, Tree.run, k1, decide_true, if_true, show (0 : Int) ≤ 1 by omega, half1, step_image (crcN_in h i), w, crcN]) 0 (Nat.zero_le _)
  have hd : Loctet_sum_2 none { s with t3 := crcN c 8, t25 := ((8 : Nat) : Int) } = some (crcN c 8, s.t5, s.t8, s.t9, s.t10, s.t15, s.t16) := lim_done (by simp [Woctet_sum_2, Tree.run])
  exact hc.trans hd
def mixB (c : Int) (b : UInt8) : Int := ((BitVec.ofInt 32 c ^^^ BitVec.ofInt 32 (IntKind.wrap .u32 (b.toNat : Int))).toNat : Int)
def crcB (c : Int) (l : List UInt8) : Int := l.foldl (fun c b => crcN (mixB c b) 8) c
theorem crcB_more (c : Int) (l : List UInt8) (b : UInt8) : crcB c (l ++ [b]) = crcN (mixB (crcB c l) b) 8 := by
  simp [crcB]
theorem sum1 (s : Soctet_sum_1) (l : List UInt8) (c : Int) (hl : l.length ≤ 9223372036854775807) (h5 : s.t5 = l) (h15 : s.t15 = (l.length : Int)) : Loctet_sum_1 none { s with t3 := c, t16 := 0 } = some (crcB c l, s.t8, s.t9, s.t10) := by
  have hc := lim_count (f := fun s => (Woctet_sum_1 none s).run) (fun i : Nat => { s with t3 := crcB c (l.take i), t16 := (i : Int) }) l.length (fun i hi => by
    have k1 : (i : Int) < s.t15 := by rw [h15]; omega
    have k2 : (0 : Int) ≤ (i : Int) := by omega
    have g : s.t5[i]? = some l[i] := by rw [h5, List.getElem?_eq_getElem hi]
    have w := wrap_succ hi hl
    have e := crcB_more c (l.take i) l[i]
    rw [← take_one_more hi] at e
    have q := sum2 ⟨mixB (crcB c (l.take i)) l[i], s.t5, s.t8, s.t9, s.t10, s.t15, (i : Int), 0⟩ (mixB (crcB c (l.take i)) l[i]) (u32_bv _)
    have q' : Loctet_sum_2 none ⟨((BitVec.ofInt 32 (crcB c (l.take i)) ^^^ BitVec.ofInt 32 (IntKind.wrap .u32 (l[i].toNat : Int))).toNat : Int), s.t5, s.t8, s.t9, s.t10, s.t15, (i : Int), 0⟩ = some (crcN (mixB (crcB c (l.take i)) l[i]) 8, s.t5, s.t8, s.t9, s.t10, s.t15, (i : Int)) := q
    simp only [Woctet_sum_1, Tree.run, k1, k2, decide_true, if_true, Int.toNat_natCast, g, Option.bind_some, wrap_bv, q', w, e]) 0 (Nat.zero_le _)
  have hd : Loctet_sum_1 none { s with t3 := crcB c (l.take l.length), t16 := (l.length : Int) } = some (crcB c (l.take l.length), s.t8, s.t9, s.t10) := lim_done (by
    have k1 : ¬ (l.length : Int) < s.t15 := by rw [h15]; omega
    simp only [Woctet_sum_1, Tree.run, k1, decide_false, Bool.false_eq_true, if_false])
  rw [List.take_length] at hd
  have hc' := hc
  rw [List.take_length] at hc'
  exact hc'.trans hd
def crcV (l : List UInt8) : Int := ((BitVec.ofInt 32 (crcB 4294967295 l) ^^^ BitVec.ofInt 32 (4294967295 : Int)).toNat : Int)
theorem crcV_in (l : List UInt8) : U32 (crcV l) := u32_bv _
theorem wrapV (l : List UInt8) : IntKind.wrap .i64 (crcV l) = crcV l := by
  have := crcV_in l
  unfold U32 at this
  exact wrap_id (by omega) (by omega)
theorem sum_def (l : List UInt8) (hl : l.length ≤ 9223372036854775807) : octet_sum none [l] = some (crcV l) := by
  have s0 : (Woctet_sum_0 none ⟨(4294967295 : Int), [l], 1, (0 : Int)⟩).run = some (.inl ⟨crcB 4294967295 l, [l], 1, (1 : Int)⟩) := by
    have w : IntKind.wrap .i64 ((0 : Int) + 1) = 1 := by decide
    have q := sum1 ⟨4294967295, l, [l], 1, 0, (l.length : Int), 0⟩ l 4294967295 hl rfl rfl
    have q' : Loctet_sum_1 none ⟨4294967295, l, [l], 1, 0, (l.length : Int), 0⟩ = some (crcB 4294967295 l, [l], 1, 0) := q
    simp only [Woctet_sum_0, Tree.run, show (0 : Int) < 1 by omega, show (0 : Int) ≤ 0 by omega, decide_true, if_true, show ((0 : Int)).toNat = 0 by rfl, List.getElem?_cons_zero, Option.bind_some, q', w]
  have s1 : (Woctet_sum_0 none ⟨crcB 4294967295 l, [l], 1, (1 : Int)⟩).run = some (.inr (crcB 4294967295 l)) := by
    simp only [Woctet_sum_0, Tree.run, show ¬ (1 : Int) < 1 by omega, decide_false, Bool.false_eq_true, if_false]
  have hc : Loctet_sum_0 none ⟨(4294967295 : Int), [l], (([l] : List (List UInt8)).length : Int), (0 : Int)⟩ = some (crcB 4294967295 l) := (lim_next s0).trans (lim_done s1)
  have h := wrapV l
  unfold crcV at h ⊢
  rw [BitVec.xor_comm] at h ⊢
  have e : BitVec.ofInt 32 4294967295 = BitVec.ofInt 32 (4294967295 : Int) := rfl
  simp only [octet_sum, Toctet_sum, Tree.run, hc, Option.bind_some, wrap_bv, h]
def sealL (l : List UInt8) : List UInt8 := l ++ putL (crcV l) 4
def byteN (s : List UInt8) (i : Nat) : Int := ((s.getD i 0).toNat : Int)
theorem byteN_in (s : List UInt8) (i : Nat) : 0 ≤ byteN s i ∧ byteN s i ≤ 255 := C08.byte_lt _
/-- the upper k bytes of the w bytes at a place -/
def upV (s : List UInt8) (a w : Nat) : Nat → Int
  | 0 => 0
  | k + 1 => 256 * upV s a w k + byteN s (a + (w - 1 - k))
theorem upV_in (s : List UInt8) (a w : Nat) : ∀ k, 0 ≤ upV s a w k ∧ upV s a w k < 256 ^ k
  | 0 => by simp [upV]
  | k + 1 => by
    have h := upV_in s a w k
    have hb := byteN_in s (a + (w - 1 - k))
    rw [Int.pow_succ]
    simp only [upV]
    omega
theorem pow_in {k : Nat} (h : k ≤ 6) : (256 : Int) ^ k ≤ 281474976710656 := by
  have : k = 0 ∨ k = 1 ∨ k = 2 ∨ k = 3 ∨ k = 4 ∨ k = 5 ∨ k = 6 := by omega
  rcases this with rfl | rfl | rfl | rfl | rfl | rfl | rfl <;> decide
theorem get_byte {s : List UInt8} {i : Nat} (h : i < s.length) : s[i]? = some s[i] ∧ (s[i].toNat : Int) = byteN s i := by
  refine ⟨List.getElem?_eq_getElem h, ?_⟩
  simp [byteN, List.getD, List.getElem?_eq_getElem h]
theorem octet_get_loop (s : List UInt8) (a w : Nat) (hw : w ≤ 7) (hl : a + w ≤ s.length) (hs : s.length ≤ 1000000) : Loctet_Get_0 none ⟨s, (a : Int), (w : Int), (0 : Int), (w : Int) - 1⟩ = some ((a : Int), (w : Int), upV s a w w) := by
  have hc := lim_count (f := fun s => (Woctet_Get_0 s).run) (fun k : Nat => ⟨s, (a : Int), (w : Int), upV s a w k, (w : Int) - 1 - (k : Int)⟩) w (fun k hk => by
    have hu := upV_in s a w k
    have hp := pow_in (show k ≤ 6 by omega)
    have k1 : (0 : Int) ≤ (w : Int) - 1 - (k : Int) := by omega
    have w0 : IntKind.wrap .i64 ((a : Int) + ((w : Int) - 1 - (k : Int))) = (a : Int) + ((w : Int) - 1 - (k : Int)) := wrap_id (by omega) (by omega)
    have k2 : (0 : Int) ≤ (a : Int) + ((w : Int) - 1 - (k : Int)) := by omega
    have e1 : ((a : Int) + ((w : Int) - 1 - (k : Int))).toNat = a + (w - 1 - k) := by omega
    obtain ⟨g, gb⟩ := get_byte (s := s) (i := a + (w - 1 - k)) (by omega)
    have hb := byteN_in s (a + (w - 1 - k))
    have w1 : IntKind.wrap .i64 (s[a + (w - 1 - k)].toNat : Int) = byteN s (a + (w - 1 - k)) := by rw [gb]; exact wrap_id (by omega) (by omega)
    have w2 : IntKind.wrap .i64 (upV s a w k * 2 ^ (min ((8 : Int)).toNat 64)) = 256 * upV s a w k := by
      rw [show (2 : Int) ^ (min ((8 : Int)).toNat 64) = 256 by decide, Int.mul_comm]
      exact wrap_id (by omega) (by omega)
    have w3 : IntKind.wrap .i64 ((BitVec.ofInt 64 (256 * upV s a w k) ||| BitVec.ofInt 64 (byteN s (a + (w - 1 - k)))).toNat : Int) = upV s a w (k + 1) := by
      rw [or_add 8 _ _ hb.1 (by omega) (by omega) (by omega) (by omega)]; rfl
    have w4 : IntKind.wrap .i64 ((w : Int) - 1 - (k : Int) - 1) = (w : Int) - 1 - ((k + 1 : Nat) : Int) := by rw [wrap_id] <;> omega
    simp only [Woctet_Get_0, Tree.run, k1, k2, decide_true, if_true, show (0 : Int) ≤ 8 by omega, w0, e1, g, Option.bind_some, w1, w2, w3, w4]) 0 (Nat.zero_le _)
  have hd : Loctet_Get_0 none ⟨s, (a : Int), (w : Int), upV s a w w, (w : Int) - 1 - (w : Int)⟩ = some ((a : Int), (w : Int), upV s a w w) := lim_done (by
    have k1 : ¬ (0 : Int) ≤ (w : Int) - 1 - (w : Int) := by omega
    simp only [Woctet_Get_0, Tree.run, k1, decide_false, Bool.false_eq_true, if_false])
  have hc' := hc.trans hd
  simp only [upV, Int.ofNat_zero, Int.sub_zero] at hc'
  exact hc'
def getR (s : List UInt8) (a : Int) (w : Nat) : Int × Int × Int := if a < 0 ∨ (s.length : Int) < a then (0, 0, 1) else if (s.length : Int) - a < (w : Int) then (0, 0, 8) else (upV s a.toNat w w, a + (w : Int), 0)
def textR (s : List UInt8) (a : Int) : List UInt8 × Int × Int := if ¬ (getR s a 2).2.2 = 0 then ([], 0, (getR s a 2).2.2) else if (s.length : Int) - (getR s a 2).2.1 < (getR s a 2).1 then ([], 0, 8) else ((s.drop (getR s a 2).2.1.toNat).take (getR s a 2).1.toNat, (getR s a 2).2.1 + (getR s a 2).1, 0)
theorem getR_ok {s : List UInt8} {a : Int} {w : Nat} (h : (getR s a w).2.2 = 0) : 0 ≤ a ∧ (getR s a w).2.1 = a + (w : Int) ∧ a + (w : Int) ≤ (s.length : Int) ∧ 0 ≤ (getR s a w).1 ∧ (getR s a w).1 < 256 ^ w := by
  unfold getR at h ⊢
  by_cases c1 : a < 0 ∨ (s.length : Int) < a
  · rw [if_pos c1] at h; cases h
  · rw [if_neg c1] at h ⊢
    by_cases c2 : (s.length : Int) - a < (w : Int)
    · rw [if_pos c2] at h; cases h
    · rw [if_neg c2]
      have := upV_in s a.toNat w w
      exact ⟨by omega, rfl, by omega, this.1, this.2⟩
def openR (s : List UInt8) : List UInt8 × Int := if s.length < 4 then ([], 8) else if s.drop (s.length - 4) = putL (crcV (s.take (s.length - 4))) 4 then (s.take (s.length - 4), 0) else ([], 10)
theorem sealL_len (t : List UInt8) : (sealL t).length = t.length + 4 := by simp [sealL, putL_len]
theorem openR_of_seal (t : List UInt8) : openR (sealL t) = (t, 0) := by
  have h1 : (sealL t).length - 4 = t.length := by rw [sealL_len]; omega
  unfold openR
  rw [if_neg (by rw [sealL_len]; omega), h1]
  have h2 : (sealL t).take t.length = t := by simp [sealL]
  have h3 : (sealL t).drop t.length = putL (crcV t) 4 := by simp [sealL]
  rw [h2, h3, if_pos rfl]
theorem sealL_inj {a b : List UInt8} (h : sealL a = sealL b) : a = b := by
  have h1 := openR_of_seal a
  have h2 := openR_of_seal b
  rw [h, h2] at h1
  injection h1 with h3
  exact h3.symm
theorem bv_val {n : Int} (h : U32 n) : ((BitVec.ofInt 32 n).toNat : Int) = n := by
  obtain ⟨k, rfl⟩ : ∃ k : Nat, n = (k : Int) := ⟨n.toNat, by have := h.1; omega⟩
  rw [toNat_32 k (by have := h.2; omega)]
theorem bv_inj {a b : Int} (ha : U32 a) (hb : U32 b) (h : BitVec.ofInt 32 a = BitVec.ofInt 32 b) : a = b := by
  have := bv_val ha
  rw [h, bv_val hb] at this
  exact this.symm
theorem xor_l {a b k : Int} (ha : U32 a) (hb : U32 b) (h : ((BitVec.ofInt 32 a ^^^ BitVec.ofInt 32 k).toNat : Int) = ((BitVec.ofInt 32 b ^^^ BitVec.ofInt 32 k).toNat : Int)) : a = b := by
  have h1 : (BitVec.ofInt 32 a ^^^ BitVec.ofInt 32 k) = (BitVec.ofInt 32 b ^^^ BitVec.ofInt 32 k) := BitVec.eq_of_toNat_eq (Int.ofNat.inj h)
  have h2 := congrArg (· ^^^ BitVec.ofInt 32 k) h1
  simp only [BitVec.xor_assoc, BitVec.xor_self, BitVec.xor_zero] at h2
  exact bv_inj ha hb h2
theorem xor_r {a b k : Int} (ha : U32 a) (hb : U32 b) (h : ((BitVec.ofInt 32 k ^^^ BitVec.ofInt 32 a).toNat : Int) = ((BitVec.ofInt 32 k ^^^ BitVec.ofInt 32 b).toNat : Int)) : a = b := by
  rw [BitVec.xor_comm, BitVec.xor_comm (BitVec.ofInt 32 k)] at h
  exact xor_l ha hb h
/-- the two ways of a step are apart -/
theorem crc_high {a : Int} (h0 : 0 ≤ a) (h : a < 2147483648) : 2147483648 ≤ ((BitVec.ofInt 32 a ^^^ BitVec.ofInt 32 (3988292384 : Int)).toNat : Int) := by
  obtain ⟨k, rfl⟩ : ∃ k : Nat, a = (k : Int) := ⟨a.toNat, by omega⟩
  rw [BitVec.toNat_xor, toNat_32 k (by omega), show (BitVec.ofInt 32 (3988292384 : Int)).toNat = 3988292384 by decide]
  have hb : (k ^^^ 3988292384).testBit 31 = true := by
    rw [Nat.testBit_xor, Nat.testBit_lt_two_pow (show k < 2 ^ 31 by omega)]
    decide
  rcases Nat.lt_or_ge (k ^^^ 3988292384) (2 ^ 31) with h2 | h2
  · rw [Nat.testBit_lt_two_pow h2] at hb; cases hb
  · omega
theorem crcS_inj {a b : Int} (ha : U32 a) (hb : U32 b) (h : crcS a = crcS b) : a = b := by
  unfold crcS at h
  unfold U32 at ha hb
  by_cases p : a % 2 = 1 <;> by_cases q : b % 2 = 1
  · rw [if_pos p, if_pos q] at h
    have := xor_l (a := a / 2) (b := b / 2) ⟨by omega, by omega⟩ ⟨by omega, by omega⟩ h
    omega
  · rw [if_pos p, if_neg q] at h
    have := crc_high (a := a / 2) (by omega) (by omega)
    omega
  · rw [if_neg p, if_pos q] at h
    have := crc_high (a := b / 2) (by omega) (by omega)
    omega
  · rw [if_neg p, if_neg q] at h
    omega
theorem crcN_inj {a b : Int} (ha : U32 a) (hb : U32 b) : ∀ k, crcN a k = crcN b k → a = b
  | 0, h => h
  | k + 1, h => crcN_inj ha hb k (crcS_inj (crcN_in ha k) (crcN_in hb k) h)
theorem mixB_in (c : Int) (b : UInt8) : U32 (mixB c b) := u32_bv _
theorem byte_u32 (b : UInt8) : U32 (b.toNat : Int) ∧ IntKind.wrap .u32 (b.toNat : Int) = (b.toNat : Int) := by
  have h : b.toNat < 256 := b.toNat_lt
  have h1 : U32 (b.toNat : Int) := ⟨by omega, by omega⟩
  exact ⟨h1, by rw [wrap_u32]; exact Int.emod_eq_of_lt h1.1 h1.2⟩
theorem mixB_b {c : Int} {a b : UInt8} (h : mixB c a = mixB c b) : a = b := by
  unfold mixB at h
  obtain ⟨a1, a2⟩ := byte_u32 a
  obtain ⟨b1, b2⟩ := byte_u32 b
  rw [a2, b2] at h
  have := xor_r a1 b1 h
  exact UInt8.toNat_inj.1 (by omega)
theorem mixB_c {c d : Int} {a : UInt8} (hc : U32 c) (hd : U32 d) (h : mixB c a = mixB d a) : c = d := xor_l hc hd h
theorem crcB_in {c : Int} (h : U32 c) : ∀ l, U32 (crcB c l)
  | [] => h
  | b :: l => crcB_in (crcN_in (mixB_in c b) 8) l
theorem crcB_inj : ∀ (l : List UInt8) {c d : Int}, U32 c → U32 d → crcB c l = crcB d l → c = d
  | [], _, _, _, _, h => h
  | b :: l, c, d, hc, hd, h => by
    have h1 := crcB_inj l (crcN_in (mixB_in c b) 8) (crcN_in (mixB_in d b) 8) h
    exact mixB_c hc hd (crcN_inj (mixB_in c b) (mixB_in d b) 8 h1)
theorem crcB_set {c : Int} (hc : U32 c) : ∀ (l : List UInt8) (k : Nat) (b : UInt8), (hk : k < l.length) → crcB c (l.set k b) = crcB c l → b = l[k]
  | [], k, b, hk, _ => by simp at hk
  | a :: l, 0, b, _, h => by
    have h1 := crcB_inj l (crcN_in (mixB_in c b) 8) (crcN_in (mixB_in c a) 8) h
    exact mixB_b (crcN_inj (mixB_in c b) (mixB_in c a) 8 h1)
  | a :: l, k + 1, b, hk, h => by
    have := crcB_set (crcN_in (mixB_in c a) 8) l k b (by simpa using hk) h
    simpa using this
theorem crcV_set (l : List UInt8) (k : Nat) (b : UInt8) (hk : k < l.length) (h : crcV (l.set k b) = crcV l) : b = l[k] := by
  have h0 : U32 4294967295 := ⟨by omega, by omega⟩
  exact crcB_set h0 l k b hk (xor_l (crcB_in h0 _) (crcB_in h0 _) h)
theorem atl_id {v : Int} (h : 0 ≤ v) : atl v = v := by unfold atl; rw [if_neg (by omega)]
theorem putL_get {v : Int} {n i : Nat} (h : i < n) : (putL v n)[i]? = some (UInt8.ofNat (atl v / 256 ^ i % 256).toNat) := by
  simp [putL, numsP, h]
theorem byte_put (p q : List UInt8) {v : Int} {n i : Nat} (h : i < n) : byteN (p ++ (putL v n ++ q)) (p.length + i) = atl v / 256 ^ i % 256 := by
  have e : (p ++ (putL v n ++ q))[p.length + i]? = some (UInt8.ofNat (atl v / 256 ^ i % 256).toNat) := by
    rw [List.getElem?_append_right (by omega), Nat.add_sub_cancel_left, List.getElem?_append_left (by rw [putL_len]; exact h), putL_get h]
  unfold byteN
  rw [List.getD_eq_getElem?_getD, e]
  have h1 := Int.emod_nonneg (atl v / 256 ^ i) (show (256 : Int) ≠ 0 by omega)
  have h2 := Int.emod_lt_of_pos (atl v / 256 ^ i) (show (0 : Int) < 256 by omega)
  simp only [Option.getD_some, UInt8.toNat_ofNat']
  omega
theorem up_put (p q : List UInt8) {v : Int} {n : Nat} (hv : v < 256 ^ n) (h0 : 0 ≤ v) : ∀ k, k ≤ n → upV (p ++ (putL v n ++ q)) p.length n k = v / 256 ^ (n - k)
  | 0, _ => by
    simp only [upV, Nat.sub_zero]
    exact (Int.ediv_eq_zero_of_lt h0 hv).symm
  | k + 1, hk => by
    have h := up_put p q hv h0 k (by omega)
    have hb := byte_put p q (v := v) (n := n) (i := n - 1 - k) (by omega)
    simp only [upV, h, hb, atl_id h0]
    have e : n - k = (n - (k + 1)) + 1 := by omega
    have e2 : n - 1 - k = n - (k + 1) := by omega
    rw [e2, e, Int.pow_succ, ← Int.ediv_ediv_of_nonneg (Int.le_of_lt (Int.pow_pos (by omega)))]
    omega
theorem get_put (p q : List UInt8) {v : Int} {n : Nat} (hv : v < 256 ^ n) (h0 : 0 ≤ v) : getR (p ++ (putL v n ++ q)) (p.length : Int) n = (v, (p.length : Int) + (n : Int), 0) := by
  have h1 : ¬ ((p.length : Int) < 0 ∨ (((p ++ (putL v n ++ q)).length : Nat) : Int) < (p.length : Int)) := by
    simp only [List.length_append, putL_len]; omega
  have h2 : ¬ (((p ++ (putL v n ++ q)).length : Nat) : Int) - (p.length : Int) < (n : Int) := by
    simp only [List.length_append, putL_len]; omega
  have h3 := up_put p q hv h0 n (Nat.le_refl _)
  rw [Nat.sub_self, Int.pow_zero, Int.ediv_one] at h3
  unfold getR
  rw [if_neg h1, if_neg h2, Int.toNat_natCast, h3]
theorem putL_inj4 {a b : Int} (ha : U32 a) (hb : U32 b) (h : putL a 4 = putL b 4) : a = b := by
  have h1 := get_put [] [] (v := a) (n := 4) (show a < 4294967296 from ha.2) ha.1
  have h2 := get_put [] [] (v := b) (n := 4) (show b < 4294967296 from hb.2) hb.1
  rw [h, h2] at h1
  exact (congrArg Prod.fst h1).symm
end Go.Proofs.YtiafliookmnjoaaGreatDoor.C31
end
section
set_option linter.unusedSimpArgs false
set_option linter.unusedVariables false
namespace Go.Proofs.YtiafliookmnjoaaGreatDoor
open Go Go.Ab C31
/-- numbers put one after the other -/
def numsB (l : List Int) (w : Nat) : List UInt8 := l.flatMap fun n => putL n w
theorem numsB_len (l : List Int) (w : Nat) : (numsB l w).length = l.length * w := by
  induction l with
  | nil => simp [numsB]
  | cons a l ih =>
    have e : numsB (a :: l) w = putL a w ++ numsB l w := by simp [numsB]
    rw [e, List.length_append, ih, putL_len, List.length_cons, Nat.succ_mul]; omega
theorem numsB_more {l : List Int} {w i : Nat} (hi : i < l.length) : numsB (l.take (i + 1)) w = numsB (l.take i) w ++ putL l[i] w := by
  rw [take_one_more hi]; simp only [numsB, List.flatMap_append, List.flatMap_cons, List.flatMap_nil, List.append_nil]
theorem nums_append (a b : List UInt8) : nums (a ++ b) = nums a ++ nums b := by simp [nums]
theorem nums_len (a : List UInt8) : (nums a).length = a.length := by simp [nums]
theorem wr_def (x : List UInt8) (g : List Int) (h : g.length + x.length ≤ 100000000) : strings_Builder_WriteString_V2 x () g = some ((x.length : Int), g ++ nums x) := by
  have k : (g.length + (x.map fun b => (b.toNat : Int)).length) * 1 ≤ 140737488355328 := by rw [List.length_map]; omega
  simp only [strings_Builder_WriteString_V2, Tstrings_Builder_WriteString_V2, Tree.run, ccF, Option.bind_some, k, decide_true, if_true]
  rfl
theorem nums_def (l : List Int) (w : Nat) (g : List Int) (hw : w ≤ 8) (hl : l.length ≤ 1000000) (hg : g.length ≤ 10000000) : save_writer_nums_V2 none (w : Int) () l g = some (l, g ++ nums (numsB l w)) := by
  have hc := lim_count (f := fun s => (Wsave_writer_nums_V2_0 none l s).run) (fun i : Nat => ⟨(w : Int), (l.length : Int), (i : Int), g ++ nums (numsB (l.take i) w)⟩) l.length (fun i hi => by
    have k1 : (i : Int) < (l.length : Int) := by omega
    have k2 : (0 : Int) ≤ (i : Int) := by omega
    have hlen : (numsB (l.take i) w).length ≤ 8000000 := by
      rw [numsB_len, List.length_take, Nat.min_eq_left (by omega)]
      have := Nat.mul_le_mul (show i ≤ 1000000 by omega) hw
      omega
    have hp := putL_len l[i] w
    have hwr := wr_def (putL l[i] w) (g ++ nums (numsB (l.take i) w)) (by rw [List.length_append, nums_len]; omega)
    rw [List.append_assoc, ← nums_append, ← numsB_more hi] at hwr
    simp only [Wsave_writer_nums_V2_0, Tree.run, k1, k2, Int.toNat_natCast, List.getElem?_eq_getElem hi, Option.bind_some, octet_Put_def l[i] w hw, hwr, wrap_succ hi (show l.length ≤ 9223372036854775807 by omega), decide_true, if_true]) 0 (Nat.zero_le _)
  have hd : Lsave_writer_nums_V2_0 none l ⟨(w : Int), (l.length : Int), (l.length : Int), g ++ nums (numsB (l.take l.length) w)⟩ = some (g ++ nums (numsB (l.take l.length) w)) := lim_done (by
    have k1 : ¬ (l.length : Int) < (l.length : Int) := by omega
    simp only [Wsave_writer_nums_V2_0, Tree.run, k1, decide_false, Bool.false_eq_true, if_false])
  rw [List.take_length] at hd
  have hc' := hc
  rw [List.take_length] at hc'
  have h0 : g ++ nums (numsB (l.take 0) w) = g := by simp [numsB, nums]
  simp only [h0] at hc'
  have h : Lsave_writer_nums_V2_0 none l ⟨(w : Int), (l.length : Int), 0, g⟩ = some (g ++ nums (numsB l w)) := hc'.trans hd
  simp only [save_writer_nums_V2, Tsave_writer_nums_V2, Tree.run, h, Option.bind_some]
theorem word_def (n : Int) (g : List Int) (hg : g.length ≤ 10000000) : save_writer_word none n () g = some (g ++ nums (putL n 2)) := by
  have h := nums_def [n] 2 g (by omega) (by simp) hg
  have h : save_writer_nums_V2 none (2 : Int) () [n] g = some ([n], g ++ nums (numsB [n] 2)) := h
  have e : numsB [n] 2 = putL n 2 := by simp [numsB]
  simp only [save_writer_word, Tsave_writer_word, Tree.run, h, Option.bind_some, e]
def bitB (b : Bool) : List UInt8 := putL (if b then 1 else 0) 1
def bitsB (l : List Bool) : List UInt8 := l.flatMap bitB
theorem bitsB_more {l : List Bool} {i : Nat} (hi : i < l.length) : bitsB (l.take (i + 1)) = bitsB (l.take i) ++ bitB l[i] := by
  rw [take_one_more hi]; simp only [bitsB, List.flatMap_append, List.flatMap_cons, List.flatMap_nil, List.append_nil]
theorem bitsB_len (l : List Bool) : (bitsB l).length = l.length := by
  induction l with
  | nil => simp [bitsB]
  | cons a l ih =>
    have e : bitsB (a :: l) = bitB a ++ bitsB l := by simp [bitsB]
    rw [e, List.length_append, ih, bitB, putL_len, List.length_cons]; omega
theorem truths_def (l : List Bool) (g : List Int) (hl : l.length ≤ 1000000) (hg : g.length ≤ 9000000) : save_writer_truths none () l g = some (l, g ++ nums (bitsB l)) := by
  have hc := lim_count (f := fun s => (Wsave_writer_truths_0 none l s).run) (fun i : Nat => ⟨(l.length : Int), (i : Int), g ++ nums (bitsB (l.take i))⟩) l.length (fun i hi => by
    have k1 : (i : Int) < (l.length : Int) := by omega
    have k2 : (0 : Int) ≤ (i : Int) := by omega
    have hlen : (g ++ nums (bitsB (l.take i))).length ≤ 10000000 := by
      rw [List.length_append, nums_len, bitsB_len, List.length_take, Nat.min_eq_left (by omega)]; omega
    have h1 := nums_def [1] 1 _ (by omega) (by simp) hlen
    have h0 := nums_def [0] 1 _ (by omega) (by simp) hlen
    have h1 : save_writer_nums_V2 none (1 : Int) () [(1 : Int)] (g ++ nums (bitsB (l.take i))) = some ([1], g ++ nums (bitsB (l.take i)) ++ nums (numsB [1] 1)) := h1
    have h0 : save_writer_nums_V2 none (1 : Int) () [(0 : Int)] (g ++ nums (bitsB (l.take i))) = some ([0], g ++ nums (bitsB (l.take i)) ++ nums (numsB [0] 1)) := h0
    have hm := bitsB_more hi
    have w := wrap_succ hi (show l.length ≤ 9223372036854775807 by omega)
    cases hb : l[i] with
    | true =>
      have e : g ++ nums (bitsB (l.take i)) ++ nums (numsB [1] 1) = g ++ nums (bitsB (l.take (i + 1))) := by
        rw [hm, hb, nums_append, List.append_assoc]; simp [numsB, bitB]
      rw [e] at h1
      simp only [Wsave_writer_truths_0, Tree.run, k1, k2, Int.toNat_natCast, List.getElem?_eq_getElem hi, hb, Option.bind_some, h1, w, decide_true, if_true]
    | false =>
      have e : g ++ nums (bitsB (l.take i)) ++ nums (numsB [0] 1) = g ++ nums (bitsB (l.take (i + 1))) := by
        rw [hm, hb, nums_append, List.append_assoc]; simp [numsB, bitB]
      rw [e] at h0
      simp only [Wsave_writer_truths_0, Tree.run, k1, k2, Int.toNat_natCast, List.getElem?_eq_getElem hi, hb, Option.bind_some, h0, w, decide_true, if_true, Bool.false_eq_true, if_false]) 0 (Nat.zero_le _)
  have hd : Lsave_writer_truths_0 none l ⟨(l.length : Int), (l.length : Int), g ++ nums (bitsB (l.take l.length))⟩ = some (g ++ nums (bitsB (l.take l.length))) := lim_done (by
    have k1 : ¬ (l.length : Int) < (l.length : Int) := by omega
    simp only [Wsave_writer_truths_0, Tree.run, k1, decide_false, Bool.false_eq_true, if_false])
  rw [List.take_length] at hd
  have hc' := hc
  rw [List.take_length] at hc'
  have h0 : g ++ nums (bitsB (l.take 0)) = g := by simp [bitsB, nums]
  simp only [h0] at hc'
  have h : Lsave_writer_truths_0 none l ⟨(l.length : Int), 0, g⟩ = some (g ++ nums (bitsB l)) := hc'.trans hd
  simp only [save_writer_truths, Tsave_writer_truths, Tree.run, h, Option.bind_some]
end Go.Proofs.YtiafliookmnjoaaGreatDoor
end
section
set_option linter.unusedSimpArgs false
set_option linter.unusedVariables false
namespace Go.Proofs.YtiafliookmnjoaaGreatDoor
open Go Go.Ab C31
def textB (s : List UInt8) : List UInt8 := putL (s.length : Int) 2 ++ s
theorem textB_len (s : List UInt8) : (textB s).length = s.length + 2 := by rw [textB, List.length_append, putL_len]; omega
theorem putText_def (s : List UInt8) (h : s.length ≤ 65535) : octet_PutText none s = some (textB s) := by
  have e1 : ¬ (65535 : Int) < (s.length : Int) := by omega
  have p1 : octet_Put none (s.length : Int) (2 : Int) = some (putL (s.length : Int) 2) := octet_Put_def (s.length : Int) 2 (by omega)
  have hj := joined_def (putL (s.length : Int) 2) s (by rw [putL_len]; omega)
  have k0 : (0 : Int) ≤ (s.length : Int) := by omega
  simp only [octet_PutText, Toctet_PutText, Tree.run, e1, if_false, k0, Int.le_refl, decide_true, if_true, List.drop_zero, Nat.sub_zero, Int.toNat_natCast, List.take_length, p1, hj, Option.bind_some, textB]
theorem text_def (s : List UInt8) (g : List Int) (hs : s.length ≤ 65535) (hg : g.length ≤ 10000000) : save_writer_text none s () g = some (g ++ nums (textB s)) := by
  have hw := wr_def (textB s) g (by rw [textB_len]; omega)
  simp only [save_writer_text, Tsave_writer_text, Tree.run, putText_def s hs, hw, Option.bind_some]
theorem flat_more {α : Type} (f : α → List UInt8) {l : List α} {i : Nat} (hi : i < l.length) : (l.take (i + 1)).flatMap f = (l.take i).flatMap f ++ f l[i] := by
  rw [take_one_more hi]; simp only [List.flatMap_append, List.flatMap_cons, List.flatMap_nil, List.append_nil]
theorem flat_len {α : Type} (f : α → List UInt8) (n : Nat) : ∀ l : List α, (∀ y ∈ l, (f y).length ≤ n) → (l.flatMap f).length ≤ l.length * n
  | [], _ => by simp
  | y :: l, h => by
    have h1 := flat_len f n l fun z hz => h z (List.mem_cons_of_mem _ hz)
    have h2 := h y (List.mem_cons_self ..)
    simp only [List.flatMap_cons, List.length_append, List.length_cons, Nat.succ_mul]
    omega
def listB {α : Type} (f : α → List UInt8) (l : List α) : List UInt8 := putL (l.length : Int) 2 ++ l.flatMap f
theorem listInt_def (l : List Int) (g : List Int) (hl : l.length ≤ 4000) (hy : ∀ y ∈ l, True) (hg : g.length ≤ 1000000) : save_list_int none l () g = some (g ++ nums (listB (fun n => putL n 2) l)) := by
  have h0 := nums_def [(l.length : Int)] 2 g (by omega) (by simp) (by omega)
  have h0 : save_writer_nums_V2 none (2 : Int) () [(l.length : Int)] g = some ([(l.length : Int)], g ++ nums (numsB [(l.length : Int)] 2)) := h0
  have e0 : numsB [(l.length : Int)] 2 = putL (l.length : Int) 2 := by simp [numsB]
  rw [e0] at h0
  have hq := putL_len (l.length : Int) 2
  have hc := lim_count (f := fun s => (Wsave_list_int_0 none s).run) (fun i : Nat => ⟨l, (l.length : Int), (i : Int), g ++ nums (putL (l.length : Int) 2) ++ nums ((l.take i).flatMap (fun n => putL n 2))⟩) l.length (fun i hi => by
    have k1 : (i : Int) < (l.length : Int) := by omega
    have k2 : (0 : Int) ≤ (i : Int) := by omega
    have hyi := hy l[i] (List.getElem_mem hi)
    have hb := flat_len (fun n => putL n 2) 2 (l.take i) (fun y hy' => by have := hy y (List.mem_of_mem_take hy'); rw [putL_len]; exact Nat.le_refl 2)
    have hb2 : (g ++ nums (putL (l.length : Int) 2) ++ nums ((l.take i).flatMap (fun n => putL n 2))).length ≤ 8000000 := by
      rw [List.length_append, List.length_append, nums_len, nums_len, hq]
      rw [List.length_take, Nat.min_eq_left (by omega)] at hb
      have := Nat.mul_le_mul_right 2 (show i ≤ 4000 by omega)
      omega
    have hone := word_def l[i] _ (Nat.le_trans hb2 (by omega : 8000000 ≤ 10000000))
    have e : g ++ nums (putL (l.length : Int) 2) ++ nums ((l.take i).flatMap (fun n => putL n 2)) ++ nums ((fun n => putL n 2) l[i]) = g ++ nums (putL (l.length : Int) 2) ++ nums ((l.take (i + 1)).flatMap (fun n => putL n 2)) := by
      rw [flat_more _ hi, nums_append, List.append_assoc _ (nums _) (nums _)]
    have e' := hone.trans (congrArg some e)
    simp only [Wsave_list_int_0, Tree.run, k1, k2, Int.toNat_natCast, List.getElem?_eq_getElem hi, Option.bind_some, e', wrap_succ hi (show l.length ≤ 9223372036854775807 by omega), decide_true, if_true]) 0 (Nat.zero_le _)
  have hd : Lsave_list_int_0 none ⟨l, (l.length : Int), (l.length : Int), g ++ nums (putL (l.length : Int) 2) ++ nums ((l.take l.length).flatMap (fun n => putL n 2))⟩ = some (g ++ nums (putL (l.length : Int) 2) ++ nums ((l.take l.length).flatMap (fun n => putL n 2))) := lim_done (by
    have k1 : ¬ (l.length : Int) < (l.length : Int) := by omega
    simp only [Wsave_list_int_0, Tree.run, k1, decide_false, Bool.false_eq_true, if_false])
  rw [List.take_length] at hd
  have hc' := hc
  rw [List.take_length] at hc'
  have hz : g ++ nums (putL (l.length : Int) 2) ++ nums ((l.take 0).flatMap (fun n => putL n 2)) = g ++ nums (putL (l.length : Int) 2) := by simp [nums]
  simp only [hz] at hc'
  have h : Lsave_list_int_0 none ⟨l, (l.length : Int), 0, g ++ nums (putL (l.length : Int) 2)⟩ = some (g ++ nums (putL (l.length : Int) 2) ++ nums (l.flatMap (fun n => putL n 2))) := hc'.trans hd
  simp only [save_list_int, Tsave_list_int, Tree.run, h0, h, Option.bind_some, listB, nums_append, List.append_assoc]
theorem listText_def (l : List (List UInt8)) (g : List Int) (hl : l.length ≤ 4000) (hy : ∀ y ∈ l, y.length ≤ 600) (hg : g.length ≤ 1000000) : save_list_string none l () g = some (g ++ nums (listB textB l)) := by
  have h0 := nums_def [(l.length : Int)] 2 g (by omega) (by simp) (by omega)
  have h0 : save_writer_nums_V2 none (2 : Int) () [(l.length : Int)] g = some ([(l.length : Int)], g ++ nums (numsB [(l.length : Int)] 2)) := h0
  have e0 : numsB [(l.length : Int)] 2 = putL (l.length : Int) 2 := by simp [numsB]
  rw [e0] at h0
  have hq := putL_len (l.length : Int) 2
  have hc := lim_count (f := fun s => (Wsave_list_string_0 none s).run) (fun i : Nat => ⟨l, (l.length : Int), (i : Int), g ++ nums (putL (l.length : Int) 2) ++ nums ((l.take i).flatMap textB)⟩) l.length (fun i hi => by
    have k1 : (i : Int) < (l.length : Int) := by omega
    have k2 : (0 : Int) ≤ (i : Int) := by omega
    have hyi := hy l[i] (List.getElem_mem hi)
    have hb := flat_len textB 602 (l.take i) (fun y hy' => by have := hy y (List.mem_of_mem_take hy'); rw [textB_len]; omega)
    have hb2 : (g ++ nums (putL (l.length : Int) 2) ++ nums ((l.take i).flatMap textB)).length ≤ 8000000 := by
      rw [List.length_append, List.length_append, nums_len, nums_len, hq]
      rw [List.length_take, Nat.min_eq_left (by omega)] at hb
      have := Nat.mul_le_mul_right 602 (show i ≤ 4000 by omega)
      omega
    have hone := text_def l[i] _ (show l[i].length ≤ 65535 by omega) (Nat.le_trans hb2 (by omega : 8000000 ≤ 10000000))
    have e : g ++ nums (putL (l.length : Int) 2) ++ nums ((l.take i).flatMap textB) ++ nums (textB l[i]) = g ++ nums (putL (l.length : Int) 2) ++ nums ((l.take (i + 1)).flatMap textB) := by
      rw [flat_more _ hi, nums_append, List.append_assoc _ (nums _) (nums _)]
    have e' := hone.trans (congrArg some e)
    simp only [Wsave_list_string_0, Tree.run, k1, k2, Int.toNat_natCast, List.getElem?_eq_getElem hi, Option.bind_some, e', wrap_succ hi (show l.length ≤ 9223372036854775807 by omega), decide_true, if_true]) 0 (Nat.zero_le _)
  have hd : Lsave_list_string_0 none ⟨l, (l.length : Int), (l.length : Int), g ++ nums (putL (l.length : Int) 2) ++ nums ((l.take l.length).flatMap textB)⟩ = some (g ++ nums (putL (l.length : Int) 2) ++ nums ((l.take l.length).flatMap textB)) := lim_done (by
    have k1 : ¬ (l.length : Int) < (l.length : Int) := by omega
    simp only [Wsave_list_string_0, Tree.run, k1, decide_false, Bool.false_eq_true, if_false])
  rw [List.take_length] at hd
  have hc' := hc
  rw [List.take_length] at hc'
  have hz : g ++ nums (putL (l.length : Int) 2) ++ nums ((l.take 0).flatMap textB) = g ++ nums (putL (l.length : Int) 2) := by simp [nums]
  simp only [hz] at hc'
  have h : Lsave_list_string_0 none ⟨l, (l.length : Int), 0, g ++ nums (putL (l.length : Int) 2)⟩ = some (g ++ nums (putL (l.length : Int) 2) ++ nums (l.flatMap textB)) := hc'.trans hd
  simp only [save_list_string, Tsave_list_string, Tree.run, h0, h, Option.bind_some, listB, nums_append, List.append_assoc]
end Go.Proofs.YtiafliookmnjoaaGreatDoor
end
section
set_option linter.unusedSimpArgs false
set_option linter.unusedVariables false
namespace Go.Proofs.YtiafliookmnjoaaGreatDoor
open Go Go.Ab C31
def lineB (x : Line) : List UInt8 := (bitsB [x.rxEnable, x.rxReady, x.overrun]) ++ (numsB [x.rxData] 1) ++ (bitsB [x.txEnable, x.txReady]) ++ (numsB [x.txData, x.txLeft] 1) ++ (textB x.out)
theorem line_def (x : Line) (g : List Int) (ho : x.out.length ≤ 600) (hg : g.length ≤ 900000) : save_writer_line none x () g = some (g ++ nums (lineB x)) := by
  have hb0 : g.length ≤ 900000 := hg
  have e0 : save_writer_truths none () [x.rxEnable, x.rxReady, x.overrun] g = some ([x.rxEnable, x.rxReady, x.overrun], g ++ nums (bitsB [x.rxEnable, x.rxReady, x.overrun])) := truths_def [x.rxEnable, x.rxReady, x.overrun] g (by simp) (by omega)
  have hb1 : (g ++ nums (bitsB [x.rxEnable, x.rxReady, x.overrun])).length ≤ 900003 := by
    have hlb : (bitsB [x.rxEnable, x.rxReady, x.overrun]).length ≤ 3 := by rw [bitsB_len]; simp
    rw [List.length_append, nums_len]; omega
  generalize hg1 : g ++ nums (bitsB [x.rxEnable, x.rxReady, x.overrun]) = g1 at e0 hb1
  have e1 : save_writer_nums_V2 none (1 : Int) () [x.rxData] g1 = some ([x.rxData], g1 ++ nums (numsB [x.rxData] 1)) := nums_def [x.rxData] 1 g1 (by omega) (by simp) (by omega)
  have hb2 : (g1 ++ nums (numsB [x.rxData] 1)).length ≤ 900004 := by
    have hlb : (numsB [x.rxData] 1).length ≤ 1 := by rw [numsB_len]; simp
    rw [List.length_append, nums_len]; omega
  generalize hg2 : g1 ++ nums (numsB [x.rxData] 1) = g2 at e1 hb2
  have e2 : save_writer_truths none () [x.txEnable, x.txReady] g2 = some ([x.txEnable, x.txReady], g2 ++ nums (bitsB [x.txEnable, x.txReady])) := truths_def [x.txEnable, x.txReady] g2 (by simp) (by omega)
  have hb3 : (g2 ++ nums (bitsB [x.txEnable, x.txReady])).length ≤ 900006 := by
    have hlb : (bitsB [x.txEnable, x.txReady]).length ≤ 2 := by rw [bitsB_len]; simp
    rw [List.length_append, nums_len]; omega
  generalize hg3 : g2 ++ nums (bitsB [x.txEnable, x.txReady]) = g3 at e2 hb3
  have e3 : save_writer_nums_V2 none (1 : Int) () [x.txData, x.txLeft] g3 = some ([x.txData, x.txLeft], g3 ++ nums (numsB [x.txData, x.txLeft] 1)) := nums_def [x.txData, x.txLeft] 1 g3 (by omega) (by simp) (by omega)
  have hb4 : (g3 ++ nums (numsB [x.txData, x.txLeft] 1)).length ≤ 900008 := by
    have hlb : (numsB [x.txData, x.txLeft] 1).length ≤ 2 := by rw [numsB_len]; simp
    rw [List.length_append, nums_len]; omega
  generalize hg4 : g3 ++ nums (numsB [x.txData, x.txLeft] 1) = g4 at e3 hb4
  have e4 : save_writer_text none x.out () g4 = some (g4 ++ nums (textB x.out)) := text_def x.out g4 (by omega) (by omega)
  have hb5 : (g4 ++ nums (textB x.out)).length ≤ 900610 := by
    have hlb : (textB x.out).length ≤ 602 := by rw [textB_len]; omega
    rw [List.length_append, nums_len]; omega
  generalize hg5 : g4 ++ nums (textB x.out) = g5 at e4 hb5
  have hr : g ++ nums (lineB x) = g5 := by
    rw [← hg5, ← hg4, ← hg3, ← hg2, ← hg1]
    simp only [lineB, nums_append, List.append_assoc]
  rw [hr]
  simp only [save_writer_line, Tsave_writer_line, Tree.run, e0, e1, e2, e3, e4, Option.bind_some]
theorem listB_len {α : Type} (f : α → List UInt8) (n : Nat) (l : List α) (h : ∀ y ∈ l, (f y).length ≤ n) : (listB f l).length ≤ 2 + l.length * n := by
  have := flat_len f n l h
  rw [listB, List.length_append, putL_len]; omega
def diskB (x : Disk) : List UInt8 := (listB textB x.drive.sectors) ++ (listB (fun n => putL n 2) x.drive.bad) ++ (bitsB [x.enable, x.ready, x.error]) ++ (numsB [x.command] 1) ++ (numsB [x.words, x.addr, x.start] 2) ++ (numsB [x.left] 1)
theorem disk_def (x : Disk) (g : List Int) (h1 : x.drive.sectors.length ≤ 64) (h2 : ∀ s ∈ x.drive.sectors, s.length ≤ 600) (h3 : x.drive.bad.length ≤ 100) (hg : g.length ≤ 900000) : save_writer_disk none x () g = some (g ++ nums (diskB x)) := by
  have hb0 : g.length ≤ 900000 := hg
  have e0 : save_list_string none x.drive.sectors () g = some (g ++ nums (listB textB x.drive.sectors)) := listText_def x.drive.sectors g (by omega) h2 (by omega)
  have hb1 : (g ++ nums (listB textB x.drive.sectors)).length ≤ 938530 := by
    have hlb : (listB textB x.drive.sectors).length ≤ 38530 := by have := listB_len textB 602 x.drive.sectors (fun y hy => by rw [textB_len]; have := h2 y hy; omega); have := Nat.mul_le_mul_right 602 h1; omega
    rw [List.length_append, nums_len]; omega
  generalize hg1 : g ++ nums (listB textB x.drive.sectors) = g1 at e0 hb1
  have e1 : save_list_int none x.drive.bad () g1 = some (g1 ++ nums (listB (fun n => putL n 2) x.drive.bad)) := listInt_def x.drive.bad g1 (by omega) (fun _ _ => trivial) (by omega)
  have hb2 : (g1 ++ nums (listB (fun n => putL n 2) x.drive.bad)).length ≤ 938732 := by
    have hlb : (listB (fun n => putL n 2) x.drive.bad).length ≤ 202 := by have := listB_len (fun n => putL n 2) 2 x.drive.bad (fun y _ => by rw [putL_len]; exact Nat.le_refl 2); have := Nat.mul_le_mul_right 2 h3; omega
    rw [List.length_append, nums_len]; omega
  generalize hg2 : g1 ++ nums (listB (fun n => putL n 2) x.drive.bad) = g2 at e1 hb2
  have e2 : save_writer_truths none () [x.enable, x.ready, x.error] g2 = some ([x.enable, x.ready, x.error], g2 ++ nums (bitsB [x.enable, x.ready, x.error])) := truths_def [x.enable, x.ready, x.error] g2 (by simp) (by omega)
  have hb3 : (g2 ++ nums (bitsB [x.enable, x.ready, x.error])).length ≤ 938735 := by
    have hlb : (bitsB [x.enable, x.ready, x.error]).length ≤ 3 := by rw [bitsB_len]; simp
    rw [List.length_append, nums_len]; omega
  generalize hg3 : g2 ++ nums (bitsB [x.enable, x.ready, x.error]) = g3 at e2 hb3
  have e3 : save_writer_nums_V2 none (1 : Int) () [x.command] g3 = some ([x.command], g3 ++ nums (numsB [x.command] 1)) := nums_def [x.command] 1 g3 (by omega) (by simp) (by omega)
  have hb4 : (g3 ++ nums (numsB [x.command] 1)).length ≤ 938736 := by
    have hlb : (numsB [x.command] 1).length ≤ 1 := by rw [numsB_len]; simp
    rw [List.length_append, nums_len]; omega
  generalize hg4 : g3 ++ nums (numsB [x.command] 1) = g4 at e3 hb4
  have e4 : save_writer_nums_V2 none (2 : Int) () [x.words, x.addr, x.start] g4 = some ([x.words, x.addr, x.start], g4 ++ nums (numsB [x.words, x.addr, x.start] 2)) := nums_def [x.words, x.addr, x.start] 2 g4 (by omega) (by simp) (by omega)
  have hb5 : (g4 ++ nums (numsB [x.words, x.addr, x.start] 2)).length ≤ 938742 := by
    have hlb : (numsB [x.words, x.addr, x.start] 2).length ≤ 6 := by rw [numsB_len]; simp
    rw [List.length_append, nums_len]; omega
  generalize hg5 : g4 ++ nums (numsB [x.words, x.addr, x.start] 2) = g5 at e4 hb5
  have e5 : save_writer_nums_V2 none (1 : Int) () [x.left] g5 = some ([x.left], g5 ++ nums (numsB [x.left] 1)) := nums_def [x.left] 1 g5 (by omega) (by simp) (by omega)
  have hb6 : (g5 ++ nums (numsB [x.left] 1)).length ≤ 938743 := by
    have hlb : (numsB [x.left] 1).length ≤ 1 := by rw [numsB_len]; simp
    rw [List.length_append, nums_len]; omega
  generalize hg6 : g5 ++ nums (numsB [x.left] 1) = g6 at e5 hb6
  have hr : g ++ nums (diskB x) = g6 := by
    rw [← hg6, ← hg5, ← hg4, ← hg3, ← hg2, ← hg1]
    simp only [diskB, nums_append, List.append_assoc]
  rw [hr]
  simp only [save_writer_disk, Tsave_writer_disk, Tree.run, e0, e1, e2, e3, e4, e5, Option.bind_some]
def tapeB (x : Tape) : List UInt8 := (listB textB x.records) ++ (numsB [x.pos] 1) ++ (bitsB [x.enable, x.ready, x.error, x.mark, x.end_]) ++ (numsB [x.command] 1) ++ (numsB [x.count, x.addr] 2) ++ (numsB [x.left] 1)
theorem tape_def (x : Tape) (g : List Int) (h1 : x.records.length ≤ 10) (h2 : ∀ s ∈ x.records, s.length ≤ 600) (hg : g.length ≤ 900000) : save_writer_tape none x () g = some (g ++ nums (tapeB x)) := by
  have hb0 : g.length ≤ 900000 := hg
  have e0 : save_list_string none x.records () g = some (g ++ nums (listB textB x.records)) := listText_def x.records g (by omega) h2 (by omega)
  have hb1 : (g ++ nums (listB textB x.records)).length ≤ 906022 := by
    have hlb : (listB textB x.records).length ≤ 6022 := by have := listB_len textB 602 x.records (fun y hy => by rw [textB_len]; have := h2 y hy; omega); have := Nat.mul_le_mul_right 602 h1; omega
    rw [List.length_append, nums_len]; omega
  generalize hg1 : g ++ nums (listB textB x.records) = g1 at e0 hb1
  have e1 : save_writer_nums_V2 none (1 : Int) () [x.pos] g1 = some ([x.pos], g1 ++ nums (numsB [x.pos] 1)) := nums_def [x.pos] 1 g1 (by omega) (by simp) (by omega)
  have hb2 : (g1 ++ nums (numsB [x.pos] 1)).length ≤ 906023 := by
    have hlb : (numsB [x.pos] 1).length ≤ 1 := by rw [numsB_len]; simp
    rw [List.length_append, nums_len]; omega
  generalize hg2 : g1 ++ nums (numsB [x.pos] 1) = g2 at e1 hb2
  have e2 : save_writer_truths none () [x.enable, x.ready, x.error, x.mark, x.end_] g2 = some ([x.enable, x.ready, x.error, x.mark, x.end_], g2 ++ nums (bitsB [x.enable, x.ready, x.error, x.mark, x.end_])) := truths_def [x.enable, x.ready, x.error, x.mark, x.end_] g2 (by simp) (by omega)
  have hb3 : (g2 ++ nums (bitsB [x.enable, x.ready, x.error, x.mark, x.end_])).length ≤ 906028 := by
    have hlb : (bitsB [x.enable, x.ready, x.error, x.mark, x.end_]).length ≤ 5 := by rw [bitsB_len]; simp
    rw [List.length_append, nums_len]; omega
  generalize hg3 : g2 ++ nums (bitsB [x.enable, x.ready, x.error, x.mark, x.end_]) = g3 at e2 hb3
  have e3 : save_writer_nums_V2 none (1 : Int) () [x.command] g3 = some ([x.command], g3 ++ nums (numsB [x.command] 1)) := nums_def [x.command] 1 g3 (by omega) (by simp) (by omega)
  have hb4 : (g3 ++ nums (numsB [x.command] 1)).length ≤ 906029 := by
    have hlb : (numsB [x.command] 1).length ≤ 1 := by rw [numsB_len]; simp
    rw [List.length_append, nums_len]; omega
  generalize hg4 : g3 ++ nums (numsB [x.command] 1) = g4 at e3 hb4
  have e4 : save_writer_nums_V2 none (2 : Int) () [x.count, x.addr] g4 = some ([x.count, x.addr], g4 ++ nums (numsB [x.count, x.addr] 2)) := nums_def [x.count, x.addr] 2 g4 (by omega) (by simp) (by omega)
  have hb5 : (g4 ++ nums (numsB [x.count, x.addr] 2)).length ≤ 906033 := by
    have hlb : (numsB [x.count, x.addr] 2).length ≤ 4 := by rw [numsB_len]; simp
    rw [List.length_append, nums_len]; omega
  generalize hg5 : g4 ++ nums (numsB [x.count, x.addr] 2) = g5 at e4 hb5
  have e5 : save_writer_nums_V2 none (1 : Int) () [x.left] g5 = some ([x.left], g5 ++ nums (numsB [x.left] 1)) := nums_def [x.left] 1 g5 (by omega) (by simp) (by omega)
  have hb6 : (g5 ++ nums (numsB [x.left] 1)).length ≤ 906034 := by
    have hlb : (numsB [x.left] 1).length ≤ 1 := by rw [numsB_len]; simp
    rw [List.length_append, nums_len]; omega
  generalize hg6 : g5 ++ nums (numsB [x.left] 1) = g6 at e5 hb6
  have hr : g ++ nums (tapeB x) = g6 := by
    rw [← hg6, ← hg5, ← hg4, ← hg3, ← hg2, ← hg1]
    simp only [tapeB, nums_append, List.append_assoc]
  rw [hr]
  simp only [save_writer_tape, Tsave_writer_tape, Tree.run, e0, e1, e2, e3, e4, e5, Option.bind_some]
theorem lineB_len (x : Line) (h : x.out.length ≤ 600) : (lineB x).length ≤ 620 := by
  have h1 := bitsB_len [x.rxEnable, x.rxReady, x.overrun]
  have h2 := numsB_len [x.rxData] 1
  have h3 := bitsB_len [x.txEnable, x.txReady]
  have h4 := numsB_len [x.txData, x.txLeft] 1
  have h5 := textB_len x.out
  simp only [List.length_cons, List.length_nil] at h1 h2 h3 h4
  simp only [lineB, List.length_append]
  omega
theorem listLine_def (l : List Line) (g : List Int) (hl : l.length ≤ 10) (hy : ∀ y ∈ l, y.out.length ≤ 600) (hg : g.length ≤ 800000) : save_list_api_Line none l () g = some (g ++ nums (listB lineB l)) := by
  have h0 := nums_def [(l.length : Int)] 2 g (by omega) (by simp) (by omega)
  have h0 : save_writer_nums_V2 none (2 : Int) () [(l.length : Int)] g = some ([(l.length : Int)], g ++ nums (numsB [(l.length : Int)] 2)) := h0
  have e0 : numsB [(l.length : Int)] 2 = putL (l.length : Int) 2 := by simp [numsB]
  rw [e0] at h0
  have hq := putL_len (l.length : Int) 2
  have hc := lim_count (f := fun s => (Wsave_list_api_Line_0 none s).run) (fun i : Nat => ⟨l, (l.length : Int), (i : Int), g ++ nums (putL (l.length : Int) 2) ++ nums ((l.take i).flatMap lineB)⟩) l.length (fun i hi => by
    have k1 : (i : Int) < (l.length : Int) := by omega
    have k2 : (0 : Int) ≤ (i : Int) := by omega
    have hyi := hy l[i] (List.getElem_mem hi)
    have hb := flat_len lineB 620 (l.take i) (fun y hy' => by have := hy y (List.mem_of_mem_take hy'); exact lineB_len y this)
    have hb2 : (g ++ nums (putL (l.length : Int) 2) ++ nums ((l.take i).flatMap lineB)).length ≤ 900000 := by
      rw [List.length_append, List.length_append, nums_len, nums_len, hq]
      rw [List.length_take, Nat.min_eq_left (by omega)] at hb
      have := Nat.mul_le_mul_right 620 (show i ≤ 10 by omega)
      omega
    have hone := line_def l[i] _ (show l[i].out.length ≤ 600 from hyi) hb2
    have e : g ++ nums (putL (l.length : Int) 2) ++ nums ((l.take i).flatMap lineB) ++ nums (lineB l[i]) = g ++ nums (putL (l.length : Int) 2) ++ nums ((l.take (i + 1)).flatMap lineB) := by
      rw [flat_more _ hi, nums_append, List.append_assoc _ (nums _) (nums _)]
    have e' := hone.trans (congrArg some e)
    simp only [Wsave_list_api_Line_0, Tree.run, k1, k2, Int.toNat_natCast, List.getElem?_eq_getElem hi, Option.bind_some, e', wrap_succ hi (show l.length ≤ 9223372036854775807 by omega), decide_true, if_true]) 0 (Nat.zero_le _)
  have hd : Lsave_list_api_Line_0 none ⟨l, (l.length : Int), (l.length : Int), g ++ nums (putL (l.length : Int) 2) ++ nums ((l.take l.length).flatMap lineB)⟩ = some (g ++ nums (putL (l.length : Int) 2) ++ nums ((l.take l.length).flatMap lineB)) := lim_done (by
    have k1 : ¬ (l.length : Int) < (l.length : Int) := by omega
    simp only [Wsave_list_api_Line_0, Tree.run, k1, decide_false, Bool.false_eq_true, if_false])
  rw [List.take_length] at hd
  have hc' := hc
  rw [List.take_length] at hc'
  have hz : g ++ nums (putL (l.length : Int) 2) ++ nums ((l.take 0).flatMap lineB) = g ++ nums (putL (l.length : Int) 2) := by simp [nums]
  simp only [hz] at hc'
  have h : Lsave_list_api_Line_0 none ⟨l, (l.length : Int), 0, g ++ nums (putL (l.length : Int) 2)⟩ = some (g ++ nums (putL (l.length : Int) 2) ++ nums (l.flatMap lineB)) := hc'.trans hd
  simp only [save_list_api_Line, Tsave_list_api_Line, Tree.run, h0, h, Option.bind_some, listB, nums_append, List.append_assoc]
end Go.Proofs.YtiafliookmnjoaaGreatDoor
end
section
set_option linter.unusedSimpArgs false
set_option linter.unusedVariables false
namespace Go.Proofs.YtiafliookmnjoaaGreatDoor
open Go Go.Ab C31
theorem regs_def (c : Cpu) (g : List Int) (h6 : c.r.length = 6) (hg : g.length ≤ 900000) : save_writer_nums none (2 : Int) () c g = some (g ++ nums (numsB c.r 2)) := by
  have hc := lim_count (f := fun s => (Wsave_writer_nums_0 none c s).run) (fun i : Nat => ⟨2, ((6 : Nat) : Int), (i : Int), g ++ nums (numsB (c.r.take i) 2)⟩) 6 (fun i hi => by
    have k1 : (i : Int) < ((6 : Nat) : Int) := by omega
    have k2 : (0 : Int) ≤ (i : Int) := by omega
    have hi' : i < c.r.length := by omega
    have hlen : (numsB (c.r.take i) 2).length ≤ 12 := by
      rw [numsB_len, List.length_take, Nat.min_eq_left (by omega)]; omega
    have hp := putL_len c.r[i] 2
    have hq : octet_Put none c.r[i] (2 : Int) = some (putL c.r[i] 2) := octet_Put_def c.r[i] 2 (by omega)
    have hwr := wr_def (putL c.r[i] 2) (g ++ nums (numsB (c.r.take i) 2)) (by rw [List.length_append, nums_len]; omega)
    rw [List.append_assoc, ← nums_append, ← numsB_more hi'] at hwr
    simp only [Wsave_writer_nums_0, Tree.run, k1, k2, Int.toNat_natCast, List.getElem?_eq_getElem hi', Option.bind_some, hq, hwr, wrap_succ hi (show 6 ≤ 9223372036854775807 by omega), decide_true, if_true]) 0 (Nat.zero_le _)
  have hd : Lsave_writer_nums_0 none c ⟨2, ((6 : Nat) : Int), ((6 : Nat) : Int), g ++ nums (numsB (c.r.take 6) 2)⟩ = some (g ++ nums (numsB (c.r.take 6) 2)) := lim_done (by
    have k1 : ¬ ((6 : Nat) : Int) < ((6 : Nat) : Int) := by omega
    simp only [Wsave_writer_nums_0, Tree.run, k1, decide_false, Bool.false_eq_true, if_false])
  have e6 : c.r.take 6 = c.r := List.take_of_length_le (by omega)
  have h0 : g ++ nums (numsB (c.r.take 0) 2) = g := by simp [numsB, nums]
  have hc' := hc
  rw [e6] at hd
  simp only [h0, e6] at hc'
  have h : Lsave_writer_nums_0 none c ⟨2, ((6 : Nat) : Int), 0, g⟩ = some (g ++ nums (numsB c.r 2)) := hc'.trans hd
  simp only [save_writer_nums, Tsave_writer_nums, Tree.run, h, Option.bind_some]
def cpuB (c : Cpu) : List UInt8 := numsB c.r 2 ++ numsB [c.sP.getD 0 0, c.sP.getD 1 0, c.pC, c.pSW] 2
theorem cpu_def (c : Cpu) (g : List Int) (h6 : c.r.length = 6) (h2 : c.sP.length = 2) (hg : g.length ≤ 800000) : save_writer_cpu none c () g = some (g ++ nums (cpuB c)) := by
  have e0 := regs_def c g h6 (by omega)
  have hl : (g ++ nums (numsB c.r 2)).length ≤ 900000 := by
    rw [List.length_append, nums_len, numsB_len]; omega
  have e1 : save_writer_nums_V2 none (2 : Int) () [c.sP.getD 0 0, c.sP.getD 1 0, c.pC, c.pSW] (g ++ nums (numsB c.r 2)) = some ([c.sP.getD 0 0, c.sP.getD 1 0, c.pC, c.pSW], g ++ nums (numsB c.r 2) ++ nums (numsB [c.sP.getD 0 0, c.sP.getD 1 0, c.pC, c.pSW] 2)) := nums_def [c.sP.getD 0 0, c.sP.getD 1 0, c.pC, c.pSW] 2 _ (by omega) (by simp) (by omega)
  have g0 : c.sP[((0 : Int)).toNat * 1]? = some (c.sP.getD 0 0) := by
    show c.sP[0]? = _
    simp [List.getD, h2]
  have g1 : c.sP[((1 : Int)).toNat * 1]? = some (c.sP.getD 1 0) := by
    show c.sP[1]? = _
    simp [List.getD, h2]
  simp only [save_writer_cpu, Tsave_writer_cpu, Tree.run, e0, g0, g1, e1, Option.bind_some, show (0 : Int) ≤ 0 by omega, show (0 : Int) < 2 by omega, show (0 : Int) ≤ 1 by omega, show (1 : Int) < 2 by omega, decide_true, if_true, cpuB, nums_append, List.append_assoc]
end Go.Proofs.YtiafliookmnjoaaGreatDoor
end
section
set_option linter.unusedSimpArgs false
set_option linter.unusedVariables false
namespace Go.Proofs.YtiafliookmnjoaaGreatDoor
open Go Go.Ab C31
def pageB (p : Page) : List UInt8 := numsB [p.base] 2 ++ (numsB [p.length, p.access] 1 ++ bitsB [p.written])
theorem pageB_len (p : Page) : (pageB p).length = 5 := by
  simp only [pageB, List.length_append, numsB_len, bitsB_len, List.length_cons, List.length_nil]
theorem page_loop (ps : List Page) (t : Int) (ch : List Page) (u : Mmu) (h8 : ch.length = 8) (g : List Int) (hg : g.length ≤ 900000) : Lsave_writer_mmu_1 none ⟨ps, t, ch, 0, g, u⟩ = some (ps, t, g ++ nums (ch.flatMap pageB), u) := by
  have hc := lim_count (f := fun s => (Wsave_writer_mmu_1 none s).run) (fun i : Nat => ⟨ps, t, ch, (i : Int), g ++ nums ((ch.take i).flatMap pageB), u⟩) 8 (fun i hi => by
    have k1 : (i : Int) < 8 := by omega
    have k2 : (0 : Int) ≤ (i : Int) := by omega
    have hi' : i < ch.length := by omega
    have hb := flat_len pageB 5 (ch.take i) fun y _ => Nat.le_of_eq (pageB_len y)
    rw [List.length_take, Nat.min_eq_left (by omega)] at hb
    have l0 : (g ++ nums ((ch.take i).flatMap pageB)).length ≤ 900100 := by rw [List.length_append, nums_len]; omega
    have e0 : save_writer_nums_V2 none (2 : Int) () [ch[i].base] _ = _ := nums_def [ch[i].base] 2 (g ++ nums ((ch.take i).flatMap pageB)) (by omega) (by simp) (by omega)
    have l1 : (g ++ nums ((ch.take i).flatMap pageB) ++ nums (numsB [ch[i].base] 2)).length ≤ 900200 := by
      rw [List.length_append, nums_len, numsB_len]; simp only [List.length_cons, List.length_nil]; omega
    have e1 : save_writer_nums_V2 none (1 : Int) () [ch[i].length, ch[i].access] _ = _ := nums_def [ch[i].length, ch[i].access] 1 _ (by omega) (by simp) (Nat.le_trans l1 (by omega))
    have l2 : (g ++ nums ((ch.take i).flatMap pageB) ++ nums (numsB [ch[i].base] 2) ++ nums (numsB [ch[i].length, ch[i].access] 1)).length ≤ 900300 := by
      rw [List.length_append, nums_len, numsB_len]; simp only [List.length_cons, List.length_nil]; omega
    have e2 := truths_def [ch[i].written] _ (by simp) (Nat.le_trans l2 (by omega))
    have e : g ++ nums ((ch.take i).flatMap pageB) ++ nums (numsB [ch[i].base] 2) ++ nums (numsB [ch[i].length, ch[i].access] 1) ++ nums (bitsB [ch[i].written]) = g ++ nums ((ch.take (i + 1)).flatMap pageB) := by
      rw [flat_more _ hi']
      simp only [pageB, nums_append, List.append_assoc]
    rw [e] at e2
    simp only [Wsave_writer_mmu_1, Tree.run, k1, k2, Int.toNat_natCast, List.getElem?_eq_getElem hi', Option.bind_some, e0, e1, e2, wrap_succ hi (show 8 ≤ 9223372036854775807 by omega), decide_true, if_true]) 0 (Nat.zero_le _)
  have hd : Lsave_writer_mmu_1 none ⟨ps, t, ch, ((8 : Nat) : Int), g ++ nums ((ch.take 8).flatMap pageB), u⟩ = some (ps, t, g ++ nums ((ch.take 8).flatMap pageB), u) := lim_done (by
    have k1 : ¬ ((8 : Nat) : Int) < 8 := by omega
    simp only [Wsave_writer_mmu_1, Tree.run, k1, decide_false, Bool.false_eq_true, if_false])
  have e8 : ch.take 8 = ch := List.take_of_length_le (by omega)
  have h0 : g ++ nums ((ch.take 0).flatMap pageB) = g := by simp [nums]
  have hc' := hc
  rw [e8] at hd
  simp only [h0, e8] at hc'
  exact hc'.trans hd
def mmuB (u : Mmu) : List UInt8 := bitsB [u.on] ++ (u.pages.flatMap pageB ++ (numsB [u.status] 1 ++ numsB [u.addr] 2))
theorem mmu_def (u : Mmu) (g : List Int) (h16 : u.pages.length = 16) (hg : g.length ≤ 800000) : save_writer_mmu none u () g = some (g ++ nums (mmuB u)) := by
  have e0 := truths_def [u.on] g (by simp) (by omega)
  have l0 : (g ++ nums (bitsB [u.on])).length ≤ 800001 := by
    rw [List.length_append, nums_len, bitsB_len]; simp only [List.length_cons, List.length_nil]; omega
  generalize hg0 : g ++ nums (bitsB [u.on]) = g0 at e0 l0
  have c8 : ∀ k, k ≤ 1 → ((u.pages.drop (k * 8)).take 8).length = 8 := fun k hk => by
    rw [List.length_take, List.length_drop]; omega
  have f8 : ∀ k, k ≤ 1 → (((u.pages.drop (k * 8)).take 8).flatMap pageB).length ≤ 40 := fun k hk => by
    have := flat_len pageB 5 ((u.pages.drop (k * 8)).take 8) fun y _ => Nat.le_of_eq (pageB_len y)
    rw [c8 k hk] at this; omega
  have p0 := page_loop u.pages 0 ((u.pages.drop (0 * 8)).take 8) u (c8 0 (by omega)) g0 (by omega)
  have l1 : (g0 ++ nums (((u.pages.drop (0 * 8)).take 8).flatMap pageB)).length ≤ 800041 := by
    have := f8 0 (by omega)
    rw [List.length_append, nums_len]; omega
  have p1 := page_loop u.pages 1 ((u.pages.drop (1 * 8)).take 8) u (c8 1 (by omega)) _ (Nat.le_trans l1 (by omega))
  have s0 : (Wsave_writer_mmu_0 none ⟨u.pages, 0, g0, u⟩).run = some (.inl ⟨u.pages, 1, g0 ++ nums (((u.pages.drop (0 * 8)).take 8).flatMap pageB), u⟩) := by
    have w : IntKind.wrap .i64 ((0 : Int) + 1) = 1 := by decide
    have k : ((0 : Int)).toNat * 8 + 8 ≤ u.pages.length := by rw [h16]; decide
    have p0' : Lsave_writer_mmu_1 none ⟨u.pages, 0, (u.pages.drop (((0 : Int)).toNat * 8)).take 8, 0, g0, u⟩ = _ := p0
    simp only [Wsave_writer_mmu_0, Tree.run, show (0 : Int) < 2 by omega, show (0 : Int) ≤ 0 by omega, k, p0', w, decide_true, if_true, Option.bind_some]
  have s1 : (Wsave_writer_mmu_0 none ⟨u.pages, 1, g0 ++ nums (((u.pages.drop (0 * 8)).take 8).flatMap pageB), u⟩).run = some (.inl ⟨u.pages, 2, g0 ++ nums (((u.pages.drop (0 * 8)).take 8).flatMap pageB) ++ nums (((u.pages.drop (1 * 8)).take 8).flatMap pageB), u⟩) := by
    have w : IntKind.wrap .i64 ((1 : Int) + 1) = 2 := by decide
    have k : ((1 : Int)).toNat * 8 + 8 ≤ u.pages.length := by rw [h16]; decide
    have p1' : Lsave_writer_mmu_1 none ⟨u.pages, 1, (u.pages.drop (((1 : Int)).toNat * 8)).take 8, 0, g0 ++ nums (((u.pages.drop (0 * 8)).take 8).flatMap pageB), u⟩ = _ := p1
    simp only [Wsave_writer_mmu_0, Tree.run, show (1 : Int) < 2 by omega, show (0 : Int) ≤ 1 by omega, k, p1', w, decide_true, if_true, Option.bind_some]
  have hL : Lsave_writer_mmu_0 none ⟨u.pages, 0, g0, u⟩ = some (g0 ++ nums (((u.pages.drop (0 * 8)).take 8).flatMap pageB) ++ nums (((u.pages.drop (1 * 8)).take 8).flatMap pageB), u) :=
    (lim_next s0).trans ((lim_next s1).trans (lim_done (by
      simp only [Wsave_writer_mmu_0, Tree.run, show ¬ (2 : Int) < 2 by omega, decide_false, Bool.false_eq_true, if_false])))
  have ep : u.pages = (u.pages.drop (0 * 8)).take 8 ++ (u.pages.drop (1 * 8)).take 8 := by
    have h1 : (u.pages.drop (1 * 8)).take 8 = u.pages.drop 8 := List.take_of_length_le (by rw [List.length_drop]; omega)
    rw [h1, Nat.zero_mul, List.drop_zero, List.take_append_drop]
  have e : g0 ++ nums (((u.pages.drop (0 * 8)).take 8).flatMap pageB) ++ nums (((u.pages.drop (1 * 8)).take 8).flatMap pageB) = g0 ++ nums (u.pages.flatMap pageB) := by
    conv => rhs; rw [ep]
    rw [List.flatMap_append, nums_append, List.append_assoc]
  rw [e] at hL
  have l2 : (g0 ++ nums (u.pages.flatMap pageB)).length ≤ 800100 := by
    have := flat_len pageB 5 u.pages fun y _ => Nat.le_of_eq (pageB_len y)
    rw [List.length_append, nums_len]; omega
  have e2 : save_writer_nums_V2 none (1 : Int) () [u.status] _ = _ := nums_def [u.status] 1 _ (by omega) (by simp) (Nat.le_trans l2 (by omega))
  have l3 : (g0 ++ nums (u.pages.flatMap pageB) ++ nums (numsB [u.status] 1)).length ≤ 800200 := by
    rw [List.length_append, nums_len, numsB_len]; simp only [List.length_cons, List.length_nil]; omega
  have e3 : save_writer_nums_V2 none (2 : Int) () [u.addr] _ = _ := nums_def [u.addr] 2 _ (by omega) (by simp) (Nat.le_trans l3 (by omega))
  simp only [save_writer_mmu, Tsave_writer_mmu, Tree.run, e0, hL, e2, e3, Option.bind_some]
  rw [← hg0]
  simp only [mmuB, nums_append, List.append_assoc]
end Go.Proofs.YtiafliookmnjoaaGreatDoor
end
section
set_option linter.unusedSimpArgs false
set_option linter.unusedVariables false
namespace Go.Proofs.YtiafliookmnjoaaGreatDoor
open Go Go.Ab C31
abbrev Par (α : Type) := List UInt8 → Option (α × List UInt8)
def pBind {α β : Type} (p : Par α) (f : α → Par β) : Par β := fun s =>
  match p s with
  | none => none
  | some (x, u) => f x u
def pRet {α : Type} (x : α) : Par α := fun s => some (x, s)
/-- a kind of reader: what is left, whether it failed, and what it keeps -/
structure Rdg (ρ : Type) where
  rest : ρ → List UInt8
  bad : ρ → Bool
  ok : ρ → Prop
/-- a step of a reader that reads by p -/
structure Rds {ρ α : Type} (R : Rdg ρ) (r r' : ρ) (p : Par α) (x : α) : Prop where
  ok : R.ok r'
  stay : R.bad r = true → R.bad r' = true
  none : R.bad r = false → p (R.rest r) = none → R.bad r' = true
  some : ∀ y u, R.bad r = false → p (R.rest r) = some (y, u) → x = y ∧ R.bad r' = false ∧ R.rest r' = u
theorem Rds.ret {ρ α : Type} {R : Rdg ρ} {r : ρ} (x : α) (h : R.ok r) : Rds R r r (pRet x) x := by
  refine ⟨h, id, fun _ e => ?_, fun y u h0 e => ?_⟩
  · simp [pRet] at e
  · simp only [pRet, Option.some.injEq, Prod.mk.injEq] at e
    exact ⟨e.1, h0, e.2⟩
theorem Rds.bind {ρ α β : Type} {R : Rdg ρ} {r r1 r2 : ρ} {p : Par α} {x : α} {f : α → Par β} {y : β} (h1 : Rds R r r1 p x) (h2 : Rds R r1 r2 (f x) y) : Rds R r r2 (pBind p f) y := by
  refine ⟨h2.ok, fun h => h2.stay (h1.stay h), fun h0 e => ?_, fun z u h0 e => ?_⟩
  · cases hp : p (R.rest r) with
    | none => exact h2.stay (h1.none h0 hp)
    | some q =>
      obtain ⟨a, b, c⟩ := h1.some q.1 q.2 h0 hp
      simp only [pBind, hp] at e
      rw [← a, ← c] at e
      exact h2.none b e
  · cases hp : p (R.rest r) with
    | none => simp only [pBind, hp] at e; cases e
    | some q =>
      obtain ⟨a, b, c⟩ := h1.some q.1 q.2 h0 hp
      simp only [pBind, hp] at e
      rw [← a, ← c] at e
      exact h2.some z u b e
/-- p reads exactly what put writes of good values -/
structure Inv {α : Type} (p : Par α) (put : α → List UInt8) (good : α → Prop) : Prop where
  back : ∀ x u, good x → p (put x ++ u) = some (x, u)
  sound : ∀ s x u, p s = some (x, u) → s = put x ++ u ∧ good x
def pNum (w : Nat) : Par Int := fun s => if s.length < w then none else some (upV s 0 w w, s.drop w)
theorem byteN_drop (s : List UInt8) (a i : Nat) : byteN (s.drop a) i = byteN s (a + i) := by
  simp [byteN, List.getD, List.getElem?_drop]
theorem upV_drop (s : List UInt8) (a w : Nat) : ∀ k, upV (s.drop a) 0 w k = upV s a w k
  | 0 => rfl
  | k + 1 => by simp only [upV, upV_drop s a w k, byteN_drop, Nat.zero_add]
def GNum (w : Nat) (n : Int) : Prop := 0 ≤ n ∧ n < 256 ^ w
theorem put_up (s : List UInt8) : ∀ (w : Nat), w ≤ s.length → ∀ k, k ≤ w → putL (upV s 0 w k) k = (s.drop (w - k)).take k := by
  intro w hw k hk
  apply List.ext_getElem?
  intro i
  rcases Nat.lt_or_ge i k with h | h
  · have hi : w - k + i < s.length := by omega
    have hu := upV_in s 0 w k
    have hb := byte_up s w k i hk h
    rw [putL_get h, atl_id hu.1, hb, List.getElem?_take_of_lt h, List.getElem?_drop, List.getElem?_eq_getElem hi]
    have e : byteN s (w - k + i) = (s[w - k + i].toNat : Int) := by simp [byteN, List.getD, List.getElem?_eq_getElem hi]
    rw [e]
    simp
  · rw [List.getElem?_eq_none (by rw [putL_len]; omega), List.getElem?_eq_none (by rw [List.length_take]; omega)]
where
  byte_up (s : List UInt8) (w : Nat) : ∀ k i, k ≤ w → i < k → upV s 0 w k / 256 ^ i % 256 = byteN s (w - k + i)
  | 0, i, _, h => by omega
  | k + 1, 0, hk, _ => by
    have hb := byteN_in s (0 + (w - 1 - k))
    have e : w - (k + 1) + 0 = 0 + (w - 1 - k) := by omega
    rw [e]
    simp only [upV, Int.pow_zero, Int.ediv_one]
    omega
  | k + 1, i + 1, hk, h => by
    have hb := byteN_in s (0 + (w - 1 - k))
    have ih := byte_up s w k i (by omega) (by omega)
    have e : w - (k + 1) + (i + 1) = w - k + i := by omega
    rw [e, ← ih]
    simp only [upV]
    rw [Int.pow_succ, Int.mul_comm (256 ^ i) 256, ← Int.ediv_ediv_of_nonneg (by omega)]
    have e2 : (256 * upV s 0 w k + byteN s (0 + (w - 1 - k))) / 256 = upV s 0 w k := by omega
    rw [e2]
theorem num_inv (w : Nat) : Inv (pNum w) (fun n => putL n w) (GNum w) := by
  constructor
  · intro x u h
    have h3 := up_put [] u (v := x) (n := w) h.2 h.1 w (Nat.le_refl _)
    rw [Nat.sub_self, Int.pow_zero, Int.ediv_one] at h3
    have h4 : ¬ (putL x w ++ u).length < w := by rw [List.length_append, putL_len]; omega
    have h5 : (putL x w ++ u).drop w = u := by
      have := List.drop_left (l₁ := putL x w) (l₂ := u)
      rwa [putL_len] at this
    simp only [pNum, if_neg h4, h5]
    rw [show upV (putL x w ++ u) 0 w w = x from h3]
  · intro s x u e
    unfold pNum at e
    split at e
    · cases e
    · simp only [Option.some.injEq, Prod.mk.injEq] at e
      obtain ⟨e1, e2⟩ := e
      have h := put_up s w (by omega) w (Nat.le_refl _)
      rw [Nat.sub_self, List.drop_zero, e1] at h
      refine ⟨?_, ?_⟩
      · rw [← e2, h, List.take_append_drop]
      · rw [← e1]; exact upV_in s 0 w w
def pBit : Par Bool := pBind (pNum 1) fun n => fun u => if 1 < n then none else some (decide (n = 1), u)
theorem bit_inv : Inv pBit bitB (fun _ => True) := by
  constructor
  · intro x u _
    have := (num_inv 1).back (if x then 1 else 0) u (by unfold GNum; cases x <;> simp)
    simp only [pBit, pBind, bitB, this]
    cases x <;> simp
  · intro s x u e
    refine ⟨?_, trivial⟩
    cases hp : pNum 1 s with
    | none => simp only [pBit, pBind, hp] at e; cases e
    | some q =>
      simp only [pBit, pBind, hp] at e
      obtain ⟨h1, h2⟩ := (num_inv 1).sound s q.1 q.2 hp
      unfold GNum at h2
      split at e
      · cases e
      · simp only [Option.some.injEq, Prod.mk.injEq] at e
        rw [h1, ← e.1, ← e.2, bitB]
        congr 2
        by_cases c : q.1 = 1
        · rw [c]; simp
        · rw [decide_eq_false c]; simp; omega
def pText : Par (List UInt8) := pBind (pNum 2) fun n => fun u => if (u.length : Int) < n then none else some (u.take n.toNat, u.drop n.toNat)
theorem text_inv : Inv pText textB (fun s => s.length ≤ 65535) := by
  constructor
  · intro x u h
    have := (num_inv 2).back (x.length : Int) (x ++ u) ⟨by omega, show (x.length : Int) < 65536 by omega⟩
    simp only [pText, pBind, textB, List.append_assoc, this]
    rw [if_neg (by rw [List.length_append]; omega), Int.toNat_natCast, List.take_left, List.drop_left]
  · intro s x u e
    cases hp : pNum 2 s with
    | none => simp only [pText, pBind, hp] at e; cases e
    | some q =>
      simp only [pText, pBind, hp] at e
      obtain ⟨h1, h2⟩ := (num_inv 2).sound s q.1 q.2 hp
      have h3 : q.1 < 65536 := h2.2
      split at e
      · cases e
      · simp only [Option.some.injEq, Prod.mk.injEq] at e
        have hl : x.length = q.1.toNat := by rw [← e.1, List.length_take]; omega
        refine ⟨?_, by omega⟩
        rw [textB, hl, Int.toNat_of_nonneg h2.1, List.append_assoc, ← e.1, ← e.2, List.take_append_drop]
        exact h1
def pRep {α : Type} (p : Par α) : Nat → Par (List α)
  | 0 => pRet []
  | n + 1 => pBind p fun x => pBind (pRep p n) fun l => pRet (x :: l)
theorem rep_back {α : Type} {p : Par α} {put : α → List UInt8} {good : α → Prop} (h : Inv p put good) : ∀ (l : List α) (u : List UInt8), (∀ x ∈ l, good x) → pRep p l.length (l.flatMap put ++ u) = some (l, u)
  | [], u, _ => by simp [pRep, pRet]
  | x :: l, u, hg => by
    have h1 := h.back x (l.flatMap put ++ u) (hg x (List.mem_cons_self ..))
    have h2 := rep_back h l u fun y hy => hg y (List.mem_cons_of_mem _ hy)
    simp only [List.length_cons, pRep, List.flatMap_cons, List.append_assoc, pBind, h1, h2, pRet]
theorem rep_sound {α : Type} {p : Par α} {put : α → List UInt8} {good : α → Prop} (h : Inv p put good) : ∀ (n : Nat) (s : List UInt8) (l : List α) (u : List UInt8), pRep p n s = some (l, u) → s = l.flatMap put ++ u ∧ l.length = n ∧ ∀ x ∈ l, good x
  | 0, s, l, u, e => by
    simp only [pRep, pRet, Option.some.injEq, Prod.mk.injEq] at e
    obtain ⟨rfl, rfl⟩ := e
    simp
  | n + 1, s, l, u, e => by
    simp only [pRep, pBind] at e
    cases hp : p s with
    | none => simp only [hp] at e; cases e
    | some q =>
      simp only [hp] at e
      cases hr : pRep p n q.2 with
      | none => simp only [hr] at e; cases e
      | some t =>
        simp only [hr, pRet, Option.some.injEq, Prod.mk.injEq] at e
        obtain ⟨h1, h2⟩ := h.sound s q.1 q.2 hp
        obtain ⟨h3, h4, h5⟩ := rep_sound h n q.2 t.1 t.2 hr
        obtain ⟨rfl, rfl⟩ := e
        refine ⟨?_, by simp [h4], ?_⟩
        · rw [List.flatMap_cons, List.append_assoc, ← h3, ← h1]
        · intro x hx
          rcases List.mem_cons.1 hx with rfl | hx
          · exact h2
          · exact h5 x hx
def pList {α : Type} (p : Par α) : Par (List α) := pBind (pNum 2) fun n => pRep p n.toNat
theorem list_inv {α : Type} {p : Par α} {put : α → List UInt8} {good : α → Prop} (h : Inv p put good) : Inv (pList p) (listB put) (fun l => l.length ≤ 65535 ∧ ∀ x ∈ l, good x) := by
  constructor
  · intro l u hg
    have h1 := (num_inv 2).back (l.length : Int) (l.flatMap put ++ u) ⟨by omega, show (l.length : Int) < 65536 by omega⟩
    have h2 := rep_back h l u hg.2
    simp only [pList, pBind, listB, List.append_assoc, h1, Int.toNat_natCast, h2]
  · intro s l u e
    cases hp : pNum 2 s with
    | none => simp only [pList, pBind, hp] at e; cases e
    | some q =>
      simp only [pList, pBind, hp] at e
      obtain ⟨h1, h2⟩ := (num_inv 2).sound s q.1 q.2 hp
      obtain ⟨h3, h4, h5⟩ := rep_sound h _ _ _ _ e
      have h6 : q.1 < 65536 := h2.2
      refine ⟨?_, by omega, h5⟩
      rw [listB, h4, Int.toNat_of_nonneg h2.1, List.append_assoc, ← h3]
      exact h1
end Go.Proofs.YtiafliookmnjoaaGreatDoor
end
section
set_option linter.unusedSimpArgs false
set_option linter.unusedVariables false
namespace Go.Proofs.YtiafliookmnjoaaGreatDoor
open Go Go.Ab C31
theorem bind_some {α β : Type} {p : Par α} {f : α → Par β} {s : List UInt8} {y : β} {u : List UInt8} (e : pBind p f s = some (y, u)) : ∃ a t, p s = some (a, t) ∧ f a t = some (y, u) := by
  unfold pBind at e
  cases h : p s with
  | none => rw [h] at e; cases e
  | some q => rw [h] at e; exact ⟨q.1, q.2, rfl, e⟩
theorem ret_some {α : Type} {x y : α} {s u : List UInt8} (e : pRet x s = some (y, u)) : x = y ∧ s = u := by
  simp only [pRet, Option.some.injEq, Prod.mk.injEq] at e; exact e
def pPage : Par Page := pBind (pNum 2) fun a0 => pBind (pNum 1) fun a1 => pBind (pNum 1) fun a2 => pBind pBit fun a3 => pRet ⟨a0, a1, a2, a3⟩
def GPage (x : Page) : Prop := GNum 2 x.base ∧ GNum 1 x.length ∧ GNum 1 x.access
theorem page_inv : Inv pPage pageB GPage := by
  constructor
  · intro x u h
    obtain ⟨g0, g1, g2⟩ := h
    simp only [pageB, bitsB, numsB, List.flatMap_cons, List.flatMap_nil, List.append_nil, List.append_assoc]
    simp only [pPage, pBind, (num_inv 2).back _ _ g0, (num_inv 1).back _ _ g1, (num_inv 1).back _ _ g2, bit_inv.back _ _ trivial, pRet]
  · intro s x u e
    obtain ⟨a0, s0, h0, e⟩ := bind_some e
    obtain ⟨a1, s1, h1, e⟩ := bind_some e
    obtain ⟨a2, s2, h2, e⟩ := bind_some e
    obtain ⟨a3, s3, h3, e⟩ := bind_some e
    obtain ⟨rfl, rfl⟩ := ret_some e
    obtain ⟨t0, g0⟩ := (num_inv 2).sound _ _ _ h0
    obtain ⟨t1, g1⟩ := (num_inv 1).sound _ _ _ h1
    obtain ⟨t2, g2⟩ := (num_inv 1).sound _ _ _ h2
    obtain ⟨t3, g3⟩ := bit_inv.sound _ _ _ h3
    refine ⟨?_, g0, g1, g2⟩
    simp only [pageB, bitsB, numsB, List.flatMap_cons, List.flatMap_nil, List.append_nil, List.append_assoc]
    rw [t0, t1, t2, t3]
def pMmu : Par Mmu := pBind pBit fun a0 => pBind (pRep pPage 16) fun a1 => pBind (pNum 1) fun a2 => pBind (pNum 2) fun a3 => pRet ⟨a0, a1, a2, a3⟩
def GMmu (x : Mmu) : Prop := (x.pages.length = 16 ∧ ∀ y ∈ x.pages, GPage y) ∧ GNum 1 x.status ∧ GNum 2 x.addr
theorem mmu_inv : Inv pMmu mmuB GMmu := by
  constructor
  · intro x u h
    obtain ⟨g1, g2, g3⟩ := h
    simp only [mmuB, bitsB, numsB, List.flatMap_cons, List.flatMap_nil, List.append_nil, List.append_assoc]
    have hr1 := fun u => rep_back page_inv x.pages u g1.2
    rw [g1.1] at hr1
    simp only [pMmu, pBind, bit_inv.back _ _ trivial, hr1, (num_inv 1).back _ _ g2, (num_inv 2).back _ _ g3, pRet]
  · intro s x u e
    obtain ⟨a0, s0, h0, e⟩ := bind_some e
    obtain ⟨a1, s1, h1, e⟩ := bind_some e
    obtain ⟨a2, s2, h2, e⟩ := bind_some e
    obtain ⟨a3, s3, h3, e⟩ := bind_some e
    obtain ⟨rfl, rfl⟩ := ret_some e
    obtain ⟨t0, g0⟩ := bit_inv.sound _ _ _ h0
    obtain ⟨t1, l1, g1⟩ := rep_sound page_inv _ _ _ _ h1
    obtain ⟨t2, g2⟩ := (num_inv 1).sound _ _ _ h2
    obtain ⟨t3, g3⟩ := (num_inv 2).sound _ _ _ h3
    refine ⟨?_, ⟨l1, g1⟩, g2, g3⟩
    simp only [mmuB, bitsB, numsB, List.flatMap_cons, List.flatMap_nil, List.append_nil, List.append_assoc]
    rw [t0, t1, t2, t3]
def pLine : Par Line := pBind pBit fun a0 => pBind pBit fun a1 => pBind pBit fun a2 => pBind (pNum 1) fun a3 => pBind pBit fun a4 => pBind pBit fun a5 => pBind (pNum 1) fun a6 => pBind (pNum 1) fun a7 => pBind pText fun a8 => pRet ⟨a0, a1, a2, a3, a4, a5, a6, a7, a8⟩
def GLine (x : Line) : Prop := GNum 1 x.rxData ∧ GNum 1 x.txData ∧ GNum 1 x.txLeft ∧ x.out.length ≤ 65535
theorem line_inv : Inv pLine lineB GLine := by
  constructor
  · intro x u h
    obtain ⟨g3, g6, g7, g8⟩ := h
    simp only [lineB, bitsB, numsB, List.flatMap_cons, List.flatMap_nil, List.append_nil, List.append_assoc]
    simp only [pLine, pBind, bit_inv.back _ _ trivial, bit_inv.back _ _ trivial, bit_inv.back _ _ trivial, (num_inv 1).back _ _ g3, bit_inv.back _ _ trivial, bit_inv.back _ _ trivial, (num_inv 1).back _ _ g6, (num_inv 1).back _ _ g7, text_inv.back _ _ g8, pRet]
  · intro s x u e
    obtain ⟨a0, s0, h0, e⟩ := bind_some e
    obtain ⟨a1, s1, h1, e⟩ := bind_some e
    obtain ⟨a2, s2, h2, e⟩ := bind_some e
    obtain ⟨a3, s3, h3, e⟩ := bind_some e
    obtain ⟨a4, s4, h4, e⟩ := bind_some e
    obtain ⟨a5, s5, h5, e⟩ := bind_some e
    obtain ⟨a6, s6, h6, e⟩ := bind_some e
    obtain ⟨a7, s7, h7, e⟩ := bind_some e
    obtain ⟨a8, s8, h8, e⟩ := bind_some e
    obtain ⟨rfl, rfl⟩ := ret_some e
    obtain ⟨t0, g0⟩ := bit_inv.sound _ _ _ h0
    obtain ⟨t1, g1⟩ := bit_inv.sound _ _ _ h1
    obtain ⟨t2, g2⟩ := bit_inv.sound _ _ _ h2
    obtain ⟨t3, g3⟩ := (num_inv 1).sound _ _ _ h3
    obtain ⟨t4, g4⟩ := bit_inv.sound _ _ _ h4
    obtain ⟨t5, g5⟩ := bit_inv.sound _ _ _ h5
    obtain ⟨t6, g6⟩ := (num_inv 1).sound _ _ _ h6
    obtain ⟨t7, g7⟩ := (num_inv 1).sound _ _ _ h7
    obtain ⟨t8, g8⟩ := text_inv.sound _ _ _ h8
    refine ⟨?_, g3, g6, g7, g8⟩
    simp only [lineB, bitsB, numsB, List.flatMap_cons, List.flatMap_nil, List.append_nil, List.append_assoc]
    rw [t0, t1, t2, t3, t4, t5, t6, t7, t8]
def pDisk : Par Disk := pBind (pList pText) fun a0 => pBind (pList (pNum 2)) fun a1 => pBind pBit fun a2 => pBind pBit fun a3 => pBind pBit fun a4 => pBind (pNum 1) fun a5 => pBind (pNum 2) fun a6 => pBind (pNum 2) fun a7 => pBind (pNum 2) fun a8 => pBind (pNum 1) fun a9 => pRet ⟨⟨a0, a1⟩, a2, a3, a4, a5, a6, a7, a8, a9⟩
def GDisk (x : Disk) : Prop := (x.drive.sectors.length ≤ 65535 ∧ ∀ y ∈ x.drive.sectors, y.length ≤ 65535) ∧ (x.drive.bad.length ≤ 65535 ∧ ∀ y ∈ x.drive.bad, GNum 2 y) ∧ GNum 1 x.command ∧ GNum 2 x.words ∧ GNum 2 x.addr ∧ GNum 2 x.start ∧ GNum 1 x.left
theorem disk_inv : Inv pDisk diskB GDisk := by
  constructor
  · intro x u h
    obtain ⟨g0, g1, g5, g6, g7, g8, g9⟩ := h
    simp only [diskB, bitsB, numsB, List.flatMap_cons, List.flatMap_nil, List.append_nil, List.append_assoc]
    simp only [pDisk, pBind, (list_inv text_inv).back _ _ g0, (list_inv (num_inv 2)).back _ _ g1, bit_inv.back _ _ trivial, bit_inv.back _ _ trivial, bit_inv.back _ _ trivial, (num_inv 1).back _ _ g5, (num_inv 2).back _ _ g6, (num_inv 2).back _ _ g7, (num_inv 2).back _ _ g8, (num_inv 1).back _ _ g9, pRet]
  · intro s x u e
    obtain ⟨a0, s0, h0, e⟩ := bind_some e
    obtain ⟨a1, s1, h1, e⟩ := bind_some e
    obtain ⟨a2, s2, h2, e⟩ := bind_some e
    obtain ⟨a3, s3, h3, e⟩ := bind_some e
    obtain ⟨a4, s4, h4, e⟩ := bind_some e
    obtain ⟨a5, s5, h5, e⟩ := bind_some e
    obtain ⟨a6, s6, h6, e⟩ := bind_some e
    obtain ⟨a7, s7, h7, e⟩ := bind_some e
    obtain ⟨a8, s8, h8, e⟩ := bind_some e
    obtain ⟨a9, s9, h9, e⟩ := bind_some e
    obtain ⟨rfl, rfl⟩ := ret_some e
    obtain ⟨t0, g0⟩ := (list_inv text_inv).sound _ _ _ h0
    obtain ⟨t1, g1⟩ := (list_inv (num_inv 2)).sound _ _ _ h1
    obtain ⟨t2, g2⟩ := bit_inv.sound _ _ _ h2
    obtain ⟨t3, g3⟩ := bit_inv.sound _ _ _ h3
    obtain ⟨t4, g4⟩ := bit_inv.sound _ _ _ h4
    obtain ⟨t5, g5⟩ := (num_inv 1).sound _ _ _ h5
    obtain ⟨t6, g6⟩ := (num_inv 2).sound _ _ _ h6
    obtain ⟨t7, g7⟩ := (num_inv 2).sound _ _ _ h7
    obtain ⟨t8, g8⟩ := (num_inv 2).sound _ _ _ h8
    obtain ⟨t9, g9⟩ := (num_inv 1).sound _ _ _ h9
    refine ⟨?_, g0, g1, g5, g6, g7, g8, g9⟩
    simp only [diskB, bitsB, numsB, List.flatMap_cons, List.flatMap_nil, List.append_nil, List.append_assoc]
    rw [t0, t1, t2, t3, t4, t5, t6, t7, t8, t9]
def pTape : Par Tape := pBind (pList pText) fun a0 => pBind (pNum 1) fun a1 => pBind pBit fun a2 => pBind pBit fun a3 => pBind pBit fun a4 => pBind pBit fun a5 => pBind pBit fun a6 => pBind (pNum 1) fun a7 => pBind (pNum 2) fun a8 => pBind (pNum 2) fun a9 => pBind (pNum 1) fun a10 => pRet ⟨a0, a1, a2, a3, a4, a5, a6, a7, a8, a9, a10⟩
def GTape (x : Tape) : Prop := (x.records.length ≤ 65535 ∧ ∀ y ∈ x.records, y.length ≤ 65535) ∧ GNum 1 x.pos ∧ GNum 1 x.command ∧ GNum 2 x.count ∧ GNum 2 x.addr ∧ GNum 1 x.left
theorem tape_inv : Inv pTape tapeB GTape := by
  constructor
  · intro x u h
    obtain ⟨g0, g1, g7, g8, g9, g10⟩ := h
    simp only [tapeB, bitsB, numsB, List.flatMap_cons, List.flatMap_nil, List.append_nil, List.append_assoc]
    simp only [pTape, pBind, (list_inv text_inv).back _ _ g0, (num_inv 1).back _ _ g1, bit_inv.back _ _ trivial, bit_inv.back _ _ trivial, bit_inv.back _ _ trivial, bit_inv.back _ _ trivial, bit_inv.back _ _ trivial, (num_inv 1).back _ _ g7, (num_inv 2).back _ _ g8, (num_inv 2).back _ _ g9, (num_inv 1).back _ _ g10, pRet]
  · intro s x u e
    obtain ⟨a0, s0, h0, e⟩ := bind_some e
    obtain ⟨a1, s1, h1, e⟩ := bind_some e
    obtain ⟨a2, s2, h2, e⟩ := bind_some e
    obtain ⟨a3, s3, h3, e⟩ := bind_some e
    obtain ⟨a4, s4, h4, e⟩ := bind_some e
    obtain ⟨a5, s5, h5, e⟩ := bind_some e
    obtain ⟨a6, s6, h6, e⟩ := bind_some e
    obtain ⟨a7, s7, h7, e⟩ := bind_some e
    obtain ⟨a8, s8, h8, e⟩ := bind_some e
    obtain ⟨a9, s9, h9, e⟩ := bind_some e
    obtain ⟨a10, s10, h10, e⟩ := bind_some e
    obtain ⟨rfl, rfl⟩ := ret_some e
    obtain ⟨t0, g0⟩ := (list_inv text_inv).sound _ _ _ h0
    obtain ⟨t1, g1⟩ := (num_inv 1).sound _ _ _ h1
    obtain ⟨t2, g2⟩ := bit_inv.sound _ _ _ h2
    obtain ⟨t3, g3⟩ := bit_inv.sound _ _ _ h3
    obtain ⟨t4, g4⟩ := bit_inv.sound _ _ _ h4
    obtain ⟨t5, g5⟩ := bit_inv.sound _ _ _ h5
    obtain ⟨t6, g6⟩ := bit_inv.sound _ _ _ h6
    obtain ⟨t7, g7⟩ := (num_inv 1).sound _ _ _ h7
    obtain ⟨t8, g8⟩ := (num_inv 2).sound _ _ _ h8
    obtain ⟨t9, g9⟩ := (num_inv 2).sound _ _ _ h9
    obtain ⟨t10, g10⟩ := (num_inv 1).sound _ _ _ h10
    refine ⟨?_, g0, g1, g7, g8, g9, g10⟩
    simp only [tapeB, bitsB, numsB, List.flatMap_cons, List.flatMap_nil, List.append_nil, List.append_assoc]
    rw [t0, t1, t2, t3, t4, t5, t6, t7, t8, t9, t10]
def pCpu : Par Cpu := pBind (pRep (pNum 2) 6) fun a0 => pBind (pNum 2) fun a1 => pBind (pNum 2) fun a2 => pBind (pNum 2) fun a3 => pBind (pNum 2) fun a4 => pRet ⟨a0, [a1, a2], a3, a4⟩
def GCpu (x : Cpu) : Prop := (x.r.length = 6 ∧ ∀ y ∈ x.r, GNum 2 y) ∧ (x.sP.length = 2 ∧ ∀ y ∈ x.sP, GNum 2 y) ∧ GNum 2 x.pC ∧ GNum 2 x.pSW
theorem cpu_inv : Inv pCpu cpuB GCpu := by
  constructor
  · intro x u h
    obtain ⟨g0, g1, g3, g4⟩ := h
    obtain ⟨r, sp, pc, psw⟩ := x
    simp only at g0 g1 g3 g4
    obtain ⟨b1, b2, rfl⟩ : ∃ b1 b2, sp = [b1, b2] := by
      match sp, g1.1 with
      | [b1, b2], _ => exact ⟨b1, b2, rfl⟩
    have q1 := g1.2 b1 (by simp)
    have q2 := g1.2 b2 (by simp)
    have hr0 := fun u => rep_back (num_inv 2) r u g0.2
    rw [g0.1] at hr0
    simp only [cpuB, numsB, List.flatMap_cons, List.flatMap_nil, List.append_nil, List.append_assoc, List.getD_cons_zero, List.getD_cons_succ]
    simp only [pCpu, pBind, hr0, (num_inv 2).back _ _ q1, (num_inv 2).back _ _ q2, (num_inv 2).back _ _ g3, (num_inv 2).back _ _ g4, pRet]
  · intro s x u e
    obtain ⟨a0, s0, h0, e⟩ := bind_some e
    obtain ⟨a1, s1, h1, e⟩ := bind_some e
    obtain ⟨a2, s2, h2, e⟩ := bind_some e
    obtain ⟨a3, s3, h3, e⟩ := bind_some e
    obtain ⟨a4, s4, h4, e⟩ := bind_some e
    obtain ⟨rfl, rfl⟩ := ret_some e
    obtain ⟨t0, l0, g0⟩ := rep_sound (num_inv 2) _ _ _ _ h0
    obtain ⟨t1, g1⟩ := (num_inv 2).sound _ _ _ h1
    obtain ⟨t2, g2⟩ := (num_inv 2).sound _ _ _ h2
    obtain ⟨t3, g3⟩ := (num_inv 2).sound _ _ _ h3
    obtain ⟨t4, g4⟩ := (num_inv 2).sound _ _ _ h4
    refine ⟨?_, ⟨l0, g0⟩, ⟨rfl, ?_⟩, g3, g4⟩
    · simp only [cpuB, numsB, List.flatMap_cons, List.flatMap_nil, List.append_nil, List.append_assoc, List.getD_cons_zero, List.getD_cons_succ]
      rw [t0, t1, t2, t3, t4]
    · intro y hy
      simp only [List.mem_cons, List.not_mem_nil, or_false] at hy
      rcases hy with rfl | rfl
      · exact g1
      · exact g2
def partsB (m : Machine) : List UInt8 := cpuB m.cpu ++ (listB (fun n => putL n 2) m.mem ++ (listB (fun n => putL n 2) m.bad ++ (mmuB m.mmu ++ (bitsB [m.clock.enable, m.clock.ready] ++ (numsB [m.clock.period, m.clock.left] 2 ++ (listB lineB m.lines ++ (diskB m.disk ++ (tapeB m.tape ++ (numsB [m.now] 6 ++ (bitsB [m.halted, m.waiting] ++ (numsB [m.power] 2 ++ bitsB [m.powerTrap])))))))))))
def pMachine : Par Machine := pBind pCpu fun a0 => pBind (pList (pNum 2)) fun a1 => pBind (pList (pNum 2)) fun a2 => pBind pMmu fun a3 => pBind pBit fun a4 => pBind pBit fun a5 => pBind (pNum 2) fun a6 => pBind (pNum 2) fun a7 => pBind (pList pLine) fun a8 => pBind pDisk fun a9 => pBind pTape fun a10 => pBind (pNum 6) fun a11 => pBind pBit fun a12 => pBind pBit fun a13 => pBind (pNum 2) fun a14 => pBind pBit fun a15 => pRet ⟨a0, a1, a2, a3, ⟨a4, a5, a6, a7⟩, a8, a9, a10, a11, a12, a13, a14, a15⟩
def GMachine (x : Machine) : Prop := GCpu x.cpu ∧ (x.mem.length ≤ 65535 ∧ ∀ y ∈ x.mem, GNum 2 y) ∧ (x.bad.length ≤ 65535 ∧ ∀ y ∈ x.bad, GNum 2 y) ∧ GMmu x.mmu ∧ GNum 2 x.clock.period ∧ GNum 2 x.clock.left ∧ (x.lines.length ≤ 65535 ∧ ∀ y ∈ x.lines, GLine y) ∧ GDisk x.disk ∧ GTape x.tape ∧ GNum 6 x.now ∧ GNum 2 x.power
theorem machine_inv : Inv pMachine partsB GMachine := by
  constructor
  · intro x u h
    obtain ⟨g0, g1, g2, g3, g6, g7, g8, g9, g10, g11, g14⟩ := h
    simp only [partsB, bitsB, numsB, List.flatMap_cons, List.flatMap_nil, List.append_nil, List.append_assoc]
    simp only [pMachine, pBind, cpu_inv.back _ _ g0, (list_inv (num_inv 2)).back _ _ g1, (list_inv (num_inv 2)).back _ _ g2, mmu_inv.back _ _ g3, bit_inv.back _ _ trivial, bit_inv.back _ _ trivial, (num_inv 2).back _ _ g6, (num_inv 2).back _ _ g7, (list_inv line_inv).back _ _ g8, disk_inv.back _ _ g9, tape_inv.back _ _ g10, (num_inv 6).back _ _ g11, bit_inv.back _ _ trivial, bit_inv.back _ _ trivial, (num_inv 2).back _ _ g14, bit_inv.back _ _ trivial, pRet]
  · intro s x u e
    obtain ⟨a0, s0, h0, e⟩ := bind_some e
    obtain ⟨a1, s1, h1, e⟩ := bind_some e
    obtain ⟨a2, s2, h2, e⟩ := bind_some e
    obtain ⟨a3, s3, h3, e⟩ := bind_some e
    obtain ⟨a4, s4, h4, e⟩ := bind_some e
    obtain ⟨a5, s5, h5, e⟩ := bind_some e
    obtain ⟨a6, s6, h6, e⟩ := bind_some e
    obtain ⟨a7, s7, h7, e⟩ := bind_some e
    obtain ⟨a8, s8, h8, e⟩ := bind_some e
    obtain ⟨a9, s9, h9, e⟩ := bind_some e
    obtain ⟨a10, s10, h10, e⟩ := bind_some e
    obtain ⟨a11, s11, h11, e⟩ := bind_some e
    obtain ⟨a12, s12, h12, e⟩ := bind_some e
    obtain ⟨a13, s13, h13, e⟩ := bind_some e
    obtain ⟨a14, s14, h14, e⟩ := bind_some e
    obtain ⟨a15, s15, h15, e⟩ := bind_some e
    obtain ⟨rfl, rfl⟩ := ret_some e
    obtain ⟨t0, g0⟩ := cpu_inv.sound _ _ _ h0
    obtain ⟨t1, g1⟩ := (list_inv (num_inv 2)).sound _ _ _ h1
    obtain ⟨t2, g2⟩ := (list_inv (num_inv 2)).sound _ _ _ h2
    obtain ⟨t3, g3⟩ := mmu_inv.sound _ _ _ h3
    obtain ⟨t4, g4⟩ := bit_inv.sound _ _ _ h4
    obtain ⟨t5, g5⟩ := bit_inv.sound _ _ _ h5
    obtain ⟨t6, g6⟩ := (num_inv 2).sound _ _ _ h6
    obtain ⟨t7, g7⟩ := (num_inv 2).sound _ _ _ h7
    obtain ⟨t8, g8⟩ := (list_inv line_inv).sound _ _ _ h8
    obtain ⟨t9, g9⟩ := disk_inv.sound _ _ _ h9
    obtain ⟨t10, g10⟩ := tape_inv.sound _ _ _ h10
    obtain ⟨t11, g11⟩ := (num_inv 6).sound _ _ _ h11
    obtain ⟨t12, g12⟩ := bit_inv.sound _ _ _ h12
    obtain ⟨t13, g13⟩ := bit_inv.sound _ _ _ h13
    obtain ⟨t14, g14⟩ := (num_inv 2).sound _ _ _ h14
    obtain ⟨t15, g15⟩ := bit_inv.sound _ _ _ h15
    refine ⟨?_, g0, g1, g2, g3, g6, g7, g8, g9, g10, g11, g14⟩
    simp only [partsB, bitsB, numsB, List.flatMap_cons, List.flatMap_nil, List.append_nil, List.append_assoc]
    rw [t0, t1, t2, t3, t4, t5, t6, t7, t8, t9, t10, t11, t12, t13, t14, t15]
end Go.Proofs.YtiafliookmnjoaaGreatDoor
end
section
set_option linter.unusedSimpArgs false
set_option linter.unusedVariables false
namespace Go.Proofs.YtiafliookmnjoaaGreatDoor
open Go Go.Ab C31
theorem seal_def (l : List UInt8) (hl : l.length ≤ 100000000) : octet_Seal none l = some (sealL l) := by
  have p1 : octet_Put none (crcV l) (4 : Int) = some (putL (crcV l) 4) := octet_Put_def (crcV l) 4 (by omega)
  have hj := joined_def l (putL (crcV l) 4) (by rw [putL_len]; omega)
  simp only [octet_Seal, Toctet_Seal, Tree.run, sum_def l (by omega), p1, hj, Option.bind_some, sealL]
theorem get_def (s : List UInt8) (a : Int) (w : Nat) (h1 : 1 ≤ w) (hw : w ≤ 7) (hs : s.length ≤ 1000000) : octet_Get none s a (w : Int) = some (getR s a w) := by
  have c1 : ¬ (w : Int) < 1 := by omega
  have c2 : ¬ (7 : Int) < (w : Int) := by omega
  simp only [octet_Get, Toctet_Get, Tree.run, c1, c2, decide_false, Bool.false_eq_true, if_false, getR]
  by_cases c3 : a < 0
  · simp [c3]
  by_cases c4 : (s.length : Int) < a
  · simp [c3, c4]
  have w1 : IntKind.wrap .i64 ((s.length : Int) - a) = (s.length : Int) - a := wrap_id (by omega) (by omega)
  simp only [c3, c4, decide_false, Bool.false_eq_true, if_false, or_self, w1]
  by_cases c5 : (s.length : Int) - a < (w : Int)
  · simp [c5]
  obtain ⟨n, rfl⟩ : ∃ n : Nat, a = (n : Int) := ⟨a.toNat, by omega⟩
  have w2 : IntKind.wrap .i64 ((w : Int) - 1) = (w : Int) - 1 := wrap_id (by omega) (by omega)
  have w3 : IntKind.wrap .i64 ((n : Int) + (w : Int)) = (n : Int) + (w : Int) := wrap_id (by omega) (by omega)
  have e1 := octet_get_loop s n w hw (by omega) hs
  simp only [c5, decide_false, Bool.false_eq_true, if_false, w2, w3, e1, Option.bind_some, Int.toNat_natCast]
theorem getText_def (s : List UInt8) (a : Int) (hs : s.length ≤ 1000000) : octet_GetText none s a = some (textR s a) := by
  have e1 := get_def s a 2 (by omega) (by omega) hs
  have e1' : octet_Get none s a (2 : Int) = some (getR s a 2) := e1
  simp only [octet_GetText, Toctet_GetText, Tree.run, e1', Option.bind_some, textR]
  by_cases c0 : (getR s a 2).2.2 = 0
  · obtain ⟨h1, h2, h3, h4, h5⟩ := getR_ok c0
    have h5 : (getR s a 2).1 < 65536 := h5
    generalize getR s a 2 = r at *
    have w1 : IntKind.wrap .i64 ((s.length : Int) - r.2.1) = (s.length : Int) - r.2.1 := wrap_id (by omega) (by omega)
    have w2 : IntKind.wrap .i64 (r.2.1 + r.1) = r.2.1 + r.1 := wrap_id (by omega) (by omega)
    simp only [c0, decide_true, decide_false, Bool.not_true, Bool.false_eq_true, if_false, w1, w2, not_true_eq_false]
    by_cases c1 : (s.length : Int) - r.2.1 < r.1
    · simp [c1]
    · have k1 : 0 ≤ r.2.1 := by omega
      have k2 : r.2.1 ≤ ((s.length : Nat) : Int) := by omega
      have e4 : (s.drop r.2.1.toNat).take (s.length - r.2.1.toNat) = s.drop r.2.1.toNat := List.take_of_length_le (by rw [List.length_drop]; omega)
      have k6 : r.1 ≤ (((s.drop r.2.1.toNat).length : Nat) : Int) := by rw [List.length_drop]; omega
      simp only [c1, decide_false, Bool.false_eq_true, if_false, k1, k2, h4, e4, k6, decide_true, if_true, List.drop_zero, Nat.sub_zero]
  · simp [c0]
theorem open_def (s : List UInt8) (hs : s.length ≤ 1000000) : octet_Open none s = some (openR s) := by
  have w1 : IntKind.wrap .i64 ((s.length : Int) - 4) = (s.length : Int) - 4 := wrap_id (by omega) (by omega)
  simp only [octet_Open, Toctet_Open, Tree.run, w1, openR]
  by_cases c1 : s.length < 4
  · have d1 : (s.length : Int) - 4 < 0 := by omega
    simp [c1, d1]
  · have d1 : ¬ (s.length : Int) - 4 < 0 := by omega
    have k1 : (0 : Int) ≤ (s.length : Int) - 4 := by omega
    have k2 : (s.length : Int) - 4 ≤ ((s.length : Nat) : Int) := by omega
    have e1 : ((s.length : Int) - 4).toNat = s.length - 4 := by omega
    have q1 := sum_def (s.take (s.length - 4)) (by rw [List.length_take]; omega)
    have p1 : octet_Put none (crcV (s.take (s.length - 4))) (4 : Int) = some (putL (crcV (s.take (s.length - 4))) 4) := octet_Put_def _ 4 (by omega)
    have e2 : (s.drop (s.length - 4)).take (s.length - (s.length - 4)) = s.drop (s.length - 4) := List.take_of_length_le (by rw [List.length_drop]; omega)
    simp only [c1, d1, k1, k2, e1, e2, decide_true, decide_false, Bool.false_eq_true, if_false, if_true, List.drop_zero, Nat.sub_zero, q1, p1, Option.bind_some]
    by_cases c2 : s.drop (s.length - 4) = putL (crcV (s.take (s.length - 4))) 4
    · simp only [c2, decide_true, Bool.not_true, Bool.false_eq_true, if_false, if_true]
    · simp only [c2, decide_false, Bool.not_false, if_true, if_false]
end Go.Proofs.YtiafliookmnjoaaGreatDoor
end
section
set_option linter.unusedSimpArgs false
set_option linter.unusedVariables false
namespace Go.Proofs.YtiafliookmnjoaaGreatDoor
open Go Go.Ab C31
def magicL : List UInt8 := [69, 77, 85, 49]
def bodyL (m : Machine) : List UInt8 := magicL ++ partsB m
/-- the arrays have their lengths -/
structure ArrM (m : Machine) : Prop where
  r : m.cpu.r.length = 6
  sp : m.cpu.sP.length = 2
  pages : m.mmu.pages.length = 16
theorem cpuB_len (c : Cpu) (h : c.r.length = 6) : (cpuB c).length = 20 := by
  rw [cpuB, List.length_append, numsB_len, numsB_len, h]; rfl
theorem mmuB_len (u : Mmu) (h : u.pages.length = 16) : (mmuB u).length ≤ 84 := by
  have := flat_len pageB 5 u.pages fun y _ => Nat.le_of_eq (pageB_len y)
  simp only [mmuB, List.length_append, bitsB_len, numsB_len, List.length_cons, List.length_nil]
  omega
theorem diskB_len (x : Disk) (h1 : x.drive.sectors.length ≤ 64) (h2 : ∀ s ∈ x.drive.sectors, s.length ≤ 600) (h3 : x.drive.bad.length ≤ 100) : (diskB x).length ≤ 38743 := by
  have a := listB_len textB 602 x.drive.sectors (fun y hy => by rw [textB_len]; have := h2 y hy; omega)
  have a' := Nat.mul_le_mul_right 602 h1
  have b := listB_len (fun n => putL n 2) 2 x.drive.bad (fun y _ => by rw [putL_len]; exact Nat.le_refl 2)
  have b' := Nat.mul_le_mul_right 2 h3
  simp only [diskB, List.length_append, bitsB_len, numsB_len, List.length_cons, List.length_nil]
  omega
theorem tapeB_len (x : Tape) (h1 : x.records.length ≤ 10) (h2 : ∀ s ∈ x.records, s.length ≤ 600) : (tapeB x).length ≤ 6034 := by
  have a := listB_len textB 602 x.records (fun y hy => by rw [textB_len]; have := h2 y hy; omega)
  have a' := Nat.mul_le_mul_right 602 h1
  simp only [tapeB, List.length_append, bitsB_len, numsB_len, List.length_cons, List.length_nil]
  omega
theorem body_def (m : Machine) (h : Modest m) (hA : ArrM m) : save_body none m = some (bodyL m) ∧ (bodyL m).length ≤ 60000 := by
  have hm1 := h.mem
  have hm2 := h.bad
  have hw : strings_Builder_WriteString ([69, 77, 85, 49] : List UInt8) () = some (4, nums magicL) := by
    simp only [strings_Builder_WriteString, Tstrings_Builder_WriteString, Tree.run, ccF, Option.bind_some]
    rfl
  generalize hg0 : nums magicL = g0 at hw
  have hb0 : g0.length ≤ 4 := by rw [← hg0, nums_len]; exact Nat.le_refl 4
  have e0 : save_writer_cpu none m.cpu () g0 = some (g0 ++ nums (cpuB m.cpu)) := cpu_def m.cpu g0 hA.r hA.sp (by omega)
  have hb1 : (g0 ++ nums (cpuB m.cpu)).length ≤ 24 := by
    have hlb : (cpuB m.cpu).length ≤ 20 := Nat.le_of_eq (cpuB_len m.cpu hA.r)
    rw [List.length_append, nums_len]; omega
  generalize hg1 : g0 ++ nums (cpuB m.cpu) = g1 at e0 hb1
  have e1 : save_list_int none m.mem () g1 = some (g1 ++ nums (listB (fun n => putL n 2) m.mem)) := listInt_def m.mem g1 (by omega) (fun _ _ => trivial) (by omega)
  have hb2 : (g1 ++ nums (listB (fun n => putL n 2) m.mem)).length ≤ 4122 := by
    have hlb : (listB (fun n => putL n 2) m.mem).length ≤ 4098 := by have := listB_len (fun n => putL n 2) 2 m.mem (fun y _ => by rw [putL_len]; exact Nat.le_refl 2); have := Nat.mul_le_mul_right 2 hm1; omega
    rw [List.length_append, nums_len]; omega
  generalize hg2 : g1 ++ nums (listB (fun n => putL n 2) m.mem) = g2 at e1 hb2
  have e2 : save_list_int none m.bad () g2 = some (g2 ++ nums (listB (fun n => putL n 2) m.bad)) := listInt_def m.bad g2 (by omega) (fun _ _ => trivial) (by omega)
  have hb3 : (g2 ++ nums (listB (fun n => putL n 2) m.bad)).length ≤ 4324 := by
    have hlb : (listB (fun n => putL n 2) m.bad).length ≤ 202 := by have := listB_len (fun n => putL n 2) 2 m.bad (fun y _ => by rw [putL_len]; exact Nat.le_refl 2); have := Nat.mul_le_mul_right 2 hm2; omega
    rw [List.length_append, nums_len]; omega
  generalize hg3 : g2 ++ nums (listB (fun n => putL n 2) m.bad) = g3 at e2 hb3
  have e3 : save_writer_mmu none m.mmu () g3 = some (g3 ++ nums (mmuB m.mmu)) := mmu_def m.mmu g3 hA.pages (by omega)
  have hb4 : (g3 ++ nums (mmuB m.mmu)).length ≤ 4408 := by
    have hlb : (mmuB m.mmu).length ≤ 84 := mmuB_len m.mmu hA.pages
    rw [List.length_append, nums_len]; omega
  generalize hg4 : g3 ++ nums (mmuB m.mmu) = g4 at e3 hb4
  have e4 : save_writer_truths none () [m.clock.enable, m.clock.ready] g4 = some ([m.clock.enable, m.clock.ready], g4 ++ nums (bitsB [m.clock.enable, m.clock.ready])) := truths_def [m.clock.enable, m.clock.ready] g4 (by simp) (by omega)
  have hb5 : (g4 ++ nums (bitsB [m.clock.enable, m.clock.ready])).length ≤ 4410 := by
    have hlb : (bitsB [m.clock.enable, m.clock.ready]).length ≤ 2 := by rw [bitsB_len]; simp
    rw [List.length_append, nums_len]; omega
  generalize hg5 : g4 ++ nums (bitsB [m.clock.enable, m.clock.ready]) = g5 at e4 hb5
  have e5 : save_writer_nums_V2 none (2 : Int) () [m.clock.period, m.clock.left] g5 = some ([m.clock.period, m.clock.left], g5 ++ nums (numsB [m.clock.period, m.clock.left] 2)) := nums_def [m.clock.period, m.clock.left] 2 g5 (by omega) (by simp) (by omega)
  have hb6 : (g5 ++ nums (numsB [m.clock.period, m.clock.left] 2)).length ≤ 4414 := by
    have hlb : (numsB [m.clock.period, m.clock.left] 2).length ≤ 4 := by rw [numsB_len]; simp
    rw [List.length_append, nums_len]; omega
  generalize hg6 : g5 ++ nums (numsB [m.clock.period, m.clock.left] 2) = g6 at e5 hb6
  have e6 : save_list_api_Line none m.lines () g6 = some (g6 ++ nums (listB lineB m.lines)) := listLine_def m.lines g6 h.lines h.outs (by omega)
  have hb7 : (g6 ++ nums (listB lineB m.lines)).length ≤ 10616 := by
    have hlb : (listB lineB m.lines).length ≤ 6202 := by have := listB_len lineB 620 m.lines (fun y hy => lineB_len y (h.outs y hy)); have := Nat.mul_le_mul_right 620 h.lines; omega
    rw [List.length_append, nums_len]; omega
  generalize hg7 : g6 ++ nums (listB lineB m.lines) = g7 at e6 hb7
  have e7 : save_writer_disk none m.disk () g7 = some (g7 ++ nums (diskB m.disk)) := disk_def m.disk g7 h.sect h.sects h.dbad (by omega)
  have hb8 : (g7 ++ nums (diskB m.disk)).length ≤ 49359 := by
    have hlb : (diskB m.disk).length ≤ 38743 := diskB_len m.disk h.sect h.sects h.dbad
    rw [List.length_append, nums_len]; omega
  generalize hg8 : g7 ++ nums (diskB m.disk) = g8 at e7 hb8
  have e8 : save_writer_tape none m.tape () g8 = some (g8 ++ nums (tapeB m.tape)) := tape_def m.tape g8 h.recs h.texts (by omega)
  have hb9 : (g8 ++ nums (tapeB m.tape)).length ≤ 55393 := by
    have hlb : (tapeB m.tape).length ≤ 6034 := tapeB_len m.tape h.recs h.texts
    rw [List.length_append, nums_len]; omega
  generalize hg9 : g8 ++ nums (tapeB m.tape) = g9 at e8 hb9
  have e9 : save_writer_nums_V2 none (6 : Int) () [m.now] g9 = some ([m.now], g9 ++ nums (numsB [m.now] 6)) := nums_def [m.now] 6 g9 (by omega) (by simp) (by omega)
  have hb10 : (g9 ++ nums (numsB [m.now] 6)).length ≤ 55399 := by
    have hlb : (numsB [m.now] 6).length ≤ 6 := by rw [numsB_len]; simp
    rw [List.length_append, nums_len]; omega
  generalize hg10 : g9 ++ nums (numsB [m.now] 6) = g10 at e9 hb10
  have e10 : save_writer_truths none () [m.halted, m.waiting] g10 = some ([m.halted, m.waiting], g10 ++ nums (bitsB [m.halted, m.waiting])) := truths_def [m.halted, m.waiting] g10 (by simp) (by omega)
  have hb11 : (g10 ++ nums (bitsB [m.halted, m.waiting])).length ≤ 55401 := by
    have hlb : (bitsB [m.halted, m.waiting]).length ≤ 2 := by rw [bitsB_len]; simp
    rw [List.length_append, nums_len]; omega
  generalize hg11 : g10 ++ nums (bitsB [m.halted, m.waiting]) = g11 at e10 hb11
  have e11 : save_writer_nums_V2 none (2 : Int) () [m.power] g11 = some ([m.power], g11 ++ nums (numsB [m.power] 2)) := nums_def [m.power] 2 g11 (by omega) (by simp) (by omega)
  have hb12 : (g11 ++ nums (numsB [m.power] 2)).length ≤ 55403 := by
    have hlb : (numsB [m.power] 2).length ≤ 2 := by rw [numsB_len]; simp
    rw [List.length_append, nums_len]; omega
  generalize hg12 : g11 ++ nums (numsB [m.power] 2) = g12 at e11 hb12
  have e12 : save_writer_truths none () [m.powerTrap] g12 = some ([m.powerTrap], g12 ++ nums (bitsB [m.powerTrap])) := truths_def [m.powerTrap] g12 (by simp) (by omega)
  have hb13 : (g12 ++ nums (bitsB [m.powerTrap])).length ≤ 55404 := by
    have hlb : (bitsB [m.powerTrap]).length ≤ 1 := by rw [bitsB_len]; simp
    rw [List.length_append, nums_len]; omega
  generalize hg13 : g12 ++ nums (bitsB [m.powerTrap]) = g13 at e12 hb13
  have hr : g13 = nums (bodyL m) := by
    rw [← hg13, ← hg12, ← hg11, ← hg10, ← hg9, ← hg8, ← hg7, ← hg6, ← hg5, ← hg4, ← hg3, ← hg2, ← hg1, ← hg0]
    simp only [bodyL, partsB, nums_append, List.append_assoc]
  rw [hr, nums_len] at hb13
  have hr' : g13.map (fun x => UInt8.ofNat x.toNat) = bodyL m := by rw [hr]; exact unnums _
  have hs : strF (bodyL m) = some (bodyL m) := rfl
  refine ⟨?_, by omega⟩
  simp only [save_body, Tsave_body, Tree.run, hw, e0, e1, e2, e3, e4, e5, e6, e7, e8, e9, e10, e11, e12, Option.bind_some, hr', hs]
theorem Encode_def (m : Machine) (h : Modest m) (hA : ArrM m) (hR : machine_Right none m = some true) : save_Encode none m = some (sealL (bodyL m), 0) := by
  obtain ⟨hb, hl⟩ := body_def m h hA
  simp only [save_Encode, Tsave_Encode, Tree.run, hR, hb, seal_def _ (show (bodyL m).length ≤ 100000000 by omega), Option.bind_some, Bool.not_true, Bool.false_eq_true, if_false]
end Go.Proofs.YtiafliookmnjoaaGreatDoor
end
section
set_option linter.unusedSimpArgs false
set_option linter.unusedVariables false
namespace Go.Proofs.YtiafliookmnjoaaGreatDoor
open Go Go.Ab C31
/-- the reader over the bytes S -/
def RP (S : List UInt8) : Rdg Reader := ⟨fun r => S.drop r.at_.toNat, fun r => r.bad, fun r => r.s = S ∧ 0 ≤ r.at_ ∧ r.at_ ≤ (S.length : Int)⟩
theorem Rds.stuck {ρ α : Type} {R : Rdg ρ} {r : ρ} {p : Par α} (x : α) (h : R.ok r) (hb : R.bad r = true) : Rds R r r p x :=
  ⟨h, id, fun e => (by rw [hb] at e; cases e), fun _ _ e => (by rw [hb] at e; cases e)⟩
/-- how a function of the reader reads -/
abbrev Rdr {α : Type} (S : List UInt8) (F : Reader → Option (α × Reader)) (p : Par α) : Prop := ∀ r, (RP S).ok r → ∃ x r', F r = some (x, r') ∧ Rds (RP S) r r' p x
variable {S : List UInt8}
theorem rnum (hS : S.length ≤ 1000000) (w : Nat) (h1 : 1 ≤ w) (hw : w ≤ 7) : Rdr S (save_reader_num none (w : Int)) (pNum w) := fun r h => by
  obtain ⟨h0, ha, hb⟩ := h
  have e1 := get_def r.s r.at_ w h1 hw (by rw [h0]; exact hS)
  rw [h0] at e1
  have c1 : ¬ (r.at_ < 0 ∨ (S.length : Int) < r.at_) := by omega
  have hd : (S.drop r.at_.toNat).length = S.length - r.at_.toNat := List.length_drop
  by_cases c : (S.length : Int) - r.at_ < (w : Int)
  · have eg : getR S r.at_ w = (0, 0, 8) := by rw [getR, if_neg c1, if_pos c]
    refine ⟨0, ⟨r.s, r.at_, true⟩, ?_, ⟨⟨h0, ha, hb⟩, fun _ => rfl, fun _ _ => rfl, fun y u _ e => ?_⟩⟩
    · rw [eg] at e1
      rw [← h0] at e1
      simp only [save_reader_num, Tsave_reader_num, Tree.run, e1, Option.bind_some]
      rfl
    · exfalso
      have e : pNum w (S.drop r.at_.toNat) = some (y, u) := e
      rw [pNum, if_pos (by rw [hd]; omega)] at e
      cases e
  · have eg : getR S r.at_ w = (upV S r.at_.toNat w w, r.at_ + (w : Int), 0) := by rw [getR, if_neg c1, if_neg c]
    have k : ¬ (S.drop r.at_.toNat).length < w := by rw [hd]; omega
    have ht : (r.at_ + (w : Int)).toNat = r.at_.toNat + w := by omega
    refine ⟨upV S r.at_.toNat w w, ⟨r.s, r.at_ + (w : Int), r.bad⟩, ?_, ⟨⟨h0, by simp only; omega, by simp only; omega⟩, fun e => e, fun _ e => ?_, fun y u h2 e => ?_⟩⟩
    · rw [eg] at e1
      rw [← h0] at e1
      simp only [save_reader_num, Tsave_reader_num, Tree.run, e1, Option.bind_some]
      rw [h0]
      rfl
    · exfalso
      have e : pNum w (S.drop r.at_.toNat) = none := e
      rw [pNum, if_neg k] at e
      cases e
    · have e : pNum w (S.drop r.at_.toNat) = some (y, u) := e
      rw [pNum, if_neg k] at e
      simp only [Option.some.injEq, Prod.mk.injEq] at e
      refine ⟨by rw [← e.1, upV_drop], h2, ?_⟩
      show S.drop (r.at_ + (w : Int)).toNat = u
      rw [← e.2, ht, List.drop_drop]
theorem rnum1 (hS : S.length ≤ 1000000) : Rdr S (save_reader_num none (1 : Int)) (pNum 1) := rnum hS 1 (by omega) (by omega)
theorem rnum6 (hS : S.length ≤ 1000000) : Rdr S (save_reader_num none (6 : Int)) (pNum 6) := rnum hS 6 (by omega) (by omega)
theorem rword (hS : S.length ≤ 1000000) : Rdr S (save_reader_word none) (pNum 2) := fun r h => by
  obtain ⟨x, r', e, s⟩ := (rnum hS 2 (by omega) (by omega) : Rdr S (save_reader_num none (2 : Int)) (pNum 2)) r h
  have e : save_reader_num none (2 : Int) r = some (x, r') := e
  exact ⟨x, r', by simp only [save_reader_word, Tsave_reader_word, Tree.run, e, Option.bind_some], s⟩
theorem rtruth (hS : S.length ≤ 1000000) : Rdr S (save_reader_truth none) pBit := fun r h => by
  obtain ⟨n, r1, e, s⟩ := rnum1 hS r h
  cases hb : r1.bad with
  | true =>
    refine ⟨decide (n = 1), ⟨r1.s, r1.at_, true⟩, by simp only [save_reader_truth, Tsave_reader_truth, Tree.run, e, hb, Option.bind_some, if_true], ⟨s.ok, fun _ => rfl, fun _ _ => rfl, fun y u h2 e2 => ?_⟩⟩
    exfalso
    obtain ⟨a, t, q1, q2⟩ := bind_some e2
    have q3 := (s.some a t h2 q1).2.1
    have q4 : r1.bad = false := q3
    rw [hb] at q4; cases q4
  | false =>
    have h2 : r.bad = false := by
      cases h3 : r.bad with
      | false => rfl
      | true => have q4 : r1.bad = true := s.stay h3
                rw [hb] at q4; cases q4
    refine ⟨decide (n = 1), ⟨r1.s, r1.at_, decide ((1 : Int) < n)⟩, by simp only [save_reader_truth, Tsave_reader_truth, Tree.run, e, hb, Option.bind_some, Bool.false_eq_true, if_false], ⟨s.ok, fun h3 => ?_, fun _ e2 => ?_, fun y u _ e2 => ?_⟩⟩
    · have h3 : r.bad = true := h3
      rw [h2] at h3; cases h3
    · cases hp : pNum 1 ((RP S).rest r) with
      | none => have q4 : r1.bad = true := s.none h2 hp
                rw [hb] at q4; cases q4
      | some q =>
        obtain ⟨a, b, c⟩ := s.some q.1 q.2 h2 hp
        simp only [pBit, pBind, hp] at e2
        show decide ((1 : Int) < n) = true
        split at e2
        · rw [a]; exact decide_eq_true ‹_›
        · cases e2
    · obtain ⟨a, t, q1, q2⟩ := bind_some e2
      obtain ⟨c1, c2, c3⟩ := s.some a t h2 q1
      split at q2
      · cases q2
      · simp only [Option.some.injEq, Prod.mk.injEq] at q2
        refine ⟨by rw [c1]; exact q2.1, ?_, ?_⟩
        · show decide ((1 : Int) < n) = false
          rw [c1]; exact decide_eq_false ‹_›
        · rw [← q2.2]; exact c3
theorem rtext (hS : S.length ≤ 1000000) : Rdr S (save_reader_text none) pText := fun r h => by
  obtain ⟨h0, ha, hb⟩ := h
  have e1 := getText_def r.s r.at_ (by rw [h0]; exact hS)
  rw [h0] at e1
  have c1 : ¬ (r.at_ < 0 ∨ (S.length : Int) < r.at_) := by omega
  have hd : (S.drop r.at_.toNat).length = S.length - r.at_.toNat := List.length_drop
  by_cases c : (S.length : Int) - r.at_ < 2
  · have eg : getR S r.at_ 2 = (0, 0, 8) := by rw [getR, if_neg c1, if_pos (by exact c)]
    have et : textR S r.at_ = ([], 0, 8) := by rw [textR, eg]; rfl
    refine ⟨[], ⟨r.s, r.at_, true⟩, ?_, ⟨⟨h0, ha, hb⟩, fun _ => rfl, fun _ _ => rfl, fun y u _ e => ?_⟩⟩
    · rw [et, ← h0] at e1
      simp only [save_reader_text, Tsave_reader_text, Tree.run, e1, Option.bind_some]
      rfl
    · exfalso
      obtain ⟨a, t, q1, q2⟩ := bind_some e
      have q1 : pNum 2 (S.drop r.at_.toNat) = some (a, t) := q1
      rw [pNum, if_pos (by rw [hd]; omega)] at q1
      cases q1
  · have eg : getR S r.at_ 2 = (upV S r.at_.toNat 2 2, r.at_ + 2, 0) := by rw [getR, if_neg c1, if_neg (by exact c)]; rfl
    have k : ¬ (S.drop r.at_.toNat).length < 2 := by rw [hd]; omega
    have ep : pNum 2 (S.drop r.at_.toNat) = some (upV S r.at_.toNat 2 2, S.drop (r.at_.toNat + 2)) := by rw [pNum, if_neg k, upV_drop, List.drop_drop]
    have hu := upV_in S r.at_.toNat 2 2
    generalize upV S r.at_.toNat 2 2 = n at eg ep hu
    have ht : (r.at_ + 2).toNat = r.at_.toNat + 2 := by omega
    have hl : (S.drop (r.at_.toNat + 2)).length = S.length - (r.at_.toNat + 2) := List.length_drop
    by_cases c2 : (S.length : Int) - (r.at_ + 2) < n
    · have et : textR S r.at_ = ([], 0, 8) := by
        rw [textR, eg]; simp only [not_true_eq_false, if_false]; rw [if_pos c2]
      refine ⟨[], ⟨r.s, r.at_, true⟩, ?_, ⟨⟨h0, ha, hb⟩, fun _ => rfl, fun _ _ => rfl, fun y u _ e => ?_⟩⟩
      · rw [et, ← h0] at e1
        simp only [save_reader_text, Tsave_reader_text, Tree.run, e1, Option.bind_some]
        rfl
      · exfalso
        have e : pText (S.drop r.at_.toNat) = some (y, u) := e
        simp only [pText, pBind, ep] at e
        rw [if_pos (by rw [hl]; omega)] at e
        cases e
    · have et : textR S r.at_ = ((S.drop (r.at_ + 2).toNat).take n.toNat, r.at_ + 2 + n, 0) := by
        rw [textR, eg]; simp only [not_true_eq_false, if_false]; rw [if_neg c2]
      refine ⟨(S.drop (r.at_ + 2).toNat).take n.toNat, ⟨r.s, r.at_ + 2 + n, r.bad⟩, ?_, ⟨⟨h0, by simp only; omega, by simp only; omega⟩, fun e => e, fun _ e => ?_, fun y u h2 e => ?_⟩⟩
      · rw [et, ← h0] at e1
        simp only [save_reader_text, Tsave_reader_text, Tree.run, e1, Option.bind_some]
        rw [h0]
        rfl
      · exfalso
        have e : pText (S.drop r.at_.toNat) = none := e
        simp only [pText, pBind, ep] at e
        rw [if_neg (by rw [hl]; omega)] at e
        cases e
      · have e : pText (S.drop r.at_.toNat) = some (y, u) := e
        simp only [pText, pBind, ep] at e
        rw [if_neg (by rw [hl]; omega)] at e
        simp only [Option.some.injEq, Prod.mk.injEq] at e
        refine ⟨by rw [ht]; exact e.1, h2, ?_⟩
        show S.drop (r.at_ + 2 + n).toNat = u
        rw [← e.2, List.drop_drop]
        congr 1
        omega
theorem num_range (hS : S.length ≤ 1000000) {r r1 : Reader} {n : Int} (h : (RP S).ok r) (e : save_reader_word none r = some (n, r1)) : 0 ≤ n ∧ n < 65536 := by
  obtain ⟨h0, ha, hb⟩ := h
  have e1 : octet_Get none r.s r.at_ (2 : Int) = some (getR r.s r.at_ 2) := get_def r.s r.at_ 2 (by omega) (by omega) (by rw [h0]; exact hS)
  simp only [save_reader_word, Tsave_reader_word, save_reader_num, Tsave_reader_num, Tree.run, e1, Option.bind_some] at e
  by_cases c : (getR r.s r.at_ 2).2.2 = 0
  · have := getR_ok c
    simp only [c, decide_true, Bool.not_true, Bool.false_eq_true, if_false, Option.bind_some, Option.some.injEq, Prod.mk.injEq] at e
    rw [← e.1]
    exact ⟨this.2.2.2.1, this.2.2.2.2⟩
  · simp only [c, decide_false, Bool.not_false, if_true, Option.bind_some, Option.some.injEq, Prod.mk.injEq] at e
    rw [← e.1]
    omega
theorem rlistInt_loop (hS : S.length ≤ 1000000) : ∀ (n : Nat) (r : Reader) (acc : List Int), (RP S).ok r → acc.length + n ≤ 1000000 → ∃ xs r', Lsave_listed_int_0 none ⟨(n : Int), r, acc⟩ = some (r', acc ++ xs) ∧ Rds (RP S) r r' (pRep (pNum 2) n) xs := by
  intro n
  induction n with
  | zero =>
    intro r acc h hn
    refine ⟨[], r, ?_, Rds.ret _ h⟩
    rw [List.append_nil]
    exact lim_done (by
      have k : ¬ (0 : Int) < ((0 : Nat) : Int) := by omega
      simp only [Wsave_listed_int_0, Tree.run, k, decide_false, Bool.false_eq_true, if_false])
  | succ n ih =>
    intro r acc h hn
    have k : (0 : Int) < ((n + 1 : Nat) : Int) := by omega
    cases hb : r.bad with
    | true =>
      refine ⟨[], r, ?_, Rds.stuck _ h hb⟩
      rw [List.append_nil]
      exact lim_done (by simp only [Wsave_listed_int_0, Tree.run, k, hb, decide_true, if_true, Bool.not_true, Bool.false_eq_true, if_false])
    | false =>
      obtain ⟨x, r1, e, s⟩ := rword hS r h
      have w : IntKind.wrap .i64 (((n + 1 : Nat) : Int) - 1) = (n : Int) := by rw [wrap_id] <;> omega
      have hl : (acc.length + ([x] : List Int).length) * 8 ≤ 140737488355328 := by simp only [List.length_cons, List.length_nil]; omega
      have step : (Wsave_listed_int_0 none ⟨((n + 1 : Nat) : Int), r, acc⟩).run = some (.inl ⟨(n : Int), r1, acc ++ [x]⟩) := by
        simp only [Wsave_listed_int_0, Tree.run, k, hb, decide_true, if_true, Bool.not_false, e, Option.bind_some, hl, w]
      obtain ⟨xs, r2, e2, s2⟩ := ih r1 (acc ++ [x]) s.ok (by rw [List.length_append, List.length_cons, List.length_nil]; omega)
      refine ⟨x :: xs, r2, ?_, s.bind (s2.bind (Rds.ret _ s2.ok))⟩
      have hq : Lsave_listed_int_0 none ⟨((n + 1 : Nat) : Int), r, acc⟩ = _ := lim_next step
      rw [hq]
      have e2' : Lsave_listed_int_0 none ⟨(n : Int), r1, acc ++ [x]⟩ = _ := e2
      refine e2'.trans ?_
      rw [List.append_assoc]; rfl
theorem rlistInt (hS : S.length ≤ 1000000) : Rdr S (save_listed_int none) (pList (pNum 2)) := fun r h => by
  obtain ⟨n, r1, e, s⟩ := rword hS r h
  have hn : 0 ≤ n ∧ n < 65536 := num_range hS h e
  obtain ⟨xs, r2, e2, s2⟩ := rlistInt_loop hS n.toNat r1 [] s.ok (by simp only [List.length_nil]; omega)
  rw [Int.toNat_of_nonneg hn.1, List.nil_append] at e2
  exact ⟨xs, r2, by simp only [save_listed_int, Tsave_listed_int, Tree.run, e, e2, Option.bind_some], s.bind s2⟩
theorem rlistText_loop (hS : S.length ≤ 1000000) : ∀ (n : Nat) (r : Reader) (acc : List (List UInt8)), (RP S).ok r → acc.length + n ≤ 1000000 → ∃ xs r', Lsave_listed_string_0 none ⟨(n : Int), r, acc⟩ = some (r', acc ++ xs) ∧ Rds (RP S) r r' (pRep pText n) xs := by
  intro n
  induction n with
  | zero =>
    intro r acc h hn
    refine ⟨[], r, ?_, Rds.ret _ h⟩
    rw [List.append_nil]
    exact lim_done (by
      have k : ¬ (0 : Int) < ((0 : Nat) : Int) := by omega
      simp only [Wsave_listed_string_0, Tree.run, k, decide_false, Bool.false_eq_true, if_false])
  | succ n ih =>
    intro r acc h hn
    have k : (0 : Int) < ((n + 1 : Nat) : Int) := by omega
    cases hb : r.bad with
    | true =>
      refine ⟨[], r, ?_, Rds.stuck _ h hb⟩
      rw [List.append_nil]
      exact lim_done (by simp only [Wsave_listed_string_0, Tree.run, k, hb, decide_true, if_true, Bool.not_true, Bool.false_eq_true, if_false])
    | false =>
      obtain ⟨x, r1, e, s⟩ := rtext hS r h
      have w : IntKind.wrap .i64 (((n + 1 : Nat) : Int) - 1) = (n : Int) := by rw [wrap_id] <;> omega
      have hl : (acc.length + ([x] : List (List UInt8)).length) * 16 ≤ 140737488355328 := by simp only [List.length_cons, List.length_nil]; omega
      have step : (Wsave_listed_string_0 none ⟨((n + 1 : Nat) : Int), r, acc⟩).run = some (.inl ⟨(n : Int), r1, acc ++ [x]⟩) := by
        simp only [Wsave_listed_string_0, Tree.run, k, hb, decide_true, if_true, Bool.not_false, e, Option.bind_some, hl, w]
      obtain ⟨xs, r2, e2, s2⟩ := ih r1 (acc ++ [x]) s.ok (by rw [List.length_append, List.length_cons, List.length_nil]; omega)
      refine ⟨x :: xs, r2, ?_, s.bind (s2.bind (Rds.ret _ s2.ok))⟩
      have hq : Lsave_listed_string_0 none ⟨((n + 1 : Nat) : Int), r, acc⟩ = _ := lim_next step
      rw [hq]
      have e2' : Lsave_listed_string_0 none ⟨(n : Int), r1, acc ++ [x]⟩ = _ := e2
      refine e2'.trans ?_
      rw [List.append_assoc]; rfl
theorem rlistText (hS : S.length ≤ 1000000) : Rdr S (save_listed_string none) (pList pText) := fun r h => by
  obtain ⟨n, r1, e, s⟩ := rword hS r h
  have hn : 0 ≤ n ∧ n < 65536 := num_range hS h e
  obtain ⟨xs, r2, e2, s2⟩ := rlistText_loop hS n.toNat r1 [] s.ok (by simp only [List.length_nil]; omega)
  rw [Int.toNat_of_nonneg hn.1, List.nil_append] at e2
  exact ⟨xs, r2, by simp only [save_listed_string, Tsave_listed_string, Tree.run, e, e2, Option.bind_some], s.bind s2⟩
theorem rline (hS : S.length ≤ 1000000) : Rdr S (save_reader_line none) pLine := fun r h => by
  obtain ⟨x0, r0, e0, s0⟩ := rtruth hS r h
  obtain ⟨x1, r1, e1, s1⟩ := rtruth hS r0 s0.ok
  obtain ⟨x2, r2, e2, s2⟩ := rtruth hS r1 s1.ok
  obtain ⟨x3, r3, e3, s3⟩ := rnum1 hS r2 s2.ok
  obtain ⟨x4, r4, e4, s4⟩ := rtruth hS r3 s3.ok
  obtain ⟨x5, r5, e5, s5⟩ := rtruth hS r4 s4.ok
  obtain ⟨x6, r6, e6, s6⟩ := rnum1 hS r5 s5.ok
  obtain ⟨x7, r7, e7, s7⟩ := rnum1 hS r6 s6.ok
  obtain ⟨x8, r8, e8, s8⟩ := rtext hS r7 s7.ok
  exact ⟨_, r8, by simp only [save_reader_line, Tsave_reader_line, Tree.run, e0, e1, e2, e3, e4, e5, e6, e7, e8, Option.bind_some], (s0.bind (s1.bind (s2.bind (s3.bind (s4.bind (s5.bind (s6.bind (s7.bind (s8.bind (Rds.ret _ s8.ok))))))))))⟩
theorem rlistLine_loop (hS : S.length ≤ 1000000) : ∀ (n : Nat) (r : Reader) (acc : List Line), (RP S).ok r → acc.length + n ≤ 1000000 → ∃ xs r', Lsave_listed_api_Line_0 none ⟨(n : Int), r, acc⟩ = some (r', acc ++ xs) ∧ Rds (RP S) r r' (pRep pLine n) xs := by
  intro n
  induction n with
  | zero =>
    intro r acc h hn
    refine ⟨[], r, ?_, Rds.ret _ h⟩
    rw [List.append_nil]
    exact lim_done (by
      have k : ¬ (0 : Int) < ((0 : Nat) : Int) := by omega
      simp only [Wsave_listed_api_Line_0, Tree.run, k, decide_false, Bool.false_eq_true, if_false])
  | succ n ih =>
    intro r acc h hn
    have k : (0 : Int) < ((n + 1 : Nat) : Int) := by omega
    cases hb : r.bad with
    | true =>
      refine ⟨[], r, ?_, Rds.stuck _ h hb⟩
      rw [List.append_nil]
      exact lim_done (by simp only [Wsave_listed_api_Line_0, Tree.run, k, hb, decide_true, if_true, Bool.not_true, Bool.false_eq_true, if_false])
    | false =>
      obtain ⟨x, r1, e, s⟩ := rline hS r h
      have w : IntKind.wrap .i64 (((n + 1 : Nat) : Int) - 1) = (n : Int) := by rw [wrap_id] <;> omega
      have hl : (acc.length + ([x] : List Line).length) * 56 ≤ 140737488355328 := by simp only [List.length_cons, List.length_nil]; omega
      have step : (Wsave_listed_api_Line_0 none ⟨((n + 1 : Nat) : Int), r, acc⟩).run = some (.inl ⟨(n : Int), r1, acc ++ [x]⟩) := by
        simp only [Wsave_listed_api_Line_0, Tree.run, k, hb, decide_true, if_true, Bool.not_false, e, Option.bind_some, hl, w]
      obtain ⟨xs, r2, e2, s2⟩ := ih r1 (acc ++ [x]) s.ok (by rw [List.length_append, List.length_cons, List.length_nil]; omega)
      refine ⟨x :: xs, r2, ?_, s.bind (s2.bind (Rds.ret _ s2.ok))⟩
      have hq : Lsave_listed_api_Line_0 none ⟨((n + 1 : Nat) : Int), r, acc⟩ = _ := lim_next step
      rw [hq]
      have e2' : Lsave_listed_api_Line_0 none ⟨(n : Int), r1, acc ++ [x]⟩ = _ := e2
      refine e2'.trans ?_
      rw [List.append_assoc]; rfl
theorem rlistLine (hS : S.length ≤ 1000000) : Rdr S (save_listed_api_Line none) (pList pLine) := fun r h => by
  obtain ⟨n, r1, e, s⟩ := rword hS r h
  have hn : 0 ≤ n ∧ n < 65536 := num_range hS h e
  obtain ⟨xs, r2, e2, s2⟩ := rlistLine_loop hS n.toNat r1 [] s.ok (by simp only [List.length_nil]; omega)
  rw [Int.toNat_of_nonneg hn.1, List.nil_append] at e2
  exact ⟨xs, r2, by simp only [save_listed_api_Line, Tsave_listed_api_Line, Tree.run, e, e2, Option.bind_some], s.bind s2⟩
theorem rdisk (hS : S.length ≤ 1000000) : Rdr S (save_reader_disk none) pDisk := fun r h => by
  obtain ⟨x0, r0, e0, s0⟩ := rlistText hS r h
  obtain ⟨x1, r1, e1, s1⟩ := rlistInt hS r0 s0.ok
  obtain ⟨x2, r2, e2, s2⟩ := rtruth hS r1 s1.ok
  obtain ⟨x3, r3, e3, s3⟩ := rtruth hS r2 s2.ok
  obtain ⟨x4, r4, e4, s4⟩ := rtruth hS r3 s3.ok
  obtain ⟨x5, r5, e5, s5⟩ := rnum1 hS r4 s4.ok
  obtain ⟨x6, r6, e6, s6⟩ := rword hS r5 s5.ok
  obtain ⟨x7, r7, e7, s7⟩ := rword hS r6 s6.ok
  obtain ⟨x8, r8, e8, s8⟩ := rword hS r7 s7.ok
  obtain ⟨x9, r9, e9, s9⟩ := rnum1 hS r8 s8.ok
  exact ⟨_, r9, by simp only [save_reader_disk, Tsave_reader_disk, Tree.run, e0, e1, e2, e3, e4, e5, e6, e7, e8, e9, Option.bind_some], (s0.bind (s1.bind (s2.bind (s3.bind (s4.bind (s5.bind (s6.bind (s7.bind (s8.bind (s9.bind (Rds.ret _ s9.ok)))))))))))⟩
theorem rtape (hS : S.length ≤ 1000000) : Rdr S (save_reader_tape none) pTape := fun r h => by
  obtain ⟨x0, r0, e0, s0⟩ := rlistText hS r h
  obtain ⟨x1, r1, e1, s1⟩ := rnum1 hS r0 s0.ok
  obtain ⟨x2, r2, e2, s2⟩ := rtruth hS r1 s1.ok
  obtain ⟨x3, r3, e3, s3⟩ := rtruth hS r2 s2.ok
  obtain ⟨x4, r4, e4, s4⟩ := rtruth hS r3 s3.ok
  obtain ⟨x5, r5, e5, s5⟩ := rtruth hS r4 s4.ok
  obtain ⟨x6, r6, e6, s6⟩ := rtruth hS r5 s5.ok
  obtain ⟨x7, r7, e7, s7⟩ := rnum1 hS r6 s6.ok
  obtain ⟨x8, r8, e8, s8⟩ := rword hS r7 s7.ok
  obtain ⟨x9, r9, e9, s9⟩ := rword hS r8 s8.ok
  obtain ⟨x10, r10, e10, s10⟩ := rnum1 hS r9 s9.ok
  exact ⟨_, r10, by simp only [save_reader_tape, Tsave_reader_tape, Tree.run, e0, e1, e2, e3, e4, e5, e6, e7, e8, e9, e10, Option.bind_some], (s0.bind (s1.bind (s2.bind (s3.bind (s4.bind (s5.bind (s6.bind (s7.bind (s8.bind (s9.bind (s10.bind (Rds.ret _ s10.ok))))))))))))⟩
theorem set_tail {α : Type} (xs : List α) (z : α) (k : Nat) (x : α) : (xs ++ List.replicate (k + 1) z).set xs.length x = xs ++ [x] ++ List.replicate k z := by
  rw [List.set_append_right _ _ (Nat.le_refl _), Nat.sub_self, List.replicate_succ, List.set_cons_zero, List.append_assoc]; rfl
theorem cpu_loop (hS : S.length ≤ 1000000) (c : Cpu) (sp : List Int) (pc psw : Int) : ∀ (n : Nat) (r : Reader) (xs : List Int), (RP S).ok r → xs.length + n = 6 → ∃ ys r', Lsave_reader_cpu_0 none ⟨(xs.length : Int), r, c, ⟨xs ++ List.replicate n 0, sp, pc, psw⟩⟩ = some (r', c, ⟨xs ++ ys, sp, pc, psw⟩) ∧ ys.length = n ∧ Rds (RP S) r r' (pRep (pNum 2) n) ys := by
  intro n
  induction n with
  | zero =>
    intro r xs h hn
    refine ⟨[], r, ?_, rfl, Rds.ret _ h⟩
    exact lim_done (by
      have k : ¬ (xs.length : Int) < 6 := by omega
      simp only [Wsave_reader_cpu_0, Tree.run, k, decide_false, Bool.false_eq_true, if_false, List.replicate_zero])
  | succ n ih =>
    intro r xs h hn
    obtain ⟨x, r1, e, s⟩ := rword hS r h
    have k : (xs.length : Int) < 6 := by omega
    have k0 : (0 : Int) ≤ (xs.length : Int) := by omega
    have w : IntKind.wrap .i64 ((xs.length : Int) + 1) = (((xs ++ [x]).length : Nat) : Int) := by rw [List.length_append, List.length_cons, List.length_nil, wrap_id] <;> omega
    have g : (xs ++ List.replicate (n + 1) (0 : Int))[xs.length]? = some 0 := by
      rw [List.getElem?_append_right (Nat.le_refl _), Nat.sub_self, List.replicate_succ]; rfl
    have step : (Wsave_reader_cpu_0 none ⟨(xs.length : Int), r, c, ⟨xs ++ List.replicate (n + 1) 0, sp, pc, psw⟩⟩).run = some (.inl ⟨(((xs ++ [x]).length : Nat) : Int), r1, c, ⟨xs ++ [x] ++ List.replicate n 0, sp, pc, psw⟩⟩) := by
      simp only [Wsave_reader_cpu_0, Tree.run, k, k0, decide_true, if_true, e, Option.bind_some, Int.toNat_natCast, Nat.mul_one, g, w, set_tail]
    obtain ⟨ys, r2, e2, hl, s2⟩ := ih r1 (xs ++ [x]) s.ok (by rw [List.length_append, List.length_cons, List.length_nil]; omega)
    refine ⟨x :: ys, r2, ?_, by simp [hl], s.bind (s2.bind (Rds.ret _ s2.ok))⟩
    have hq : Lsave_reader_cpu_0 none ⟨(xs.length : Int), r, c, ⟨xs ++ List.replicate (n + 1) 0, sp, pc, psw⟩⟩ = _ := lim_next step
    rw [hq]
    have e2' : Lsave_reader_cpu_0 none ⟨(((xs ++ [x]).length : Nat) : Int), r1, c, ⟨xs ++ [x] ++ List.replicate n 0, sp, pc, psw⟩⟩ = _ := e2
    refine e2'.trans ?_
    rw [List.append_assoc]; rfl
theorem rcpu (hS : S.length ≤ 1000000) : Rdr S (save_reader_cpu none) pCpu := fun r h => by
  obtain ⟨ys, r0, e0, hl, s0⟩ := cpu_loop hS ⟨List.replicate 6 0, List.replicate 2 0, 0, 0⟩ (List.replicate 2 0) 0 0 6 r [] h rfl
  have e0' : Lsave_reader_cpu_0 none ⟨(0 : Int), r, ⟨List.replicate 6 0, List.replicate 2 0, 0, 0⟩, ⟨List.replicate 6 0, List.replicate 2 0, 0, 0⟩⟩ = some (r0, ⟨List.replicate 6 0, List.replicate 2 0, 0, 0⟩, ⟨ys, List.replicate 2 0, 0, 0⟩) := e0
  obtain ⟨x1, r1, e1, s1⟩ := rword hS r0 s0.ok
  obtain ⟨x2, r2, e2, s2⟩ := rword hS r1 s1.ok
  obtain ⟨x3, r3, e3, s3⟩ := rword hS r2 s2.ok
  obtain ⟨x4, r4, e4, s4⟩ := rword hS r3 s3.ok
  refine ⟨⟨ys, [x1, x2], x3, x4⟩, r4, ?_, s0.bind (s1.bind (s2.bind (s3.bind (s4.bind (Rds.ret _ s4.ok)))))⟩
  have g0 : (List.replicate 2 (0 : Int))[((0 : Int)).toNat * 1]? = some 0 := rfl
  have g1 : ((List.replicate 2 (0 : Int)).set (((0 : Int)).toNat * 1) x1)[((1 : Int)).toNat * 1]? = some 0 := rfl
  simp only [save_reader_cpu, Tsave_reader_cpu, Tree.run, e0', e1, e2, e3, e4, g0, g1, Option.bind_some, show (0 : Int) ≤ 0 by omega, show (0 : Int) < 2 by omega, show (0 : Int) ≤ 1 by omega, show (1 : Int) < 2 by omega, decide_true, if_true]
  rfl
theorem rpage (hS : S.length ≤ 1000000) (r : Reader) (h : (RP S).ok r) : ∃ x0 r0 x1 r1 x2 r2 x3 r3, save_reader_word none r = some (x0, r0) ∧ save_reader_num none (1 : Int) r0 = some (x1, r1) ∧ save_reader_num none (1 : Int) r1 = some (x2, r2) ∧ save_reader_truth none r2 = some (x3, r3) ∧ Rds (RP S) r r3 pPage ⟨x0, x1, x2, x3⟩ := by
  obtain ⟨x0, r0, e0, s0⟩ := rword hS r h
  obtain ⟨x1, r1, e1, s1⟩ := rnum1 hS r0 s0.ok
  obtain ⟨x2, r2, e2, s2⟩ := rnum1 hS r1 s1.ok
  obtain ⟨x3, r3, e3, s3⟩ := rtruth hS r2 s2.ok
  exact ⟨x0, r0, x1, r1, x2, r2, x3, r3, e0, e1, e2, e3, s0.bind (s1.bind (s2.bind (s3.bind (Rds.ret _ s3.ok))))⟩
def pageZ : Page := ⟨0, 0, 0, false⟩
theorem pages_loop (hS : S.length ≤ 1000000) (u : Mmu) (on : Bool) (st ad : Int) (m : Nat) (hm : m < 2) (xs : List Page) (hx : xs.length = m * 8) : ∀ (n : Nat) (r : Reader) (ys : List Page), (RP S).ok r → ys.length + n = 8 → ∃ zs r', Lsave_reader_mmu_1 none ⟨(m : Int), (m : Int), (ys.length : Int), r, u, ⟨on, xs ++ ys ++ List.replicate (n + (1 - m) * 8) pageZ, st, ad⟩⟩ = some ((m : Int), r', u, ⟨on, xs ++ ys ++ zs ++ List.replicate ((1 - m) * 8) pageZ, st, ad⟩) ∧ zs.length = n ∧ Rds (RP S) r r' (pRep pPage n) zs := by
  intro n
  induction n with
  | zero =>
    intro r ys h hn
    refine ⟨[], r, ?_, rfl, Rds.ret _ h⟩
    exact lim_done (by
      have k : ¬ (ys.length : Int) < 8 := by omega
      simp only [Wsave_reader_mmu_1, Tree.run, k, decide_false, Bool.false_eq_true, if_false, List.append_nil, Nat.zero_add])
  | succ n ih =>
    intro r ys h hn
    obtain ⟨x0, r0, x1, r1, x2, r2, x3, r3, e0, e1, e2, e3, s⟩ := rpage hS r h
    have k : (ys.length : Int) < 8 := by omega
    have k0 : (0 : Int) ≤ (ys.length : Int) := by omega
    have k1 : (0 : Int) ≤ (m : Int) := by omega
    have k2 : (m : Int) < 2 := by omega
    have w : IntKind.wrap .i64 ((ys.length : Int) + 1) = (((ys ++ [(⟨x0, x1, x2, x3⟩ : Page)]).length : Nat) : Int) := by rw [List.length_append, List.length_cons, List.length_nil, wrap_id] <;> omega
    have hi : m * 8 + ys.length = (xs ++ ys).length := by rw [List.length_append, hx]
    have hr : n + 1 + (1 - m) * 8 = n + (1 - m) * 8 + 1 := by omega
    have g : (xs ++ ys ++ List.replicate (n + (1 - m) * 8 + 1) pageZ)[(xs ++ ys).length]? = some pageZ := by
      rw [List.getElem?_append_right (Nat.le_refl _), Nat.sub_self, List.replicate_succ]; rfl
    have step : (Wsave_reader_mmu_1 none ⟨(m : Int), (m : Int), (ys.length : Int), r, u, ⟨on, xs ++ ys ++ List.replicate (n + 1 + (1 - m) * 8) pageZ, st, ad⟩⟩).run = some (.inl ⟨(m : Int), (m : Int), (((ys ++ [(⟨x0, x1, x2, x3⟩ : Page)]).length : Nat) : Int), r3, u, ⟨on, xs ++ (ys ++ [(⟨x0, x1, x2, x3⟩ : Page)]) ++ List.replicate (n + (1 - m) * 8) pageZ, st, ad⟩⟩) := by
      rw [hr, ← List.append_assoc xs ys]
      simp only [Wsave_reader_mmu_1, Tree.run, k, k0, k1, k2, decide_true, if_true, e0, e1, e2, e3, Option.bind_some, Int.toNat_natCast, Nat.mul_one, hi, g, w, set_tail]
    obtain ⟨zs, r4, e4, hl, s2⟩ := ih r3 (ys ++ [(⟨x0, x1, x2, x3⟩ : Page)]) s.ok (by rw [List.length_append, List.length_cons, List.length_nil]; omega)
    refine ⟨⟨x0, x1, x2, x3⟩ :: zs, r4, ?_, by simp [hl], s.bind (s2.bind (Rds.ret _ s2.ok))⟩
    have hq : Lsave_reader_mmu_1 none ⟨(m : Int), (m : Int), (ys.length : Int), r, u, ⟨on, xs ++ ys ++ List.replicate (n + 1 + (1 - m) * 8) pageZ, st, ad⟩⟩ = _ := lim_next step
    rw [hq]
    have e4' : Lsave_reader_mmu_1 none ⟨(m : Int), (m : Int), (((ys ++ [(⟨x0, x1, x2, x3⟩ : Page)]).length : Nat) : Int), r3, u, ⟨on, xs ++ (ys ++ [(⟨x0, x1, x2, x3⟩ : Page)]) ++ List.replicate (n + (1 - m) * 8) pageZ, st, ad⟩⟩ = _ := e4
    refine e4'.trans ?_
    simp only [List.append_assoc, List.cons_append, List.nil_append]
theorem rep_add {α : Type} (p : Par α) : ∀ (n m : Nat) (s : List UInt8), pRep p (n + m) s = pBind (pRep p n) (fun a => pBind (pRep p m) fun b => pRet (a ++ b)) s
  | 0, m, s => by
    rw [Nat.zero_add]
    cases h : pRep p m s with
    | none => simp only [pBind, pRep, pRet, h]
    | some q => simp only [pBind, pRep, pRet, h, List.nil_append]
  | n + 1, m, s => by
    rw [show n + 1 + m = (n + m) + 1 by omega]
    cases h : p s with
    | none => simp only [pBind, pRep, h]
    | some q =>
      simp only [pBind, pRep, pRet, h, rep_add p n m]
      cases h1 : pRep p n q.2 with
      | none => simp only [h1]
      | some t =>
        simp only [h1]
        cases h2 : pRep p m t.2 with
        | none => simp only [h2]
        | some v => simp only [h2, List.cons_append]
theorem Rds.eq {ρ α : Type} {R : Rdg ρ} {r r' : ρ} {p q : Par α} {x : α} (h : Rds R r r' p x) (e : ∀ s, p s = q s) : Rds R r r' q x :=
  ⟨h.ok, h.stay, fun a b => h.none a (by rw [e]; exact b), fun y u a b => h.some y u a (by rw [e]; exact b)⟩
theorem rmmu (hS : S.length ≤ 1000000) : Rdr S (save_reader_mmu none) pMmu := fun r h => by
  obtain ⟨on, r0, e0, s0⟩ := rtruth hS r h
  obtain ⟨z0, ra, ea, la, sa⟩ := pages_loop hS ⟨false, List.replicate 16 pageZ, 0, 0⟩ on 0 0 0 (by omega) [] rfl 8 r0 [] s0.ok rfl
  have ea' : Lsave_reader_mmu_1 none ⟨(0 : Int), (0 : Int), (0 : Int), r0, ⟨false, List.replicate 16 pageZ, 0, 0⟩, ⟨on, List.replicate 16 pageZ, 0, 0⟩⟩ = some ((0 : Int), ra, ⟨false, List.replicate 16 pageZ, 0, 0⟩, ⟨on, z0 ++ List.replicate 8 pageZ, 0, 0⟩) := ea
  obtain ⟨z1, rb, eb, lb, sb⟩ := pages_loop hS ⟨false, List.replicate 16 pageZ, 0, 0⟩ on 0 0 1 (by omega) z0 (by rw [la]) 8 ra [] sa.ok rfl
  rw [List.append_nil, show (1 - 1) * 8 = 0 by rfl, List.replicate_zero, List.append_nil] at eb
  have eb' : Lsave_reader_mmu_1 none ⟨(1 : Int), (1 : Int), (0 : Int), ra, ⟨false, List.replicate 16 pageZ, 0, 0⟩, ⟨on, z0 ++ List.replicate 8 pageZ, 0, 0⟩⟩ = some ((1 : Int), rb, ⟨false, List.replicate 16 pageZ, 0, 0⟩, ⟨on, z0 ++ z1, 0, 0⟩) := eb
  have t0 : (Wsave_reader_mmu_0 none ⟨(0 : Int), r0, ⟨false, List.replicate 16 pageZ, 0, 0⟩, ⟨on, List.replicate 16 pageZ, 0, 0⟩⟩).run = some (.inl ⟨(1 : Int), ra, ⟨false, List.replicate 16 pageZ, 0, 0⟩, ⟨on, z0 ++ List.replicate 8 pageZ, 0, 0⟩⟩) := by
    have w : IntKind.wrap .i64 ((0 : Int) + 1) = 1 := by decide
    simp only [Wsave_reader_mmu_0, Tree.run, show (0 : Int) < 2 by omega, ea', w, decide_true, if_true, Option.bind_some]
  have t1 : (Wsave_reader_mmu_0 none ⟨(1 : Int), ra, ⟨false, List.replicate 16 pageZ, 0, 0⟩, ⟨on, z0 ++ List.replicate 8 pageZ, 0, 0⟩⟩).run = some (.inl ⟨(2 : Int), rb, ⟨false, List.replicate 16 pageZ, 0, 0⟩, ⟨on, z0 ++ z1, 0, 0⟩⟩) := by
    have w : IntKind.wrap .i64 ((1 : Int) + 1) = 2 := by decide
    simp only [Wsave_reader_mmu_0, Tree.run, show (1 : Int) < 2 by omega, eb', w, decide_true, if_true, Option.bind_some]
  have hL : Lsave_reader_mmu_0 none ⟨(0 : Int), r0, ⟨false, List.replicate 16 pageZ, 0, 0⟩, ⟨on, List.replicate 16 pageZ, 0, 0⟩⟩ = some (rb, ⟨false, List.replicate 16 pageZ, 0, 0⟩, ⟨on, z0 ++ z1, 0, 0⟩) :=
    (lim_next t0).trans ((lim_next t1).trans (lim_done (by
      simp only [Wsave_reader_mmu_0, Tree.run, show ¬ (2 : Int) < 2 by omega, decide_false, Bool.false_eq_true, if_false])))
  have hL' : Lsave_reader_mmu_0 none ⟨(0 : Int), r0, ⟨false, List.replicate 16 ⟨0, 0, 0, false⟩, 0, 0⟩, ⟨on, List.replicate 16 ⟨0, 0, 0, false⟩, 0, 0⟩⟩ = some (rb, ⟨false, List.replicate 16 pageZ, 0, 0⟩, ⟨on, z0 ++ z1, 0, 0⟩) := hL
  obtain ⟨x2, r2, e2, s2⟩ := rnum1 hS rb sb.ok
  obtain ⟨x3, r3, e3, s3⟩ := rword hS r2 s2.ok
  have sp : Rds (RP S) r0 rb (pRep pPage 16) (z0 ++ z1) := (sa.bind (Rds.bind (f := fun b => pRet (z0 ++ b)) sb (Rds.ret _ sb.ok))).eq fun s => (rep_add pPage 8 8 s).symm
  refine ⟨⟨on, z0 ++ z1, x2, x3⟩, r3, ?_, s0.bind (sp.bind (s2.bind (s3.bind (Rds.ret _ s3.ok))))⟩
  simp only [save_reader_mmu, Tsave_reader_mmu, Tree.run, e0, hL', e2, e3, Option.bind_some]
end Go.Proofs.YtiafliookmnjoaaGreatDoor
end
section
set_option linter.unusedSimpArgs false
set_option linter.unusedVariables false
namespace Go.Proofs.YtiafliookmnjoaaGreatDoor
open Go Go.Ab C31
def nulM : Machine := Machine.mk (Cpu.mk (List.replicate 6 (0 : Int)) (List.replicate 2 (0 : Int)) 0 0) ([]) ([]) (Mmu.mk false (List.replicate 16 (Page.mk (0 : Int) (0 : Int) (0 : Int) false)) 0 0) (Clock.mk false false 0 0) ([]) (Disk.mk (Drive.mk ([]) ([])) false false false 0 0 0 0 0) (Tape.mk ([]) 0 false false false false false 0 0 0 0) 0 false false 0 false
theorem prefix_def (t : List UInt8) : strings_HasPrefix t ([69, 77, 85, 49] : List UInt8) = some (decide (t.take 4 = magicL)) := by
  simp only [strings_HasPrefix, Tstrings_HasPrefix, internal_stringslite_HasPrefix, Tinternal_stringslite_HasPrefix, Tree.run, magicL]
  by_cases h : 4 ≤ t.length
  · have h1 : ((([69, 77, 85, 49] : List UInt8).length : Nat) : Int) ≤ (t.length : Int) := by simp only [List.length_cons, List.length_nil]; omega
    have h2 : (0 : Int) ≤ ((([69, 77, 85, 49] : List UInt8).length : Nat) : Int) := by omega
    have h3 : (((([69, 77, 85, 49] : List UInt8).length : Nat) : Int)).toNat - 0 = 4 := rfl
    simp only [h1, h2, h3, decide_true, if_true, List.drop_zero, Option.bind_some]
    exact congrArg some (decide_eq_decide.2 Iff.rfl)
  · have h1 : ¬ ((([69, 77, 85, 49] : List UInt8).length : Nat) : Int) ≤ (t.length : Int) := by simp only [List.length_cons, List.length_nil]; omega
    have h2 : ¬ t.take 4 = [69, 77, 85, 49] := by
      intro e
      have := congrArg List.length e
      simp only [List.length_take, List.length_cons, List.length_nil] at this
      omega
    simp only [h1, h2, decide_false, Bool.false_eq_true, if_false, Option.bind_some]
theorem Decode_err {s : List UInt8} (hs : s.length ≤ 1000000) (h : (openR s).2 ≠ 0) : save_Decode none s = some (nulM, (openR s).2) := by
  simp only [save_Decode, Tsave_Decode, Tree.run, open_def s hs, Option.bind_some, h, decide_false, Bool.not_false, if_true, nulM]
theorem Decode_run {s t : List UInt8} (hs : s.length ≤ 1000000) (ht : t.length ≤ 1000000) (h : openR s = (t, 0)) (hp : t.take 4 = magicL) : ∃ m r, Rds (RP t) ⟨t, 4, false⟩ r pMachine m ∧
    save_Decode none s = (if r.bad = true then some (nulM, 9) else if ¬ r.at_ = (t.length : Int) then some (nulM, 9) else (machine_Right none m).bind fun b => some (if b = true then (m, 0) else (nulM, 9))) := by
  have h4 : 4 ≤ t.length := by
    have := congrArg List.length hp
    simp only [List.length_take, magicL, List.length_cons, List.length_nil] at this
    omega
  have hr : (RP t).ok ⟨t, 4, false⟩ := ⟨rfl, by simp only; omega, by simp only; omega⟩
  obtain ⟨x0, r0, e0, s0⟩ := rcpu ht ⟨t, 4, false⟩ hr
  obtain ⟨x1, r1, e1, s1⟩ := rlistInt ht r0 s0.ok
  obtain ⟨x2, r2, e2, s2⟩ := rlistInt ht r1 s1.ok
  obtain ⟨x3, r3, e3, s3⟩ := rmmu ht r2 s2.ok
  obtain ⟨x4, r4, e4, s4⟩ := rtruth ht r3 s3.ok
  obtain ⟨x5, r5, e5, s5⟩ := rtruth ht r4 s4.ok
  obtain ⟨x6, r6, e6, s6⟩ := rword ht r5 s5.ok
  obtain ⟨x7, r7, e7, s7⟩ := rword ht r6 s6.ok
  obtain ⟨x8, r8, e8, s8⟩ := rlistLine ht r7 s7.ok
  obtain ⟨x9, r9, e9, s9⟩ := rdisk ht r8 s8.ok
  obtain ⟨x10, r10, e10, s10⟩ := rtape ht r9 s9.ok
  obtain ⟨x11, r11, e11, s11⟩ := rnum6 ht r10 s10.ok
  obtain ⟨x12, r12, e12, s12⟩ := rtruth ht r11 s11.ok
  obtain ⟨x13, r13, e13, s13⟩ := rtruth ht r12 s12.ok
  obtain ⟨x14, r14, e14, s14⟩ := rword ht r13 s13.ok
  obtain ⟨x15, r15, e15, s15⟩ := rtruth ht r14 s14.ok
  refine ⟨_, r15, (s0.bind (s1.bind (s2.bind (s3.bind (s4.bind (s5.bind (s6.bind (s7.bind (s8.bind (s9.bind (s10.bind (s11.bind (s12.bind (s13.bind (s14.bind (s15.bind (Rds.ret _ s15.ok))))))))))))))))), ?_⟩
  simp only [save_Decode, Tsave_Decode, Tree.run, open_def s hs, h, prefix_def, hp, e0, e1, e2, e3, e4, e5, e6, e7, e8, e9, e10, e11, e12, e13, e14, e15, Option.bind_some, decide_true, Bool.not_true, Bool.false_eq_true, if_false]
  cases r15.bad with
  | true => rfl
  | false =>
    by_cases c : r15.at_ = (t.length : Int)
    · simp only [c, decide_true, Bool.not_true, Bool.false_eq_true, if_false, not_true_eq_false]
      cases machine_Right none (Machine.mk x0 x1 x2 x3 ⟨x4, x5, x6, x7⟩ x8 x9 x10 x11 x12 x13 x14 x15) with
      | none => rfl
      | some b => cases b <;> rfl
    · simp only [c, decide_false, Bool.not_false, Bool.false_eq_true, if_false, if_true, not_false_eq_true]
      rfl
theorem take_magic (u : List UInt8) : (magicL ++ u).take 4 = magicL := rfl
theorem Decode_ok {s u : List UInt8} {m : Machine} {b : Bool} (hs : s.length ≤ 1000000) (ht : (magicL ++ u).length ≤ 1000000) (h : openR s = (magicL ++ u, 0)) (hp : pMachine u = some (m, [])) (hR : machine_Right none m = some b) : save_Decode none s = some (if b = true then (m, 0) else (nulM, 9)) := by
  obtain ⟨m', r, d, e⟩ := Decode_run hs ht h (take_magic u)
  obtain ⟨h1, h2, h3⟩ := d.some m [] rfl hp
  subst h1
  have h2 : r.bad = false := h2
  have h3 : (magicL ++ u).drop r.at_.toNat = [] := h3
  obtain ⟨_, k1, k2⟩ := d.ok
  have h4 := List.drop_eq_nil_iff.1 h3
  rw [e, if_neg (by rw [h2]; simp), if_neg (by omega), hR]
  rfl
theorem decode_back {m : Machine} {b : Bool} (hG : GMachine m) (hl : (bodyL m).length ≤ 900000) (hR : machine_Right none m = some b) : save_Decode none (sealL (bodyL m)) = some (if b = true then (m, 0) else (nulM, 9)) := by
  have hp := machine_inv.back m [] hG
  rw [List.append_nil] at hp
  exact Decode_ok (by rw [sealL_len]; omega) (show (bodyL m).length ≤ 1000000 by omega) (openR_of_seal _) hp hR
end Go.Proofs.YtiafliookmnjoaaGreatDoor
end
section
set_option linter.unusedSimpArgs false
set_option linter.unusedVariables false
namespace Go.Proofs.YtiafliookmnjoaaGreatDoor
open Go Go.Ab C31
instance (w : Nat) (n : Int) : Decidable (GNum w n) := by unfold GNum; infer_instance
instance (x : Page) : Decidable (GPage x) := by unfold GPage; infer_instance
instance (x : Mmu) : Decidable (GMmu x) := by unfold GMmu; infer_instance
instance (x : Line) : Decidable (GLine x) := by unfold GLine; infer_instance
instance (x : Disk) : Decidable (GDisk x) := by unfold GDisk; infer_instance
instance (x : Tape) : Decidable (GTape x) := by unfold GTape; infer_instance
instance (x : Cpu) : Decidable (GCpu x) := by unfold GCpu; infer_instance
instance (x : Machine) : Decidable (GMachine x) := by unfold GMachine; infer_instance
def m0 : Machine := ⟨⟨List.replicate 6 0, List.replicate 2 0, 0, 0⟩, List.replicate 128 0, [], ⟨false, List.replicate 16 ⟨0, 0, 0, false⟩, 0, 0⟩, ⟨false, false, 100, 100⟩, [], ⟨⟨[List.replicate 128 0], []⟩, false, true, false, 0, 0, 0, 0, 0⟩, ⟨[], 0, false, true, false, false, false, 0, 0, 0, 0⟩, 0, false, false, 0, false⟩
theorem m0_new : machine_New none 256 0 1 = some (m0, 0) := lemachine_New 2000 256 0 1 (m0, 0) (by kernel_rfl)
theorem m0_right : machine_Right none m0 = some true := lemachine_Right 2000 m0 true (by kernel_rfl)
theorem m0_arr : ArrM m0 := ⟨rfl, rfl, rfl⟩
theorem m0_good : GMachine m0 := by decide +kernel
theorem m0_modest : Modest m0 := ⟨by decide +kernel, by decide +kernel, by decide +kernel, by decide +kernel, by decide +kernel, by decide +kernel, by decide +kernel, by decide +kernel, by decide +kernel⟩
theorem m0_head : ∃ u, bodyL m0 = ([69, 77, 85, 49, 0, 0, 0, 0, 0, 0, 0, 0, 0, 0, 0, 0, 0, 0, 0, 0, 0, 0, 0, 0] : List UInt8) ++ u := by
  have h : cpuB m0.cpu = [0, 0, 0, 0, 0, 0, 0, 0, 0, 0, 0, 0, 0, 0, 0, 0, 0, 0, 0, 0] := by decide +kernel
  exact ⟨_, by rw [bodyL, partsB, h, magicL]; rfl⟩
/-- with a byte changed it is not opened -/
theorem open_set {t : List UInt8} {k : Nat} {b : UInt8} (hk : k < t.length) (h : b ≠ t[k]) : openR (t.set k b ++ putL (crcV t) 4) = ([], 10) := by
  have h1 : (t.set k b ++ putL (crcV t) 4).length - 4 = (t.set k b).length := by rw [List.length_append, putL_len]; omega
  unfold openR
  rw [if_neg (by rw [List.length_append, putL_len]; omega), h1, List.take_left, List.drop_left, if_neg]
  intro e
  exact h (crcV_set t k b hk (putL_inj4 (crcV_in _) (crcV_in _) e).symm)
theorem alive_true : law23_alive none = some true := by
  obtain ⟨hb, hl⟩ := body_def m0 m0_modest m0_arr
  have hE := Encode_def m0 m0_modest m0_arr m0_right
  have hD := decode_back (b := true) m0_good (by omega) m0_right
  rw [if_pos rfl] at hD
  obtain ⟨u, hu⟩ := m0_head
  generalize hc : putL (crcV (bodyL m0)) 4 = cc
  have hn2 : 24 ≤ (bodyL m0).length := by rw [hu, List.length_append]; simp only [List.length_cons, List.length_nil]; omega
  have hset : openR ((bodyL m0).set 10 1 ++ cc) = ([], 10) := by
    rw [← hc]; exact open_set (by omega) (by simp [hu])
  have hs : (bodyL m0).set 10 1 ++ cc = (([69, 77, 85, 49, 0, 0, 0, 0, 0, 0] : List UInt8) ++ [1]) ++ (([0, 0, 0, 0, 0, 0, 0, 0, 0, 0, 0, 0, 0] : List UInt8) ++ u ++ cc) := by
    rw [hu]
    simp only [List.cons_append, List.nil_append, List.set_cons_succ, List.set_cons_zero, List.append_assoc]
  have hS : sealL (bodyL m0) = ([69, 77, 85, 49, 0, 0, 0, 0, 0, 0, 0, 0, 0, 0, 0, 0, 0, 0, 0, 0, 0, 0, 0, 0] : List UInt8) ++ (u ++ cc) := by
    rw [sealL, hc, hu, List.append_assoc]
  have hn : (sealL (bodyL m0)).length = (bodyL m0).length + 4 := sealL_len _
  have q10 : ((sealL (bodyL m0)).drop 0).take ((10 : Int).toNat - 0) = [69, 77, 85, 49, 0, 0, 0, 0, 0, 0] := by rw [hS]; rfl
  have q24 : ((sealL (bodyL m0)).drop 0).take ((24 : Int).toNat - 0) = [69, 77, 85, 49, 0, 0, 0, 0, 0, 0, 0, 0, 0, 0, 0, 0, 0, 0, 0, 0, 0, 0, 0, 0] := by rw [hS]; rfl
  have q11 : ((sealL (bodyL m0)).drop (11 : Int).toNat).take ((sealL (bodyL m0)).length - (11 : Int).toNat) = ([0, 0, 0, 0, 0, 0, 0, 0, 0, 0, 0, 0, 0] : List UInt8) ++ u ++ cc := by
    rw [List.take_of_length_le (by rw [List.length_drop]; exact Nat.le_refl _), hS, List.append_assoc]
    rfl
  have hset' : openR (([69, 77, 85, 49, 0, 0, 0, 0, 0, 0] ++ [1]) ++ (([0, 0, 0, 0, 0, 0, 0, 0, 0, 0, 0, 0, 0] : List UInt8) ++ u ++ cc)) = ([], 10) := by rw [← hs]; exact hset
  have hl2 : ((([69, 77, 85, 49, 0, 0, 0, 0, 0, 0] : List UInt8) ++ [1]) ++ (([0, 0, 0, 0, 0, 0, 0, 0, 0, 0, 0, 0, 0] : List UInt8) ++ u ++ cc)).length ≤ 1000000 := by
    rw [← hs, List.length_append, List.length_set, ← hc, putL_len]; omega
  have hD1 := Decode_err hl2 (by rw [hset']; decide)
  rw [hset'] at hD1
  have hD2 : save_Decode none [] = some (nulM, 8) := Decode_err (s := []) (by simp) (by decide)
  have hSame := Same_def m0 m0 m0_modest.sm
  rw [diff_self] at hSame
  have hDiff := Diff_def m0 (Machine.mk (Cpu.mk m0.cpu.r m0.cpu.sP (2 : Int) m0.cpu.pSW) m0.mem m0.bad m0.mmu m0.clock m0.lines m0.disk m0.tape (1 : Int) m0.halted m0.waiting m0.power m0.powerTrap) m0_modest.sm
  have hSame2 := Same_def m0 (Machine.mk (Cpu.mk m0.cpu.r m0.cpu.sP (2 : Int) m0.cpu.pSW) m0.mem m0.bad m0.mmu m0.clock m0.lines m0.disk m0.tape (1 : Int) m0.halted m0.waiting m0.power m0.powerTrap) m0_modest.sm
  have hd : diffD parts (sames m0 (Machine.mk (Cpu.mk m0.cpu.r m0.cpu.sP (2 : Int) m0.cpu.pSW) m0.mem m0.bad m0.mmu m0.clock m0.lines m0.disk m0.tape (1 : Int) m0.halted m0.waiting m0.power m0.powerTrap)) [] = [([67, 112, 117] : List UInt8), ([78, 111, 119] : List UInt8)] := by decide +kernel
  rw [hd] at hDiff hSame2
  have hNames := ref_SameNames [([67, 112, 117] : List UInt8), ([78, 111, 119] : List UInt8)] [([67, 112, 117] : List UInt8), ([78, 111, 119] : List UInt8)] (by simp)
  have k28 : ¬ ((sealL (bodyL m0)).length : Int) < 28 := by omega
  have k10 : (10 : Int) ≤ (((sealL (bodyL m0)).length : Nat) : Int) := by omega
  have k11 : (11 : Int) ≤ (((sealL (bodyL m0)).length : Nat) : Int) := by omega
  have k24 : (24 : Int) ≤ (((sealL (bodyL m0)).length : Nat) : Int) := by omega
  have j1 : ([69, 77, 85, 49, 0, 0, 0, 0, 0, 0] : List UInt8).length + ([1] : List UInt8).length ≤ 9223372036854775807 := by decide
  have j2 : (([69, 77, 85, 49, 0, 0, 0, 0, 0, 0] : List UInt8) ++ [1]).length + (([0, 0, 0, 0, 0, 0, 0, 0, 0, 0, 0, 0, 0] : List UInt8) ++ u ++ cc).length ≤ 9223372036854775807 := by
    rw [List.length_append] at hl2; omega
  simp only [law23_alive, Tlaw23_alive, Tree.run, m0_new, hE, hD, Option.bind_some, decide_true, Bool.not_true, Bool.false_eq_true, if_false, if_true, k28, k10, k11, k24, decide_false, q10, q24, q11, j1, j2, hD1, hD2, hSame, hDiff, hSame2, hNames, show (0 : Int) ≤ 10 by omega, show (0 : Int) ≤ 11 by omega, show (0 : Int) ≤ 24 by omega, List.length_nil]
  rfl
end Go.Proofs.YtiafliookmnjoaaGreatDoor
end
section
set_option linter.unusedSimpArgs false
set_option linter.unusedVariables false
namespace Go.Proofs.YtiafliookmnjoaaGreatDoor.C08
open Go Go.Ab
theorem wrap_succ {i n : Nat} (h : i < n) (hn : n ≤ 9223372036854775807) : IntKind.wrap .i64 ((i : Int) + 1) = ((i + 1 : Nat) : Int) := by rw [wrap_id] <;> omega
theorem wrap2 {m : List Int} (hm : m.length ≤ 100000) : IntKind.wrap .i64 (2 * (m.length : Int)) = 2 * (m.length : Int) := wrap_id (by omega) (by omega)
def Bads (n : Nat) (bad : List Int) : Prop := ∀ i, (h : i < bad.length) → 0 ≤ bad[i] ∧ bad[i] < 2 * (n : Int) ∧ bad[i] % 2 = 0 ∧ ∀ h' : 0 < i, bad[i - 1] < bad[i]
def Sized (n : Int) : Prop := 256 ≤ n ∧ n ≤ 32768 ∧ n % 64 = 0
instance (n) : Decidable (Sized n) := by unfold Sized; infer_instance
def Rt (m bad : List Int) : Prop := Sized (2 * (m.length : Int)) ∧ (∀ w ∈ m, 0 ≤ w ∧ w ≤ 65535) ∧ Bads m.length bad
theorem Size_def (n : Int) : ref08_Size n = some (decide (Sized n)) := by
  simp only [ref08_Size, Tref08_Size, Tree.run]
  by_cases h0 : 0 ≤ n
  · rw [tmod_nn h0]
    simp only [decide_eq_true_eq, show ¬ (64 : Int) = 0 by omega, if_false]
    repeat' split
    all_goals (rw [Option.some.injEq]; first | (symm; rw [decide_eq_false_iff_not]; unfold Sized; omega) | (rw [decide_eq_decide]; unfold Sized; omega))
  · have : ¬ Sized n := fun h => h0 (by have := h.1; omega)
    simp [this]; omega
theorem sized_def (n : Int) : memory_sized n = some (decide (Sized n)) := Size_def n
theorem words_iff (m : List Int) : (∀ i, i < m.length → ∀ y, m[i]? = some y → 0 ≤ y ∧ y ≤ 65535) ↔ ∀ w ∈ m, 0 ≤ w ∧ w ≤ 65535 := by
  constructor
  · intro h w hw
    obtain ⟨i, hi, he⟩ := List.mem_iff_getElem.1 hw
    exact h i hi w (by rw [List.getElem?_eq_getElem hi, he])
  · intro h i hi y hy
    exact h y (List.mem_of_getElem? hy)
theorem ref_words (m bad : List Int) (hm : m.length ≤ 100000) : Lref08_Right_0 none ⟨m, bad, (0 : Int)⟩ = some (if ∀ w ∈ m, 0 ≤ w ∧ w ≤ 65535 then .inr (m, bad) else .inl (m, bad, false)) := by
  have hs := lim_scan (f := fun s => (Wref08_Right_0 s).run) (fun i : Nat => ⟨m, bad, (i : Int)⟩) m.length (fun i => ∀ y, m[i]? = some y → 0 ≤ y ∧ y ≤ 65535) (fun i => .inl (m, bad, false)) (.inr (m, bad))
    (fun i hi hp => by
      have hp' := hp m[i] (List.getElem?_eq_getElem hi)
      have h1 : ¬ m[i] < 0 := by omega
      have h2 : ¬ 65535 < m[i] := by omega
      simp [Wref08_Right_0, Tree.run, hi, wrap_succ hi (show m.length ≤ 9223372036854775807 by omega), h1, h2])
    (fun i hi hp => by
      have hp' : ¬ (0 ≤ m[i] ∧ m[i] ≤ 65535) := fun h => hp fun y hy => by
        rw [List.getElem?_eq_getElem hi] at hy
        rw [← Option.some.inj hy]; exact h
      by_cases h1 : m[i] < 0
      · simp [Wref08_Right_0, Tree.run, hi, h1]
      · have h2 : 65535 < m[i] := by omega
        simp [Wref08_Right_0, Tree.run, hi, h1, h2])
    (by simp [Wref08_Right_0, Tree.run])
  rcases hs with ⟨h1, h2⟩ | ⟨i, hi, h1, h2⟩
  · rw [if_pos ((words_iff m).1 h1)]; exact h2
  · rw [if_neg fun h => h1 ((words_iff m).2 h i hi)]; exact h2
theorem mem_words (m bad : List Int) (hm : m.length ≤ 100000) : Lmemory_Right_0 none ⟨m, bad, m, (m.length : Int), (0 : Int)⟩ = some (if ∀ w ∈ m, 0 ≤ w ∧ w ≤ 65535 then .inr (m, bad) else .inl (m, bad, false)) := by
  have hs := lim_scan (f := fun s => (Wmemory_Right_0 s).run) (fun i : Nat => ⟨m, bad, m, (m.length : Int), (i : Int)⟩) m.length (fun i => ∀ y, m[i]? = some y → 0 ≤ y ∧ y ≤ 65535) (fun i => .inl (m, bad, false)) (.inr (m, bad))
    (fun i hi hp => by
      have hp' := hp m[i] (List.getElem?_eq_getElem hi)
      have h1 : m[i] % 65536 = m[i] := (mask_fix _ _ (by omega)).2 ⟨hp'.1, by omega⟩
      simp only [Wmemory_Right_0, Tree.run, and65535]
      simp [hi, wrap_succ hi (show m.length ≤ 9223372036854775807 by omega), h1])
    (fun i hi hp => by
      have hp' : ¬ m[i] % 65536 = m[i] := fun h => hp fun y hy => by
        rw [List.getElem?_eq_getElem hi] at hy
        rw [← Option.some.inj hy]
        have := (mask_fix _ _ (by omega)).1 h
        omega
      simp only [Wmemory_Right_0, Tree.run, and65535]
      simp [hi, hp'])
    (by simp [Wmemory_Right_0, Tree.run])
  rcases hs with ⟨h1, h2⟩ | ⟨i, hi, h1, h2⟩
  · rw [if_pos ((words_iff m).1 h1)]; exact h2
  · rw [if_neg fun h => h1 ((words_iff m).2 h i hi)]; exact h2
/-- a bad address in its place -/
def GoodAt (n : Nat) (bad : List Int) (i : Nat) : Prop := ∀ h : i < bad.length, 0 ≤ bad[i] ∧ bad[i] < 2 * (n : Int) ∧ bad[i] % 2 = 0 ∧ ∀ h' : 0 < i, bad[i - 1] < bad[i]
def lastOf (bad : List Int) (i : Nat) : Int := if i = 0 then -1 else bad.getD (i - 1) 0
def GoodAt' (n : Nat) (bad : List Int) (i : Nat) : Prop := ∀ h : i < bad.length, lastOf bad i < bad[i] ∧ bad[i].tmod 2 = 0 ∧ bad[i] < 2 * (n : Int)
theorem bads_iff (n : Nat) (bad : List Int) : (∀ i, i < bad.length → GoodAt n bad i) ↔ Bads n bad := ⟨fun h i hi => h i hi hi, fun h i _ hi => h i hi⟩
theorem bads_iff' (n : Nat) (bad : List Int) : (∀ i, i < bad.length → GoodAt' n bad i) ↔ Bads n bad := by
  constructor
  · intro h i
    induction i with
    | zero =>
      intro hi
      obtain ⟨h1, h2, h3⟩ := h 0 hi hi
      have h1' : -1 < bad[0] := h1
      rw [tmod_nn (by omega)] at h2
      exact ⟨by omega, h3, h2, fun h' => absurd h' (by omega)⟩
    | succ i ih =>
      intro hi
      have hi' : i < bad.length := by omega
      obtain ⟨h1, h2, h3⟩ := h (i + 1) hi hi
      have hp := ih hi'
      have hl : lastOf bad (i + 1) = bad[i] := by simp [lastOf, hi']
      rw [hl] at h1
      rw [tmod_nn (by omega)] at h2
      exact ⟨by omega, h3, h2, fun _ => h1⟩
  · intro h i hi _
    obtain ⟨h1, h2, h3, h4⟩ := h i hi
    refine ⟨?_, by rw [tmod_nn h1]; exact h3, h2⟩
    by_cases h0 : i = 0
    · subst h0; simp [lastOf]; omega
    · have hlt : i - 1 < bad.length := by omega
      have := h4 (by omega)
      simp [lastOf, h0, hlt]; exact this
theorem ref_bads (m bad : List Int) (hm : m.length ≤ 100000) (hb : bad.length ≤ 100000) : ∃ r, Lref08_Right_1 none ⟨m, bad, (0 : Int)⟩ = some r ∧ (r = .inr () ∧ Bads m.length bad ∨ r = .inl false ∧ ¬ Bads m.length bad) := by
  have hs := lim_scan (f := fun s => (Wref08_Right_1 s).run) (fun i : Nat => ⟨m, bad, (i : Int)⟩) bad.length (GoodAt m.length bad) (fun i => .inl false) (.inr ())
    (fun i hi hp => by
      obtain ⟨h1, h2, h3, h4⟩ := hp hi
      have h5 : ¬ bad[i] < 0 := by omega
      have h6 : ¬ 2 * (m.length : Int) ≤ bad[i] := by omega
      by_cases h0 : 0 < i
      · have h7 := h4 h0
        have h8 : ¬ bad[i] ≤ bad[i - 1] := by omega
        have h9 : IntKind.wrap .i64 ((i : Int) - 1) = ((i - 1 : Nat) : Int) := by rw [wrap_id] <;> omega
        have h10 : i - 1 < bad.length := by omega
        simp [Wref08_Right_1, Tree.run, hi, wrap_succ hi (show bad.length ≤ 9223372036854775807 by omega), h5, wrap2 hm, h6, tmod_nn h1, h3, h0, h9, h10, h8]
      · have h00 : i = 0 := by omega
        subst h00
        simp [Wref08_Right_1, Tree.run, hi, wrap_id (n := 1) (by omega) (by omega), h5, wrap2 hm, h6, tmod_nn h1, h3])
    (fun i hi hp => by
      by_cases h1 : bad[i] < 0
      · simp [Wref08_Right_1, Tree.run, hi, h1]
      by_cases h2 : 2 * (m.length : Int) ≤ bad[i]
      · simp [Wref08_Right_1, Tree.run, hi, h1, wrap2 hm, h2]
      by_cases h3 : bad[i] % 2 = 0
      · by_cases h0 : 0 < i
        · have h10 : i - 1 < bad.length := by omega
          have h9 : IntKind.wrap .i64 ((i : Int) - 1) = ((i - 1 : Nat) : Int) := by rw [wrap_id] <;> omega
          by_cases h4 : bad[i] ≤ bad[i - 1]
          · simp [Wref08_Right_1, Tree.run, hi, h1, wrap2 hm, h2, tmod_nn (show 0 ≤ bad[i] by omega), h3, h0, h9, h10, h4]
          · exact absurd (fun h => ⟨by omega, by omega, h3, fun _ => by omega⟩) hp
        · exact absurd (fun h => ⟨by omega, by omega, h3, fun h' => absurd h' h0⟩) hp
      · simp [Wref08_Right_1, Tree.run, hi, h1, wrap2 hm, h2, tmod_nn (show 0 ≤ bad[i] by omega), h3])
    (by simp [Wref08_Right_1, Tree.run])
  rcases hs with ⟨h1, h2⟩ | ⟨i, hi, h1, h2⟩
  · exact ⟨_, h2, .inl ⟨rfl, (bads_iff _ _).1 h1⟩⟩
  · exact ⟨_, h2, .inr ⟨rfl, fun h => h1 ((bads_iff _ _).2 h i hi)⟩⟩
theorem mem_bads (m bad : List Int) (hm : m.length ≤ 100000) (hb : bad.length ≤ 100000) : ∃ r, Lmemory_Right_1 none ⟨m, (-1 : Int), bad, (bad.length : Int), (0 : Int)⟩ = some r ∧ (r = .inr () ∧ Bads m.length bad ∨ r = .inl false ∧ ¬ Bads m.length bad) := by
  have hs := lim_scan (f := fun s => (Wmemory_Right_1 s).run) (fun i : Nat => ⟨m, lastOf bad i, bad, (bad.length : Int), (i : Int)⟩) bad.length (GoodAt' m.length bad) (fun i => .inl false) (.inr ())
    (fun i hi hp => by
      obtain ⟨h1, h2, h3⟩ := hp hi
      have h4 : ¬ bad[i] ≤ lastOf bad i := by omega
      have h5 : ¬ 2 * (m.length : Int) ≤ bad[i] := by omega
      have h6 : lastOf bad (i + 1) = bad[i] := by simp [lastOf, hi]
      simp [Wmemory_Right_1, Tree.run, hi, wrap_succ hi (show bad.length ≤ 9223372036854775807 by omega), h4, wrap2 hm, h2, h5, h6])
    (fun i hi hp => by
      by_cases h1 : bad[i] ≤ lastOf bad i
      · simp [Wmemory_Right_1, Tree.run, hi, h1]
      by_cases h2 : bad[i].tmod 2 = 0
      · by_cases h3 : 2 * (m.length : Int) ≤ bad[i]
        · simp [Wmemory_Right_1, Tree.run, hi, h1, h2, wrap2 hm, h3]
        · exact absurd (fun h => ⟨by omega, h2, by omega⟩) hp
      · simp [Wmemory_Right_1, Tree.run, hi, h1, h2])
    (by simp [Wmemory_Right_1, Tree.run])
  rcases hs with ⟨h1, h2⟩ | ⟨i, hi, h1, h2⟩
  · exact ⟨_, h2, .inl ⟨rfl, (bads_iff' _ _).1 h1⟩⟩
  · exact ⟨_, h2, .inr ⟨rfl, fun h => h1 ((bads_iff' _ _).2 h i hi)⟩⟩
open Classical in
theorem ref_Right_def (m bad : List Int) (hm : m.length ≤ 100000) (hb : bad.length ≤ 100000) : ref08_Right none m bad = some (decide (Rt m bad)) := by
  obtain ⟨r, hr, hc⟩ := ref_bads m bad hm hb
  simp only [ref08_Right, Tref08_Right, Tree.run, wrap2 hm, Size_def, Option.bind_some, ref_words m bad hm]
  by_cases h1 : Sized (2 * (m.length : Int))
  · by_cases h2 : ∀ w ∈ m, 0 ≤ w ∧ w ≤ 65535
    · rw [if_pos h2]
      rcases hc with ⟨e, h3⟩ | ⟨e, h3⟩
      · simp [h1, hr, e, Rt, h3]; exact h2
      · simp [h1, hr, e, Rt, h3]
    · rw [if_neg h2]
      have : ¬ Rt m bad := fun h => h2 h.2.1
      simp [h1, this]
  · have : ¬ Rt m bad := fun h => h1 h.1
    simp [h1, this]
open Classical in
theorem mem_Right_def (m bad : List Int) (hm : m.length ≤ 100000) (hb : bad.length ≤ 100000) : memory_Right none m bad = some (decide (Rt m bad)) := by
  obtain ⟨r, hr, hc⟩ := mem_bads m bad hm hb
  simp only [memory_Right, Tmemory_Right, Tree.run, wrap2 hm, sized_def, Option.bind_some, mem_words m bad hm]
  by_cases h1 : Sized (2 * (m.length : Int))
  · by_cases h2 : ∀ w ∈ m, 0 ≤ w ∧ w ≤ 65535
    · rw [if_pos h2]
      rcases hc with ⟨e, h3⟩ | ⟨e, h3⟩
      · simp [h1, hr, e, Rt, h3]; exact h2
      · simp [h1, hr, e, Rt, h3]
    · rw [if_neg h2]
      have : ¬ Rt m bad := fun h => h2 h.2.1
      simp [h1, this]
  · have : ¬ Rt m bad := fun h => h1 h.1
    simp [h1, this]
end Go.Proofs.YtiafliookmnjoaaGreatDoor.C08
end
section
set_option linter.unusedSimpArgs false
set_option linter.unusedVariables false
namespace Go.Proofs.YtiafliookmnjoaaGreatDoor.C09
open Go Go.Ab
theorem from_def (x m : Int) : mmu_from x m = some (decide (0 ≤ x ∧ x ≤ m)) := by
  simp only [mmu_from, Tmmu_from, Tree.run]
  by_cases h : 0 ≤ x <;> simp [h]
def OkPage (p : Page) : Prop := (0 ≤ p.base ∧ p.base ≤ 4095) ∧ (0 ≤ p.length ∧ p.length ≤ 128) ∧ (0 ≤ p.access ∧ p.access ≤ 2)
instance (p : Page) : Decidable (OkPage p) := by unfold OkPage; infer_instance
/-- a valid unit -/
def Rt (u : Mmu) : Prop := (∀ p ∈ u.pages, OkPage p) ∧ (0 ≤ u.status ∧ u.status ≤ 3) ∧ (0 ≤ u.addr ∧ u.addr ≤ 65535)
instance (u : Mmu) : Decidable (Rt u) := by unfold Rt; infer_instance
theorem all_pages {l : List Page} (h : l.length = 16) {Q : Page → Prop} : (∀ p ∈ l, Q p) ↔ ∀ m, m < 2 → ∀ j, j < 8 → ∀ p, l[m * 8 + j]? = some p → Q p := by
  constructor
  · intro hp m hm j hj p hq
    exact hp p (List.mem_of_getElem? hq)
  · intro hp p hq
    obtain ⟨i, hi, rfl⟩ := List.mem_iff_getElem.1 hq
    exact hp (i / 8) (by omega) (i % 8) (by omega) _ (by rw [show i / 8 * 8 + i % 8 = i by omega]; exact List.getElem?_eq_getElem hi)
theorem ref_Right_def (u : Mmu) (h : u.pages.length = 16) : ref09_Right none u = some (decide (Rt u)) := by
  -- the pages of a mode
  have inner : ∀ m : Nat, m < 2 → ((∀ j, j < 8 → ∀ p, u.pages[m * 8 + j]? = some p → OkPage p) ∧ Lref09_Right_1 none ⟨(m : Int), 0, u⟩ = some (.inr ((m : Int), u))) ∨ ∃ j, j < 8 ∧ (¬ ∀ p, u.pages[m * 8 + j]? = some p → OkPage p) ∧ Lref09_Right_1 none ⟨(m : Int), 0, u⟩ = some (.inl (false, (m : Int), u)) := by
    intro m hm
    refine lim_scan (f := fun s => (Wref09_Right_1 s).run) (fun j : Nat => ⟨(m : Int), (j : Int), u⟩) 8 (fun j => ∀ p, u.pages[m * 8 + j]? = some p → OkPage p) (fun _ => .inl (false, (m : Int), u)) (.inr ((m : Int), u)) (fun j hj hp => ?_) (fun j hj hp => ?_) ?_
    · have hlt : m * 8 + j < u.pages.length := by omega
      have hg := List.getElem?_eq_getElem hlt
      obtain ⟨h1, h2, h3⟩ := hp _ hg
      have hw : IntKind.wrap .i64 ((j : Int) + 1) = ((j + 1 : Nat) : Int) := by rw [wrap_id] <;> omega
      simp only [Wref09_Right_1, Tree.run, decide_eq_true_eq, Int.toNat_natCast, Nat.mul_one, hg, Option.bind_some]
      rw [if_pos (by omega), if_pos (by omega), if_pos (by omega), if_pos (by omega), if_pos (by omega), if_neg (by omega), if_neg (by omega), if_neg (by omega), if_neg (by omega), if_neg (by omega), if_neg (by omega), hw]
    · have hlt : m * 8 + j < u.pages.length := by omega
      have hg := List.getElem?_eq_getElem hlt
      have hp : ¬ OkPage u.pages[m * 8 + j] := fun hk => hp fun p hq => by rw [hg] at hq; injection hq with hq; rw [← hq]; exact hk
      simp only [Wref09_Right_1, Tree.run, decide_eq_true_eq, Int.toNat_natCast, Nat.mul_one, hg, Option.bind_some]
      rw [if_pos (by omega), if_pos (by omega), if_pos (by omega), if_pos (by omega), if_pos (by omega)]
      unfold OkPage at hp
      repeat' split
      all_goals first | rfl | (exfalso; omega)
    · simp [Wref09_Right_1, Tree.run]
  have outer := lim_scan (f := fun s => (Wref09_Right_0 none s).run) (fun m : Nat => ⟨(m : Int), u⟩) 2 (fun m => ∀ j, j < 8 → ∀ p, u.pages[m * 8 + j]? = some p → OkPage p) (fun _ => .inl (false, u)) (.inr u) (fun m hm hp => by
      have hw : IntKind.wrap .i64 ((m : Int) + 1) = ((m + 1 : Nat) : Int) := by rw [wrap_id] <;> omega
      rcases inner m hm with ⟨_, e⟩ | ⟨j, hj, hn, _⟩
      · simp only [Wref09_Right_0, Tree.run, decide_eq_true_eq, e, Option.bind_some]
        rw [if_pos (by omega)]
        simp [hw]
      · exact absurd (hp j hj) hn) (fun m hm hp => by
      rcases inner m hm with ⟨h1, _⟩ | ⟨j, hj, _, e⟩
      · exact absurd h1 hp
      · simp only [Wref09_Right_0, Tree.run, decide_eq_true_eq, e, Option.bind_some]
        rw [if_pos (by omega)]
        simp) (by simp [Wref09_Right_0, Tree.run])
  rw [show ((0 : Nat) : Int) = 0 from rfl] at outer
  rcases outer with ⟨hall, e⟩ | ⟨m, hm, hn, e⟩
  · have e : Lref09_Right_0 none ⟨0, u⟩ = some (.inr u) := e
    have hp := (all_pages h).2 hall
    simp only [ref09_Right, Tref09_Right, Tree.run, e, Option.bind_some, decide_eq_true_eq, Sum.isLeft_inr, Sum.getRight?_inr, Bool.false_eq_true, if_false]
    unfold Rt
    simp only [eq_true hp, true_and]
    repeat' split
    all_goals (rw [Option.some.injEq, Bool.eq_iff_iff]; simp; try omega)
  · have e : Lref09_Right_0 none ⟨0, u⟩ = some (.inl (false, u)) := e
    have hp : ¬ Rt u := fun hr => hn ((all_pages h).1 hr.1 m hm)
    simp [ref09_Right, Tref09_Right, Tree.run, e, hp]
theorem mmu_Right_def (u : Mmu) (h : u.pages.length = 16) : mmu_Right none u = some (decide (Rt u)) := by
  have inner : ∀ m : Nat, m < 2 → ((∀ j, j < 8 → ∀ p, u.pages[m * 8 + j]? = some p → OkPage p) ∧ Lmmu_Right_1 none ⟨u.pages, (m : Int), (u.pages.drop (m * 8)).take 8, 0, u⟩ = some (.inr (u.pages, (m : Int), u))) ∨ ∃ j, j < 8 ∧ (¬ ∀ p, u.pages[m * 8 + j]? = some p → OkPage p) ∧ Lmmu_Right_1 none ⟨u.pages, (m : Int), (u.pages.drop (m * 8)).take 8, 0, u⟩ = some (.inl (false, u.pages, (m : Int), u)) := by
    intro m hm
    have hget : ∀ j, j < 8 → ((u.pages.drop (m * 8)).take 8)[j]? = u.pages[m * 8 + j]? := by
      intro j hj
      rw [List.getElem?_take, if_pos hj, List.getElem?_drop]
    refine lim_scan (f := fun s => (Wmmu_Right_1 s).run) (fun j : Nat => ⟨u.pages, (m : Int), (u.pages.drop (m * 8)).take 8, (j : Int), u⟩) 8 (fun j => ∀ p, u.pages[m * 8 + j]? = some p → OkPage p) (fun _ => .inl (false, u.pages, (m : Int), u)) (.inr (u.pages, (m : Int), u)) (fun j hj hp => ?_) (fun j hj hp => ?_) ?_
    · have hlt : m * 8 + j < u.pages.length := by omega
      have hg := List.getElem?_eq_getElem hlt
      obtain ⟨h1, h2, h3⟩ := hp _ hg
      have hw : IntKind.wrap .i64 ((j : Int) + 1) = ((j + 1 : Nat) : Int) := by rw [wrap_id] <;> omega
      simp only [Wmmu_Right_1, Tree.run, decide_eq_true_eq, Int.toNat_natCast, hget j hj, hg, Option.bind_some, from_def]
      rw [if_pos (by omega), if_pos (by omega), if_pos (by omega)]
      simp [h1, h2, h3, hw]
    · have hlt : m * 8 + j < u.pages.length := by omega
      have hg := List.getElem?_eq_getElem hlt
      have hp : ¬ OkPage u.pages[m * 8 + j] := fun hk => hp fun p hq => by rw [hg] at hq; injection hq with hq; rw [← hq]; exact hk
      simp only [Wmmu_Right_1, Tree.run, decide_eq_true_eq, Int.toNat_natCast, hget j hj, hg, Option.bind_some, from_def]
      rw [if_pos (by omega), if_pos (by omega), if_pos (by omega)]
      unfold OkPage at hp
      simp only [Bool.not_eq_true', decide_eq_false_iff_not]
      repeat' split
      all_goals first | rfl | (exfalso; simp_all)
    · simp [Wmmu_Right_1, Tree.run]
  have outer := lim_scan (f := fun s => (Wmmu_Right_0 none s).run) (fun m : Nat => ⟨u.pages, (m : Int), u⟩) 2 (fun m => ∀ j, j < 8 → ∀ p, u.pages[m * 8 + j]? = some p → OkPage p) (fun _ => .inl (false, u)) (.inr u) (fun m hm hp => by
      have hw : IntKind.wrap .i64 ((m : Int) + 1) = ((m + 1 : Nat) : Int) := by rw [wrap_id] <;> omega
      rcases inner m hm with ⟨_, e⟩ | ⟨j, hj, hn, _⟩
      · simp only [Wmmu_Right_0, Tree.run, decide_eq_true_eq, Int.toNat_natCast, e, Option.bind_some]
        rw [if_pos (by omega), if_pos (by omega), if_pos (by omega), if_pos (by omega)]
        simp [hw]
      · exact absurd (hp j hj) hn) (fun m hm hp => by
      rcases inner m hm with ⟨h1, _⟩ | ⟨j, hj, _, e⟩
      · exact absurd h1 hp
      · simp only [Wmmu_Right_0, Tree.run, decide_eq_true_eq, Int.toNat_natCast, e, Option.bind_some]
        rw [if_pos (by omega), if_pos (by omega), if_pos (by omega), if_pos (by omega)]
        simp) (by simp [Wmmu_Right_0, Tree.run])
  rcases outer with ⟨hall, e⟩ | ⟨m, hm, hn, e⟩
  · have e : Lmmu_Right_0 none ⟨u.pages, 0, u⟩ = some (.inr u) := e
    have hp := (all_pages h).2 hall
    simp only [mmu_Right, Tmmu_Right, Tree.run, e, Option.bind_some, decide_eq_true_eq, Sum.isLeft_inr, Sum.getRight?_inr, Bool.false_eq_true, if_false, from_def]
    unfold Rt
    simp only [eq_true hp, true_and]
    repeat' split
    all_goals (rw [Option.some.injEq, Bool.eq_iff_iff]; simp_all; try omega)
  · have e : Lmmu_Right_0 none ⟨u.pages, 0, u⟩ = some (.inl (false, u)) := e
    have hp : ¬ Rt u := fun hr => hn ((all_pages h).1 hr.1 m hm)
    simp [mmu_Right, Tmmu_Right, Tree.run, e, hp]
end Go.Proofs.YtiafliookmnjoaaGreatDoor.C09
end
section
set_option linter.unusedSimpArgs false
set_option linter.unusedVariables false
namespace Go.Proofs.YtiafliookmnjoaaGreatDoor.C13
open Go Go.Ab
theorem F7_def (c : Clock) : ref13_Right c = some (decide (1 ≤ c.period) && decide (c.period ≤ 65535) && decide (1 ≤ c.left) && decide (c.left ≤ c.period)) := by
  simp only [ref13_Right, Tref13_Right, Tree.run]
  by_cases h1 : 1 ≤ c.period <;> by_cases h2 : c.period ≤ 65535 <;> by_cases h3 : 1 ≤ c.left <;> simp [h1, h2, h3]
theorem F20_F7 (c : Clock) : clock_Right c = ref13_Right c := rfl
end Go.Proofs.YtiafliookmnjoaaGreatDoor.C13
end
section
set_option linter.unusedSimpArgs false
set_option linter.unusedVariables false
namespace Go.Proofs.YtiafliookmnjoaaGreatDoor.C14
open Go Go.Ab
/-- a valid line -/
def Rt (l : Line) : Prop := (0 ≤ l.rxData ∧ l.rxData ≤ 255) ∧ (0 ≤ l.txData ∧ l.txData ≤ 255) ∧ (0 ≤ l.txLeft ∧ l.txLeft ≤ 4) ∧ (l.txReady = true ↔ l.txLeft = 0) ∧ l.out.length ≤ 4096
instance (l : Line) : Decidable (Rt l) := by unfold Rt; infer_instance
theorem isByte_def (x : Int) : line_isByte x = some (decide (0 ≤ x ∧ x ≤ 255)) := by
  simp only [line_isByte, Tline_isByte, Tree.run, and255, mask_fix x 256 (by omega)]
  rw [Option.some.injEq, Bool.eq_iff_iff]
  simp
  omega
theorem ref14_Right_def (l : Line) : ref14_Right l = some (decide (Rt l)) := by
  obtain ⟨a, b, c, rx, e, tr, tx, tl, out⟩ := l
  simp only [ref14_Right, Tref14_Right, Tree.run, Rt, decide_eq_true_eq]
  cases tr
  all_goals repeat' split
  all_goals (rw [Option.some.injEq, Bool.eq_iff_iff]; simp; try omega)
theorem line_Right_def (l : Line) : line_Right l = some (decide (Rt l)) := by
  obtain ⟨a, b, c, rx, e, tr, tx, tl, out⟩ := l
  simp only [line_Right, Tline_Right, Tree.run, Rt, decide_eq_true_eq, isByte_def, Option.bind_some]
  cases tr
  all_goals repeat' split
  all_goals (rw [Option.some.injEq, Bool.eq_iff_iff]; simp_all; try omega)
end Go.Proofs.YtiafliookmnjoaaGreatDoor.C14
end
section
set_option linter.unusedSimpArgs false
set_option linter.unusedVariables false
namespace Go.Proofs.YtiafliookmnjoaaGreatDoor.C16
open Go Go.Ab
theorem wrap_succ {i n : Nat} (h : i < n) (hn : n ≤ 9223372036854775807) : IntKind.wrap .i64 ((i : Int) + 1) = ((i + 1 : Nat) : Int) := by rw [wrap_id] <;> omega
/-- the bad sectors: rising, within the drive -/
def BadsD (n : Nat) (bad : List Int) : Prop := ∀ i, (h : i < bad.length) → 0 ≤ bad[i] ∧ bad[i] < (n : Int) ∧ ∀ h' : 0 < i, bad[i - 1] < bad[i]
def GoodD (n : Nat) (bad : List Int) (i : Nat) : Prop := ∀ h : i < bad.length, 0 ≤ bad[i] ∧ bad[i] < (n : Int) ∧ ∀ h' : 0 < i, bad[i - 1] < bad[i]
def lastD (bad : List Int) (i : Nat) : Int := if i = 0 then -1 else bad.getD (i - 1) 0
def GoodD' (n : Nat) (bad : List Int) (i : Nat) : Prop := ∀ h : i < bad.length, lastD bad i < bad[i] ∧ bad[i] < (n : Int)
theorem badsD_iff (n : Nat) (bad : List Int) : (∀ i, i < bad.length → GoodD n bad i) ↔ BadsD n bad := ⟨fun h i hi => h i hi hi, fun h i _ hi => h i hi⟩
theorem badsD_iff' (n : Nat) (bad : List Int) : (∀ i, i < bad.length → GoodD' n bad i) ↔ BadsD n bad := by
  constructor
  · intro h i
    induction i with
    | zero =>
      intro hi
      obtain ⟨h1, h2⟩ := h 0 hi hi
      have h1' : -1 < bad[0] := h1
      exact ⟨by omega, h2, fun h' => absurd h' (by omega)⟩
    | succ i ih =>
      intro hi
      have hi' : i < bad.length := by omega
      obtain ⟨h1, h2⟩ := h (i + 1) hi hi
      have hp := ih hi'
      have hl : lastD bad (i + 1) = bad[i] := by simp [lastD, hi']
      rw [hl] at h1
      exact ⟨by omega, h2, fun _ => h1⟩
  · intro h i hi _
    obtain ⟨h1, h2, h4⟩ := h i hi
    refine ⟨?_, h2⟩
    by_cases h0 : i = 0
    · subst h0; simp [lastD]; omega
    · have hlt : i - 1 < bad.length := by omega
      have := h4 (by omega)
      simp [lastD, h0, hlt]; exact this
def RtV (d : Drive) : Prop := 1 ≤ d.sectors.length ∧ d.sectors.length ≤ 256 ∧ (∀ s ∈ d.sectors, s.length = 128) ∧ BadsD d.sectors.length d.bad
theorem sect_iff (l : List (List UInt8)) : (∀ i, i < l.length → ∀ s, l[i]? = some s → s.length = 128) ↔ ∀ s ∈ l, s.length = 128 := by
  constructor
  · intro h s hs
    obtain ⟨i, hi, he⟩ := List.mem_iff_getElem.1 hs
    exact h i hi s (by rw [List.getElem?_eq_getElem hi, he])
  · intro h i _ s hs
    exact h s (List.mem_of_getElem? hs)
open Classical in
theorem ref_sects (d : Drive) (hl : d.sectors.length ≤ 9223372036854775807) : Lref15_Right_0 none ⟨(0 : Int), d⟩ = some (if ∀ s ∈ d.sectors, s.length = 128 then .inr d else .inl (false, d)) := by
  have hs := lim_scan (f := fun s => (Wref15_Right_0 s).run) (fun i : Nat => ⟨(i : Int), d⟩) d.sectors.length (fun i => ∀ s, d.sectors[i]? = some s → s.length = 128) (fun i => .inl (false, d)) (.inr d)
    (fun i hi hp => by
      have hp' : (d.sectors[i].length : Int) = 128 := by have := hp d.sectors[i] (List.getElem?_eq_getElem hi); omega
      simp [Wref15_Right_0, Tree.run, hi, wrap_succ hi hl, hp'])
    (fun i hi hp => by
      have hp' : ¬ (d.sectors[i].length : Int) = 128 := fun he => hp fun s hs => by
        rw [List.getElem?_eq_getElem hi] at hs
        rw [← Option.some.inj hs]; omega
      simp [Wref15_Right_0, Tree.run, hi, hp'])
    (by simp [Wref15_Right_0, Tree.run])
  rcases hs with ⟨h1, h2⟩ | ⟨i, hi, h1, h2⟩
  · rw [if_pos ((sect_iff _).1 h1)]; exact h2
  · rw [if_neg (fun h => h1 ((sect_iff _).2 h i hi))]; exact h2
open Classical in
theorem drive_sects (d : Drive) (hl : d.sectors.length ≤ 9223372036854775807) : Ldrive_Right_0 none ⟨d.sectors, (d.sectors.length : Int), (0 : Int), d⟩ = some (if ∀ s ∈ d.sectors, s.length = 128 then .inr d else .inl (false, d)) := by
  have hs := lim_scan (f := fun s => (Wdrive_Right_0 s).run) (fun i : Nat => ⟨d.sectors, (d.sectors.length : Int), (i : Int), d⟩) d.sectors.length (fun i => ∀ s, d.sectors[i]? = some s → s.length = 128) (fun i => .inl (false, d)) (.inr d)
    (fun i hi hp => by
      have hp' : (d.sectors[i].length : Int) = 128 := by have := hp d.sectors[i] (List.getElem?_eq_getElem hi); omega
      simp [Wdrive_Right_0, Tree.run, hi, wrap_succ hi hl, hp'])
    (fun i hi hp => by
      have hp' : ¬ (d.sectors[i].length : Int) = 128 := fun he => hp fun s hs => by
        rw [List.getElem?_eq_getElem hi] at hs
        rw [← Option.some.inj hs]; omega
      simp [Wdrive_Right_0, Tree.run, hi, hp'])
    (by simp [Wdrive_Right_0, Tree.run])
  rcases hs with ⟨h1, h2⟩ | ⟨i, hi, h1, h2⟩
  · rw [if_pos ((sect_iff _).1 h1)]; exact h2
  · rw [if_neg (fun h => h1 ((sect_iff _).2 h i hi))]; exact h2
theorem ref_badsD (d : Drive) (hb : d.bad.length ≤ 9223372036854775807) : ∃ r, Lref15_Right_1 none ⟨(0 : Int), d⟩ = some r ∧ (r = .inr () ∧ BadsD d.sectors.length d.bad ∨ r = .inl false ∧ ¬ BadsD d.sectors.length d.bad) := by
  obtain ⟨secs, bad⟩ := d
  dsimp only at hb ⊢
  have hs := lim_scan (f := fun s => (Wref15_Right_1 s).run) (fun i : Nat => ⟨(i : Int), ⟨secs, bad⟩⟩) bad.length (GoodD secs.length bad) (fun i => .inl false) (.inr ())
    (fun i hi hp => by
      obtain ⟨h1, h2, h4⟩ := hp hi
      have h5 : ¬ bad[i] < 0 := by omega
      have h6 : ¬ (secs.length : Int) ≤ bad[i] := by omega
      by_cases h0 : 0 < i
      · have h7 := h4 h0
        have h8 : ¬ bad[i] ≤ bad[i - 1] := by omega
        have h9 : IntKind.wrap .i64 ((i : Int) - 1) = ((i - 1 : Nat) : Int) := by rw [wrap_id] <;> omega
        have h10 : i - 1 < bad.length := by omega
        simp [Wref15_Right_1, Tree.run, hi, wrap_succ hi hb, h5, h6, h0, h9, h10, h8]
      · have h00 : i = 0 := by omega
        subst h00
        simp [Wref15_Right_1, Tree.run, hi, wrap_id (n := 1) (by omega) (by omega), h5, h6])
    (fun i hi hp => by
      by_cases h1 : bad[i] < 0
      · simp [Wref15_Right_1, Tree.run, hi, h1]
      by_cases h2 : (secs.length : Int) ≤ bad[i]
      · simp [Wref15_Right_1, Tree.run, hi, h1, h2]
      by_cases h0 : 0 < i
      · have h10 : i - 1 < bad.length := by omega
        have h9 : IntKind.wrap .i64 ((i : Int) - 1) = ((i - 1 : Nat) : Int) := by rw [wrap_id] <;> omega
        by_cases h4 : bad[i] ≤ bad[i - 1]
        · simp [Wref15_Right_1, Tree.run, hi, h1, h2, h0, h9, h10, h4]
        · exact absurd (fun h => ⟨by omega, by omega, fun _ => by omega⟩) hp
      · exact absurd (fun h => ⟨by omega, by omega, fun h' => absurd h' h0⟩) hp)
    (by simp [Wref15_Right_1, Tree.run])
  rcases hs with ⟨h1, h2⟩ | ⟨i, hi, h1, h2⟩
  · exact ⟨_, h2, .inl ⟨rfl, (badsD_iff _ _).1 h1⟩⟩
  · exact ⟨_, h2, .inr ⟨rfl, fun h => h1 ((badsD_iff _ _).2 h i hi)⟩⟩
theorem drive_badsD (d : Drive) (hb : d.bad.length ≤ 9223372036854775807) : ∃ r, Ldrive_Right_1 none ⟨(-1 : Int), d.bad, (d.bad.length : Int), (0 : Int), d⟩ = some r ∧ (r = .inr () ∧ BadsD d.sectors.length d.bad ∨ r = .inl false ∧ ¬ BadsD d.sectors.length d.bad) := by
  obtain ⟨secs, bad⟩ := d
  dsimp only at hb ⊢
  have hs := lim_scan (f := fun s => (Wdrive_Right_1 s).run) (fun i : Nat => ⟨lastD bad i, bad, (bad.length : Int), (i : Int), ⟨secs, bad⟩⟩) bad.length (GoodD' secs.length bad) (fun i => .inl false) (.inr ())
    (fun i hi hp => by
      obtain ⟨h1, h2⟩ := hp hi
      have h4 : ¬ bad[i] ≤ lastD bad i := by omega
      have h5 : ¬ (secs.length : Int) ≤ bad[i] := by omega
      have h6 : lastD bad (i + 1) = bad[i] := by simp [lastD, hi]
      simp [Wdrive_Right_1, Tree.run, hi, wrap_succ hi hb, h4, h5, h6])
    (fun i hi hp => by
      by_cases h1 : bad[i] ≤ lastD bad i
      · simp [Wdrive_Right_1, Tree.run, hi, h1]
      by_cases h3 : (secs.length : Int) ≤ bad[i]
      · simp [Wdrive_Right_1, Tree.run, hi, h1, h3]
      · exact absurd (fun h => ⟨by omega, by omega⟩) hp)
    (by simp [Wdrive_Right_1, Tree.run])
  rcases hs with ⟨h1, h2⟩ | ⟨i, hi, h1, h2⟩
  · exact ⟨_, h2, .inl ⟨rfl, (badsD_iff' _ _).1 h1⟩⟩
  · exact ⟨_, h2, .inr ⟨rfl, fun h => h1 ((badsD_iff' _ _).2 h i hi)⟩⟩
open Classical in
theorem ref_RightV_def (d : Drive) (hb : d.bad.length ≤ 9223372036854775807) : ref15_Right none d = some (decide (RtV d)) := by
  simp only [ref15_Right, Tref15_Right, Tree.run]
  by_cases h1 : (d.sectors.length : Int) < 1
  · have : ¬ RtV d := fun h => by have := h.1; omega
    simp [h1, this]
  by_cases h2 : 256 < (d.sectors.length : Int)
  · have : ¬ RtV d := fun h => by have := h.2.1; omega
    simp [h1, h2, this]
  simp only [h1, h2, decide_false, Bool.false_eq_true, if_false, ref_sects d (by omega), Option.bind_some]
  by_cases h3 : ∀ s ∈ d.sectors, s.length = 128
  · rw [if_pos h3]
    obtain ⟨r, hr, hc⟩ := ref_badsD d hb
    simp only [Sum.isLeft_inr, Bool.false_eq_true, if_false, Sum.getRight?_inr, Option.bind_some, hr]
    rcases hc with ⟨rfl, h4⟩ | ⟨rfl, h4⟩
    · have : RtV d := ⟨by omega, by omega, h3, h4⟩
      simp [this]
    · have : ¬ RtV d := fun h => h4 h.2.2.2
      simp [this]
  · rw [if_neg h3]
    have : ¬ RtV d := fun h => h3 h.2.2.1
    simp [this]
open Classical in
theorem drive_Right_def (d : Drive) (hb : d.bad.length ≤ 9223372036854775807) : drive_Right none d = some (decide (RtV d)) := by
  simp only [drive_Right, Tdrive_Right, Tree.run]
  by_cases h1 : (d.sectors.length : Int) < 1
  · have : ¬ RtV d := fun h => by have := h.1; omega
    simp [h1, this]
  by_cases h2 : 256 < (d.sectors.length : Int)
  · have : ¬ RtV d := fun h => by have := h.2.1; omega
    simp [h1, h2, this]
  simp only [h1, h2, decide_false, Bool.false_eq_true, if_false, drive_sects d (by omega), Option.bind_some]
  by_cases h3 : ∀ s ∈ d.sectors, s.length = 128
  · rw [if_pos h3]
    obtain ⟨r, hr, hc⟩ := drive_badsD d hb
    simp only [Sum.isLeft_inr, Bool.false_eq_true, if_false, Sum.getRight?_inr, Option.bind_some, hr]
    rcases hc with ⟨rfl, h4⟩ | ⟨rfl, h4⟩
    · have : RtV d := ⟨by omega, by omega, h3, h4⟩
      simp [this]
    · have : ¬ RtV d := fun h => h4 h.2.2.2
      simp [this]
  · rw [if_neg h3]
    have : ¬ RtV d := fun h => h3 h.2.2.1
    simp [this]
def RtK (k : Disk) : Prop := (0 ≤ k.command ∧ k.command ≤ 3) ∧ (0 ≤ k.words ∧ k.words ≤ 65535) ∧ (0 ≤ k.addr ∧ k.addr ≤ 65535 ∧ k.addr % 2 = 0) ∧ (0 ≤ k.start ∧ k.start ≤ 65535) ∧ (0 ≤ k.left ∧ k.left ≤ 8) ∧ (k.ready = true ↔ k.left = 0) ∧ (k.left = 0 ∨ ¬ k.command = 0 ∧ ¬ k.words = 0) ∧ RtV k.drive
theorem word16_def (x : Int) : ref16_word x = some (decide (0 ≤ x ∧ x ≤ 65535)) := by
  simp only [ref16_word, Tref16_word, Tree.run]
  by_cases h : 0 ≤ x <;> simp [h]
theorem isWord16_def (x : Int) : diskctl_isWord x = some (decide (0 ≤ x ∧ x ≤ 65535)) := by
  simp only [diskctl_isWord, Tdiskctl_isWord, Tree.run, and65535, mask_fix x 65536 (by omega)]
  rw [Option.some.injEq, decide_eq_decide]
  omega
theorem beq_iff16 (a : Bool) (p : Prop) [Decidable p] : (a == decide p) = decide (a = true ↔ p) := by
  cases a <;> by_cases h : p <;> simp [h]
open Classical in
theorem ref_RightK_def (k : Disk) (hb : k.drive.bad.length ≤ 9223372036854775807) : ref16_Right none k = some (decide (RtK k)) := by
  simp only [ref16_Right, Tref16_Right, Tree.run, word16_def, Option.bind_some, ref_RightV_def k.drive hb, beq_iff16]
  by_cases h1 : k.command < 0
  · have : ¬ RtK k := fun h => by have := h.1; omega
    simp [h1, this]
  by_cases h2 : 3 < k.command
  · have : ¬ RtK k := fun h => by have := h.1; omega
    simp [h1, h2, this]
  by_cases h3 : 0 ≤ k.words ∧ k.words ≤ 65535
  · by_cases h4 : 0 ≤ k.addr ∧ k.addr ≤ 65535
    · by_cases h5 : 0 ≤ k.start ∧ k.start ≤ 65535
      · by_cases h6 : k.addr % 2 = 0
        · by_cases h7 : k.left < 0
          · have : ¬ RtK k := fun h => by have := h.2.2.2.2.1; omega
            simp [h1, h2, h3, h4, h5, h6, h7, this, tmod_nn h4.1]
          by_cases h8 : 8 < k.left
          · have : ¬ RtK k := fun h => by have := h.2.2.2.2.1; omega
            simp [h1, h2, h3, h4, h5, h6, h7, h8, this, tmod_nn h4.1]
          by_cases h9 : k.ready = true ↔ k.left = 0
          · by_cases h10 : k.left = 0
            · have : RtK k ↔ RtV k.drive := ⟨fun h => h.2.2.2.2.2.2.2, fun h => ⟨by omega, h3, ⟨h4.1, h4.2, h6⟩, h5, by omega, h9, .inl h10, h⟩⟩
              simp [h1, h2, h3, h4, h5, h6, h9, h10, this, tmod_nn h4.1]
            · by_cases h11 : k.command = 0
              · have : ¬ RtK k := fun h => by rcases h.2.2.2.2.2.2.1 with h' | h' <;> omega
                have h9' : ¬ k.ready = true := fun h => h10 (h9.1 h)
                simp [h1, h2, h3, h4, h5, h6, h7, h8, h9', h10, h11, this, tmod_nn h4.1]
              · by_cases h12 : k.words = 0
                · have : ¬ RtK k := fun h => by rcases h.2.2.2.2.2.2.1 with h' | h' <;> omega
                  have h9' : ¬ k.ready = true := fun h => h10 (h9.1 h)
                  simp [h1, h2, h4, h5, h6, h7, h8, h9', h10, h11, h12, this, tmod_nn h4.1]
                · have : RtK k ↔ RtV k.drive := ⟨fun h => h.2.2.2.2.2.2.2, fun h => ⟨by omega, h3, ⟨h4.1, h4.2, h6⟩, h5, by omega, h9, .inr ⟨h11, h12⟩, h⟩⟩
                  have h9' : ¬ k.ready = true := fun h => h10 (h9.1 h)
                  simp [h1, h2, h3, h4, h5, h6, h7, h8, h9', h10, h11, h12, this, tmod_nn h4.1]
          · have : ¬ RtK k := fun h => h9 h.2.2.2.2.2.1
            simp [h1, h2, h3, h4, h5, h6, h7, h8, h9, this, tmod_nn h4.1]
        · have : ¬ RtK k := fun h => h6 h.2.2.1.2.2
          simp [h1, h2, h3, h4, h5, h6, this, tmod_nn h4.1]
      · have : ¬ RtK k := fun h => h5 h.2.2.2.1
        simp [h1, h2, h3, h4, h5, this]
    · have : ¬ RtK k := fun h => h4 ⟨h.2.2.1.1, h.2.2.1.2.1⟩
      simp [h1, h2, h3, h4, this]
  · have : ¬ RtK k := fun h => h3 h.2.1
    simp [h1, h2, h3, this]
open Classical in
theorem diskctl_Right_def (k : Disk) (hb : k.drive.bad.length ≤ 9223372036854775807) : diskctl_Right none k = some (decide (RtK k)) := by
  simp only [diskctl_Right, Tdiskctl_Right, Tree.run, isWord16_def, Option.bind_some, drive_Right_def k.drive hb, beq_iff16]
  by_cases hd : RtV k.drive
  · by_cases h1 : k.command < 0
    · have : ¬ RtK k := fun h => by have := h.1; omega
      simp [hd, h1, this]
    by_cases h2 : 3 < k.command
    · have : ¬ RtK k := fun h => by have := h.1; omega
      simp [hd, h1, h2, this]
    by_cases h3 : 0 ≤ k.words ∧ k.words ≤ 65535
    · by_cases h4 : 0 ≤ k.addr ∧ k.addr ≤ 65535
      · by_cases h5 : 0 ≤ k.start ∧ k.start ≤ 65535
        · by_cases h6 : k.addr % 2 = 0
          · have h6' : ¬ k.addr % 2 = 1 := by omega
            by_cases h7 : k.left < 0
            · have : ¬ RtK k := fun h => by have := h.2.2.2.2.1; omega
              simp [hd, h1, h2, h3, h4, h5, h6, h6', h7, this, tmod_nn h4.1]
            by_cases h8 : 8 < k.left
            · have : ¬ RtK k := fun h => by have := h.2.2.2.2.1; omega
              simp [hd, h1, h2, h3, h4, h5, h6, h6', h7, h8, this, tmod_nn h4.1]
            by_cases h9 : k.ready = true ↔ k.left = 0
            · by_cases h10 : k.left = 0
              · have : RtK k := ⟨by omega, h3, ⟨h4.1, h4.2, h6⟩, h5, by omega, h9, .inl h10, hd⟩
                simp [hd, h1, h2, h3, h4, h5, h6, h6', h9, h10, this, tmod_nn h4.1]
              · have h9' : ¬ k.ready = true := fun h => h10 (h9.1 h)
                by_cases h11 : k.command = 0
                · have : ¬ RtK k := fun h => by rcases h.2.2.2.2.2.2.1 with h' | h' <;> omega
                  simp [hd, h1, h2, h3, h4, h5, h6, h6', h7, h8, h9', h10, h11, this, tmod_nn h4.1]
                · by_cases h12 : k.words = 0
                  · have : ¬ RtK k := fun h => by rcases h.2.2.2.2.2.2.1 with h' | h' <;> omega
                    simp [hd, h1, h2, h4, h5, h6, h6', h7, h8, h9', h10, h11, h12, this, tmod_nn h4.1]
                  · have : RtK k := ⟨by omega, h3, ⟨h4.1, h4.2, h6⟩, h5, by omega, h9, .inr ⟨h11, h12⟩, hd⟩
                    simp [hd, h1, h2, h3, h4, h5, h6, h6', h7, h8, h9', h10, h11, h12, this, tmod_nn h4.1]
            · have : ¬ RtK k := fun h => h9 h.2.2.2.2.2.1
              simp [hd, h1, h2, h3, h4, h5, h6, h6', h7, h8, h9, this, tmod_nn h4.1]
          · have h6' : k.addr % 2 = 1 := by omega
            have : ¬ RtK k := fun h => h6 h.2.2.1.2.2
            simp [hd, h1, h2, h3, h4, h5, h6', this, tmod_nn h4.1]
        · have : ¬ RtK k := fun h => h5 h.2.2.2.1
          simp [hd, h1, h2, h3, h4, h5, this]
      · have : ¬ RtK k := fun h => h4 ⟨h.2.2.1.1, h.2.2.1.2.1⟩
        simp [hd, h1, h2, h3, h4, this]
    · have : ¬ RtK k := fun h => h3 h.2.1
      simp [hd, h1, h2, h3, this]
  · have : ¬ RtK k := fun h => hd h.2.2.2.2.2.2.2
    simp [hd, this]
end Go.Proofs.YtiafliookmnjoaaGreatDoor.C16
end
section
set_option linter.unusedSimpArgs false
set_option linter.unusedVariables false
namespace Go.Proofs.YtiafliookmnjoaaGreatDoor.C17
open Go Go.Ab
theorem wrap_succ {i n : Nat} (h : i < n) (hn : n ≤ 9223372036854775807) : IntKind.wrap .i64 ((i : Int) + 1) = ((i + 1 : Nat) : Int) := by rw [wrap_id] <;> omega
theorem long_def (r : List UInt8) : tape_long r = some (decide (512 < (r.length : Int))) := rfl
theorem anyLong_def (l : List (List UInt8)) (hl : l.length ≤ 9223372036854775807) : slices_ContainsFunc_string_string none l = some (decide (∃ r ∈ l, 512 < r.length)) := by
  have hs := lim_scan (f := fun s => (Wslices_IndexFunc_string_string_0 s).run) (fun i : Nat => ⟨l, (l.length : Int), (i : Int)⟩) l.length (fun i => ∀ r, l[i]? = some r → r.length ≤ 512) (fun i => .inl (i : Int)) (.inr ())
    (fun i hi hp => by
      have hp' : ¬ 512 < (l[i].length : Int) := by have := hp l[i] (List.getElem?_eq_getElem hi); omega
      simp [Wslices_IndexFunc_string_string_0, Tree.run, hi, wrap_succ hi hl, long_def, hp'])
    (fun i hi hp => by
      have hp' : 512 < (l[i].length : Int) := by
        apply Classical.byContradiction
        intro hn
        exact hp fun r hr => by
          rw [List.getElem?_eq_getElem hi] at hr
          rw [← Option.some.inj hr]; omega
      simp [Wslices_IndexFunc_string_string_0, Tree.run, hi, long_def, hp'])
    (by simp [Wslices_IndexFunc_string_string_0, Tree.run])
  rcases hs with ⟨h1, h2⟩ | ⟨i, hi, h1, h2⟩
  · have h : Lslices_IndexFunc_string_string_0 none ⟨l, (l.length : Int), (0 : Int)⟩ = some (.inr ()) := h2
    have hn : ¬ ∃ r ∈ l, 512 < r.length := by
      rintro ⟨r, hr, hlt⟩
      obtain ⟨i, hi, he⟩ := List.mem_iff_getElem.1 hr
      have := h1 i hi r (by rw [List.getElem?_eq_getElem hi, he])
      omega
    simp only [slices_ContainsFunc_string_string, Tslices_ContainsFunc_string_string, slices_IndexFunc_string_string, Tslices_IndexFunc_string_string, Tree.run, h, hn]
    rfl
  · have h : Lslices_IndexFunc_string_string_0 none ⟨l, (l.length : Int), (0 : Int)⟩ = some (.inl (i : Int)) := h2
    have hn : ∃ r ∈ l, 512 < r.length := by
      apply Classical.byContradiction
      intro hn
      refine h1 fun r hr => ?_
      apply Classical.byContradiction
      intro hlt
      exact hn ⟨r, List.mem_of_getElem? hr, by omega⟩
    have h0 : (0 : Int) ≤ (i : Int) := by omega
    simp only [slices_ContainsFunc_string_string, Tslices_ContainsFunc_string_string, slices_IndexFunc_string_string, Tslices_IndexFunc_string_string, Tree.run, h, hn]
    simp
def RtT (t : Tape) : Prop := t.records.length ≤ 64 ∧ (∀ r ∈ t.records, r.length ≤ 512) ∧ (0 ≤ t.pos ∧ t.pos ≤ (t.records.length : Int)) ∧ (0 ≤ t.command ∧ t.command ≤ 6) ∧ (0 ≤ t.count ∧ t.count ≤ 65535) ∧ (0 ≤ t.addr ∧ t.addr ≤ 65535) ∧ (0 ≤ t.left ∧ t.left ≤ 16) ∧ (t.ready = true ↔ t.left = 0)
instance (t : Tape) : Decidable (RtT t) := by unfold RtT; infer_instance
theorem word_def (x : Int) : ref17_word x = some (decide (0 ≤ x ∧ x ≤ 65535)) := by
  simp only [ref17_word, Tref17_word, Tree.run]
  by_cases h : 0 ≤ x <;> simp [h]
theorem isWord_def (x : Int) : tape_isWord x = some (decide (0 ≤ x ∧ x ≤ 65535)) := by
  simp only [tape_isWord, Ttape_isWord, Tree.run, and65535, mask_fix x 65536 (by omega)]
  rw [Option.some.injEq, decide_eq_decide]
  omega
theorem ref_records (t : Tape) (hl : t.records.length ≤ 9223372036854775807) : Lref17_Right_0 none ⟨(0 : Int), t⟩ = some (if ∀ r ∈ t.records, r.length ≤ 512 then .inr t else .inl (false, t)) := by
  have hs := lim_scan (f := fun s => (Wref17_Right_0 s).run) (fun i : Nat => ⟨(i : Int), t⟩) t.records.length (fun i => ∀ r, t.records[i]? = some r → r.length ≤ 512) (fun i => .inl (false, t)) (.inr t)
    (fun i hi hp => by
      have hp' : ¬ 512 < (t.records[i].length : Int) := by have := hp t.records[i] (List.getElem?_eq_getElem hi); omega
      simp [Wref17_Right_0, Tree.run, hi, wrap_succ hi hl, hp'])
    (fun i hi hp => by
      have hp' : 512 < (t.records[i].length : Int) := by
        apply Classical.byContradiction
        intro hn
        exact hp fun r hr => by
          rw [List.getElem?_eq_getElem hi] at hr
          rw [← Option.some.inj hr]; omega
      simp [Wref17_Right_0, Tree.run, hi, hp'])
    (by simp [Wref17_Right_0, Tree.run])
  rcases hs with ⟨h1, h2⟩ | ⟨i, hi, h1, h2⟩
  · rw [if_pos]
    · exact h2
    · intro r hr
      obtain ⟨i, hi, he⟩ := List.mem_iff_getElem.1 hr
      exact h1 i hi r (by rw [List.getElem?_eq_getElem hi, he])
  · rw [if_neg]
    · exact h2
    · intro h
      exact h1 fun r hr => h r (List.mem_of_getElem? hr)
theorem beq_iff' (a b : Bool) : (a == b) = true ↔ (a = true ↔ b = true) := by cases a <;> cases b <;> simp
theorem ref_RightT_def (t : Tape) (hl : t.records.length ≤ 9223372036854775807) : ref17_Right none t = some (decide (RtT t)) := by
  simp only [ref17_Right, Tref17_Right, Tree.run, word_def, Option.bind_some, ref_records t hl]
  by_cases h1 : 64 < (t.records.length : Int)
  · have : ¬ RtT t := fun h => by have := h.1; omega
    simp [h1, this]
  by_cases h2 : t.pos < 0
  · have : ¬ RtT t := fun h => by have := h.2.2.1; omega
    simp [h1, h2, this]
  by_cases h3 : (t.records.length : Int) < t.pos
  · have : ¬ RtT t := fun h => by have := h.2.2.1; omega
    simp [h1, h2, h3, this]
  by_cases h4 : t.command < 0
  · have : ¬ RtT t := fun h => by have := h.2.2.2.1; omega
    simp [h1, h2, h3, h4, this]
  by_cases h5 : 6 < t.command
  · have : ¬ RtT t := fun h => by have := h.2.2.2.1; omega
    simp [h1, h2, h3, h4, h5, this]
  by_cases h6 : 0 ≤ t.count ∧ t.count ≤ 65535
  · by_cases h7 : 0 ≤ t.addr ∧ t.addr ≤ 65535
    · by_cases h8 : ∀ r ∈ t.records, r.length ≤ 512
      · rw [if_pos h8]
        by_cases h9 : 0 ≤ t.left
        · by_cases h10 : t.left ≤ 16
          · simp only [h1, h2, h3, h4, h5, h6, h7, h9, h10, decide_false, decide_true, Bool.false_eq_true, if_false, if_true, Bool.not_true, and_self, Sum.isLeft_inr, Sum.getRight?_inr, Option.bind_some]
            rw [Option.some.injEq, Bool.eq_iff_iff, beq_iff', decide_eq_true_eq, decide_eq_true_eq]
            unfold RtT
            constructor
            · intro h; exact ⟨by omega, h8, by omega, by omega, h6, h7, by omega, h⟩
            · intro h; exact h.2.2.2.2.2.2.2
          · have : ¬ RtT t := fun h => by have := h.2.2.2.2.2.2.1; omega
            simp [h1, h2, h3, h4, h5, h6, h7, h9, h10, this]
        · have : ¬ RtT t := fun h => by have := h.2.2.2.2.2.2.1; omega
          simp [h1, h2, h3, h4, h5, h6, h7, h9, this]
      · rw [if_neg h8]
        have : ¬ RtT t := fun h => h8 h.2.1
        simp [h1, h2, h3, h4, h5, h6, h7, this]
    · have : ¬ RtT t := fun h => h7 h.2.2.2.2.2.1
      simp [h1, h2, h3, h4, h5, h6, h7, this]
  · have : ¬ RtT t := fun h => h6 h.2.2.2.2.1
    simp [h1, h2, h3, h4, h5, h6, this]
theorem tape_Right_def (t : Tape) (hl : t.records.length ≤ 9223372036854775807) : tape_Right none t = some (decide (RtT t)) := by
  simp only [tape_Right, Ttape_Right, Tree.run, isWord_def, Option.bind_some, anyLong_def _ hl]
  by_cases h1 : 64 < (t.records.length : Int)
  · have : ¬ RtT t := fun h => by have := h.1; omega
    simp [h1, this]
  by_cases h8 : ∃ r ∈ t.records, 512 < r.length
  · have : ¬ RtT t := fun h => by
      obtain ⟨r, hr, hlt⟩ := h8
      have := h.2.1 r hr
      omega
    simp only [h1, h8, this, decide_true, decide_false, if_true, if_false, Bool.false_eq_true]
  have h8' : ∀ r ∈ t.records, r.length ≤ 512 := fun r hr => by
    apply Classical.byContradiction
    intro hn
    exact h8 ⟨r, hr, by omega⟩
  simp only [h1, h8, decide_false, if_false, Bool.false_eq_true]
  by_cases h2 : t.pos < 0
  · have : ¬ RtT t := fun h => by have := h.2.2.1; omega
    simp [h2, this]
  by_cases h3 : (t.records.length : Int) < t.pos
  · have : ¬ RtT t := fun h => by have := h.2.2.1; omega
    simp [h2, h3, this]
  by_cases h4 : 0 ≤ t.command
  · by_cases h5 : t.command ≤ 6
    · by_cases h6 : 0 ≤ t.count ∧ t.count ≤ 65535
      · by_cases h7 : 0 ≤ t.addr ∧ t.addr ≤ 65535
        · by_cases h9 : 0 ≤ t.left
          · by_cases h10 : t.left ≤ 16
            · simp only [h2, h3, h4, h5, h6, h7, h9, h10, decide_false, decide_true, Bool.false_eq_true, if_false, if_true, Bool.not_true, and_self, Option.bind_some]
              rw [Option.some.injEq, Bool.eq_iff_iff, beq_iff', decide_eq_true_eq, decide_eq_true_eq]
              unfold RtT
              constructor
              · intro h; exact ⟨by omega, h8', by omega, by omega, h6, h7, by omega, h⟩
              · intro h; exact h.2.2.2.2.2.2.2
            · have : ¬ RtT t := fun h => by have := h.2.2.2.2.2.2.1; omega
              simp [h2, h3, h4, h5, h6, h7, h9, h10, this]
          · have : ¬ RtT t := fun h => by have := h.2.2.2.2.2.2.1; omega
            simp [h2, h3, h4, h5, h6, h7, h9, this]
        · have : ¬ RtT t := fun h => h7 h.2.2.2.2.2.1
          simp [h2, h3, h4, h5, h6, h7, this]
      · have : ¬ RtT t := fun h => h6 h.2.2.2.2.1
        simp [h2, h3, h4, h5, h6, this]
    · have : ¬ RtT t := fun h => by have := h.2.2.2.1; omega
      simp [h2, h3, h4, h5, this]
  · have : ¬ RtT t := fun h => by have := h.2.2.2.1; omega
    simp [h2, h3, h4, this]
end Go.Proofs.YtiafliookmnjoaaGreatDoor.C17
end
