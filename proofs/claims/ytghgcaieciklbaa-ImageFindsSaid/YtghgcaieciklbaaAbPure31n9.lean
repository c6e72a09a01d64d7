/- The law ImageFinds holds of the typed functions. -/
import Derived.Test.YtghgcaieciklbaaAbLim
import Derived.Laws.BitsLemmas
import Derived.Test.YtghgcaieciklbaaAb31
import Derived.Test.YtghgcaieciklbaaAbRd31
section
set_option linter.unusedSimpArgs false
namespace Go.Ab
variable {α β : Type}
/-- A loop that looks through numbers for the first that is not good. -/
theorem lim_scan1 {f : α → Option (α ⊕ β)} (s : Nat → α) (n : Nat) (p : Nat → Prop) (bad : Nat → β) (e : β) (h : ∀ i, i < n → p i → f (s i) = some (.inl (s (i + 1)))) (hb : ∀ i, i < n → ¬ p i → f (s i) = some (.inr (bad i))) (he : f (s n) = some (.inr e)) :
    ((∀ i, i < n → p i) ∧ lim f (s 0) = some e) ∨ ∃ i, i < n ∧ (∀ j, j < i → p j) ∧ ¬ p i ∧ lim f (s 0) = some (bad i) := by
  have key : ∀ k, k ≤ n → ((∀ i, n - k ≤ i → i < n → p i) ∧ lim f (s (n - k)) = some e) ∨ ∃ i, n - k ≤ i ∧ i < n ∧ (∀ j, n - k ≤ j → j < i → p j) ∧ ¬ p i ∧ lim f (s (n - k)) = some (bad i) := by
    intro k
    induction k with
    | zero => intro _; exact .inl ⟨fun i h1 h2 => by omega, lim_done he⟩
    | succ k ih =>
      intro hk
      by_cases hp : p (n - (k + 1))
      · have hn := lim_next (h (n - (k + 1)) (by omega) hp)
        rw [show n - (k + 1) + 1 = n - k by omega] at hn
        have hj : ∀ j, n - (k + 1) ≤ j → ¬ n - k ≤ j → p j := fun j h1 h2 => by rw [show j = n - (k + 1) by omega]; exact hp
        rcases ih (by omega) with ⟨h1, h2⟩ | ⟨i, h0, h1, h2, h3, h4⟩
        · refine .inl ⟨fun i hi hlt => ?_, by rw [hn]; exact h2⟩
          by_cases h' : n - k ≤ i
          · exact h1 i h' hlt
          · exact hj i hi h'
        · refine .inr ⟨i, by omega, h1, fun j hj1 hj2 => ?_, h3, by rw [hn]; exact h4⟩
          by_cases h' : n - k ≤ j
          · exact h2 j h' hj2
          · exact hj j hj1 h'
      · exact .inr ⟨n - (k + 1), Nat.le_refl _, by omega, fun j h1 h2 => by omega, hp, lim_done (hb _ (by omega) hp)⟩
  rcases key n (Nat.le_refl n) with ⟨h1, h2⟩ | ⟨i, h0, h1, h2, h3, h4⟩
  · rw [Nat.sub_self] at h2; exact .inl ⟨fun i hi => h1 i (by omega) hi, h2⟩
  · rw [Nat.sub_self] at h4; exact .inr ⟨i, h1, fun j hj => h2 j (by omega) hj, h3, h4⟩
theorem take_one_more {α : Type} {l : List α} {i : Nat} (hi : i < l.length) : l.take (i + 1) = l.take i ++ [l[i]] := by
  rw [List.take_add_one, List.getElem?_eq_getElem hi]; rfl
end Go.Ab
end
section
set_option linter.unusedSimpArgs false
namespace Go.Ab
theorem wrap_id {n : Int} (h1 : -9223372036854775808 ≤ n) (h2 : n ≤ 9223372036854775807) : IntKind.wrap .i64 n = n := by
  rw [IntKind.wrap_i64]; omega
theorem nat_and (a b : Int) : ((BitVec.ofInt 64 a &&& BitVec.ofInt 64 b).toNat : Int) = (((a % 18446744073709551616).toNat &&& (b % 18446744073709551616).toNat : Nat) : Int) := by
  rw [BitVec.toNat_and, BitVec.toNat_ofInt, BitVec.toNat_ofInt]
  rfl
/-- a mask of the lowest bits -/
theorem and_mask (j : Nat) (hj : j ≤ 62) (a : Int) : IntKind.wrap .i64 ((BitVec.ofInt 64 a &&& BitVec.ofInt 64 (2 ^ j - 1)).toNat : Int) = a % 2 ^ j := by
  have hp : (2 : Nat) ^ j ≤ 2 ^ 62 := Nat.pow_le_pow_right (by omega) hj
  have hc : ((2 : Int) ^ j) = ((2 ^ j : Nat) : Int) := by simp
  have h0 : 0 < (2 : Nat) ^ j := Nat.pow_pos (by omega)
  have hd : (2 : Nat) ^ j ∣ 18446744073709551616 := by
    have : (18446744073709551616 : Nat) = 2 ^ 64 := rfl
    rw [this]
    exact Nat.pow_dvd_pow 2 (by omega)
  rw [nat_and]
  have e1 : (((2 : Int) ^ j - 1) % 18446744073709551616).toNat = 2 ^ j - 1 := by
    rw [hc, Int.emod_eq_of_lt (by omega) (by omega)]
    omega
  rw [e1, Nat.and_two_pow_sub_one_eq_mod]
  have e2 : ((a % 18446744073709551616).toNat % 2 ^ j : Nat) = (a % 2 ^ j).toNat := by
    have hn : 0 ≤ a % 18446744073709551616 := Int.emod_nonneg _ (by omega)
    have : (((a % 18446744073709551616).toNat % 2 ^ j : Nat) : Int) = a % 2 ^ j := by
      rw [Int.natCast_emod, Int.toNat_of_nonneg hn, hc]
      exact Int.emod_emod_of_dvd a (Int.natCast_dvd_natCast.2 hd)
    omega
  rw [e2]
  have h1 : 0 ≤ a % 2 ^ j := Int.emod_nonneg _ (by rw [hc]; omega)
  have h2 : a % 2 ^ j < 2 ^ j := Int.emod_lt_of_pos _ (by rw [hc]; omega)
  rw [Int.toNat_of_nonneg h1]
  exact wrap_id (by omega) (by rw [hc] at h2; omega)
theorem and1 (a : Int) : IntKind.wrap .i64 ((BitVec.ofInt 64 a &&& BitVec.ofInt 64 (1 : Int)).toNat : Int) = a % 2 := and_mask 1 (by omega) a
theorem and3 (a : Int) : IntKind.wrap .i64 ((BitVec.ofInt 64 a &&& BitVec.ofInt 64 (3 : Int)).toNat : Int) = a % 4 := and_mask 2 (by omega) a
theorem and7 (a : Int) : IntKind.wrap .i64 ((BitVec.ofInt 64 a &&& BitVec.ofInt 64 (7 : Int)).toNat : Int) = a % 8 := and_mask 3 (by omega) a
theorem and31 (a : Int) : IntKind.wrap .i64 ((BitVec.ofInt 64 a &&& BitVec.ofInt 64 (31 : Int)).toNat : Int) = a % 32 := and_mask 5 (by omega) a
theorem and255 (a : Int) : IntKind.wrap .i64 ((BitVec.ofInt 64 a &&& BitVec.ofInt 64 (255 : Int)).toNat : Int) = a % 256 := and_mask 8 (by omega) a
theorem and4095 (a : Int) : IntKind.wrap .i64 ((BitVec.ofInt 64 a &&& BitVec.ofInt 64 (4095 : Int)).toNat : Int) = a % 4096 := and_mask 12 (by omega) a
theorem and65535 (a : Int) : IntKind.wrap .i64 ((BitVec.ofInt 64 a &&& BitVec.ofInt 64 (65535 : Int)).toNat : Int) = a % 65536 := and_mask 16 (by omega) a
theorem and262143 (a : Int) : IntKind.wrap .i64 ((BitVec.ofInt 64 a &&& BitVec.ofInt 64 (262143 : Int)).toNat : Int) = a % 262144 := and_mask 18 (by omega) a
/-- parts that share no bit are added -/
theorem or_add (j : Nat) (a b : Int) (h0 : 0 ≤ b) (hb : b < 2 ^ j) (ha0 : 0 ≤ a) (ha : a % 2 ^ j = 0) (hs : a + b ≤ 9223372036854775807) : IntKind.wrap .i64 ((BitVec.ofInt 64 a ||| BitVec.ofInt 64 b).toNat : Int) = a + b := by
  rw [BitVec.toNat_or, BitVec.toNat_ofInt, BitVec.toNat_ofInt]
  have e1 : (a % ((2 ^ 64 : Nat) : Int)).toNat = a.toNat := by rw [Int.emod_eq_of_lt ha0 (by omega)]
  have e2 : (b % ((2 ^ 64 : Nat) : Int)).toNat = b.toNat := by rw [Int.emod_eq_of_lt h0 (by omega)]
  rw [e1, e2]
  have hc : ((2 : Int) ^ j) = ((2 ^ j : Nat) : Int) := by simp
  have hm : a.toNat % 2 ^ j = 0 := by
    rw [hc] at ha
    have : ((a.toNat % 2 ^ j : Nat) : Int) = 0 := by rw [Int.natCast_emod, Int.toNat_of_nonneg ha0]; exact ha
    exact Int.ofNat.inj this
  obtain ⟨c, hc'⟩ := Nat.dvd_of_mod_eq_zero hm
  have hlt : b.toNat < 2 ^ j := by rw [hc] at hb; omega
  have : a.toNat ||| b.toNat = a.toNat + b.toNat := by
    rw [hc', Nat.two_pow_add_eq_or_of_lt hlt]
  rw [this]
  rw [wrap_id (by omega) (by omega)]
  omega
theorem or_add' (j : Nat) (a b : Int) (h0 : 0 ≤ a) (ha : a < 2 ^ j) (hb0 : 0 ≤ b) (hb : b % 2 ^ j = 0) (hs : a + b ≤ 9223372036854775807) : IntKind.wrap .i64 ((BitVec.ofInt 64 a ||| BitVec.ofInt 64 b).toNat : Int) = a + b := by
  rw [BitVec.or_comm, or_add j b a h0 ha hb0 hb (by omega)]
  omega
theorem tdiv_nn {a : Int} (h : 0 ≤ a) (b : Int) : a.tdiv b = a / b := Int.tdiv_eq_ediv_of_nonneg h
theorem tmod_nn {a : Int} (h : 0 ≤ a) (b : Int) : a.tmod b = a % b := Int.tmod_eq_emod_of_nonneg h
theorem fdiv_pos (a : Int) {b : Int} (h : 0 ≤ b) : a.fdiv b = a / b := Int.fdiv_eq_ediv_of_nonneg a h
/-- Go's remainder, brought above zero -/
theorem tmod_up (x m : Int) (hm : 0 < m) : (x.tmod m < 0 ∧ x.tmod m + m = x % m) ∨ (0 ≤ x.tmod m ∧ x.tmod m = x % m) := by
  have h1 := Int.emod_nonneg x (show m ≠ 0 by omega)
  have h2 := Int.emod_lt_of_pos x hm
  rw [Int.tmod_eq_emod]
  split
  · right; simp; exact h1
  · left; omega
theorem mask_fix (a m : Int) (hm : 0 < m) : (a % m = a) ↔ (0 ≤ a ∧ a < m) := by
  constructor
  · intro h
    have h1 := Int.emod_nonneg a (show m ≠ 0 by omega)
    have h2 := Int.emod_lt_of_pos a hm
    omega
  · rintro ⟨h1, h2⟩
    exact Int.emod_eq_of_lt h1 h2
end Go.Ab
end
section
set_option linter.unusedSimpArgs false
namespace Go.Ab
theorem nat_and_up (a j k : Nat) : a &&& ((2 ^ j - 1) * 2 ^ k) = (a / 2 ^ k % 2 ^ j) * 2 ^ k := by
  apply Nat.eq_of_testBit_eq
  intro i
  rw [Nat.testBit_and, Nat.testBit_mul_two_pow, Nat.testBit_mul_two_pow, Nat.testBit_mod_two_pow, Nat.testBit_div_two_pow, Nat.testBit_two_pow_sub_one]
  by_cases h : k ≤ i
  · simp [h]
    rw [Bool.and_comm]
  · simp [h]
theorem bv_andNot (x y : BitVec 64) : x &&& ~~~y = x - (x &&& y) := by
  have h : (x &&& ~~~y) + (x &&& y) = x := by
    rw [BitVec.add_eq_or_of_and_eq_zero]
    · ext i hi
      simp
      cases x[i] <;> cases y[i] <;> rfl
    · ext i hi
      simp
      cases x[i] <;> cases y[i] <;> simp
  exact BitVec.eq_sub_iff_add_eq.2 h
/-- bits taken away -/
theorem andNot_sub (a b : Int) (h0 : 0 ≤ a) (h1 : a ≤ 9223372036854775807) : IntKind.wrap .i64 ((BitVec.ofInt 64 a &&& ~~~BitVec.ofInt 64 b).toNat : Int) = a - IntKind.wrap .i64 ((BitVec.ofInt 64 a &&& BitVec.ofInt 64 b).toNat : Int) := by
  rw [bv_andNot]
  have hle : BitVec.ofInt 64 a &&& BitVec.ofInt 64 b ≤ BitVec.ofInt 64 a := by
    rw [BitVec.le_def, BitVec.toNat_and]
    exact Nat.and_le_left
  rw [BitVec.toNat_sub_of_le hle]
  have ha : (BitVec.ofInt 64 a).toNat = a.toNat := by
    rw [BitVec.toNat_ofInt, Int.emod_eq_of_lt h0 (by omega)]
  have hle' := BitVec.le_def.1 hle
  rw [ha] at hle' ⊢
  rw [wrap_id (by omega) (by omega), wrap_id (by omega) (by omega)]
  omega
theorem andNot_mask (j : Nat) (hj : j ≤ 62) (a : Int) (h0 : 0 ≤ a) (h1 : a ≤ 9223372036854775807) : IntKind.wrap .i64 ((BitVec.ofInt 64 a &&& ~~~BitVec.ofInt 64 (2 ^ j - 1)).toNat : Int) = a - a % 2 ^ j := by
  rw [andNot_sub a _ h0 h1, and_mask j hj]
theorem andNot1 (a : Int) (h0 : 0 ≤ a) (h1 : a ≤ 9223372036854775807) : IntKind.wrap .i64 ((BitVec.ofInt 64 a &&& ~~~BitVec.ofInt 64 (1 : Int)).toNat : Int) = a - a % 2 := andNot_mask 1 (by omega) a h0 h1
theorem andNot255 (a : Int) (h0 : 0 ≤ a) (h1 : a ≤ 9223372036854775807) : IntKind.wrap .i64 ((BitVec.ofInt 64 a &&& ~~~BitVec.ofInt 64 (255 : Int)).toNat : Int) = a - a % 256 := andNot_mask 8 (by omega) a h0 h1
theorem andNot65535 (a : Int) (h0 : 0 ≤ a) (h1 : a ≤ 9223372036854775807) : IntKind.wrap .i64 ((BitVec.ofInt 64 a &&& ~~~BitVec.ofInt 64 (65535 : Int)).toNat : Int) = a - a % 65536 := andNot_mask 16 (by omega) a h0 h1
/-- a mask higher up -/
theorem and_up (j k : Nat) (hj : j + k ≤ 62) (a : Int) (h0 : 0 ≤ a) (h1 : a ≤ 9223372036854775807) : IntKind.wrap .i64 ((BitVec.ofInt 64 a &&& BitVec.ofInt 64 ((2 ^ j - 1) * 2 ^ k)).toNat : Int) = a / 2 ^ k % 2 ^ j * 2 ^ k := by
  have hp : (2 : Nat) ^ (j + k) ≤ 2 ^ 62 := Nat.pow_le_pow_right (by omega) hj
  have hpos : 0 < (2 : Nat) ^ j := Nat.pow_pos (by omega)
  have hposk : 0 < (2 : Nat) ^ k := Nat.pow_pos (by omega)
  have hc : ((2 : Int) ^ j - 1) * 2 ^ k = (((2 ^ j - 1) * 2 ^ k : Nat) : Int) := by
    rw [Int.natCast_mul, Int.natCast_sub (by omega)]
    simp
  have hlt : (2 ^ j - 1) * 2 ^ k < 2 ^ 62 := by
    have : (2 ^ j - 1) * 2 ^ k < 2 ^ j * 2 ^ k := Nat.mul_lt_mul_of_pos_right (by omega) hposk
    rw [← Nat.pow_add] at this
    omega
  rw [nat_and, hc, Int.emod_eq_of_lt h0 (by omega), Int.emod_eq_of_lt (by omega) (by omega), Int.toNat_natCast, nat_and_up]
  have e : (((a.toNat / 2 ^ k % 2 ^ j * 2 ^ k : Nat)) : Int) = a / 2 ^ k % 2 ^ j * 2 ^ k := by
    rw [Int.natCast_mul, Int.natCast_emod, Int.natCast_ediv, Int.toNat_of_nonneg h0]
    simp
  rw [e]
  have hm := Int.emod_nonneg (a / 2 ^ k) (show (2 : Int) ^ j ≠ 0 by have := Int.natCast_pos.2 hpos; simp at this; omega)
  apply wrap_id
  · rw [← e]; omega
  · rw [← e]
    have : a.toNat / 2 ^ k % 2 ^ j * 2 ^ k ≤ a.toNat / 2 ^ k * 2 ^ k := Nat.mul_le_mul_right _ (Nat.mod_le _ _)
    have h2 : a.toNat / 2 ^ k * 2 ^ k ≤ a.toNat := Nat.div_mul_le_self _ _
    omega
theorem and65280 (a : Int) (h0 : 0 ≤ a) (h1 : a ≤ 9223372036854775807) : IntKind.wrap .i64 ((BitVec.ofInt 64 a &&& BitVec.ofInt 64 (65280 : Int)).toNat : Int) = a / 256 % 256 * 256 := and_up 8 8 (by omega) a h0 h1
theorem andNot65280 (a : Int) (h0 : 0 ≤ a) (h1 : a ≤ 9223372036854775807) : IntKind.wrap .i64 ((BitVec.ofInt 64 a &&& ~~~BitVec.ofInt 64 (65280 : Int)).toNat : Int) = a - a / 256 % 256 * 256 := by
  rw [andNot_sub a _ h0 h1, and65280 a h0 h1]
end Go.Ab
end
section
set_option linter.unusedSimpArgs false
set_option linter.unusedVariables false
namespace Go.Proofs.Ytghgcaieciklbaa
open Go Go.Ab
theorem alive_true : law31_alive none = some true := lelaw31_alive 300 true (by kernel_rfl)
theorem wrap_succ {i n : Nat} (h : i < n) (hn : n ≤ 9223372036854775807) : IntKind.wrap .i64 ((i : Int) + 1) = ((i + 1 : Nat) : Int) := by rw [wrap_id] <;> omega
def SmI (x : Image) : Prop := x.text.length ≤ 34000 ∧ x.data.length ≤ 34000 ∧ x.symbols.length ≤ 300
theorem small_def (x : Image) : ∃ r, law31_small none x = some r ∧ (r = true → SmI x ∧ ∀ s ∈ x.symbols, s.name.length ≤ 100) := by
  simp only [law31_small, Tlaw31_small, Tree.run]
  by_cases h1 : (34000 : Int) < (x.text.length : Int)
  · exact ⟨false, by simp [h1], fun h => by cases h⟩
  by_cases h2 : (34000 : Int) < (x.data.length : Int)
  · exact ⟨false, by simp [h1, h2], fun h => by cases h⟩
  by_cases h3 : (300 : Int) < (x.symbols.length : Int)
  · exact ⟨false, by simp [h1, h2, h3], fun h => by cases h⟩
  have hs := lim_scan (f := fun s => (Wlaw31_small_0 s).run) (fun i : Nat => ⟨x.symbols, (x.symbols.length : Int), (i : Int)⟩) x.symbols.length (fun i => ∀ y, x.symbols[i]? = some y → y.name.length ≤ 100) (fun i => .inl false) (.inr ())
    (fun i hi hp => by
      have hp' := hp x.symbols[i] (List.getElem?_eq_getElem hi)
      have hp'' : ¬ (100 : Int) < (x.symbols[i].name.length : Int) := by omega
      simp [Wlaw31_small_0, Tree.run, hi, hp'', wrap_succ hi (show x.symbols.length ≤ 9223372036854775807 by omega)])
    (fun i hi hp => by
      have hp'' : (100 : Int) < (x.symbols[i].name.length : Int) := by
        rcases Int.lt_or_le 100 (x.symbols[i].name.length : Int) with h | h
        · exact h
        · exact absurd (fun y hy => by rw [List.getElem?_eq_getElem hi] at hy; rw [← Option.some.inj hy]; omega) hp
      simp [Wlaw31_small_0, Tree.run, hi, hp''])
    (by simp [Wlaw31_small_0, Tree.run])
  rcases hs with ⟨q1, q2⟩ | ⟨i, hi, q1, q2⟩
  · have q2' : Llaw31_small_0 none ⟨x.symbols, (x.symbols.length : Int), (0 : Int)⟩ = some (.inr ()) := q2
    refine ⟨true, by simp [h1, h2, h3, q2'], fun _ => ⟨⟨by omega, by omega, by omega⟩, fun s hs => ?_⟩⟩
    obtain ⟨i, hi, he⟩ := List.mem_iff_getElem.1 hs
    exact q1 i hi s (by rw [List.getElem?_eq_getElem hi, he])
  · have q2' : Llaw31_small_0 none ⟨x.symbols, (x.symbols.length : Int), (0 : Int)⟩ = some (.inl false) := q2
    exact ⟨false, by simp [h1, h2, h3, q2'], fun h => by cases h⟩
end Go.Proofs.Ytghgcaieciklbaa
end
section
set_option linter.unusedSimpArgs false
set_option linter.unusedVariables false
namespace Go.Proofs.Ytghgcaieciklbaa
open Go Go.Ab
theorem find_some (x : Image) (s : List UInt8) (hl : x.symbols.length ≤ 1000) : ∃ r, Limage_Find_0 none ⟨s, x.symbols, (x.symbols.length : Int), (0 : Int)⟩ = some r := by
  have hs := lim_scan (f := fun s => (Wimage_Find_0 s).run) (fun i : Nat => ⟨s, x.symbols, (x.symbols.length : Int), (i : Int)⟩) x.symbols.length (fun i => ∀ y, x.symbols[i]? = some y → y.name ≠ s) (fun i => .inl ((x.symbols.getD i ⟨[], 0, 0, false⟩).value, true)) (.inr ())
    (fun i hi hp => by
      have hp' := hp x.symbols[i] (List.getElem?_eq_getElem hi)
      simp [Wimage_Find_0, Tree.run, hi, hp', wrap_succ hi (show x.symbols.length ≤ 9223372036854775807 by omega)])
    (fun i hi hp => by
      have hp' : x.symbols[i].name = s := by
        by_cases h : x.symbols[i].name = s
        · exact h
        · exact absurd (fun y hy => by rw [List.getElem?_eq_getElem hi] at hy; rw [← Option.some.inj hy]; exact h) hp
      simp [Wimage_Find_0, Tree.run, hi, hp', List.getD])
    (by simp [Wimage_Find_0, Tree.run])
  rcases hs with ⟨_, h⟩ | ⟨i, _, _, h⟩
  · exact ⟨_, h⟩
  · exact ⟨_, h⟩
theorem Find_eq (x : Image) (s : List UInt8) (hl : x.symbols.length ≤ 1000) : ∃ r, image_Find none x s = some r ∧ ref31_Find none x s = some r := by
  obtain ⟨r, hr⟩ := find_some x s hl
  obtain ⟨r', hr', e⟩ := lim_rel (f := fun s => (Wimage_Find_0 s).run) (g := fun s => (Wref31_Find_0 s).run) (fun a b => ∃ i : Nat, i ≤ x.symbols.length ∧ a = ⟨s, x.symbols, (x.symbols.length : Int), (i : Int)⟩ ∧ b = ⟨s, (i : Int), x⟩) (fun a b => a = b)
    (by
      rintro a b ⟨i, hi, rfl, rfl⟩
      by_cases hlt : i < x.symbols.length
      · have w := wrap_succ hlt (show x.symbols.length ≤ 9223372036854775807 by omega)
        by_cases h : x.symbols[i].name = s
        · left
          exact ⟨.inl (x.symbols[i].value, true), .inl (x.symbols[i].value, true), by simp [Wimage_Find_0, Tree.run, hlt, h], by simp [Wref31_Find_0, Tree.run, hlt, h], rfl⟩
        · right; left
          exact ⟨⟨s, x.symbols, (x.symbols.length : Int), ((i + 1 : Nat) : Int)⟩, ⟨s, ((i + 1 : Nat) : Int), x⟩, by simp [Wimage_Find_0, Tree.run, hlt, h, w], by simp [Wref31_Find_0, Tree.run, hlt, h, w], i + 1, hlt, rfl, rfl⟩
      · have : i = x.symbols.length := by omega
        subst this
        left
        exact ⟨.inr (), .inr (), by simp [Wimage_Find_0, Tree.run], by simp [Wref31_Find_0, Tree.run], rfl⟩)
    (a := ⟨s, x.symbols, (x.symbols.length : Int), (0 : Int)⟩) (a' := ⟨s, (0 : Int), x⟩) ⟨0, Nat.zero_le _, rfl, rfl⟩ hr
  subst e
  have hr2 : Lref31_Find_0 none ⟨s, (0 : Int), x⟩ = some r := hr'
  cases r with
  | inl p => exact ⟨p, by simp [image_Find, Timage_Find, Tree.run, hr], by simp [ref31_Find, Tref31_Find, Tree.run, hr2]⟩
  | inr u => exact ⟨((0 : Int), false), by simp [image_Find, Timage_Find, Tree.run, hr], by simp [ref31_Find, Tref31_Find, Tree.run, hr2]⟩
/-- the best so far, and its place -/
def Best (l : List Symbol) (b : Symbol) (k : Int) : Prop := k = -1 ∧ b = ⟨[], 0, -1, false⟩ ∨ ∃ j : Nat, ∃ h : j < l.length, k = (j : Int) ∧ b = l[j] ∧ 0 ≤ b.value
theorem near_step (l : List Symbol) (a : Int) (i : Nat) (b : Symbol) (hl : l.length ≤ 1000) (hi : i < l.length) : ∃ c, (Wimage_Nearest_0 ⟨a, l, (l.length : Int), (i : Int), b⟩).run = some (.inl ⟨a, l, (l.length : Int), ((i + 1 : Nat) : Int), c⟩) ∧
    ∀ k, Best l b k → ∃ k', (Wref31_Nearest_0 ⟨l, a, k, (i : Int)⟩).run = some (.inl ⟨l, a, k', ((i + 1 : Nat) : Int)⟩) ∧ Best l c k' := by
  have w := wrap_succ hi (show l.length ≤ 9223372036854775807 by omega)
  have hi' : (i : Int) < (l.length : Int) := by omega
  have h0 : (0 : Int) ≤ (i : Int) := by omega
  have hg := List.getElem?_eq_getElem hi
  simp only [Wimage_Nearest_0, Wref31_Nearest_0, Tree.run, hi', h0, decide_true, if_true, Int.toNat_natCast, hg, Option.bind_some, w]
  by_cases c1 : l[i].section_ = 0
  · simp only [c1, decide_true, Bool.not_true, Bool.false_eq_true, if_false]
    exact ⟨_, rfl, fun k hk => ⟨_, rfl, hk⟩⟩
  simp only [c1, decide_false, Bool.not_false, if_true]
  by_cases c2 : l[i].value ≤ (if (65535 : Int) < a then (65535 : Int) else a)
  · have d2 : l[i].value ≤ 65535 ∧ l[i].value ≤ a := by
      split at c2 <;> omega
    simp only [c2, d2, decide_true, if_true]
    by_cases c3 : b.value < l[i].value
    · simp only [c3, decide_true, if_true]
      refine ⟨_, rfl, fun k hk => ?_⟩
      rcases hk with ⟨rfl, rfl⟩ | ⟨j, hj, rfl, rfl, hv⟩
      · have c4 : 0 ≤ l[i].value := by have : (-1 : Int) < l[i].value := c3; omega
        simp only [c4, decide_true, if_true, show (-1 : Int) < 0 by omega]
        exact ⟨_, rfl, .inr ⟨i, hi, rfl, rfl, c4⟩⟩
      · have c4 : 0 ≤ l[i].value := by omega
        simp only [c4, decide_true, if_true, show ¬ (j : Int) < 0 by omega, decide_false, Bool.false_eq_true, if_false, show (0 : Int) ≤ (j : Int) by omega, Int.toNat_natCast, List.getElem?_eq_getElem hj, Option.bind_some, c3]
        exact ⟨_, rfl, .inr ⟨i, hi, rfl, rfl, c4⟩⟩
    · simp only [c3, decide_false, Bool.false_eq_true, if_false]
      refine ⟨_, rfl, fun k hk => ?_⟩
      have hk' := hk
      rcases hk with ⟨rfl, rfl⟩ | ⟨j, hj, rfl, rfl, hv⟩
      · have c4 : ¬ 0 ≤ l[i].value := by have : ¬ (-1 : Int) < l[i].value := c3; omega
        simp only [c4, decide_false, Bool.false_eq_true, if_false]
        exact ⟨_, rfl, hk'⟩
      · by_cases c4 : 0 ≤ l[i].value
        · simp only [c4, decide_true, if_true, show ¬ (j : Int) < 0 by omega, decide_false, Bool.false_eq_true, if_false, show (0 : Int) ≤ (j : Int) by omega, Int.toNat_natCast, List.getElem?_eq_getElem hj, Option.bind_some, c3]
          exact ⟨_, rfl, hk'⟩
        · simp only [c4, decide_false, Bool.false_eq_true, if_false]
          exact ⟨_, rfl, hk'⟩
  · simp only [c2, decide_false, Bool.false_eq_true, if_false]
    refine ⟨_, rfl, fun k hk => ⟨k, ?_, hk⟩⟩
    have d2 : ¬ (l[i].value ≤ 65535 ∧ l[i].value ≤ a) := by
      intro h
      apply c2
      split <;> omega
    by_cases c4 : 0 ≤ l[i].value
    · by_cases c5 : l[i].value ≤ 65535
      · have c6 : ¬ l[i].value ≤ a := fun h => d2 ⟨c5, h⟩
        simp only [c4, c5, c6, decide_true, decide_false, if_true, Bool.false_eq_true, if_false]
      · simp only [c4, c5, decide_true, decide_false, if_true, Bool.false_eq_true, if_false]
    · simp only [c4, decide_false, Bool.false_eq_true, if_false]
theorem Nearest_eq (l : List Symbol) (a : Int) (hl : l.length ≤ 1000) : ∃ r, image_Nearest none l a = some r ∧ ref31_Nearest none l a = some r := by
  obtain ⟨r, hr, _⟩ := lim_rule (f := fun s => (Wimage_Nearest_0 s).run) (fun s => ∃ (i : Nat) (b : Symbol), i ≤ l.length ∧ s = ⟨a, l, (l.length : Int), (i : Int), b⟩) (fun _ => True) (fun s => l.length - s.t13.toNat)
    (by
      rintro s ⟨i, b, hi, rfl⟩
      by_cases hlt : i < l.length
      · obtain ⟨c, h1, _⟩ := near_step l a i b hl hlt
        exact .inr ⟨_, h1, ⟨i + 1, c, hlt, rfl⟩, by simp; omega⟩
      · have : i = l.length := by omega
        subst this
        exact .inl ⟨(a, b), by simp [Wimage_Nearest_0, Tree.run], trivial⟩)
    ⟨a, l, (l.length : Int), (0 : Int), ⟨[], 0, -1, false⟩⟩ ⟨0, _, Nat.zero_le _, rfl⟩
  obtain ⟨r', hr', b, k, e1, e2, hb⟩ := lim_rel (f := fun s => (Wimage_Nearest_0 s).run) (g := fun s => (Wref31_Nearest_0 s).run)
    (fun s t => ∃ (i : Nat) (b : Symbol) (k : Int), i ≤ l.length ∧ s = ⟨a, l, (l.length : Int), (i : Int), b⟩ ∧ t = ⟨l, a, k, (i : Int)⟩ ∧ Best l b k)
    (fun x y => ∃ (b : Symbol) (k : Int), x = (a, b) ∧ y = (l, a, k) ∧ Best l b k)
    (by
      rintro s t ⟨i, b, k, hi, rfl, rfl, hb⟩
      by_cases hlt : i < l.length
      · obtain ⟨c, h1, h2⟩ := near_step l a i b hl hlt
        obtain ⟨k', h3, h4⟩ := h2 k hb
        exact .inr (.inl ⟨_, _, h1, h3, i + 1, c, k', hlt, rfl, rfl, h4⟩)
      · have : i = l.length := by omega
        subst this
        exact .inl ⟨(a, b), (l, a, k), by simp [Wimage_Nearest_0, Tree.run], by simp [Wref31_Nearest_0, Tree.run], b, k, rfl, rfl, hb⟩)
    (a := ⟨a, l, (l.length : Int), (0 : Int), ⟨[], 0, -1, false⟩⟩) (a' := ⟨l, a, -1, (0 : Int)⟩) ⟨0, _, _, Nat.zero_le _, rfl, rfl, .inl ⟨rfl, rfl⟩⟩ hr
  subst e1
  subst e2
  have hr1 : Limage_Nearest_0 none ⟨a, l, (l.length : Int), (0 : Int), ⟨[], 0, -1, false⟩⟩ = some (a, b) := hr
  have hr2 : Lref31_Nearest_0 none ⟨l, a, -1, (0 : Int)⟩ = some (l, a, k) := hr'
  rcases hb with ⟨rfl, rfl⟩ | ⟨j, hj, rfl, rfl, hv⟩
  · exact ⟨([], 0, false), by simp [image_Nearest, Timage_Nearest, Tree.run, hr1], by simp [ref31_Nearest, Tref31_Nearest, Tree.run, hr2]⟩
  · have h1 : ¬ l[j].value < 0 := by omega
    refine ⟨(l[j].name, IntKind.wrap .i64 (a - l[j].value), true), ?_, ?_⟩
    · simp only [image_Nearest, Timage_Nearest, Tree.run, hr1, Option.bind_some, h1, decide_false, Bool.false_eq_true, if_false]
    · simp only [ref31_Nearest, Tref31_Nearest, Tree.run, hr2, Option.bind_some, show ¬ (j : Int) < 0 by omega, show (0 : Int) ≤ (j : Int) by omega, decide_true, decide_false, if_true, Bool.false_eq_true, if_false, Int.toNat_natCast, List.getElem?_eq_getElem hj]
theorem pf_law31_ImageFinds (x : Image × List UInt8 × Int × Unit) (h : Glaw31_ImageFinds x) : law31_ImageFinds none x.1 x.2.1 x.2.2.1 = some true := by
  obtain ⟨x, s, a, u⟩ := x
  obtain ⟨r, hr, hs⟩ := small_def x
  simp only [law31_ImageFinds, Tlaw31_ImageFinds, Tree.run, hr, Option.bind_some, alive_true]
  cases r with
  | false => rfl
  | true =>
    obtain ⟨⟨_, _, hl⟩, _⟩ := hs rfl
    obtain ⟨p, e1, e2⟩ := Find_eq x s (by omega)
    obtain ⟨q, e3, e4⟩ := Nearest_eq x.symbols a (by omega)
    by_cases q1 : (100 : Int) < (s.length : Int)
    · simp [q1]
    · simp [q1, e1, e2, e3, e4]
end Go.Proofs.Ytghgcaieciklbaa
end
