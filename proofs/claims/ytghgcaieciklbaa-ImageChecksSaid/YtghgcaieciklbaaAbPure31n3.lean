/- The law ImageChecks holds of the typed functions. -/
import Derived.Test.YtghgcaieciklbaaAbLim
import Derived.Laws.BitsLemmas
import Derived.Test.YtghgcaieciklbaaAb31
import Derived.Test.YtghgcaieciklbaaAbRd31
section
set_option linter.unusedSimpArgs false
namespace Go.Ab
variable {α β : Type}
/-- A loop that looks through numbers for the first that is not good. -/
theorem lim_scan1 {f : α → Option (α ⊕ β)} (s : Nat → α) (n : Nat) (p : Nat → Prop) (bad : Nat → β) (e : β) (h : ∀ i, i < n → p i → f (s i) = some (.inl (s (i + 1)))) (hb : ∀ i, i < n → ¬ p i → f (s i) = some (.inr (bad i))) (he : f (s n) = some (.inr e)) :
    ((∀ i, i < n → p i) ∧ lim f (s 0) = some e) ∨ ∃ i, i < n ∧ (∀ j, j < i → p j) ∧ ¬ p i ∧ lim f (s 0) = some (bad i) := by
  have key : ∀ k, k ≤ n → ((∀ i, n - k ≤ i → i < n → p i) ∧ lim f (s (n - k)) = some e) ∨ ∃ i, n - k ≤ i ∧ i < n ∧ (∀ j, n - k ≤ j → j < i → p j) ∧ ¬ p i ∧ lim f (s (n - k)) = some (bad i) := by
    intro k
    induction k with
    | zero => intro _; exact .inl ⟨fun i h1 h2 => by omega, lim_done he⟩
    | succ k ih =>
      intro hk
      by_cases hp : p (n - (k + 1))
      · have hn := lim_next (h (n - (k + 1)) (by omega) hp)
        rw [show n - (k + 1) + 1 = n - k by omega] at hn
        have hj : ∀ j, n - (k + 1) ≤ j → ¬ n - k ≤ j → p j := fun j h1 h2 => by rw [show j = n - (k + 1) by omega]; exact hp
        rcases ih (by omega) with ⟨h1, h2⟩ | ⟨i, h0, h1, h2, h3, h4⟩
        · refine .inl ⟨fun i hi hlt => ?_, by rw [hn]; exact h2⟩
          by_cases h' : n - k ≤ i
          · exact h1 i h' hlt
          · exact hj i hi h'
        · refine .inr ⟨i, by omega, h1, fun j hj1 hj2 => ?_, h3, by rw [hn]; exact h4⟩
          by_cases h' : n - k ≤ j
          · exact h2 j h' hj2
          · exact hj j hj1 h'
      · exact .inr ⟨n - (k + 1), Nat.le_refl _, by omega, fun j h1 h2 => by omega, hp, lim_done (hb _ (by omega) hp)⟩
  rcases key n (Nat.le_refl n) with ⟨h1, h2⟩ | ⟨i, h0, h1, h2, h3, h4⟩
  · rw [Nat.sub_self] at h2; exact .inl ⟨fun i hi => h1 i (by omega) hi, h2⟩
  · rw [Nat.sub_self] at h4; exact .inr ⟨i, h1, fun j hj => h2 j (by omega) hj, h3, h4⟩
theorem take_one_more {α : Type} {l : List α} {i : Nat} (hi : i < l.length) : l.take (i + 1) = l.take i ++ [l[i]] := by
  rw [List.take_add_one, List.getElem?_eq_getElem hi]; rfl
end Go.Ab
end
section
set_option linter.unusedSimpArgs false
namespace Go.Ab
theorem wrap_id {n : Int} (h1 : -9223372036854775808 ≤ n) (h2 : n ≤ 9223372036854775807) : IntKind.wrap .i64 n = n := by
  rw [IntKind.wrap_i64]; omega
theorem nat_and (a b : Int) : ((BitVec.ofInt 64 a &&& BitVec.ofInt 64 b).toNat : Int) = (((a % 18446744073709551616).toNat &&& (b % 18446744073709551616).toNat : Nat) : Int) := by
  rw [BitVec.toNat_and, BitVec.toNat_ofInt, BitVec.toNat_ofInt]
  rfl
/-- a mask of the lowest bits -/
theorem and_mask (j : Nat) (hj : j ≤ 62) (a : Int) : IntKind.wrap .i64 ((BitVec.ofInt 64 a &&& BitVec.ofInt 64 (2 ^ j - 1)).toNat : Int) = a % 2 ^ j := by
  have hp : (2 : Nat) ^ j ≤ 2 ^ 62 := Nat.pow_le_pow_right (by omega) hj
  have hc : ((2 : Int) ^ j) = ((2 ^ j : Nat) : Int) := by simp
  have h0 : 0 < (2 : Nat) ^ j := Nat.pow_pos (by omega)
  have hd : (2 : Nat) ^ j ∣ 18446744073709551616 := by
    have : (18446744073709551616 : Nat) = 2 ^ 64 := rfl
    rw [this]
    exact Nat.pow_dvd_pow 2 (by omega)
  rw [nat_and]
  have e1 : (((2 : Int) ^ j - 1) % 18446744073709551616).toNat = 2 ^ j - 1 := by
    rw [hc, Int.emod_eq_of_lt (by omega) (by omega)]
    omega
  rw [e1, Nat.and_two_pow_sub_one_eq_mod]
  have e2 : ((a % 18446744073709551616).toNat % 2 ^ j : Nat) = (a % 2 ^ j).toNat := by
    have hn : 0 ≤ a % 18446744073709551616 := Int.emod_nonneg _ (by omega)
    have : (((a % 18446744073709551616).toNat % 2 ^ j : Nat) : Int) = a % 2 ^ j := by
      rw [Int.natCast_emod, Int.toNat_of_nonneg hn, hc]
      exact Int.emod_emod_of_dvd a (Int.natCast_dvd_natCast.2 hd)
    omega
  rw [e2]
  have h1 : 0 ≤ a % 2 ^ j := Int.emod_nonneg _ (by rw [hc]; omega)
  have h2 : a % 2 ^ j < 2 ^ j := Int.emod_lt_of_pos _ (by rw [hc]; omega)
  rw [Int.toNat_of_nonneg h1]
  exact wrap_id (by omega) (by rw [hc] at h2; omega)
theorem and1 (a : Int) : IntKind.wrap .i64 ((BitVec.ofInt 64 a &&& BitVec.ofInt 64 (1 : Int)).toNat : Int) = a % 2 := and_mask 1 (by omega) a
theorem and3 (a : Int) : IntKind.wrap .i64 ((BitVec.ofInt 64 a &&& BitVec.ofInt 64 (3 : Int)).toNat : Int) = a % 4 := and_mask 2 (by omega) a
theorem and7 (a : Int) : IntKind.wrap .i64 ((BitVec.ofInt 64 a &&& BitVec.ofInt 64 (7 : Int)).toNat : Int) = a % 8 := and_mask 3 (by omega) a
theorem and31 (a : Int) : IntKind.wrap .i64 ((BitVec.ofInt 64 a &&& BitVec.ofInt 64 (31 : Int)).toNat : Int) = a % 32 := and_mask 5 (by omega) a
theorem and255 (a : Int) : IntKind.wrap .i64 ((BitVec.ofInt 64 a &&& BitVec.ofInt 64 (255 : Int)).toNat : Int) = a % 256 := and_mask 8 (by omega) a
theorem and4095 (a : Int) : IntKind.wrap .i64 ((BitVec.ofInt 64 a &&& BitVec.ofInt 64 (4095 : Int)).toNat : Int) = a % 4096 := and_mask 12 (by omega) a
theorem and65535 (a : Int) : IntKind.wrap .i64 ((BitVec.ofInt 64 a &&& BitVec.ofInt 64 (65535 : Int)).toNat : Int) = a % 65536 := and_mask 16 (by omega) a
theorem and262143 (a : Int) : IntKind.wrap .i64 ((BitVec.ofInt 64 a &&& BitVec.ofInt 64 (262143 : Int)).toNat : Int) = a % 262144 := and_mask 18 (by omega) a
/-- parts that share no bit are added -/
theorem or_add (j : Nat) (a b : Int) (h0 : 0 ≤ b) (hb : b < 2 ^ j) (ha0 : 0 ≤ a) (ha : a % 2 ^ j = 0) (hs : a + b ≤ 9223372036854775807) : IntKind.wrap .i64 ((BitVec.ofInt 64 a ||| BitVec.ofInt 64 b).toNat : Int) = a + b := by
  rw [BitVec.toNat_or, BitVec.toNat_ofInt, BitVec.toNat_ofInt]
  have e1 : (a % ((2 ^ 64 : Nat) : Int)).toNat = a.toNat := by rw [Int.emod_eq_of_lt ha0 (by omega)]
  have e2 : (b % ((2 ^ 64 : Nat) : Int)).toNat = b.toNat := by rw [Int.emod_eq_of_lt h0 (by omega)]
  rw [e1, e2]
  have hc : ((2 : Int) ^ j) = ((2 ^ j : Nat) : Int) := by simp
  have hm : a.toNat % 2 ^ j = 0 := by
    rw [hc] at ha
    have : ((a.toNat % 2 ^ j : Nat) : Int) = 0 := by rw [Int.natCast_emod, Int.toNat_of_nonneg ha0]; exact ha
    exact Int.ofNat.inj this
  obtain ⟨c, hc'⟩ := Nat.dvd_of_mod_eq_zero hm
  have hlt : b.toNat < 2 ^ j := by rw [hc] at hb; omega
  have : a.toNat ||| b.toNat = a.toNat + b.toNat := by
    rw [hc', Nat.two_pow_add_eq_or_of_lt hlt]
  rw [this]
  rw [wrap_id (by omega) (by omega)]
  omega
theorem or_add' (j : Nat) (a b : Int) (h0 : 0 ≤ a) (ha : a < 2 ^ j) (hb0 : 0 ≤ b) (hb : b % 2 ^ j = 0) (hs : a + b ≤ 9223372036854775807) : IntKind.wrap .i64 ((BitVec.ofInt 64 a ||| BitVec.ofInt 64 b).toNat : Int) = a + b := by
  rw [BitVec.or_comm, or_add j b a h0 ha hb0 hb (by omega)]
  omega
theorem tdiv_nn {a : Int} (h : 0 ≤ a) (b : Int) : a.tdiv b = a / b := Int.tdiv_eq_ediv_of_nonneg h
theorem tmod_nn {a : Int} (h : 0 ≤ a) (b : Int) : a.tmod b = a % b := Int.tmod_eq_emod_of_nonneg h
theorem fdiv_pos (a : Int) {b : Int} (h : 0 ≤ b) : a.fdiv b = a / b := Int.fdiv_eq_ediv_of_nonneg a h
/-- Go's remainder, brought above zero -/
theorem tmod_up (x m : Int) (hm : 0 < m) : (x.tmod m < 0 ∧ x.tmod m + m = x % m) ∨ (0 ≤ x.tmod m ∧ x.tmod m = x % m) := by
  have h1 := Int.emod_nonneg x (show m ≠ 0 by omega)
  have h2 := Int.emod_lt_of_pos x hm
  rw [Int.tmod_eq_emod]
  split
  · right; simp; exact h1
  · left; omega
theorem mask_fix (a m : Int) (hm : 0 < m) : (a % m = a) ↔ (0 ≤ a ∧ a < m) := by
  constructor
  · intro h
    have h1 := Int.emod_nonneg a (show m ≠ 0 by omega)
    have h2 := Int.emod_lt_of_pos a hm
    omega
  · rintro ⟨h1, h2⟩
    exact Int.emod_eq_of_lt h1 h2
end Go.Ab
end
section
set_option linter.unusedSimpArgs false
namespace Go.Ab
theorem nat_and_up (a j k : Nat) : a &&& ((2 ^ j - 1) * 2 ^ k) = (a / 2 ^ k % 2 ^ j) * 2 ^ k := by
  apply Nat.eq_of_testBit_eq
  intro i
  rw [Nat.testBit_and, Nat.testBit_mul_two_pow, Nat.testBit_mul_two_pow, Nat.testBit_mod_two_pow, Nat.testBit_div_two_pow, Nat.testBit_two_pow_sub_one]
  by_cases h : k ≤ i
  · simp [h]
    rw [Bool.and_comm]
  · simp [h]
theorem bv_andNot (x y : BitVec 64) : x &&& ~~~y = x - (x &&& y) := by
  have h : (x &&& ~~~y) + (x &&& y) = x := by
    rw [BitVec.add_eq_or_of_and_eq_zero]
    · ext i hi
      simp
      cases x[i] <;> cases y[i] <;> rfl
    · ext i hi
      simp
      cases x[i] <;> cases y[i] <;> simp
  exact BitVec.eq_sub_iff_add_eq.2 h
/-- bits taken away -/
theorem andNot_sub (a b : Int) (h0 : 0 ≤ a) (h1 : a ≤ 9223372036854775807) : IntKind.wrap .i64 ((BitVec.ofInt 64 a &&& ~~~BitVec.ofInt 64 b).toNat : Int) = a - IntKind.wrap .i64 ((BitVec.ofInt 64 a &&& BitVec.ofInt 64 b).toNat : Int) := by
  rw [bv_andNot]
  have hle : BitVec.ofInt 64 a &&& BitVec.ofInt 64 b ≤ BitVec.ofInt 64 a := by
    rw [BitVec.le_def, BitVec.toNat_and]
    exact Nat.and_le_left
  rw [BitVec.toNat_sub_of_le hle]
  have ha : (BitVec.ofInt 64 a).toNat = a.toNat := by
    rw [BitVec.toNat_ofInt, Int.emod_eq_of_lt h0 (by omega)]
  have hle' := BitVec.le_def.1 hle
  rw [ha] at hle' ⊢
  rw [wrap_id (by omega) (by omega), wrap_id (by omega) (by omega)]
  omega
theorem andNot_mask (j : Nat) (hj : j ≤ 62) (a : Int) (h0 : 0 ≤ a) (h1 : a ≤ 9223372036854775807) : IntKind.wrap .i64 ((BitVec.ofInt 64 a &&& ~~~BitVec.ofInt 64 (2 ^ j - 1)).toNat : Int) = a - a % 2 ^ j := by
  rw [andNot_sub a _ h0 h1, and_mask j hj]
theorem andNot1 (a : Int) (h0 : 0 ≤ a) (h1 : a ≤ 9223372036854775807) : IntKind.wrap .i64 ((BitVec.ofInt 64 a &&& ~~~BitVec.ofInt 64 (1 : Int)).toNat : Int) = a - a % 2 := andNot_mask 1 (by omega) a h0 h1
theorem andNot255 (a : Int) (h0 : 0 ≤ a) (h1 : a ≤ 9223372036854775807) : IntKind.wrap .i64 ((BitVec.ofInt 64 a &&& ~~~BitVec.ofInt 64 (255 : Int)).toNat : Int) = a - a % 256 := andNot_mask 8 (by omega) a h0 h1
theorem andNot65535 (a : Int) (h0 : 0 ≤ a) (h1 : a ≤ 9223372036854775807) : IntKind.wrap .i64 ((BitVec.ofInt 64 a &&& ~~~BitVec.ofInt 64 (65535 : Int)).toNat : Int) = a - a % 65536 := andNot_mask 16 (by omega) a h0 h1
/-- a mask higher up -/
theorem and_up (j k : Nat) (hj : j + k ≤ 62) (a : Int) (h0 : 0 ≤ a) (h1 : a ≤ 9223372036854775807) : IntKind.wrap .i64 ((BitVec.ofInt 64 a &&& BitVec.ofInt 64 ((2 ^ j - 1) * 2 ^ k)).toNat : Int) = a / 2 ^ k % 2 ^ j * 2 ^ k := by
  have hp : (2 : Nat) ^ (j + k) ≤ 2 ^ 62 := Nat.pow_le_pow_right (by omega) hj
  have hpos : 0 < (2 : Nat) ^ j := Nat.pow_pos (by omega)
  have hposk : 0 < (2 : Nat) ^ k := Nat.pow_pos (by omega)
  have hc : ((2 : Int) ^ j - 1) * 2 ^ k = (((2 ^ j - 1) * 2 ^ k : Nat) : Int) := by
    rw [Int.natCast_mul, Int.natCast_sub (by omega)]
    simp
  have hlt : (2 ^ j - 1) * 2 ^ k < 2 ^ 62 := by
    have : (2 ^ j - 1) * 2 ^ k < 2 ^ j * 2 ^ k := Nat.mul_lt_mul_of_pos_right (by omega) hposk
    rw [← Nat.pow_add] at this
    omega
  rw [nat_and, hc, Int.emod_eq_of_lt h0 (by omega), Int.emod_eq_of_lt (by omega) (by omega), Int.toNat_natCast, nat_and_up]
  have e : (((a.toNat / 2 ^ k % 2 ^ j * 2 ^ k : Nat)) : Int) = a / 2 ^ k % 2 ^ j * 2 ^ k := by
    rw [Int.natCast_mul, Int.natCast_emod, Int.natCast_ediv, Int.toNat_of_nonneg h0]
    simp
  rw [e]
  have hm := Int.emod_nonneg (a / 2 ^ k) (show (2 : Int) ^ j ≠ 0 by have := Int.natCast_pos.2 hpos; simp at this; omega)
  apply wrap_id
  · rw [← e]; omega
  · rw [← e]
    have : a.toNat / 2 ^ k % 2 ^ j * 2 ^ k ≤ a.toNat / 2 ^ k * 2 ^ k := Nat.mul_le_mul_right _ (Nat.mod_le _ _)
    have h2 : a.toNat / 2 ^ k * 2 ^ k ≤ a.toNat := Nat.div_mul_le_self _ _
    omega
theorem and65280 (a : Int) (h0 : 0 ≤ a) (h1 : a ≤ 9223372036854775807) : IntKind.wrap .i64 ((BitVec.ofInt 64 a &&& BitVec.ofInt 64 (65280 : Int)).toNat : Int) = a / 256 % 256 * 256 := and_up 8 8 (by omega) a h0 h1
theorem andNot65280 (a : Int) (h0 : 0 ≤ a) (h1 : a ≤ 9223372036854775807) : IntKind.wrap .i64 ((BitVec.ofInt 64 a &&& ~~~BitVec.ofInt 64 (65280 : Int)).toNat : Int) = a - a / 256 % 256 * 256 := by
  rw [andNot_sub a _ h0 h1, and65280 a h0 h1]
end Go.Ab
end
section
set_option linter.unusedSimpArgs false
set_option linter.unusedVariables false
namespace Go.Proofs.Ytghgcaieciklbaa
open Go Go.Ab
theorem alive_true : law31_alive none = some true := lelaw31_alive 300 true (by kernel_rfl)
theorem wrap_succ {i n : Nat} (h : i < n) (hn : n ≤ 9223372036854775807) : IntKind.wrap .i64 ((i : Int) + 1) = ((i + 1 : Nat) : Int) := by rw [wrap_id] <;> omega
def SmI (x : Image) : Prop := x.text.length ≤ 34000 ∧ x.data.length ≤ 34000 ∧ x.symbols.length ≤ 300
theorem small_def (x : Image) : ∃ r, law31_small none x = some r ∧ (r = true → SmI x ∧ ∀ s ∈ x.symbols, s.name.length ≤ 100) := by
  simp only [law31_small, Tlaw31_small, Tree.run]
  by_cases h1 : (34000 : Int) < (x.text.length : Int)
  · exact ⟨false, by simp [h1], fun h => by cases h⟩
  by_cases h2 : (34000 : Int) < (x.data.length : Int)
  · exact ⟨false, by simp [h1, h2], fun h => by cases h⟩
  by_cases h3 : (300 : Int) < (x.symbols.length : Int)
  · exact ⟨false, by simp [h1, h2, h3], fun h => by cases h⟩
  have hs := lim_scan (f := fun s => (Wlaw31_small_0 s).run) (fun i : Nat => ⟨x.symbols, (x.symbols.length : Int), (i : Int)⟩) x.symbols.length (fun i => ∀ y, x.symbols[i]? = some y → y.name.length ≤ 100) (fun i => .inl false) (.inr ())
    (fun i hi hp => by
      have hp' := hp x.symbols[i] (List.getElem?_eq_getElem hi)
      have hp'' : ¬ (100 : Int) < (x.symbols[i].name.length : Int) := by omega
      simp [Wlaw31_small_0, Tree.run, hi, hp'', wrap_succ hi (show x.symbols.length ≤ 9223372036854775807 by omega)])
    (fun i hi hp => by
      have hp'' : (100 : Int) < (x.symbols[i].name.length : Int) := by
        rcases Int.lt_or_le 100 (x.symbols[i].name.length : Int) with h | h
        · exact h
        · exact absurd (fun y hy => by rw [List.getElem?_eq_getElem hi] at hy; rw [← Option.some.inj hy]; omega) hp
      simp [Wlaw31_small_0, Tree.run, hi, hp''])
    (by simp [Wlaw31_small_0, Tree.run])
  rcases hs with ⟨q1, q2⟩ | ⟨i, hi, q1, q2⟩
  · have q2' : Llaw31_small_0 none ⟨x.symbols, (x.symbols.length : Int), (0 : Int)⟩ = some (.inr ()) := q2
    refine ⟨true, by simp [h1, h2, h3, q2'], fun _ => ⟨⟨by omega, by omega, by omega⟩, fun s hs => ?_⟩⟩
    obtain ⟨i, hi, he⟩ := List.mem_iff_getElem.1 hs
    exact q1 i hi s (by rw [List.getElem?_eq_getElem hi, he])
  · have q2' : Llaw31_small_0 none ⟨x.symbols, (x.symbols.length : Int), (0 : Int)⟩ = some (.inl false) := q2
    exact ⟨false, by simp [h1, h2, h3, q2'], fun h => by cases h⟩
end Go.Proofs.Ytghgcaieciklbaa
end
section
set_option linter.unusedSimpArgs false
set_option linter.unusedVariables false
namespace Go.Proofs.Ytghgcaieciklbaa
open Go Go.Ab
def OkCh (y : Int) : Prop := 97 ≤ y ∧ y ≤ 122 ∨ 65 ≤ y ∧ y ≤ 90 ∨ 48 ≤ y ∧ y ≤ 57 ∨ y = 95 ∨ y = 46 ∨ y = 36
instance (y) : Decidable (OkCh y) := by unfold OkCh; infer_instance
theorem idx_iff (b : UInt8) : ∃ r, strings_IndexByte ([95, 46, 36] : List UInt8) (b.toNat : Int) = some r ∧ (0 ≤ r ↔ (b.toNat : Int) = 95 ∨ (b.toNat : Int) = 46 ∨ (b.toNat : Int) = 36) := by
  refine ⟨_, rfl, ?_⟩
  have hb : ((b.toNat : Int).toNat).toUInt8 = b := by simp
  rw [hb]
  have : ∀ n : Fin 256, (0 ≤ Lib.indexByte [95, 46, 36] (UInt8.ofNat n.val) ↔ ((UInt8.ofNat n.val).toNat : Int) = 95 ∨ ((UInt8.ofNat n.val).toNat : Int) = 46 ∨ ((UInt8.ofNat n.val).toNat : Int) = 36) := by decide +kernel
  have h2 := this ⟨b.toNat, b.toNat_lt⟩
  simpa using h2
set_option maxHeartbeats 2000000 in
theorem image_ch (s : List UInt8) (i : Nat) (hl : s.length ≤ 100000) (hi : i < s.length) :
    (Wimage_isName_0 ⟨s.map (fun b => (b.toNat : Int)), ((s.map fun b => (b.toNat : Int)).length : Int), (i : Int)⟩).run = some (if OkCh (s[i].toNat : Int) then .inl ⟨s.map (fun b => (b.toNat : Int)), ((s.map fun b => (b.toNat : Int)).length : Int), ((i + 1 : Nat) : Int)⟩ else .inr (.inl false)) := by
  obtain ⟨r, hr, hri⟩ := idx_iff s[i]
  have hi' : (i : Int) < ((s.map fun b => (b.toNat : Int)).length : Int) := by rw [List.length_map]; omega
  have h0 : (0 : Int) ≤ (i : Int) := by omega
  have hg : (s.map fun b => (b.toNat : Int))[i]? = some (s[i].toNat : Int) := by rw [List.getElem?_map, List.getElem?_eq_getElem hi]; rfl
  simp only [Wimage_isName_0, Tree.run, hi', h0, decide_true, if_true, Int.toNat_natCast, hg, Option.bind_some, hr, wrap_succ hi (show s.length ≤ 9223372036854775807 by omega), decide_eq_true_eq, Bool.not_eq_true', decide_eq_false_iff_not, hri]
  generalize (s[i].toNat : Int) = y
  by_cases hk : OkCh y
  · rw [if_pos hk]
    unfold OkCh at hk
    repeat' split
    all_goals first | rfl | (exfalso; omega)
  · rw [if_neg hk]
    unfold OkCh at hk
    repeat' split
    all_goals first | rfl | (exfalso; omega)
set_option maxHeartbeats 2000000 in
theorem ref_ch (s : List UInt8) (i : Nat) (hl : s.length ≤ 100000) (hi : i < s.length) :
    (Wref28_IsName_0 ⟨s, (i : Int)⟩).run = some (if OkCh (s[i].toNat : Int) then .inl ⟨s, ((i + 1 : Nat) : Int)⟩ else .inr (.inl false)) := by
  have hi' : (i : Int) < (s.length : Int) := by omega
  have h0 : (0 : Int) ≤ (i : Int) := by omega
  simp only [Wref28_IsName_0, Tree.run, hi', h0, decide_true, if_true, Int.toNat_natCast, List.getElem?_eq_getElem hi, Option.bind_some, wrap_succ hi (show s.length ≤ 9223372036854775807 by omega), decide_eq_true_eq, Bool.not_eq_true', decide_eq_false_iff_not]
  generalize (s[i].toNat : Int) = y
  by_cases hk : OkCh y
  · rw [if_pos hk]
    unfold OkCh at hk
    repeat' split
    all_goals first | rfl | (exfalso; omega)
  · rw [if_neg hk]
    unfold OkCh at hk
    repeat' split
    all_goals first | rfl | (exfalso; omega)
theorem names_loop (s : List UInt8) (hl : s.length ≤ 100000) : ∃ r, Limage_isName_0 none ⟨s.map (fun b => (b.toNat : Int)), ((s.map fun b => (b.toNat : Int)).length : Int), (0 : Int)⟩ = some r ∧ Lref28_IsName_0 none ⟨s, (0 : Int)⟩ = some r := by
  obtain ⟨r, hr, _⟩ := lim_rule (f := fun t => (Wimage_isName_0 t).run) (fun t => ∃ i : Nat, i ≤ s.length ∧ t = ⟨s.map (fun b => (b.toNat : Int)), ((s.map fun b => (b.toNat : Int)).length : Int), (i : Int)⟩) (fun _ => True) (fun t => s.length - t.t25.toNat)
    (by
      rintro t ⟨i, hi, rfl⟩
      by_cases hlt : i < s.length
      · have h1 := image_ch s i hl hlt
        by_cases hc : OkCh (s[i].toNat : Int)
        · rw [if_pos hc] at h1
          exact .inr ⟨_, h1, ⟨i + 1, hlt, rfl⟩, by simp; omega⟩
        · rw [if_neg hc] at h1
          exact .inl ⟨_, h1, trivial⟩
      · have : i = s.length := by omega
        subst this
        exact .inl ⟨.inr (), by simp [Wimage_isName_0, Tree.run], trivial⟩)
    ⟨s.map (fun b => (b.toNat : Int)), ((s.map fun b => (b.toNat : Int)).length : Int), (0 : Int)⟩ ⟨0, Nat.zero_le _, rfl⟩
  obtain ⟨r', hr', e⟩ := lim_rel (f := fun t => (Wimage_isName_0 t).run) (g := fun t => (Wref28_IsName_0 t).run) (fun t u => ∃ i : Nat, i ≤ s.length ∧ t = ⟨s.map (fun b => (b.toNat : Int)), ((s.map fun b => (b.toNat : Int)).length : Int), (i : Int)⟩ ∧ u = ⟨s, (i : Int)⟩) (fun a b => a = b)
    (by
      rintro t u ⟨i, hi, rfl, rfl⟩
      by_cases hlt : i < s.length
      · have h1 := image_ch s i hl hlt
        have h2 := ref_ch s i hl hlt
        by_cases hc : OkCh (s[i].toNat : Int)
        · rw [if_pos hc] at h1 h2
          exact .inr (.inl ⟨_, _, h1, h2, i + 1, hlt, rfl, rfl⟩)
        · rw [if_neg hc] at h1 h2
          exact .inl ⟨_, _, h1, h2, rfl⟩
      · have : i = s.length := by omega
        subst this
        exact .inl ⟨.inr (), .inr (), by simp [Wimage_isName_0, Tree.run], by simp [Wref28_IsName_0, Tree.run], rfl⟩)
    (a := ⟨s.map (fun b => (b.toNat : Int)), ((s.map fun b => (b.toNat : Int)).length : Int), (0 : Int)⟩) (a' := ⟨s, (0 : Int)⟩) ⟨0, Nat.zero_le _, rfl, rfl⟩ hr
  subst e
  exact ⟨r, hr, hr'⟩
theorem isName_eq (s : List UInt8) : ∃ b, image_isName none s = some b ∧ ref28_IsName none s = some b := by
  simp only [image_isName, Timage_isName, ref28_IsName, Tref28_IsName, Tree.run]
  by_cases h1 : s = []
  · exact ⟨false, by simp [h1], by simp [h1]⟩
  by_cases h2 : (14 : Int) < (s.length : Int)
  · exact ⟨false, by simp [h1, h2], by simp [h1, h2]⟩
  have hp : 0 < s.length := by cases s with | nil => exact absurd rfl h1 | cons => simp
  have hg : s[0]? = some s[0] := List.getElem?_eq_getElem hp
  obtain ⟨r, e1, e2⟩ := names_loop s (by omega)
  simp only [h1, h2, decide_false, Bool.false_eq_true, if_false, show (0 : Int) ≤ 0 by omega, decide_true, if_true, show ((0 : Int)).toNat = 0 by rfl, hg, Option.bind_some, e1, e2]
  cases r with
  | inl b =>
    simp only [Sum.isLeft_inl, if_true, Sum.getLeft?_inl, Option.bind_some]
    split
    · split
      · exact ⟨_, rfl, rfl⟩
      · exact ⟨_, rfl, rfl⟩
    · exact ⟨_, rfl, rfl⟩
  | inr u =>
    simp only [Sum.isLeft_inr, Bool.false_eq_true, if_false, Sum.getRight?_inr, Option.bind_some]
    split
    · split
      · exact ⟨_, rfl, rfl⟩
      · exact ⟨_, rfl, rfl⟩
    · exact ⟨_, rfl, rfl⟩
theorem even_def (n : Int) (h0 : 0 ≤ n) (h1 : n ≤ 100000) : image_even n = some (n + n % 2) ∧ ref31_even n = some (n + n % 2) := by
  have e : n.tmod 2 = n % 2 := tmod_nn h0 _
  have w : IntKind.wrap .i64 (n + n % 2) = n + n % 2 := wrap_id (by omega) (by omega)
  exact ⟨by simp only [image_even, Timage_even, Tree.run, and1, w], by simp only [ref31_even, Tref31_even, Tree.run, e, w, show ¬ (2 : Int) = 0 by omega, decide_false, Bool.false_eq_true, if_false]⟩
def clampB (x : Image) : Int := if x.bss < 0 then 0 else if 32768 < x.bss then 32768 else x.bss
theorem clamp_in (x : Image) : 0 ≤ clampB x ∧ clampB x ≤ 32768 := by
  unfold clampB
  split
  · omega
  · split <;> omega
def sizeI (x : Image) : Int := (x.text.length : Int) + ((x.data.length : Int) + (x.data.length : Int) % 2) + (clampB x + clampB x % 2)
theorem Size_def (x : Image) (h : SmI x) : image_Size x = some (sizeI x) ∧ ref31_Size x = some (sizeI x) := by
  obtain ⟨h1, h2, h3⟩ := h
  have hc := clamp_in x
  have w1 : IntKind.wrap .i64 ((x.text.length : Int) + ((x.data.length : Int) + (x.data.length : Int) % 2)) = (x.text.length : Int) + ((x.data.length : Int) + (x.data.length : Int) % 2) := wrap_id (by omega) (by omega)
  have w2 : IntKind.wrap .i64 ((x.text.length : Int) + ((x.data.length : Int) + (x.data.length : Int) % 2) + (clampB x + clampB x % 2)) = sizeI x := wrap_id (by omega) (by omega)
  have e1 := even_def (x.data.length : Int) (by omega) (by omega)
  have e2 := even_def (clampB x) hc.1 (by omega)
  constructor
  · have hcl : (if (32768 : Int) < (if (0 : Int) > x.bss then (0 : Int) else x.bss) then (32768 : Int) else (if (0 : Int) > x.bss then (0 : Int) else x.bss)) = clampB x := by
      unfold clampB
      by_cases q1 : x.bss < 0
      · simp [q1]
      · have : ¬ (0 : Int) > x.bss := by omega
        simp [q1, this]
    simp only [image_Size, Timage_Size, Tree.run, hcl, e1.1, e2.1, Option.bind_some, w1, w2]
  · have e1' := e1.2
    have e2' := e2.2
    simp only [ref31_Size, Tref31_Size, Tree.run]
    unfold clampB at e2' w2
    by_cases q1 : x.bss < 0
    · simp only [q1, if_true] at e2' w2
      simp only [q1, decide_true, if_true, show ¬ (32768 : Int) < 0 by omega, decide_false, Bool.false_eq_true, if_false, e1', e2', Option.bind_some, w1, w2]
    · simp only [q1, if_false] at e2' w2
      by_cases q2 : 32768 < x.bss
      · simp only [q2, if_true] at e2' w2
        simp only [q1, q2, decide_true, if_true, decide_false, Bool.false_eq_true, if_false, e1', e2', Option.bind_some, w1, w2]
      · simp only [q2, if_false] at e2' w2
        simp only [q1, q2, decide_false, Bool.false_eq_true, if_false, e1', e2', Option.bind_some, w1, w2]
end Go.Proofs.Ytghgcaieciklbaa
end
section
set_option linter.unusedSimpArgs false
set_option linter.unusedVariables false
namespace Go.Proofs.Ytghgcaieciklbaa
open Go Go.Ab
theorem word_iff (v : Int) : v % 65536 = v ↔ 0 ≤ v ∧ v ≤ 65535 := by omega
theorem check_step (x : Image) (i : Nat) (hl : x.symbols.length ≤ 1000) (hi : i < x.symbols.length) :
    (∃ e, (Wimage_Check_0 none ⟨x.symbols, (x.symbols.length : Int), (i : Int)⟩).run = some (.inr (.inl e)) ∧ (Wref31_Check_0 none ⟨(i : Int), x⟩).run = some (.inr (.inl e)) ∧ e ≠ 0) ∨
    (Wimage_Check_0 none ⟨x.symbols, (x.symbols.length : Int), (i : Int)⟩).run = some (.inl ⟨x.symbols, (x.symbols.length : Int), ((i + 1 : Nat) : Int)⟩) ∧ (Wref31_Check_0 none ⟨(i : Int), x⟩).run = some (.inl ⟨((i + 1 : Nat) : Int), x⟩) := by
  obtain ⟨b, e1, e2⟩ := isName_eq x.symbols[i].name
  have hi' : (i : Int) < (x.symbols.length : Int) := by omega
  have h0 : (0 : Int) ≤ (i : Int) := by omega
  have w := wrap_succ hi (show x.symbols.length ≤ 9223372036854775807 by omega)
  simp only [Wimage_Check_0, Wref31_Check_0, Tree.run, hi', h0, decide_true, if_true, Int.toNat_natCast, List.getElem?_eq_getElem hi, Option.bind_some, e1, e2, w, and65535, word_iff]
  cases b with
  | false => exact .inl ⟨4, rfl, rfl, by omega⟩
  | true =>
    simp only [Bool.not_true, Bool.false_eq_true, if_false]
    by_cases c1 : x.symbols[i].section_ < 0
    · simp only [c1, decide_true, if_true]; exact .inl ⟨2, rfl, rfl, by omega⟩
    by_cases c2 : 3 < x.symbols[i].section_
    · simp only [c1, c2, decide_true, decide_false, Bool.false_eq_true, if_false, if_true]; exact .inl ⟨2, rfl, rfl, by omega⟩
    simp only [c1, c2, decide_false, Bool.false_eq_true, if_false]
    by_cases c3 : x.symbols[i].value < 0
    · have : ¬ (0 ≤ x.symbols[i].value ∧ x.symbols[i].value ≤ 65535) := by omega
      simp only [c3, this, decide_true, decide_false, Bool.not_false, if_true]; exact .inl ⟨2, rfl, rfl, by omega⟩
    by_cases c4 : 65535 < x.symbols[i].value
    · have : ¬ (0 ≤ x.symbols[i].value ∧ x.symbols[i].value ≤ 65535) := by omega
      simp only [c3, c4, this, decide_true, decide_false, Bool.not_false, if_true, Bool.false_eq_true, if_false]; exact .inl ⟨2, rfl, rfl, by omega⟩
    have : 0 ≤ x.symbols[i].value ∧ x.symbols[i].value ≤ 65535 := by omega
    simp only [c3, c4, this, and_self, decide_true, decide_false, Bool.not_true, Bool.false_eq_true, if_false]
    first | exact .inr ⟨rfl, rfl⟩ | exact .inr trivial
theorem check_loop (x : Image) (hl : x.symbols.length ≤ 1000) : ∃ r, Limage_Check_0 none ⟨x.symbols, (x.symbols.length : Int), (0 : Int)⟩ = some r ∧ Lref31_Check_0 none ⟨(0 : Int), x⟩ = some r ∧ (r = .inr () ∨ ∃ e, r = .inl e ∧ e ≠ 0) := by
  obtain ⟨r, hr, hq⟩ := lim_rule (f := fun t => (Wimage_Check_0 none t).run) (fun t => ∃ i : Nat, i ≤ x.symbols.length ∧ t = ⟨x.symbols, (x.symbols.length : Int), (i : Int)⟩) (fun r => r = .inr () ∨ ∃ e, r = .inl e ∧ e ≠ 0) (fun t => x.symbols.length - t.t48.toNat)
    (by
      rintro t ⟨i, hi, rfl⟩
      by_cases hlt : i < x.symbols.length
      · rcases check_step x i hl hlt with ⟨e, h1, _, he⟩ | ⟨h1, _⟩
        · exact .inl ⟨_, h1, .inr ⟨e, rfl, he⟩⟩
        · exact .inr ⟨_, h1, ⟨i + 1, hlt, rfl⟩, by simp; omega⟩
      · have : i = x.symbols.length := by omega
        subst this
        exact .inl ⟨.inr (), by simp [Wimage_Check_0, Tree.run], .inl rfl⟩)
    ⟨x.symbols, (x.symbols.length : Int), (0 : Int)⟩ ⟨0, Nat.zero_le _, rfl⟩
  obtain ⟨r', hr', e⟩ := lim_rel (f := fun t => (Wimage_Check_0 none t).run) (g := fun t => (Wref31_Check_0 none t).run) (fun t u => ∃ i : Nat, i ≤ x.symbols.length ∧ t = ⟨x.symbols, (x.symbols.length : Int), (i : Int)⟩ ∧ u = ⟨(i : Int), x⟩) (fun a b => a = b)
    (by
      rintro t u ⟨i, hi, rfl, rfl⟩
      by_cases hlt : i < x.symbols.length
      · rcases check_step x i hl hlt with ⟨e, h1, h2, _⟩ | ⟨h1, h2⟩
        · exact .inl ⟨_, _, h1, h2, rfl⟩
        · exact .inr (.inl ⟨_, _, h1, h2, i + 1, hlt, rfl, rfl⟩)
      · have : i = x.symbols.length := by omega
        subst this
        exact .inl ⟨.inr (), .inr (), by simp [Wimage_Check_0, Tree.run], by simp [Wref31_Check_0, Tree.run], rfl⟩)
    (a := ⟨x.symbols, (x.symbols.length : Int), (0 : Int)⟩) (a' := ⟨(0 : Int), x⟩) ⟨0, Nat.zero_le _, rfl, rfl⟩ hr
  subst e
  exact ⟨r, hr, hr', hq⟩
/-- an image without an error -/
structure Fine (x : Image) : Prop where
  text : x.text.length % 2 = 0
  size : sizeI x ≤ 32512
  syms : x.symbols.length ≤ 256
  bss : 0 ≤ x.bss
  entry : 0 ≤ x.entry
theorem Check_eq (x : Image) (h : SmI x) : ∃ e, image_Check none x = some e ∧ ref31_Check none x = some e ∧ (e = 0 → Fine x) := by
  obtain ⟨s1, s2⟩ := Size_def x h
  obtain ⟨h1, h2, h3⟩ := id h
  obtain ⟨r, l1, l2, hq⟩ := check_loop x (by omega)
  have t1 : ((x.text.length : Int)).tmod 2 = (x.text.length : Int) % 2 := tmod_nn (by omega) _
  simp only [image_Check, Timage_Check, ref31_Check, Tref31_Check, Tree.run, show ¬ (2 : Int) = 0 by omega, decide_false, Bool.false_eq_true, if_false, t1, s1, s2, l1, l2, Option.bind_some]
  by_cases c1 : (x.text.length : Int) % 2 = 0
  · by_cases c2 : 32512 < sizeI x
    · exact ⟨7, by simp [c1, c2], by simp [c1, c2], fun h => by omega⟩
    by_cases c3 : (256 : Int) < (x.symbols.length : Int)
    · exact ⟨7, by simp [c1, c2, c3], by simp [c1, c2, c3], fun h => by omega⟩
    by_cases c4 : x.bss < 0
    · exact ⟨2, by simp [c1, c2, c3, c4], by simp [c1, c2, c3, c4], fun h => by omega⟩
    by_cases c5 : x.entry < 0
    · exact ⟨2, by simp [c1, c2, c3, c4, c5], by simp [c1, c2, c3, c4, c5], fun h => by omega⟩
    have t2 : x.entry.tmod 2 = x.entry % 2 := tmod_nn (by omega) _
    by_cases c6 : x.entry % 2 = 0
    · have hF : Fine x := ⟨by omega, by omega, by omega, by omega, by omega⟩
      simp only [c1, c2, c3, c4, c5, t2, c6, decide_true, decide_false, Bool.not_true, Bool.false_eq_true, if_false]
      have key : ∃ e, (if r.isLeft = true then (r.getLeft?).bind (fun a => some a) else (r.getRight?).bind (fun _ => some (0 : Int))) = some e ∧ (e = 0 → Fine x) := by
        rcases hq with rfl | ⟨e, rfl, he⟩
        · exact ⟨0, rfl, fun _ => hF⟩
        · exact ⟨e, rfl, fun _ => hF⟩
      obtain ⟨e, hk, hke⟩ := key
      by_cases c7 : (x.text.length : Int) ≤ x.entry
      · by_cases c8 : x.entry = 0
        · have c9 : x.text = [] := List.length_eq_zero_iff.1 (by omega)
          have c10 : ¬ (if (1 : Int) > (x.text.length : Int) then (1 : Int) else (x.text.length : Int)) ≤ x.entry := by
            rw [c9]; simp [c8]
          simp only [c7, c8, c9, c10, decide_true, decide_false, Bool.not_true, Bool.false_eq_true, if_false, if_true]
          simp only [c8, c9] at c10
          simp only [c10, decide_false, Bool.false_eq_true, if_false]
          exact ⟨e, hk, hk, hke⟩
        · have c10 : (if (1 : Int) > (x.text.length : Int) then (1 : Int) else (x.text.length : Int)) ≤ x.entry := by
            split <;> omega
          simp only [c7, c8, c10, decide_true, decide_false, Bool.not_false, if_true]
          exact ⟨2, rfl, rfl, fun h => by omega⟩
      · have c10 : ¬ (if (1 : Int) > (x.text.length : Int) then (1 : Int) else (x.text.length : Int)) ≤ x.entry := by
          split <;> omega
        simp only [c7, c10, decide_false, Bool.false_eq_true, if_false]
        exact ⟨e, hk, hk, hke⟩
    · exact ⟨2, by simp [c1, c2, c3, c4, c5, t2, c6], by simp [c1, c2, c3, c4, c5, t2, c6], fun h => by omega⟩
  · exact ⟨1, by simp [c1], by simp [c1], fun h => by omega⟩
end Go.Proofs.Ytghgcaieciklbaa
end
section
set_option linter.unusedSimpArgs false
set_option linter.unusedVariables false
namespace Go.Proofs.Ytghgcaieciklbaa
open Go Go.Ab
theorem pf_law31_ImageChecks (x : Image × Unit) (h : Glaw31_ImageChecks x) : law31_ImageChecks none x.1 = some true := by
  obtain ⟨x, u⟩ := x
  obtain ⟨r, hr, hs⟩ := small_def x
  simp only [law31_ImageChecks, Tlaw31_ImageChecks, Tree.run, hr, Option.bind_some, alive_true]
  cases r with
  | false => rfl
  | true =>
    obtain ⟨hS, _⟩ := hs rfl
    obtain ⟨e, e1, e2, _⟩ := Check_eq x hS
    obtain ⟨e3, e4⟩ := Size_def x hS
    simp [e1, e2, e3, e4]
end Go.Proofs.Ytghgcaieciklbaa
end
