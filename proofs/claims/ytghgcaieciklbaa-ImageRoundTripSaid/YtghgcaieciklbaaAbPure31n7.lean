/- The law ImageRoundTrip holds of the typed functions. -/
import Derived.Test.YtghgcaieciklbaaAbLim
import Derived.Laws.BitsLemmas
import Derived.Test.YtghgcaieciklbaaAb31
import Derived.Test.YtghgcaieciklbaaAbRd31
section
set_option linter.unusedSimpArgs false
namespace Go.Ab
variable {α β : Type}
/-- A loop that looks through numbers for the first that is not good. -/
theorem lim_scan1 {f : α → Option (α ⊕ β)} (s : Nat → α) (n : Nat) (p : Nat → Prop) (bad : Nat → β) (e : β) (h : ∀ i, i < n → p i → f (s i) = some (.inl (s (i + 1)))) (hb : ∀ i, i < n → ¬ p i → f (s i) = some (.inr (bad i))) (he : f (s n) = some (.inr e)) :
    ((∀ i, i < n → p i) ∧ lim f (s 0) = some e) ∨ ∃ i, i < n ∧ (∀ j, j < i → p j) ∧ ¬ p i ∧ lim f (s 0) = some (bad i) := by
  have key : ∀ k, k ≤ n → ((∀ i, n - k ≤ i → i < n → p i) ∧ lim f (s (n - k)) = some e) ∨ ∃ i, n - k ≤ i ∧ i < n ∧ (∀ j, n - k ≤ j → j < i → p j) ∧ ¬ p i ∧ lim f (s (n - k)) = some (bad i) := by
    intro k
    induction k with
    | zero => intro _; exact .inl ⟨fun i h1 h2 => by omega, lim_done he⟩
    | succ k ih =>
      intro hk
      by_cases hp : p (n - (k + 1))
      · have hn := lim_next (h (n - (k + 1)) (by omega) hp)
        rw [show n - (k + 1) + 1 = n - k by omega] at hn
        have hj : ∀ j, n - (k + 1) ≤ j → ¬ n - k ≤ j → p j := fun j h1 h2 => by rw [show j = n - (k + 1) by omega]; exact hp
        rcases ih (by omega) with ⟨h1, h2⟩ | ⟨i, h0, h1, h2, h3, h4⟩
        · refine .inl ⟨fun i hi hlt => ?_, by rw [hn]; exact h2⟩
          by_cases h' : n - k ≤ i
          · exact h1 i h' hlt
          · exact hj i hi h'
        · refine .inr ⟨i, by omega, h1, fun j hj1 hj2 => ?_, h3, by rw [hn]; exact h4⟩
          by_cases h' : n - k ≤ j
          · exact h2 j h' hj2
          · exact hj j hj1 h'
      · exact .inr ⟨n - (k + 1), Nat.le_refl _, by omega, fun j h1 h2 => by omega, hp, lim_done (hb _ (by omega) hp)⟩
  rcases key n (Nat.le_refl n) with ⟨h1, h2⟩ | ⟨i, h0, h1, h2, h3, h4⟩
  · rw [Nat.sub_self] at h2; exact .inl ⟨fun i hi => h1 i (by omega) hi, h2⟩
  · rw [Nat.sub_self] at h4; exact .inr ⟨i, h1, fun j hj => h2 j (by omega) hj, h3, h4⟩
theorem take_one_more {α : Type} {l : List α} {i : Nat} (hi : i < l.length) : l.take (i + 1) = l.take i ++ [l[i]] := by
  rw [List.take_add_one, List.getElem?_eq_getElem hi]; rfl
end Go.Ab
end
section
set_option linter.unusedSimpArgs false
namespace Go.Ab
theorem wrap_id {n : Int} (h1 : -9223372036854775808 ≤ n) (h2 : n ≤ 9223372036854775807) : IntKind.wrap .i64 n = n := by
  rw [IntKind.wrap_i64]; omega
theorem nat_and (a b : Int) : ((BitVec.ofInt 64 a &&& BitVec.ofInt 64 b).toNat : Int) = (((a % 18446744073709551616).toNat &&& (b % 18446744073709551616).toNat : Nat) : Int) := by
  rw [BitVec.toNat_and, BitVec.toNat_ofInt, BitVec.toNat_ofInt]
  rfl
/-- a mask of the lowest bits -/
theorem and_mask (j : Nat) (hj : j ≤ 62) (a : Int) : IntKind.wrap .i64 ((BitVec.ofInt 64 a &&& BitVec.ofInt 64 (2 ^ j - 1)).toNat : Int) = a % 2 ^ j := by
  have hp : (2 : Nat) ^ j ≤ 2 ^ 62 := Nat.pow_le_pow_right (by omega) hj
  have hc : ((2 : Int) ^ j) = ((2 ^ j : Nat) : Int) := by simp
  have h0 : 0 < (2 : Nat) ^ j := Nat.pow_pos (by omega)
  have hd : (2 : Nat) ^ j ∣ 18446744073709551616 := by
    have : (18446744073709551616 : Nat) = 2 ^ 64 := rfl
    rw [this]
    exact Nat.pow_dvd_pow 2 (by omega)
  rw [nat_and]
  have e1 : (((2 : Int) ^ j - 1) % 18446744073709551616).toNat = 2 ^ j - 1 := by
    rw [hc, Int.emod_eq_of_lt (by omega) (by omega)]
    omega
  rw [e1, Nat.and_two_pow_sub_one_eq_mod]
  have e2 : ((a % 18446744073709551616).toNat % 2 ^ j : Nat) = (a % 2 ^ j).toNat := by
    have hn : 0 ≤ a % 18446744073709551616 := Int.emod_nonneg _ (by omega)
    have : (((a % 18446744073709551616).toNat % 2 ^ j : Nat) : Int) = a % 2 ^ j := by
      rw [Int.natCast_emod, Int.toNat_of_nonneg hn, hc]
      exact Int.emod_emod_of_dvd a (Int.natCast_dvd_natCast.2 hd)
    omega
  rw [e2]
  have h1 : 0 ≤ a % 2 ^ j := Int.emod_nonneg _ (by rw [hc]; omega)
  have h2 : a % 2 ^ j < 2 ^ j := Int.emod_lt_of_pos _ (by rw [hc]; omega)
  rw [Int.toNat_of_nonneg h1]
  exact wrap_id (by omega) (by rw [hc] at h2; omega)
theorem and1 (a : Int) : IntKind.wrap .i64 ((BitVec.ofInt 64 a &&& BitVec.ofInt 64 (1 : Int)).toNat : Int) = a % 2 := and_mask 1 (by omega) a
theorem and3 (a : Int) : IntKind.wrap .i64 ((BitVec.ofInt 64 a &&& BitVec.ofInt 64 (3 : Int)).toNat : Int) = a % 4 := and_mask 2 (by omega) a
theorem and7 (a : Int) : IntKind.wrap .i64 ((BitVec.ofInt 64 a &&& BitVec.ofInt 64 (7 : Int)).toNat : Int) = a % 8 := and_mask 3 (by omega) a
theorem and31 (a : Int) : IntKind.wrap .i64 ((BitVec.ofInt 64 a &&& BitVec.ofInt 64 (31 : Int)).toNat : Int) = a % 32 := and_mask 5 (by omega) a
theorem and255 (a : Int) : IntKind.wrap .i64 ((BitVec.ofInt 64 a &&& BitVec.ofInt 64 (255 : Int)).toNat : Int) = a % 256 := and_mask 8 (by omega) a
theorem and4095 (a : Int) : IntKind.wrap .i64 ((BitVec.ofInt 64 a &&& BitVec.ofInt 64 (4095 : Int)).toNat : Int) = a % 4096 := and_mask 12 (by omega) a
theorem and65535 (a : Int) : IntKind.wrap .i64 ((BitVec.ofInt 64 a &&& BitVec.ofInt 64 (65535 : Int)).toNat : Int) = a % 65536 := and_mask 16 (by omega) a
theorem and262143 (a : Int) : IntKind.wrap .i64 ((BitVec.ofInt 64 a &&& BitVec.ofInt 64 (262143 : Int)).toNat : Int) = a % 262144 := and_mask 18 (by omega) a
/-- parts that share no bit are added -/
theorem or_add (j : Nat) (a b : Int) (h0 : 0 ≤ b) (hb : b < 2 ^ j) (ha0 : 0 ≤ a) (ha : a % 2 ^ j = 0) (hs : a + b ≤ 9223372036854775807) : IntKind.wrap .i64 ((BitVec.ofInt 64 a ||| BitVec.ofInt 64 b).toNat : Int) = a + b := by
  rw [BitVec.toNat_or, BitVec.toNat_ofInt, BitVec.toNat_ofInt]
  have e1 : (a % ((2 ^ 64 : Nat) : Int)).toNat = a.toNat := by rw [Int.emod_eq_of_lt ha0 (by omega)]
  have e2 : (b % ((2 ^ 64 : Nat) : Int)).toNat = b.toNat := by rw [Int.emod_eq_of_lt h0 (by omega)]
  rw [e1, e2]
  have hc : ((2 : Int) ^ j) = ((2 ^ j : Nat) : Int) := by simp
  have hm : a.toNat % 2 ^ j = 0 := by
    rw [hc] at ha
    have : ((a.toNat % 2 ^ j : Nat) : Int) = 0 := by rw [Int.natCast_emod, Int.toNat_of_nonneg ha0]; exact ha
    exact Int.ofNat.inj this
  obtain ⟨c, hc'⟩ := Nat.dvd_of_mod_eq_zero hm
  have hlt : b.toNat < 2 ^ j := by rw [hc] at hb; omega
  have : a.toNat ||| b.toNat = a.toNat + b.toNat := by
    rw [hc', Nat.two_pow_add_eq_or_of_lt hlt]
  rw [this]
  rw [wrap_id (by omega) (by omega)]
  omega
theorem or_add' (j : Nat) (a b : Int) (h0 : 0 ≤ a) (ha : a < 2 ^ j) (hb0 : 0 ≤ b) (hb : b % 2 ^ j = 0) (hs : a + b ≤ 9223372036854775807) : IntKind.wrap .i64 ((BitVec.ofInt 64 a ||| BitVec.ofInt 64 b).toNat : Int) = a + b := by
  rw [BitVec.or_comm, or_add j b a h0 ha hb0 hb (by omega)]
  omega
theorem tdiv_nn {a : Int} (h : 0 ≤ a) (b : Int) : a.tdiv b = a / b := Int.tdiv_eq_ediv_of_nonneg h
theorem tmod_nn {a : Int} (h : 0 ≤ a) (b : Int) : a.tmod b = a % b := Int.tmod_eq_emod_of_nonneg h
theorem fdiv_pos (a : Int) {b : Int} (h : 0 ≤ b) : a.fdiv b = a / b := Int.fdiv_eq_ediv_of_nonneg a h
/-- Go's remainder, brought above zero -/
theorem tmod_up (x m : Int) (hm : 0 < m) : (x.tmod m < 0 ∧ x.tmod m + m = x % m) ∨ (0 ≤ x.tmod m ∧ x.tmod m = x % m) := by
  have h1 := Int.emod_nonneg x (show m ≠ 0 by omega)
  have h2 := Int.emod_lt_of_pos x hm
  rw [Int.tmod_eq_emod]
  split
  · right; simp; exact h1
  · left; omega
theorem mask_fix (a m : Int) (hm : 0 < m) : (a % m = a) ↔ (0 ≤ a ∧ a < m) := by
  constructor
  · intro h
    have h1 := Int.emod_nonneg a (show m ≠ 0 by omega)
    have h2 := Int.emod_lt_of_pos a hm
    omega
  · rintro ⟨h1, h2⟩
    exact Int.emod_eq_of_lt h1 h2
end Go.Ab
end
section
set_option linter.unusedSimpArgs false
namespace Go.Ab
theorem nat_and_up (a j k : Nat) : a &&& ((2 ^ j - 1) * 2 ^ k) = (a / 2 ^ k % 2 ^ j) * 2 ^ k := by
  apply Nat.eq_of_testBit_eq
  intro i
  rw [Nat.testBit_and, Nat.testBit_mul_two_pow, Nat.testBit_mul_two_pow, Nat.testBit_mod_two_pow, Nat.testBit_div_two_pow, Nat.testBit_two_pow_sub_one]
  by_cases h : k ≤ i
  · simp [h]
    rw [Bool.and_comm]
  · simp [h]
theorem bv_andNot (x y : BitVec 64) : x &&& ~~~y = x - (x &&& y) := by
  have h : (x &&& ~~~y) + (x &&& y) = x := by
    rw [BitVec.add_eq_or_of_and_eq_zero]
    · ext i hi
      simp
      cases x[i] <;> cases y[i] <;> rfl
    · ext i hi
      simp
      cases x[i] <;> cases y[i] <;> simp
  exact BitVec.eq_sub_iff_add_eq.2 h
/-- bits taken away -/
theorem andNot_sub (a b : Int) (h0 : 0 ≤ a) (h1 : a ≤ 9223372036854775807) : IntKind.wrap .i64 ((BitVec.ofInt 64 a &&& ~~~BitVec.ofInt 64 b).toNat : Int) = a - IntKind.wrap .i64 ((BitVec.ofInt 64 a &&& BitVec.ofInt 64 b).toNat : Int) := by
  rw [bv_andNot]
  have hle : BitVec.ofInt 64 a &&& BitVec.ofInt 64 b ≤ BitVec.ofInt 64 a := by
    rw [BitVec.le_def, BitVec.toNat_and]
    exact Nat.and_le_left
  rw [BitVec.toNat_sub_of_le hle]
  have ha : (BitVec.ofInt 64 a).toNat = a.toNat := by
    rw [BitVec.toNat_ofInt, Int.emod_eq_of_lt h0 (by omega)]
  have hle' := BitVec.le_def.1 hle
  rw [ha] at hle' ⊢
  rw [wrap_id (by omega) (by omega), wrap_id (by omega) (by omega)]
  omega
theorem andNot_mask (j : Nat) (hj : j ≤ 62) (a : Int) (h0 : 0 ≤ a) (h1 : a ≤ 9223372036854775807) : IntKind.wrap .i64 ((BitVec.ofInt 64 a &&& ~~~BitVec.ofInt 64 (2 ^ j - 1)).toNat : Int) = a - a % 2 ^ j := by
  rw [andNot_sub a _ h0 h1, and_mask j hj]
theorem andNot1 (a : Int) (h0 : 0 ≤ a) (h1 : a ≤ 9223372036854775807) : IntKind.wrap .i64 ((BitVec.ofInt 64 a &&& ~~~BitVec.ofInt 64 (1 : Int)).toNat : Int) = a - a % 2 := andNot_mask 1 (by omega) a h0 h1
theorem andNot255 (a : Int) (h0 : 0 ≤ a) (h1 : a ≤ 9223372036854775807) : IntKind.wrap .i64 ((BitVec.ofInt 64 a &&& ~~~BitVec.ofInt 64 (255 : Int)).toNat : Int) = a - a % 256 := andNot_mask 8 (by omega) a h0 h1
theorem andNot65535 (a : Int) (h0 : 0 ≤ a) (h1 : a ≤ 9223372036854775807) : IntKind.wrap .i64 ((BitVec.ofInt 64 a &&& ~~~BitVec.ofInt 64 (65535 : Int)).toNat : Int) = a - a % 65536 := andNot_mask 16 (by omega) a h0 h1
/-- a mask higher up -/
theorem and_up (j k : Nat) (hj : j + k ≤ 62) (a : Int) (h0 : 0 ≤ a) (h1 : a ≤ 9223372036854775807) : IntKind.wrap .i64 ((BitVec.ofInt 64 a &&& BitVec.ofInt 64 ((2 ^ j - 1) * 2 ^ k)).toNat : Int) = a / 2 ^ k % 2 ^ j * 2 ^ k := by
  have hp : (2 : Nat) ^ (j + k) ≤ 2 ^ 62 := Nat.pow_le_pow_right (by omega) hj
  have hpos : 0 < (2 : Nat) ^ j := Nat.pow_pos (by omega)
  have hposk : 0 < (2 : Nat) ^ k := Nat.pow_pos (by omega)
  have hc : ((2 : Int) ^ j - 1) * 2 ^ k = (((2 ^ j - 1) * 2 ^ k : Nat) : Int) := by
    rw [Int.natCast_mul, Int.natCast_sub (by omega)]
    simp
  have hlt : (2 ^ j - 1) * 2 ^ k < 2 ^ 62 := by
    have : (2 ^ j - 1) * 2 ^ k < 2 ^ j * 2 ^ k := Nat.mul_lt_mul_of_pos_right (by omega) hposk
    rw [← Nat.pow_add] at this
    omega
  rw [nat_and, hc, Int.emod_eq_of_lt h0 (by omega), Int.emod_eq_of_lt (by omega) (by omega), Int.toNat_natCast, nat_and_up]
  have e : (((a.toNat / 2 ^ k % 2 ^ j * 2 ^ k : Nat)) : Int) = a / 2 ^ k % 2 ^ j * 2 ^ k := by
    rw [Int.natCast_mul, Int.natCast_emod, Int.natCast_ediv, Int.toNat_of_nonneg h0]
    simp
  rw [e]
  have hm := Int.emod_nonneg (a / 2 ^ k) (show (2 : Int) ^ j ≠ 0 by have := Int.natCast_pos.2 hpos; simp at this; omega)
  apply wrap_id
  · rw [← e]; omega
  · rw [← e]
    have : a.toNat / 2 ^ k % 2 ^ j * 2 ^ k ≤ a.toNat / 2 ^ k * 2 ^ k := Nat.mul_le_mul_right _ (Nat.mod_le _ _)
    have h2 : a.toNat / 2 ^ k * 2 ^ k ≤ a.toNat := Nat.div_mul_le_self _ _
    omega
theorem and65280 (a : Int) (h0 : 0 ≤ a) (h1 : a ≤ 9223372036854775807) : IntKind.wrap .i64 ((BitVec.ofInt 64 a &&& BitVec.ofInt 64 (65280 : Int)).toNat : Int) = a / 256 % 256 * 256 := and_up 8 8 (by omega) a h0 h1
theorem andNot65280 (a : Int) (h0 : 0 ≤ a) (h1 : a ≤ 9223372036854775807) : IntKind.wrap .i64 ((BitVec.ofInt 64 a &&& ~~~BitVec.ofInt 64 (65280 : Int)).toNat : Int) = a - a / 256 % 256 * 256 := by
  rw [andNot_sub a _ h0 h1, and65280 a h0 h1]
end Go.Ab
end
section
set_option linter.unusedSimpArgs false
set_option linter.unusedVariables false
namespace Go.Proofs.Ytghgcaieciklbaa
open Go Go.Ab
theorem alive_true : law31_alive none = some true := lelaw31_alive 300 true (by kernel_rfl)
theorem wrap_succ {i n : Nat} (h : i < n) (hn : n ≤ 9223372036854775807) : IntKind.wrap .i64 ((i : Int) + 1) = ((i + 1 : Nat) : Int) := by rw [wrap_id] <;> omega
def SmI (x : Image) : Prop := x.text.length ≤ 60000 ∧ x.data.length ≤ 60000 ∧ x.symbols.length ≤ 10000
theorem small_def (x : Image) : ∃ r, law31_small none x = some r ∧ (r = true → SmI x ∧ ∀ s ∈ x.symbols, s.name.length ≤ 100) := by
  simp only [law31_small, Tlaw31_small, Tree.run]
  by_cases h1 : (34000 : Int) < (x.text.length : Int)
  · exact ⟨false, by simp [h1], fun h => by cases h⟩
  by_cases h2 : (34000 : Int) < (x.data.length : Int)
  · exact ⟨false, by simp [h1, h2], fun h => by cases h⟩
  by_cases h3 : (300 : Int) < (x.symbols.length : Int)
  · exact ⟨false, by simp [h1, h2, h3], fun h => by cases h⟩
  have hs := lim_scan (f := fun s => (Wlaw31_small_0 s).run) (fun i : Nat => ⟨x.symbols, (x.symbols.length : Int), (i : Int)⟩) x.symbols.length (fun i => ∀ y, x.symbols[i]? = some y → y.name.length ≤ 100) (fun i => .inl false) (.inr ())
    (fun i hi hp => by
      have hp' := hp x.symbols[i] (List.getElem?_eq_getElem hi)
      have hp'' : ¬ (100 : Int) < (x.symbols[i].name.length : Int) := by omega
      simp [Wlaw31_small_0, Tree.run, hi, hp'', wrap_succ hi (show x.symbols.length ≤ 9223372036854775807 by omega)])
    (fun i hi hp => by
      have hp'' : (100 : Int) < (x.symbols[i].name.length : Int) := by
        rcases Int.lt_or_le 100 (x.symbols[i].name.length : Int) with h | h
        · exact h
        · exact absurd (fun y hy => by rw [List.getElem?_eq_getElem hi] at hy; rw [← Option.some.inj hy]; omega) hp
      simp [Wlaw31_small_0, Tree.run, hi, hp''])
    (by simp [Wlaw31_small_0, Tree.run])
  rcases hs with ⟨q1, q2⟩ | ⟨i, hi, q1, q2⟩
  · have q2' : Llaw31_small_0 none ⟨x.symbols, (x.symbols.length : Int), (0 : Int)⟩ = some (.inr ()) := q2
    refine ⟨true, by simp [h1, h2, h3, q2'], fun _ => ⟨⟨by omega, by omega, by omega⟩, fun s hs => ?_⟩⟩
    obtain ⟨i, hi, he⟩ := List.mem_iff_getElem.1 hs
    exact q1 i hi s (by rw [List.getElem?_eq_getElem hi, he])
  · have q2' : Llaw31_small_0 none ⟨x.symbols, (x.symbols.length : Int), (0 : Int)⟩ = some (.inl false) := q2
    exact ⟨false, by simp [h1, h2, h3, q2'], fun h => by cases h⟩
end Go.Proofs.Ytghgcaieciklbaa
end
section
set_option linter.unusedSimpArgs false
set_option linter.unusedVariables false
namespace Go.Proofs.Ytghgcaieciklbaa
open Go Go.Ab
def OkCh (y : Int) : Prop := 97 ≤ y ∧ y ≤ 122 ∨ 65 ≤ y ∧ y ≤ 90 ∨ 48 ≤ y ∧ y ≤ 57 ∨ y = 95 ∨ y = 46 ∨ y = 36
instance (y) : Decidable (OkCh y) := by unfold OkCh; infer_instance
theorem idx_iff (b : UInt8) : ∃ r, strings_IndexByte ([95, 46, 36] : List UInt8) (b.toNat : Int) = some r ∧ (0 ≤ r ↔ (b.toNat : Int) = 95 ∨ (b.toNat : Int) = 46 ∨ (b.toNat : Int) = 36) := by
  refine ⟨_, rfl, ?_⟩
  have hb : ((b.toNat : Int).toNat).toUInt8 = b := by simp
  rw [hb]
  have : ∀ n : Fin 256, (0 ≤ Lib.indexByte [95, 46, 36] (UInt8.ofNat n.val) ↔ ((UInt8.ofNat n.val).toNat : Int) = 95 ∨ ((UInt8.ofNat n.val).toNat : Int) = 46 ∨ ((UInt8.ofNat n.val).toNat : Int) = 36) := by decide +kernel
  have h2 := this ⟨b.toNat, b.toNat_lt⟩
  simpa using h2
set_option maxHeartbeats 2000000 in
theorem image_ch (s : List UInt8) (i : Nat) (hl : s.length ≤ 100000) (hi : i < s.length) :
    (Wimage_isName_0 ⟨s.map (fun b => (b.toNat : Int)), ((s.map fun b => (b.toNat : Int)).length : Int), (i : Int)⟩).run = some (if OkCh (s[i].toNat : Int) then .inl ⟨s.map (fun b => (b.toNat : Int)), ((s.map fun b => (b.toNat : Int)).length : Int), ((i + 1 : Nat) : Int)⟩ else .inr (.inl false)) := by
  obtain ⟨r, hr, hri⟩ := idx_iff s[i]
  have hi' : (i : Int) < ((s.map fun b => (b.toNat : Int)).length : Int) := by rw [List.length_map]; omega
  have h0 : (0 : Int) ≤ (i : Int) := by omega
  have hg : (s.map fun b => (b.toNat : Int))[i]? = some (s[i].toNat : Int) := by rw [List.getElem?_map, List.getElem?_eq_getElem hi]; rfl
  simp only [Wimage_isName_0, Tree.run, hi', h0, decide_true, if_true, Int.toNat_natCast, hg, Option.bind_some, hr, wrap_succ hi (show s.length ≤ 9223372036854775807 by omega), decide_eq_true_eq, Bool.not_eq_true', decide_eq_false_iff_not, hri]
  generalize (s[i].toNat : Int) = y
  by_cases hk : OkCh y
  · rw [if_pos hk]
    unfold OkCh at hk
    repeat' split
    all_goals first | rfl | (exfalso; omega)
  · rw [if_neg hk]
    unfold OkCh at hk
    repeat' split
    all_goals first | rfl | (exfalso; omega)
set_option maxHeartbeats 2000000 in
theorem ref_ch (s : List UInt8) (i : Nat) (hl : s.length ≤ 100000) (hi : i < s.length) :
    (Wref28_IsName_0 ⟨s, (i : Int)⟩).run = some (if OkCh (s[i].toNat : Int) then .inl ⟨s, ((i + 1 : Nat) : Int)⟩ else .inr (.inl false)) := by
  have hi' : (i : Int) < (s.length : Int) := by omega
  have h0 : (0 : Int) ≤ (i : Int) := by omega
  simp only [Wref28_IsName_0, Tree.run, hi', h0, decide_true, if_true, Int.toNat_natCast, List.getElem?_eq_getElem hi, Option.bind_some, wrap_succ hi (show s.length ≤ 9223372036854775807 by omega), decide_eq_true_eq, Bool.not_eq_true', decide_eq_false_iff_not]
  generalize (s[i].toNat : Int) = y
  by_cases hk : OkCh y
  · rw [if_pos hk]
    unfold OkCh at hk
    repeat' split
    all_goals first | rfl | (exfalso; omega)
  · rw [if_neg hk]
    unfold OkCh at hk
    repeat' split
    all_goals first | rfl | (exfalso; omega)
theorem names_loop (s : List UInt8) (hl : s.length ≤ 100000) : ∃ r, Limage_isName_0 none ⟨s.map (fun b => (b.toNat : Int)), ((s.map fun b => (b.toNat : Int)).length : Int), (0 : Int)⟩ = some r ∧ Lref28_IsName_0 none ⟨s, (0 : Int)⟩ = some r := by
  obtain ⟨r, hr, _⟩ := lim_rule (f := fun t => (Wimage_isName_0 t).run) (fun t => ∃ i : Nat, i ≤ s.length ∧ t = ⟨s.map (fun b => (b.toNat : Int)), ((s.map fun b => (b.toNat : Int)).length : Int), (i : Int)⟩) (fun _ => True) (fun t => s.length - t.t25.toNat)
    (by
      rintro t ⟨i, hi, rfl⟩
      by_cases hlt : i < s.length
      · have h1 := image_ch s i hl hlt
        by_cases hc : OkCh (s[i].toNat : Int)
        · rw [if_pos hc] at h1
          exact .inr ⟨_, h1, ⟨i + 1, hlt, rfl⟩, by simp; omega⟩
        · rw [if_neg hc] at h1
          exact .inl ⟨_, h1, trivial⟩
      · have : i = s.length := by omega
        subst this
        exact .inl ⟨.inr (), by simp [Wimage_isName_0, Tree.run], trivial⟩)
    ⟨s.map (fun b => (b.toNat : Int)), ((s.map fun b => (b.toNat : Int)).length : Int), (0 : Int)⟩ ⟨0, Nat.zero_le _, rfl⟩
  obtain ⟨r', hr', e⟩ := lim_rel (f := fun t => (Wimage_isName_0 t).run) (g := fun t => (Wref28_IsName_0 t).run) (fun t u => ∃ i : Nat, i ≤ s.length ∧ t = ⟨s.map (fun b => (b.toNat : Int)), ((s.map fun b => (b.toNat : Int)).length : Int), (i : Int)⟩ ∧ u = ⟨s, (i : Int)⟩) (fun a b => a = b)
    (by
      rintro t u ⟨i, hi, rfl, rfl⟩
      by_cases hlt : i < s.length
      · have h1 := image_ch s i hl hlt
        have h2 := ref_ch s i hl hlt
        by_cases hc : OkCh (s[i].toNat : Int)
        · rw [if_pos hc] at h1 h2
          exact .inr (.inl ⟨_, _, h1, h2, i + 1, hlt, rfl, rfl⟩)
        · rw [if_neg hc] at h1 h2
          exact .inl ⟨_, _, h1, h2, rfl⟩
      · have : i = s.length := by omega
        subst this
        exact .inl ⟨.inr (), .inr (), by simp [Wimage_isName_0, Tree.run], by simp [Wref28_IsName_0, Tree.run], rfl⟩)
    (a := ⟨s.map (fun b => (b.toNat : Int)), ((s.map fun b => (b.toNat : Int)).length : Int), (0 : Int)⟩) (a' := ⟨s, (0 : Int)⟩) ⟨0, Nat.zero_le _, rfl, rfl⟩ hr
  subst e
  exact ⟨r, hr, hr'⟩
theorem isName_eq (s : List UInt8) : ∃ b, image_isName none s = some b ∧ ref28_IsName none s = some b := by
  simp only [image_isName, Timage_isName, ref28_IsName, Tref28_IsName, Tree.run]
  by_cases h1 : s = []
  · exact ⟨false, by simp [h1], by simp [h1]⟩
  by_cases h2 : (14 : Int) < (s.length : Int)
  · exact ⟨false, by simp [h1, h2], by simp [h1, h2]⟩
  have hp : 0 < s.length := by cases s with | nil => exact absurd rfl h1 | cons => simp
  have hg : s[0]? = some s[0] := List.getElem?_eq_getElem hp
  obtain ⟨r, e1, e2⟩ := names_loop s (by omega)
  simp only [h1, h2, decide_false, Bool.false_eq_true, if_false, show (0 : Int) ≤ 0 by omega, decide_true, if_true, show ((0 : Int)).toNat = 0 by rfl, hg, Option.bind_some, e1, e2]
  cases r with
  | inl b =>
    simp only [Sum.isLeft_inl, if_true, Sum.getLeft?_inl, Option.bind_some]
    split
    · split
      · exact ⟨_, rfl, rfl⟩
      · exact ⟨_, rfl, rfl⟩
    · exact ⟨_, rfl, rfl⟩
  | inr u =>
    simp only [Sum.isLeft_inr, Bool.false_eq_true, if_false, Sum.getRight?_inr, Option.bind_some]
    split
    · split
      · exact ⟨_, rfl, rfl⟩
      · exact ⟨_, rfl, rfl⟩
    · exact ⟨_, rfl, rfl⟩
theorem even_def (n : Int) (h0 : 0 ≤ n) (h1 : n ≤ 100000) : image_even n = some (n + n % 2) ∧ ref31_even n = some (n + n % 2) := by
  have e : n.tmod 2 = n % 2 := tmod_nn h0 _
  have w : IntKind.wrap .i64 (n + n % 2) = n + n % 2 := wrap_id (by omega) (by omega)
  exact ⟨by simp only [image_even, Timage_even, Tree.run, and1, w], by simp only [ref31_even, Tref31_even, Tree.run, e, w, show ¬ (2 : Int) = 0 by omega, decide_false, Bool.false_eq_true, if_false]⟩
def clampB (x : Image) : Int := if x.bss < 0 then 0 else if 32768 < x.bss then 32768 else x.bss
theorem clamp_in (x : Image) : 0 ≤ clampB x ∧ clampB x ≤ 32768 := by
  unfold clampB
  split
  · omega
  · split <;> omega
def sizeI (x : Image) : Int := (x.text.length : Int) + ((x.data.length : Int) + (x.data.length : Int) % 2) + (clampB x + clampB x % 2)
theorem Size_def (x : Image) (h : SmI x) : image_Size x = some (sizeI x) ∧ ref31_Size x = some (sizeI x) := by
  obtain ⟨h1, h2, h3⟩ := h
  have hc := clamp_in x
  have w1 : IntKind.wrap .i64 ((x.text.length : Int) + ((x.data.length : Int) + (x.data.length : Int) % 2)) = (x.text.length : Int) + ((x.data.length : Int) + (x.data.length : Int) % 2) := wrap_id (by omega) (by omega)
  have w2 : IntKind.wrap .i64 ((x.text.length : Int) + ((x.data.length : Int) + (x.data.length : Int) % 2) + (clampB x + clampB x % 2)) = sizeI x := wrap_id (by omega) (by omega)
  have e1 := even_def (x.data.length : Int) (by omega) (by omega)
  have e2 := even_def (clampB x) hc.1 (by omega)
  constructor
  · have hcl : (if (32768 : Int) < (if (0 : Int) > x.bss then (0 : Int) else x.bss) then (32768 : Int) else (if (0 : Int) > x.bss then (0 : Int) else x.bss)) = clampB x := by
      unfold clampB
      by_cases q1 : x.bss < 0
      · simp [q1]
      · have : ¬ (0 : Int) > x.bss := by omega
        simp [q1, this]
    simp only [image_Size, Timage_Size, Tree.run, hcl, e1.1, e2.1, Option.bind_some, w1, w2]
  · have e1' := e1.2
    have e2' := e2.2
    simp only [ref31_Size, Tref31_Size, Tree.run]
    unfold clampB at e2' w2
    by_cases q1 : x.bss < 0
    · simp only [q1, if_true] at e2' w2
      simp only [q1, decide_true, if_true, show ¬ (32768 : Int) < 0 by omega, decide_false, Bool.false_eq_true, if_false, e1', e2', Option.bind_some, w1, w2]
    · simp only [q1, if_false] at e2' w2
      by_cases q2 : 32768 < x.bss
      · simp only [q2, if_true] at e2' w2
        simp only [q1, q2, decide_true, if_true, decide_false, Bool.false_eq_true, if_false, e1', e2', Option.bind_some, w1, w2]
      · simp only [q2, if_false] at e2' w2
        simp only [q1, q2, decide_false, Bool.false_eq_true, if_false, e1', e2', Option.bind_some, w1, w2]
end Go.Proofs.Ytghgcaieciklbaa
end
section
set_option linter.unusedSimpArgs false
set_option linter.unusedVariables false
namespace Go.Proofs.Ytghgcaieciklbaa
open Go Go.Ab
theorem word_iff (v : Int) : v % 65536 = v ↔ 0 ≤ v ∧ v ≤ 65535 := by omega
/-- a symbol without an error -/
structure GoodC (s : Symbol) : Prop where
  name : s.name.length ≤ 14
  sec0 : 0 ≤ s.section_
  sec : s.section_ ≤ 3
  val0 : 0 ≤ s.value
  val : s.value ≤ 65535
theorem isName_short {s : List UInt8} (h : image_isName none s = some true) : s.length ≤ 14 := by
  rcases Nat.lt_or_ge 14 s.length with h2 | h2
  · exfalso
    have h2' : (14 : Int) < (s.length : Int) := by omega
    simp only [image_isName, Timage_isName, Tree.run, h2', decide_true, if_true] at h
    split at h <;> cases h
  · exact h2
theorem check_step (x : Image) (i : Nat) (hl : x.symbols.length ≤ 10000) (hi : i < x.symbols.length) :
    (∃ e, (Wimage_Check_0 none ⟨x.symbols, (x.symbols.length : Int), (i : Int)⟩).run = some (.inr (.inl e)) ∧ (Wref31_Check_0 none ⟨(i : Int), x⟩).run = some (.inr (.inl e)) ∧ e ≠ 0) ∨
    (Wimage_Check_0 none ⟨x.symbols, (x.symbols.length : Int), (i : Int)⟩).run = some (.inl ⟨x.symbols, (x.symbols.length : Int), ((i + 1 : Nat) : Int)⟩) ∧ (Wref31_Check_0 none ⟨(i : Int), x⟩).run = some (.inl ⟨((i + 1 : Nat) : Int), x⟩) ∧ GoodC x.symbols[i] := by
  obtain ⟨b, e1, e2⟩ := isName_eq x.symbols[i].name
  have hi' : (i : Int) < (x.symbols.length : Int) := by omega
  have h0 : (0 : Int) ≤ (i : Int) := by omega
  have w := wrap_succ hi (show x.symbols.length ≤ 9223372036854775807 by omega)
  simp only [Wimage_Check_0, Wref31_Check_0, Tree.run, hi', h0, decide_true, if_true, Int.toNat_natCast, List.getElem?_eq_getElem hi, Option.bind_some, e1, e2, w, and65535, word_iff]
  cases b with
  | false => exact .inl ⟨4, rfl, rfl, by omega⟩
  | true =>
    simp only [Bool.not_true, Bool.false_eq_true, if_false]
    by_cases c1 : x.symbols[i].section_ < 0
    · simp only [c1, decide_true, if_true]; exact .inl ⟨2, rfl, rfl, by omega⟩
    by_cases c2 : 3 < x.symbols[i].section_
    · simp only [c1, c2, decide_true, decide_false, Bool.false_eq_true, if_false, if_true]; exact .inl ⟨2, rfl, rfl, by omega⟩
    simp only [c1, c2, decide_false, Bool.false_eq_true, if_false]
    by_cases c3 : x.symbols[i].value < 0
    · have : ¬ (0 ≤ x.symbols[i].value ∧ x.symbols[i].value ≤ 65535) := by omega
      simp only [c3, this, decide_true, decide_false, Bool.not_false, if_true]; exact .inl ⟨2, rfl, rfl, by omega⟩
    by_cases c4 : 65535 < x.symbols[i].value
    · have : ¬ (0 ≤ x.symbols[i].value ∧ x.symbols[i].value ≤ 65535) := by omega
      simp only [c3, c4, this, decide_true, decide_false, Bool.not_false, if_true, Bool.false_eq_true, if_false]; exact .inl ⟨2, rfl, rfl, by omega⟩
    have : 0 ≤ x.symbols[i].value ∧ x.symbols[i].value ≤ 65535 := by omega
    simp only [c3, c4, this, and_self, decide_true, decide_false, Bool.not_true, Bool.false_eq_true, if_false]
    have hG : GoodC x.symbols[i] := ⟨isName_short e1, by omega, by omega, this.1, this.2⟩
    exact .inr ⟨by trivial, by trivial, hG⟩
theorem check_loop (x : Image) (hl : x.symbols.length ≤ 10000) : ∃ r, Limage_Check_0 none ⟨x.symbols, (x.symbols.length : Int), (0 : Int)⟩ = some r ∧ Lref31_Check_0 none ⟨(0 : Int), x⟩ = some r ∧ ((r = .inr () ∧ ∀ s ∈ x.symbols, GoodC s) ∨ ∃ e, r = .inl e ∧ e ≠ 0) := by
  obtain ⟨r, hr, hq⟩ := lim_rule (f := fun t => (Wimage_Check_0 none t).run) (fun t => ∃ i : Nat, i ≤ x.symbols.length ∧ (∀ j (hj : j < x.symbols.length), j < i → GoodC x.symbols[j]) ∧ t = ⟨x.symbols, (x.symbols.length : Int), (i : Int)⟩) (fun r => (r = .inr () ∧ ∀ s ∈ x.symbols, GoodC s) ∨ ∃ e, r = .inl e ∧ e ≠ 0) (fun t => x.symbols.length - t.t48.toNat)
    (by
      rintro t ⟨i, hi, hg, rfl⟩
      by_cases hlt : i < x.symbols.length
      · rcases check_step x i hl hlt with ⟨e, h1, _, he⟩ | ⟨h1, _, h3⟩
        · exact .inl ⟨_, h1, .inr ⟨e, rfl, he⟩⟩
        · refine .inr ⟨_, h1, ⟨i + 1, hlt, fun j hj h => ?_, rfl⟩, by simp; omega⟩
          rcases Nat.lt_or_ge j i with h' | h'
          · exact hg j hj h'
          · have : j = i := by omega
            subst this; exact h3
      · have : i = x.symbols.length := by omega
        subst this
        refine .inl ⟨.inr (), by simp [Wimage_Check_0, Tree.run], .inl ⟨rfl, fun s hs => ?_⟩⟩
        obtain ⟨k, hk, rfl⟩ := List.mem_iff_getElem.1 hs
        exact hg k hk hk)
    ⟨x.symbols, (x.symbols.length : Int), (0 : Int)⟩ ⟨0, Nat.zero_le _, fun _ _ h => absurd h (Nat.not_lt_zero _), rfl⟩
  obtain ⟨r', hr', e⟩ := lim_rel (f := fun t => (Wimage_Check_0 none t).run) (g := fun t => (Wref31_Check_0 none t).run) (fun t u => ∃ i : Nat, i ≤ x.symbols.length ∧ t = ⟨x.symbols, (x.symbols.length : Int), (i : Int)⟩ ∧ u = ⟨(i : Int), x⟩) (fun a b => a = b)
    (by
      rintro t u ⟨i, hi, rfl, rfl⟩
      by_cases hlt : i < x.symbols.length
      · rcases check_step x i hl hlt with ⟨e, h1, h2, _⟩ | ⟨h1, h2, _⟩
        · exact .inl ⟨_, _, h1, h2, rfl⟩
        · exact .inr (.inl ⟨_, _, h1, h2, i + 1, hlt, rfl, rfl⟩)
      · have : i = x.symbols.length := by omega
        subst this
        exact .inl ⟨.inr (), .inr (), by simp [Wimage_Check_0, Tree.run], by simp [Wref31_Check_0, Tree.run], rfl⟩)
    (a := ⟨x.symbols, (x.symbols.length : Int), (0 : Int)⟩) (a' := ⟨(0 : Int), x⟩) ⟨0, Nat.zero_le _, rfl, rfl⟩ hr
  subst e
  exact ⟨r, hr, hr', hq⟩
/-- an image without an error -/
structure Fine (x : Image) : Prop where
  text : x.text.length % 2 = 0
  size : sizeI x ≤ 32512
  syms : x.symbols.length ≤ 256
  bss : 0 ≤ x.bss
  entry : 0 ≤ x.entry
  good : ∀ s ∈ x.symbols, GoodC s
  bssLe : x.bss ≤ 32512
  entryLe : x.entry ≤ 60000
theorem Check_eq (x : Image) (h : SmI x) : ∃ e, image_Check none x = some e ∧ ref31_Check none x = some e ∧ (e = 0 → Fine x) := by
  obtain ⟨s1, s2⟩ := Size_def x h
  obtain ⟨h1, h2, h3⟩ := id h
  obtain ⟨r, l1, l2, hq⟩ := check_loop x (by omega)
  have t1 : ((x.text.length : Int)).tmod 2 = (x.text.length : Int) % 2 := tmod_nn (by omega) _
  simp only [image_Check, Timage_Check, ref31_Check, Tref31_Check, Tree.run, show ¬ (2 : Int) = 0 by omega, decide_false, Bool.false_eq_true, if_false, t1, s1, s2, l1, l2, Option.bind_some]
  by_cases c1 : (x.text.length : Int) % 2 = 0
  · by_cases c2 : 32512 < sizeI x
    · exact ⟨7, by simp [c1, c2], by simp [c1, c2], fun h => by omega⟩
    by_cases c3 : (256 : Int) < (x.symbols.length : Int)
    · exact ⟨7, by simp [c1, c2, c3], by simp [c1, c2, c3], fun h => by omega⟩
    by_cases c4 : x.bss < 0
    · exact ⟨2, by simp [c1, c2, c3, c4], by simp [c1, c2, c3, c4], fun h => by omega⟩
    by_cases c5 : x.entry < 0
    · exact ⟨2, by simp [c1, c2, c3, c4, c5], by simp [c1, c2, c3, c4, c5], fun h => by omega⟩
    have t2 : x.entry.tmod 2 = x.entry % 2 := tmod_nn (by omega) _
    by_cases c6 : x.entry % 2 = 0
    · have hB : x.bss ≤ 32512 := by
        rcases Int.lt_or_le 32512 x.bss with h | h
        · have : 32512 < clampB x := by unfold clampB; rw [if_neg c4]; split <;> omega
          unfold sizeI at c2; omega
        · exact h
      have hF : (∀ s ∈ x.symbols, GoodC s) → x.entry ≤ 60000 → Fine x := fun hg he => ⟨by omega, by omega, by omega, by omega, by omega, hg, hB, he⟩
      simp only [c1, c2, c3, c4, c5, t2, c6, decide_true, decide_false, Bool.not_true, Bool.false_eq_true, if_false]
      have key : ∃ e, (if r.isLeft = true then (r.getLeft?).bind (fun a => some a) else (r.getRight?).bind (fun _ => some (0 : Int))) = some e ∧ (e = 0 → x.entry ≤ 60000 → Fine x) := by
        rcases hq with ⟨rfl, hg⟩ | ⟨e, rfl, he⟩
        · exact ⟨0, rfl, fun _ => hF hg⟩
        · exact ⟨e, rfl, fun h => absurd h he⟩
      obtain ⟨e, hk, hke⟩ := key
      by_cases c7 : (x.text.length : Int) ≤ x.entry
      · by_cases c8 : x.entry = 0
        · have c9 : x.text = [] := List.length_eq_zero_iff.1 (by omega)
          have c10 : ¬ (if (1 : Int) > (x.text.length : Int) then (1 : Int) else (x.text.length : Int)) ≤ x.entry := by
            rw [c9]; simp [c8]
          simp only [c7, c8, c9, c10, decide_true, decide_false, Bool.not_true, Bool.false_eq_true, if_false, if_true]
          simp only [c8, c9] at c10
          simp only [c10, decide_false, Bool.false_eq_true, if_false]
          exact ⟨e, hk, hk, fun h => hke h (by omega)⟩
        · have c10 : (if (1 : Int) > (x.text.length : Int) then (1 : Int) else (x.text.length : Int)) ≤ x.entry := by
            split <;> omega
          simp only [c7, c8, c10, decide_true, decide_false, Bool.not_false, if_true]
          exact ⟨2, rfl, rfl, fun h => by omega⟩
      · have c10 : ¬ (if (1 : Int) > (x.text.length : Int) then (1 : Int) else (x.text.length : Int)) ≤ x.entry := by
          split <;> omega
        simp only [c7, c10, decide_false, Bool.false_eq_true, if_false]
        exact ⟨e, hk, hk, fun h => hke h (by omega)⟩
    · exact ⟨2, by simp [c1, c2, c3, c4, c5, t2, c6], by simp [c1, c2, c3, c4, c5, t2, c6], fun h => by omega⟩
  · exact ⟨1, by simp [c1], by simp [c1], fun h => by omega⟩
end Go.Proofs.Ytghgcaieciklbaa
end
section
set_option linter.unusedSimpArgs false
set_option linter.unusedVariables false
namespace Go.Proofs.Ytghgcaieciklbaa.C08
open Go Go.Ab
theorem wrap_succ {i n : Nat} (h : i < n) (hn : n ≤ 9223372036854775807) : IntKind.wrap .i64 ((i : Int) + 1) = ((i + 1 : Nat) : Int) := by rw [wrap_id] <;> omega
theorem Same_def (a b : List Int) (hl : a.length ≤ 9223372036854775807) : ref08_Same none a b = some (decide (a = b)) := by
  by_cases hab : a.length = b.length
  · have hs := lim_scan (f := fun s => (Wref08_Same_0 s).run) (fun i : Nat => ⟨a, b, (i : Int)⟩) a.length (fun i => a[i]? = b[i]?) (fun i => .inl false) (.inr ())
      (fun i hi hp => by
        have hi' : i < b.length := by omega
        have hp' : a[i] = b[i] := by
          rw [List.getElem?_eq_getElem hi, List.getElem?_eq_getElem hi'] at hp
          exact Option.some.inj hp
        simp [Wref08_Same_0, Tree.run, hi, hi', wrap_succ hi hl, hp'])
      (fun i hi hp => by
        have hi' : i < b.length := by omega
        have hp' : ¬ a[i] = b[i] := by
          rw [List.getElem?_eq_getElem hi, List.getElem?_eq_getElem hi'] at hp
          exact fun h => hp (by rw [h])
        simp [Wref08_Same_0, Tree.run, hi, hi', hp'])
      (by simp [Wref08_Same_0, Tree.run])
    rcases hs with ⟨h1, h2⟩ | ⟨i, hi, h1, h2⟩
    · have h : Lref08_Same_0 none ⟨a, b, (0 : Int)⟩ = some (.inr ()) := h2
      have he : a = b := List.ext_getElem? fun i => by
        by_cases hi : i < a.length
        · exact h1 i hi
        · rw [List.getElem?_eq_none (by omega), List.getElem?_eq_none (by omega)]
      simp [ref08_Same, Tref08_Same, Tree.run, h, hab]
      exact he
    · have h : Lref08_Same_0 none ⟨a, b, (0 : Int)⟩ = some (.inl false) := h2
      have he : ¬ a = b := fun he => h1 (by rw [he])
      simp [ref08_Same, Tref08_Same, Tree.run, h, hab, he]
  · have he : ¬ a = b := fun h => hab (by rw [h])
    have hab' : ¬ (a.length : Int) = (b.length : Int) := by omega
    simp [ref08_Same, Tref08_Same, Tree.run, hab', he]
def okA (m : List Int) (a : Int) (b : Bool) : Prop := 0 ≤ a ∧ a < 2 * (m.length : Int) ∧ (b = true ∨ a % 2 = 0)
instance (m a b) : Decidable (okA m a b) := by unfold okA; infer_instance
def wordAt (m : List Int) (a : Int) : Int := m.getD (a / 2).toNat 0
def byteAt (m : List Int) (a : Int) : Int := if a % 2 = 0 then wordAt m a % 256 else wordAt m a / 256 % 256
theorem get_word {m : List Int} {a : Int} (h0 : 0 ≤ a) (h1 : a < 2 * (m.length : Int)) : m[(a / 2).toNat]? = some (wordAt m a) := by
  have : (a / 2).toNat < m.length := by omega
  simp [wordAt, this]
theorem wrap2 {m : List Int} (hm : m.length ≤ 100000) : IntKind.wrap .i64 (2 * (m.length : Int)) = 2 * (m.length : Int) := wrap_id (by omega) (by omega)
theorem half {a : Int} (h0 : 0 ≤ a) (h1 : a ≤ 9223372036854775807) : IntKind.wrap .i64 (a.tdiv 2) = a / 2 := by rw [tdiv_nn h0, wrap_id (by omega) (by omega)]
def readM (m bad : List Int) (a : Int) (b : Bool) : Int × Int := if okA m a b then (if a - a % 2 ∈ bad then (0, 9) else (if b then byteAt m a else wordAt m a, 0)) else (0, 1)
/-- the word after a byte is written -/
def putB (w a b : Int) : Int := if a % 2 = 0 then w / 256 * 256 + b else w % 256 + b * 256
def putW (w a : Int) (b : Bool) (v : Int) : Int := if b then putB w a (v % 256) else v % 65536
theorem bits_lo (w b : Int) (h0 : 0 ≤ w) (h1 : w ≤ 65535) (hb : 0 ≤ b ∧ b ≤ 255) : IntKind.wrap .i64 ((BitVec.ofInt 64 (IntKind.wrap .i64 ((BitVec.ofInt 64 w &&& ~~~BitVec.ofInt 64 (255 : Int)).toNat : Int)) ||| BitVec.ofInt 64 b).toNat : Int) = w / 256 * 256 + b := by
  rw [andNot255 w h0 (by omega), or_add 8 _ _ hb.1 (by omega) (by omega) (by omega) (by omega)]
  omega
theorem bits_lo' (w b : Int) (h0 : 0 ≤ w) (h1 : w ≤ 65535) (hb : 0 ≤ b ∧ b ≤ 255) : IntKind.wrap .i64 ((BitVec.ofInt 64 (IntKind.wrap .i64 ((BitVec.ofInt 64 w &&& BitVec.ofInt 64 (65280 : Int)).toNat : Int)) ||| BitVec.ofInt 64 b).toNat : Int) = w / 256 * 256 + b := by
  rw [and65280 w h0 (by omega), or_add 8 _ _ hb.1 (by omega) (by omega) (by omega) (by omega)]
  omega
theorem bits_hi (w b : Int) (h0 : 0 ≤ w) (h1 : w ≤ 65535) (hb : 0 ≤ b ∧ b ≤ 255) : IntKind.wrap .i64 ((BitVec.ofInt 64 (IntKind.wrap .i64 ((BitVec.ofInt 64 w &&& ~~~BitVec.ofInt 64 (65280 : Int)).toNat : Int)) ||| BitVec.ofInt 64 (b * 256)).toNat : Int) = w % 256 + b * 256 := by
  rw [andNot65280 w h0 (by omega), show w - w / 256 % 256 * 256 = w % 256 by omega, or_add' 8 _ _ (by omega) (by omega) (by omega) (by omega) (by omega)]
theorem bits_hi' (w b : Int) (h0 : 0 ≤ w) (h1 : w ≤ 65535) (hb : 0 ≤ b ∧ b ≤ 255) : IntKind.wrap .i64 ((BitVec.ofInt 64 (IntKind.wrap .i64 ((BitVec.ofInt 64 w &&& BitVec.ofInt 64 (255 : Int)).toNat : Int)) ||| BitVec.ofInt 64 (b * 256)).toNat : Int) = w % 256 + b * 256 := by
  rw [and255, or_add' 8 _ _ (by omega) (by omega) (by omega) (by omega) (by omega)]
theorem bits_w (w v : Int) (h0 : 0 ≤ w) (h1 : w ≤ 65535) (hv : 0 ≤ v ∧ v ≤ 65535) : IntKind.wrap .i64 ((BitVec.ofInt 64 (IntKind.wrap .i64 ((BitVec.ofInt 64 w &&& ~~~BitVec.ofInt 64 (65535 : Int)).toNat : Int)) ||| BitVec.ofInt 64 v).toNat : Int) = v := by
  rw [andNot65535 w h0 (by omega), show w - w % 65536 = 0 by omega, or_add 16 _ _ hv.1 (by omega) (by omega) (by omega) (by omega)]
  omega
/-- a byte is put into memory -/
def setB (m : List Int) (a b : Int) : List Int := m.set (a / 2).toNat (putB (wordAt m a) a b)
def Words (m : List Int) : Prop := m.length ≤ 100000 ∧ ∀ w ∈ m, 0 ≤ w ∧ w ≤ 65535
theorem word_in {m : List Int} (hm : Words m) {a : Int} (h0 : 0 ≤ a) (h1 : a < 2 * (m.length : Int)) : 0 ≤ wordAt m a ∧ wordAt m a ≤ 65535 := hm.2 _ (List.mem_of_getElem? (get_word h0 h1))
theorem copied_def (m : List Int) (hm : m.length ≤ 100000) : memory_copied m = some m := by
  simp [memory_copied, Tmemory_copied, Tree.run]
  omega
/-- the bad addresses without one -/
def without (bad : List Int) (c : Int) : List Int := bad.filter fun y => decide (y ≠ c)
theorem without_more {l : List Int} {c : Int} {i : Nat} (hi : i < l.length) : without (l.take (i + 1)) c = without (l.take i) c ++ (if l[i] = c then [] else [l[i]]) := by
  rw [take_one_more hi]
  unfold without
  rw [List.filter_append]
  by_cases he : l[i] = c <;> simp [he]
theorem without_take_eq {l : List Int} {c : Int} {k : Nat} (h : ∀ i, i < k → l[i]? ≠ some c) : without (l.take k) c = l.take k := by
  unfold without
  rw [List.filter_eq_self]
  intro y hy
  obtain ⟨i, hi, he⟩ := List.mem_iff_getElem.1 hy
  rw [List.getElem_take] at he
  have hlt : i < k := by rw [List.length_take] at hi; omega
  have := h i hlt
  rw [List.getElem?_eq_getElem (by rw [List.length_take] at hi; omega), he] at this
  simp at this ⊢
  exact this
/-- memory after an access that writes -/
def writeM (m bad : List Int) (a : Int) (b : Bool) (v : Int) : List Int × List Int × Int := if okA m a b then (m.set (a / 2).toNat (putW (wordAt m a) a b v), without bad (a - a % 2), 0) else ([], [], 1)
def Bads (n : Nat) (bad : List Int) : Prop := ∀ i, (h : i < bad.length) → 0 ≤ bad[i] ∧ bad[i] < 2 * (n : Int) ∧ bad[i] % 2 = 0 ∧ ∀ h' : 0 < i, bad[i - 1] < bad[i]
def Sized (n : Int) : Prop := 256 ≤ n ∧ n ≤ 32768 ∧ n % 64 = 0
instance (n) : Decidable (Sized n) := by unfold Sized; infer_instance
def Rt (m bad : List Int) : Prop := Sized (2 * (m.length : Int)) ∧ (∀ w ∈ m, 0 ≤ w ∧ w ≤ 65535) ∧ Bads m.length bad
theorem Size_def (n : Int) : ref08_Size n = some (decide (Sized n)) := by
  simp only [ref08_Size, Tref08_Size, Tree.run]
  by_cases h0 : 0 ≤ n
  · rw [tmod_nn h0]
    simp only [decide_eq_true_eq, show ¬ (64 : Int) = 0 by omega, if_false]
    repeat' split
    all_goals (rw [Option.some.injEq]; first | (symm; rw [decide_eq_false_iff_not]; unfold Sized; omega) | (rw [decide_eq_decide]; unfold Sized; omega))
  · have : ¬ Sized n := fun h => h0 (by have := h.1; omega)
    simp [this]; omega
theorem words_iff (m : List Int) : (∀ i, i < m.length → ∀ y, m[i]? = some y → 0 ≤ y ∧ y ≤ 65535) ↔ ∀ w ∈ m, 0 ≤ w ∧ w ≤ 65535 := by
  constructor
  · intro h w hw
    obtain ⟨i, hi, he⟩ := List.mem_iff_getElem.1 hw
    exact h i hi w (by rw [List.getElem?_eq_getElem hi, he])
  · intro h i hi y hy
    exact h y (List.mem_of_getElem? hy)
theorem ref_words (m bad : List Int) (hm : m.length ≤ 100000) : Lref08_Right_0 none ⟨m, bad, (0 : Int)⟩ = some (if ∀ w ∈ m, 0 ≤ w ∧ w ≤ 65535 then .inr (m, bad) else .inl (m, bad, false)) := by
  have hs := lim_scan (f := fun s => (Wref08_Right_0 s).run) (fun i : Nat => ⟨m, bad, (i : Int)⟩) m.length (fun i => ∀ y, m[i]? = some y → 0 ≤ y ∧ y ≤ 65535) (fun i => .inl (m, bad, false)) (.inr (m, bad))
    (fun i hi hp => by
      have hp' := hp m[i] (List.getElem?_eq_getElem hi)
      have h1 : ¬ m[i] < 0 := by omega
      have h2 : ¬ 65535 < m[i] := by omega
      simp [Wref08_Right_0, Tree.run, hi, wrap_succ hi (show m.length ≤ 9223372036854775807 by omega), h1, h2])
    (fun i hi hp => by
      have hp' : ¬ (0 ≤ m[i] ∧ m[i] ≤ 65535) := fun h => hp fun y hy => by
        rw [List.getElem?_eq_getElem hi] at hy
        rw [← Option.some.inj hy]; exact h
      by_cases h1 : m[i] < 0
      · simp [Wref08_Right_0, Tree.run, hi, h1]
      · have h2 : 65535 < m[i] := by omega
        simp [Wref08_Right_0, Tree.run, hi, h1, h2])
    (by simp [Wref08_Right_0, Tree.run])
  rcases hs with ⟨h1, h2⟩ | ⟨i, hi, h1, h2⟩
  · rw [if_pos ((words_iff m).1 h1)]; exact h2
  · rw [if_neg fun h => h1 ((words_iff m).2 h i hi)]; exact h2
/-- a bad address in its place -/
def GoodAt (n : Nat) (bad : List Int) (i : Nat) : Prop := ∀ h : i < bad.length, 0 ≤ bad[i] ∧ bad[i] < 2 * (n : Int) ∧ bad[i] % 2 = 0 ∧ ∀ h' : 0 < i, bad[i - 1] < bad[i]
def lastOf (bad : List Int) (i : Nat) : Int := if i = 0 then -1 else bad.getD (i - 1) 0
def GoodAt' (n : Nat) (bad : List Int) (i : Nat) : Prop := ∀ h : i < bad.length, lastOf bad i < bad[i] ∧ bad[i].tmod 2 = 0 ∧ bad[i] < 2 * (n : Int)
theorem bads_iff (n : Nat) (bad : List Int) : (∀ i, i < bad.length → GoodAt n bad i) ↔ Bads n bad := ⟨fun h i hi => h i hi hi, fun h i _ hi => h i hi⟩
theorem bads_iff' (n : Nat) (bad : List Int) : (∀ i, i < bad.length → GoodAt' n bad i) ↔ Bads n bad := by
  constructor
  · intro h i
    induction i with
    | zero =>
      intro hi
      obtain ⟨h1, h2, h3⟩ := h 0 hi hi
      have h1' : -1 < bad[0] := h1
      rw [tmod_nn (by omega)] at h2
      exact ⟨by omega, h3, h2, fun h' => absurd h' (by omega)⟩
    | succ i ih =>
      intro hi
      have hi' : i < bad.length := by omega
      obtain ⟨h1, h2, h3⟩ := h (i + 1) hi hi
      have hp := ih hi'
      have hl : lastOf bad (i + 1) = bad[i] := by simp [lastOf, hi']
      rw [hl] at h1
      rw [tmod_nn (by omega)] at h2
      exact ⟨by omega, h3, h2, fun _ => h1⟩
  · intro h i hi _
    obtain ⟨h1, h2, h3, h4⟩ := h i hi
    refine ⟨?_, by rw [tmod_nn h1]; exact h3, h2⟩
    by_cases h0 : i = 0
    · subst h0; simp [lastOf]; omega
    · have hlt : i - 1 < bad.length := by omega
      have := h4 (by omega)
      simp [lastOf, h0, hlt]; exact this
theorem ref_bads (m bad : List Int) (hm : m.length ≤ 100000) (hb : bad.length ≤ 100000) : ∃ r, Lref08_Right_1 none ⟨m, bad, (0 : Int)⟩ = some r ∧ (r = .inr () ∧ Bads m.length bad ∨ r = .inl false ∧ ¬ Bads m.length bad) := by
  have hs := lim_scan (f := fun s => (Wref08_Right_1 s).run) (fun i : Nat => ⟨m, bad, (i : Int)⟩) bad.length (GoodAt m.length bad) (fun i => .inl false) (.inr ())
    (fun i hi hp => by
      obtain ⟨h1, h2, h3, h4⟩ := hp hi
      have h5 : ¬ bad[i] < 0 := by omega
      have h6 : ¬ 2 * (m.length : Int) ≤ bad[i] := by omega
      by_cases h0 : 0 < i
      · have h7 := h4 h0
        have h8 : ¬ bad[i] ≤ bad[i - 1] := by omega
        have h9 : IntKind.wrap .i64 ((i : Int) - 1) = ((i - 1 : Nat) : Int) := by rw [wrap_id] <;> omega
        have h10 : i - 1 < bad.length := by omega
        simp [Wref08_Right_1, Tree.run, hi, wrap_succ hi (show bad.length ≤ 9223372036854775807 by omega), h5, wrap2 hm, h6, tmod_nn h1, h3, h0, h9, h10, h8]
      · have h00 : i = 0 := by omega
        subst h00
        simp [Wref08_Right_1, Tree.run, hi, wrap_id (n := 1) (by omega) (by omega), h5, wrap2 hm, h6, tmod_nn h1, h3])
    (fun i hi hp => by
      by_cases h1 : bad[i] < 0
      · simp [Wref08_Right_1, Tree.run, hi, h1]
      by_cases h2 : 2 * (m.length : Int) ≤ bad[i]
      · simp [Wref08_Right_1, Tree.run, hi, h1, wrap2 hm, h2]
      by_cases h3 : bad[i] % 2 = 0
      · by_cases h0 : 0 < i
        · have h10 : i - 1 < bad.length := by omega
          have h9 : IntKind.wrap .i64 ((i : Int) - 1) = ((i - 1 : Nat) : Int) := by rw [wrap_id] <;> omega
          by_cases h4 : bad[i] ≤ bad[i - 1]
          · simp [Wref08_Right_1, Tree.run, hi, h1, wrap2 hm, h2, tmod_nn (show 0 ≤ bad[i] by omega), h3, h0, h9, h10, h4]
          · exact absurd (fun h => ⟨by omega, by omega, h3, fun _ => by omega⟩) hp
        · exact absurd (fun h => ⟨by omega, by omega, h3, fun h' => absurd h' h0⟩) hp
      · simp [Wref08_Right_1, Tree.run, hi, h1, wrap2 hm, h2, tmod_nn (show 0 ≤ bad[i] by omega), h3])
    (by simp [Wref08_Right_1, Tree.run])
  rcases hs with ⟨h1, h2⟩ | ⟨i, hi, h1, h2⟩
  · exact ⟨_, h2, .inl ⟨rfl, (bads_iff _ _).1 h1⟩⟩
  · exact ⟨_, h2, .inr ⟨rfl, fun h => h1 ((bads_iff _ _).2 h i hi)⟩⟩
open Classical in
theorem ref_Right_def (m bad : List Int) (hm : m.length ≤ 100000) (hb : bad.length ≤ 100000) : ref08_Right none m bad = some (decide (Rt m bad)) := by
  obtain ⟨r, hr, hc⟩ := ref_bads m bad hm hb
  simp only [ref08_Right, Tref08_Right, Tree.run, wrap2 hm, Size_def, Option.bind_some, ref_words m bad hm]
  by_cases h1 : Sized (2 * (m.length : Int))
  · by_cases h2 : ∀ w ∈ m, 0 ≤ w ∧ w ≤ 65535
    · rw [if_pos h2]
      rcases hc with ⟨e, h3⟩ | ⟨e, h3⟩
      · simp [h1, hr, e, Rt, h3]; exact h2
      · simp [h1, hr, e, Rt, h3]
    · rw [if_neg h2]
      have : ¬ Rt m bad := fun h => h2 h.2.1
      simp [h1, this]
  · have : ¬ Rt m bad := fun h => h1 h.1
    simp [h1, this]
/-- a range within memory -/
def Wn (m : List Int) (a n : Int) : Prop := 0 ≤ a ∧ 0 ≤ n ∧ a ≤ 2 * (m.length : Int) ∧ n ≤ 2 * (m.length : Int) - a
instance (m a n) : Decidable (Wn m a n) := by unfold Wn; infer_instance
theorem within_def (m : List Int) (a n : Int) (hm : m.length ≤ 100000) : memory_within m a n = some (decide (Wn m a n)) := by
  simp only [memory_within, Tmemory_within, Tree.run, wrap2 hm, decide_eq_true_eq]
  by_cases h0 : 0 ≤ a
  · by_cases h1 : 0 ≤ n
    · by_cases h2 : a ≤ 2 * (m.length : Int)
      · rw [if_pos h0, if_pos h1, if_pos h2, wrap_id (by omega) (by omega), Option.some.injEq, decide_eq_decide]
        unfold Wn; omega
      · have : ¬ Wn m a n := fun h => h2 h.2.2.1
        simp [h0, h1, h2, this]
    · have : ¬ Wn m a n := fun h => h1 h.2.1
      simp [h0, h1, this]
  · have : ¬ Wn m a n := fun h => h0 h.1
    simp [h0, this]
theorem up_def {a : Int} (h0 : 0 ≤ a) : IntKind.wrap .i64 (a.tmod 2 * 8) = if a % 2 = 0 then 0 else 8 := by
  rw [tmod_nn h0, wrap_id (by omega) (by omega)]
  split <;> omega
theorem shr_byte (m : List Int) {a : Int} (h0 : 0 ≤ a) : IntKind.wrap .u8 ((wordAt m a).fdiv (2 ^ (min (IntKind.wrap .i64 (a.tmod 2 * 8)).toNat 64))) = byteAt m a := by
  rw [IntKind.wrap_u8, up_def h0, byteAt]
  split
  · rw [show (2 : Int) ^ (min ((0 : Int)).toNat 64) = 1 by decide, fdiv_pos _ (by omega), Int.ediv_one]
  · rw [show (2 : Int) ^ (min ((8 : Int)).toNat 64) = 256 by decide, fdiv_pos _ (by omega)]
theorem byteAt_in (m : List Int) (a : Int) : 0 ≤ byteAt m a ∧ byteAt m a ≤ 255 := by
  unfold byteAt
  split <;> omega
def bytesL (m : List Int) (a : Int) (n : Nat) : List Int := (List.range n).map fun i => byteAt m (a + (i : Nat))
theorem bytesL_succ (m : List Int) (a : Int) (n : Nat) : bytesL m a (n + 1) = bytesL m a n ++ [byteAt m (a + (n : Nat))] := by
  simp [bytesL, List.range_succ]
theorem bytesL_len (m : List Int) (a : Int) (n : Nat) : (bytesL m a n).length = n := by simp [bytesL]
def outB (m : List Int) (a : Int) (n : Nat) : List UInt8 := (bytesL m a n).map fun x => UInt8.ofNat x.toNat
theorem outB_len (m : List Int) (a : Int) (n : Nat) : (outB m a n).length = n := by simp [outB, bytesL]
def bytesM (m : List Int) (a n : Int) : List UInt8 × Int := if Wn m a n then (outB m a n.toNat, 0) else ([], 2)
def storeL : List Int → Int → List UInt8 → List Int
  | m, _, [] => m
  | m, a, c :: s => storeL (setB m a (c.toNat : Int)) (a + 1) s
theorem storeL_more (m : List Int) (a : Int) (s : List UInt8) (c : UInt8) : storeL m a (s ++ [c]) = setB (storeL m a s) (a + (s.length : Int)) (c.toNat : Int) := by
  induction s generalizing m a with
  | nil => simp [storeL]
  | cons d s ih =>
    simp only [List.cons_append, storeL, ih, List.length_cons]
    congr 1
    omega
theorem setB_len (m : List Int) (a b : Int) : (setB m a b).length = m.length := by simp [setB]
theorem storeL_len (m : List Int) (a : Int) (s : List UInt8) : (storeL m a s).length = m.length := by
  induction s generalizing m a with
  | nil => rfl
  | cons d s ih => rw [storeL, ih, setB_len]
theorem setB_words {m : List Int} {a b : Int} (hm : Words m) (h0 : 0 ≤ a) (h1 : a < 2 * (m.length : Int)) (hb : 0 ≤ b ∧ b ≤ 255) : Words (setB m a b) := by
  refine ⟨by rw [setB_len]; exact hm.1, fun w hw => ?_⟩
  rcases List.mem_or_eq_of_mem_set hw with h | h
  · exact hm.2 w h
  · have := word_in hm h0 h1
    rw [h]; unfold putB; split <;> omega
theorem byte_lt (c : UInt8) : 0 ≤ (c.toNat : Int) ∧ (c.toNat : Int) ≤ 255 := by have := c.toNat_lt; omega
theorem storeL_words {m : List Int} {a : Int} {s : List UInt8} (hm : Words m) (h0 : 0 ≤ a) (h1 : a + (s.length : Int) ≤ 2 * (m.length : Int)) : Words (storeL m a s) := by
  induction s generalizing m a with
  | nil => exact hm
  | cons d s ih =>
    simp only [List.length_cons] at h1
    exact ih (setB_words hm h0 (by omega) (byte_lt d)) (by omega) (by rw [setB_len]; omega)
def storeM (m : List Int) (a : Int) (s : List UInt8) : List Int × Int := if Wn m a (s.length : Int) then (storeL m a s, 0) else ([], 2)
theorem u8_nat (c : UInt8) : IntKind.wrap .i64 (c.toNat : Int) = (c.toNat : Int) := by have := c.toNat_lt; exact wrap_id (by omega) (by omega)
theorem put_eq (b : List Int) (a : Int) (c : UInt8) (hw : Words b) (h0 : 0 ≤ a) (h1 : a < 2 * (b.length : Int)) : IntKind.wrap .i64 ((BitVec.ofInt 64 (IntKind.wrap .i64 ((BitVec.ofInt 64 (wordAt b a) &&& ~~~BitVec.ofInt 64 (IntKind.wrap .i64 ((255 : Int) * 2 ^ (min (IntKind.wrap .i64 (a.tmod 2 * 8)).toNat 64)))).toNat : Int)) ||| BitVec.ofInt 64 (IntKind.wrap .i64 ((IntKind.wrap .i64 (c.toNat : Int)) * 2 ^ (min (IntKind.wrap .i64 (a.tmod 2 * 8)).toNat 64)))).toNat : Int) = putB (wordAt b a) a (c.toNat : Int) := by
  have hb := byte_lt c
  have hi := word_in hw h0 h1
  rw [up_def h0, u8_nat]
  unfold putB
  split
  · rw [show (2 : Int) ^ (min ((0 : Int)).toNat 64) = 1 by decide, Int.mul_one, Int.mul_one, wrap_id (n := 255) (by omega) (by omega), wrap_id (n := (c.toNat : Int)) (by omega) (by omega), bits_lo _ _ hi.1 hi.2 hb]
  · rw [show (2 : Int) ^ (min ((8 : Int)).toNat 64) = 256 by decide, wrap_id (n := 255 * 256) (by omega) (by omega), wrap_id (n := (c.toNat : Int) * 256) (by omega) (by omega), show (255 : Int) * 256 = 65280 by omega, bits_hi _ _ hi.1 hi.2 hb]
theorem Store_loop (m : List Int) (a : Int) (s : List UInt8) (hm : Words m) (h : Wn m a (s.length : Int)) : Lmemory_Store_0 none ⟨a, s, (s.length : Int), (0 : Int), m⟩ = some (storeL m a s) := by
  obtain ⟨h0, h1, h2, h3⟩ := h
  have hl := hm.1
  have hc := lim_count (f := fun s => (Wmemory_Store_0 s).run) (fun i : Nat => ⟨a, s, (s.length : Int), (i : Int), storeL m a (s.take i)⟩) s.length (fun i hi => by
    have e1 : IntKind.wrap .i64 (a + (i : Int)) = a + (i : Int) := wrap_id (by omega) (by omega)
    have h4 : 0 ≤ a + (i : Int) := by omega
    have h5 : 0 ≤ (a + (i : Int)) / 2 := by omega
    have h6 : 0 ≤ IntKind.wrap .i64 ((a + (i : Int)).tmod 2 * 8) := by rw [up_def h4]; split <;> omega
    have hlen : (storeL m a (s.take i)).length = m.length := storeL_len _ _ _
    have hlt : (s.take i).length = i := by rw [List.length_take]; omega
    have hw : Words (storeL m a (s.take i)) := storeL_words hm h0 (by rw [hlt]; omega)
    have h7 : (a + (i : Int)) / 2 < ((storeL m a (s.take i)).length : Int) := by rw [hlen]; omega
    have h8 : a + (i : Int) < 2 * ((storeL m a (s.take i)).length : Int) := by rw [hlen]; omega
    have hi' : (i : Int) < (s.length : Int) := by omega
    have h10 : (0 : Int) ≤ (i : Int) := by omega
    have h9 : storeL m a (s.take (i + 1)) = (storeL m a (s.take i)).set ((a + (i : Int)) / 2).toNat (putB (wordAt (storeL m a (s.take i)) (a + (i : Int))) (a + (i : Int)) (s[i].toNat : Int)) := by
      rw [take_one_more hi, storeL_more, hlt]; rfl
    simp only [Wmemory_Store_0, Tree.run, e1, half h4 (by omega), get_word h4 h8, wrap_succ hi (show s.length ≤ 9223372036854775807 by omega), hi', h10, h5, h6, h7, decide_true, if_true, show ¬ (2 : Int) = 0 by omega, decide_false, Bool.false_eq_true, if_false, Option.bind_some, Int.toNat_natCast, List.getElem?_eq_getElem hi, put_eq _ _ _ hw h4 h8, h9]) 0 (Nat.zero_le _)
  have hd : Lmemory_Store_0 none ⟨a, s, (s.length : Int), ((s.length : Nat) : Int), storeL m a (s.take s.length)⟩ = some (storeL m a (s.take s.length)) := lim_done (by simp [Wmemory_Store_0, Tree.run])
  have he : Lmemory_Store_0 none ⟨a, s, (s.length : Int), (0 : Int), storeL m a (s.take 0)⟩ = some (storeL m a (s.take s.length)) := hc.trans hd
  simpa [storeL] using he
theorem Store_def (m : List Int) (a : Int) (s : List UInt8) (hm : Words m) : memory_Store none m a s = some (storeM m a s) := by
  simp only [memory_Store, Tmemory_Store, Tree.run, within_def m a _ hm.1, copied_def m hm.1, Option.bind_some, storeM]
  by_cases h : Wn m a (s.length : Int)
  · simp only [h, decide_true, Bool.not_true, Bool.false_eq_true, if_false, if_true, Store_loop m a s hm h, Option.bind_some]
  · simp [h]
theorem wordAt_set (m : List Int) (a w c : Int) (h0 : 0 ≤ a) (h1 : a < 2 * (m.length : Int)) (hc : 0 ≤ c) : wordAt (m.set (a / 2).toNat w) c = if a / 2 = c / 2 then w else wordAt m c := by
  unfold wordAt
  have hlt : (a / 2).toNat < m.length := by omega
  rw [List.getD_eq_getElem?_getD, List.getD_eq_getElem?_getD, List.getElem?_set]
  by_cases h : a / 2 = c / 2
  · rw [if_pos (by rw [h]), if_pos h, if_pos hlt]; rfl
  · rw [if_neg (by omega), if_neg h]
theorem byteAt_setB (m : List Int) (a b c : Int) (hm : Words m) (h0 : 0 ≤ a) (h1 : a < 2 * (m.length : Int)) (hb : 0 ≤ b ∧ b ≤ 255) (hc : 0 ≤ c) : byteAt (setB m a b) c = if c = a then b else byteAt m c := by
  have hw := word_in hm h0 h1
  unfold byteAt setB
  rw [wordAt_set m a _ c h0 h1 hc]
  by_cases h : a / 2 = c / 2
  · have he : wordAt m c = wordAt m a := by unfold wordAt; rw [h]
    rw [if_pos h, he]
    unfold putB
    by_cases h2 : c = a
    · subst h2
      rw [if_pos rfl]
      split <;> omega
    · rw [if_neg h2]
      by_cases h3 : a % 2 = 0
      · rw [if_pos h3, if_neg (show ¬ c % 2 = 0 by omega), if_neg (show ¬ c % 2 = 0 by omega)]
        omega
      · rw [if_neg h3, if_pos (show c % 2 = 0 by omega), if_pos (show c % 2 = 0 by omega)]
        omega
  · have hne : ¬ c = a := fun he => h (by rw [he])
    rw [if_neg h, if_neg hne]
theorem byteAt_storeL (m : List Int) (a : Int) (s : List UInt8) (hm : Words m) (h0 : 0 ≤ a) (h1 : a + (s.length : Int) ≤ 2 * (m.length : Int)) (c : Int) (hc : 0 ≤ c) : byteAt (storeL m a s) c = if a ≤ c ∧ c < a + (s.length : Int) then ((s.getD (c - a).toNat 0).toNat : Int) else byteAt m c := by
  induction s generalizing m a with
  | nil =>
    have : ¬ (a ≤ c ∧ c < a + (([] : List UInt8).length : Int)) := by simp
    rw [storeL, if_neg this]
  | cons d s ih =>
    simp only [List.length_cons] at h1
    have hd := byte_lt d
    rw [storeL, ih (setB m a d.toNat) (a + 1) (setB_words hm h0 (by omega) hd) (by omega) (by rw [setB_len]; omega), byteAt_setB m a _ c hm h0 (by omega) hd hc]
    simp only [List.length_cons]
    by_cases h2 : a + 1 ≤ c ∧ c < a + 1 + (s.length : Int)
    · rw [if_pos h2, if_pos (by omega), show (c - a).toNat = (c - (a + 1)).toNat + 1 by omega, List.getD_cons_succ]
    · rw [if_neg h2]
      by_cases h3 : c = a
      · rw [if_pos h3, if_pos (by omega), show (c - a).toNat = 0 by omega]; rfl
      · rw [if_neg h3, if_neg (by omega)]
theorem outB_get (m : List Int) (a : Int) (n i : Nat) (h : i < (outB m a n).length) : (outB m a n)[i] = UInt8.ofNat (byteAt m (a + (i : Nat))).toNat := by
  simp [outB, bytesL]
theorem u8_back (c : UInt8) : UInt8.ofNat ((c.toNat : Int)).toNat = c := by simp
/-- what is stored is read -/
theorem outB_store (m : List Int) (a : Int) (s : List UInt8) (hm : Words m) (h0 : 0 ≤ a) (h1 : a + (s.length : Int) ≤ 2 * (m.length : Int)) : outB (storeL m a s) a s.length = s := by
  apply List.ext_getElem
  · rw [outB_len]
  · intro i h2 h3
    rw [outB_get, byteAt_storeL m a s hm h0 h1 _ (by omega), if_pos (by omega), show (a + (i : Int) - a).toNat = i by omega]
    simp [h3]
/-- all bytes after a store -/
theorem outB_all (m : List Int) (a : Int) (s : List UInt8) (hm : Words m) (h0 : 0 ≤ a) (h1 : a + (s.length : Int) ≤ 2 * (m.length : Int)) : outB (storeL m a s) 0 (2 * m.length) = (outB m 0 (2 * m.length)).take a.toNat ++ s ++ (outB m 0 (2 * m.length)).drop (a + (s.length : Int)).toNat := by
  have hlen : (outB m 0 (2 * m.length)).length = 2 * m.length := outB_len _ _ _
  have ht : ((outB m 0 (2 * m.length)).take a.toNat).length = a.toNat := by rw [List.length_take]; omega
  apply List.ext_getElem
  · simp [outB_len]; omega
  · intro i h2 h3
    rw [outB_len] at h2
    rw [outB_get, Int.zero_add, byteAt_storeL m a s hm h0 h1 _ (by omega)]
    by_cases h4 : i < a.toNat
    · rw [if_neg (by omega), List.getElem_append_left (by simp [outB_len]; omega), List.getElem_append_left (by rw [ht]; exact h4), List.getElem_take, outB_get, Int.zero_add]
    · by_cases h5 : i < a.toNat + s.length
      · rw [if_pos (by omega), List.getElem_append_left (by simp [outB_len]; omega), List.getElem_append_right (by rw [ht]; omega)]
        simp only [ht]
        have h6 : ((i : Int) - a).toNat = i - a.toNat := by omega
        have h7 : i - a.toNat < s.length := by omega
        simp [h6, h7]
      · rw [if_neg (by omega), List.getElem_append_right (by simp [outB_len]; omega)]
        have h6 : ((outB m 0 (2 * m.length)).take a.toNat ++ s).length = a.toNat + s.length := by rw [List.length_append, ht]
        simp only [h6, List.getElem_drop, outB_get, Int.zero_add]
        congr 3
        omega
end Go.Proofs.Ytghgcaieciklbaa.C08
end
section
set_option linter.unusedSimpArgs false
set_option linter.unusedVariables false
namespace Go.Proofs.Ytghgcaieciklbaa
open Go Go.Ab
def nums (l : List UInt8) : List Int := l.map fun b => (b.toNat : Int)
/-- a number that is put counts as 0 below 0 -/
def atl (v : Int) : Int := if v < 0 then 0 else v
theorem atl_nn (v : Int) : 0 ≤ atl v := by unfold atl; split <;> omega
/-- the first bytes of a number -/
def numsP (v : Int) (n : Nat) : List Int := (List.range n).map fun j => atl v / 256 ^ j % 256
theorem numsP_more (v : Int) (n : Nat) : numsP v (n + 1) = numsP v n ++ [atl v / 256 ^ n % 256] := by
  simp [numsP, List.range_succ]
theorem numsP_len (v : Int) (n : Nat) : (numsP v n).length = n := by simp [numsP]
def putL (v : Int) (n : Nat) : List UInt8 := (numsP v n).map fun x => UInt8.ofNat x.toNat
theorem wrap_u8 (x : Int) : IntKind.wrap .u8 x = x % 256 := rfl
theorem octet_put_loop (v : Int) (n : Nat) (hn : n ≤ 8) : Loctet_Put_0 none ⟨v, (n : Int), (0 : Int), List.replicate n 0⟩ = some (numsP v n) := by
  have hc := lim_count (f := fun s => (Woctet_Put_0 s).run) (fun i : Nat => ⟨v, (n : Int), (i : Int), numsP v i ++ List.replicate (n - i) 0⟩) n (fun i hi => by
    have k1 : (i : Int) < (n : Int) := by omega
    have k2 : (0 : Int) ≤ (i : Int) := by omega
    have w1 : IntKind.wrap .i64 (8 * (i : Int)) = ((8 * i : Nat) : Int) := by rw [wrap_id] <;> omega
    have k3 : (0 : Int) ≤ ((8 * i : Nat) : Int) := by omega
    have hlen : (numsP v i ++ List.replicate (n - i) (0 : Int)).length = n := by rw [List.length_append, numsP_len, List.length_replicate]; omega
    have k4 : (i : Int) < ((numsP v i ++ List.replicate (n - i) (0 : Int)).length : Int) := by rw [hlen]; exact k1
    have g := List.getElem?_eq_getElem (l := numsP v i ++ List.replicate (n - i) (0 : Int)) (i := i) (by omega)
    have w2 := wrap_succ hi (show n ≤ 9223372036854775807 by omega)
    have hv : (if (0 : Int) > v then (0 : Int) else v) = atl v := rfl
    have hp : (2 : Int) ^ (min (8 * i) 64) = 256 ^ i := by
      rw [Nat.min_eq_left (by omega), Int.pow_mul]
      rfl
    have hpos : (0 : Int) < 256 ^ i := Int.pow_pos (by omega)
    have hb : IntKind.wrap .u8 ((atl v).fdiv (256 ^ i)) = atl v / 256 ^ i % 256 := by rw [wrap_u8, fdiv_pos _ (Int.le_of_lt hpos)]
    have hset : (numsP v i ++ List.replicate (n - i) (0 : Int)).set i (atl v / 256 ^ i % 256) = numsP v (i + 1) ++ List.replicate (n - (i + 1)) 0 := by
      rw [List.set_append_right _ _ (by rw [numsP_len]; exact Nat.le_refl _), numsP_len, Nat.sub_self, show n - i = (n - (i + 1)) + 1 by omega, List.replicate_succ, List.set_cons_zero, numsP_more, List.append_assoc]
      rfl
    simp only [Woctet_Put_0, Tree.run, k1, k2, k3, k4, w1, w2, g, decide_true, if_true, Int.toNat_natCast, Option.bind_some, hv, hp, hb, hset]) 0 (Nat.zero_le _)
  have hd : Loctet_Put_0 none ⟨v, (n : Int), (n : Int), numsP v n ++ List.replicate (n - n) 0⟩ = some (numsP v n) := lim_done (by simp [Woctet_Put_0, Tree.run])
  have hc' : Loctet_Put_0 none ⟨v, (n : Int), ((0 : Nat) : Int), numsP v 0 ++ List.replicate (n - 0) 0⟩ = _ := hc
  have h0 : numsP v 0 = [] := rfl
  rw [h0, List.nil_append, Nat.sub_zero] at hc'
  exact hc'.trans hd
theorem octet_Put_def (v : Int) (n : Nat) (hn : n ≤ 8) : octet_Put none v (n : Int) = some (putL v n) := by
  have e1 : (if (8 : Int) < (n : Int) then (8 : Int) else (n : Int)) = (n : Int) := if_neg (by omega)
  have e2 : (if (n : Int) > (0 : Int) then (n : Int) else (0 : Int)) = (n : Int) := by split <;> omega
  have k1 : (0 : Int) ≤ (n : Int) := by omega
  have k2 : (1 : Int) * (n : Int) ≤ 281474976710656 := by omega
  have hl := octet_put_loop v n hn
  simp only [octet_Put, Toctet_Put, Tree.run, e1, e2, k1, k2, decide_true, if_true, Int.toNat_natCast, List.length_replicate, hl, Option.bind_some, putL]
theorem ref_put_loop (v : Int) (n : Nat) (hn : n ≤ 8) (hv : 0 ≤ v ∧ v ≤ 9223372036854775807) : Lref03_Put_0 none ⟨v, (n : Int), (0 : Int), []⟩ = some (numsP v n) := by
  have ha : atl v = v := if_neg (by omega)
  have hc := lim_count (f := fun s => (Wref03_Put_0 s).run) (fun i : Nat => ⟨v / 256 ^ i, (n : Int), (i : Int), numsP v i⟩) n (fun i hi => by
    have k1 : (i : Int) < (n : Int) := by omega
    have k2 : (i : Int) < 8 := by omega
    have hpos : (0 : Int) < 256 ^ i := Int.pow_pos (by omega)
    have h0 : 0 ≤ v / 256 ^ i := Int.ediv_nonneg hv.1 (by omega)
    have h1 : v / 256 ^ i ≤ v := Int.ediv_le_self _ hv.1
    have t1 : (v / 256 ^ i).tmod 256 = v / 256 ^ i % 256 := tmod_nn h0 _
    have t2 : IntKind.wrap .i64 ((v / 256 ^ i).tdiv 256) = v / 256 ^ (i + 1) := by
      rw [tdiv_nn h0, Int.ediv_ediv_of_nonneg (by omega), Int.pow_succ]
      exact wrap_id (by have := Int.ediv_nonneg hv.1 (show (0 : Int) ≤ 256 ^ i * 256 by omega); omega) (by have := Int.ediv_le_self (256 ^ i * 256) hv.1; omega)
    have w0 : IntKind.wrap .u8 (v / 256 ^ i % 256) = v / 256 ^ i % 256 := by rw [wrap_u8]; omega
    have w2 := wrap_succ hi (show n ≤ 9223372036854775807 by omega)
    have k3 : ((numsP v i).length + ([v / 256 ^ i % 256]).length) * 1 ≤ 140737488355328 := by rw [numsP_len]; simp only [List.length_cons, List.length_nil]; omega
    have hm := numsP_more v i
    rw [ha] at hm
    simp only [Wref03_Put_0, Tree.run, k1, k2, t1, t2, w0, w2, k3, decide_true, if_true, show ¬ (256 : Int) = 0 by omega, decide_false, Bool.false_eq_true, if_false, hm]) 0 (Nat.zero_le _)
  have hd : Lref03_Put_0 none ⟨v / 256 ^ n, (n : Int), (n : Int), numsP v n⟩ = some (numsP v n) := lim_done (by simp [Wref03_Put_0, Tree.run])
  have hc' : Lref03_Put_0 none ⟨v / 256 ^ 0, (n : Int), ((0 : Nat) : Int), numsP v 0⟩ = _ := hc
  have h0 : numsP v 0 = [] := rfl
  rw [h0, Int.pow_zero, Int.ediv_one] at hc'
  exact hc'.trans hd
theorem ref_Put_def (v : Int) (n : Nat) (hn : n ≤ 8) (hv : v ≤ 9223372036854775807) : ref03_Put none v (n : Int) = some (putL v n) := by
  simp only [ref03_Put, Tref03_Put, Tree.run]
  by_cases h : v < 0
  · have ha : atl v = 0 := if_pos h
    have h1 := ref_put_loop 0 n hn ⟨by omega, by omega⟩
    have h2 : numsP 0 n = numsP v n := by unfold numsP; rw [ha]; rfl
    rw [h2] at h1
    simp only [h, decide_true, if_true, h1, Option.bind_some, putL]
  · have h1 := ref_put_loop v n hn ⟨by omega, hv⟩
    simp only [h, decide_false, Bool.false_eq_true, if_false, h1, Option.bind_some, putL]
end Go.Proofs.Ytghgcaieciklbaa
end
section
set_option linter.unusedSimpArgs false
set_option linter.unusedVariables false
namespace Go.Proofs.Ytghgcaieciklbaa
open Go Go.Ab
theorem unnums (l : List UInt8) : (nums l).map (fun x => UInt8.ofNat x.toNat) = l := by
  rw [nums, List.map_map]
  refine (List.map_congr_left (g := id) fun b _ => ?_).trans (List.map_id _)
  simp
theorem putL_len (v : Int) (n : Nat) : (putL v n).length = n := by rw [putL, List.length_map, numsP_len]
theorem joined_def (a b : List UInt8) (h : a.length + b.length ≤ 140737488355328) : octet_joined none [a, b] = some (a ++ b) := by
  have l0 : (([] : List Int).length + (nums a).length) * 1 ≤ 140737488355328 := by rw [nums, List.length_map]; simp only [List.length_nil]; omega
  have l1 : ((nums a).length + (nums b).length) * 1 ≤ 140737488355328 := by rw [nums, nums, List.length_map, List.length_map]; omega
  have hc : Loctet_joined_0 none ⟨[a, b], 2, (0 : Int), []⟩ = some (nums (a ++ b)) := by
    have s0 : (Woctet_joined_0 ⟨[a, b], 2, (0 : Int), []⟩).run = some (.inl ⟨[a, b], 2, (1 : Int), nums a⟩) := by
      have w : IntKind.wrap .i64 ((0 : Int) + 1) = 1 := by decide
      have l0' : (([] : List Int).length + (a.map fun b => (b.toNat : Int)).length) * 1 ≤ 140737488355328 := l0
      simp only [Woctet_joined_0, Tree.run, show (0 : Int) < 2 by omega, show (0 : Int) ≤ 0 by omega, decide_true, if_true, show ((0 : Int)).toNat = 0 by rfl, List.getElem?_cons_zero, Option.bind_some, l0', w, List.nil_append]
      rfl
    have s1 : (Woctet_joined_0 ⟨[a, b], 2, (1 : Int), nums a⟩).run = some (.inl ⟨[a, b], 2, (2 : Int), nums a ++ nums b⟩) := by
      have w : IntKind.wrap .i64 ((1 : Int) + 1) = 2 := by decide
      have l1' : ((nums a).length + (b.map fun b => (b.toNat : Int)).length) * 1 ≤ 140737488355328 := l1
      simp only [Woctet_joined_0, Tree.run, show (1 : Int) < 2 by omega, show (0 : Int) ≤ 1 by omega, decide_true, if_true, show ((1 : Int)).toNat = 1 by rfl, List.getElem?_cons_succ, List.getElem?_cons_zero, Option.bind_some, l1', w]
      rfl
    have s2 : (Woctet_joined_0 ⟨[a, b], 2, (2 : Int), nums a ++ nums b⟩).run = some (.inr (nums a ++ nums b)) := by
      simp only [Woctet_joined_0, Tree.run, show ¬ (2 : Int) < 2 by omega, decide_false, Bool.false_eq_true, if_false]
    have e : nums (a ++ b) = nums a ++ nums b := by simp [nums]
    rw [e]
    exact (lim_next s0).trans ((lim_next s1).trans (lim_done s2))
  have hc' : Loctet_joined_0 none ⟨[a, b], (([a, b] : List (List UInt8)).length : Int), (0 : Int), []⟩ = some (nums (a ++ b)) := hc
  simp only [octet_joined, Toctet_joined, Tree.run, hc', Option.bind_some, unnums]
def putT (s : List UInt8) : List UInt8 := putL (s.length : Int) 2 ++ s
theorem PutText_def (s : List UInt8) (h : s.length ≤ 65535) : octet_PutText none s = some (putT s) ∧ ref03_PutText none s = some (putT s) := by
  have e1 : ¬ (65535 : Int) < (s.length : Int) := by omega
  have p1 := octet_Put_def (s.length : Int) 2 (by omega)
  have p2 := ref_Put_def (s.length : Int) 2 (by omega) (by omega)
  have hj := joined_def (putL (s.length : Int) 2) s (by rw [putL_len]; omega)
  have k0 : (0 : Int) ≤ (s.length : Int) := by omega
  have p1' : octet_Put none (s.length : Int) (2 : Int) = _ := p1
  have p2' : ref03_Put none (s.length : Int) (2 : Int) = _ := p2
  have l : (putL (s.length : Int) 2).length + s.length ≤ 9223372036854775807 := by rw [putL_len]; omega
  constructor
  · simp only [octet_PutText, Toctet_PutText, Tree.run, e1, if_false, k0, decide_true, if_true, Int.le_refl, Int.toNat_natCast, Nat.sub_zero, List.drop_zero, List.take_length, p1', hj, Option.bind_some, putT]
  · simp only [ref03_PutText, Tref03_PutText, Tree.run, e1, decide_false, Bool.false_eq_true, if_false, p2', Option.bind_some, l, decide_true, if_true, putT]
end Go.Proofs.Ytghgcaieciklbaa
end
section
set_option linter.unusedSimpArgs false
set_option linter.unusedVariables false
namespace Go.Proofs.Ytghgcaieciklbaa
open Go Go.Ab
theorem wrap_u32 (x : Int) : IntKind.wrap .u32 x = x % 4294967296 := rfl
theorem and1_32 (n : Nat) : (BitVec.ofInt 32 (n : Int) &&& BitVec.ofInt 32 (1 : Int)).toNat = n % 2 := by
  have h1 : BitVec.ofInt 32 (1 : Int) = 1#32 := by decide
  rw [h1, BitVec.toNat_and, BitVec.ofInt_natCast, BitVec.toNat_ofNat, BitVec.toNat_ofNat, show 1 % 2 ^ 32 = 1 by decide, Nat.and_one_is_mod]
  omega
theorem toNat_32 (n : Nat) (h : n < 4294967296) : (BitVec.ofInt 32 (n : Int)).toNat = n := by
  rw [BitVec.ofInt_natCast, BitVec.toNat_ofNat]
  exact Nat.mod_eq_of_lt h
/-- a step of the checksum -/
def crcS (c : Int) : Int := if c % 2 = 1 then ((BitVec.ofInt 32 (c / 2) ^^^ BitVec.ofInt 32 (3988292384 : Int)).toNat : Int) else c / 2
def U32 (c : Int) : Prop := 0 ≤ c ∧ c < 4294967296
theorem u32_bv (b : BitVec 32) : U32 (b.toNat : Int) := ⟨by omega, by have := b.isLt; omega⟩
theorem wrap_bv (b : BitVec 32) : IntKind.wrap .u32 (b.toNat : Int) = (b.toNat : Int) := by
  have := u32_bv b
  rw [wrap_u32]; exact Int.emod_eq_of_lt this.1 this.2
theorem crcS_in {c : Int} (h : U32 c) : U32 (crcS c) := by
  unfold crcS
  split
  · exact u32_bv _
  · unfold U32 at h ⊢; omega
theorem half1 (c : Int) : c.fdiv (2 ^ (min ((1 : Int)).toNat 32)) = c / 2 := by
  rw [show (2 : Int) ^ (min ((1 : Int)).toNat 32) = 2 by decide, fdiv_pos _ (by omega)]
theorem step_image {c : Int} (h : U32 c) : IntKind.wrap .u32 ((BitVec.ofInt 32 (c / 2) ^^^ BitVec.ofInt 32 (IntKind.wrap .u32 ((IntKind.wrap .u32 ((BitVec.ofInt 32 c &&& BitVec.ofInt 32 (1 : Int)).toNat : Int)) * 3988292384))).toNat : Int) = crcS c := by
  obtain ⟨n, rfl⟩ : ∃ n : Nat, c = (n : Int) := ⟨c.toNat, by have := h.1; omega⟩
  rw [wrap_bv, and1_32]
  have h2 := h.2
  unfold crcS
  rcases (show n % 2 = 0 ∨ n % 2 = 1 by omega) with h1 | h1
  · rw [h1, if_neg (by omega), show IntKind.wrap .u32 ((IntKind.wrap .u32 (((0 : Nat)) : Int)) * 3988292384) = 0 by decide, show BitVec.ofInt 32 (0 : Int) = 0#32 by decide, BitVec.xor_zero, show (n : Int) / 2 = ((n / 2 : Nat) : Int) by omega, toNat_32 _ (by omega)]
  · rw [h1, if_pos (by omega), show IntKind.wrap .u32 ((IntKind.wrap .u32 (((1 : Nat)) : Int)) * 3988292384) = 3988292384 by decide]
def crcN (c : Int) : Nat → Int
  | 0 => c
  | k + 1 => crcS (crcN c k)
theorem crcN_in {c : Int} (h : U32 c) : ∀ k, U32 (crcN c k)
  | 0 => h
  | k + 1 => crcS_in (crcN_in h k)
theorem sum2 (s : Soctet_sum_2) (c : Int) (h : U32 c) : Loctet_sum_2 none { s with t3 := c, t25 := 0 } = some (crcN c 8, s.t5, s.t8, s.t9, s.t10, s.t15, s.t16) := by
  have hc := lim_count (f := fun s => (Woctet_sum_2 s).run) (fun i : Nat => { s with t3 := crcN c i, t25 := (i : Int) }) 8 (fun i hi => by
    have k1 : (i : Int) < 8 := by omega
    have w := wrap_succ hi (show 8 ≤ 9223372036854775807 by omega)
    simp only [Woctet_sum_2, Tree.run, k1, decide_true, if_true, show (0 : Int) ≤ 1 by omega, half1, step_image (crcN_in h i), w, crcN]) 0 (Nat.zero_le _)
  have hd : Loctet_sum_2 none { s with t3 := crcN c 8, t25 := ((8 : Nat) : Int) } = some (crcN c 8, s.t5, s.t8, s.t9, s.t10, s.t15, s.t16) := lim_done (by simp [Woctet_sum_2, Tree.run])
  exact hc.trans hd
theorem crc1 (l : List UInt8) (c at_ : Int) (h : U32 c) : Lref03_Crc_1 none ⟨l, c, at_, (0 : Int)⟩ = some (l, crcN c 8, at_) := by
  have hc := lim_count (f := fun s => (Wref03_Crc_1 s).run) (fun i : Nat => ⟨l, crcN c i, at_, (i : Int)⟩) 8 (fun i hi => by
    have k1 : (i : Int) < 8 := by omega
    have w := wrap_succ hi (show 8 ≤ 9223372036854775807 by omega)
    have hu := crcN_in h i
    have t : (crcN c i).tmod 2 = crcN c i % 2 := tmod_nn hu.1 _
    by_cases p : crcN c i % 2 = 1
    · have e : crcN c (i + 1) = ((BitVec.ofInt 32 (crcN c i / 2) ^^^ BitVec.ofInt 32 (3988292384 : Int)).toNat : Int) := by
        show crcS (crcN c i) = _
        unfold crcS
        rw [if_pos p]
      simp only [Wref03_Crc_1, Tree.run, k1, decide_true, if_true, show ¬ (2 : Int) = 0 by omega, decide_false, Bool.false_eq_true, if_false, t, p, show (0 : Int) ≤ 1 by omega, half1, wrap_bv, w, e]
    · have e : crcN c (i + 1) = crcN c i / 2 := by
        show crcS (crcN c i) = _
        unfold crcS
        rw [if_neg p]
      simp only [Wref03_Crc_1, Tree.run, k1, decide_true, if_true, show ¬ (2 : Int) = 0 by omega, decide_false, Bool.false_eq_true, if_false, t, p, show (0 : Int) ≤ 1 by omega, half1, w, e]) 0 (Nat.zero_le _)
  have hd : Lref03_Crc_1 none ⟨l, crcN c 8, at_, ((8 : Nat) : Int)⟩ = some (l, crcN c 8, at_) := lim_done (by simp [Wref03_Crc_1, Tree.run])
  exact hc.trans hd
def mixB (c : Int) (b : UInt8) : Int := ((BitVec.ofInt 32 c ^^^ BitVec.ofInt 32 (IntKind.wrap .u32 (b.toNat : Int))).toNat : Int)
def crcB (c : Int) (l : List UInt8) : Int := l.foldl (fun c b => crcN (mixB c b) 8) c
theorem crcB_more (c : Int) (l : List UInt8) (b : UInt8) : crcB c (l ++ [b]) = crcN (mixB (crcB c l) b) 8 := by
  simp [crcB]
theorem sum1 (s : Soctet_sum_1) (l : List UInt8) (c : Int) (hl : l.length ≤ 9223372036854775807) (h5 : s.t5 = l) (h15 : s.t15 = (l.length : Int)) : Loctet_sum_1 none { s with t3 := c, t16 := 0 } = some (crcB c l, s.t8, s.t9, s.t10) := by
  have hc := lim_count (f := fun s => (Woctet_sum_1 none s).run) (fun i : Nat => { s with t3 := crcB c (l.take i), t16 := (i : Int) }) l.length (fun i hi => by
    have k1 : (i : Int) < s.t15 := by rw [h15]; omega
    have k2 : (0 : Int) ≤ (i : Int) := by omega
    have g : s.t5[i]? = some l[i] := by rw [h5, List.getElem?_eq_getElem hi]
    have w := wrap_succ hi hl
    have e := crcB_more c (l.take i) l[i]
    rw [← take_one_more hi] at e
    have q := sum2 ⟨mixB (crcB c (l.take i)) l[i], s.t5, s.t8, s.t9, s.t10, s.t15, (i : Int), 0⟩ (mixB (crcB c (l.take i)) l[i]) (u32_bv _)
    have q' : Loctet_sum_2 none ⟨((BitVec.ofInt 32 (crcB c (l.take i)) ^^^ BitVec.ofInt 32 (IntKind.wrap .u32 (l[i].toNat : Int))).toNat : Int), s.t5, s.t8, s.t9, s.t10, s.t15, (i : Int), 0⟩ = some (crcN (mixB (crcB c (l.take i)) l[i]) 8, s.t5, s.t8, s.t9, s.t10, s.t15, (i : Int)) := q
    simp only [Woctet_sum_1, Tree.run, k1, k2, decide_true, if_true, Int.toNat_natCast, g, Option.bind_some, wrap_bv, q', w, e]) 0 (Nat.zero_le _)
  have hd : Loctet_sum_1 none { s with t3 := crcB c (l.take l.length), t16 := (l.length : Int) } = some (crcB c (l.take l.length), s.t8, s.t9, s.t10) := lim_done (by
    have k1 : ¬ (l.length : Int) < s.t15 := by rw [h15]; omega
    simp only [Woctet_sum_1, Tree.run, k1, decide_false, Bool.false_eq_true, if_false])
  rw [List.take_length] at hd
  have hc' := hc
  rw [List.take_length] at hc'
  exact hc'.trans hd
theorem crc0 (l : List UInt8) (hl : l.length ≤ 9223372036854775807) : Lref03_Crc_0 none ⟨l, (4294967295 : Int), (0 : Int)⟩ = some (crcB 4294967295 l) := by
  have hc := lim_count (f := fun s => (Wref03_Crc_0 none s).run) (fun i : Nat => ⟨l, crcB 4294967295 (l.take i), (i : Int)⟩) l.length (fun i hi => by
    have k1 : (i : Int) < (l.length : Int) := by omega
    have k2 : (0 : Int) ≤ (i : Int) := by omega
    have g := List.getElem?_eq_getElem hi
    have w := wrap_succ hi hl
    have e := crcB_more 4294967295 (l.take i) l[i]
    rw [← take_one_more hi] at e
    have q := crc1 l (mixB (crcB 4294967295 (l.take i)) l[i]) (i : Int) (u32_bv _)
    have q' : Lref03_Crc_1 none ⟨l, ((BitVec.ofInt 32 (crcB 4294967295 (l.take i)) ^^^ BitVec.ofInt 32 (IntKind.wrap .u32 (l[i].toNat : Int))).toNat : Int), (i : Int), 0⟩ = some (l, crcN (mixB (crcB 4294967295 (l.take i)) l[i]) 8, (i : Int)) := q
    simp only [Wref03_Crc_0, Tree.run, k1, k2, decide_true, if_true, Int.toNat_natCast, g, Option.bind_some, wrap_bv, q', w, e]) 0 (Nat.zero_le _)
  have hd : Lref03_Crc_0 none ⟨l, crcB 4294967295 (l.take l.length), (l.length : Int)⟩ = some (crcB 4294967295 (l.take l.length)) := lim_done (by simp [Wref03_Crc_0, Tree.run])
  rw [List.take_length] at hd
  have hc' := hc
  rw [List.take_length] at hc'
  exact hc'.trans hd
def crcV (l : List UInt8) : Int := ((BitVec.ofInt 32 (crcB 4294967295 l) ^^^ BitVec.ofInt 32 (4294967295 : Int)).toNat : Int)
theorem crcV_in (l : List UInt8) : U32 (crcV l) := u32_bv _
theorem wrapV (l : List UInt8) : IntKind.wrap .i64 (crcV l) = crcV l := by
  have := crcV_in l
  unfold U32 at this
  exact wrap_id (by omega) (by omega)
theorem Crc_def (l : List UInt8) (hl : l.length ≤ 9223372036854775807) : ref03_Crc none l = some (crcV l) := by
  have h := wrapV l
  unfold crcV at h ⊢
  simp only [ref03_Crc, Tref03_Crc, Tree.run, crc0 l hl, Option.bind_some, wrap_bv, h]
theorem sum_def (l : List UInt8) (hl : l.length ≤ 9223372036854775807) : octet_sum none [l] = some (crcV l) := by
  have s0 : (Woctet_sum_0 none ⟨(4294967295 : Int), [l], 1, (0 : Int)⟩).run = some (.inl ⟨crcB 4294967295 l, [l], 1, (1 : Int)⟩) := by
    have w : IntKind.wrap .i64 ((0 : Int) + 1) = 1 := by decide
    have q := sum1 ⟨4294967295, l, [l], 1, 0, (l.length : Int), 0⟩ l 4294967295 hl rfl rfl
    have q' : Loctet_sum_1 none ⟨4294967295, l, [l], 1, 0, (l.length : Int), 0⟩ = some (crcB 4294967295 l, [l], 1, 0) := q
    simp only [Woctet_sum_0, Tree.run, show (0 : Int) < 1 by omega, show (0 : Int) ≤ 0 by omega, decide_true, if_true, show ((0 : Int)).toNat = 0 by rfl, List.getElem?_cons_zero, Option.bind_some, q', w]
  have s1 : (Woctet_sum_0 none ⟨crcB 4294967295 l, [l], 1, (1 : Int)⟩).run = some (.inr (crcB 4294967295 l)) := by
    simp only [Woctet_sum_0, Tree.run, show ¬ (1 : Int) < 1 by omega, decide_false, Bool.false_eq_true, if_false]
  have hc : Loctet_sum_0 none ⟨(4294967295 : Int), [l], (([l] : List (List UInt8)).length : Int), (0 : Int)⟩ = some (crcB 4294967295 l) := (lim_next s0).trans (lim_done s1)
  have h := wrapV l
  unfold crcV at h ⊢
  rw [BitVec.xor_comm] at h ⊢
  have e : BitVec.ofInt 32 4294967295 = BitVec.ofInt 32 (4294967295 : Int) := rfl
  simp only [octet_sum, Toctet_sum, Tree.run, hc, Option.bind_some, wrap_bv, h]
def sealL (l : List UInt8) : List UInt8 := l ++ putL (crcV l) 4
theorem Seal_def (l : List UInt8) (hl : l.length ≤ 100000000) : octet_Seal none l = some (sealL l) ∧ ref03_Seal none l = some (sealL l) := by
  have hv := crcV_in l
  unfold U32 at hv
  have p1 : octet_Put none (crcV l) (4 : Int) = some (putL (crcV l) 4) := octet_Put_def (crcV l) 4 (by omega)
  have p2 : ref03_Put none (crcV l) (4 : Int) = some (putL (crcV l) 4) := ref_Put_def (crcV l) 4 (by omega) (by omega)
  have hj := joined_def l (putL (crcV l) 4) (by rw [putL_len]; omega)
  have k : l.length + (putL (crcV l) 4).length ≤ 9223372036854775807 := by rw [putL_len]; omega
  constructor
  · simp only [octet_Seal, Toctet_Seal, Tree.run, sum_def l (by omega), p1, hj, Option.bind_some, sealL]
  · simp only [ref03_Seal, Tref03_Seal, Tree.run, Crc_def l (by omega), p2, k, decide_true, if_true, Option.bind_some, sealL]
end Go.Proofs.Ytghgcaieciklbaa
end
section
set_option linter.unusedSimpArgs false
set_option linter.unusedVariables false
namespace Go.Proofs.Ytghgcaieciklbaa
open Go Go.Ab
def byteN (s : List UInt8) (i : Nat) : Int := ((s.getD i 0).toNat : Int)
theorem byteN_in (s : List UInt8) (i : Nat) : 0 ≤ byteN s i ∧ byteN s i ≤ 255 := C08.byte_lt _
/-- the upper k bytes of the w bytes at a place -/
def upV (s : List UInt8) (a w : Nat) : Nat → Int
  | 0 => 0
  | k + 1 => 256 * upV s a w k + byteN s (a + (w - 1 - k))
theorem upV_in (s : List UInt8) (a w : Nat) : ∀ k, 0 ≤ upV s a w k ∧ upV s a w k < 256 ^ k
  | 0 => by simp [upV]
  | k + 1 => by
    have h := upV_in s a w k
    have hb := byteN_in s (a + (w - 1 - k))
    rw [Int.pow_succ]
    simp only [upV]
    omega
theorem pow_in {k : Nat} (h : k ≤ 6) : (256 : Int) ^ k ≤ 281474976710656 := by
  have : k = 0 ∨ k = 1 ∨ k = 2 ∨ k = 3 ∨ k = 4 ∨ k = 5 ∨ k = 6 := by omega
  rcases this with rfl | rfl | rfl | rfl | rfl | rfl | rfl <;> decide
theorem get_byte {s : List UInt8} {i : Nat} (h : i < s.length) : s[i]? = some s[i] ∧ (s[i].toNat : Int) = byteN s i := by
  refine ⟨List.getElem?_eq_getElem h, ?_⟩
  simp [byteN, List.getD, List.getElem?_eq_getElem h]
theorem ref_get_loop (s : List UInt8) (a w : Nat) (hw : w ≤ 7) (hl : a + w ≤ s.length) (hs : s.length ≤ 1000000) : Lref03_Get_0 none ⟨s, (a : Int), (w : Int), (0 : Int), (a : Int) + (w : Int) - 1⟩ = some ((a : Int), (w : Int), upV s a w w) := by
  have hc := lim_count (f := fun s => (Wref03_Get_0 s).run) (fun k : Nat => ⟨s, (a : Int), (w : Int), upV s a w k, (a : Int) + (w : Int) - 1 - (k : Int)⟩) w (fun k hk => by
    have hu := upV_in s a w k
    have hp := pow_in (show k ≤ 6 by omega)
    have k1 : (a : Int) ≤ (a : Int) + (w : Int) - 1 - (k : Int) := by omega
    have k2 : (0 : Int) ≤ (a : Int) + (w : Int) - 1 - (k : Int) := by omega
    have e1 : ((a : Int) + (w : Int) - 1 - (k : Int)).toNat = a + (w - 1 - k) := by omega
    obtain ⟨g, gb⟩ := get_byte (s := s) (i := a + (w - 1 - k)) (by omega)
    have hb := byteN_in s (a + (w - 1 - k))
    have w1 : IntKind.wrap .i64 (s[a + (w - 1 - k)].toNat : Int) = byteN s (a + (w - 1 - k)) := by rw [gb]; exact wrap_id (by omega) (by omega)
    have w2 : IntKind.wrap .i64 (256 * upV s a w k) = 256 * upV s a w k := wrap_id (by omega) (by omega)
    have w3 : IntKind.wrap .i64 (256 * upV s a w k + byteN s (a + (w - 1 - k))) = upV s a w (k + 1) := wrap_id (by omega) (by omega)
    have w4 : IntKind.wrap .i64 ((a : Int) + (w : Int) - 1 - (k : Int) - 1) = (a : Int) + (w : Int) - 1 - ((k + 1 : Nat) : Int) := by rw [wrap_id] <;> omega
    simp only [Wref03_Get_0, Tree.run, k1, k2, decide_true, if_true, e1, g, Option.bind_some, w1, w2, w3, w4]) 0 (Nat.zero_le _)
  have hd : Lref03_Get_0 none ⟨s, (a : Int), (w : Int), upV s a w w, (a : Int) + (w : Int) - 1 - (w : Int)⟩ = some ((a : Int), (w : Int), upV s a w w) := lim_done (by
    have k1 : ¬ (a : Int) ≤ (a : Int) + (w : Int) - 1 - (w : Int) := by omega
    simp only [Wref03_Get_0, Tree.run, k1, decide_false, Bool.false_eq_true, if_false])
  have hc' := hc.trans hd
  simp only [upV, Int.ofNat_zero, Int.sub_zero] at hc'
  exact hc'
theorem octet_get_loop (s : List UInt8) (a w : Nat) (hw : w ≤ 7) (hl : a + w ≤ s.length) (hs : s.length ≤ 1000000) : Loctet_Get_0 none ⟨s, (a : Int), (w : Int), (0 : Int), (w : Int) - 1⟩ = some ((a : Int), (w : Int), upV s a w w) := by
  have hc := lim_count (f := fun s => (Woctet_Get_0 s).run) (fun k : Nat => ⟨s, (a : Int), (w : Int), upV s a w k, (w : Int) - 1 - (k : Int)⟩) w (fun k hk => by
    have hu := upV_in s a w k
    have hp := pow_in (show k ≤ 6 by omega)
    have k1 : (0 : Int) ≤ (w : Int) - 1 - (k : Int) := by omega
    have w0 : IntKind.wrap .i64 ((a : Int) + ((w : Int) - 1 - (k : Int))) = (a : Int) + ((w : Int) - 1 - (k : Int)) := wrap_id (by omega) (by omega)
    have k2 : (0 : Int) ≤ (a : Int) + ((w : Int) - 1 - (k : Int)) := by omega
    have e1 : ((a : Int) + ((w : Int) - 1 - (k : Int))).toNat = a + (w - 1 - k) := by omega
    obtain ⟨g, gb⟩ := get_byte (s := s) (i := a + (w - 1 - k)) (by omega)
    have hb := byteN_in s (a + (w - 1 - k))
    have w1 : IntKind.wrap .i64 (s[a + (w - 1 - k)].toNat : Int) = byteN s (a + (w - 1 - k)) := by rw [gb]; exact wrap_id (by omega) (by omega)
    have w2 : IntKind.wrap .i64 (upV s a w k * 2 ^ (min ((8 : Int)).toNat 64)) = 256 * upV s a w k := by
      rw [show (2 : Int) ^ (min ((8 : Int)).toNat 64) = 256 by decide, Int.mul_comm]
      exact wrap_id (by omega) (by omega)
    have w3 : IntKind.wrap .i64 ((BitVec.ofInt 64 (256 * upV s a w k) ||| BitVec.ofInt 64 (byteN s (a + (w - 1 - k)))).toNat : Int) = upV s a w (k + 1) := by
      rw [or_add 8 _ _ hb.1 (by omega) (by omega) (by omega) (by omega)]; rfl
    have w4 : IntKind.wrap .i64 ((w : Int) - 1 - (k : Int) - 1) = (w : Int) - 1 - ((k + 1 : Nat) : Int) := by rw [wrap_id] <;> omega
    simp only [Woctet_Get_0, Tree.run, k1, k2, decide_true, if_true, show (0 : Int) ≤ 8 by omega, w0, e1, g, Option.bind_some, w1, w2, w3, w4]) 0 (Nat.zero_le _)
  have hd : Loctet_Get_0 none ⟨s, (a : Int), (w : Int), upV s a w w, (w : Int) - 1 - (w : Int)⟩ = some ((a : Int), (w : Int), upV s a w w) := lim_done (by
    have k1 : ¬ (0 : Int) ≤ (w : Int) - 1 - (w : Int) := by omega
    simp only [Woctet_Get_0, Tree.run, k1, decide_false, Bool.false_eq_true, if_false])
  have hc' := hc.trans hd
  simp only [upV, Int.ofNat_zero, Int.sub_zero] at hc'
  exact hc'
end Go.Proofs.Ytghgcaieciklbaa
end
section
set_option linter.unusedSimpArgs false
set_option linter.unusedVariables false
namespace Go.Proofs.Ytghgcaieciklbaa
open Go Go.Ab
def getR (s : List UInt8) (a : Int) (w : Nat) : Int × Int × Int := if a < 0 ∨ (s.length : Int) < a then (0, 0, 1) else if (s.length : Int) - a < (w : Int) then (0, 0, 8) else (upV s a.toNat w w, a + (w : Int), 0)
theorem Get_def (s : List UInt8) (a : Int) (w : Nat) (h1 : 1 ≤ w) (hw : w ≤ 7) (hs : s.length ≤ 1000000) : octet_Get none s a (w : Int) = some (getR s a w) ∧ ref03_Get none s a (w : Int) = some (getR s a w) := by
  have c1 : ¬ (w : Int) < 1 := by omega
  have c2 : ¬ (7 : Int) < (w : Int) := by omega
  simp only [octet_Get, Toctet_Get, ref03_Get, Tref03_Get, Tree.run, c1, c2, decide_false, Bool.false_eq_true, if_false, getR]
  by_cases c3 : a < 0
  · simp [c3]
  by_cases c4 : (s.length : Int) < a
  · simp [c3, c4]
  have w1 : IntKind.wrap .i64 ((s.length : Int) - a) = (s.length : Int) - a := wrap_id (by omega) (by omega)
  simp only [c3, c4, decide_false, Bool.false_eq_true, if_false, or_self, w1]
  by_cases c5 : (s.length : Int) - a < (w : Int)
  · simp [c5]
  obtain ⟨n, rfl⟩ : ∃ n : Nat, a = (n : Int) := ⟨a.toNat, by omega⟩
  have w2 : IntKind.wrap .i64 ((w : Int) - 1) = (w : Int) - 1 := wrap_id (by omega) (by omega)
  have w3 : IntKind.wrap .i64 ((n : Int) + (w : Int)) = (n : Int) + (w : Int) := wrap_id (by omega) (by omega)
  have w4 : IntKind.wrap .i64 ((n : Int) + (w : Int) - 1) = (n : Int) + (w : Int) - 1 := wrap_id (by omega) (by omega)
  have e1 := octet_get_loop s n w hw (by omega) hs
  have e2 := ref_get_loop s n w hw (by omega) hs
  simp only [c5, decide_false, Bool.false_eq_true, if_false, w2, w3, w4, e1, e2, Option.bind_some, Int.toNat_natCast]
  exact ⟨trivial, trivial⟩
def textR (s : List UInt8) (a : Int) : List UInt8 × Int × Int := if ¬ (getR s a 2).2.2 = 0 then ([], 0, (getR s a 2).2.2) else if (s.length : Int) - (getR s a 2).2.1 < (getR s a 2).1 then ([], 0, 8) else ((s.drop (getR s a 2).2.1.toNat).take (getR s a 2).1.toNat, (getR s a 2).2.1 + (getR s a 2).1, 0)
theorem getR_ok {s : List UInt8} {a : Int} {w : Nat} (h : (getR s a w).2.2 = 0) : 0 ≤ a ∧ (getR s a w).2.1 = a + (w : Int) ∧ a + (w : Int) ≤ (s.length : Int) ∧ 0 ≤ (getR s a w).1 ∧ (getR s a w).1 < 256 ^ w := by
  unfold getR at h ⊢
  by_cases c1 : a < 0 ∨ (s.length : Int) < a
  · rw [if_pos c1] at h; cases h
  · rw [if_neg c1] at h ⊢
    by_cases c2 : (s.length : Int) - a < (w : Int)
    · rw [if_pos c2] at h; cases h
    · rw [if_neg c2]
      have := upV_in s a.toNat w w
      exact ⟨by omega, rfl, by omega, this.1, this.2⟩
theorem GetText_def (s : List UInt8) (a : Int) (hs : s.length ≤ 1000000) : octet_GetText none s a = some (textR s a) ∧ ref03_GetText none s a = some (textR s a) := by
  obtain ⟨e1, e2⟩ := Get_def s a 2 (by omega) (by omega) hs
  have e1' : octet_Get none s a (2 : Int) = some (getR s a 2) := e1
  have e2' : ref03_Get none s a (2 : Int) = some (getR s a 2) := e2
  simp only [octet_GetText, Toctet_GetText, ref03_GetText, Tref03_GetText, Tree.run, e1', e2', Option.bind_some, textR]
  by_cases c0 : (getR s a 2).2.2 = 0
  · obtain ⟨h1, h2, h3, h4, h5⟩ := getR_ok c0
    have h5 : (getR s a 2).1 < 65536 := h5
    generalize getR s a 2 = r at *
    have d1 : ¬ a < 0 := by omega
    have d2 : ¬ (s.length : Int) < a := by omega
    have w1 : IntKind.wrap .i64 ((s.length : Int) - r.2.1) = (s.length : Int) - r.2.1 := wrap_id (by omega) (by omega)
    have w2 : IntKind.wrap .i64 (r.2.1 + r.1) = r.2.1 + r.1 := wrap_id (by omega) (by omega)
    simp only [c0, d1, d2, decide_true, decide_false, Bool.not_true, Bool.false_eq_true, if_false, w1, w2, not_true_eq_false]
    by_cases c1 : (s.length : Int) - r.2.1 < r.1
    · simp [c1]
    · have k1 : 0 ≤ r.2.1 := by omega
      have k2 : r.2.1 ≤ ((s.length : Nat) : Int) := by omega
      have k3 : r.2.1 + r.1 ≤ ((s.length : Nat) : Int) := by omega
      have k4 : 0 ≤ r.2.1 + r.1 := by omega
      have k5 : r.2.1 ≤ r.2.1 + r.1 := by omega
      have e3 : (r.2.1 + r.1).toNat - r.2.1.toNat = r.1.toNat := by omega
      have e4 : (s.drop r.2.1.toNat).take (s.length - r.2.1.toNat) = s.drop r.2.1.toNat := List.take_of_length_le (by rw [List.length_drop]; omega)
      have k6 : r.1 ≤ (((s.drop r.2.1.toNat).length : Nat) : Int) := by rw [List.length_drop]; omega
      simp only [c1, decide_false, Bool.false_eq_true, if_false, k1, k2, k3, k4, k5, h4, e4, k6, decide_true, if_true, e3, List.drop_zero, Nat.sub_zero]
      exact ⟨trivial, trivial⟩
  · constructor
    · simp [c0]
    · by_cases d1 : a < 0
      · have : (getR s a 2) = (0, 0, 1) := if_pos (.inl d1)
        simp [d1, this]
      by_cases d2 : (s.length : Int) < a
      · have : (getR s a 2) = (0, 0, 1) := if_pos (.inr d2)
        simp [d1, d2, this]
      simp [d1, d2, c0]
end Go.Proofs.Ytghgcaieciklbaa
end
section
set_option linter.unusedSimpArgs false
set_option linter.unusedVariables false
namespace Go.Proofs.Ytghgcaieciklbaa
open Go Go.Ab
def openR (s : List UInt8) : List UInt8 × Int := if s.length < 4 then ([], 8) else if s.drop (s.length - 4) = putL (crcV (s.take (s.length - 4))) 4 then (s.take (s.length - 4), 0) else ([], 10)
theorem Open_def (s : List UInt8) (hs : s.length ≤ 1000000) : octet_Open none s = some (openR s) ∧ ref03_Open none s = some (openR s) := by
  have w1 : IntKind.wrap .i64 ((s.length : Int) - 4) = (s.length : Int) - 4 := wrap_id (by omega) (by omega)
  simp only [octet_Open, Toctet_Open, ref03_Open, Tref03_Open, Tree.run, w1, openR]
  by_cases c1 : s.length < 4
  · have d1 : (s.length : Int) - 4 < 0 := by omega
    have d2 : (s.length : Int) < 4 := by omega
    simp [c1, d1, d2]
  · have d1 : ¬ (s.length : Int) - 4 < 0 := by omega
    have d2 : ¬ (s.length : Int) < 4 := by omega
    have k1 : (0 : Int) ≤ (s.length : Int) - 4 := by omega
    have k2 : (s.length : Int) - 4 ≤ ((s.length : Nat) : Int) := by omega
    have e1 : ((s.length : Int) - 4).toNat = s.length - 4 := by omega
    have hl : (s.take (s.length - 4)).length ≤ 1000000 := by rw [List.length_take]; omega
    have hv := crcV_in (s.take (s.length - 4))
    unfold U32 at hv
    have q1 := sum_def (s.take (s.length - 4)) (by omega)
    have q2 := Crc_def (s.take (s.length - 4)) (by omega)
    have p1 : octet_Put none (crcV (s.take (s.length - 4))) (4 : Int) = some (putL (crcV (s.take (s.length - 4))) 4) := octet_Put_def _ 4 (by omega)
    have p2 : ref03_Put none (crcV (s.take (s.length - 4))) (4 : Int) = some (putL (crcV (s.take (s.length - 4))) 4) := ref_Put_def _ 4 (by omega) (by omega)
    have e2 : (s.drop (s.length - 4)).take (s.length - (s.length - 4)) = s.drop (s.length - 4) := List.take_of_length_le (by rw [List.length_drop]; omega)
    simp only [c1, d1, d2, k1, k2, e1, e2, decide_true, decide_false, Bool.false_eq_true, if_false, if_true, List.drop_zero, Nat.sub_zero, q1, q2, p1, p2, Option.bind_some]
    by_cases c2 : s.drop (s.length - 4) = putL (crcV (s.take (s.length - 4))) 4
    · have c3 := c2.symm
      simp only [c2, decide_true, Bool.not_true, Bool.false_eq_true, if_false, if_true]
      exact ⟨trivial, trivial⟩
    · have c3 : ¬ putL (crcV (s.take (s.length - 4))) 4 = s.drop (s.length - 4) := fun h => c2 h.symm
      simp only [c2, c3, decide_false, Bool.not_false, if_true, if_false]
      exact ⟨trivial, trivial⟩
/-- what is opened was sealed -/
theorem openR_seal {s t : List UInt8} (h : openR s = (t, 0)) : s = sealL t := by
  unfold openR at h
  split at h
  · cases h
  · split at h
    · rename_i h1 h2
      injection h with h3
      subst h3
      unfold sealL
      rw [← h2, List.take_append_drop]
    · cases h
theorem sealL_len (t : List UInt8) : (sealL t).length = t.length + 4 := by simp [sealL, putL_len]
theorem openR_of_seal (t : List UInt8) : openR (sealL t) = (t, 0) := by
  have h1 : (sealL t).length - 4 = t.length := by rw [sealL_len]; omega
  unfold openR
  rw [if_neg (by rw [sealL_len]; omega), h1]
  have h2 : (sealL t).take t.length = t := by simp [sealL]
  have h3 : (sealL t).drop t.length = putL (crcV t) 4 := by simp [sealL]
  rw [h2, h3, if_pos rfl]
theorem sealL_inj {a b : List UInt8} (h : sealL a = sealL b) : a = b := by
  have h1 := openR_of_seal a
  have h2 := openR_of_seal b
  rw [h, h2] at h1
  injection h1 with h3
  exact h3.symm
end Go.Proofs.Ytghgcaieciklbaa
end
section
set_option linter.unusedSimpArgs false
set_option linter.unusedVariables false
namespace Go.Proofs.Ytghgcaieciklbaa
open Go Go.Ab
theorem bv_val {n : Int} (h : U32 n) : ((BitVec.ofInt 32 n).toNat : Int) = n := by
  obtain ⟨k, rfl⟩ : ∃ k : Nat, n = (k : Int) := ⟨n.toNat, by have := h.1; omega⟩
  rw [toNat_32 k (by have := h.2; omega)]
theorem bv_inj {a b : Int} (ha : U32 a) (hb : U32 b) (h : BitVec.ofInt 32 a = BitVec.ofInt 32 b) : a = b := by
  have := bv_val ha
  rw [h, bv_val hb] at this
  exact this.symm
theorem xor_l {a b k : Int} (ha : U32 a) (hb : U32 b) (h : ((BitVec.ofInt 32 a ^^^ BitVec.ofInt 32 k).toNat : Int) = ((BitVec.ofInt 32 b ^^^ BitVec.ofInt 32 k).toNat : Int)) : a = b := by
  have h1 : (BitVec.ofInt 32 a ^^^ BitVec.ofInt 32 k) = (BitVec.ofInt 32 b ^^^ BitVec.ofInt 32 k) := BitVec.eq_of_toNat_eq (Int.ofNat.inj h)
  have h2 := congrArg (· ^^^ BitVec.ofInt 32 k) h1
  simp only [BitVec.xor_assoc, BitVec.xor_self, BitVec.xor_zero] at h2
  exact bv_inj ha hb h2
theorem xor_r {a b k : Int} (ha : U32 a) (hb : U32 b) (h : ((BitVec.ofInt 32 k ^^^ BitVec.ofInt 32 a).toNat : Int) = ((BitVec.ofInt 32 k ^^^ BitVec.ofInt 32 b).toNat : Int)) : a = b := by
  rw [BitVec.xor_comm, BitVec.xor_comm (BitVec.ofInt 32 k)] at h
  exact xor_l ha hb h
/-- the two ways of a step are apart -/
theorem crc_high {a : Int} (h0 : 0 ≤ a) (h : a < 2147483648) : 2147483648 ≤ ((BitVec.ofInt 32 a ^^^ BitVec.ofInt 32 (3988292384 : Int)).toNat : Int) := by
  obtain ⟨k, rfl⟩ : ∃ k : Nat, a = (k : Int) := ⟨a.toNat, by omega⟩
  rw [BitVec.toNat_xor, toNat_32 k (by omega), show (BitVec.ofInt 32 (3988292384 : Int)).toNat = 3988292384 by decide]
  have hb : (k ^^^ 3988292384).testBit 31 = true := by
    rw [Nat.testBit_xor, Nat.testBit_lt_two_pow (show k < 2 ^ 31 by omega)]
    decide
  rcases Nat.lt_or_ge (k ^^^ 3988292384) (2 ^ 31) with h2 | h2
  · rw [Nat.testBit_lt_two_pow h2] at hb; cases hb
  · omega
theorem crcS_inj {a b : Int} (ha : U32 a) (hb : U32 b) (h : crcS a = crcS b) : a = b := by
  unfold crcS at h
  unfold U32 at ha hb
  by_cases p : a % 2 = 1 <;> by_cases q : b % 2 = 1
  · rw [if_pos p, if_pos q] at h
    have := xor_l (a := a / 2) (b := b / 2) ⟨by omega, by omega⟩ ⟨by omega, by omega⟩ h
    omega
  · rw [if_pos p, if_neg q] at h
    have := crc_high (a := a / 2) (by omega) (by omega)
    omega
  · rw [if_neg p, if_pos q] at h
    have := crc_high (a := b / 2) (by omega) (by omega)
    omega
  · rw [if_neg p, if_neg q] at h
    omega
theorem crcN_inj {a b : Int} (ha : U32 a) (hb : U32 b) : ∀ k, crcN a k = crcN b k → a = b
  | 0, h => h
  | k + 1, h => crcN_inj ha hb k (crcS_inj (crcN_in ha k) (crcN_in hb k) h)
theorem mixB_in (c : Int) (b : UInt8) : U32 (mixB c b) := u32_bv _
theorem byte_u32 (b : UInt8) : U32 (b.toNat : Int) ∧ IntKind.wrap .u32 (b.toNat : Int) = (b.toNat : Int) := by
  have h : b.toNat < 256 := b.toNat_lt
  have h1 : U32 (b.toNat : Int) := ⟨by omega, by omega⟩
  exact ⟨h1, by rw [wrap_u32]; exact Int.emod_eq_of_lt h1.1 h1.2⟩
theorem mixB_b {c : Int} {a b : UInt8} (h : mixB c a = mixB c b) : a = b := by
  unfold mixB at h
  obtain ⟨a1, a2⟩ := byte_u32 a
  obtain ⟨b1, b2⟩ := byte_u32 b
  rw [a2, b2] at h
  have := xor_r a1 b1 h
  exact UInt8.toNat_inj.1 (by omega)
theorem mixB_c {c d : Int} {a : UInt8} (hc : U32 c) (hd : U32 d) (h : mixB c a = mixB d a) : c = d := xor_l hc hd h
theorem crcB_in {c : Int} (h : U32 c) : ∀ l, U32 (crcB c l)
  | [] => h
  | b :: l => crcB_in (crcN_in (mixB_in c b) 8) l
theorem crcB_inj : ∀ (l : List UInt8) {c d : Int}, U32 c → U32 d → crcB c l = crcB d l → c = d
  | [], _, _, _, _, h => h
  | b :: l, c, d, hc, hd, h => by
    have h1 := crcB_inj l (crcN_in (mixB_in c b) 8) (crcN_in (mixB_in d b) 8) h
    exact mixB_c hc hd (crcN_inj (mixB_in c b) (mixB_in d b) 8 h1)
theorem crcB_set {c : Int} (hc : U32 c) : ∀ (l : List UInt8) (k : Nat) (b : UInt8), (hk : k < l.length) → crcB c (l.set k b) = crcB c l → b = l[k]
  | [], k, b, hk, _ => by simp at hk
  | a :: l, 0, b, _, h => by
    have h1 := crcB_inj l (crcN_in (mixB_in c b) 8) (crcN_in (mixB_in c a) 8) h
    exact mixB_b (crcN_inj (mixB_in c b) (mixB_in c a) 8 h1)
  | a :: l, k + 1, b, hk, h => by
    have := crcB_set (crcN_in (mixB_in c a) 8) l k b (by simpa using hk) h
    simpa using this
theorem crcV_set (l : List UInt8) (k : Nat) (b : UInt8) (hk : k < l.length) (h : crcV (l.set k b) = crcV l) : b = l[k] := by
  have h0 : U32 4294967295 := ⟨by omega, by omega⟩
  exact crcB_set h0 l k b hk (xor_l (crcB_in h0 _) (crcB_in h0 _) h)
/-! ### what was put is got -/
theorem atl_id {v : Int} (h : 0 ≤ v) : atl v = v := by unfold atl; rw [if_neg (by omega)]
theorem putL_get {v : Int} {n i : Nat} (h : i < n) : (putL v n)[i]? = some (UInt8.ofNat (atl v / 256 ^ i % 256).toNat) := by
  simp [putL, numsP, h]
theorem byte_put (p q : List UInt8) {v : Int} {n i : Nat} (h : i < n) : byteN (p ++ (putL v n ++ q)) (p.length + i) = atl v / 256 ^ i % 256 := by
  have e : (p ++ (putL v n ++ q))[p.length + i]? = some (UInt8.ofNat (atl v / 256 ^ i % 256).toNat) := by
    rw [List.getElem?_append_right (by omega), Nat.add_sub_cancel_left, List.getElem?_append_left (by rw [putL_len]; exact h), putL_get h]
  unfold byteN
  rw [List.getD_eq_getElem?_getD, e]
  have h1 := Int.emod_nonneg (atl v / 256 ^ i) (show (256 : Int) ≠ 0 by omega)
  have h2 := Int.emod_lt_of_pos (atl v / 256 ^ i) (show (0 : Int) < 256 by omega)
  simp only [Option.getD_some, UInt8.toNat_ofNat']
  omega
theorem up_put (p q : List UInt8) {v : Int} {n : Nat} (hv : v < 256 ^ n) (h0 : 0 ≤ v) : ∀ k, k ≤ n → upV (p ++ (putL v n ++ q)) p.length n k = v / 256 ^ (n - k)
  | 0, _ => by
    simp only [upV, Nat.sub_zero]
    exact (Int.ediv_eq_zero_of_lt h0 hv).symm
  | k + 1, hk => by
    have h := up_put p q hv h0 k (by omega)
    have hb := byte_put p q (v := v) (n := n) (i := n - 1 - k) (by omega)
    simp only [upV, h, hb, atl_id h0]
    have e : n - k = (n - (k + 1)) + 1 := by omega
    have e2 : n - 1 - k = n - (k + 1) := by omega
    rw [e2, e, Int.pow_succ, ← Int.ediv_ediv_of_nonneg (Int.le_of_lt (Int.pow_pos (by omega)))]
    omega
theorem get_put (p q : List UInt8) {v : Int} {n : Nat} (hv : v < 256 ^ n) (h0 : 0 ≤ v) : getR (p ++ (putL v n ++ q)) (p.length : Int) n = (v, (p.length : Int) + (n : Int), 0) := by
  have h1 : ¬ ((p.length : Int) < 0 ∨ (((p ++ (putL v n ++ q)).length : Nat) : Int) < (p.length : Int)) := by
    simp only [List.length_append, putL_len]; omega
  have h2 : ¬ (((p ++ (putL v n ++ q)).length : Nat) : Int) - (p.length : Int) < (n : Int) := by
    simp only [List.length_append, putL_len]; omega
  have h3 := up_put p q hv h0 n (Nat.le_refl _)
  rw [Nat.sub_self, Int.pow_zero, Int.ediv_one] at h3
  unfold getR
  rw [if_neg h1, if_neg h2, Int.toNat_natCast, h3]
theorem putL_inj4 {a b : Int} (ha : U32 a) (hb : U32 b) (h : putL a 4 = putL b 4) : a = b := by
  have h1 := get_put [] [] (v := a) (n := 4) (show a < 4294967296 from ha.2) ha.1
  have h2 := get_put [] [] (v := b) (n := 4) (show b < 4294967296 from hb.2) hb.1
  rw [h, h2] at h1
  exact (congrArg Prod.fst h1).symm
theorem text_put (p s q : List UInt8) (h : s.length ≤ 65535) : textR (p ++ (putT s ++ q)) (p.length : Int) = (s, (p.length : Int) + 2 + (s.length : Int), 0) := by
  have e : p ++ (putT s ++ q) = p ++ (putL (s.length : Int) 2 ++ (s ++ q)) := by simp [putT]
  have hg : getR (p ++ (putT s ++ q)) (p.length : Int) 2 = ((s.length : Int), (p.length : Int) + 2, 0) := by
    rw [e]; exact get_put p (s ++ q) (v := (s.length : Int)) (n := 2) (show ((s.length : Nat) : Int) < 65536 by omega) (by omega)
  have hl : ((p ++ (putT s ++ q)).length : Int) = (p.length : Int) + 2 + (s.length : Int) + (q.length : Int) := by
    rw [e]; simp only [List.length_append, putL_len]; omega
  unfold textR
  rw [hg]
  simp only [not_true_eq_false, if_false]
  rw [if_neg (by rw [hl]; omega)]
  have e2 : ((p.length : Int) + 2).toNat = p.length + 2 := by omega
  rw [e2, Int.toNat_natCast, e]
  have e3 : (p ++ (putL (s.length : Int) 2 ++ (s ++ q))).drop (p.length + 2) = s ++ q := by
    rw [← List.append_assoc, show p.length + 2 = (p ++ putL (s.length : Int) 2).length by rw [List.length_append, putL_len], List.drop_left]
  rw [e3, List.take_left]
end Go.Proofs.Ytghgcaieciklbaa
end
section
set_option linter.unusedSimpArgs false
set_option linter.unusedVariables false
namespace Go.Proofs.Ytghgcaieciklbaa
open Go Go.Ab
def bitL (g : Bool) : List UInt8 := putL (if g then 1 else 0) 1
def symL (s : Symbol) : List UInt8 := putT s.name ++ putL s.section_ 1 ++ putL s.value 2 ++ bitL s.global
theorem putT_len (s : List UInt8) : (putT s).length = 2 + s.length := by simp [putT, putL_len]
theorem symL_len (s : Symbol) : (symL s).length = s.name.length + 6 := by
  simp only [symL, bitL, List.length_append, putT_len, putL_len]; omega
def symsL (l : List Symbol) : List UInt8 := l.flatMap symL
theorem symsL_more {l : List Symbol} {i : Nat} (hi : i < l.length) : symsL (l.take (i + 1)) = symsL (l.take i) ++ symL l[i] := by
  rw [take_one_more hi]; simp only [symsL, List.flatMap_append, List.flatMap_cons, List.flatMap_nil, List.append_nil]
theorem symsL_len : ∀ (l : List Symbol), (∀ s ∈ l, s.name.length ≤ 3000) → (symsL l).length ≤ l.length * 3006
  | [], _ => by simp [symsL]
  | s :: l, h => by
    have h1 := symsL_len l fun t ht => h t (List.mem_cons_of_mem _ ht)
    have h2 := h s (List.mem_cons_self ..)
    have h3 := symL_len s
    simp only [symsL, List.flatMap_cons, List.length_append, List.length_cons] at h1 ⊢
    omega
structure GoodS (s : Symbol) : Prop where
  name : s.name.length ≤ 3000
  sec : s.section_ ≤ 9223372036854775807
  val : s.value ≤ 9223372036854775807
theorem bit_def (g : Bool) : ref28_bit none g = some (bitL g) := by
  have p0 : ref03_Put none (0 : Int) (1 : Int) = some (putL 0 1) := ref_Put_def 0 1 (by omega) (by omega)
  have p1 : ref03_Put none (1 : Int) (1 : Int) = some (putL 1 1) := ref_Put_def 1 1 (by omega) (by omega)
  cases g <;> simp [ref28_bit, Tref28_bit, Tree.run, p0, p1, bitL]
theorem write_def (x : List UInt8) (g : List Int) (h : g.length + x.length ≤ 100000000) : strings_Builder_WriteString_V2 x () g = some ((x.length : Int), g ++ nums x) := by
  have k : (g.length + (x.map fun b => (b.toNat : Int)).length) * 1 ≤ 140737488355328 := by rw [List.length_map]; omega
  simp only [strings_Builder_WriteString_V2, Tstrings_Builder_WriteString_V2, Tree.run, ccF, Option.bind_some, k, decide_true, if_true]
  rfl
theorem nums_append (a b : List UInt8) : nums (a ++ b) = nums a ++ nums b := by simp [nums]
theorem body_loop (l : List Symbol) (hd : List UInt8) (hl : l.length ≤ 1000) (hh : hd.length ≤ 200000) (hg : ∀ s ∈ l, GoodS s) : Limage_body_0 none ⟨l, (l.length : Int), (0 : Int), nums hd⟩ = some (nums (hd ++ symsL l)) := by
  have hc := lim_count (f := fun s => (Wimage_body_0 none s).run) (fun i : Nat => ⟨l, (l.length : Int), (i : Int), nums (hd ++ symsL (l.take i))⟩) l.length (fun i hi => by
    have k1 : (i : Int) < (l.length : Int) := by omega
    have k2 : (0 : Int) ≤ (i : Int) := by omega
    have g := List.getElem?_eq_getElem hi
    have w := wrap_succ hi (show l.length ≤ 9223372036854775807 by omega)
    have hG := hg l[i] (List.getElem_mem hi)
    have hn := hG.name
    have p1 := (PutText_def l[i].name (by omega)).1
    have p2 : octet_Put none l[i].section_ (1 : Int) = some (putL l[i].section_ 1) := octet_Put_def _ 1 (by omega)
    have p3 : octet_Put none l[i].value (2 : Int) = some (putL l[i].value 2) := octet_Put_def _ 2 (by omega)
    have p4 : octet_Put none (1 : Int) (1 : Int) = some (putL 1 1) := octet_Put_def 1 1 (by omega)
    have p5 : octet_Put none (0 : Int) (1 : Int) = some (putL 0 1) := octet_Put_def 0 1 (by omega)
    have t1 := putT_len l[i].name
    have q1 := putL_len l[i].section_ 1
    have q2 := putL_len l[i].value 2
    have l1 : (putT l[i].name).length + (putL l[i].section_ 1).length ≤ 9223372036854775807 := by omega
    have l2 : (putT l[i].name ++ putL l[i].section_ 1).length + (putL l[i].value 2).length ≤ 9223372036854775807 := by rw [List.length_append]; omega
    have q3 := putL_len 1 1
    have q4 := putL_len 0 1
    have l3 : (putT l[i].name ++ putL l[i].section_ 1 ++ putL l[i].value 2).length + (putL 1 1).length ≤ 9223372036854775807 := by rw [List.length_append, List.length_append]; omega
    have l4 : (putT l[i].name ++ putL l[i].section_ 1 ++ putL l[i].value 2).length + (putL 0 1).length ≤ 9223372036854775807 := by rw [List.length_append, List.length_append]; omega
    have hlen := symsL_len (l.take i) fun s hs => (hg s (List.mem_of_mem_take hs)).name
    rw [List.length_take, Nat.min_eq_left (by omega)] at hlen
    have hnl : (nums (hd ++ symsL (l.take i))).length ≤ 4000000 := by rw [nums, List.length_map, List.length_append]; omega
    have hs := symL_len l[i]
    have hm := symsL_more hi
    cases hb : l[i].global with
    | true =>
      have e : symL l[i] = putT l[i].name ++ putL l[i].section_ 1 ++ putL l[i].value 2 ++ putL 1 1 := by simp [symL, bitL, hb]
      have hw := write_def (putT l[i].name ++ putL l[i].section_ 1 ++ putL l[i].value 2 ++ putL 1 1) (nums (hd ++ symsL (l.take i))) (by rw [← e]; omega)
      have hh2 : nums (hd ++ symsL (l.take (i + 1))) = nums (hd ++ symsL (l.take i)) ++ nums (putT l[i].name ++ putL l[i].section_ 1 ++ putL l[i].value 2 ++ putL 1 1) := by rw [hm, e, ← nums_append, List.append_assoc hd]
      rw [← hh2] at hw
      simp only [Wimage_body_0, Tree.run, k1, k2, g, hb, p1, p2, p3, p4, l1, l2, l3, decide_true, if_true, Int.toNat_natCast, Option.bind_some, hw, w]
    | false =>
      have e : symL l[i] = putT l[i].name ++ putL l[i].section_ 1 ++ putL l[i].value 2 ++ putL 0 1 := by simp [symL, bitL, hb]
      have hw := write_def (putT l[i].name ++ putL l[i].section_ 1 ++ putL l[i].value 2 ++ putL 0 1) (nums (hd ++ symsL (l.take i))) (by rw [← e]; omega)
      have hh2 : nums (hd ++ symsL (l.take (i + 1))) = nums (hd ++ symsL (l.take i)) ++ nums (putT l[i].name ++ putL l[i].section_ 1 ++ putL l[i].value 2 ++ putL 0 1) := by rw [hm, e, ← nums_append, List.append_assoc hd]
      rw [← hh2] at hw
      simp only [Wimage_body_0, Tree.run, k1, k2, g, hb, p1, p2, p3, p5, l1, l2, l4, decide_true, if_true, Bool.false_eq_true, if_false, Int.toNat_natCast, Option.bind_some, hw, w]) 0 (Nat.zero_le _)
  have hd' : Limage_body_0 none ⟨l, (l.length : Int), (l.length : Int), nums (hd ++ symsL (l.take l.length))⟩ = some (nums (hd ++ symsL (l.take l.length))) := lim_done (by simp [Wimage_body_0, Tree.run])
  rw [List.take_length] at hd'
  have hc' := hc
  rw [List.take_length] at hc'
  have h0 : nums (hd ++ symsL (l.take 0)) = nums hd := by simp [symsL]
  simp only [h0] at hc'
  exact hc'.trans hd'
theorem syms_loop (l : List Symbol) (hd : List UInt8) (hl : l.length ≤ 1000) (hh : hd.length ≤ 200000) (hg : ∀ s ∈ l, GoodS s) : Lref28_PutSymbols_0 none ⟨l, hd, (0 : Int)⟩ = some (hd ++ symsL l) := by
  have hc := lim_count (f := fun s => (Wref28_PutSymbols_0 none s).run) (fun i : Nat => ⟨l, hd ++ symsL (l.take i), (i : Int)⟩) l.length (fun i hi => by
    have k1 : (i : Int) < (l.length : Int) := by omega
    have k2 : (0 : Int) ≤ (i : Int) := by omega
    have g := List.getElem?_eq_getElem hi
    have w := wrap_succ hi (show l.length ≤ 9223372036854775807 by omega)
    have hG := hg l[i] (List.getElem_mem hi)
    have hn := hG.name
    have p1 := (PutText_def l[i].name (by omega)).2
    have p2 : ref03_Put none l[i].section_ (1 : Int) = some (putL l[i].section_ 1) := ref_Put_def _ 1 (by omega) hG.sec
    have p3 : ref03_Put none l[i].value (2 : Int) = some (putL l[i].value 2) := ref_Put_def _ 2 (by omega) hG.val
    have t1 := putT_len l[i].name
    have q1 := putL_len l[i].section_ 1
    have q2 := putL_len l[i].value 2
    have q3 : (bitL l[i].global).length = 1 := putL_len _ 1
    have l1 : (putT l[i].name).length + (putL l[i].section_ 1).length ≤ 9223372036854775807 := by omega
    have l2 : (putT l[i].name ++ putL l[i].section_ 1).length + (putL l[i].value 2).length ≤ 9223372036854775807 := by rw [List.length_append]; omega
    have l3 : (putT l[i].name ++ putL l[i].section_ 1 ++ putL l[i].value 2).length + (bitL l[i].global).length ≤ 9223372036854775807 := by rw [List.length_append, List.length_append]; omega
    have hlen := symsL_len (l.take i) fun s hs => (hg s (List.mem_of_mem_take hs)).name
    rw [List.length_take, Nat.min_eq_left (by omega)] at hlen
    have hs := symL_len l[i]
    have l4 : (hd ++ symsL (l.take i)).length + (symL l[i]).length ≤ 9223372036854775807 := by rw [List.length_append]; omega
    have hm := symsL_more hi
    have e : hd ++ symsL (l.take (i + 1)) = hd ++ symsL (l.take i) ++ symL l[i] := by rw [hm, List.append_assoc]
    unfold symL at e l4
    simp only [Wref28_PutSymbols_0, Tree.run, k1, k2, g, p1, p2, p3, bit_def, l1, l2, l3, l4, decide_true, if_true, Int.toNat_natCast, Option.bind_some, w, e]) 0 (Nat.zero_le _)
  have hd' : Lref28_PutSymbols_0 none ⟨l, hd ++ symsL (l.take l.length), (l.length : Int)⟩ = some (hd ++ symsL (l.take l.length)) := lim_done (by simp [Wref28_PutSymbols_0, Tree.run])
  rw [List.take_length] at hd'
  have hc' := hc
  rw [List.take_length] at hc'
  have h0 : hd ++ symsL (l.take 0) = hd := by simp [symsL]
  simp only [h0] at hc'
  exact hc'.trans hd'
def headL (x : Image) : List UInt8 := [73, 77, 71, 49] ++ putT x.text ++ putT x.data ++ putL x.bss 2 ++ putL x.entry 2
def bodyL (x : Image) : List UInt8 := headL x ++ (putL (x.symbols.length : Int) 2 ++ symsL x.symbols)
theorem headL_len (x : Image) : (headL x).length = x.text.length + x.data.length + 12 := by
  simp only [headL, List.length_append, putT_len, putL_len, List.length_cons, List.length_nil]; omega
theorem goodS {x : Image} (h : Fine x) : ∀ s ∈ x.symbols, GoodS s := fun s hs => by
  obtain ⟨a, b, c, d, e⟩ := h.good s hs
  exact ⟨by omega, by omega, by omega⟩
theorem bodyL_len (x : Image) (h : SmI x) (hF : Fine x) : (bodyL x).length ≤ 4000000 := by
  have hg := goodS hF
  have hc := hF.syms
  have h1 := headL_len x
  have h2 := symsL_len x.symbols fun s hs => (hg s hs).name
  obtain ⟨a, b, c⟩ := h
  simp only [bodyL, List.length_append, putL_len]
  omega
theorem body_def (x : Image) (h : SmI x) (hF : Fine x) : image_body none x = some (bodyL x) := by
  have hg := goodS hF
  obtain ⟨a, b, _⟩ := h
  have c : x.symbols.length ≤ 1000 := by have := hF.syms; omega
  have p1 := (PutText_def x.text (by omega)).1
  have p2 := (PutText_def x.data (by omega)).1
  have p3 : octet_Put none x.bss (2 : Int) = some (putL x.bss 2) := octet_Put_def _ 2 (by omega)
  have p4 : octet_Put none x.entry (2 : Int) = some (putL x.entry 2) := octet_Put_def _ 2 (by omega)
  have p5 : octet_Put none (x.symbols.length : Int) (2 : Int) = some (putL (x.symbols.length : Int) 2) := octet_Put_def _ 2 (by omega)
  have t1 := putT_len x.text
  have t2 := putT_len x.data
  have q1 := putL_len x.bss 2
  have q2 := putL_len x.entry 2
  have q3 := putL_len (x.symbols.length : Int) 2
  have l1 : ([73, 77, 71, 49] : List UInt8).length + (putT x.text).length ≤ 9223372036854775807 := by simp only [List.length_cons, List.length_nil]; omega
  have l2 : (([73, 77, 71, 49] : List UInt8) ++ putT x.text).length + (putT x.data).length ≤ 9223372036854775807 := by simp only [List.length_append, List.length_cons, List.length_nil]; omega
  have l3 : (([73, 77, 71, 49] : List UInt8) ++ putT x.text ++ putT x.data).length + (putL x.bss 2).length ≤ 9223372036854775807 := by simp only [List.length_append, List.length_cons, List.length_nil]; omega
  have l4 : (([73, 77, 71, 49] : List UInt8) ++ putT x.text ++ putT x.data ++ putL x.bss 2).length + (putL x.entry 2).length ≤ 9223372036854775807 := by simp only [List.length_append, List.length_cons, List.length_nil]; omega
  have l5 : (([73, 77, 71, 49] : List UInt8) ++ putT x.text ++ putT x.data ++ putL x.bss 2 ++ putL x.entry 2).length + (putL (x.symbols.length : Int) 2).length ≤ 9223372036854775807 := by simp only [List.length_append, List.length_cons, List.length_nil]; omega
  have hw : strings_Builder_WriteString (([73, 77, 71, 49] : List UInt8) ++ putT x.text ++ putT x.data ++ putL x.bss 2 ++ putL x.entry 2 ++ putL (x.symbols.length : Int) 2) () = some (((([73, 77, 71, 49] : List UInt8) ++ putT x.text ++ putT x.data ++ putL x.bss 2 ++ putL x.entry 2 ++ putL (x.symbols.length : Int) 2).length : Int), nums (headL x ++ putL (x.symbols.length : Int) 2)) := by
    have k : ((([73, 77, 71, 49] : List UInt8) ++ putT x.text ++ putT x.data ++ putL x.bss 2 ++ putL x.entry 2 ++ putL (x.symbols.length : Int) 2).map fun b => (b.toNat : Int)).length * 1 ≤ 140737488355328 := by
      simp only [List.length_map, List.length_append, List.length_cons, List.length_nil]; omega
    simp only [strings_Builder_WriteString, Tstrings_Builder_WriteString, Tree.run, ccF, Option.bind_some, k, decide_true, if_true]
    rfl
  have hb := body_loop x.symbols (headL x ++ putL (x.symbols.length : Int) 2) c (by rw [List.length_append, headL_len, q3]; omega) hg
  have hF : strF (bodyL x) = some (bodyL x) := by simp [bodyL, headL, strF]
  rw [List.append_assoc] at hb
  have hu := unnums (bodyL x)
  have hb' : Limage_body_0 none ⟨x.symbols, (x.symbols.length : Int), (0 : Int), nums (headL x ++ putL (x.symbols.length : Int) 2)⟩ = some (nums (bodyL x)) := hb
  simp only [image_body, Timage_body, Tree.run, p1, p2, p3, p4, p5, l1, l2, l3, l4, l5, decide_true, if_true, Option.bind_some, hw, hb', hu, hF]
theorem refEncode_def (x : Image) (e : Int) (h : SmI x) (hF : e = 0 → Fine x) (he : ref31_Check none x = some e) : ref31_Encode none x = some (if e = 0 then (sealL (bodyL x), 0) else ([], e)) := by
  by_cases c0 : e = 0
  rotate_left
  · simp only [ref31_Encode, Tref31_Encode, Tree.run, he, Option.bind_some, c0, decide_false, Bool.not_false, if_true, if_false]
  replace hF := hF c0
  have hg := goodS hF
  have h1 : x.bss ≤ 9223372036854775807 := by have := hF.bssLe; omega
  have h2 : x.entry ≤ 9223372036854775807 := by have := hF.entryLe; omega
  obtain ⟨a, b, _⟩ := id h
  have c : x.symbols.length ≤ 1000 := by have := hF.syms; omega
  have p1 := (PutText_def x.text (by omega)).2
  have p2 := (PutText_def x.data (by omega)).2
  have p3 : ref03_Put none x.bss (2 : Int) = some (putL x.bss 2) := ref_Put_def _ 2 (by omega) h1
  have p4 : ref03_Put none x.entry (2 : Int) = some (putL x.entry 2) := ref_Put_def _ 2 (by omega) h2
  have p5 : ref03_Put none (x.symbols.length : Int) (2 : Int) = some (putL (x.symbols.length : Int) 2) := ref_Put_def _ 2 (by omega) (by omega)
  have t1 := putT_len x.text
  have t2 := putT_len x.data
  have q1 := putL_len x.bss 2
  have q2 := putL_len x.entry 2
  have q3 := putL_len (x.symbols.length : Int) 2
  have l1 : ([73, 77, 71, 49] : List UInt8).length + (putT x.text).length ≤ 9223372036854775807 := by simp only [List.length_cons, List.length_nil]; omega
  have l2 : (([73, 77, 71, 49] : List UInt8) ++ putT x.text).length + (putT x.data).length ≤ 9223372036854775807 := by simp only [List.length_append, List.length_cons, List.length_nil]; omega
  have l3 : (([73, 77, 71, 49] : List UInt8) ++ putT x.text ++ putT x.data).length + (putL x.bss 2).length ≤ 9223372036854775807 := by simp only [List.length_append, List.length_cons, List.length_nil]; omega
  have l4 : (([73, 77, 71, 49] : List UInt8) ++ putT x.text ++ putT x.data ++ putL x.bss 2).length + (putL x.entry 2).length ≤ 9223372036854775807 := by simp only [List.length_append, List.length_cons, List.length_nil]; omega
  have hbl := bodyL_len x h hF
  have hs : ref28_PutSymbols none x.symbols = some (putL (x.symbols.length : Int) 2 ++ symsL x.symbols) := by
    simp only [ref28_PutSymbols, Tref28_PutSymbols, Tree.run, p5, Option.bind_some, syms_loop x.symbols (putL (x.symbols.length : Int) 2) c (by rw [q3]; omega) hg]
  have l5 : (([73, 77, 71, 49] : List UInt8) ++ putT x.text ++ putT x.data ++ putL x.bss 2 ++ putL x.entry 2).length + (putL (x.symbols.length : Int) 2 ++ symsL x.symbols).length ≤ 9223372036854775807 := by
    have : (bodyL x).length = (([73, 77, 71, 49] : List UInt8) ++ putT x.text ++ putT x.data ++ putL x.bss 2 ++ putL x.entry 2).length + (putL (x.symbols.length : Int) 2 ++ symsL x.symbols).length := List.length_append
    omega
  have hS : ref03_Seal none (([73, 77, 71, 49] : List UInt8) ++ putT x.text ++ putT x.data ++ putL x.bss 2 ++ putL x.entry 2 ++ (putL (x.symbols.length : Int) 2 ++ symsL x.symbols)) = some (sealL (bodyL x)) := (Seal_def (bodyL x) (by omega)).2
  simp only [ref31_Encode, Tref31_Encode, Tree.run, he, Option.bind_some]
  simp only [c0, decide_true, Bool.not_true, Bool.false_eq_true, if_false, p1, p2, p3, p4, hs, l1, l2, l3, l4, l5, if_true, Option.bind_some, hS]
theorem Encode_def (x : Image) (e : Int) (h : SmI x) (hF : e = 0 → Fine x) (he : image_Check none x = some e) : image_Encode none x = some (if e = 0 then (sealL (bodyL x), 0) else ([], e)) := by
  by_cases c0 : e = 0
  · have hbl := bodyL_len x h (hF c0)
    have hS := (Seal_def (bodyL x) (by omega)).1
    simp only [image_Encode, Timage_Encode, Tree.run, he, Option.bind_some, body_def x h (hF c0), hS, c0, decide_true, Bool.not_true, Bool.false_eq_true, if_false, if_true]
  · simp only [image_Encode, Timage_Encode, Tree.run, he, Option.bind_some, c0, decide_false, Bool.not_false, if_true, if_false]
end Go.Proofs.Ytghgcaieciklbaa
end
section
set_option linter.unusedSimpArgs false
set_option linter.unusedVariables false
namespace Go.Proofs.Ytghgcaieciklbaa
open Go Go.Ab
def rdN (w : Nat) (r : Reader) : Int × Reader := if (getR r.s r.at_ w).2.2 = 0 then ((getR r.s r.at_ w).1, Reader.mk r.s (getR r.s r.at_ w).2.1 r.bad) else (0, Reader.mk r.s r.at_ true)
def rdT (r : Reader) : List UInt8 × Reader := if (textR r.s r.at_).2.2 = 0 then ((textR r.s r.at_).1, Reader.mk r.s (textR r.s r.at_).2.1 r.bad) else ([], Reader.mk r.s r.at_ true)
theorem num_def (r : Reader) (w : Nat) (h1 : 1 ≤ w) (hw : w ≤ 7) (hs : r.s.length ≤ 1000000) : image_reader_num none (w : Int) r = some (rdN w r) ∧ ref28_Reader_Number none (w : Int) r = some (rdN w r) := by
  obtain ⟨e1, e2⟩ := Get_def r.s r.at_ w h1 hw hs
  simp only [image_reader_num, Timage_reader_num, ref28_Reader_Number, Tref28_Reader_Number, Tree.run, e1, e2, Option.bind_some, rdN]
  by_cases c : (getR r.s r.at_ w).2.2 = 0
  · simp [c]
  · simp [c]
theorem text_def (r : Reader) (hs : r.s.length ≤ 1000000) : image_reader_text none r = some (rdT r) ∧ ref28_Reader_Text none r = some (rdT r) := by
  obtain ⟨e1, e2⟩ := GetText_def r.s r.at_ hs
  simp only [image_reader_text, Timage_reader_text, ref28_Reader_Text, Tref28_Reader_Text, Tree.run, e1, e2, Option.bind_some, rdT]
  by_cases c : (textR r.s r.at_).2.2 = 0
  · simp [c]
  · simp [c]
theorem rdN_s (w : Nat) (r : Reader) : (rdN w r).2.s = r.s := by unfold rdN; split <;> rfl
theorem rdT_s (r : Reader) : (rdT r).2.s = r.s := by unfold rdT; split <;> rfl
/-- a reader that stands within its text -/
def InR (r : Reader) : Prop := 0 ≤ r.at_ ∧ r.at_ ≤ (r.s.length : Int)
theorem rdN_in {w : Nat} {r : Reader} (h : InR r) : InR (rdN w r).2 ∧ r.at_ ≤ (rdN w r).2.at_ ∧ ((rdN w r).2.bad = false → r.bad = false ∧ (rdN w r).2.at_ = r.at_ + (w : Int)) := by
  unfold InR at *
  unfold rdN
  split
  · rename_i c
    obtain ⟨h1, h2, h3, h4, h5⟩ := getR_ok c
    simp only [h2]
    exact ⟨by omega, by omega, fun h => ⟨h, trivial⟩⟩
  · exact ⟨h, Int.le_refl _, fun h => by cases h⟩
theorem textR_ok {s : List UInt8} {a : Int} (h : (textR s a).2.2 = 0) : 0 ≤ a ∧ a + 2 ≤ (textR s a).2.1 ∧ (textR s a).2.1 ≤ (s.length : Int) := by
  unfold textR at h ⊢
  by_cases c : (getR s a 2).2.2 = 0
  · rw [if_neg (by simp [c])] at h ⊢
    obtain ⟨h1, h2, h3, h4, h5⟩ := getR_ok c
    by_cases c2 : (s.length : Int) - (getR s a 2).2.1 < (getR s a 2).1
    · rw [if_pos c2] at h; cases h
    · rw [if_neg c2]
      simp only
      omega
  · rw [if_pos c] at h; exact absurd h c
theorem textR_len (s : List UInt8) (a : Int) : (textR s a).1.length ≤ s.length := by
  unfold textR
  split
  · simp
  · split
    · simp
    · simp only [List.length_take, List.length_drop]; omega
theorem rdT_len (r : Reader) : (rdT r).1.length ≤ r.s.length := by
  unfold rdT
  split
  · exact textR_len _ _
  · simp
theorem rdT_in {r : Reader} (h : InR r) : InR (rdT r).2 ∧ r.at_ ≤ (rdT r).2.at_ ∧ ((rdT r).2.bad = false → r.bad = false ∧ r.at_ + 2 ≤ (rdT r).2.at_) := by
  unfold InR at *
  unfold rdT
  split
  · rename_i c
    obtain ⟨h1, h2, h3⟩ := textR_ok c
    exact ⟨⟨by simp only; omega, h3⟩, by simp only; omega, fun h => ⟨h, h2⟩⟩
  · exact ⟨h, Int.le_refl _, fun h => by cases h⟩
/-- a symbol is read -/
def rdS (r : Reader) : Symbol × Reader :=
  let a := rdT r
  let b := rdN 1 a.2
  let c := rdN 2 b.2
  let d := rdN 1 c.2
  (Symbol.mk a.1 b.1 c.1 (decide (d.1 = 1)), d.2)
theorem rdS_s (r : Reader) : (rdS r).2.s = r.s := by simp only [rdS, rdN_s, rdT_s]
theorem rdS_in {r : Reader} (h : InR r) : InR (rdS r).2 ∧ r.at_ ≤ (rdS r).2.at_ ∧ ((rdS r).2.bad = false → r.at_ + 6 ≤ (rdS r).2.at_) := by
  obtain ⟨a1, a2, a3⟩ := rdT_in h
  obtain ⟨b1, b2, b3⟩ := rdN_in (w := 1) a1
  obtain ⟨c1, c2, c3⟩ := rdN_in (w := 2) b1
  obtain ⟨d1, d2, d3⟩ := rdN_in (w := 1) c1
  refine ⟨d1, ?_, fun hb => ?_⟩
  · simp only [rdS]; omega
  · obtain ⟨e1, e2⟩ := d3 hb
    obtain ⟨f1, f2⟩ := c3 e1
    obtain ⟨g1, g2⟩ := b3 f1
    obtain ⟨_, k2⟩ := a3 g1
    simp only [rdS]; omega
def rdSyms : Nat → Reader → List Symbol × Reader
  | 0, r => ([], r)
  | n + 1, r => if r.bad = true then ([], r) else ((rdS r).1 :: (rdSyms n (rdS r).2).1, (rdSyms n (rdS r).2).2)
theorem rdSyms_s : ∀ (n : Nat) (r : Reader), (rdSyms n r).2.s = r.s
  | 0, r => rfl
  | n + 1, r => by
    unfold rdSyms
    split
    · rfl
    · simp only [rdSyms_s n, rdS_s]
theorem rdSyms_bad (n : Nat) (r : Reader) (h : r.bad = true) : rdSyms n r = ([], r) := by
  cases n with
  | zero => rfl
  | succ n => unfold rdSyms; rw [if_pos h]
theorem rdSyms_len : ∀ (n : Nat) (r : Reader), InR r → ((rdSyms n r).1.length : Int) * 6 ≤ (r.s.length : Int) - r.at_ + 6
  | 0, r, h => by have := h.2; simp only [rdSyms, List.length_nil]; omega
  | n + 1, r, h => by
    obtain ⟨a1, a2, a3⟩ := rdS_in h
    have h2 := h.2
    unfold rdSyms
    split
    · simp only [List.length_nil]; omega
    · simp only [List.length_cons]
      cases hb : (rdS r).2.bad with
      | true => rw [rdSyms_bad n _ hb]; simp only [List.length_nil]; omega
      | false =>
        have ih := rdSyms_len n (rdS r).2 a1
        have := a3 hb
        rw [rdS_s] at ih
        omega
theorem image_syms (t u1 u2 u3 u4 : List UInt8) (i1 i2 i3 i4 : Int) (l0 : List Symbol) : ∀ (n : Nat) (r : Reader) (acc : List Symbol), r.s.length ≤ 1000000 → acc.length + n ≤ 1000000 →
    Limage_Decode_0 none ⟨t, (n : Int), u1, u2, i1, i2, r, u3, u4, i3, i4, l0, acc⟩ = some (t, u1, u2, i1, i2, (rdSyms n r).2, u3, u4, i3, i4, l0, acc ++ (rdSyms n r).1) := by
  intro n
  induction n with
  | zero =>
    intro r acc hs hn
    refine lim_done ?_
    simp [Wimage_Decode_0, Tree.run, rdSyms]
  | succ n ih =>
    intro r acc hs hn
    have k : (0 : Int) < ((n + 1 : Nat) : Int) := by omega
    cases hb : r.bad with
    | true =>
      refine lim_done ?_
      simp only [Wimage_Decode_0, Tree.run, k, hb, decide_true, if_true, Bool.not_true, Bool.false_eq_true, if_false, rdSyms, List.append_nil]
    | false =>
      have e1 := (text_def r hs).1
      have s1 := rdT_s r
      have e2 : image_reader_num none (1 : Int) (rdT r).2 = some (rdN 1 (rdT r).2) := (num_def (rdT r).2 1 (by omega) (by omega) (by rw [s1]; exact hs)).1
      have s2 := rdN_s 1 (rdT r).2
      have e3 : image_reader_num none (2 : Int) (rdN 1 (rdT r).2).2 = some (rdN 2 (rdN 1 (rdT r).2).2) := (num_def (rdN 1 (rdT r).2).2 2 (by omega) (by omega) (by rw [s2, s1]; exact hs)).1
      have s3 := rdN_s 2 (rdN 1 (rdT r).2).2
      have e4 : image_reader_num none (1 : Int) (rdN 2 (rdN 1 (rdT r).2).2).2 = some (rdN 1 (rdN 2 (rdN 1 (rdT r).2).2).2) := (num_def (rdN 2 (rdN 1 (rdT r).2).2).2 1 (by omega) (by omega) (by rw [s3, s2, s1]; exact hs)).1
      have w : IntKind.wrap .i64 (((n + 1 : Nat) : Int) - 1) = (n : Int) := by rw [wrap_id] <;> omega
      have hl : (acc.length + ([(rdS r).1] : List Symbol).length) * 40 ≤ 140737488355328 := by simp only [List.length_cons, List.length_nil]; omega
      have hl' : (acc.length + ([Symbol.mk (rdT r).1 (rdN 1 (rdT r).2).1 (rdN 2 (rdN 1 (rdT r).2).2).1 (decide ((rdN 1 (rdN 2 (rdN 1 (rdT r).2).2).2).1 = 1))] : List Symbol).length) * 40 ≤ 140737488355328 := hl
      have step : (Wimage_Decode_0 none ⟨t, ((n + 1 : Nat) : Int), u1, u2, i1, i2, r, u3, u4, i3, i4, l0, acc⟩).run = some (.inl ⟨t, (n : Int), u1, u2, i1, i2, (rdS r).2, u3, u4, i3, i4, l0, acc ++ [(rdS r).1]⟩) := by
        simp only [Wimage_Decode_0, Tree.run, k, hb, decide_true, if_true, Bool.not_false, e1, e2, e3, e4, Option.bind_some, hl', w, rdS]
      have hq := ih (rdS r).2 (acc ++ [(rdS r).1]) (by rw [rdS_s]; exact hs) (by rw [List.length_append, List.length_cons, List.length_nil]; omega)
      have e : rdSyms (n + 1) r = ((rdS r).1 :: (rdSyms n (rdS r).2).1, (rdSyms n (rdS r).2).2) := by
        conv => lhs; unfold rdSyms
        rw [if_neg (by rw [hb]; simp)]
      rw [e]
      have hq' : Limage_Decode_0 none ⟨t, ((n + 1 : Nat) : Int), u1, u2, i1, i2, r, u3, u4, i3, i4, l0, acc⟩ = Limage_Decode_0 none ⟨t, (n : Int), u1, u2, i1, i2, (rdS r).2, u3, u4, i3, i4, l0, acc ++ [(rdS r).1]⟩ := lim_next step
      rw [hq', hq, List.append_assoc]; rfl
theorem ref_syms (n : Nat) : ∀ (m : Nat) (r : Reader) (acc : List Symbol), r.s.length ≤ 1000000 → acc.length + m = n → n ≤ 1000000 →
    Lref28_Reader_Symbols_0 none ⟨(n : Int), r, acc⟩ = some ((rdSyms m r).2, acc ++ (rdSyms m r).1) := by
  intro m
  induction m with
  | zero =>
    intro r acc hs hn _
    refine lim_done ?_
    have k : ¬ (acc.length : Int) < (n : Int) := by omega
    simp [Wref28_Reader_Symbols_0, Tree.run, rdSyms, k]
  | succ m ih =>
    intro r acc hs hn hN
    have k : (acc.length : Int) < (n : Int) := by omega
    cases hb : r.bad with
    | true =>
      refine lim_done ?_
      simp only [Wref28_Reader_Symbols_0, Tree.run, k, hb, decide_true, if_true, Bool.not_true, Bool.false_eq_true, if_false, rdSyms, List.append_nil]
    | false =>
      have e1 := (text_def r hs).2
      have s1 := rdT_s r
      have e2 : ref28_Reader_Number none (1 : Int) (rdT r).2 = some (rdN 1 (rdT r).2) := (num_def (rdT r).2 1 (by omega) (by omega) (by rw [s1]; exact hs)).2
      have s2 := rdN_s 1 (rdT r).2
      have e3 : ref28_Reader_Number none (2 : Int) (rdN 1 (rdT r).2).2 = some (rdN 2 (rdN 1 (rdT r).2).2) := (num_def (rdN 1 (rdT r).2).2 2 (by omega) (by omega) (by rw [s2, s1]; exact hs)).2
      have s3 := rdN_s 2 (rdN 1 (rdT r).2).2
      have e4 : ref28_Reader_Number none (1 : Int) (rdN 2 (rdN 1 (rdT r).2).2).2 = some (rdN 1 (rdN 2 (rdN 1 (rdT r).2).2).2) := (num_def (rdN 2 (rdN 1 (rdT r).2).2).2 1 (by omega) (by omega) (by rw [s3, s2, s1]; exact hs)).2
      have hl : (acc.length + ([(rdS r).1] : List Symbol).length) * 40 ≤ 140737488355328 := by simp only [List.length_cons, List.length_nil]; omega
      have hl' : (acc.length + ([Symbol.mk (rdT r).1 (rdN 1 (rdT r).2).1 (rdN 2 (rdN 1 (rdT r).2).2).1 (decide ((rdN 1 (rdN 2 (rdN 1 (rdT r).2).2).2).1 = 1))] : List Symbol).length) * 40 ≤ 140737488355328 := hl
      have step : (Wref28_Reader_Symbols_0 none ⟨(n : Int), r, acc⟩).run = some (.inl ⟨(n : Int), (rdS r).2, acc ++ [(rdS r).1]⟩) := by
        simp only [Wref28_Reader_Symbols_0, Tree.run, k, hb, decide_true, if_true, Bool.not_false, e1, e2, e3, e4, Option.bind_some, hl', rdS]
      have hq := ih (rdS r).2 (acc ++ [(rdS r).1]) (by rw [rdS_s]; exact hs) (by rw [List.length_append, List.length_cons, List.length_nil]; omega) hN
      have e : rdSyms (m + 1) r = ((rdS r).1 :: (rdSyms m (rdS r).2).1, (rdSyms m (rdS r).2).2) := by
        conv => lhs; unfold rdSyms
        rw [if_neg (by rw [hb]; simp)]
      rw [e]
      have hq' : Lref28_Reader_Symbols_0 none ⟨(n : Int), r, acc⟩ = Lref28_Reader_Symbols_0 none ⟨(n : Int), (rdS r).2, acc ++ [(rdS r).1]⟩ := lim_next step
      rw [hq', hq, List.append_assoc]; rfl
end Go.Proofs.Ytghgcaieciklbaa
end
section
set_option linter.unusedSimpArgs false
set_option linter.unusedVariables false
namespace Go.Proofs.Ytghgcaieciklbaa
open Go Go.Ab
def nulI : Image := ⟨[], [], 0, 0, []⟩
noncomputable def Chk (x : Image) : Int := (image_Check none x).getD 1
theorem Chk_def (x : Image) (h : SmI x) : image_Check none x = some (Chk x) ∧ ref31_Check none x = some (Chk x) ∧ (Chk x = 0 → Fine x) := by
  obtain ⟨e, h1, h2, h3⟩ := Check_eq x h
  have : Chk x = e := by simp [Chk, h1]
  rw [this]
  exact ⟨h1, h2, h3⟩
def decI (t : List UInt8) : Image × Reader :=
  let a := rdT ⟨t, 4, false⟩
  let b := rdT a.2
  let c := rdN 2 b.2
  let d := rdN 2 c.2
  let e := rdN 2 d.2
  let f := rdSyms e.1.toNat e.2
  (⟨a.1, b.1, c.1, d.1, f.1⟩, f.2)
theorem rdN_lt (w : Nat) (r : Reader) : 0 ≤ (rdN w r).1 ∧ (rdN w r).1 < 256 ^ w := by
  unfold rdN
  split
  · rename_i c
    obtain ⟨h1, h2, h3, h4, h5⟩ := getR_ok c
    exact ⟨h4, h5⟩
  · exact ⟨Int.le_refl _, Int.pow_pos (by omega)⟩
theorem rdN_out {t : List UInt8} (h : t.length < 4) (w : Nat) (b : Bool) : rdN w ⟨t, 4, b⟩ = (0, ⟨t, 4, true⟩) := by
  have : getR t 4 w = (0, 0, 1) := if_pos (.inr (by omega))
  unfold rdN
  simp [this]
theorem rdT_out {t : List UInt8} (h : t.length < 4) (b : Bool) : rdT ⟨t, 4, b⟩ = ([], ⟨t, 4, true⟩) := by
  have : getR t 4 2 = (0, 0, 1) := if_pos (.inr (by omega))
  unfold rdT textR
  simp [this]
theorem decI_out {t : List UInt8} (h : t.length < 4) : decI t = (nulI, ⟨t, 4, true⟩) := by
  simp only [decI, rdT_out h, rdN_out h]
  rfl
theorem decI_sm (t : List UInt8) (h : t.length ≤ 50000) : SmI (decI t).1 := by
  rcases Nat.lt_or_ge t.length 4 with h4 | h4
  · rw [decI_out h4]; exact ⟨by simp [nulI], by simp [nulI], by simp [nulI]⟩
  · have i0 : InR ⟨t, 4, false⟩ := ⟨by simp, by simp only; omega⟩
    obtain ⟨i1, _⟩ := rdT_in i0
    obtain ⟨i2, _⟩ := rdT_in i1
    obtain ⟨i3, _⟩ := rdN_in (w := 2) i2
    obtain ⟨i4, _⟩ := rdN_in (w := 2) i3
    obtain ⟨i5, _⟩ := rdN_in (w := 2) i4
    have l1 := rdT_len ⟨t, 4, false⟩
    have l2 := rdT_len (rdT ⟨t, 4, false⟩).2
    have l3 := rdSyms_len (rdN 2 (rdN 2 (rdN 2 (rdT (rdT ⟨t, 4, false⟩).2).2).2).2).1.toNat _ i5
    rw [rdT_s] at l2
    simp only [rdN_s, rdT_s] at l3
    have p5 := i5.1
    refine ⟨?_, ?_, ?_⟩
    · simp only [decI]; simp only at l1; omega
    · simp only [decI]; simp only at l2; omega
    · simp only [decI]; omega
noncomputable def decR (s : List UInt8) : Image × Int :=
  if (openR s).2 = 0 then (if (decI (openR s).1).2.bad = false ∧ Chk (decI (openR s).1).1 = 0 ∧ bodyL (decI (openR s).1).1 = (openR s).1 then ((decI (openR s).1).1, 0) else (nulI, 9)) else (nulI, (openR s).2)
theorem openR_len {s : List UInt8} : (openR s).1.length ≤ s.length := by
  unfold openR
  split
  · simp
  · split
    · simp only [List.length_take]; omega
    · simp
theorem prefix_def (t : List UInt8) : strings_HasPrefix t ([73, 77, 71, 49] : List UInt8) = some (decide (t.take 4 = [73, 77, 71, 49])) := by
  simp only [strings_HasPrefix, Tstrings_HasPrefix, internal_stringslite_HasPrefix, Tinternal_stringslite_HasPrefix, Tree.run]
  by_cases h : 4 ≤ t.length
  · have h1 : ((([73, 77, 71, 49] : List UInt8).length : Nat) : Int) ≤ (t.length : Int) := by simp only [List.length_cons, List.length_nil]; omega
    have h2 : (0 : Int) ≤ ((([73, 77, 71, 49] : List UInt8).length : Nat) : Int) := by omega
    have h3 : (((([73, 77, 71, 49] : List UInt8).length : Nat) : Int)).toNat - 0 = 4 := rfl
    simp only [h1, h2, h3, decide_true, if_true, List.drop_zero, Option.bind_some]
  · have h1 : ¬ ((([73, 77, 71, 49] : List UInt8).length : Nat) : Int) ≤ (t.length : Int) := by simp only [List.length_cons, List.length_nil]; omega
    have h2 : ¬ t.take 4 = [73, 77, 71, 49] := by
      intro e
      have := congrArg List.length e
      simp only [List.length_take, List.length_cons, List.length_nil] at this
      omega
    simp only [h1, h2, decide_false, Bool.false_eq_true, if_false, Option.bind_some]
theorem body_take (x : Image) : (bodyL x).take 4 = [73, 77, 71, 49] := by simp [bodyL, headL]
theorem openR_split {s : List UInt8} (h : (openR s).2 = 0) : s = sealL (openR s).1 := openR_seal (s := s) (t := (openR s).1) (Prod.ext rfl h)
theorem image_Decode_def (s : List UInt8) (h : s.length ≤ 50000) : image_Decode none s = some (decR s) := by
  have ho := (Open_def s (by omega)).1
  have hl : (openR s).1.length ≤ 50000 := by have := openR_len (s := s); omega
  simp only [image_Decode, Timage_Decode, Tree.run, ho, Option.bind_some, decR]
  by_cases c0 : (openR s).2 = 0
  rotate_left
  · simp only [c0, decide_false, Bool.not_false, if_true, if_false]; rfl
  generalize (openR s).1 = t at *
  simp only [c0, decide_true, Bool.not_true, Bool.false_eq_true, if_false, if_true, prefix_def, Option.bind_some]
  by_cases c1 : t.take 4 = [73, 77, 71, 49]
  rotate_left
  · have : ¬ ((decI t).2.bad = false ∧ Chk (decI t).1 = 0 ∧ bodyL (decI t).1 = t) := fun ⟨_, _, e⟩ => c1 (by rw [← e]; exact body_take _)
    rw [if_neg this]
    simp only [c1, decide_false, Bool.not_false, if_true]; rfl
  have hs : t.length ≤ 1000000 := by omega
  have e1 := (text_def ⟨t, 4, false⟩ hs).1
  have s1 := rdT_s ⟨t, 4, false⟩
  have e2 := (text_def (rdT ⟨t, 4, false⟩).2 (by rw [s1]; exact hs)).1
  have s2 := rdT_s (rdT ⟨t, 4, false⟩).2
  have e3 : image_reader_num none (2 : Int) _ = some _ := (num_def (rdT (rdT ⟨t, 4, false⟩).2).2 2 (by omega) (by omega) (by rw [s2, s1]; exact hs)).1
  have s3 := rdN_s 2 (rdT (rdT ⟨t, 4, false⟩).2).2
  have e4 : image_reader_num none (2 : Int) _ = some _ := (num_def (rdN 2 (rdT (rdT ⟨t, 4, false⟩).2).2).2 2 (by omega) (by omega) (by rw [s3, s2, s1]; exact hs)).1
  have s4 := rdN_s 2 (rdN 2 (rdT (rdT ⟨t, 4, false⟩).2).2).2
  have e5 : image_reader_num none (2 : Int) _ = some _ := (num_def (rdN 2 (rdN 2 (rdT (rdT ⟨t, 4, false⟩).2).2).2).2 2 (by omega) (by omega) (by rw [s4, s3, s2, s1]; exact hs)).1
  have s5 := rdN_s 2 (rdN 2 (rdN 2 (rdT (rdT ⟨t, 4, false⟩).2).2).2).2
  have hlt := rdN_lt 2 (rdN 2 (rdN 2 (rdT (rdT ⟨t, 4, false⟩).2).2).2).2
  obtain ⟨n, hn⟩ : ∃ n : Nat, (rdN 2 (rdN 2 (rdN 2 (rdT (rdT ⟨t, 4, false⟩).2).2).2).2).1 = (n : Int) := ⟨_, (Int.toNat_of_nonneg hlt.1).symm⟩
  have e6 := image_syms t [] [] (rdT ⟨t, 4, false⟩).1 (rdT (rdT ⟨t, 4, false⟩).2).1 0 0 (rdN 2 (rdT (rdT ⟨t, 4, false⟩).2).2).1 (rdN 2 (rdN 2 (rdT (rdT ⟨t, 4, false⟩).2).2).2).1 [] n (rdN 2 (rdN 2 (rdN 2 (rdT (rdT ⟨t, 4, false⟩).2).2).2).2).2 [] (by rw [s5, s4, s3, s2, s1]; exact hs) (by
    have : (n : Int) < 65536 := by rw [← hn]; exact hlt.2
    simp only [List.length_nil]; omega)
  rw [← hn] at e6
  simp only [c1, decide_true, Bool.not_true, Bool.false_eq_true, if_false, e1, e2, e3, e4, e5, e6, Option.bind_some, List.nil_append]
  have hx : (decI t).1 = ⟨(rdT ⟨t, 4, false⟩).1, (rdT (rdT ⟨t, 4, false⟩).2).1, (rdN 2 (rdT (rdT ⟨t, 4, false⟩).2).2).1, (rdN 2 (rdN 2 (rdT (rdT ⟨t, 4, false⟩).2).2).2).1, (rdSyms n (rdN 2 (rdN 2 (rdN 2 (rdT (rdT ⟨t, 4, false⟩).2).2).2).2).2).1⟩ := by simp only [decI, hn, Int.toNat_natCast]
  have hr : (decI t).2 = (rdSyms n (rdN 2 (rdN 2 (rdN 2 (rdT (rdT ⟨t, 4, false⟩).2).2).2).2).2).2 := by simp only [decI, hn, Int.toNat_natCast]
  have hS := decI_sm t hl
  obtain ⟨k1, k2, k3⟩ := Chk_def (decI t).1 hS
  rw [← hr, ← hx]
  cases hb : (decI t).2.bad with
  | true => simp [nulI]
  | false =>
    simp only [Bool.false_eq_true, if_false, k1, Option.bind_some, true_and]
    by_cases c2 : Chk (decI t).1 = 0
    · have hB := body_def (decI t).1 hS (k3 c2)
      simp only [c2, decide_true, Bool.not_true, Bool.false_eq_true, if_false, hB, Option.bind_some, true_and]
      by_cases c3 : bodyL (decI t).1 = t
      · simp only [c3, decide_true, Bool.not_true, Bool.false_eq_true, if_false, if_true]
      · simp only [c3, decide_false, Bool.not_false, if_true, if_false]; rfl
    · simp only [c2, decide_false, Bool.not_false, if_true, false_and, if_false]; rfl
theorem ref_Decode_def (s : List UInt8) (h : s.length ≤ 50000) : ref31_Decode none s = some (decR s) := by
  have ho := (Open_def s (by omega)).2
  have hl : (openR s).1.length ≤ 50000 := by have := openR_len (s := s); omega
  have hsp := openR_split (s := s)
  simp only [ref31_Decode, Tref31_Decode, Tree.run, ho, Option.bind_some, decR]
  by_cases c0 : (openR s).2 = 0
  rotate_left
  · simp only [c0, decide_false, Bool.not_false, if_true, if_false]; rfl
  replace hsp := hsp c0
  generalize (openR s).1 = t at *
  simp only [c0, decide_true, Bool.not_true, Bool.false_eq_true, if_false, if_true, Option.bind_some]
  have hs : t.length ≤ 1000000 := by omega
  have e1 := (text_def ⟨t, 4, false⟩ hs).2
  have s1 := rdT_s ⟨t, 4, false⟩
  have e2 := (text_def (rdT ⟨t, 4, false⟩).2 (by rw [s1]; exact hs)).2
  have s2 := rdT_s (rdT ⟨t, 4, false⟩).2
  have e3 : ref28_Reader_Number none (2 : Int) _ = some _ := (num_def (rdT (rdT ⟨t, 4, false⟩).2).2 2 (by omega) (by omega) (by rw [s2, s1]; exact hs)).2
  have s3 := rdN_s 2 (rdT (rdT ⟨t, 4, false⟩).2).2
  have e4 : ref28_Reader_Number none (2 : Int) _ = some _ := (num_def (rdN 2 (rdT (rdT ⟨t, 4, false⟩).2).2).2 2 (by omega) (by omega) (by rw [s3, s2, s1]; exact hs)).2
  have s4 := rdN_s 2 (rdN 2 (rdT (rdT ⟨t, 4, false⟩).2).2).2
  have e5 : ref28_Reader_Number none (2 : Int) _ = some _ := (num_def (rdN 2 (rdN 2 (rdT (rdT ⟨t, 4, false⟩).2).2).2).2 2 (by omega) (by omega) (by rw [s4, s3, s2, s1]; exact hs)).2
  have s5 := rdN_s 2 (rdN 2 (rdN 2 (rdT (rdT ⟨t, 4, false⟩).2).2).2).2
  have hlt := rdN_lt 2 (rdN 2 (rdN 2 (rdT (rdT ⟨t, 4, false⟩).2).2).2).2
  obtain ⟨n, hn⟩ : ∃ n : Nat, (rdN 2 (rdN 2 (rdN 2 (rdT (rdT ⟨t, 4, false⟩).2).2).2).2).1 = (n : Int) := ⟨_, (Int.toNat_of_nonneg hlt.1).symm⟩
  have e6 := ref_syms n n (rdN 2 (rdN 2 (rdN 2 (rdT (rdT ⟨t, 4, false⟩).2).2).2).2).2 [] (by rw [s5, s4, s3, s2, s1]; exact hs) (by simp) (by
    have : (n : Int) < 65536 := by rw [← hn]; exact hlt.2
    omega)
  rw [← hn] at e6
  simp only [ref28_Reader_Symbols, Tref28_Reader_Symbols, Tree.run, e1, e2, e3, e4, e5, e6, Option.bind_some, List.nil_append]
  have hx : (decI t).1 = ⟨(rdT ⟨t, 4, false⟩).1, (rdT (rdT ⟨t, 4, false⟩).2).1, (rdN 2 (rdT (rdT ⟨t, 4, false⟩).2).2).1, (rdN 2 (rdN 2 (rdT (rdT ⟨t, 4, false⟩).2).2).2).1, (rdSyms n (rdN 2 (rdN 2 (rdN 2 (rdT (rdT ⟨t, 4, false⟩).2).2).2).2).2).1⟩ := by simp only [decI, hn, Int.toNat_natCast]
  have hr : (decI t).2 = (rdSyms n (rdN 2 (rdN 2 (rdN 2 (rdT (rdT ⟨t, 4, false⟩).2).2).2).2).2).2 := by simp only [decI, hn, Int.toNat_natCast]
  have hS := decI_sm t hl
  obtain ⟨k1, k2, k3⟩ := Chk_def (decI t).1 hS
  have hE := refEncode_def (decI t).1 _ hS k3 k2
  rw [← hr, ← hx]
  simp only [hE, Option.bind_some]
  cases hb : (decI t).2.bad with
  | true => simp [nulI]
  | false =>
    simp only [Bool.false_eq_true, if_false, true_and]
    by_cases c2 : Chk (decI t).1 = 0
    · simp only [c2, decide_true, Bool.not_true, Bool.false_eq_true, if_false, if_true, true_and]
      by_cases c3 : bodyL (decI t).1 = t
      · have h' : sealL t = s := hsp.symm
        simp only [c3, h', decide_true, Bool.not_true, Bool.false_eq_true, if_false, c3, if_true]
      · have : ¬ sealL (bodyL (decI t).1) = s := fun e => c3 (sealL_inj (by rw [e]; exact hsp))
        simp only [this, decide_false, Bool.not_false, if_true, c3, if_false]; rfl
    · simp only [c2, decide_false, Bool.not_false, if_true, false_and, if_false]; rfl
theorem decR_ok {s : List UInt8} (h : (decR s).2 = 0) (hl : s.length ≤ 50000) : SmI (decR s).1 ∧ Fine (decR s).1 ∧ Chk (decR s).1 = 0 ∧ sealL (bodyL (decR s).1) = s := by
  unfold decR at h ⊢
  by_cases c0 : (openR s).2 = 0
  · rw [if_pos c0] at h ⊢
    by_cases c1 : (decI (openR s).1).2.bad = false ∧ Chk (decI (openR s).1).1 = 0 ∧ bodyL (decI (openR s).1).1 = (openR s).1
    · rw [if_pos c1]
      have hS := decI_sm (openR s).1 (by have := openR_len (s := s); omega)
      exact ⟨hS, (Chk_def _ hS).2.2 c1.2.1, c1.2.1, by simp only [c1.2.2]; exact (openR_split c0).symm⟩
    · rw [if_neg c1] at h; exact absurd h (by simp)
  · rw [if_neg c0] at h; exact absurd h c0
end Go.Proofs.Ytghgcaieciklbaa
end
section
set_option linter.unusedSimpArgs false
set_option linter.unusedVariables false
namespace Go.Proofs.Ytghgcaieciklbaa
open Go Go.Ab
theorem rdT_put {t p s q : List UInt8} (e : t = p ++ (putT s ++ q)) {a : Int} (ha : a = (p.length : Int)) (h : s.length ≤ 65535) (b : Bool) : rdT ⟨t, a, b⟩ = (s, ⟨t, a + 2 + (s.length : Int), b⟩) := by
  subst e ha
  unfold rdT
  simp only [text_put p s q h, if_true]
theorem rdN_put {t p q : List UInt8} {v : Int} {w : Nat} (e : t = p ++ (putL v w ++ q)) {a : Int} (ha : a = (p.length : Int)) (h0 : 0 ≤ v) (hv : v < 256 ^ w) (b : Bool) : rdN w ⟨t, a, b⟩ = (v, ⟨t, a + (w : Int), b⟩) := by
  subst e ha
  unfold rdN
  simp only [get_put p q hv h0, if_true]
theorem rdS_put {t p q : List UInt8} {s : Symbol} (e : t = p ++ (symL s ++ q)) {a : Int} (ha : a = (p.length : Int)) (h : GoodC s) (b : Bool) : rdS ⟨t, a, b⟩ = (s, ⟨t, a + ((symL s).length : Int), b⟩) := by
  obtain ⟨hn, h1, h2, h3, h4⟩ := h
  have q0 := putT_len s.name
  have q1 := putL_len s.section_ 1
  have q2 := putL_len s.value 2
  have e1 := rdT_put (t := t) (p := p) (s := s.name) (q := putL s.section_ 1 ++ (putL s.value 2 ++ (bitL s.global ++ q))) (by rw [e]; simp [symL]) ha (by omega) b
  have e2 := rdN_put (t := t) (p := p ++ putT s.name) (v := s.section_) (w := 1) (q := putL s.value 2 ++ (bitL s.global ++ q)) (by rw [e]; simp [symL]) (a := a + 2 + (s.name.length : Int)) (by rw [List.length_append, q0]; omega) h1 (show s.section_ < 256 by omega) b
  have e3 := rdN_put (t := t) (p := p ++ (putT s.name ++ putL s.section_ 1)) (v := s.value) (w := 2) (q := bitL s.global ++ q) (by rw [e]; simp [symL]) (a := a + 2 + (s.name.length : Int) + ((1 : Nat) : Int)) (by rw [List.length_append, List.length_append, q0, q1]; omega) h3 (show s.value < 65536 by omega) b
  have e4 := rdN_put (t := t) (p := p ++ (putT s.name ++ (putL s.section_ 1 ++ putL s.value 2))) (v := if s.global then 1 else 0) (w := 1) (q := q) (by rw [e]; simp [symL, bitL]) (a := a + 2 + (s.name.length : Int) + ((1 : Nat) : Int) + ((2 : Nat) : Int)) (by rw [List.length_append, List.length_append, List.length_append, q0, q1, q2]; omega) (by split <;> omega) (show (if s.global then (1 : Int) else 0) < 256 by split <;> omega) b
  have hl := symL_len s
  unfold rdS
  simp only [e1, e2, e3, e4]
  refine Prod.ext ?_ ?_
  · cases s with
    | mk nm sc vl g => cases g <;> simp
  · simp only [hl]
    congr 1
    omega
theorem rdSyms_put {t q : List UInt8} : ∀ (l : List Symbol) {p : List UInt8} (e : t = p ++ (symsL l ++ q)) {a : Int} (ha : a = (p.length : Int)) (h : ∀ s ∈ l, GoodC s), rdSyms l.length ⟨t, a, false⟩ = (l, ⟨t, a + ((symsL l).length : Int), false⟩)
  | [], p, e, a, ha, h => by simp [rdSyms, symsL]
  | s :: l, p, e, a, ha, h => by
    have e1 := rdS_put (t := t) (p := p) (q := symsL l ++ q) (s := s) (by rw [e]; simp [symsL]) ha (h s (List.mem_cons_self ..)) false
    have e2 := rdSyms_put (t := t) (q := q) l (p := p ++ symL s) (by rw [e]; simp [symsL]) (a := a + ((symL s).length : Int)) (by rw [List.length_append]; omega) fun y hy => h y (List.mem_cons_of_mem _ hy)
    have e3 : symsL (s :: l) = symL s ++ symsL l := by simp [symsL]
    show rdSyms (l.length + 1) _ = _
    unfold rdSyms
    rw [if_neg (by simp), e1]
    simp only [e2, e3, List.length_append]
    refine Prod.ext rfl ?_
    simp only
    congr 1
    omega
theorem decI_put {x : Image} (hS : SmI x) (hF : Fine x) {t q : List UInt8} (e : t = bodyL x ++ q) : decI t = (x, ⟨t, ((bodyL x).length : Int), false⟩) := by
  obtain ⟨s1, s2, s3⟩ := hS
  have f1 := hF.bss
  have f2 := hF.bssLe
  have f3 := hF.entry
  have f4 := hF.entryLe
  have f5 := hF.syms
  have t1 := putT_len x.text
  have t2 := putT_len x.data
  have q1 := putL_len x.bss 2
  have q2 := putL_len x.entry 2
  have q3 := putL_len (x.symbols.length : Int) 2
  have e1 := rdT_put (t := t) (p := [73, 77, 71, 49]) (s := x.text) (q := putT x.data ++ (putL x.bss 2 ++ (putL x.entry 2 ++ (putL (x.symbols.length : Int) 2 ++ (symsL x.symbols ++ q))))) (by rw [e]; simp [bodyL, headL]) (a := 4) (by simp) (by omega) false
  have e2 := rdT_put (t := t) (p := [73, 77, 71, 49] ++ putT x.text) (s := x.data) (q := putL x.bss 2 ++ (putL x.entry 2 ++ (putL (x.symbols.length : Int) 2 ++ (symsL x.symbols ++ q)))) (by rw [e]; simp [bodyL, headL]) (a := 4 + 2 + (x.text.length : Int)) (by simp only [List.length_append, t1, List.length_cons, List.length_nil]; omega) (by omega) false
  have e3 := rdN_put (t := t) (p := [73, 77, 71, 49] ++ putT x.text ++ putT x.data) (v := x.bss) (w := 2) (q := putL x.entry 2 ++ (putL (x.symbols.length : Int) 2 ++ (symsL x.symbols ++ q))) (by rw [e]; simp [bodyL, headL]) (a := 4 + 2 + (x.text.length : Int) + 2 + (x.data.length : Int)) (by simp only [List.length_append, t1, t2, List.length_cons, List.length_nil]; omega) f1 (show x.bss < 65536 by omega) false
  have e4 := rdN_put (t := t) (p := [73, 77, 71, 49] ++ putT x.text ++ putT x.data ++ putL x.bss 2) (v := x.entry) (w := 2) (q := putL (x.symbols.length : Int) 2 ++ (symsL x.symbols ++ q)) (by rw [e]; simp [bodyL, headL]) (a := 4 + 2 + (x.text.length : Int) + 2 + (x.data.length : Int) + ((2 : Nat) : Int)) (by simp only [List.length_append, t1, t2, q1, List.length_cons, List.length_nil]; omega) f3 (show x.entry < 65536 by omega) false
  have e5 := rdN_put (t := t) (p := headL x) (v := (x.symbols.length : Int)) (w := 2) (q := symsL x.symbols ++ q) (by rw [e]; simp [bodyL]) (a := 4 + 2 + (x.text.length : Int) + 2 + (x.data.length : Int) + ((2 : Nat) : Int) + ((2 : Nat) : Int)) (by rw [headL_len]; omega) (by omega) (show (x.symbols.length : Int) < 65536 by omega) false
  have e6 := rdSyms_put (t := t) (q := q) x.symbols (p := headL x ++ putL (x.symbols.length : Int) 2) (by rw [e]; simp [bodyL]) (a := 4 + 2 + (x.text.length : Int) + 2 + (x.data.length : Int) + ((2 : Nat) : Int) + ((2 : Nat) : Int) + ((2 : Nat) : Int)) (by rw [List.length_append, headL_len, q3]; omega) hF.good
  have hl : ((bodyL x).length : Int) = 4 + 2 + (x.text.length : Int) + 2 + (x.data.length : Int) + ((2 : Nat) : Int) + ((2 : Nat) : Int) + ((2 : Nat) : Int) + ((symsL x.symbols).length : Int) := by
    simp only [bodyL, List.length_append, headL_len, q3]; omega
  unfold decI
  simp only [e1, e2, e3, e4, e5, Int.toNat_natCast, e6, hl]
theorem body_inj {x y : Image} (hx : SmI x ∧ Fine x) (hy : SmI y ∧ Fine y) {q r : List UInt8} (e : bodyL x ++ q = bodyL y ++ r) : x = y := by
  have h1 := decI_put hx.1 hx.2 (t := bodyL x ++ q) rfl
  have h2 := decI_put hy.1 hy.2 e
  rw [h1] at h2
  exact congrArg Prod.fst h2
theorem decR_seal {x : Image} (hS : SmI x) (hF : Fine x) (hC : Chk x = 0) : decR (sealL (bodyL x)) = (x, 0) := by
  have h := decI_put hS hF (t := bodyL x) (q := []) (by simp)
  unfold decR
  simp only [openR_of_seal, if_true, h, hC, and_self, if_true]
theorem decR_cut {x : Image} (hS : SmI x) (hF : Fine x) {k : Nat} (hk : k < (sealL (bodyL x)).length) (hl : (sealL (bodyL x)).length ≤ 50000) : (decR ((sealL (bodyL x)).take k)).2 ≠ 0 := by
  intro h
  have hlen : ((sealL (bodyL x)).take k).length = k := by rw [List.length_take]; omega
  obtain ⟨hS', hF', _, hE⟩ := decR_ok h (by omega)
  have e : bodyL x ++ putL (crcV (bodyL x)) 4 = bodyL (decR ((sealL (bodyL x)).take k)).1 ++ (putL (crcV (bodyL (decR ((sealL (bodyL x)).take k)).1)) 4 ++ (sealL (bodyL x)).drop k) := by
    have := (List.take_append_drop k (sealL (bodyL x))).symm
    rw [← hE] at this
    simp only [sealL, List.append_assoc] at this ⊢
    exact this
  have hxy := body_inj ⟨hS, hF⟩ ⟨hS', hF'⟩ e
  rw [← hxy] at hE
  rw [← hE] at hlen
  omega
theorem decR_set {x : Image} (hS : SmI x) (hF : Fine x) {k : Nat} {b : UInt8} (hk : k < (sealL (bodyL x)).length) (hb : b ≠ (sealL (bodyL x))[k]) (hl : (sealL (bodyL x)).length ≤ 50000) : (decR ((sealL (bodyL x)).set k b)).2 ≠ 0 := by
  intro h
  obtain ⟨hS', hF', _, hE⟩ := decR_ok h (by rw [List.length_set]; exact hl)
  generalize hy : bodyL (decR ((sealL (bodyL x)).set k b)).1 = y at hE
  have hlen := congrArg List.length hE
  rw [List.length_set, sealL_len, sealL_len] at hlen
  generalize bodyL x = t at *
  have hE2 : y ++ putL (crcV y) 4 = (t ++ putL (crcV t) 4).set k b := hE
  rcases Nat.lt_or_ge k t.length with hkt | hkt
  · rw [List.set_append_left _ _ hkt] at hE2
    obtain ⟨h1, h2⟩ := List.append_inj hE2 (by rw [List.length_set]; omega)
    have h3 := putL_inj4 (crcV_in _) (crcV_in _) h2
    rw [h1] at h3
    have h4 := crcV_set t k b hkt h3
    refine hb (h4.trans ?_)
    simp only [sealL]
    rw [List.getElem_append_left hkt]
  · rw [List.set_append_right _ _ hkt] at hE2
    obtain ⟨h1, h2⟩ := List.append_inj hE2 (by omega)
    rw [h1] at hE
    have h5 : (sealL t)[k]? = some b := by rw [hE, List.getElem?_set_self hk]
    rw [List.getElem?_eq_getElem hk] at h5
    exact hb (Option.some.inj h5).symm
end Go.Proofs.Ytghgcaieciklbaa
end
section
set_option linter.unusedSimpArgs false
set_option linter.unusedVariables false
namespace Go.Proofs.Ytghgcaieciklbaa
open Go Go.Ab
theorem SameSymbols_self (l : List Symbol) (hl : l.length ≤ 1000000) : ref28_SameSymbols none l l = some true := by
  have hc := lim_count (f := fun s => (Wref28_SameSymbols_0 s).run) (fun i : Nat => ⟨l, l, (i : Int)⟩) l.length (fun i hi => by
    have k1 : (i : Int) < (l.length : Int) := by omega
    have k2 : (0 : Int) ≤ (i : Int) := by omega
    have g := List.getElem?_eq_getElem hi
    have w := wrap_succ hi (show l.length ≤ 9223372036854775807 by omega)
    simp [Wref28_SameSymbols_0, Tree.run, k1, k2, g, w]) 0 (Nat.zero_le _)
  have hd : Lref28_SameSymbols_0 none ⟨l, l, (l.length : Int)⟩ = some (.inr ()) := lim_done (by simp [Wref28_SameSymbols_0, Tree.run])
  have h : Lref28_SameSymbols_0 none ⟨l, l, (0 : Int)⟩ = some (.inr ()) := hc.trans hd
  simp [ref28_SameSymbols, Tref28_SameSymbols, Tree.run, h]
theorem SameImage_self (x : Image) (hl : x.symbols.length ≤ 1000000) : ref31_SameImage none x x = some true := by
  simp [ref31_SameImage, Tref31_SameImage, Tree.run, SameSymbols_self x.symbols hl]
theorem decR_syms (s : List UInt8) (h : s.length ≤ 50000) : (decR s).1.symbols.length ≤ 1000000 := by
  have hS := decI_sm (openR s).1 (by have := openR_len (s := s); omega)
  unfold decR
  split
  · split
    · have := hS.2.2; simp only; omega
    · simp [nulI]
  · simp [nulI]
theorem dec_step (l : List (List UInt8)) (i : Nat) (hi : i < l.length) (hl : l.length ≤ 10) (hs : ∀ s ∈ l, s.length ≤ 50000) : (Wlaw31_ImageDecodes_0 none ⟨(l.length : Int), (i : Int), l⟩).run = some (.inl ⟨(l.length : Int), ((i + 1 : Nat) : Int), l⟩) := by
  have hs' := hs l[i] (List.getElem_mem hi)
  have k1 : (i : Int) < (l.length : Int) := by omega
  have k2 : (0 : Int) ≤ (i : Int) := by omega
  have g := List.getElem?_eq_getElem hi
  have w := wrap_succ hi (show l.length ≤ 9223372036854775807 by omega)
  have d1 := image_Decode_def l[i] hs'
  have d2 := ref_Decode_def l[i] hs'
  have d3 := SameImage_self (decR l[i]).1 (decR_syms l[i] hs')
  simp only [Wlaw31_ImageDecodes_0, Tree.run, k1, k2, decide_true, if_true, Int.toNat_natCast, g, Option.bind_some, d1, d2, d3, Bool.not_true, Bool.false_eq_true, if_false]
  by_cases c : (decR l[i]).2 = 0
  · obtain ⟨hS, hF, hC, hE⟩ := decR_ok c hs'
    have e := Encode_def (decR l[i]).1 _ hS (fun _ => hF) (Chk_def _ hS).1
    rw [if_pos hC, hE] at e
    simp only [c, decide_true, if_true, e, Option.bind_some, Bool.not_true, Bool.false_eq_true, if_false, w]
  · simp only [c, decide_false, Bool.false_eq_true, if_false, w]
theorem pf_law31_ImageDecodes (x : List UInt8 × Unit) (hg : Glaw31_ImageDecodes x) : law31_ImageDecodes none x.1 = some true := by
  obtain ⟨s, u⟩ := x
  simp only [law31_ImageDecodes, Tlaw31_ImageDecodes, Tree.run, alive_true, Option.bind_some]
  by_cases c : (3000 : Int) < (s.length : Int)
  · simp only [c, decide_true, if_true]
  · have hS := (Seal_def s (by omega)).2
    have hsl := sealL_len s
    simp only [c, decide_false, Bool.false_eq_true, if_false, hS, Option.bind_some]
    have hb : ∀ x ∈ [s, sealL s], x.length ≤ 50000 := by
      intro x hx
      simp only [List.mem_cons, List.not_mem_nil, or_false] at hx
      rcases hx with rfl | rfl <;> omega
    have hc := lim_count (f := fun s => (Wlaw31_ImageDecodes_0 none s).run) (fun i : Nat => ⟨([s, sealL s].length : Int), (i : Int), [s, sealL s]⟩) 2 (fun i hi => dec_step [s, sealL s] i hi (by simp) hb) 0 (by omega)
    have hd : Llaw31_ImageDecodes_0 none ⟨([s, sealL s].length : Int), ((2 : Nat) : Int), [s, sealL s]⟩ = some (.inr ()) := lim_done (by simp [Wlaw31_ImageDecodes_0, Tree.run])
    have h : Llaw31_ImageDecodes_0 none ⟨([s, sealL s].length : Int), (0 : Int), [s, sealL s]⟩ = some (.inr ()) := hc.trans hd
    simp only [h, Option.bind_some, Sum.isLeft_inr, Bool.false_eq_true, if_false, Sum.getRight?_inr]
end Go.Proofs.Ytghgcaieciklbaa
end
section
set_option linter.unusedSimpArgs false
set_option linter.unusedVariables false
namespace Go.Proofs.Ytghgcaieciklbaa
open Go Go.Ab
theorem wrap_u8v (z : BitVec 8) : IntKind.wrap .u8 ((z.toNat : Int)) = (z.toNat : Int) := by
  have := z.isLt
  rw [wrap_u8]; exact Int.emod_eq_of_lt (by omega) (by omega)
theorem ofInt8 (z : BitVec 8) : BitVec.ofInt 8 (z.toNat : Int) = z := by
  rw [BitVec.ofInt_natCast, BitVec.ofNat_toNat]
  simp
theorem flip_ne (b : UInt8) (c : Int) : UInt8.ofNat (IntKind.wrap .u8 (((BitVec.ofInt 8 (b.toNat : Int) ^^^ BitVec.ofInt 8 (IntKind.wrap .u8 (((BitVec.ofInt 8 c ||| BitVec.ofInt 8 (1 : Int)).toNat : Int)))).toNat : Int))).toNat ≠ b := by
  intro h
  rw [wrap_u8v, wrap_u8v, ofInt8, Int.toNat_natCast] at h
  have h1 := congrArg UInt8.toNat h
  rw [UInt8.toNat_ofNat', Nat.mod_eq_of_lt (BitVec.isLt _)] at h1
  have hb : (BitVec.ofInt 8 (b.toNat : Int)).toNat = b.toNat := by
    rw [BitVec.ofInt_natCast, BitVec.toNat_ofNat]; exact Nat.mod_eq_of_lt b.toNat_lt
  have h2 : BitVec.ofInt 8 (b.toNat : Int) ^^^ (BitVec.ofInt 8 c ||| BitVec.ofInt 8 (1 : Int)) = BitVec.ofInt 8 (b.toNat : Int) := BitVec.eq_of_toNat_eq (h1.trans hb.symm)
  have h3 := congrArg (fun z => z.getLsbD 0) h2
  simp only [BitVec.getLsbD_xor, BitVec.getLsbD_or, show (BitVec.ofInt 8 (1 : Int)).getLsbD 0 = true by decide, Bool.or_true, Bool.xor_true] at h3
  cases h4 : (BitVec.ofInt 8 (b.toNat : Int)).getLsbD 0 <;> rw [h4] at h3 <;> cases h3
theorem set_nums (s : List UInt8) (k : Nat) (v : Int) : ((s.map fun b => (b.toNat : Int)).set k v).map (fun x => UInt8.ofNat x.toNat) = s.set k (UInt8.ofNat v.toNat) := by
  rw [List.map_set]
  congr 1
  exact unnums s
theorem pf_law31_ImageRoundTrip (x : Image × Int × Int × Unit) (hg : Glaw31_ImageRoundTrip x) : law31_ImageRoundTrip none x.1 x.2.1 x.2.2.1 = some true := by
  obtain ⟨x, at_, ch, u⟩ := x
  obtain ⟨_, ⟨ha1, ha2⟩, _⟩ := hg
  have ha0 : 0 ≤ at_ := ha1
  have ha3 : at_ ≤ 65535 := ha2
  obtain ⟨r, hr, hs⟩ := small_def x
  simp only [law31_ImageRoundTrip, Tlaw31_ImageRoundTrip, Tree.run, hr, Option.bind_some, alive_true]
  cases r with
  | false => simp only [Bool.not_false, if_true]
  | true =>
    obtain ⟨hS, _⟩ := hs rfl
    obtain ⟨s1, s2, s3⟩ := id hS
    have w0 : IntKind.wrap .i64 ((x.text.length : Int) + (x.data.length : Int)) = (x.text.length : Int) + (x.data.length : Int) := wrap_id (by omega) (by omega)
    simp only [Bool.not_true, Bool.false_eq_true, if_false, w0]
    by_cases c0 : (4000 : Int) < (x.text.length : Int) + (x.data.length : Int)
    · simp only [c0, decide_true, if_true]
    obtain ⟨k1, _, k3⟩ := Chk_def x hS
    have hE := Encode_def x _ hS k3 k1
    simp only [c0, decide_false, Bool.false_eq_true, if_false, hE, k1, Option.bind_some]
    by_cases c1 : Chk x = 0
    rotate_left
    · simp only [c1, if_false, decide_true, Bool.not_true, Bool.false_eq_true, decide_false, Bool.not_false, if_true]
    have hF := k3 c1
    have hlen : (sealL (bodyL x)).length ≤ 50000 := by
      have h2 : ∀ l : List Symbol, (∀ s ∈ l, GoodC s) → (symsL l).length ≤ l.length * 20 := by
        intro l
        induction l with
        | nil => intro _; simp [symsL]
        | cons s l ih =>
          intro h
          have i1 := ih fun y hy => h y (List.mem_cons_of_mem _ hy)
          have i2 := (h s (List.mem_cons_self ..)).name
          have i3 := symL_len s
          simp only [symsL, List.flatMap_cons, List.length_append, List.length_cons] at i1 ⊢
          omega
      have h3 := h2 x.symbols hF.good
      have h4 := hF.syms
      have h5 := headL_len x
      rw [sealL_len]
      simp only [bodyL, List.length_append, putL_len]
      omega
    have hpos : 0 < (sealL (bodyL x)).length := by rw [sealL_len]; omega
    have hne : sealL (bodyL x) ≠ [] := by intro h; rw [h] at hpos; simp at hpos
    have hD := image_Decode_def (sealL (bodyL x)) hlen
    rw [decR_seal hS hF c1] at hD
    have hcut := fun k hk => decR_cut hS hF (k := k) hk hlen
    have hset := fun k b hk hb => decR_set hS hF (k := k) (b := b) hk hb hlen
    have hself := SameImage_self x (by omega)
    simp only [c1, if_true, decide_true, Bool.not_true, Bool.false_eq_true, if_false]
    generalize sealL (bodyL x) = s at *
    have w1 : IntKind.wrap .i64 at_ = at_ := wrap_id (by omega) (by omega)
    have ht : at_.tmod (s.length : Int) = at_ % (s.length : Int) := Int.tmod_eq_emod_of_nonneg ha0
    have hk0 := Int.emod_nonneg at_ (show (s.length : Int) ≠ 0 by omega)
    have hk1 := Int.emod_lt_of_pos at_ (show (0 : Int) < (s.length : Int) by omega)
    obtain ⟨k, hk⟩ : ∃ k : Nat, at_ % (s.length : Int) = (k : Int) := ⟨_, (Int.toNat_of_nonneg hk0).symm⟩
    rw [hk] at hk0 hk1
    have hkl : k < s.length := by omega
    have hm : ((s.map fun b => (b.toNat : Int)))[k]? = some (s[k].toNat : Int) := by simp [hkl]
    have l1 : s.length ≤ 140737488355328 := by omega
    have l2 : ¬ (s.length : Int) = 0 := by omega
    have hsl : (s.set k (UInt8.ofNat (IntKind.wrap .u8 (((BitVec.ofInt 8 (s[k].toNat : Int) ^^^ BitVec.ofInt 8 (IntKind.wrap .u8 (((BitVec.ofInt 8 ch ||| BitVec.ofInt 8 (1 : Int)).toNat : Int)))).toNat : Int))).toNat)).length ≤ 50000 := by rw [List.length_set]; exact hlen
    have hD2 := image_Decode_def _ hsl
    have hD3 := image_Decode_def (s.take k) (by rw [List.length_take]; omega)
    have n2 := hset k _ hkl (flip_ne s[k] ch)
    have n3 := hcut k hkl
    have k4 : (k : Int) ≤ (s.length : Int) := by omega
    simp only [hne, decide_false, Bool.false_eq_true, if_false, hD, Option.bind_some, List.length_map, l1, l2, w1, ht, hk, hk0, hk1, k4, Int.toNat_natCast, hm, set_nums, hD2, List.drop_zero, Nat.sub_zero, hD3, n2, n3, hself, decide_true, if_true, Bool.not_false]
end Go.Proofs.Ytghgcaieciklbaa
end
