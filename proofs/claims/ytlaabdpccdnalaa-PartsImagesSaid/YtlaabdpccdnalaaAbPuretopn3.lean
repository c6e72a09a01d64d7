/- The law PartsImages holds of the typed functions. -/
import Derived.Laws.BitsLemmas
import Derived.Test.YtlaabdpccdnalaaAbLim
import Derived.Test.YtlaabdpccdnalaaAbRdtop
import Derived.Test.YtlaabdpccdnalaaAbtop
section
set_option linter.unusedSimpArgs false
namespace Go.Ab
theorem wrap_id {n : Int} (h1 : -9223372036854775808 ≤ n) (h2 : n ≤ 9223372036854775807) : IntKind.wrap .i64 n = n := by
  rw [IntKind.wrap_i64]; omega
theorem nat_and (a b : Int) : ((BitVec.ofInt 64 a &&& BitVec.ofInt 64 b).toNat : Int) = (((a % 18446744073709551616).toNat &&& (b % 18446744073709551616).toNat : Nat) : Int) := by
  rw [BitVec.toNat_and, BitVec.toNat_ofInt, BitVec.toNat_ofInt]
  rfl
/-- a mask of the lowest bits -/
theorem and_mask (j : Nat) (hj : j ≤ 62) (a : Int) : IntKind.wrap .i64 ((BitVec.ofInt 64 a &&& BitVec.ofInt 64 (2 ^ j - 1)).toNat : Int) = a % 2 ^ j := by
  have hp : (2 : Nat) ^ j ≤ 2 ^ 62 := Nat.pow_le_pow_right (by omega) hj
  have hc : ((2 : Int) ^ j) = ((2 ^ j : Nat) : Int) := by simp
  have h0 : 0 < (2 : Nat) ^ j := Nat.pow_pos (by omega)
  have hd : (2 : Nat) ^ j ∣ 18446744073709551616 := by
    have : (18446744073709551616 : Nat) = 2 ^ 64 := rfl
    rw [this]
    exact Nat.pow_dvd_pow 2 (by omega)
  rw [nat_and]
  have e1 : (((2 : Int) ^ j - 1) % 18446744073709551616).toNat = 2 ^ j - 1 := by
    rw [hc, Int.emod_eq_of_lt (by omega) (by omega)]
    omega
  rw [e1, Nat.and_two_pow_sub_one_eq_mod]
  have e2 : ((a % 18446744073709551616).toNat % 2 ^ j : Nat) = (a % 2 ^ j).toNat := by
    have hn : 0 ≤ a % 18446744073709551616 := Int.emod_nonneg _ (by omega)
    have : (((a % 18446744073709551616).toNat % 2 ^ j : Nat) : Int) = a % 2 ^ j := by
      rw [Int.natCast_emod, Int.toNat_of_nonneg hn, hc]
      exact Int.emod_emod_of_dvd a (Int.natCast_dvd_natCast.2 hd)
    omega
  rw [e2]
  have h1 : 0 ≤ a % 2 ^ j := Int.emod_nonneg _ (by rw [hc]; omega)
  have h2 : a % 2 ^ j < 2 ^ j := Int.emod_lt_of_pos _ (by rw [hc]; omega)
  rw [Int.toNat_of_nonneg h1]
  exact wrap_id (by omega) (by rw [hc] at h2; omega)
theorem and1 (a : Int) : IntKind.wrap .i64 ((BitVec.ofInt 64 a &&& BitVec.ofInt 64 (1 : Int)).toNat : Int) = a % 2 := and_mask 1 (by omega) a
theorem and3 (a : Int) : IntKind.wrap .i64 ((BitVec.ofInt 64 a &&& BitVec.ofInt 64 (3 : Int)).toNat : Int) = a % 4 := and_mask 2 (by omega) a
theorem and7 (a : Int) : IntKind.wrap .i64 ((BitVec.ofInt 64 a &&& BitVec.ofInt 64 (7 : Int)).toNat : Int) = a % 8 := and_mask 3 (by omega) a
theorem and31 (a : Int) : IntKind.wrap .i64 ((BitVec.ofInt 64 a &&& BitVec.ofInt 64 (31 : Int)).toNat : Int) = a % 32 := and_mask 5 (by omega) a
theorem and255 (a : Int) : IntKind.wrap .i64 ((BitVec.ofInt 64 a &&& BitVec.ofInt 64 (255 : Int)).toNat : Int) = a % 256 := and_mask 8 (by omega) a
theorem and4095 (a : Int) : IntKind.wrap .i64 ((BitVec.ofInt 64 a &&& BitVec.ofInt 64 (4095 : Int)).toNat : Int) = a % 4096 := and_mask 12 (by omega) a
theorem and65535 (a : Int) : IntKind.wrap .i64 ((BitVec.ofInt 64 a &&& BitVec.ofInt 64 (65535 : Int)).toNat : Int) = a % 65536 := and_mask 16 (by omega) a
theorem and262143 (a : Int) : IntKind.wrap .i64 ((BitVec.ofInt 64 a &&& BitVec.ofInt 64 (262143 : Int)).toNat : Int) = a % 262144 := and_mask 18 (by omega) a
/-- parts that share no bit are added -/
theorem or_add (j : Nat) (a b : Int) (h0 : 0 ≤ b) (hb : b < 2 ^ j) (ha0 : 0 ≤ a) (ha : a % 2 ^ j = 0) (hs : a + b ≤ 9223372036854775807) : IntKind.wrap .i64 ((BitVec.ofInt 64 a ||| BitVec.ofInt 64 b).toNat : Int) = a + b := by
  rw [BitVec.toNat_or, BitVec.toNat_ofInt, BitVec.toNat_ofInt]
  have e1 : (a % ((2 ^ 64 : Nat) : Int)).toNat = a.toNat := by rw [Int.emod_eq_of_lt ha0 (by omega)]
  have e2 : (b % ((2 ^ 64 : Nat) : Int)).toNat = b.toNat := by rw [Int.emod_eq_of_lt h0 (by omega)]
  rw [e1, e2]
  have hc : ((2 : Int) ^ j) = ((2 ^ j : Nat) : Int) := by simp
  have hm : a.toNat % 2 ^ j = 0 := by
    rw [hc] at ha
    have : ((a.toNat % 2 ^ j : Nat) : Int) = 0 := by rw [Int.natCast_emod, Int.toNat_of_nonneg ha0]; exact ha
    exact Int.ofNat.inj this
  obtain ⟨c, hc'⟩ := Nat.dvd_of_mod_eq_zero hm
  have hlt : b.toNat < 2 ^ j := by rw [hc] at hb; omega
  have : a.toNat ||| b.toNat = a.toNat + b.toNat := by
    rw [hc', Nat.two_pow_add_eq_or_of_lt hlt]
  rw [this]
  rw [wrap_id (by omega) (by omega)]
  omega
theorem or_add' (j : Nat) (a b : Int) (h0 : 0 ≤ a) (ha : a < 2 ^ j) (hb0 : 0 ≤ b) (hb : b % 2 ^ j = 0) (hs : a + b ≤ 9223372036854775807) : IntKind.wrap .i64 ((BitVec.ofInt 64 a ||| BitVec.ofInt 64 b).toNat : Int) = a + b := by
  rw [BitVec.or_comm, or_add j b a h0 ha hb0 hb (by omega)]
  omega
theorem tdiv_nn {a : Int} (h : 0 ≤ a) (b : Int) : a.tdiv b = a / b := Int.tdiv_eq_ediv_of_nonneg h
theorem tmod_nn {a : Int} (h : 0 ≤ a) (b : Int) : a.tmod b = a % b := Int.tmod_eq_emod_of_nonneg h
theorem fdiv_pos (a : Int) {b : Int} (h : 0 ≤ b) : a.fdiv b = a / b := Int.fdiv_eq_ediv_of_nonneg a h
/-- Go's remainder, brought above zero -/
theorem tmod_up (x m : Int) (hm : 0 < m) : (x.tmod m < 0 ∧ x.tmod m + m = x % m) ∨ (0 ≤ x.tmod m ∧ x.tmod m = x % m) := by
  have h1 := Int.emod_nonneg x (show m ≠ 0 by omega)
  have h2 := Int.emod_lt_of_pos x hm
  rw [Int.tmod_eq_emod]
  split
  · right; simp; exact h1
  · left; omega
theorem mask_fix (a m : Int) (hm : 0 < m) : (a % m = a) ↔ (0 ≤ a ∧ a < m) := by
  constructor
  · intro h
    have h1 := Int.emod_nonneg a (show m ≠ 0 by omega)
    have h2 := Int.emod_lt_of_pos a hm
    omega
  · rintro ⟨h1, h2⟩
    exact Int.emod_eq_of_lt h1 h2
end Go.Ab
end
section
set_option linter.unusedSimpArgs false
namespace Go.Ab
theorem nat_and_up (a j k : Nat) : a &&& ((2 ^ j - 1) * 2 ^ k) = (a / 2 ^ k % 2 ^ j) * 2 ^ k := by
  apply Nat.eq_of_testBit_eq
  intro i
  rw [Nat.testBit_and, Nat.testBit_mul_two_pow, Nat.testBit_mul_two_pow, Nat.testBit_mod_two_pow, Nat.testBit_div_two_pow, Nat.testBit_two_pow_sub_one]
  by_cases h : k ≤ i
  · simp [h]
    rw [Bool.and_comm]
  · simp [h]
theorem bv_andNot (x y : BitVec 64) : x &&& ~~~y = x - (x &&& y) := by
  have h : (x &&& ~~~y) + (x &&& y) = x := by
    rw [BitVec.add_eq_or_of_and_eq_zero]
    · ext i hi
      simp
      cases x[i] <;> cases y[i] <;> rfl
    · ext i hi
      simp
      cases x[i] <;> cases y[i] <;> simp
  exact BitVec.eq_sub_iff_add_eq.2 h
/-- bits taken away -/
theorem andNot_sub (a b : Int) (h0 : 0 ≤ a) (h1 : a ≤ 9223372036854775807) : IntKind.wrap .i64 ((BitVec.ofInt 64 a &&& ~~~BitVec.ofInt 64 b).toNat : Int) = a - IntKind.wrap .i64 ((BitVec.ofInt 64 a &&& BitVec.ofInt 64 b).toNat : Int) := by
  rw [bv_andNot]
  have hle : BitVec.ofInt 64 a &&& BitVec.ofInt 64 b ≤ BitVec.ofInt 64 a := by
    rw [BitVec.le_def, BitVec.toNat_and]
    exact Nat.and_le_left
  rw [BitVec.toNat_sub_of_le hle]
  have ha : (BitVec.ofInt 64 a).toNat = a.toNat := by
    rw [BitVec.toNat_ofInt, Int.emod_eq_of_lt h0 (by omega)]
  have hle' := BitVec.le_def.1 hle
  rw [ha] at hle' ⊢
  rw [wrap_id (by omega) (by omega), wrap_id (by omega) (by omega)]
  omega
theorem andNot_mask (j : Nat) (hj : j ≤ 62) (a : Int) (h0 : 0 ≤ a) (h1 : a ≤ 9223372036854775807) : IntKind.wrap .i64 ((BitVec.ofInt 64 a &&& ~~~BitVec.ofInt 64 (2 ^ j - 1)).toNat : Int) = a - a % 2 ^ j := by
  rw [andNot_sub a _ h0 h1, and_mask j hj]
theorem andNot1 (a : Int) (h0 : 0 ≤ a) (h1 : a ≤ 9223372036854775807) : IntKind.wrap .i64 ((BitVec.ofInt 64 a &&& ~~~BitVec.ofInt 64 (1 : Int)).toNat : Int) = a - a % 2 := andNot_mask 1 (by omega) a h0 h1
theorem andNot255 (a : Int) (h0 : 0 ≤ a) (h1 : a ≤ 9223372036854775807) : IntKind.wrap .i64 ((BitVec.ofInt 64 a &&& ~~~BitVec.ofInt 64 (255 : Int)).toNat : Int) = a - a % 256 := andNot_mask 8 (by omega) a h0 h1
theorem andNot65535 (a : Int) (h0 : 0 ≤ a) (h1 : a ≤ 9223372036854775807) : IntKind.wrap .i64 ((BitVec.ofInt 64 a &&& ~~~BitVec.ofInt 64 (65535 : Int)).toNat : Int) = a - a % 65536 := andNot_mask 16 (by omega) a h0 h1
/-- a mask higher up -/
theorem and_up (j k : Nat) (hj : j + k ≤ 62) (a : Int) (h0 : 0 ≤ a) (h1 : a ≤ 9223372036854775807) : IntKind.wrap .i64 ((BitVec.ofInt 64 a &&& BitVec.ofInt 64 ((2 ^ j - 1) * 2 ^ k)).toNat : Int) = a / 2 ^ k % 2 ^ j * 2 ^ k := by
  have hp : (2 : Nat) ^ (j + k) ≤ 2 ^ 62 := Nat.pow_le_pow_right (by omega) hj
  have hpos : 0 < (2 : Nat) ^ j := Nat.pow_pos (by omega)
  have hposk : 0 < (2 : Nat) ^ k := Nat.pow_pos (by omega)
  have hc : ((2 : Int) ^ j - 1) * 2 ^ k = (((2 ^ j - 1) * 2 ^ k : Nat) : Int) := by
    rw [Int.natCast_mul, Int.natCast_sub (by omega)]
    simp
  have hlt : (2 ^ j - 1) * 2 ^ k < 2 ^ 62 := by
    have : (2 ^ j - 1) * 2 ^ k < 2 ^ j * 2 ^ k := Nat.mul_lt_mul_of_pos_right (by omega) hposk
    rw [← Nat.pow_add] at this
    omega
  rw [nat_and, hc, Int.emod_eq_of_lt h0 (by omega), Int.emod_eq_of_lt (by omega) (by omega), Int.toNat_natCast, nat_and_up]
  have e : (((a.toNat / 2 ^ k % 2 ^ j * 2 ^ k : Nat)) : Int) = a / 2 ^ k % 2 ^ j * 2 ^ k := by
    rw [Int.natCast_mul, Int.natCast_emod, Int.natCast_ediv, Int.toNat_of_nonneg h0]
    simp
  rw [e]
  have hm := Int.emod_nonneg (a / 2 ^ k) (show (2 : Int) ^ j ≠ 0 by have := Int.natCast_pos.2 hpos; simp at this; omega)
  apply wrap_id
  · rw [← e]; omega
  · rw [← e]
    have : a.toNat / 2 ^ k % 2 ^ j * 2 ^ k ≤ a.toNat / 2 ^ k * 2 ^ k := Nat.mul_le_mul_right _ (Nat.mod_le _ _)
    have h2 : a.toNat / 2 ^ k * 2 ^ k ≤ a.toNat := Nat.div_mul_le_self _ _
    omega
theorem and65280 (a : Int) (h0 : 0 ≤ a) (h1 : a ≤ 9223372036854775807) : IntKind.wrap .i64 ((BitVec.ofInt 64 a &&& BitVec.ofInt 64 (65280 : Int)).toNat : Int) = a / 256 % 256 * 256 := and_up 8 8 (by omega) a h0 h1
theorem andNot65280 (a : Int) (h0 : 0 ≤ a) (h1 : a ≤ 9223372036854775807) : IntKind.wrap .i64 ((BitVec.ofInt 64 a &&& ~~~BitVec.ofInt 64 (65280 : Int)).toNat : Int) = a - a / 256 % 256 * 256 := by
  rw [andNot_sub a _ h0 h1, and65280 a h0 h1]
end Go.Ab
end
section
set_option linter.unusedSimpArgs false
namespace Go.Ab
variable {α β : Type}
/-- A loop that looks through numbers for the first that is not good. -/
theorem lim_scan1 {f : α → Option (α ⊕ β)} (s : Nat → α) (n : Nat) (p : Nat → Prop) (bad : Nat → β) (e : β) (h : ∀ i, i < n → p i → f (s i) = some (.inl (s (i + 1)))) (hb : ∀ i, i < n → ¬ p i → f (s i) = some (.inr (bad i))) (he : f (s n) = some (.inr e)) :
    ((∀ i, i < n → p i) ∧ lim f (s 0) = some e) ∨ ∃ i, i < n ∧ (∀ j, j < i → p j) ∧ ¬ p i ∧ lim f (s 0) = some (bad i) := by
  have key : ∀ k, k ≤ n → ((∀ i, n - k ≤ i → i < n → p i) ∧ lim f (s (n - k)) = some e) ∨ ∃ i, n - k ≤ i ∧ i < n ∧ (∀ j, n - k ≤ j → j < i → p j) ∧ ¬ p i ∧ lim f (s (n - k)) = some (bad i) := by
    intro k
    induction k with
    | zero => intro _; exact .inl ⟨fun i h1 h2 => by omega, lim_done he⟩
    | succ k ih =>
      intro hk
      by_cases hp : p (n - (k + 1))
      · have hn := lim_next (h (n - (k + 1)) (by omega) hp)
        rw [show n - (k + 1) + 1 = n - k by omega] at hn
        have hj : ∀ j, n - (k + 1) ≤ j → ¬ n - k ≤ j → p j := fun j h1 h2 => by rw [show j = n - (k + 1) by omega]; exact hp
        rcases ih (by omega) with ⟨h1, h2⟩ | ⟨i, h0, h1, h2, h3, h4⟩
        · refine .inl ⟨fun i hi hlt => ?_, by rw [hn]; exact h2⟩
          by_cases h' : n - k ≤ i
          · exact h1 i h' hlt
          · exact hj i hi h'
        · refine .inr ⟨i, by omega, h1, fun j hj1 hj2 => ?_, h3, by rw [hn]; exact h4⟩
          by_cases h' : n - k ≤ j
          · exact h2 j h' hj2
          · exact hj j hj1 h'
      · exact .inr ⟨n - (k + 1), Nat.le_refl _, by omega, fun j h1 h2 => by omega, hp, lim_done (hb _ (by omega) hp)⟩
  rcases key n (Nat.le_refl n) with ⟨h1, h2⟩ | ⟨i, h0, h1, h2, h3, h4⟩
  · rw [Nat.sub_self] at h2; exact .inl ⟨fun i hi => h1 i (by omega) hi, h2⟩
  · rw [Nat.sub_self] at h4; exact .inr ⟨i, h1, fun j hj => h2 j (by omega) hj, h3, h4⟩
theorem take_one_more {α : Type} {l : List α} {i : Nat} (hi : i < l.length) : l.take (i + 1) = l.take i ++ [l[i]] := by
  rw [List.take_add_one, List.getElem?_eq_getElem hi]; rfl
end Go.Ab
end
section
set_option linter.unusedSimpArgs false
set_option linter.unusedVariables false
namespace Go.Proofs.Ytlaabdpccdnalaa.C08
open Go Go.Ab
theorem wrap_succ {i n : Nat} (h : i < n) (hn : n ≤ 9223372036854775807) : IntKind.wrap .i64 ((i : Int) + 1) = ((i + 1 : Nat) : Int) := by rw [wrap_id] <;> omega
def okA (m : List Int) (a : Int) (b : Bool) : Prop := 0 ≤ a ∧ a < 2 * (m.length : Int) ∧ (b = true ∨ a % 2 = 0)
instance (m a b) : Decidable (okA m a b) := by unfold okA; infer_instance
def wordAt (m : List Int) (a : Int) : Int := m.getD (a / 2).toNat 0
def byteAt (m : List Int) (a : Int) : Int := if a % 2 = 0 then wordAt m a % 256 else wordAt m a / 256 % 256
theorem get_word {m : List Int} {a : Int} (h0 : 0 ≤ a) (h1 : a < 2 * (m.length : Int)) : m[(a / 2).toNat]? = some (wordAt m a) := by
  have : (a / 2).toNat < m.length := by omega
  simp [wordAt, this]
theorem wrap2 {m : List Int} (hm : m.length ≤ 100000) : IntKind.wrap .i64 (2 * (m.length : Int)) = 2 * (m.length : Int) := wrap_id (by omega) (by omega)
theorem half {a : Int} (h0 : 0 ≤ a) (h1 : a ≤ 9223372036854775807) : IntKind.wrap .i64 (a.tdiv 2) = a / 2 := by rw [tdiv_nn h0, wrap_id (by omega) (by omega)]
def readM (m bad : List Int) (a : Int) (b : Bool) : Int × Int := if okA m a b then (if a - a % 2 ∈ bad then (0, 9) else (if b then byteAt m a else wordAt m a, 0)) else (0, 1)
/-- the word after a byte is written -/
def putB (w a b : Int) : Int := if a % 2 = 0 then w / 256 * 256 + b else w % 256 + b * 256
def putW (w a : Int) (b : Bool) (v : Int) : Int := if b then putB w a (v % 256) else v % 65536
theorem bits_lo (w b : Int) (h0 : 0 ≤ w) (h1 : w ≤ 65535) (hb : 0 ≤ b ∧ b ≤ 255) : IntKind.wrap .i64 ((BitVec.ofInt 64 (IntKind.wrap .i64 ((BitVec.ofInt 64 w &&& ~~~BitVec.ofInt 64 (255 : Int)).toNat : Int)) ||| BitVec.ofInt 64 b).toNat : Int) = w / 256 * 256 + b := by
  rw [andNot255 w h0 (by omega), or_add 8 _ _ hb.1 (by omega) (by omega) (by omega) (by omega)]
  omega
theorem bits_lo' (w b : Int) (h0 : 0 ≤ w) (h1 : w ≤ 65535) (hb : 0 ≤ b ∧ b ≤ 255) : IntKind.wrap .i64 ((BitVec.ofInt 64 (IntKind.wrap .i64 ((BitVec.ofInt 64 w &&& BitVec.ofInt 64 (65280 : Int)).toNat : Int)) ||| BitVec.ofInt 64 b).toNat : Int) = w / 256 * 256 + b := by
  rw [and65280 w h0 (by omega), or_add 8 _ _ hb.1 (by omega) (by omega) (by omega) (by omega)]
  omega
theorem bits_hi (w b : Int) (h0 : 0 ≤ w) (h1 : w ≤ 65535) (hb : 0 ≤ b ∧ b ≤ 255) : IntKind.wrap .i64 ((BitVec.ofInt 64 (IntKind.wrap .i64 ((BitVec.ofInt 64 w &&& ~~~BitVec.ofInt 64 (65280 : Int)).toNat : Int)) ||| BitVec.ofInt 64 (b * 256)).toNat : Int) = w % 256 + b * 256 := by
  rw [andNot65280 w h0 (by omega), show w - w / 256 % 256 * 256 = w % 256 by omega, or_add' 8 _ _ (by omega) (by omega) (by omega) (by omega) (by omega)]
theorem bits_hi' (w b : Int) (h0 : 0 ≤ w) (h1 : w ≤ 65535) (hb : 0 ≤ b ∧ b ≤ 255) : IntKind.wrap .i64 ((BitVec.ofInt 64 (IntKind.wrap .i64 ((BitVec.ofInt 64 w &&& BitVec.ofInt 64 (255 : Int)).toNat : Int)) ||| BitVec.ofInt 64 (b * 256)).toNat : Int) = w % 256 + b * 256 := by
  rw [and255, or_add' 8 _ _ (by omega) (by omega) (by omega) (by omega) (by omega)]
theorem bits_w (w v : Int) (h0 : 0 ≤ w) (h1 : w ≤ 65535) (hv : 0 ≤ v ∧ v ≤ 65535) : IntKind.wrap .i64 ((BitVec.ofInt 64 (IntKind.wrap .i64 ((BitVec.ofInt 64 w &&& ~~~BitVec.ofInt 64 (65535 : Int)).toNat : Int)) ||| BitVec.ofInt 64 v).toNat : Int) = v := by
  rw [andNot65535 w h0 (by omega), show w - w % 65536 = 0 by omega, or_add 16 _ _ hv.1 (by omega) (by omega) (by omega) (by omega)]
  omega
/-- a byte is put into memory -/
def setB (m : List Int) (a b : Int) : List Int := m.set (a / 2).toNat (putB (wordAt m a) a b)
def Words (m : List Int) : Prop := m.length ≤ 100000 ∧ ∀ w ∈ m, 0 ≤ w ∧ w ≤ 65535
theorem word_in {m : List Int} (hm : Words m) {a : Int} (h0 : 0 ≤ a) (h1 : a < 2 * (m.length : Int)) : 0 ≤ wordAt m a ∧ wordAt m a ≤ 65535 := hm.2 _ (List.mem_of_getElem? (get_word h0 h1))
theorem copied_def (m : List Int) (hm : m.length ≤ 100000) : memory_copied m = some m := by
  simp [memory_copied, Tmemory_copied, Tree.run]
  omega
/-- the bad addresses without one -/
def without (bad : List Int) (c : Int) : List Int := bad.filter fun y => decide (y ≠ c)
theorem without_more {l : List Int} {c : Int} {i : Nat} (hi : i < l.length) : without (l.take (i + 1)) c = without (l.take i) c ++ (if l[i] = c then [] else [l[i]]) := by
  rw [take_one_more hi]
  unfold without
  rw [List.filter_append]
  by_cases he : l[i] = c <;> simp [he]
theorem without_take_eq {l : List Int} {c : Int} {k : Nat} (h : ∀ i, i < k → l[i]? ≠ some c) : without (l.take k) c = l.take k := by
  unfold without
  rw [List.filter_eq_self]
  intro y hy
  obtain ⟨i, hi, he⟩ := List.mem_iff_getElem.1 hy
  rw [List.getElem_take] at he
  have hlt : i < k := by rw [List.length_take] at hi; omega
  have := h i hlt
  rw [List.getElem?_eq_getElem (by rw [List.length_take] at hi; omega), he] at this
  simp at this ⊢
  exact this
/-- memory after an access that writes -/
def writeM (m bad : List Int) (a : Int) (b : Bool) (v : Int) : List Int × List Int × Int := if okA m a b then (m.set (a / 2).toNat (putW (wordAt m a) a b v), without bad (a - a % 2), 0) else ([], [], 1)
def Bads (n : Nat) (bad : List Int) : Prop := ∀ i, (h : i < bad.length) → 0 ≤ bad[i] ∧ bad[i] < 2 * (n : Int) ∧ bad[i] % 2 = 0 ∧ ∀ h' : 0 < i, bad[i - 1] < bad[i]
def Sized (n : Int) : Prop := 256 ≤ n ∧ n ≤ 32768 ∧ n % 64 = 0
instance (n) : Decidable (Sized n) := by unfold Sized; infer_instance
def Rt (m bad : List Int) : Prop := Sized (2 * (m.length : Int)) ∧ (∀ w ∈ m, 0 ≤ w ∧ w ≤ 65535) ∧ Bads m.length bad
theorem Size_def (n : Int) : ref08_Size n = some (decide (Sized n)) := by
  simp only [ref08_Size, Tref08_Size, Tree.run]
  by_cases h0 : 0 ≤ n
  · rw [tmod_nn h0]
    simp only [decide_eq_true_eq, show ¬ (64 : Int) = 0 by omega, if_false]
    repeat' split
    all_goals (rw [Option.some.injEq]; first | (symm; rw [decide_eq_false_iff_not]; unfold Sized; omega) | (rw [decide_eq_decide]; unfold Sized; omega))
  · have : ¬ Sized n := fun h => h0 (by have := h.1; omega)
    simp [this]; omega
theorem words_iff (m : List Int) : (∀ i, i < m.length → ∀ y, m[i]? = some y → 0 ≤ y ∧ y ≤ 65535) ↔ ∀ w ∈ m, 0 ≤ w ∧ w ≤ 65535 := by
  constructor
  · intro h w hw
    obtain ⟨i, hi, he⟩ := List.mem_iff_getElem.1 hw
    exact h i hi w (by rw [List.getElem?_eq_getElem hi, he])
  · intro h i hi y hy
    exact h y (List.mem_of_getElem? hy)
theorem ref_words (m bad : List Int) (hm : m.length ≤ 100000) : Lref08_Right_0 none ⟨m, bad, (0 : Int)⟩ = some (if ∀ w ∈ m, 0 ≤ w ∧ w ≤ 65535 then .inr (m, bad) else .inl (m, bad, false)) := by
  have hs := lim_scan (f := fun s => (Wref08_Right_0 s).run) (fun i : Nat => ⟨m, bad, (i : Int)⟩) m.length (fun i => ∀ y, m[i]? = some y → 0 ≤ y ∧ y ≤ 65535) (fun i => .inl (m, bad, false)) (.inr (m, bad))
    (fun i hi hp => by
      have hp' := hp m[i] (List.getElem?_eq_getElem hi)
      have h1 : ¬ m[i] < 0 := by omega
      have h2 : ¬ 65535 < m[i] := by omega
      simp [Wref08_Right_0, Tree.run, hi, wrap_succ hi (show m.length ≤ 9223372036854775807 by omega), h1, h2])
    (fun i hi hp => by
      have hp' : ¬ (0 ≤ m[i] ∧ m[i] ≤ 65535) := fun h => hp fun y hy => by
        rw [List.getElem?_eq_getElem hi] at hy
        rw [← Option.some.inj hy]; exact h
      by_cases h1 : m[i] < 0
      · simp [Wref08_Right_0, Tree.run, hi, h1]
      · have h2 : 65535 < m[i] := by omega
        simp [Wref08_Right_0, Tree.run, hi, h1, h2])
    (by simp [Wref08_Right_0, Tree.run])
  rcases hs with ⟨h1, h2⟩ | ⟨i, hi, h1, h2⟩
  · rw [if_pos ((words_iff m).1 h1)]; exact h2
  · rw [if_neg fun h => h1 ((words_iff m).2 h i hi)]; exact h2
/-- a bad address in its place -/
def GoodAt (n : Nat) (bad : List Int) (i : Nat) : Prop := ∀ h : i < bad.length, 0 ≤ bad[i] ∧ bad[i] < 2 * (n : Int) ∧ bad[i] % 2 = 0 ∧ ∀ h' : 0 < i, bad[i - 1] < bad[i]
def lastOf (bad : List Int) (i : Nat) : Int := if i = 0 then -1 else bad.getD (i - 1) 0
def GoodAt' (n : Nat) (bad : List Int) (i : Nat) : Prop := ∀ h : i < bad.length, lastOf bad i < bad[i] ∧ bad[i].tmod 2 = 0 ∧ bad[i] < 2 * (n : Int)
theorem bads_iff (n : Nat) (bad : List Int) : (∀ i, i < bad.length → GoodAt n bad i) ↔ Bads n bad := ⟨fun h i hi => h i hi hi, fun h i _ hi => h i hi⟩
theorem bads_iff' (n : Nat) (bad : List Int) : (∀ i, i < bad.length → GoodAt' n bad i) ↔ Bads n bad := by
  constructor
  · intro h i
    induction i with
    | zero =>
      intro hi
      obtain ⟨h1, h2, h3⟩ := h 0 hi hi
      have h1' : -1 < bad[0] := h1
      rw [tmod_nn (by omega)] at h2
      exact ⟨by omega, h3, h2, fun h' => absurd h' (by omega)⟩
    | succ i ih =>
      intro hi
      have hi' : i < bad.length := by omega
      obtain ⟨h1, h2, h3⟩ := h (i + 1) hi hi
      have hp := ih hi'
      have hl : lastOf bad (i + 1) = bad[i] := by simp [lastOf, hi']
      rw [hl] at h1
      rw [tmod_nn (by omega)] at h2
      exact ⟨by omega, h3, h2, fun _ => h1⟩
  · intro h i hi _
    obtain ⟨h1, h2, h3, h4⟩ := h i hi
    refine ⟨?_, by rw [tmod_nn h1]; exact h3, h2⟩
    by_cases h0 : i = 0
    · subst h0; simp [lastOf]; omega
    · have hlt : i - 1 < bad.length := by omega
      have := h4 (by omega)
      simp [lastOf, h0, hlt]; exact this
theorem ref_bads (m bad : List Int) (hm : m.length ≤ 100000) (hb : bad.length ≤ 100000) : ∃ r, Lref08_Right_1 none ⟨m, bad, (0 : Int)⟩ = some r ∧ (r = .inr () ∧ Bads m.length bad ∨ r = .inl false ∧ ¬ Bads m.length bad) := by
  have hs := lim_scan (f := fun s => (Wref08_Right_1 s).run) (fun i : Nat => ⟨m, bad, (i : Int)⟩) bad.length (GoodAt m.length bad) (fun i => .inl false) (.inr ())
    (fun i hi hp => by
      obtain ⟨h1, h2, h3, h4⟩ := hp hi
      have h5 : ¬ bad[i] < 0 := by omega
      have h6 : ¬ 2 * (m.length : Int) ≤ bad[i] := by omega
      by_cases h0 : 0 < i
      · have h7 := h4 h0
        have h8 : ¬ bad[i] ≤ bad[i - 1] := by omega
        have h9 : IntKind.wrap .i64 ((i : Int) - 1) = ((i - 1 : Nat) : Int) := by rw [wrap_id] <;> omega
        have h10 : i - 1 < bad.length := by omega
        simp [Wref08_Right_1, Tree.run, hi, wrap_succ hi (show bad.length ≤ 9223372036854775807 by omega), h5, wrap2 hm, h6, tmod_nn h1, h3, h0, h9, h10, h8]
      · have h00 : i = 0 := by omega
        subst h00
        simp [Wref08_Right_1, Tree.run, hi, wrap_id (n := 1) (by omega) (by omega), h5, wrap2 hm, h6, tmod_nn h1, h3])
    (fun i hi hp => by
      by_cases h1 : bad[i] < 0
      · simp [Wref08_Right_1, Tree.run, hi, h1]
      by_cases h2 : 2 * (m.length : Int) ≤ bad[i]
      · simp [Wref08_Right_1, Tree.run, hi, h1, wrap2 hm, h2]
      by_cases h3 : bad[i] % 2 = 0
      · by_cases h0 : 0 < i
        · have h10 : i - 1 < bad.length := by omega
          have h9 : IntKind.wrap .i64 ((i : Int) - 1) = ((i - 1 : Nat) : Int) := by rw [wrap_id] <;> omega
          by_cases h4 : bad[i] ≤ bad[i - 1]
          · simp [Wref08_Right_1, Tree.run, hi, h1, wrap2 hm, h2, tmod_nn (show 0 ≤ bad[i] by omega), h3, h0, h9, h10, h4]
          · exact absurd (fun h => ⟨by omega, by omega, h3, fun _ => by omega⟩) hp
        · exact absurd (fun h => ⟨by omega, by omega, h3, fun h' => absurd h' h0⟩) hp
      · simp [Wref08_Right_1, Tree.run, hi, h1, wrap2 hm, h2, tmod_nn (show 0 ≤ bad[i] by omega), h3])
    (by simp [Wref08_Right_1, Tree.run])
  rcases hs with ⟨h1, h2⟩ | ⟨i, hi, h1, h2⟩
  · exact ⟨_, h2, .inl ⟨rfl, (bads_iff _ _).1 h1⟩⟩
  · exact ⟨_, h2, .inr ⟨rfl, fun h => h1 ((bads_iff _ _).2 h i hi)⟩⟩
open Classical in
theorem ref_Right_def (m bad : List Int) (hm : m.length ≤ 100000) (hb : bad.length ≤ 100000) : ref08_Right none m bad = some (decide (Rt m bad)) := by
  obtain ⟨r, hr, hc⟩ := ref_bads m bad hm hb
  simp only [ref08_Right, Tref08_Right, Tree.run, wrap2 hm, Size_def, Option.bind_some, ref_words m bad hm]
  by_cases h1 : Sized (2 * (m.length : Int))
  · by_cases h2 : ∀ w ∈ m, 0 ≤ w ∧ w ≤ 65535
    · rw [if_pos h2]
      rcases hc with ⟨e, h3⟩ | ⟨e, h3⟩
      · simp [h1, hr, e, Rt, h3]; exact h2
      · simp [h1, hr, e, Rt, h3]
    · rw [if_neg h2]
      have : ¬ Rt m bad := fun h => h2 h.2.1
      simp [h1, this]
  · have : ¬ Rt m bad := fun h => h1 h.1
    simp [h1, this]
/-- a range within memory -/
def Wn (m : List Int) (a n : Int) : Prop := 0 ≤ a ∧ 0 ≤ n ∧ a ≤ 2 * (m.length : Int) ∧ n ≤ 2 * (m.length : Int) - a
instance (m a n) : Decidable (Wn m a n) := by unfold Wn; infer_instance
theorem within_def (m : List Int) (a n : Int) (hm : m.length ≤ 100000) : memory_within m a n = some (decide (Wn m a n)) := by
  simp only [memory_within, Tmemory_within, Tree.run, wrap2 hm, decide_eq_true_eq]
  by_cases h0 : 0 ≤ a
  · by_cases h1 : 0 ≤ n
    · by_cases h2 : a ≤ 2 * (m.length : Int)
      · rw [if_pos h0, if_pos h1, if_pos h2, wrap_id (by omega) (by omega), Option.some.injEq, decide_eq_decide]
        unfold Wn; omega
      · have : ¬ Wn m a n := fun h => h2 h.2.2.1
        simp [h0, h1, h2, this]
    · have : ¬ Wn m a n := fun h => h1 h.2.1
      simp [h0, h1, this]
  · have : ¬ Wn m a n := fun h => h0 h.1
    simp [h0, this]
theorem up_def {a : Int} (h0 : 0 ≤ a) : IntKind.wrap .i64 (a.tmod 2 * 8) = if a % 2 = 0 then 0 else 8 := by
  rw [tmod_nn h0, wrap_id (by omega) (by omega)]
  split <;> omega
theorem shr_byte (m : List Int) {a : Int} (h0 : 0 ≤ a) : IntKind.wrap .u8 ((wordAt m a).fdiv (2 ^ (min (IntKind.wrap .i64 (a.tmod 2 * 8)).toNat 64))) = byteAt m a := by
  rw [IntKind.wrap_u8, up_def h0, byteAt]
  split
  · rw [show (2 : Int) ^ (min ((0 : Int)).toNat 64) = 1 by decide, fdiv_pos _ (by omega), Int.ediv_one]
  · rw [show (2 : Int) ^ (min ((8 : Int)).toNat 64) = 256 by decide, fdiv_pos _ (by omega)]
theorem byteAt_in (m : List Int) (a : Int) : 0 ≤ byteAt m a ∧ byteAt m a ≤ 255 := by
  unfold byteAt
  split <;> omega
def bytesL (m : List Int) (a : Int) (n : Nat) : List Int := (List.range n).map fun i => byteAt m (a + (i : Nat))
theorem bytesL_succ (m : List Int) (a : Int) (n : Nat) : bytesL m a (n + 1) = bytesL m a n ++ [byteAt m (a + (n : Nat))] := by
  simp [bytesL, List.range_succ]
theorem bytesL_len (m : List Int) (a : Int) (n : Nat) : (bytesL m a n).length = n := by simp [bytesL]
def outB (m : List Int) (a : Int) (n : Nat) : List UInt8 := (bytesL m a n).map fun x => UInt8.ofNat x.toNat
theorem outB_len (m : List Int) (a : Int) (n : Nat) : (outB m a n).length = n := by simp [outB, bytesL]
def bytesM (m : List Int) (a n : Int) : List UInt8 × Int := if Wn m a n then (outB m a n.toNat, 0) else ([], 2)
theorem Bytes_loop (m : List Int) (a : Int) (n : Nat) (hm : m.length ≤ 100000) (h : Wn m a n) : Lmemory_Bytes_0 none ⟨m, a, (n : Int), (0 : Int), List.replicate n (0 : Int)⟩ = some (bytesL m a n) := by
  obtain ⟨h0, h1, h2, h3⟩ := h
  have hc := lim_count (f := fun s => (Wmemory_Bytes_0 s).run) (fun i : Nat => ⟨m, a, (n : Int), (i : Int), bytesL m a i ++ List.replicate (n - i) (0 : Int)⟩) n (fun i hi => by
    have e1 : IntKind.wrap .i64 (a + (i : Int)) = a + (i : Int) := wrap_id (by omega) (by omega)
    have h4 : 0 ≤ a + (i : Int) := by omega
    have h5 : 0 ≤ (a + (i : Int)) / 2 := by omega
    have h6 : 0 ≤ IntKind.wrap .i64 ((a + (i : Int)).tmod 2 * 8) := by rw [up_def h4]; split <;> omega
    have h7 : (i : Int) < ((bytesL m a i ++ List.replicate (n - i) (0 : Int)).length : Int) := by
      simp [bytesL_len]; omega
    have h8 : (bytesL m a i ++ List.replicate (n - i) (0 : Int))[((i : Int)).toNat]? = some 0 := by
      rw [Int.toNat_natCast, List.getElem?_append_right (by rw [bytesL_len]; omega), bytesL_len, Nat.sub_self, List.getElem?_replicate]
      simp; omega
    have h8' : (bytesL m a i ++ List.replicate (n - i) (0 : Int))[i]? = some 0 := h8
    have h9 : (bytesL m a i ++ List.replicate (n - i) (0 : Int)).set i (byteAt m (a + (i : Int))) = bytesL m a (i + 1) ++ List.replicate (n - (i + 1)) (0 : Int) := by
      rw [List.set_append_right (h := by rw [bytesL_len]; omega), bytesL_len, Nat.sub_self, bytesL_succ, show n - i = (n - (i + 1)) + 1 by omega, List.replicate_succ]
      simp
    have hi' : (i : Int) < (n : Int) := by omega
    have h10 : (0 : Int) ≤ (i : Int) := by omega
    simp only [Wmemory_Bytes_0, Tree.run, e1, half h4 (by omega), get_word h4 (show a + (i : Int) < 2 * (m.length : Int) by omega), shr_byte m h4, wrap_succ hi (show n ≤ 9223372036854775807 by omega), hi', h10, h5, h6, h7, h8, decide_true, if_true, show ¬ (2 : Int) = 0 by omega, decide_false, Bool.false_eq_true, if_false, Option.bind_some, Int.toNat_natCast, h8', h9]) 0 (Nat.zero_le _)
  have hd : Lmemory_Bytes_0 none ⟨m, a, (n : Int), ((n : Nat) : Int), bytesL m a n ++ List.replicate (n - n) (0 : Int)⟩ = some (bytesL m a n ++ List.replicate (n - n) (0 : Int)) := lim_done (by simp [Wmemory_Bytes_0, Tree.run])
  have he : Lmemory_Bytes_0 none ⟨m, a, (n : Int), (0 : Int), bytesL m a 0 ++ List.replicate (n - 0) (0 : Int)⟩ = some (bytesL m a n ++ List.replicate (n - n) (0 : Int)) := hc.trans hd
  simpa [bytesL] using he
theorem Bytes_def (m : List Int) (a n : Int) (hm : m.length ≤ 100000) : memory_Bytes none m a n = some (bytesM m a n) := by
  simp only [memory_Bytes, Tmemory_Bytes, Tree.run, within_def m a n hm, Option.bind_some, bytesM]
  by_cases h : Wn m a n
  · obtain ⟨h0, h1, h2, h3⟩ := id h
    have hl := Bytes_loop m a n.toNat hm (by rw [Int.toNat_of_nonneg h1]; exact h)
    have h4 : (1 : Int) * n ≤ 281474976710656 := by omega
    simp only [h, decide_true, Bool.not_true, Bool.false_eq_true, if_false, if_true, h1, h4, List.length_replicate, hl, Option.bind_some, outB]
  · simp [h]
def storeL : List Int → Int → List UInt8 → List Int
  | m, _, [] => m
  | m, a, c :: s => storeL (setB m a (c.toNat : Int)) (a + 1) s
theorem storeL_more (m : List Int) (a : Int) (s : List UInt8) (c : UInt8) : storeL m a (s ++ [c]) = setB (storeL m a s) (a + (s.length : Int)) (c.toNat : Int) := by
  induction s generalizing m a with
  | nil => simp [storeL]
  | cons d s ih =>
    simp only [List.cons_append, storeL, ih, List.length_cons]
    congr 1
    omega
theorem setB_len (m : List Int) (a b : Int) : (setB m a b).length = m.length := by simp [setB]
theorem storeL_len (m : List Int) (a : Int) (s : List UInt8) : (storeL m a s).length = m.length := by
  induction s generalizing m a with
  | nil => rfl
  | cons d s ih => rw [storeL, ih, setB_len]
theorem setB_words {m : List Int} {a b : Int} (hm : Words m) (h0 : 0 ≤ a) (h1 : a < 2 * (m.length : Int)) (hb : 0 ≤ b ∧ b ≤ 255) : Words (setB m a b) := by
  refine ⟨by rw [setB_len]; exact hm.1, fun w hw => ?_⟩
  rcases List.mem_or_eq_of_mem_set hw with h | h
  · exact hm.2 w h
  · have := word_in hm h0 h1
    rw [h]; unfold putB; split <;> omega
theorem byte_lt (c : UInt8) : 0 ≤ (c.toNat : Int) ∧ (c.toNat : Int) ≤ 255 := by have := c.toNat_lt; omega
theorem storeL_words {m : List Int} {a : Int} {s : List UInt8} (hm : Words m) (h0 : 0 ≤ a) (h1 : a + (s.length : Int) ≤ 2 * (m.length : Int)) : Words (storeL m a s) := by
  induction s generalizing m a with
  | nil => exact hm
  | cons d s ih =>
    simp only [List.length_cons] at h1
    exact ih (setB_words hm h0 (by omega) (byte_lt d)) (by omega) (by rw [setB_len]; omega)
def storeM (m : List Int) (a : Int) (s : List UInt8) : List Int × Int := if Wn m a (s.length : Int) then (storeL m a s, 0) else ([], 2)
theorem u8_nat (c : UInt8) : IntKind.wrap .i64 (c.toNat : Int) = (c.toNat : Int) := by have := c.toNat_lt; exact wrap_id (by omega) (by omega)
theorem put_eq (b : List Int) (a : Int) (c : UInt8) (hw : Words b) (h0 : 0 ≤ a) (h1 : a < 2 * (b.length : Int)) : IntKind.wrap .i64 ((BitVec.ofInt 64 (IntKind.wrap .i64 ((BitVec.ofInt 64 (wordAt b a) &&& ~~~BitVec.ofInt 64 (IntKind.wrap .i64 ((255 : Int) * 2 ^ (min (IntKind.wrap .i64 (a.tmod 2 * 8)).toNat 64)))).toNat : Int)) ||| BitVec.ofInt 64 (IntKind.wrap .i64 ((IntKind.wrap .i64 (c.toNat : Int)) * 2 ^ (min (IntKind.wrap .i64 (a.tmod 2 * 8)).toNat 64)))).toNat : Int) = putB (wordAt b a) a (c.toNat : Int) := by
  have hb := byte_lt c
  have hi := word_in hw h0 h1
  rw [up_def h0, u8_nat]
  unfold putB
  split
  · rw [show (2 : Int) ^ (min ((0 : Int)).toNat 64) = 1 by decide, Int.mul_one, Int.mul_one, wrap_id (n := 255) (by omega) (by omega), wrap_id (n := (c.toNat : Int)) (by omega) (by omega), bits_lo _ _ hi.1 hi.2 hb]
  · rw [show (2 : Int) ^ (min ((8 : Int)).toNat 64) = 256 by decide, wrap_id (n := 255 * 256) (by omega) (by omega), wrap_id (n := (c.toNat : Int) * 256) (by omega) (by omega), show (255 : Int) * 256 = 65280 by omega, bits_hi _ _ hi.1 hi.2 hb]
theorem Store_loop (m : List Int) (a : Int) (s : List UInt8) (hm : Words m) (h : Wn m a (s.length : Int)) : Lmemory_Store_0 none ⟨a, s, (s.length : Int), (0 : Int), m⟩ = some (storeL m a s) := by
  obtain ⟨h0, h1, h2, h3⟩ := h
  have hl := hm.1
  have hc := lim_count (f := fun s => (Wmemory_Store_0 s).run) (fun i : Nat => ⟨a, s, (s.length : Int), (i : Int), storeL m a (s.take i)⟩) s.length (fun i hi => by
    have e1 : IntKind.wrap .i64 (a + (i : Int)) = a + (i : Int) := wrap_id (by omega) (by omega)
    have h4 : 0 ≤ a + (i : Int) := by omega
    have h5 : 0 ≤ (a + (i : Int)) / 2 := by omega
    have h6 : 0 ≤ IntKind.wrap .i64 ((a + (i : Int)).tmod 2 * 8) := by rw [up_def h4]; split <;> omega
    have hlen : (storeL m a (s.take i)).length = m.length := storeL_len _ _ _
    have hlt : (s.take i).length = i := by rw [List.length_take]; omega
    have hw : Words (storeL m a (s.take i)) := storeL_words hm h0 (by rw [hlt]; omega)
    have h7 : (a + (i : Int)) / 2 < ((storeL m a (s.take i)).length : Int) := by rw [hlen]; omega
    have h8 : a + (i : Int) < 2 * ((storeL m a (s.take i)).length : Int) := by rw [hlen]; omega
    have hi' : (i : Int) < (s.length : Int) := by omega
    have h10 : (0 : Int) ≤ (i : Int) := by omega
    have h9 : storeL m a (s.take (i + 1)) = (storeL m a (s.take i)).set ((a + (i : Int)) / 2).toNat (putB (wordAt (storeL m a (s.take i)) (a + (i : Int))) (a + (i : Int)) (s[i].toNat : Int)) := by
      rw [take_one_more hi, storeL_more, hlt]; rfl
    simp only [Wmemory_Store_0, Tree.run, e1, half h4 (by omega), get_word h4 h8, wrap_succ hi (show s.length ≤ 9223372036854775807 by omega), hi', h10, h5, h6, h7, decide_true, if_true, show ¬ (2 : Int) = 0 by omega, decide_false, Bool.false_eq_true, if_false, Option.bind_some, Int.toNat_natCast, List.getElem?_eq_getElem hi, put_eq _ _ _ hw h4 h8, h9]) 0 (Nat.zero_le _)
  have hd : Lmemory_Store_0 none ⟨a, s, (s.length : Int), ((s.length : Nat) : Int), storeL m a (s.take s.length)⟩ = some (storeL m a (s.take s.length)) := lim_done (by simp [Wmemory_Store_0, Tree.run])
  have he : Lmemory_Store_0 none ⟨a, s, (s.length : Int), (0 : Int), storeL m a (s.take 0)⟩ = some (storeL m a (s.take s.length)) := hc.trans hd
  simpa [storeL] using he
theorem Store_def (m : List Int) (a : Int) (s : List UInt8) (hm : Words m) : memory_Store none m a s = some (storeM m a s) := by
  simp only [memory_Store, Tmemory_Store, Tree.run, within_def m a _ hm.1, copied_def m hm.1, Option.bind_some, storeM]
  by_cases h : Wn m a (s.length : Int)
  · simp only [h, decide_true, Bool.not_true, Bool.false_eq_true, if_false, if_true, Store_loop m a s hm h, Option.bind_some]
  · simp [h]
theorem wordAt_set (m : List Int) (a w c : Int) (h0 : 0 ≤ a) (h1 : a < 2 * (m.length : Int)) (hc : 0 ≤ c) : wordAt (m.set (a / 2).toNat w) c = if a / 2 = c / 2 then w else wordAt m c := by
  unfold wordAt
  have hlt : (a / 2).toNat < m.length := by omega
  rw [List.getD_eq_getElem?_getD, List.getD_eq_getElem?_getD, List.getElem?_set]
  by_cases h : a / 2 = c / 2
  · rw [if_pos (by rw [h]), if_pos h, if_pos hlt]; rfl
  · rw [if_neg (by omega), if_neg h]
theorem byteAt_setB (m : List Int) (a b c : Int) (hm : Words m) (h0 : 0 ≤ a) (h1 : a < 2 * (m.length : Int)) (hb : 0 ≤ b ∧ b ≤ 255) (hc : 0 ≤ c) : byteAt (setB m a b) c = if c = a then b else byteAt m c := by
  have hw := word_in hm h0 h1
  unfold byteAt setB
  rw [wordAt_set m a _ c h0 h1 hc]
  by_cases h : a / 2 = c / 2
  · have he : wordAt m c = wordAt m a := by unfold wordAt; rw [h]
    rw [if_pos h, he]
    unfold putB
    by_cases h2 : c = a
    · subst h2
      rw [if_pos rfl]
      split <;> omega
    · rw [if_neg h2]
      by_cases h3 : a % 2 = 0
      · rw [if_pos h3, if_neg (show ¬ c % 2 = 0 by omega), if_neg (show ¬ c % 2 = 0 by omega)]
        omega
      · rw [if_neg h3, if_pos (show c % 2 = 0 by omega), if_pos (show c % 2 = 0 by omega)]
        omega
  · have hne : ¬ c = a := fun he => h (by rw [he])
    rw [if_neg h, if_neg hne]
theorem byteAt_storeL (m : List Int) (a : Int) (s : List UInt8) (hm : Words m) (h0 : 0 ≤ a) (h1 : a + (s.length : Int) ≤ 2 * (m.length : Int)) (c : Int) (hc : 0 ≤ c) : byteAt (storeL m a s) c = if a ≤ c ∧ c < a + (s.length : Int) then ((s.getD (c - a).toNat 0).toNat : Int) else byteAt m c := by
  induction s generalizing m a with
  | nil =>
    have : ¬ (a ≤ c ∧ c < a + (([] : List UInt8).length : Int)) := by simp
    rw [storeL, if_neg this]
  | cons d s ih =>
    simp only [List.length_cons] at h1
    have hd := byte_lt d
    rw [storeL, ih (setB m a d.toNat) (a + 1) (setB_words hm h0 (by omega) hd) (by omega) (by rw [setB_len]; omega), byteAt_setB m a _ c hm h0 (by omega) hd hc]
    simp only [List.length_cons]
    by_cases h2 : a + 1 ≤ c ∧ c < a + 1 + (s.length : Int)
    · rw [if_pos h2, if_pos (by omega), show (c - a).toNat = (c - (a + 1)).toNat + 1 by omega, List.getD_cons_succ]
    · rw [if_neg h2]
      by_cases h3 : c = a
      · rw [if_pos h3, if_pos (by omega), show (c - a).toNat = 0 by omega]; rfl
      · rw [if_neg h3, if_neg (by omega)]
theorem outB_get (m : List Int) (a : Int) (n i : Nat) (h : i < (outB m a n).length) : (outB m a n)[i] = UInt8.ofNat (byteAt m (a + (i : Nat))).toNat := by
  simp [outB, bytesL]
theorem u8_back (c : UInt8) : UInt8.ofNat ((c.toNat : Int)).toNat = c := by simp
/-- what is stored is read -/
theorem outB_store (m : List Int) (a : Int) (s : List UInt8) (hm : Words m) (h0 : 0 ≤ a) (h1 : a + (s.length : Int) ≤ 2 * (m.length : Int)) : outB (storeL m a s) a s.length = s := by
  apply List.ext_getElem
  · rw [outB_len]
  · intro i h2 h3
    rw [outB_get, byteAt_storeL m a s hm h0 h1 _ (by omega), if_pos (by omega), show (a + (i : Int) - a).toNat = i by omega]
    simp [h3]
/-- all bytes after a store -/
theorem outB_all (m : List Int) (a : Int) (s : List UInt8) (hm : Words m) (h0 : 0 ≤ a) (h1 : a + (s.length : Int) ≤ 2 * (m.length : Int)) : outB (storeL m a s) 0 (2 * m.length) = (outB m 0 (2 * m.length)).take a.toNat ++ s ++ (outB m 0 (2 * m.length)).drop (a + (s.length : Int)).toNat := by
  have hlen : (outB m 0 (2 * m.length)).length = 2 * m.length := outB_len _ _ _
  have ht : ((outB m 0 (2 * m.length)).take a.toNat).length = a.toNat := by rw [List.length_take]; omega
  apply List.ext_getElem
  · simp [outB_len]; omega
  · intro i h2 h3
    rw [outB_len] at h2
    rw [outB_get, Int.zero_add, byteAt_storeL m a s hm h0 h1 _ (by omega)]
    by_cases h4 : i < a.toNat
    · rw [if_neg (by omega), List.getElem_append_left (by simp [outB_len]; omega), List.getElem_append_left (by rw [ht]; exact h4), List.getElem_take, outB_get, Int.zero_add]
    · by_cases h5 : i < a.toNat + s.length
      · rw [if_pos (by omega), List.getElem_append_left (by simp [outB_len]; omega), List.getElem_append_right (by rw [ht]; omega)]
        simp only [ht]
        have h6 : ((i : Int) - a).toNat = i - a.toNat := by omega
        have h7 : i - a.toNat < s.length := by omega
        simp [h6, h7]
      · rw [if_neg (by omega), List.getElem_append_right (by simp [outB_len]; omega)]
        have h6 : ((outB m 0 (2 * m.length)).take a.toNat ++ s).length = a.toNat + s.length := by rw [List.length_append, ht]
        simp only [h6, List.getElem_drop, outB_get, Int.zero_add]
        congr 3
        omega
end Go.Proofs.Ytlaabdpccdnalaa.C08
end
section
set_option linter.unusedSimpArgs false
set_option linter.unusedVariables false
namespace Go.Proofs.Ytlaabdpccdnalaa.C09
open Go Go.Ab
def OkPage (p : Page) : Prop := (0 ≤ p.base ∧ p.base ≤ 4095) ∧ (0 ≤ p.length ∧ p.length ≤ 128) ∧ (0 ≤ p.access ∧ p.access ≤ 2)
instance (p : Page) : Decidable (OkPage p) := by unfold OkPage; infer_instance
/-- a valid unit -/
def Rt (u : Mmu) : Prop := (∀ p ∈ u.pages, OkPage p) ∧ (0 ≤ u.status ∧ u.status ≤ 3) ∧ (0 ≤ u.addr ∧ u.addr ≤ 65535)
instance (u : Mmu) : Decidable (Rt u) := by unfold Rt; infer_instance
theorem all_pages {l : List Page} (h : l.length = 16) {Q : Page → Prop} : (∀ p ∈ l, Q p) ↔ ∀ m, m < 2 → ∀ j, j < 8 → ∀ p, l[m * 8 + j]? = some p → Q p := by
  constructor
  · intro hp m hm j hj p hq
    exact hp p (List.mem_of_getElem? hq)
  · intro hp p hq
    obtain ⟨i, hi, rfl⟩ := List.mem_iff_getElem.1 hq
    exact hp (i / 8) (by omega) (i % 8) (by omega) _ (by rw [show i / 8 * 8 + i % 8 = i by omega]; exact List.getElem?_eq_getElem hi)
theorem ref_Right_def (u : Mmu) (h : u.pages.length = 16) : ref09_Right none u = some (decide (Rt u)) := by
  -- the pages of a mode
  have inner : ∀ m : Nat, m < 2 → ((∀ j, j < 8 → ∀ p, u.pages[m * 8 + j]? = some p → OkPage p) ∧ Lref09_Right_1 none ⟨(m : Int), 0, u⟩ = some (.inr ((m : Int), u))) ∨ ∃ j, j < 8 ∧ (¬ ∀ p, u.pages[m * 8 + j]? = some p → OkPage p) ∧ Lref09_Right_1 none ⟨(m : Int), 0, u⟩ = some (.inl (false, (m : Int), u)) := by
    intro m hm
    refine lim_scan (f := fun s => (Wref09_Right_1 s).run) (fun j : Nat => ⟨(m : Int), (j : Int), u⟩) 8 (fun j => ∀ p, u.pages[m * 8 + j]? = some p → OkPage p) (fun _ => .inl (false, (m : Int), u)) (.inr ((m : Int), u)) (fun j hj hp => ?_) (fun j hj hp => ?_) ?_
    · have hlt : m * 8 + j < u.pages.length := by omega
      have hg := List.getElem?_eq_getElem hlt
      obtain ⟨h1, h2, h3⟩ := hp _ hg
      have hw : IntKind.wrap .i64 ((j : Int) + 1) = ((j + 1 : Nat) : Int) := by rw [wrap_id] <;> omega
      simp only [Wref09_Right_1, Tree.run, decide_eq_true_eq, Int.toNat_natCast, Nat.mul_one, hg, Option.bind_some]
      rw [if_pos (by omega), if_pos (by omega), if_pos (by omega), if_pos (by omega), if_pos (by omega), if_neg (by omega), if_neg (by omega), if_neg (by omega), if_neg (by omega), if_neg (by omega), if_neg (by omega), hw]
    · have hlt : m * 8 + j < u.pages.length := by omega
      have hg := List.getElem?_eq_getElem hlt
      have hp : ¬ OkPage u.pages[m * 8 + j] := fun hk => hp fun p hq => by rw [hg] at hq; injection hq with hq; rw [← hq]; exact hk
      simp only [Wref09_Right_1, Tree.run, decide_eq_true_eq, Int.toNat_natCast, Nat.mul_one, hg, Option.bind_some]
      rw [if_pos (by omega), if_pos (by omega), if_pos (by omega), if_pos (by omega), if_pos (by omega)]
      unfold OkPage at hp
      repeat' split
      all_goals first | rfl | (exfalso; omega)
    · simp [Wref09_Right_1, Tree.run]
  have outer := lim_scan (f := fun s => (Wref09_Right_0 none s).run) (fun m : Nat => ⟨(m : Int), u⟩) 2 (fun m => ∀ j, j < 8 → ∀ p, u.pages[m * 8 + j]? = some p → OkPage p) (fun _ => .inl (false, u)) (.inr u) (fun m hm hp => by
      have hw : IntKind.wrap .i64 ((m : Int) + 1) = ((m + 1 : Nat) : Int) := by rw [wrap_id] <;> omega
      rcases inner m hm with ⟨_, e⟩ | ⟨j, hj, hn, _⟩
      · simp only [Wref09_Right_0, Tree.run, decide_eq_true_eq, e, Option.bind_some]
        rw [if_pos (by omega)]
        simp [hw]
      · exact absurd (hp j hj) hn) (fun m hm hp => by
      rcases inner m hm with ⟨h1, _⟩ | ⟨j, hj, _, e⟩
      · exact absurd h1 hp
      · simp only [Wref09_Right_0, Tree.run, decide_eq_true_eq, e, Option.bind_some]
        rw [if_pos (by omega)]
        simp) (by simp [Wref09_Right_0, Tree.run])
  rw [show ((0 : Nat) : Int) = 0 from rfl] at outer
  rcases outer with ⟨hall, e⟩ | ⟨m, hm, hn, e⟩
  · have e : Lref09_Right_0 none ⟨0, u⟩ = some (.inr u) := e
    have hp := (all_pages h).2 hall
    simp only [ref09_Right, Tref09_Right, Tree.run, e, Option.bind_some, decide_eq_true_eq, Sum.isLeft_inr, Sum.getRight?_inr, Bool.false_eq_true, if_false]
    unfold Rt
    simp only [eq_true hp, true_and]
    repeat' split
    all_goals (rw [Option.some.injEq, Bool.eq_iff_iff]; simp; try omega)
  · have e : Lref09_Right_0 none ⟨0, u⟩ = some (.inl (false, u)) := e
    have hp : ¬ Rt u := fun hr => hn ((all_pages h).1 hr.1 m hm)
    simp [ref09_Right, Tref09_Right, Tree.run, e, hp]
/-- the fault of an access -/
def faultOf (x : Page) (o : Int) (w : Bool) : Int := if x.access = 0 then 1 else if x.length ≤ o / 64 then 2 else if w = true ∧ x.access ≠ 2 then 3 else 0
/-- the place of a page -/
def kx (mode a : Int) : Nat := (mode % 2).toNat * 8 + (a / 8192).toNat * 1
theorem kx_eq (mode a : Int) : (mode % 2).toNat * 8 + (a / 8192).toNat * 1 = kx mode a := rfl
def translated (u : Mmu) (mode addr : Int) (w : Bool) : Int × Mmu × Int :=
  let a := addr % 65536
  if u.on = false then (if a < 57344 then (a, u, 0) else (a + 196608, u, 0)) else
    match u.pages[kx mode a]? with
    | none => (0, u, 0)
    | some x => if faultOf x (a % 8192) w ≠ 0 then (0, { u with status := faultOf x (a % 8192) w, addr := a }, 8) else
      ((64 * x.base + a % 8192) % 262144, if w then { u with pages := u.pages.set (kx mode a) { x with written := true } } else u, 0)
theorem kx_lt {mode a : Int} (h0 : 0 ≤ a) (h1 : a < 65536) : kx mode a < 16 := by
  have h2 := Int.emod_nonneg mode (show (2 : Int) ≠ 0 by omega)
  have h3 := Int.emod_lt_of_pos mode (show (0 : Int) < 2 by omega)
  unfold kx
  omega
/-- is there a page's register at an offset -/
def isReg (o : Int) : Prop := 16 ≤ o ∧ o < 80 ∧ o % 2 = 0
instance (o : Int) : Decidable (isReg o) := by unfold isReg; infer_instance
def regOf (o : Int) : Int × Int × Bool × Bool := if isReg o then ((o - 16) / 32, (o - 16) % 32 / 4, decide ((o - 16) % 4 = 2), true) else (0, 0, false, false)
theorem tmod2 (o : Int) : o.tmod 2 = 0 ↔ o % 2 = 0 := by
  rw [Int.tmod_eq_emod]
  split
  · simp
  · rename_i h
    constructor
    · intro h'; omega
    · intro h'; exact absurd (.inr (Int.dvd_of_emod_eq_zero h')) h
/-- the place of a register's page -/
def kr (o : Int) : Nat := ((o - 16) / 32).toNat * 8 + ((o - 16) % 32 / 4).toNat * 1
theorem kr_eq (o : Int) : ((o - 16) / 32).toNat * 8 + ((o - 16) % 32 / 4).toNat * 1 = kr o := rfl
theorem kr_lt {o : Int} (h : isReg o) : kr o < 16 := by
  unfold isReg at h
  unfold kr
  omega
def got (u : Mmu) (o : Int) : Int × Bool := if o = 0 then (2 * u.status + (if u.on then 1 else 0), true) else if o = 2 then (u.addr, true) else if isReg o then (match u.pages[kr o]? with
  | none => (0, false)
  | some x => (if (o - 16) % 4 = 2 then x.length + 256 * x.access + (if x.written then 32768 else 0) else x.base, true)) else (0, false)
theorem reg_bounds {o : Int} (h : isReg o) : 0 ≤ (o - 16) / 32 ∧ (o - 16) / 32 < 2 ∧ 0 ≤ (o - 16) % 32 / 4 ∧ (o - 16) % 32 / 4 < 8 := by
  unfold isReg at h
  omega
/-- the page in which a register has been written -/
def newPage (x : Page) (o v : Int) : Page := if (o - 16) % 4 = 2 then { x with length := if 128 < v % 256 then 128 else v % 256, access := if 2 < v / 256 % 4 then 2 else v / 256 % 4, written := false } else { x with base := v % 4096 }
def wrote (u : Mmu) (o v : Int) : Mmu × Bool := if o = 0 then ({ u with on := decide (v % 2 = 1), status := v / 2 % 4 }, true) else if o = 2 then (u, true) else if isReg o then (match u.pages[kr o]? with
  | none => (u, false)
  | some x => ({ u with pages := u.pages.set (kr o) (newPage x o v) }, true)) else (u, false)
theorem newPage_ok (x : Page) (o v : Int) (h : OkPage x) : OkPage (newPage x o v) := by
  obtain ⟨h1, h2, h3⟩ := h
  unfold newPage
  split
  · refine ⟨h1, ?_, ?_⟩
    · show 0 ≤ (if 128 < v % 256 then 128 else v % 256) ∧ (if 128 < v % 256 then 128 else v % 256) ≤ 128
      split <;> omega
    · show 0 ≤ (if 2 < v / 256 % 4 then 2 else v / 256 % 4) ∧ (if 2 < v / 256 % 4 then 2 else v / 256 % 4) ≤ 2
      split <;> omega
  · refine ⟨?_, h2, h3⟩
    show 0 ≤ v % 4096 ∧ v % 4096 ≤ 4095
    omega
theorem wrote_right (u : Mmu) (o v : Int) (hr : Rt u) : Rt (wrote u o v).1 ∧ (wrote u o v).1.pages.length = u.pages.length := by
  obtain ⟨h1, h2, h3⟩ := hr
  unfold wrote
  split
  · refine ⟨⟨h1, ?_, h3⟩, rfl⟩
    show 0 ≤ v / 2 % 4 ∧ v / 2 % 4 ≤ 3
    omega
  split
  · exact ⟨⟨h1, h2, h3⟩, rfl⟩
  split
  · split
    · exact ⟨⟨h1, h2, h3⟩, rfl⟩
    · rename_i x hx
      refine ⟨⟨fun p hp => ?_, h2, h3⟩, by simp⟩
      have hp : p ∈ u.pages.set (kr o) (newPage x o v) := hp
      rcases List.mem_or_eq_of_mem_set hp with h' | rfl
      · exact h1 p h'
      · exact newPage_ok x o v (h1 x (List.mem_of_getElem? hx))
  · exact ⟨⟨h1, h2, h3⟩, rfl⟩
end Go.Proofs.Ytlaabdpccdnalaa.C09
end
section
set_option linter.unusedSimpArgs false
set_option linter.unusedVariables false
namespace Go.Proofs.Ytlaabdpccdnalaa.C13
open Go Go.Ab
theorem F7_def (c : Clock) : ref13_Right c = some (decide (1 ≤ c.period) && decide (c.period ≤ 65535) && decide (1 ≤ c.left) && decide (c.left ≤ c.period)) := by
  simp only [ref13_Right, Tref13_Right, Tree.run]
  by_cases h1 : 1 ≤ c.period <;> by_cases h2 : c.period ≤ 65535 <;> by_cases h3 : 1 ≤ c.left <;> simp [h1, h2, h3]
theorem wrap_id {n : Int} (h1 : -9223372036854775808 ≤ n) (h2 : n ≤ 9223372036854775807) : IntKind.wrap .i64 n = n := by
  rw [IntKind.wrap_i64]; omega
end Go.Proofs.Ytlaabdpccdnalaa.C13
end
section
set_option linter.unusedSimpArgs false
set_option linter.unusedVariables false
namespace Go.Proofs.Ytlaabdpccdnalaa.C14
open Go Go.Ab
/-- a valid line -/
def Rt (l : Line) : Prop := (0 ≤ l.rxData ∧ l.rxData ≤ 255) ∧ (0 ≤ l.txData ∧ l.txData ≤ 255) ∧ (0 ≤ l.txLeft ∧ l.txLeft ≤ 4) ∧ (l.txReady = true ↔ l.txLeft = 0) ∧ l.out.length ≤ 4096
instance (l : Line) : Decidable (Rt l) := by unfold Rt; infer_instance
theorem ref14_Right_def (l : Line) : ref14_Right l = some (decide (Rt l)) := by
  obtain ⟨a, b, c, rx, e, tr, tx, tl, out⟩ := l
  simp only [ref14_Right, Tref14_Right, Tree.run, Rt, decide_eq_true_eq]
  cases tr
  all_goals repeat' split
  all_goals (rw [Option.some.injEq, Bool.eq_iff_iff]; simp; try omega)
/-- the output with a byte more -/
def sent (l : Line) : List UInt8 := let o := l.out ++ [UInt8.ofNat (l.txData % 256).toNat]; o.drop (o.length - 4096)
/-- the line after a tick -/
def ticked (l : Line) : Line := if l.txLeft = 0 then l else if l.txLeft = 1 then { l with txLeft := 0, txReady := true, out := sent l } else { l with txLeft := l.txLeft - 1 }
end Go.Proofs.Ytlaabdpccdnalaa.C14
end
section
set_option linter.unusedSimpArgs false
set_option linter.unusedVariables false
namespace Go.Proofs.Ytlaabdpccdnalaa.C16
open Go Go.Ab
theorem wrap_succ {i n : Nat} (h : i < n) (hn : n ≤ 9223372036854775807) : IntKind.wrap .i64 ((i : Int) + 1) = ((i + 1 : Nat) : Int) := by rw [wrap_id] <;> omega
/-- the bad sectors: rising, within the drive -/
def BadsD (n : Nat) (bad : List Int) : Prop := ∀ i, (h : i < bad.length) → 0 ≤ bad[i] ∧ bad[i] < (n : Int) ∧ ∀ h' : 0 < i, bad[i - 1] < bad[i]
def GoodD (n : Nat) (bad : List Int) (i : Nat) : Prop := ∀ h : i < bad.length, 0 ≤ bad[i] ∧ bad[i] < (n : Int) ∧ ∀ h' : 0 < i, bad[i - 1] < bad[i]
def lastD (bad : List Int) (i : Nat) : Int := if i = 0 then -1 else bad.getD (i - 1) 0
def GoodD' (n : Nat) (bad : List Int) (i : Nat) : Prop := ∀ h : i < bad.length, lastD bad i < bad[i] ∧ bad[i] < (n : Int)
theorem badsD_iff (n : Nat) (bad : List Int) : (∀ i, i < bad.length → GoodD n bad i) ↔ BadsD n bad := ⟨fun h i hi => h i hi hi, fun h i _ hi => h i hi⟩
theorem badsD_iff' (n : Nat) (bad : List Int) : (∀ i, i < bad.length → GoodD' n bad i) ↔ BadsD n bad := by
  constructor
  · intro h i
    induction i with
    | zero =>
      intro hi
      obtain ⟨h1, h2⟩ := h 0 hi hi
      have h1' : -1 < bad[0] := h1
      exact ⟨by omega, h2, fun h' => absurd h' (by omega)⟩
    | succ i ih =>
      intro hi
      have hi' : i < bad.length := by omega
      obtain ⟨h1, h2⟩ := h (i + 1) hi hi
      have hp := ih hi'
      have hl : lastD bad (i + 1) = bad[i] := by simp [lastD, hi']
      rw [hl] at h1
      exact ⟨by omega, h2, fun _ => h1⟩
  · intro h i hi _
    obtain ⟨h1, h2, h4⟩ := h i hi
    refine ⟨?_, h2⟩
    by_cases h0 : i = 0
    · subst h0; simp [lastD]; omega
    · have hlt : i - 1 < bad.length := by omega
      have := h4 (by omega)
      simp [lastD, h0, hlt]; exact this
def RtV (d : Drive) : Prop := 1 ≤ d.sectors.length ∧ d.sectors.length ≤ 256 ∧ (∀ s ∈ d.sectors, s.length = 128) ∧ BadsD d.sectors.length d.bad
theorem sect_iff (l : List (List UInt8)) : (∀ i, i < l.length → ∀ s, l[i]? = some s → s.length = 128) ↔ ∀ s ∈ l, s.length = 128 := by
  constructor
  · intro h s hs
    obtain ⟨i, hi, he⟩ := List.mem_iff_getElem.1 hs
    exact h i hi s (by rw [List.getElem?_eq_getElem hi, he])
  · intro h i _ s hs
    exact h s (List.mem_of_getElem? hs)
open Classical in
theorem ref_sects (d : Drive) (hl : d.sectors.length ≤ 9223372036854775807) : Lref15_Right_0 none ⟨(0 : Int), d⟩ = some (if ∀ s ∈ d.sectors, s.length = 128 then .inr d else .inl (false, d)) := by
  have hs := lim_scan (f := fun s => (Wref15_Right_0 s).run) (fun i : Nat => ⟨(i : Int), d⟩) d.sectors.length (fun i => ∀ s, d.sectors[i]? = some s → s.length = 128) (fun i => .inl (false, d)) (.inr d)
    (fun i hi hp => by
      have hp' : (d.sectors[i].length : Int) = 128 := by have := hp d.sectors[i] (List.getElem?_eq_getElem hi); omega
      simp [Wref15_Right_0, Tree.run, hi, wrap_succ hi hl, hp'])
    (fun i hi hp => by
      have hp' : ¬ (d.sectors[i].length : Int) = 128 := fun he => hp fun s hs => by
        rw [List.getElem?_eq_getElem hi] at hs
        rw [← Option.some.inj hs]; omega
      simp [Wref15_Right_0, Tree.run, hi, hp'])
    (by simp [Wref15_Right_0, Tree.run])
  rcases hs with ⟨h1, h2⟩ | ⟨i, hi, h1, h2⟩
  · rw [if_pos ((sect_iff _).1 h1)]; exact h2
  · rw [if_neg (fun h => h1 ((sect_iff _).2 h i hi))]; exact h2
theorem ref_badsD (d : Drive) (hb : d.bad.length ≤ 9223372036854775807) : ∃ r, Lref15_Right_1 none ⟨(0 : Int), d⟩ = some r ∧ (r = .inr () ∧ BadsD d.sectors.length d.bad ∨ r = .inl false ∧ ¬ BadsD d.sectors.length d.bad) := by
  obtain ⟨secs, bad⟩ := d
  dsimp only at hb ⊢
  have hs := lim_scan (f := fun s => (Wref15_Right_1 s).run) (fun i : Nat => ⟨(i : Int), ⟨secs, bad⟩⟩) bad.length (GoodD secs.length bad) (fun i => .inl false) (.inr ())
    (fun i hi hp => by
      obtain ⟨h1, h2, h4⟩ := hp hi
      have h5 : ¬ bad[i] < 0 := by omega
      have h6 : ¬ (secs.length : Int) ≤ bad[i] := by omega
      by_cases h0 : 0 < i
      · have h7 := h4 h0
        have h8 : ¬ bad[i] ≤ bad[i - 1] := by omega
        have h9 : IntKind.wrap .i64 ((i : Int) - 1) = ((i - 1 : Nat) : Int) := by rw [wrap_id] <;> omega
        have h10 : i - 1 < bad.length := by omega
        simp [Wref15_Right_1, Tree.run, hi, wrap_succ hi hb, h5, h6, h0, h9, h10, h8]
      · have h00 : i = 0 := by omega
        subst h00
        simp [Wref15_Right_1, Tree.run, hi, wrap_id (n := 1) (by omega) (by omega), h5, h6])
    (fun i hi hp => by
      by_cases h1 : bad[i] < 0
      · simp [Wref15_Right_1, Tree.run, hi, h1]
      by_cases h2 : (secs.length : Int) ≤ bad[i]
      · simp [Wref15_Right_1, Tree.run, hi, h1, h2]
      by_cases h0 : 0 < i
      · have h10 : i - 1 < bad.length := by omega
        have h9 : IntKind.wrap .i64 ((i : Int) - 1) = ((i - 1 : Nat) : Int) := by rw [wrap_id] <;> omega
        by_cases h4 : bad[i] ≤ bad[i - 1]
        · simp [Wref15_Right_1, Tree.run, hi, h1, h2, h0, h9, h10, h4]
        · exact absurd (fun h => ⟨by omega, by omega, fun _ => by omega⟩) hp
      · exact absurd (fun h => ⟨by omega, by omega, fun h' => absurd h' h0⟩) hp)
    (by simp [Wref15_Right_1, Tree.run])
  rcases hs with ⟨h1, h2⟩ | ⟨i, hi, h1, h2⟩
  · exact ⟨_, h2, .inl ⟨rfl, (badsD_iff _ _).1 h1⟩⟩
  · exact ⟨_, h2, .inr ⟨rfl, fun h => h1 ((badsD_iff _ _).2 h i hi)⟩⟩
open Classical in
theorem ref_RightV_def (d : Drive) (hb : d.bad.length ≤ 9223372036854775807) : ref15_Right none d = some (decide (RtV d)) := by
  simp only [ref15_Right, Tref15_Right, Tree.run]
  by_cases h1 : (d.sectors.length : Int) < 1
  · have : ¬ RtV d := fun h => by have := h.1; omega
    simp [h1, this]
  by_cases h2 : 256 < (d.sectors.length : Int)
  · have : ¬ RtV d := fun h => by have := h.2.1; omega
    simp [h1, h2, this]
  simp only [h1, h2, decide_false, Bool.false_eq_true, if_false, ref_sects d (by omega), Option.bind_some]
  by_cases h3 : ∀ s ∈ d.sectors, s.length = 128
  · rw [if_pos h3]
    obtain ⟨r, hr, hc⟩ := ref_badsD d hb
    simp only [Sum.isLeft_inr, Bool.false_eq_true, if_false, Sum.getRight?_inr, Option.bind_some, hr]
    rcases hc with ⟨rfl, h4⟩ | ⟨rfl, h4⟩
    · have : RtV d := ⟨by omega, by omega, h3, h4⟩
      simp [this]
    · have : ¬ RtV d := fun h => h4 h.2.2.2
      simp [this]
  · rw [if_neg h3]
    have : ¬ RtV d := fun h => h3 h.2.2.1
    simp [this]
def RtK (k : Disk) : Prop := (0 ≤ k.command ∧ k.command ≤ 3) ∧ (0 ≤ k.words ∧ k.words ≤ 65535) ∧ (0 ≤ k.addr ∧ k.addr ≤ 65535 ∧ k.addr % 2 = 0) ∧ (0 ≤ k.start ∧ k.start ≤ 65535) ∧ (0 ≤ k.left ∧ k.left ≤ 8) ∧ (k.ready = true ↔ k.left = 0) ∧ (k.left = 0 ∨ ¬ k.command = 0 ∧ ¬ k.words = 0) ∧ RtV k.drive
theorem word16_def (x : Int) : ref16_word x = some (decide (0 ≤ x ∧ x ≤ 65535)) := by
  simp only [ref16_word, Tref16_word, Tree.run]
  by_cases h : 0 ≤ x <;> simp [h]
theorem beq_iff16 (a : Bool) (p : Prop) [Decidable p] : (a == decide p) = decide (a = true ↔ p) := by
  cases a <;> by_cases h : p <;> simp [h]
open Classical in
theorem ref_RightK_def (k : Disk) (hb : k.drive.bad.length ≤ 9223372036854775807) : ref16_Right none k = some (decide (RtK k)) := by
  simp only [ref16_Right, Tref16_Right, Tree.run, word16_def, Option.bind_some, ref_RightV_def k.drive hb, beq_iff16]
  by_cases h1 : k.command < 0
  · have : ¬ RtK k := fun h => by have := h.1; omega
    simp [h1, this]
  by_cases h2 : 3 < k.command
  · have : ¬ RtK k := fun h => by have := h.1; omega
    simp [h1, h2, this]
  by_cases h3 : 0 ≤ k.words ∧ k.words ≤ 65535
  · by_cases h4 : 0 ≤ k.addr ∧ k.addr ≤ 65535
    · by_cases h5 : 0 ≤ k.start ∧ k.start ≤ 65535
      · by_cases h6 : k.addr % 2 = 0
        · by_cases h7 : k.left < 0
          · have : ¬ RtK k := fun h => by have := h.2.2.2.2.1; omega
            simp [h1, h2, h3, h4, h5, h6, h7, this, tmod_nn h4.1]
          by_cases h8 : 8 < k.left
          · have : ¬ RtK k := fun h => by have := h.2.2.2.2.1; omega
            simp [h1, h2, h3, h4, h5, h6, h7, h8, this, tmod_nn h4.1]
          by_cases h9 : k.ready = true ↔ k.left = 0
          · by_cases h10 : k.left = 0
            · have : RtK k ↔ RtV k.drive := ⟨fun h => h.2.2.2.2.2.2.2, fun h => ⟨by omega, h3, ⟨h4.1, h4.2, h6⟩, h5, by omega, h9, .inl h10, h⟩⟩
              simp [h1, h2, h3, h4, h5, h6, h9, h10, this, tmod_nn h4.1]
            · by_cases h11 : k.command = 0
              · have : ¬ RtK k := fun h => by rcases h.2.2.2.2.2.2.1 with h' | h' <;> omega
                have h9' : ¬ k.ready = true := fun h => h10 (h9.1 h)
                simp [h1, h2, h3, h4, h5, h6, h7, h8, h9', h10, h11, this, tmod_nn h4.1]
              · by_cases h12 : k.words = 0
                · have : ¬ RtK k := fun h => by rcases h.2.2.2.2.2.2.1 with h' | h' <;> omega
                  have h9' : ¬ k.ready = true := fun h => h10 (h9.1 h)
                  simp [h1, h2, h4, h5, h6, h7, h8, h9', h10, h11, h12, this, tmod_nn h4.1]
                · have : RtK k ↔ RtV k.drive := ⟨fun h => h.2.2.2.2.2.2.2, fun h => ⟨by omega, h3, ⟨h4.1, h4.2, h6⟩, h5, by omega, h9, .inr ⟨h11, h12⟩, h⟩⟩
                  have h9' : ¬ k.ready = true := fun h => h10 (h9.1 h)
                  simp [h1, h2, h3, h4, h5, h6, h7, h8, h9', h10, h11, h12, this, tmod_nn h4.1]
          · have : ¬ RtK k := fun h => h9 h.2.2.2.2.2.1
            simp [h1, h2, h3, h4, h5, h6, h7, h8, h9, this, tmod_nn h4.1]
        · have : ¬ RtK k := fun h => h6 h.2.2.1.2.2
          simp [h1, h2, h3, h4, h5, h6, this, tmod_nn h4.1]
      · have : ¬ RtK k := fun h => h5 h.2.2.2.1
        simp [h1, h2, h3, h4, h5, this]
    · have : ¬ RtK k := fun h => h4 ⟨h.2.2.1.1, h.2.2.1.2.1⟩
      simp [h1, h2, h3, h4, this]
  · have : ¬ RtK k := fun h => h3 h.2.1
    simp [h1, h2, h3, this]
theorem or_bit16 (a : Int) (b : Bool) (n : Nat) (hn : n ≤ 15) (h0 : 0 ≤ a) (h1 : a ≤ 65535) (ha : a < 2 ^ n) : IntKind.wrap .i64 ((BitVec.ofInt 64 a ||| BitVec.ofInt 64 (if b then ((2 : Int) ^ n) else 0)).toNat : Int) = a + (if b then (2 : Int) ^ n else 0) := by
  have hp : (2 : Int) ^ n ≤ 32768 := by
    have : (2 : Nat) ^ n ≤ 2 ^ 15 := Nat.pow_le_pow_right (by omega) hn
    have e : ((2 : Int) ^ n) = ((2 ^ n : Nat) : Int) := by simp
    rw [e]; omega
  have hpos : 0 < (2 : Int) ^ n := by
    have : 0 < (2 : Nat) ^ n := Nat.pow_pos (by omega)
    have e : ((2 : Int) ^ n) = ((2 ^ n : Nat) : Int) := by simp
    rw [e]; omega
  cases b
  · exact or_add' n a 0 h0 ha (by omega) (by simp) (by omega)
  · exact or_add' n a _ h0 ha (by simp; omega) (by simp) (by simp; omega)
def stat16 (k : Disk) : Int := 2 * k.command + (if k.enable then 64 else 0) + (if k.ready then 128 else 0) + (if k.error then 32768 else 0)
def got16 (k : Disk) (r : Int) : Int × Bool := if r = 2 then (k.words, true) else if r = 4 then (k.addr, true) else if r = 6 then (k.start, true) else if r = 0 then (stat16 k, true) else (0, false)
def nilK : Disk := Disk.mk (Drive.mk [] []) false false false 0 0 0 0 0
def en16 (v : Int) : Bool := !decide (IntKind.wrap .i64 ((BitVec.ofInt 64 v &&& BitVec.ofInt 64 (64 : Int)).toNat : Int) = 0)
def cmd16 (k : Disk) (v : Int) : Disk := if k.ready = true ∧ ¬ v % 2 = 0 then (if ¬ v / 2 % 4 = 0 ∧ ¬ k.words = 0 then { k with enable := en16 v, error := false, command := v / 2 % 4, ready := false, left := 8 } else { k with enable := en16 v, error := false, command := v / 2 % 4 }) else { k with enable := en16 v }
def write16 (k : Disk) (r v : Int) : Disk × Bool := if r = 0 then (cmd16 k v, true) else if r = 2 then (if k.ready then { k with words := v % 65536 } else k, true) else if r = 4 then (if k.ready then { k with addr := v % 65536 - v % 65536 % 2 } else k, true) else if r = 6 then (if k.ready then { k with start := v % 65536 } else k, true) else (nilK, false)
theorem shr1_16 (v : Int) : v.fdiv (2 ^ (min ((1 : Int)).toNat 64)) = v / 2 := by
  rw [show (2 : Int) ^ (min ((1 : Int)).toNat 64) = 2 by decide, fdiv_pos _ (by omega)]
theorem and64 (v : Int) : IntKind.wrap .i64 ((BitVec.ofInt 64 v &&& BitVec.ofInt 64 (64 : Int)).toNat : Int) = v / 64 % 2 * 64 := by
  rw [nat_and]
  have h := nat_and_up (v % 18446744073709551616).toNat 1 6
  have e1 : ((64 : Int) % 18446744073709551616).toNat = (2 ^ 1 - 1) * 2 ^ 6 := by decide
  rw [e1, h]
  have e2 : (2 : Nat) ^ 6 = 64 := by decide
  have e3 : (2 : Nat) ^ 1 = 2 := by decide
  rw [e2, e3, wrap_id (by omega) (by omega)]
  omega
theorem and65534 (v : Int) : IntKind.wrap .i64 ((BitVec.ofInt 64 v &&& BitVec.ofInt 64 (65534 : Int)).toNat : Int) = v % 65536 - v % 2 := by
  rw [nat_and]
  have h := nat_and_up (v % 18446744073709551616).toNat 15 1
  have e1 : ((65534 : Int) % 18446744073709551616).toNat = (2 ^ 15 - 1) * 2 ^ 1 := by decide
  rw [e1, h]
  have e2 : (2 : Nat) ^ 15 = 32768 := by decide
  have e3 : (2 : Nat) ^ 1 = 2 := by decide
  rw [e2, e3, wrap_id (by omega) (by omega)]
  omega
theorem en16_low (v : Int) : en16 (v % 65536) = en16 v := by
  unfold en16
  rw [and64, and64]
  congr 2
  rw [eq_iff_iff]
  omega
theorem cmd16_low (k : Disk) (v : Int) : cmd16 k (v % 65536) = cmd16 k v := by
  unfold cmd16
  rw [en16_low, show v % 65536 % 2 = v % 2 by omega, show v % 65536 / 2 % 4 = v / 2 % 4 by omega]
theorem cmd16_right (k : Disk) (v : Int) (h : RtK k) : RtK (cmd16 k v) := by
  obtain ⟨h1, h2, h3, h4, h5, h6, h7, h8⟩ := h
  unfold cmd16
  split
  · rename_i hc
    have hl := h6.1 hc.1
    split
    · rename_i hd
      exact ⟨by dsimp only; omega, h2, h3, h4, by dsimp only; omega, by simp, .inr ⟨hd.1, hd.2⟩, h8⟩
    · exact ⟨by dsimp only; omega, h2, h3, h4, h5, h6, .inl hl, h8⟩
  · exact ⟨h1, h2, h3, h4, h5, h6, h7, h8⟩
theorem write16_right (k : Disk) (r v : Int) (h : RtK k) (hok : (write16 k r v).2 = true) : RtK (write16 k r v).1 := by
  have h0 := h
  obtain ⟨h1, h2, h3, h4, h5, h6, h7, h8⟩ := h
  unfold write16 at hok ⊢
  split
  · exact cmd16_right k v h0
  · split
    · dsimp only
      split
      · rename_i hr
        have hl := h6.1 hr
        exact ⟨h1, by dsimp only; omega, h3, h4, h5, h6, .inl hl, h8⟩
      · exact h0
    · split
      · dsimp only
        split
        · rename_i hr
          have hl := h6.1 hr
          exact ⟨h1, h2, by dsimp only; omega, h4, h5, h6, .inl hl, h8⟩
        · exact h0
      · split
        · dsimp only
          split
          · rename_i hr
            have hl := h6.1 hr
            exact ⟨h1, h2, h3, by dsimp only; omega, h5, h6, .inl hl, h8⟩
          · exact h0
        · rename_i a b c d
          rw [if_neg a, if_neg b, if_neg c, if_neg d] at hok
          cases hok
theorem cmd16_drive (k : Disk) (v : Int) : (cmd16 k v).drive = k.drive := by
  unfold cmd16
  split
  · split <;> rfl
  · rfl
theorem write16_drive (k : Disk) (r v : Int) (hok : (write16 k r v).2 = true) : (write16 k r v).1.drive = k.drive := by
  unfold write16 at hok ⊢
  split
  · exact cmd16_drive k v
  · split
    · dsimp only; split <;> rfl
    · split
      · dsimp only; split <;> rfl
      · split
        · dsimp only; split <;> rfl
        · rename_i a b c d
          rw [if_neg a, if_neg b, if_neg c, if_neg d] at hok
          cases hok
end Go.Proofs.Ytlaabdpccdnalaa.C16
end
section
set_option linter.unusedSimpArgs false
set_option linter.unusedVariables false
namespace Go.Proofs.Ytlaabdpccdnalaa.C17
open Go Go.Ab
theorem wrap_succ {i n : Nat} (h : i < n) (hn : n ≤ 9223372036854775807) : IntKind.wrap .i64 ((i : Int) + 1) = ((i + 1 : Nat) : Int) := by rw [wrap_id] <;> omega
def RtT (t : Tape) : Prop := t.records.length ≤ 64 ∧ (∀ r ∈ t.records, r.length ≤ 512) ∧ (0 ≤ t.pos ∧ t.pos ≤ (t.records.length : Int)) ∧ (0 ≤ t.command ∧ t.command ≤ 6) ∧ (0 ≤ t.count ∧ t.count ≤ 65535) ∧ (0 ≤ t.addr ∧ t.addr ≤ 65535) ∧ (0 ≤ t.left ∧ t.left ≤ 16) ∧ (t.ready = true ↔ t.left = 0)
instance (t : Tape) : Decidable (RtT t) := by unfold RtT; infer_instance
theorem word_def (x : Int) : ref17_word x = some (decide (0 ≤ x ∧ x ≤ 65535)) := by
  simp only [ref17_word, Tref17_word, Tree.run]
  by_cases h : 0 ≤ x <;> simp [h]
theorem ref_records (t : Tape) (hl : t.records.length ≤ 9223372036854775807) : Lref17_Right_0 none ⟨(0 : Int), t⟩ = some (if ∀ r ∈ t.records, r.length ≤ 512 then .inr t else .inl (false, t)) := by
  have hs := lim_scan (f := fun s => (Wref17_Right_0 s).run) (fun i : Nat => ⟨(i : Int), t⟩) t.records.length (fun i => ∀ r, t.records[i]? = some r → r.length ≤ 512) (fun i => .inl (false, t)) (.inr t)
    (fun i hi hp => by
      have hp' : ¬ 512 < (t.records[i].length : Int) := by have := hp t.records[i] (List.getElem?_eq_getElem hi); omega
      simp [Wref17_Right_0, Tree.run, hi, wrap_succ hi hl, hp'])
    (fun i hi hp => by
      have hp' : 512 < (t.records[i].length : Int) := by
        apply Classical.byContradiction
        intro hn
        exact hp fun r hr => by
          rw [List.getElem?_eq_getElem hi] at hr
          rw [← Option.some.inj hr]; omega
      simp [Wref17_Right_0, Tree.run, hi, hp'])
    (by simp [Wref17_Right_0, Tree.run])
  rcases hs with ⟨h1, h2⟩ | ⟨i, hi, h1, h2⟩
  · rw [if_pos]
    · exact h2
    · intro r hr
      obtain ⟨i, hi, he⟩ := List.mem_iff_getElem.1 hr
      exact h1 i hi r (by rw [List.getElem?_eq_getElem hi, he])
  · rw [if_neg]
    · exact h2
    · intro h
      exact h1 fun r hr => h r (List.mem_of_getElem? hr)
theorem beq_iff' (a b : Bool) : (a == b) = true ↔ (a = true ↔ b = true) := by cases a <;> cases b <;> simp
theorem ref_RightT_def (t : Tape) (hl : t.records.length ≤ 9223372036854775807) : ref17_Right none t = some (decide (RtT t)) := by
  simp only [ref17_Right, Tref17_Right, Tree.run, word_def, Option.bind_some, ref_records t hl]
  by_cases h1 : 64 < (t.records.length : Int)
  · have : ¬ RtT t := fun h => by have := h.1; omega
    simp [h1, this]
  by_cases h2 : t.pos < 0
  · have : ¬ RtT t := fun h => by have := h.2.2.1; omega
    simp [h1, h2, this]
  by_cases h3 : (t.records.length : Int) < t.pos
  · have : ¬ RtT t := fun h => by have := h.2.2.1; omega
    simp [h1, h2, h3, this]
  by_cases h4 : t.command < 0
  · have : ¬ RtT t := fun h => by have := h.2.2.2.1; omega
    simp [h1, h2, h3, h4, this]
  by_cases h5 : 6 < t.command
  · have : ¬ RtT t := fun h => by have := h.2.2.2.1; omega
    simp [h1, h2, h3, h4, h5, this]
  by_cases h6 : 0 ≤ t.count ∧ t.count ≤ 65535
  · by_cases h7 : 0 ≤ t.addr ∧ t.addr ≤ 65535
    · by_cases h8 : ∀ r ∈ t.records, r.length ≤ 512
      · rw [if_pos h8]
        by_cases h9 : 0 ≤ t.left
        · by_cases h10 : t.left ≤ 16
          · simp only [h1, h2, h3, h4, h5, h6, h7, h9, h10, decide_false, decide_true, Bool.false_eq_true, if_false, if_true, Bool.not_true, and_self, Sum.isLeft_inr, Sum.getRight?_inr, Option.bind_some]
            rw [Option.some.injEq, Bool.eq_iff_iff, beq_iff', decide_eq_true_eq, decide_eq_true_eq]
            unfold RtT
            constructor
            · intro h; exact ⟨by omega, h8, by omega, by omega, h6, h7, by omega, h⟩
            · intro h; exact h.2.2.2.2.2.2.2
          · have : ¬ RtT t := fun h => by have := h.2.2.2.2.2.2.1; omega
            simp [h1, h2, h3, h4, h5, h6, h7, h9, h10, this]
        · have : ¬ RtT t := fun h => by have := h.2.2.2.2.2.2.1; omega
          simp [h1, h2, h3, h4, h5, h6, h7, h9, this]
      · rw [if_neg h8]
        have : ¬ RtT t := fun h => h8 h.2.1
        simp [h1, h2, h3, h4, h5, h6, h7, this]
    · have : ¬ RtT t := fun h => h7 h.2.2.2.2.2.1
      simp [h1, h2, h3, h4, h5, h6, h7, this]
  · have : ¬ RtT t := fun h => h6 h.2.2.2.2.1
    simp [h1, h2, h3, h4, h5, h6, this]
def blank : Tape := Tape.mk [] 0 false false false false false 0 0 0 0
def newT (l : List (List UInt8)) : Tape × Int := if 64 < l.length then (blank, 12) else if ∃ r ∈ l, 512 < r.length then (blank, 7) else (Tape.mk l 0 false true false false false 0 0 0 0, 0)
theorem newT_len (l : List (List UInt8)) (hl : l.length ≤ 100) : (newT l).1.records.length ≤ 100 := by
  unfold newT
  split
  · simp [blank]
  · split
    · simp [blank]
    · exact hl
def acceptT (t : Tape) (v : Int) : Tape := { t with enable := t.enable && !decide (v = 164) }
def resetT (t : Tape) : Tape := Tape.mk t.records t.pos false true false false false 0 t.count t.addr 0
def mountT (t : Tape) : Tape := if t.left = 0 then { t with pos := 0 } else { t with pos := 0, left := 0, ready := true, error := true }
def en (v : Int) : Bool := !decide (IntKind.wrap .i64 ((BitVec.ofInt 64 v &&& BitVec.ofInt 64 (64 : Int)).toNat : Int) = 0)
def cmdT (t : Tape) (v : Int) : Tape := if t.ready = true ∧ ¬ v % 2 = 0 then (if v / 2 % 8 = 0 ∨ v / 2 % 8 = 7 then { t with enable := en v, error := false, mark := false, end_ := false, command := 0 } else { t with enable := en v, ready := false, error := false, mark := false, end_ := false, command := v / 2 % 8, left := 16 }) else { t with enable := en v }
theorem shr1 (v : Int) : v.fdiv (2 ^ (min ((1 : Int)).toNat 64)) = v / 2 := by
  rw [show (2 : Int) ^ (min ((1 : Int)).toNat 64) = 2 by decide, fdiv_pos _ (by omega)]
def writeT (t : Tape) (r v : Int) : Tape × Bool := if r = 0 then (cmdT t v, true) else if r = 2 then (if t.ready then { t with count := v % 65536 } else t, true) else if r = 4 then (if t.ready then { t with addr := v % 65536 } else t, true) else (t, false)
theorem or_bit (a : Int) (b : Bool) (n : Nat) (hn : n ≤ 15) (h0 : 0 ≤ a) (h1 : a ≤ 65535) (ha : a < 2 ^ n) : IntKind.wrap .i64 ((BitVec.ofInt 64 a ||| BitVec.ofInt 64 (if b then ((2 : Int) ^ n) else 0)).toNat : Int) = a + (if b then (2 : Int) ^ n else 0) := by
  have hp : (2 : Int) ^ n ≤ 32768 := by
    have : (2 : Nat) ^ n ≤ 2 ^ 15 := Nat.pow_le_pow_right (by omega) hn
    have e : ((2 : Int) ^ n) = ((2 ^ n : Nat) : Int) := by simp
    rw [e]; omega
  have hpos : 0 < (2 : Int) ^ n := by
    have : 0 < (2 : Nat) ^ n := Nat.pow_pos (by omega)
    have e : ((2 : Int) ^ n) = ((2 ^ n : Nat) : Int) := by simp
    rw [e]; omega
  cases b
  · exact or_add' n a 0 h0 ha (by omega) (by simp) (by omega)
  · exact or_add' n a _ h0 ha (by simp; omega) (by simp) (by simp; omega)
theorem cmdT_records (t : Tape) (v : Int) : (cmdT t v).records = t.records := by
  unfold cmdT
  split
  · split <;> rfl
  · rfl
theorem writeT_records (t : Tape) (r v : Int) : (writeT t r v).1.records = t.records := by
  unfold writeT
  split
  · exact cmdT_records t v
  · split
    · dsimp only; split <;> rfl
    · split
      · dsimp only; split <;> rfl
      · rfl
theorem mountT_records (t : Tape) : (mountT t).records = t.records := by unfold mountT; split <;> rfl
theorem RtT_cmd (t : Tape) (v : Int) (h : RtT t) : RtT (cmdT t v) := by
  obtain ⟨h1, h2, h3, h4, h5, h6, h7, h8⟩ := h
  unfold cmdT
  split
  · rename_i hc
    split
    · exact ⟨h1, h2, h3, ⟨by dsimp only; omega, by dsimp only; omega⟩, h5, h6, h7, h8⟩
    · exact ⟨h1, h2, h3, ⟨by dsimp only; omega, by dsimp only; omega⟩, h5, h6, ⟨by dsimp only; omega, by dsimp only; omega⟩, by simp⟩
  · exact ⟨h1, h2, h3, h4, h5, h6, h7, h8⟩
theorem RtT_write (t : Tape) (r v : Int) (h : RtT t) : RtT (writeT t r v).1 := by
  have h0 := h
  obtain ⟨h1, h2, h3, h4, h5, h6, h7, h8⟩ := h
  unfold writeT
  split
  · exact RtT_cmd t v h0
  · split
    · dsimp only
      split
      · exact ⟨h1, h2, h3, h4, ⟨by dsimp only; omega, by dsimp only; omega⟩, h6, h7, h8⟩
      · exact h0
    · split
      · dsimp only
        split
        · exact ⟨h1, h2, h3, h4, h5, ⟨by dsimp only; omega, by dsimp only; omega⟩, h7, h8⟩
        · exact h0
      · exact h0
theorem RtT_accept (t : Tape) (v : Int) (h : RtT t) : RtT (acceptT t v) := h
theorem RtT_reset (t : Tape) (h : RtT t) : RtT (resetT t) := by
  obtain ⟨h1, h2, h3, h4, h5, h6, h7, h8⟩ := h
  exact ⟨h1, h2, h3, ⟨by simp [resetT], by simp [resetT]⟩, h5, h6, ⟨by simp [resetT], by simp [resetT]⟩, by simp [resetT]⟩
theorem RtT_mount (t : Tape) (h : RtT t) : RtT (mountT t) := by
  obtain ⟨h1, h2, h3, h4, h5, h6, h7, h8⟩ := h
  unfold mountT
  split
  · exact ⟨h1, h2, ⟨by dsimp only; omega, by dsimp only; omega⟩, h4, h5, h6, h7, h8⟩
  · exact ⟨h1, h2, ⟨by dsimp only; omega, by dsimp only; omega⟩, h4, h5, h6, ⟨by dsimp only; omega, by dsimp only; omega⟩, by simp⟩
/-- what a tick leaves to do: a unit that is ready -/
def RtD (t : Tape) : Prop := t.records.length ≤ 64 ∧ (∀ r ∈ t.records, r.length ≤ 512) ∧ (0 ≤ t.pos ∧ t.pos ≤ (t.records.length : Int)) ∧ (0 ≤ t.command ∧ t.command ≤ 6) ∧ (0 ≤ t.count ∧ t.count ≤ 65535) ∧ (0 ≤ t.addr ∧ t.addr ≤ 65535) ∧ t.left = 0 ∧ t.ready = true
theorem RtD.rt {t : Tape} (h : RtD t) : RtT t := by
  obtain ⟨h1, h2, h3, h4, h5, h6, h7, h8⟩ := h
  exact ⟨h1, h2, h3, h4, h5, h6, ⟨by omega, by omega⟩, by simp [h7, h8]⟩
end Go.Proofs.Ytlaabdpccdnalaa.C17
end
section
set_option linter.unusedSimpArgs false
set_option linter.unusedVariables false
namespace Go.Proofs.Ytlaabdpccdnalaa
open Go Go.Ab
theorem wrap_succ {i n : Nat} (h : i < n) (hn : n ≤ 9223372036854775807) : IntKind.wrap .i64 ((i : Int) + 1) = ((i + 1 : Nat) : Int) := by rw [wrap_id] <;> omega
def SmM (m : Machine) : Prop := m.mem.length ≤ 2048 ∧ m.bad.length ≤ 64 ∧ m.lines.length ≤ 8 ∧ m.disk.drive.sectors.length ≤ 256 ∧ m.disk.drive.bad.length ≤ 256 ∧ m.tape.records.length ≤ 70
theorem small0 (m : Machine) (n : Int) : ∃ k, Llaw18_Small_0 none ⟨n, (0 : Int), m⟩ = some (k, m) := by
  obtain ⟨r, hr, k, e⟩ := lim_rule (f := fun s => (Wlaw18_Small_0 s).run) (fun s => ∃ (i : Nat) (n : Int), s = ⟨n, (i : Int), m⟩ ∧ i ≤ 300) (fun r => ∃ k, r = (k, m)) (fun s => 300 - s.t4.toNat)
    (by
      rintro s ⟨i, n, rfl, hi⟩
      by_cases h1 : i < m.disk.drive.sectors.length
      · by_cases h2 : i < 300
        · right
          have h1' : (i : Int) < (m.disk.drive.sectors.length : Int) := by omega
          have h2' : (i : Int) < 300 := by omega
          have h0 : (0 : Int) ≤ (i : Int) := by omega
          refine ⟨⟨IntKind.wrap .i64 (n + (if (100000 : Int) < (m.disk.drive.sectors[i].length : Int) then (100000 : Int) else (m.disk.drive.sectors[i].length : Int))), ((i + 1 : Nat) : Int), m⟩, ?_, ⟨i + 1, _, rfl, h2⟩, ?_⟩
          · simp only [Wlaw18_Small_0, Tree.run, h1', h2', h0, decide_true, if_true, Int.toNat_natCast, List.getElem?_eq_getElem h1, Option.bind_some, wrap_succ h2 (show 300 ≤ 9223372036854775807 by omega)]
          · dsimp only; omega
        · left
          have h1' : (i : Int) < (m.disk.drive.sectors.length : Int) := by omega
          have h2' : ¬ (i : Int) < 300 := by omega
          refine ⟨(n, m), ?_, n, rfl⟩
          show (if decide ((i : Int) < (m.disk.drive.sectors.length : Int)) = true then (if decide ((i : Int) < 300) = true then _ else some (Sum.inr (n, m))) else some (Sum.inr (n, m))) = _
          rw [if_pos (decide_eq_true h1')]
          exact if_neg (fun h => h2' (of_decide_eq_true h))
      · left
        have h1' : ¬ (i : Int) < (m.disk.drive.sectors.length : Int) := by omega
        refine ⟨(n, m), ?_, n, rfl⟩
        show (if decide ((i : Int) < (m.disk.drive.sectors.length : Int)) = true then _ else some (Sum.inr (n, m))) = _
        exact if_neg (fun h => h1' (of_decide_eq_true h)))
    ⟨n, (0 : Int), m⟩ ⟨0, n, rfl, by omega⟩
  subst e
  exact ⟨k, hr⟩
theorem small1 (m : Machine) (n : Int) : ∃ k, Llaw18_Small_1 none ⟨n, (0 : Int), m⟩ = some (k, m) := by
  obtain ⟨r, hr, k, e⟩ := lim_rule (f := fun s => (Wlaw18_Small_1 s).run) (fun s => ∃ (i : Nat) (n : Int), s = ⟨n, (i : Int), m⟩ ∧ i ≤ 300) (fun r => ∃ k, r = (k, m)) (fun s => 300 - s.t5.toNat)
    (by
      rintro s ⟨i, n, rfl, hi⟩
      by_cases h1 : i < m.tape.records.length
      · by_cases h2 : i < 300
        · right
          have h1' : (i : Int) < (m.tape.records.length : Int) := by omega
          have h2' : (i : Int) < 300 := by omega
          have h0 : (0 : Int) ≤ (i : Int) := by omega
          refine ⟨⟨IntKind.wrap .i64 (n + (if (100000 : Int) < (m.tape.records[i].length : Int) then (100000 : Int) else (m.tape.records[i].length : Int))), ((i + 1 : Nat) : Int), m⟩, ?_, ⟨i + 1, _, rfl, h2⟩, ?_⟩
          · simp only [Wlaw18_Small_1, Tree.run, h1', h2', h0, decide_true, if_true, Int.toNat_natCast, List.getElem?_eq_getElem h1, Option.bind_some, wrap_succ h2 (show 300 ≤ 9223372036854775807 by omega)]
          · dsimp only; omega
        · left
          have h1' : (i : Int) < (m.tape.records.length : Int) := by omega
          have h2' : ¬ (i : Int) < 300 := by omega
          refine ⟨(n, m), ?_, n, rfl⟩
          show (if decide ((i : Int) < (m.tape.records.length : Int)) = true then (if decide ((i : Int) < 300) = true then _ else some (Sum.inr (n, m))) else some (Sum.inr (n, m))) = _
          rw [if_pos (decide_eq_true h1')]
          exact if_neg (fun h => h2' (of_decide_eq_true h))
      · left
        have h1' : ¬ (i : Int) < (m.tape.records.length : Int) := by omega
        refine ⟨(n, m), ?_, n, rfl⟩
        show (if decide ((i : Int) < (m.tape.records.length : Int)) = true then _ else some (Sum.inr (n, m))) = _
        exact if_neg (fun h => h1' (of_decide_eq_true h)))
    ⟨n, (0 : Int), m⟩ ⟨0, n, rfl, by omega⟩
  subst e
  exact ⟨k, hr⟩
theorem small2 (m : Machine) (n : Int) : ∃ k, Llaw18_Small_2 none ⟨n, (0 : Int), m⟩ = some (k, m) := by
  obtain ⟨r, hr, k, e⟩ := lim_rule (f := fun s => (Wlaw18_Small_2 s).run) (fun s => ∃ (i : Nat) (n : Int), s = ⟨n, (i : Int), m⟩ ∧ i ≤ 9) (fun r => ∃ k, r = (k, m)) (fun s => 9 - s.t6.toNat)
    (by
      rintro s ⟨i, n, rfl, hi⟩
      by_cases h1 : i < m.lines.length
      · by_cases h2 : i < 9
        · right
          have h1' : (i : Int) < (m.lines.length : Int) := by omega
          have h2' : (i : Int) < 9 := by omega
          have h0 : (0 : Int) ≤ (i : Int) := by omega
          refine ⟨⟨IntKind.wrap .i64 (n + (if (100000 : Int) < (m.lines[i].out.length : Int) then (100000 : Int) else (m.lines[i].out.length : Int))), ((i + 1 : Nat) : Int), m⟩, ?_, ⟨i + 1, _, rfl, h2⟩, ?_⟩
          · simp only [Wlaw18_Small_2, Tree.run, h1', h2', h0, decide_true, if_true, Int.toNat_natCast, List.getElem?_eq_getElem h1, Option.bind_some, wrap_succ h2 (show 9 ≤ 9223372036854775807 by omega)]
          · dsimp only; omega
        · left
          have h1' : (i : Int) < (m.lines.length : Int) := by omega
          have h2' : ¬ (i : Int) < 9 := by omega
          exact ⟨(n, m), by simp only [Wlaw18_Small_2, Tree.run, h1', h2', decide_true, decide_false, if_true, Bool.false_eq_true, if_false], n, rfl⟩
      · left
        have h1' : ¬ (i : Int) < (m.lines.length : Int) := by omega
        exact ⟨(n, m), by simp only [Wlaw18_Small_2, Tree.run, h1', decide_false, Bool.false_eq_true, if_false], n, rfl⟩)
    ⟨n, (0 : Int), m⟩ ⟨0, n, rfl, by omega⟩
  subst e
  exact ⟨k, hr⟩
theorem Small_def (m : Machine) : ∃ r, law18_Small none m = some r ∧ (r = true → SmM m) := by
  obtain ⟨k0, e0⟩ := small0 m 0
  obtain ⟨k1, e1⟩ := small1 m k0
  obtain ⟨k2, e2⟩ := small2 m k1
  simp only [law18_Small, Tlaw18_Small, Tree.run, e0, e1, e2, Option.bind_some]
  by_cases h1 : k2 ≤ 60000
  · by_cases h2 : (m.mem.length : Int) ≤ 2048
    · by_cases h3 : (m.bad.length : Int) ≤ 64
      · by_cases h4 : (m.lines.length : Int) ≤ 8
        · by_cases h5 : (m.disk.drive.sectors.length : Int) ≤ 256
          · by_cases h6 : (m.disk.drive.bad.length : Int) ≤ 256
            · simp only [h1, h2, h3, h4, h5, h6, decide_true, if_true]
              exact ⟨_, rfl, fun h => ⟨by omega, by omega, by omega, by omega, by omega, by have := of_decide_eq_true h; omega⟩⟩
            · exact ⟨false, by simp [h1, h2, h3, h4, h5, h6], fun h => by cases h⟩
          · exact ⟨false, by simp [h1, h2, h3, h4, h5], fun h => by cases h⟩
        · exact ⟨false, by simp [h1, h2, h3, h4], fun h => by cases h⟩
      · exact ⟨false, by simp [h1, h2, h3], fun h => by cases h⟩
    · exact ⟨false, by simp [h1, h2], fun h => by cases h⟩
  · exact ⟨false, by simp [h1], fun h => by cases h⟩
def RtC (c : Clock) : Prop := (1 ≤ c.period ∧ c.period ≤ 65535) ∧ 1 ≤ c.left ∧ c.left ≤ c.period
open Classical in
theorem clock_Right_def (c : Clock) : ref13_Right c = some (decide (RtC c)) := by
  rw [C13.F7_def]
  unfold RtC
  rw [Option.some.injEq, Bool.eq_iff_iff]
  simp only [Bool.and_eq_true, decide_eq_true_eq]
  omega
def RtM (m : Machine) : Prop := m.lines.length ≤ 4 ∧ (∀ l ∈ m.lines, C14.Rt l) ∧ C08.Rt m.mem m.bad ∧ C09.Rt m.mmu ∧ RtC m.clock ∧ C16.RtK m.disk ∧ C17.RtT m.tape
theorem lines_iff (l : List Line) : (∀ i, i < l.length → ∀ x, l[i]? = some x → C14.Rt x) ↔ ∀ x ∈ l, C14.Rt x := by
  constructor
  · intro h x hx
    obtain ⟨i, hi, he⟩ := List.mem_iff_getElem.1 hx
    exact h i hi x (by rw [List.getElem?_eq_getElem hi, he])
  · intro h i _ x hx
    exact h x (List.mem_of_getElem? hx)
open Classical in
theorem ref_lines (m : Machine) (hl : m.lines.length ≤ 100) : Lref18_Right_0 none ⟨(0 : Int), m⟩ = some (if ∀ x ∈ m.lines, C14.Rt x then .inr m else .inl (false, m)) := by
  have hs := lim_scan (f := fun s => (Wref18_Right_0 s).run) (fun i : Nat => ⟨(i : Int), m⟩) m.lines.length (fun i => ∀ x, m.lines[i]? = some x → C14.Rt x) (fun i => .inl (false, m)) (.inr m)
    (fun i hi hp => by
      have hp' := hp m.lines[i] (List.getElem?_eq_getElem hi)
      simp [Wref18_Right_0, Tree.run, hi, wrap_succ hi (show m.lines.length ≤ 9223372036854775807 by omega), C14.ref14_Right_def, hp'])
    (fun i hi hp => by
      have hp' : ¬ C14.Rt m.lines[i] := fun he => hp fun s hs => by
        rw [List.getElem?_eq_getElem hi] at hs
        rw [← Option.some.inj hs]; exact he
      simp [Wref18_Right_0, Tree.run, hi, C14.ref14_Right_def, hp'])
    (by simp [Wref18_Right_0, Tree.run])
  rcases hs with ⟨h1, h2⟩ | ⟨i, hi, h1, h2⟩
  · rw [if_pos ((lines_iff _).1 h1)]; exact h2
  · rw [if_neg (fun h => h1 ((lines_iff _).2 h i hi))]; exact h2
structure Fin (m : Machine) : Prop where
  pages : m.mmu.pages.length = 16
  mem : m.mem.length ≤ 100000
  bad : m.bad.length ≤ 100000
  dbad : m.disk.drive.bad.length ≤ 100000
  recs : m.tape.records.length ≤ 100000
open Classical in
theorem ref_RightM_def (m : Machine) (h : Fin m) : ref18_Right none m = some (decide (RtM m)) := by
  simp only [ref18_Right, Tref18_Right, Tree.run]
  by_cases h1 : 4 < (m.lines.length : Int)
  · have : ¬ RtM m := fun h => by have := h.1; omega
    simp [h1, this]
  simp only [h1, decide_false, Bool.false_eq_true, if_false, ref_lines m (by omega), Option.bind_some]
  by_cases h2 : ∀ x ∈ m.lines, C14.Rt x
  · rw [if_pos h2]
    have hk := h.dbad
    have hr := h.recs
    simp only [Sum.isLeft_inr, Bool.false_eq_true, if_false, Sum.getRight?_inr, Option.bind_some, C08.ref_Right_def m.mem m.bad h.mem h.bad, C09.ref_Right_def m.mmu h.pages, clock_Right_def, C16.ref_RightK_def m.disk (by omega), C17.ref_RightT_def m.tape (by omega)]
    by_cases h3 : C08.Rt m.mem m.bad
    · by_cases h4 : C09.Rt m.mmu
      · by_cases h5 : RtC m.clock
        · by_cases h6 : C16.RtK m.disk
          · have : RtM m ↔ C17.RtT m.tape := ⟨fun h => h.2.2.2.2.2.2, fun h => ⟨by omega, h2, h3, h4, h5, h6, h⟩⟩
            simp [h3, h4, h5, h6, this]
          · have : ¬ RtM m := fun h => h6 h.2.2.2.2.2.1
            simp [h3, h4, h5, h6, this]
        · have : ¬ RtM m := fun h => h5 h.2.2.2.2.1
          simp [h3, h4, h5, this]
      · have : ¬ RtM m := fun h => h4 h.2.2.2.1
        simp [h3, h4, this]
    · have : ¬ RtM m := fun h => h3 h.2.2.1
      simp [h3, this]
  · rw [if_neg h2]
    have : ¬ RtM m := fun h => h2 h.2.1
    simp [this]
structure Fin2 (m : Machine) : Prop where
  mem : m.mem.length ≤ 100000
  bad : m.bad.length ≤ 100000
  lines : m.lines.length ≤ 100000
  secs : m.disk.drive.sectors.length ≤ 100000
  dbad : m.disk.drive.bad.length ≤ 100000
  recs : m.tape.records.length ≤ 100000
theorem fin_of {m : Machine} (h : SmM m) (hp : m.mmu.pages.length = 16) : Fin m := by
  obtain ⟨h1, h2, h3, h4, h5, h6⟩ := h
  exact ⟨hp, by omega, by omega, by omega, by omega⟩
def Small31 (v : Int) : Prop := 0 ≤ v ∧ v ≤ 1000000
theorem mmu_in (u : Mmu) (o : Int) (h : C09.Rt u) : Small31 (C09.got u o).1 := by
  unfold C09.got Small31
  split
  · have := h.2.1
    cases u.on <;> simp <;> omega
  split
  · have := h.2.2; dsimp only; omega
  split
  · split
    · simp
    · rename_i x hx
      obtain ⟨h1, h2, h3⟩ := h.1 x (List.mem_of_getElem? hx)
      dsimp only
      split
      · cases x.written <;> simp <;> omega
      · omega
  · simp
theorem mmu_far (u : Mmu) (o : Int) (h : 80 ≤ o) : C09.got u o = (0, false) := by
  unfold C09.got
  rw [if_neg (by omega), if_neg (by omega), if_neg (by unfold C09.isReg; omega)]
theorem disk_in (k : Disk) (r : Int) (h : C16.RtK k) : Small31 (C16.got16 k r).1 := by
  obtain ⟨h1, h2, h3, h4, _⟩ := h
  unfold C16.got16 Small31 C16.stat16
  split
  · dsimp only; omega
  split
  · dsimp only; omega
  split
  · dsimp only; omega
  split
  · cases k.enable <;> cases k.ready <;> cases k.error <;> simp <;> omega
  · simp
theorem disk_far (k : Disk) (r : Int) (h : 6 < r) : C16.got16 k r = (0, false) := by
  unfold C16.got16
  rw [if_neg (by omega), if_neg (by omega), if_neg (by omega), if_neg (by omega)]
def withL (m : Machine) (n : Nat) (l : Line) : Machine := { m with lines := m.lines.set n l }
/-- what a register is read as -/
structure Got (m : Machine) (g : Machine × Int × Bool) : Prop where
  num : Small31 g.2.1
  at_ : g.1 = m ∨ ∃ n l, n < m.lines.length ∧ C14.Rt l ∧ g.1 = withL m n l
theorem fin2_of {m : Machine} (h : SmM m) : Fin2 m := by
  obtain ⟨h1, h2, h3, h4, h5, h6⟩ := h
  exact ⟨by omega, by omega, by omega, by omega, by omega, by omega⟩
theorem fin2_with {m : Machine} (h : Fin2 m) (n : Nat) (l : Line) : Fin2 (withL m n l) := by
  obtain ⟨h1, h2, h3, h4, h5, h6⟩ := h
  exact ⟨h1, h2, by show (m.lines.set n l).length ≤ _; rw [List.length_set]; exact h3, h4, h5, h6⟩

theorem Wd_def (x : Int) : ref19_word x = some (decide (0 ≤ x ∧ x < 65536)) := by
  simp only [ref19_word, Tref19_word, Tree.run]
  by_cases h : 0 ≤ x <;> simp [h]
theorem Valid_some (x : Int) : ∃ b, ref04_Valid x = some b := by
  simp only [ref04_Valid, Tref04_Valid, Tree.run]
  repeat' split
  all_goals exact ⟨_, rfl⟩
theorem cpu_Right_some (c : Cpu) (h1 : c.r.length = 6) (h2 : c.sP.length = 2) : ∃ b, ref19_Right none c = some b := by
  have hs := lim_scan (f := fun s => (Wref19_Right_0 s).run) (fun i : Nat => ⟨(i : Int), c⟩) 6 (fun i => ∀ x, c.r[i]? = some x → 0 ≤ x ∧ x < 65536) (fun i => .inl (false, c)) (.inr c)
    (fun i hi hp => by
      have hi' : (i : Int) < 6 := by omega
      have h0 : (0 : Int) ≤ (i : Int) := by omega
      have hl : i < c.r.length := by omega
      have hp' := hp c.r[i] (List.getElem?_eq_getElem hl)
      have hw := wrap_succ (show i < 6 by omega) (show 6 ≤ 9223372036854775807 by omega)
      simp only [Wref19_Right_0, Tree.run, hi', h0, decide_true, if_true, Int.toNat_natCast, Nat.mul_one, List.getElem?_eq_getElem hl, Option.bind_some, Wd_def, hp', and_self, Bool.not_true, Bool.false_eq_true, if_false, hw])
    (fun i hi hp => by
      have hi' : (i : Int) < 6 := by omega
      have h0 : (0 : Int) ≤ (i : Int) := by omega
      have hl : i < c.r.length := by omega
      have hp' : ¬ (0 ≤ c.r[i] ∧ c.r[i] < 65536) := fun he => hp fun s hs => by
        rw [List.getElem?_eq_getElem hl] at hs
        rw [← Option.some.inj hs]; exact he
      simp only [Wref19_Right_0, Tree.run, hi', h0, decide_true, if_true, Int.toNat_natCast, Nat.mul_one, List.getElem?_eq_getElem hl, Option.bind_some, Wd_def, hp', decide_false, Bool.not_false])
    (by simp [Wref19_Right_0, Tree.run])
  have hs' : ∃ r, Lref19_Right_0 none ⟨(0 : Int), c⟩ = some r ∧ (r = .inr c ∨ r = .inl (false, c)) := by
    rcases hs with ⟨_, h⟩ | ⟨i, hi, _, h⟩
    · exact ⟨_, h, .inl rfl⟩
    · exact ⟨_, h, .inr rfl⟩
  obtain ⟨r, hr, hrr⟩ := hs'
  obtain ⟨v, hv⟩ := Valid_some c.pSW
  have g0 : c.sP[0]? = some c.sP[0] := List.getElem?_eq_getElem (by omega)
  have g1 : c.sP[1]? = some c.sP[1] := List.getElem?_eq_getElem (by omega)
  simp only [ref19_Right, Tref19_Right, Tree.run, hr, Option.bind_some]
  rcases hrr with rfl | rfl
  · simp only [Sum.isLeft_inr, Bool.false_eq_true, if_false, Sum.getRight?_inr, Option.bind_some, show (0 : Int) ≤ 0 by omega, show (0 : Int) < 2 by omega, show (0 : Int) ≤ 1 by omega, show (1 : Int) < 2 by omega, decide_true, if_true, show ((0 : Int)).toNat * 1 = 0 by rfl, show ((1 : Int)).toNat * 1 = 1 by rfl, g0, g1, Wd_def, hv]
    repeat' split
    all_goals exact ⟨_, rfl⟩
  · exact ⟨_, rfl⟩
theorem fit_def (m : Machine) (hm : gMachine m) : ∃ r, top_fit none m = some r ∧ (r = true → SmM m ∧ RtM m ∧ Fin m) := by
  obtain ⟨r, hr, hs⟩ := Small_def m
  simp only [top_fit, Ttop_fit, Tree.run, hr, Option.bind_some]
  cases r with
  | false => exact ⟨_, rfl, fun h => by cases h⟩
  | true =>
    have hS := hs rfl
    have hp : m.mmu.pages.length = 16 := hm.2.2.2.1.2.1.1
    have hf := fin_of hS hp
    obtain ⟨c, hc⟩ := cpu_Right_some m.cpu hm.1.1.1 hm.1.2.1.1
    have key : ∃ r, ref20_Right none m = some r ∧ (r = true → RtM m) := by
      simp only [ref20_Right, Tref20_Right, Tree.run, ref_RightM_def m hf, Option.bind_some, hc]
      by_cases hR : RtM m
      · simp only [hR, decide_true, if_true]
        repeat' split
        all_goals exact ⟨_, rfl, fun _ => trivial⟩
      · simp only [hR, decide_false, Bool.false_eq_true, if_false]
        repeat' split
        all_goals exact ⟨_, rfl, fun h => by cases h⟩
    obtain ⟨r, e, hr⟩ := key
    simp only [e, Option.bind_some, if_true]
    exact ⟨_, rfl, fun h => ⟨hS, hr h, hf⟩⟩
end Go.Proofs.Ytlaabdpccdnalaa
end
section
set_option linter.unusedSimpArgs false
set_option linter.unusedVariables false
namespace Go.Proofs.Ytlaabdpccdnalaa
open Go Go.Ab
theorem even_def (n : Int) (h0 : 0 ≤ n) (h1 : n ≤ 100000) : image_even n = some (n + n % 2) := by
  simp only [image_even, Timage_even, Tree.run, and1]
  rw [wrap_id (by omega) (by omega)]
def sizeI (x : Image) : Int := (x.text.length : Int) + ((x.data.length : Int) + (x.data.length : Int) % 2) + (x.bss + x.bss % 2)
theorem Size_def (x : Image) (h1 : x.text.length ≤ 400) (h2 : x.data.length ≤ 400) (h3 : 0 ≤ x.bss) (h4 : x.bss ≤ 400) : image_Size x = some (sizeI x) := by
  have c1 : ¬ (0 : Int) > x.bss := by omega
  have c2 : ¬ (32768 : Int) < x.bss := by omega
  simp only [image_Size, Timage_Size, Tree.run, c1, c2, if_false, even_def _ (show (0 : Int) ≤ (x.data.length : Int) by omega) (by omega), even_def _ h3 (by omega), Option.bind_some, sizeI]
  rw [wrap_id (n := (x.text.length : Int) + ((x.data.length : Int) + (x.data.length : Int) % 2)) (by omega) (by omega), wrap_id (by omega) (by omega)]
theorem idx_some (l : List UInt8) (c : Int) : ∃ n, strings_IndexByte l c = some n := ⟨_, rfl⟩
theorem name_step (l : List Int) (i : Nat) (hl : l.length ≤ 100000) (hi : i < l.length) : (Wimage_isName_0 ⟨l, (l.length : Int), (i : Int)⟩).run = some (.inl ⟨l, (l.length : Int), ((i + 1 : Nat) : Int)⟩) ∨ (Wimage_isName_0 ⟨l, (l.length : Int), (i : Int)⟩).run = some (.inr (.inl false)) := by
  obtain ⟨n, hn⟩ := idx_some ([95, 46, 36] : List UInt8) l[i]
  have hi' : (i : Int) < (l.length : Int) := by omega
  have h0 : (0 : Int) ≤ (i : Int) := by omega
  simp only [Wimage_isName_0, Tree.run, hi', h0, decide_true, if_true, Int.toNat_natCast, List.getElem?_eq_getElem hi, Option.bind_some, hn, wrap_succ hi (show l.length ≤ 9223372036854775807 by omega)]
  repeat' split
  all_goals first | exact .inl rfl | exact .inr rfl
theorem isName_some (s : List UInt8) : ∃ b, image_isName none s = some b := by
  simp only [image_isName, Timage_isName, Tree.run]
  by_cases h1 : s = []
  · simp [h1]
  by_cases h2 : (14 : Int) < (s.length : Int)
  · simp [h1, h2]
  have hp : 0 < s.length := by cases s with | nil => exact absurd rfl h1 | cons => simp
  have hg : s[0]? = some s[0] := List.getElem?_eq_getElem hp
  have hloop : ∃ r, Limage_isName_0 none ⟨s.map (fun b => (b.toNat : Int)), ((s.map fun b => (b.toNat : Int)).length : Int), (0 : Int)⟩ = some r ∧ (r = .inr () ∨ r = .inl false) := by
    generalize hL : s.map (fun b => (b.toNat : Int)) = l
    have hl : l.length ≤ 100000 := by rw [← hL, List.length_map]; omega
    have hs := lim_scan (f := fun s => (Wimage_isName_0 s).run) (fun i : Nat => ⟨l, (l.length : Int), (i : Int)⟩) l.length (fun i => (Wimage_isName_0 ⟨l, (l.length : Int), (i : Int)⟩).run = some (.inl ⟨l, (l.length : Int), ((i + 1 : Nat) : Int)⟩)) (fun i => .inl false) (.inr ())
      (fun i hi hp => hp)
      (fun i hi hp => by
        rcases name_step l i hl hi with h | h
        · exact absurd h hp
        · exact h)
      (by simp [Wimage_isName_0, Tree.run])
    rcases hs with ⟨_, h⟩ | ⟨i, hi, _, h⟩
    · exact ⟨_, h, .inl rfl⟩
    · exact ⟨_, h, .inr rfl⟩
  obtain ⟨r, hr, hrr⟩ := hloop
  simp only [h1, h2, decide_false, Bool.false_eq_true, if_false, show (0 : Int) ≤ 0 by omega, decide_true, if_true, show ((0 : Int)).toNat = 0 by rfl, hg, Option.bind_some, hr]
  rcases hrr with rfl | rfl
  · simp only [Sum.isLeft_inr, Bool.false_eq_true, if_false, Sum.getRight?_inr, Option.bind_some]
    repeat' split
    all_goals exact ⟨_, rfl⟩
  · simp only [Sum.isLeft_inl, if_true, Sum.getLeft?_inl, Option.bind_some]
    repeat' split
    all_goals exact ⟨_, rfl⟩
theorem check_step (l : List Symbol) (i : Nat) (hl : l.length ≤ 100000) (hi : i < l.length) : (Wimage_Check_0 none ⟨l, (l.length : Int), (i : Int)⟩).run = some (.inl ⟨l, (l.length : Int), ((i + 1 : Nat) : Int)⟩) ∨ ∃ e, (Wimage_Check_0 none ⟨l, (l.length : Int), (i : Int)⟩).run = some (.inr (.inl e)) ∧ e ≠ 0 := by
  obtain ⟨n, hn⟩ := isName_some l[i].name
  have hi' : (i : Int) < (l.length : Int) := by omega
  have h0 : (0 : Int) ≤ (i : Int) := by omega
  simp only [Wimage_Check_0, Tree.run, hi', h0, decide_true, if_true, Int.toNat_natCast, List.getElem?_eq_getElem hi, Option.bind_some, hn, wrap_succ hi (show l.length ≤ 9223372036854775807 by omega)]
  repeat' split
  all_goals first | exact .inl rfl | exact .inr ⟨_, rfl, by omega⟩
theorem Check_some (x : Image) (h1 : x.text.length ≤ 400) (h2 : x.data.length ≤ 400) (h3 : 0 ≤ x.bss) (h4 : x.bss ≤ 400) (h5 : x.symbols.length ≤ 100000) : ∃ e, image_Check none x = some e ∧ (e = 0 → x.text.length % 2 = 0) := by
  have hloop : ∃ r, Limage_Check_0 none ⟨x.symbols, (x.symbols.length : Int), (0 : Int)⟩ = some r := by
    generalize x.symbols = l at *
    obtain ⟨r, hr, _⟩ := lim_rule (f := fun s => (Wimage_Check_0 none s).run)
      (fun s => ∃ i : Nat, s = ⟨l, (l.length : Int), (i : Int)⟩ ∧ i ≤ l.length) (fun r => True) (fun s => l.length - s.t48.toNat)
      (by
        rintro s ⟨i, rfl, hi⟩
        by_cases hlt : i < l.length
        · rcases check_step l i h5 hlt with h | ⟨e, h, _⟩
          · exact .inr ⟨_, h, ⟨i + 1, rfl, hlt⟩, by simp; omega⟩
          · exact .inl ⟨_, h, trivial⟩
        · have : i = l.length := by omega
          subst this
          exact .inl ⟨.inr (), by simp [Wimage_Check_0, Tree.run], trivial⟩)
      ⟨l, (l.length : Int), (0 : Int)⟩ ⟨0, rfl, Nat.zero_le _⟩
    exact ⟨r, hr⟩
  obtain ⟨r, hr⟩ := hloop
  have ht : ((x.text.length : Int)).tmod 2 = (x.text.length : Int) % 2 := tmod_nn (by omega) _
  simp only [image_Check, Timage_Check, Tree.run, show ¬ (2 : Int) = 0 by omega, decide_false, Bool.false_eq_true, if_false, ht, Size_def x h1 h2 h3 h4, hr, Option.bind_some]
  by_cases hp : (x.text.length : Int) % 2 = 0
  · have hp' : x.text.length % 2 = 0 := by omega
    cases r with
    | inl e =>
      simp only [Sum.isLeft_inl, if_true, Sum.getLeft?_inl, Option.bind_some]
      repeat' split
      all_goals exact ⟨_, rfl, fun _ => hp'⟩
    | inr u =>
      simp only [Sum.isLeft_inr, Bool.false_eq_true, if_false, Sum.getRight?_inr, Option.bind_some]
      repeat' split
      all_goals exact ⟨_, rfl, fun _ => hp'⟩
  · simp only [hp, decide_false, Bool.not_false, if_true]
    exact ⟨_, rfl, fun h => by omega⟩
theorem hit_some (y a b : Int) : ∃ r, image_Load_1 y a b = some r := by
  simp only [image_Load_1, Timage_Load_1, Tree.run]
  repeat' split
  all_goals exact ⟨_, rfl⟩
theorem index_some (l : List Int) (a b : Int) (hl : l.length ≤ 100000) : ∃ k : Int, slices_IndexFunc_int_int none l a b = some (k, l, a, b) ∧ (k = -1 ∨ 0 ≤ k ∧ k < (l.length : Int)) := by
  have hs := lim_scan (f := fun s => (Wslices_IndexFunc_int_int_0 s).run) (fun i : Nat => ⟨(l.length : Int), (i : Int), l, a, b⟩) l.length (fun i => ∀ x, l[i]? = some x → image_Load_1 x a b = some false) (fun i => .inl ((i : Int), l, a, b)) (.inr (l, a, b))
    (fun i hi hp => by
      have hp' := hp l[i] (List.getElem?_eq_getElem hi)
      simp [Wslices_IndexFunc_int_int_0, Tree.run, hi, wrap_succ hi (show l.length ≤ 9223372036854775807 by omega), hp'])
    (fun i hi hp => by
      obtain ⟨r, hr⟩ := hit_some l[i] a b
      have hp' : image_Load_1 l[i] a b = some true := by
        cases r with
        | true => exact hr
        | false => exact absurd (fun x hx => by rw [List.getElem?_eq_getElem hi] at hx; rw [← Option.some.inj hx]; exact hr) hp
      simp [Wslices_IndexFunc_int_int_0, Tree.run, hi, hp'])
    (by simp [Wslices_IndexFunc_int_int_0, Tree.run])
  rcases hs with ⟨_, h⟩ | ⟨i, hi, _, h⟩
  · have h' : Lslices_IndexFunc_int_int_0 none ⟨(l.length : Int), (0 : Int), l, a, b⟩ = some (.inr (l, a, b)) := h
    exact ⟨-1, by simp [slices_IndexFunc_int_int, Tslices_IndexFunc_int_int, Tree.run, h'], .inl rfl⟩
  · have h' : Lslices_IndexFunc_int_int_0 none ⟨(l.length : Int), (0 : Int), l, a, b⟩ = some (.inl ((i : Int), l, a, b)) := h
    exact ⟨i, by simp [slices_IndexFunc_int_int, Tslices_IndexFunc_int_int, Tree.run, h'], .inr (by omega)⟩
theorem delete_some (l : List Int) (a c : Int) (hl : l.length ≤ 100000) : ∃ r, slices_DeleteFunc_int_int none l a c = some r := by
  obtain ⟨k, hk, hkk⟩ := index_some l a c hl
  simp only [slices_DeleteFunc_int_int, Tslices_DeleteFunc_int_int, Tree.run, hk, Option.bind_some]
  by_cases h1 : k = -1
  · simp only [h1, decide_true, if_true]
    exact ⟨_, rfl⟩
  have h2 : 0 ≤ k ∧ k < (l.length : Int) := by rcases hkk with h | h; exact absurd h h1; exact h
  obtain ⟨j, rfl⟩ : ∃ j : Nat, k = (j : Int) := ⟨k.toNat, by omega⟩
  obtain ⟨r, hr, n, b, rfl, hn, hb⟩ := lim_rule (f := fun s => (Wslices_DeleteFunc_int_int_0 s).run)
    (fun s => ∃ (i j : Nat) (b : List Int), s = ⟨(j : Int), (i : Int), b, a, c⟩ ∧ b.length = l.length ∧ j < i ∧ i ≤ l.length)
    (fun r => ∃ (k : Nat) (b : List Int), r = ((k : Int), b, a, c) ∧ k ≤ l.length ∧ b.length = l.length) (fun s => l.length - s.t6.toNat)
    (by
      rintro s ⟨i, j, b, rfl, hb, hji, hi⟩
      by_cases hlt : i < l.length
      · right
        have hib : i < b.length := by omega
        have hjb : j < b.length := by omega
        have hil : (i : Int) < (b.length : Int) := by omega
        have hjl : (j : Int) < (b.length : Int) := by omega
        have hi0 : (0 : Int) ≤ (i : Int) := by omega
        have hj0 : (0 : Int) ≤ (j : Int) := by omega
        have w1 := wrap_succ hib (show b.length ≤ 9223372036854775807 by omega)
        have w2 := wrap_succ hjb (show b.length ≤ 9223372036854775807 by omega)
        obtain ⟨r, hr⟩ := hit_some b[i] a c
        cases r with
        | true =>
          refine ⟨⟨(j : Int), ((i + 1 : Nat) : Int), b, a, c⟩, ?_, ⟨i + 1, j, b, rfl, hb, by omega, hlt⟩, ?_⟩
          · simp only [Wslices_DeleteFunc_int_int_0, Tree.run, hil, hi0, decide_true, if_true, Int.toNat_natCast, List.getElem?_eq_getElem hib, Option.bind_some, hr, Bool.not_true, Bool.false_eq_true, if_false, w1]
          · simp; omega
        | false =>
          refine ⟨⟨((j + 1 : Nat) : Int), ((i + 1 : Nat) : Int), b.set j b[i], a, c⟩, ?_, ⟨i + 1, j + 1, b.set j b[i], rfl, by rw [List.length_set]; exact hb, by omega, hlt⟩, ?_⟩
          · simp only [Wslices_DeleteFunc_int_int_0, Tree.run, hil, hi0, hjl, hj0, decide_true, if_true, Int.toNat_natCast, List.getElem?_eq_getElem hib, List.getElem?_eq_getElem hjb, Option.bind_some, hr, Bool.not_false, w1, w2]
          · simp; omega
      · left
        have hil : ¬ (i : Int) < (b.length : Int) := by omega
        refine ⟨((j : Int), b, a, c), ?_, j, b, rfl, by omega, hb⟩
        simp only [Wslices_DeleteFunc_int_int_0, Tree.run, hil, decide_false, Bool.false_eq_true, if_false])
    ⟨(j : Int), ((j + 1 : Nat) : Int), l, a, c⟩ ⟨j + 1, j, l, rfl, rfl, by omega, by omega⟩
  have hr' : Lslices_DeleteFunc_int_int_0 none ⟨(j : Int), IntKind.wrap .i64 ((j : Int) + 1), l, a, c⟩ = some ((n : Int), b, a, c) := by
    rw [wrap_succ (show j < l.length by omega) (by omega)]; exact hr
  have hlen : (b.take n ++ List.replicate (b.length - n) (0 : Int) ++ b.drop (n + (b.length - n))).length = b.length := by
    simp; omega
  simp only [h1, decide_false, Bool.false_eq_true, if_false, hr', Option.bind_some, show (0 : Int) ≤ (n : Int) by omega, show (n : Int) ≤ ((b.length : Nat) : Int) by omega, decide_true, if_true, Int.toNat_natCast, hlen]
  exact ⟨_, rfl⟩
theorem storeL_far (m : List Int) (a : Int) (s : List UInt8) (h0 : 0 ≤ a) (i : Nat) (h : 2 * (i : Int) + 1 < a ∨ a + (s.length : Int) ≤ 2 * (i : Int)) : (C08.storeL m a s)[i]? = m[i]? := by
  induction s generalizing m a with
  | nil => rfl
  | cons d s ih =>
    simp only [List.length_cons] at h
    rw [C08.storeL, ih (C08.setB m a (d.toNat : Int)) (a + 1) (by omega) (by omega)]
    unfold C08.setB
    rw [List.getElem?_set_ne (by omega)]
theorem outB_take (m : List Int) (a : Int) (n k : Nat) (h : k ≤ n) : C08.outB m a k = (C08.outB m a n).take k := by
  apply List.ext_getElem?
  intro j
  rw [List.getElem?_take]
  by_cases hj : j < k
  · rw [if_pos hj]
    simp [C08.outB, C08.bytesL, hj, show j < n by omega]
  · rw [if_neg hj]
    simp [C08.outB, C08.bytesL, hj]
/-- what is stored -/
def stuff (x : Image) : List UInt8 := x.text ++ x.data ++ List.replicate (sizeI x - ((x.text ++ x.data).length : Int)).toNat 0
theorem stuff_len (x : Image) (h3 : 0 ≤ x.bss) : ((stuff x).length : Int) = sizeI x := by
  simp only [stuff, List.length_append, List.length_replicate, sizeI]
  omega
theorem copies_zero (n : Nat) : copies ([0] : List UInt8) n = List.replicate n 0 := by
  induction n with
  | zero => rfl
  | succ n ih => simp only [copies, ih]; rfl
theorem Load_some (m : Machine) (x : Image) (base : Int) (hR : RtM m) (hf : Fin m) (h1 : x.text.length ≤ 400) (h2 : x.data.length ≤ 400) (h3 : 0 ≤ x.bss) (h4 : x.bss ≤ 400) (h5 : x.symbols.length ≤ 30) (h6 : 0 ≤ base) (h7 : base ≤ 4096) :
    ∃ y e, image_Load none m x base = some (y, e) ∧ (e = 0 → base % 2 = 0 ∧ x.text.length % 2 = 0 ∧ base + sizeI x ≤ 2 * (m.mem.length : Int) ∧ y.mem = C08.storeL m.mem base (stuff x)) := by
  obtain ⟨e, he, hee⟩ := Check_some x h1 h2 h3 h4 (by omega)
  have hw : C08.Words m.mem := ⟨hf.mem, hR.2.2.1.2.1⟩
  have hml := hf.mem
  have ht : base.tmod 2 = base % 2 := tmod_nn h6 _
  have hrep : repF ([0] : List UInt8) (IntKind.wrap .i64 (sizeI x - ((x.text ++ x.data).length : Int))) = some (List.replicate (sizeI x - ((x.text ++ x.data).length : Int)).toNat 0) := by
    have hn : 0 ≤ sizeI x - ((x.text ++ x.data).length : Int) ∧ sizeI x - ((x.text ++ x.data).length : Int) ≤ 1000 := by
      simp only [List.length_append, sizeI]; omega
    rw [wrap_id (by omega) (by omega)]
    unfold repF
    rw [if_pos ⟨hn.1, by omega, by simp only [List.length_cons, List.length_nil]; omega⟩, copies_zero]
  have hsl := stuff_len x h3
  have hsz : 0 ≤ sizeI x ∧ sizeI x ≤ 2000 := by simp only [sizeI]; omega
  have hst := C08.Store_def m.mem base (stuff x) hw
  have hcl : cloneF 8 m.bad = some m.bad := by unfold cloneF; rw [if_pos (by have := hf.bad; omega)]
  obtain ⟨d, hd⟩ := delete_some m.bad base (sizeI x) hf.bad
  have hl1 : x.text.length + x.data.length ≤ 9223372036854775807 := by omega
  have hl2 : (x.text ++ x.data).length + (List.replicate (sizeI x - ((x.text ++ x.data).length : Int)).toNat (0 : UInt8)).length ≤ 9223372036854775807 := by
    simp only [List.length_append, List.length_replicate]; omega
  have hst' : memory_Store none m.mem base (x.text ++ x.data ++ List.replicate (sizeI x - ((x.text ++ x.data).length : Int)).toNat 0) = some (C08.storeM m.mem base (stuff x)) := hst
  simp only [image_Load, Timage_Load, Tree.run, he, Option.bind_some, show ¬ (2 : Int) = 0 by omega, decide_false, Bool.false_eq_true, if_false, ht, Size_def x h1 h2 h3 h4, strings_Repeat, hrep, hl1, hl2, decide_true, if_true, hst', hcl, hd]
  by_cases c0 : e = 0
  · subst c0
    simp only [decide_true, Bool.not_true, Bool.false_eq_true, if_false, show ¬ base < 0 by omega, decide_false]
    by_cases c1 : base % 2 = 0
    · simp only [c1, decide_true, Bool.not_true, Bool.false_eq_true, if_false]
      unfold C08.storeM
      by_cases c2 : C08.Wn m.mem base ((stuff x).length : Int)
      · simp only [c2, if_true, decide_true, Bool.not_true, Bool.false_eq_true, if_false]
        have hin : base + sizeI x ≤ 2 * (m.mem.length : Int) := by
          obtain ⟨_, _, _, k⟩ := c2
          omega
        cases d with
        | inl d =>
          simp only [Sum.isLeft_inl, if_true, Sum.getLeft?_inl, Option.bind_some]
          exact ⟨_, _, rfl, fun _ => ⟨by first | exact c1 | trivial, hee rfl, hin, rfl⟩⟩
        | inr d =>
          simp only [Sum.isLeft_inr, Bool.false_eq_true, if_false, Sum.getRight?_inr, Option.bind_some]
          exact ⟨_, _, rfl, fun _ => ⟨by first | exact c1 | trivial, hee rfl, hin, rfl⟩⟩
      · simp only [c2, if_false, show ¬ (2 : Int) = 0 by omega, decide_false, Bool.not_false, if_true]
        exact ⟨_, _, rfl, fun h => by omega⟩
    · simp only [c1, decide_false, Bool.not_false, if_true]
      exact ⟨_, _, rfl, fun h => by omega⟩
  · simp only [c0, decide_false, Bool.not_false, if_true]
    exact ⟨_, _, rfl, fun h => absurd h c0⟩
theorem images_loop (base : Int) (m y : Machine) (x : Image) (h1 : x.text.length ≤ 400) (h2 : x.data.length ≤ 400) (h3 : 0 ≤ x.bss) (h4 : x.bss ≤ 400) (h6 : 0 ≤ base) (h7 : base ≤ 4096) (hb : base % 2 = 0) (hml : m.mem.length ≤ 100000) (hy : y.mem = C08.storeL m.mem base (stuff x)) :
    Ltop_PartsImages_0 none ⟨base, (0 : Int), m, x, y⟩ = some (.inr ()) := by
  have hsl := stuff_len x h3
  have hsz : 0 ≤ sizeI x ∧ sizeI x ≤ 2000 := by simp only [sizeI]; omega
  have hc := lim_count (f := fun s => (Wtop_PartsImages_0 s).run) (fun i : Nat => ⟨base, (i : Int), m, x, y⟩) m.mem.length (fun i hi => by
    have hi' : (i : Int) < (m.mem.length : Int) := by omega
    have h0 : (0 : Int) ≤ (i : Int) := by omega
    have w1 : IntKind.wrap .i64 (2 * (i : Int)) = 2 * (i : Int) := wrap_id (by omega) (by omega)
    have w2 : IntKind.wrap .i64 (base + sizeI x) = base + sizeI x := wrap_id (by omega) (by omega)
    have w3 := wrap_succ hi (show m.mem.length ≤ 9223372036854775807 by omega)
    have hmi : m.mem[i]? = some m.mem[i] := List.getElem?_eq_getElem hi
    by_cases q1 : 2 * (i : Int) < base
    · have hyi : y.mem[i]? = some m.mem[i] := by rw [hy, storeL_far m.mem base (stuff x) h6 i (.inl (by omega)), hmi]
      simp only [Wtop_PartsImages_0, Tree.run, hi', h0, w1, q1, decide_true, if_true, Int.toNat_natCast, hyi, hmi, Option.bind_some, Bool.not_true, Bool.false_eq_true, if_false, w3]
    · by_cases q2 : base + sizeI x ≤ 2 * (i : Int)
      · have hyi : y.mem[i]? = some m.mem[i] := by rw [hy, storeL_far m.mem base (stuff x) h6 i (.inr (by omega)), hmi]
        simp only [Wtop_PartsImages_0, Tree.run, hi', h0, w1, w2, q1, q2, decide_true, decide_false, if_true, Int.toNat_natCast, hyi, hmi, Option.bind_some, Bool.not_true, Bool.false_eq_true, if_false, w3, Size_def x h1 h2 h3 h4]
      · simp only [Wtop_PartsImages_0, Tree.run, hi', h0, w1, w2, q1, q2, decide_true, decide_false, if_true, Option.bind_some, Bool.false_eq_true, if_false, w3, Size_def x h1 h2 h3 h4]) 0 (Nat.zero_le _)
  have hd : Ltop_PartsImages_0 none ⟨base, (m.mem.length : Int), m, x, y⟩ = some (.inr ()) := lim_done (by simp [Wtop_PartsImages_0, Tree.run])
  exact hc.trans hd
theorem bytes_of (m y : Machine) (x : Image) (base : Int) (all : List UInt8) (hw : C08.Words m.mem) (h6 : 0 ≤ base) (hin : base + ((stuff x).length : Int) ≤ 2 * (m.mem.length : Int)) (hy : y.mem = C08.storeL m.mem base (stuff x)) (ha : all = (stuff x).take all.length) (hal : all.length ≤ (stuff x).length) : memory_Bytes none y.mem base (all.length : Int) = some (all, 0) := by
  have hml := hw.1
  have hyl : y.mem.length = m.mem.length := by rw [hy, C08.storeL_len]
  rw [C08.Bytes_def y.mem base _ (by omega), C08.bytesM, if_pos ⟨h6, by omega, by omega, by omega⟩, Int.toNat_natCast, hy, outB_take _ _ _ _ hal, C08.outB_store m.mem base (stuff x) hw h6 hin, ← ha]
theorem zeros_map (n : Nat) : (List.replicate n (0 : Int)).map (fun x => UInt8.ofNat x.toNat) = List.replicate n (0 : UInt8) := by
  rw [List.map_replicate]; rfl
theorem pf_top_PartsImages (x : Machine × Image × Int × Unit) (h : Gtop_PartsImages x) : top_PartsImages none x.1 x.2.1 x.2.2.1 = some true := by
  obtain ⟨m, x, base, u⟩ := x
  obtain ⟨r, hr, hs⟩ := fit_def m h.1
  simp only [top_PartsImages, Ttop_PartsImages, Tree.run, hr, Option.bind_some]
  cases r with
  | false => rfl
  | true =>
    obtain ⟨hS, hR, hf⟩ := hs rfl
    by_cases q1 : 400 < (x.text.length : Int)
    · simp [q1]
    by_cases q2 : 400 < (x.data.length : Int)
    · simp [q1, q2]
    by_cases q3 : 30 < (x.symbols.length : Int)
    · simp [q1, q2, q3]
    by_cases q4 : x.bss < 0
    · simp [q1, q2, q3, q4]
    by_cases q5 : 400 < x.bss
    · simp [q1, q2, q3, q4, q5]
    by_cases q6 : base < 0
    · simp [q1, q2, q3, q4, q5, q6]
    by_cases q7 : 4096 < base
    · simp [q1, q2, q3, q4, q5, q6, q7]
    obtain ⟨y, e, hL, hLe⟩ := Load_some m x base hR hf (by omega) (by omega) (by omega) (by omega) (by omega) (by omega) (by omega)
    simp only [Bool.not_true, Bool.false_eq_true, if_false, q1, q2, q3, q4, q5, q6, q7, decide_false, hL, Option.bind_some]
    by_cases c0 : e = 0
    · obtain ⟨k1, k2, k3, k4⟩ := hLe c0
      have hw : C08.Words m.mem := ⟨hf.mem, hR.2.2.1.2.1⟩
      have hml := hf.mem
      have hsl := stuff_len x (by omega)
      have hloop := images_loop base m y x (by omega) (by omega) (by omega) (by omega) (by omega) (by omega) k1 hml k4
      have ht : ((x.data.length : Int)).tmod 2 = (x.data.length : Int) % 2 := tmod_nn (by omega) _
      have hyl : (y.mem.length : Int) = (m.mem.length : Int) := by rw [k4, C08.storeL_len]
      have b0 : (0 : Int) ≤ x.bss := by omega
      have b1 : (1 : Int) * x.bss ≤ 281474976710656 := by omega
      simp only [c0, decide_true, Bool.not_true, Bool.false_eq_true, if_false, show ¬ (2 : Int) = 0 by omega, decide_false, ht, b0, b1, if_true, zeros_map, hloop, hyl]
      by_cases c1 : (x.data.length : Int) % 2 = 1
      · have l1 : x.data.length + ([0] : List UInt8).length ≤ 9223372036854775807 := by simp; omega
        have l2 : x.text.length + (x.data ++ ([0] : List UInt8)).length ≤ 9223372036854775807 := by simp; omega
        have l3 : (x.text ++ (x.data ++ ([0] : List UInt8))).length + (List.replicate x.bss.toNat (0 : UInt8)).length ≤ 9223372036854775807 := by simp; omega
        have hle : (x.text ++ (x.data ++ ([0] : List UInt8)) ++ List.replicate x.bss.toNat (0 : UInt8)).length ≤ (stuff x).length := by
          simp only [List.length_append, List.length_replicate, List.length_cons, List.length_nil]
          simp only [sizeI] at hsl
          omega
        have heq : x.text ++ (x.data ++ ([0] : List UInt8)) ++ List.replicate x.bss.toNat (0 : UInt8) = x.text ++ x.data ++ List.replicate (1 + x.bss.toNat) 0 := by
          rw [← List.replicate_append_replicate]
          simp [List.append_assoc]
        have hall : x.text ++ (x.data ++ ([0] : List UInt8)) ++ List.replicate x.bss.toNat (0 : UInt8) = (stuff x).take (x.text ++ (x.data ++ ([0] : List UInt8)) ++ List.replicate x.bss.toNat (0 : UInt8)).length := by
          rw [heq] at hle ⊢
          simp only [stuff, List.length_append, List.length_replicate] at hle ⊢
          rw [List.take_append, List.take_of_length_le (by simp only [List.length_append]; omega), List.take_replicate]
          congr 2
          simp only [List.length_append]
          omega
        have hB := bytes_of m y x base _ hw (by omega) (by omega) k4 hall hle
        simp only [c1, decide_true, if_true, l1, l2, l3, hB, Option.bind_some, Bool.not_true, Bool.false_eq_true, if_false, Sum.isLeft_inr, Sum.getRight?_inr]
      · have l1 : x.text.length + x.data.length ≤ 9223372036854775807 := by omega
        have l3 : (x.text ++ x.data).length + (List.replicate x.bss.toNat (0 : UInt8)).length ≤ 9223372036854775807 := by simp; omega
        have hle : (x.text ++ x.data ++ List.replicate x.bss.toNat (0 : UInt8)).length ≤ (stuff x).length := by
          simp only [List.length_append, List.length_replicate]
          simp only [sizeI] at hsl
          omega
        have hall : x.text ++ x.data ++ List.replicate x.bss.toNat (0 : UInt8) = (stuff x).take (x.text ++ x.data ++ List.replicate x.bss.toNat (0 : UInt8)).length := by
          simp only [stuff, List.length_append, List.length_replicate] at hle ⊢
          rw [List.take_append, List.take_of_length_le (by simp only [List.length_append]; omega), List.take_replicate]
          congr 2
          simp only [List.length_append]
          omega
        have hB := bytes_of m y x base _ hw (by omega) (by omega) k4 hall hle
        simp only [c1, decide_false, Bool.false_eq_true, if_false, decide_true, if_true, l1, l3, hB, Option.bind_some, Bool.not_true, Sum.isLeft_inr, Sum.getRight?_inr]
    · simp [c0]
end Go.Proofs.Ytlaabdpccdnalaa
end
