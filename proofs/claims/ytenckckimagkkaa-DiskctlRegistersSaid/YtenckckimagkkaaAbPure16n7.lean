/- The law DiskctlRegisters holds of the typed functions. -/
import Derived.Test.YtenckckimagkkaaAbLim
import Derived.Laws.BitsLemmas
import Derived.Test.YtenckckimagkkaaAb16
import Derived.Test.YtenckckimagkkaaAbRd16
section
set_option linter.unusedSimpArgs false
namespace Go.Ab
variable {α β : Type}
/-- A loop that looks through numbers for the first that is not good. -/
theorem lim_scan1 {f : α → Option (α ⊕ β)} (s : Nat → α) (n : Nat) (p : Nat → Prop) (bad : Nat → β) (e : β) (h : ∀ i, i < n → p i → f (s i) = some (.inl (s (i + 1)))) (hb : ∀ i, i < n → ¬ p i → f (s i) = some (.inr (bad i))) (he : f (s n) = some (.inr e)) :
    ((∀ i, i < n → p i) ∧ lim f (s 0) = some e) ∨ ∃ i, i < n ∧ (∀ j, j < i → p j) ∧ ¬ p i ∧ lim f (s 0) = some (bad i) := by
  have key : ∀ k, k ≤ n → ((∀ i, n - k ≤ i → i < n → p i) ∧ lim f (s (n - k)) = some e) ∨ ∃ i, n - k ≤ i ∧ i < n ∧ (∀ j, n - k ≤ j → j < i → p j) ∧ ¬ p i ∧ lim f (s (n - k)) = some (bad i) := by
    intro k
    induction k with
    | zero => intro _; exact .inl ⟨fun i h1 h2 => by omega, lim_done he⟩
    | succ k ih =>
      intro hk
      by_cases hp : p (n - (k + 1))
      · have hn := lim_next (h (n - (k + 1)) (by omega) hp)
        rw [show n - (k + 1) + 1 = n - k by omega] at hn
        have hj : ∀ j, n - (k + 1) ≤ j → ¬ n - k ≤ j → p j := fun j h1 h2 => by rw [show j = n - (k + 1) by omega]; exact hp
        rcases ih (by omega) with ⟨h1, h2⟩ | ⟨i, h0, h1, h2, h3, h4⟩
        · refine .inl ⟨fun i hi hlt => ?_, by rw [hn]; exact h2⟩
          by_cases h' : n - k ≤ i
          · exact h1 i h' hlt
          · exact hj i hi h'
        · refine .inr ⟨i, by omega, h1, fun j hj1 hj2 => ?_, h3, by rw [hn]; exact h4⟩
          by_cases h' : n - k ≤ j
          · exact h2 j h' hj2
          · exact hj j hj1 h'
      · exact .inr ⟨n - (k + 1), Nat.le_refl _, by omega, fun j h1 h2 => by omega, hp, lim_done (hb _ (by omega) hp)⟩
  rcases key n (Nat.le_refl n) with ⟨h1, h2⟩ | ⟨i, h0, h1, h2, h3, h4⟩
  · rw [Nat.sub_self] at h2; exact .inl ⟨fun i hi => h1 i (by omega) hi, h2⟩
  · rw [Nat.sub_self] at h4; exact .inr ⟨i, h1, fun j hj => h2 j (by omega) hj, h3, h4⟩
theorem take_one_more {α : Type} {l : List α} {i : Nat} (hi : i < l.length) : l.take (i + 1) = l.take i ++ [l[i]] := by
  rw [List.take_add_one, List.getElem?_eq_getElem hi]; rfl
end Go.Ab
end
section
set_option linter.unusedSimpArgs false
namespace Go.Ab
theorem wrap_id {n : Int} (h1 : -9223372036854775808 ≤ n) (h2 : n ≤ 9223372036854775807) : IntKind.wrap .i64 n = n := by
  rw [IntKind.wrap_i64]; omega
theorem nat_and (a b : Int) : ((BitVec.ofInt 64 a &&& BitVec.ofInt 64 b).toNat : Int) = (((a % 18446744073709551616).toNat &&& (b % 18446744073709551616).toNat : Nat) : Int) := by
  rw [BitVec.toNat_and, BitVec.toNat_ofInt, BitVec.toNat_ofInt]
  rfl
/-- a mask of the lowest bits -/
theorem and_mask (j : Nat) (hj : j ≤ 62) (a : Int) : IntKind.wrap .i64 ((BitVec.ofInt 64 a &&& BitVec.ofInt 64 (2 ^ j - 1)).toNat : Int) = a % 2 ^ j := by
  have hp : (2 : Nat) ^ j ≤ 2 ^ 62 := Nat.pow_le_pow_right (by omega) hj
  have hc : ((2 : Int) ^ j) = ((2 ^ j : Nat) : Int) := by simp
  have h0 : 0 < (2 : Nat) ^ j := Nat.pow_pos (by omega)
  have hd : (2 : Nat) ^ j ∣ 18446744073709551616 := by
    have : (18446744073709551616 : Nat) = 2 ^ 64 := rfl
    rw [this]
    exact Nat.pow_dvd_pow 2 (by omega)
  rw [nat_and]
  have e1 : (((2 : Int) ^ j - 1) % 18446744073709551616).toNat = 2 ^ j - 1 := by
    rw [hc, Int.emod_eq_of_lt (by omega) (by omega)]
    omega
  rw [e1, Nat.and_two_pow_sub_one_eq_mod]
  have e2 : ((a % 18446744073709551616).toNat % 2 ^ j : Nat) = (a % 2 ^ j).toNat := by
    have hn : 0 ≤ a % 18446744073709551616 := Int.emod_nonneg _ (by omega)
    have : (((a % 18446744073709551616).toNat % 2 ^ j : Nat) : Int) = a % 2 ^ j := by
      rw [Int.natCast_emod, Int.toNat_of_nonneg hn, hc]
      exact Int.emod_emod_of_dvd a (Int.natCast_dvd_natCast.2 hd)
    omega
  rw [e2]
  have h1 : 0 ≤ a % 2 ^ j := Int.emod_nonneg _ (by rw [hc]; omega)
  have h2 : a % 2 ^ j < 2 ^ j := Int.emod_lt_of_pos _ (by rw [hc]; omega)
  rw [Int.toNat_of_nonneg h1]
  exact wrap_id (by omega) (by rw [hc] at h2; omega)
theorem and1 (a : Int) : IntKind.wrap .i64 ((BitVec.ofInt 64 a &&& BitVec.ofInt 64 (1 : Int)).toNat : Int) = a % 2 := and_mask 1 (by omega) a
theorem and3 (a : Int) : IntKind.wrap .i64 ((BitVec.ofInt 64 a &&& BitVec.ofInt 64 (3 : Int)).toNat : Int) = a % 4 := and_mask 2 (by omega) a
theorem and7 (a : Int) : IntKind.wrap .i64 ((BitVec.ofInt 64 a &&& BitVec.ofInt 64 (7 : Int)).toNat : Int) = a % 8 := and_mask 3 (by omega) a
theorem and31 (a : Int) : IntKind.wrap .i64 ((BitVec.ofInt 64 a &&& BitVec.ofInt 64 (31 : Int)).toNat : Int) = a % 32 := and_mask 5 (by omega) a
theorem and255 (a : Int) : IntKind.wrap .i64 ((BitVec.ofInt 64 a &&& BitVec.ofInt 64 (255 : Int)).toNat : Int) = a % 256 := and_mask 8 (by omega) a
theorem and4095 (a : Int) : IntKind.wrap .i64 ((BitVec.ofInt 64 a &&& BitVec.ofInt 64 (4095 : Int)).toNat : Int) = a % 4096 := and_mask 12 (by omega) a
theorem and65535 (a : Int) : IntKind.wrap .i64 ((BitVec.ofInt 64 a &&& BitVec.ofInt 64 (65535 : Int)).toNat : Int) = a % 65536 := and_mask 16 (by omega) a
theorem and262143 (a : Int) : IntKind.wrap .i64 ((BitVec.ofInt 64 a &&& BitVec.ofInt 64 (262143 : Int)).toNat : Int) = a % 262144 := and_mask 18 (by omega) a
/-- parts that share no bit are added -/
theorem or_add (j : Nat) (a b : Int) (h0 : 0 ≤ b) (hb : b < 2 ^ j) (ha0 : 0 ≤ a) (ha : a % 2 ^ j = 0) (hs : a + b ≤ 9223372036854775807) : IntKind.wrap .i64 ((BitVec.ofInt 64 a ||| BitVec.ofInt 64 b).toNat : Int) = a + b := by
  rw [BitVec.toNat_or, BitVec.toNat_ofInt, BitVec.toNat_ofInt]
  have e1 : (a % ((2 ^ 64 : Nat) : Int)).toNat = a.toNat := by rw [Int.emod_eq_of_lt ha0 (by omega)]
  have e2 : (b % ((2 ^ 64 : Nat) : Int)).toNat = b.toNat := by rw [Int.emod_eq_of_lt h0 (by omega)]
  rw [e1, e2]
  have hc : ((2 : Int) ^ j) = ((2 ^ j : Nat) : Int) := by simp
  have hm : a.toNat % 2 ^ j = 0 := by
    rw [hc] at ha
    have : ((a.toNat % 2 ^ j : Nat) : Int) = 0 := by rw [Int.natCast_emod, Int.toNat_of_nonneg ha0]; exact ha
    exact Int.ofNat.inj this
  obtain ⟨c, hc'⟩ := Nat.dvd_of_mod_eq_zero hm
  have hlt : b.toNat < 2 ^ j := by rw [hc] at hb; omega
  have : a.toNat ||| b.toNat = a.toNat + b.toNat := by
    rw [hc', Nat.two_pow_add_eq_or_of_lt hlt]
  rw [this]
  rw [wrap_id (by omega) (by omega)]
  omega
theorem or_add' (j : Nat) (a b : Int) (h0 : 0 ≤ a) (ha : a < 2 ^ j) (hb0 : 0 ≤ b) (hb : b % 2 ^ j = 0) (hs : a + b ≤ 9223372036854775807) : IntKind.wrap .i64 ((BitVec.ofInt 64 a ||| BitVec.ofInt 64 b).toNat : Int) = a + b := by
  rw [BitVec.or_comm, or_add j b a h0 ha hb0 hb (by omega)]
  omega
theorem tdiv_nn {a : Int} (h : 0 ≤ a) (b : Int) : a.tdiv b = a / b := Int.tdiv_eq_ediv_of_nonneg h
theorem tmod_nn {a : Int} (h : 0 ≤ a) (b : Int) : a.tmod b = a % b := Int.tmod_eq_emod_of_nonneg h
theorem fdiv_pos (a : Int) {b : Int} (h : 0 ≤ b) : a.fdiv b = a / b := Int.fdiv_eq_ediv_of_nonneg a h
/-- Go's remainder, brought above zero -/
theorem tmod_up (x m : Int) (hm : 0 < m) : (x.tmod m < 0 ∧ x.tmod m + m = x % m) ∨ (0 ≤ x.tmod m ∧ x.tmod m = x % m) := by
  have h1 := Int.emod_nonneg x (show m ≠ 0 by omega)
  have h2 := Int.emod_lt_of_pos x hm
  rw [Int.tmod_eq_emod]
  split
  · right; simp; exact h1
  · left; omega
theorem mask_fix (a m : Int) (hm : 0 < m) : (a % m = a) ↔ (0 ≤ a ∧ a < m) := by
  constructor
  · intro h
    have h1 := Int.emod_nonneg a (show m ≠ 0 by omega)
    have h2 := Int.emod_lt_of_pos a hm
    omega
  · rintro ⟨h1, h2⟩
    exact Int.emod_eq_of_lt h1 h2
end Go.Ab
end
section
set_option linter.unusedSimpArgs false
namespace Go.Ab
theorem nat_and_up (a j k : Nat) : a &&& ((2 ^ j - 1) * 2 ^ k) = (a / 2 ^ k % 2 ^ j) * 2 ^ k := by
  apply Nat.eq_of_testBit_eq
  intro i
  rw [Nat.testBit_and, Nat.testBit_mul_two_pow, Nat.testBit_mul_two_pow, Nat.testBit_mod_two_pow, Nat.testBit_div_two_pow, Nat.testBit_two_pow_sub_one]
  by_cases h : k ≤ i
  · simp [h]
    rw [Bool.and_comm]
  · simp [h]
theorem bv_andNot (x y : BitVec 64) : x &&& ~~~y = x - (x &&& y) := by
  have h : (x &&& ~~~y) + (x &&& y) = x := by
    rw [BitVec.add_eq_or_of_and_eq_zero]
    · ext i hi
      simp
      cases x[i] <;> cases y[i] <;> rfl
    · ext i hi
      simp
      cases x[i] <;> cases y[i] <;> simp
  exact BitVec.eq_sub_iff_add_eq.2 h
/-- bits taken away -/
theorem andNot_sub (a b : Int) (h0 : 0 ≤ a) (h1 : a ≤ 9223372036854775807) : IntKind.wrap .i64 ((BitVec.ofInt 64 a &&& ~~~BitVec.ofInt 64 b).toNat : Int) = a - IntKind.wrap .i64 ((BitVec.ofInt 64 a &&& BitVec.ofInt 64 b).toNat : Int) := by
  rw [bv_andNot]
  have hle : BitVec.ofInt 64 a &&& BitVec.ofInt 64 b ≤ BitVec.ofInt 64 a := by
    rw [BitVec.le_def, BitVec.toNat_and]
    exact Nat.and_le_left
  rw [BitVec.toNat_sub_of_le hle]
  have ha : (BitVec.ofInt 64 a).toNat = a.toNat := by
    rw [BitVec.toNat_ofInt, Int.emod_eq_of_lt h0 (by omega)]
  have hle' := BitVec.le_def.1 hle
  rw [ha] at hle' ⊢
  rw [wrap_id (by omega) (by omega), wrap_id (by omega) (by omega)]
  omega
theorem andNot_mask (j : Nat) (hj : j ≤ 62) (a : Int) (h0 : 0 ≤ a) (h1 : a ≤ 9223372036854775807) : IntKind.wrap .i64 ((BitVec.ofInt 64 a &&& ~~~BitVec.ofInt 64 (2 ^ j - 1)).toNat : Int) = a - a % 2 ^ j := by
  rw [andNot_sub a _ h0 h1, and_mask j hj]
theorem andNot1 (a : Int) (h0 : 0 ≤ a) (h1 : a ≤ 9223372036854775807) : IntKind.wrap .i64 ((BitVec.ofInt 64 a &&& ~~~BitVec.ofInt 64 (1 : Int)).toNat : Int) = a - a % 2 := andNot_mask 1 (by omega) a h0 h1
theorem andNot255 (a : Int) (h0 : 0 ≤ a) (h1 : a ≤ 9223372036854775807) : IntKind.wrap .i64 ((BitVec.ofInt 64 a &&& ~~~BitVec.ofInt 64 (255 : Int)).toNat : Int) = a - a % 256 := andNot_mask 8 (by omega) a h0 h1
theorem andNot65535 (a : Int) (h0 : 0 ≤ a) (h1 : a ≤ 9223372036854775807) : IntKind.wrap .i64 ((BitVec.ofInt 64 a &&& ~~~BitVec.ofInt 64 (65535 : Int)).toNat : Int) = a - a % 65536 := andNot_mask 16 (by omega) a h0 h1
/-- a mask higher up -/
theorem and_up (j k : Nat) (hj : j + k ≤ 62) (a : Int) (h0 : 0 ≤ a) (h1 : a ≤ 9223372036854775807) : IntKind.wrap .i64 ((BitVec.ofInt 64 a &&& BitVec.ofInt 64 ((2 ^ j - 1) * 2 ^ k)).toNat : Int) = a / 2 ^ k % 2 ^ j * 2 ^ k := by
  have hp : (2 : Nat) ^ (j + k) ≤ 2 ^ 62 := Nat.pow_le_pow_right (by omega) hj
  have hpos : 0 < (2 : Nat) ^ j := Nat.pow_pos (by omega)
  have hposk : 0 < (2 : Nat) ^ k := Nat.pow_pos (by omega)
  have hc : ((2 : Int) ^ j - 1) * 2 ^ k = (((2 ^ j - 1) * 2 ^ k : Nat) : Int) := by
    rw [Int.natCast_mul, Int.natCast_sub (by omega)]
    simp
  have hlt : (2 ^ j - 1) * 2 ^ k < 2 ^ 62 := by
    have : (2 ^ j - 1) * 2 ^ k < 2 ^ j * 2 ^ k := Nat.mul_lt_mul_of_pos_right (by omega) hposk
    rw [← Nat.pow_add] at this
    omega
  rw [nat_and, hc, Int.emod_eq_of_lt h0 (by omega), Int.emod_eq_of_lt (by omega) (by omega), Int.toNat_natCast, nat_and_up]
  have e : (((a.toNat / 2 ^ k % 2 ^ j * 2 ^ k : Nat)) : Int) = a / 2 ^ k % 2 ^ j * 2 ^ k := by
    rw [Int.natCast_mul, Int.natCast_emod, Int.natCast_ediv, Int.toNat_of_nonneg h0]
    simp
  rw [e]
  have hm := Int.emod_nonneg (a / 2 ^ k) (show (2 : Int) ^ j ≠ 0 by have := Int.natCast_pos.2 hpos; simp at this; omega)
  apply wrap_id
  · rw [← e]; omega
  · rw [← e]
    have : a.toNat / 2 ^ k % 2 ^ j * 2 ^ k ≤ a.toNat / 2 ^ k * 2 ^ k := Nat.mul_le_mul_right _ (Nat.mod_le _ _)
    have h2 : a.toNat / 2 ^ k * 2 ^ k ≤ a.toNat := Nat.div_mul_le_self _ _
    omega
theorem and65280 (a : Int) (h0 : 0 ≤ a) (h1 : a ≤ 9223372036854775807) : IntKind.wrap .i64 ((BitVec.ofInt 64 a &&& BitVec.ofInt 64 (65280 : Int)).toNat : Int) = a / 256 % 256 * 256 := and_up 8 8 (by omega) a h0 h1
theorem andNot65280 (a : Int) (h0 : 0 ≤ a) (h1 : a ≤ 9223372036854775807) : IntKind.wrap .i64 ((BitVec.ofInt 64 a &&& ~~~BitVec.ofInt 64 (65280 : Int)).toNat : Int) = a - a / 256 % 256 * 256 := by
  rw [andNot_sub a _ h0 h1, and65280 a h0 h1]
end Go.Ab
end
section
set_option linter.unusedSimpArgs false
set_option linter.unusedVariables false
namespace Go.Proofs.Ytenckckimagkkaa
open Go Go.Ab
theorem wrap_succ {i n : Nat} (h : i < n) (hn : n ≤ 9223372036854775807) : IntKind.wrap .i64 ((i : Int) + 1) = ((i + 1 : Nat) : Int) := by rw [wrap_id] <;> omega
/-- the bad sectors: rising, within the drive -/
def BadsD (n : Nat) (bad : List Int) : Prop := ∀ i, (h : i < bad.length) → 0 ≤ bad[i] ∧ bad[i] < (n : Int) ∧ ∀ h' : 0 < i, bad[i - 1] < bad[i]
def GoodD (n : Nat) (bad : List Int) (i : Nat) : Prop := ∀ h : i < bad.length, 0 ≤ bad[i] ∧ bad[i] < (n : Int) ∧ ∀ h' : 0 < i, bad[i - 1] < bad[i]
def lastD (bad : List Int) (i : Nat) : Int := if i = 0 then -1 else bad.getD (i - 1) 0
def GoodD' (n : Nat) (bad : List Int) (i : Nat) : Prop := ∀ h : i < bad.length, lastD bad i < bad[i] ∧ bad[i] < (n : Int)
theorem badsD_iff (n : Nat) (bad : List Int) : (∀ i, i < bad.length → GoodD n bad i) ↔ BadsD n bad := ⟨fun h i hi => h i hi hi, fun h i _ hi => h i hi⟩
theorem badsD_iff' (n : Nat) (bad : List Int) : (∀ i, i < bad.length → GoodD' n bad i) ↔ BadsD n bad := by
  constructor
  · intro h i
    induction i with
    | zero =>
      intro hi
      obtain ⟨h1, h2⟩ := h 0 hi hi
      have h1' : -1 < bad[0] := h1
      exact ⟨by omega, h2, fun h' => absurd h' (by omega)⟩
    | succ i ih =>
      intro hi
      have hi' : i < bad.length := by omega
      obtain ⟨h1, h2⟩ := h (i + 1) hi hi
      have hp := ih hi'
      have hl : lastD bad (i + 1) = bad[i] := by simp [lastD, hi']
      rw [hl] at h1
      exact ⟨by omega, h2, fun _ => h1⟩
  · intro h i hi _
    obtain ⟨h1, h2, h4⟩ := h i hi
    refine ⟨?_, h2⟩
    by_cases h0 : i = 0
    · subst h0; simp [lastD]; omega
    · have hlt : i - 1 < bad.length := by omega
      have := h4 (by omega)
      simp [lastD, h0, hlt]; exact this
def RtV (d : Drive) : Prop := 1 ≤ d.sectors.length ∧ d.sectors.length ≤ 256 ∧ (∀ s ∈ d.sectors, s.length = 128) ∧ BadsD d.sectors.length d.bad
theorem sect_iff (l : List (List UInt8)) : (∀ i, i < l.length → ∀ s, l[i]? = some s → s.length = 128) ↔ ∀ s ∈ l, s.length = 128 := by
  constructor
  · intro h s hs
    obtain ⟨i, hi, he⟩ := List.mem_iff_getElem.1 hs
    exact h i hi s (by rw [List.getElem?_eq_getElem hi, he])
  · intro h i _ s hs
    exact h s (List.mem_of_getElem? hs)
open Classical in
theorem ref_sects (d : Drive) (hl : d.sectors.length ≤ 9223372036854775807) : Lref15_Right_0 none ⟨(0 : Int), d⟩ = some (if ∀ s ∈ d.sectors, s.length = 128 then .inr d else .inl (false, d)) := by
  have hs := lim_scan (f := fun s => (Wref15_Right_0 s).run) (fun i : Nat => ⟨(i : Int), d⟩) d.sectors.length (fun i => ∀ s, d.sectors[i]? = some s → s.length = 128) (fun i => .inl (false, d)) (.inr d)
    (fun i hi hp => by
      have hp' : (d.sectors[i].length : Int) = 128 := by have := hp d.sectors[i] (List.getElem?_eq_getElem hi); omega
      simp [Wref15_Right_0, Tree.run, hi, wrap_succ hi hl, hp'])
    (fun i hi hp => by
      have hp' : ¬ (d.sectors[i].length : Int) = 128 := fun he => hp fun s hs => by
        rw [List.getElem?_eq_getElem hi] at hs
        rw [← Option.some.inj hs]; omega
      simp [Wref15_Right_0, Tree.run, hi, hp'])
    (by simp [Wref15_Right_0, Tree.run])
  rcases hs with ⟨h1, h2⟩ | ⟨i, hi, h1, h2⟩
  · rw [if_pos ((sect_iff _).1 h1)]; exact h2
  · rw [if_neg (fun h => h1 ((sect_iff _).2 h i hi))]; exact h2
open Classical in
theorem drive_sects (d : Drive) (hl : d.sectors.length ≤ 9223372036854775807) : Ldrive_Right_0 none ⟨d.sectors, (d.sectors.length : Int), (0 : Int), d⟩ = some (if ∀ s ∈ d.sectors, s.length = 128 then .inr d else .inl (false, d)) := by
  have hs := lim_scan (f := fun s => (Wdrive_Right_0 s).run) (fun i : Nat => ⟨d.sectors, (d.sectors.length : Int), (i : Int), d⟩) d.sectors.length (fun i => ∀ s, d.sectors[i]? = some s → s.length = 128) (fun i => .inl (false, d)) (.inr d)
    (fun i hi hp => by
      have hp' : (d.sectors[i].length : Int) = 128 := by have := hp d.sectors[i] (List.getElem?_eq_getElem hi); omega
      simp [Wdrive_Right_0, Tree.run, hi, wrap_succ hi hl, hp'])
    (fun i hi hp => by
      have hp' : ¬ (d.sectors[i].length : Int) = 128 := fun he => hp fun s hs => by
        rw [List.getElem?_eq_getElem hi] at hs
        rw [← Option.some.inj hs]; omega
      simp [Wdrive_Right_0, Tree.run, hi, hp'])
    (by simp [Wdrive_Right_0, Tree.run])
  rcases hs with ⟨h1, h2⟩ | ⟨i, hi, h1, h2⟩
  · rw [if_pos ((sect_iff _).1 h1)]; exact h2
  · rw [if_neg (fun h => h1 ((sect_iff _).2 h i hi))]; exact h2
theorem ref_badsD (d : Drive) (hb : d.bad.length ≤ 9223372036854775807) : ∃ r, Lref15_Right_1 none ⟨(0 : Int), d⟩ = some r ∧ (r = .inr () ∧ BadsD d.sectors.length d.bad ∨ r = .inl false ∧ ¬ BadsD d.sectors.length d.bad) := by
  obtain ⟨secs, bad⟩ := d
  dsimp only at hb ⊢
  have hs := lim_scan (f := fun s => (Wref15_Right_1 s).run) (fun i : Nat => ⟨(i : Int), ⟨secs, bad⟩⟩) bad.length (GoodD secs.length bad) (fun i => .inl false) (.inr ())
    (fun i hi hp => by
      obtain ⟨h1, h2, h4⟩ := hp hi
      have h5 : ¬ bad[i] < 0 := by omega
      have h6 : ¬ (secs.length : Int) ≤ bad[i] := by omega
      by_cases h0 : 0 < i
      · have h7 := h4 h0
        have h8 : ¬ bad[i] ≤ bad[i - 1] := by omega
        have h9 : IntKind.wrap .i64 ((i : Int) - 1) = ((i - 1 : Nat) : Int) := by rw [wrap_id] <;> omega
        have h10 : i - 1 < bad.length := by omega
        simp [Wref15_Right_1, Tree.run, hi, wrap_succ hi hb, h5, h6, h0, h9, h10, h8]
      · have h00 : i = 0 := by omega
        subst h00
        simp [Wref15_Right_1, Tree.run, hi, wrap_id (n := 1) (by omega) (by omega), h5, h6])
    (fun i hi hp => by
      by_cases h1 : bad[i] < 0
      · simp [Wref15_Right_1, Tree.run, hi, h1]
      by_cases h2 : (secs.length : Int) ≤ bad[i]
      · simp [Wref15_Right_1, Tree.run, hi, h1, h2]
      by_cases h0 : 0 < i
      · have h10 : i - 1 < bad.length := by omega
        have h9 : IntKind.wrap .i64 ((i : Int) - 1) = ((i - 1 : Nat) : Int) := by rw [wrap_id] <;> omega
        by_cases h4 : bad[i] ≤ bad[i - 1]
        · simp [Wref15_Right_1, Tree.run, hi, h1, h2, h0, h9, h10, h4]
        · exact absurd (fun h => ⟨by omega, by omega, fun _ => by omega⟩) hp
      · exact absurd (fun h => ⟨by omega, by omega, fun h' => absurd h' h0⟩) hp)
    (by simp [Wref15_Right_1, Tree.run])
  rcases hs with ⟨h1, h2⟩ | ⟨i, hi, h1, h2⟩
  · exact ⟨_, h2, .inl ⟨rfl, (badsD_iff _ _).1 h1⟩⟩
  · exact ⟨_, h2, .inr ⟨rfl, fun h => h1 ((badsD_iff _ _).2 h i hi)⟩⟩
theorem drive_badsD (d : Drive) (hb : d.bad.length ≤ 9223372036854775807) : ∃ r, Ldrive_Right_1 none ⟨(-1 : Int), d.bad, (d.bad.length : Int), (0 : Int), d⟩ = some r ∧ (r = .inr () ∧ BadsD d.sectors.length d.bad ∨ r = .inl false ∧ ¬ BadsD d.sectors.length d.bad) := by
  obtain ⟨secs, bad⟩ := d
  dsimp only at hb ⊢
  have hs := lim_scan (f := fun s => (Wdrive_Right_1 s).run) (fun i : Nat => ⟨lastD bad i, bad, (bad.length : Int), (i : Int), ⟨secs, bad⟩⟩) bad.length (GoodD' secs.length bad) (fun i => .inl false) (.inr ())
    (fun i hi hp => by
      obtain ⟨h1, h2⟩ := hp hi
      have h4 : ¬ bad[i] ≤ lastD bad i := by omega
      have h5 : ¬ (secs.length : Int) ≤ bad[i] := by omega
      have h6 : lastD bad (i + 1) = bad[i] := by simp [lastD, hi]
      simp [Wdrive_Right_1, Tree.run, hi, wrap_succ hi hb, h4, h5, h6])
    (fun i hi hp => by
      by_cases h1 : bad[i] ≤ lastD bad i
      · simp [Wdrive_Right_1, Tree.run, hi, h1]
      by_cases h3 : (secs.length : Int) ≤ bad[i]
      · simp [Wdrive_Right_1, Tree.run, hi, h1, h3]
      · exact absurd (fun h => ⟨by omega, by omega⟩) hp)
    (by simp [Wdrive_Right_1, Tree.run])
  rcases hs with ⟨h1, h2⟩ | ⟨i, hi, h1, h2⟩
  · exact ⟨_, h2, .inl ⟨rfl, (badsD_iff' _ _).1 h1⟩⟩
  · exact ⟨_, h2, .inr ⟨rfl, fun h => h1 ((badsD_iff' _ _).2 h i hi)⟩⟩
open Classical in
theorem ref_RightV_def (d : Drive) (hb : d.bad.length ≤ 9223372036854775807) : ref15_Right none d = some (decide (RtV d)) := by
  simp only [ref15_Right, Tref15_Right, Tree.run]
  by_cases h1 : (d.sectors.length : Int) < 1
  · have : ¬ RtV d := fun h => by have := h.1; omega
    simp [h1, this]
  by_cases h2 : 256 < (d.sectors.length : Int)
  · have : ¬ RtV d := fun h => by have := h.2.1; omega
    simp [h1, h2, this]
  simp only [h1, h2, decide_false, Bool.false_eq_true, if_false, ref_sects d (by omega), Option.bind_some]
  by_cases h3 : ∀ s ∈ d.sectors, s.length = 128
  · rw [if_pos h3]
    obtain ⟨r, hr, hc⟩ := ref_badsD d hb
    simp only [Sum.isLeft_inr, Bool.false_eq_true, if_false, Sum.getRight?_inr, Option.bind_some, hr]
    rcases hc with ⟨rfl, h4⟩ | ⟨rfl, h4⟩
    · have : RtV d := ⟨by omega, by omega, h3, h4⟩
      simp [this]
    · have : ¬ RtV d := fun h => h4 h.2.2.2
      simp [this]
  · rw [if_neg h3]
    have : ¬ RtV d := fun h => h3 h.2.2.1
    simp [this]
open Classical in
theorem drive_Right_def (d : Drive) (hb : d.bad.length ≤ 9223372036854775807) : drive_Right none d = some (decide (RtV d)) := by
  simp only [drive_Right, Tdrive_Right, Tree.run]
  by_cases h1 : (d.sectors.length : Int) < 1
  · have : ¬ RtV d := fun h => by have := h.1; omega
    simp [h1, this]
  by_cases h2 : 256 < (d.sectors.length : Int)
  · have : ¬ RtV d := fun h => by have := h.2.1; omega
    simp [h1, h2, this]
  simp only [h1, h2, decide_false, Bool.false_eq_true, if_false, drive_sects d (by omega), Option.bind_some]
  by_cases h3 : ∀ s ∈ d.sectors, s.length = 128
  · rw [if_pos h3]
    obtain ⟨r, hr, hc⟩ := drive_badsD d hb
    simp only [Sum.isLeft_inr, Bool.false_eq_true, if_false, Sum.getRight?_inr, Option.bind_some, hr]
    rcases hc with ⟨rfl, h4⟩ | ⟨rfl, h4⟩
    · have : RtV d := ⟨by omega, by omega, h3, h4⟩
      simp [this]
    · have : ¬ RtV d := fun h => h4 h.2.2.2
      simp [this]
  · rw [if_neg h3]
    have : ¬ RtV d := fun h => h3 h.2.2.1
    simp [this]
/-! ### controllers -/
def RtK (k : Disk) : Prop := (0 ≤ k.command ∧ k.command ≤ 3) ∧ (0 ≤ k.words ∧ k.words ≤ 65535) ∧ (0 ≤ k.addr ∧ k.addr ≤ 65535 ∧ k.addr % 2 = 0) ∧ (0 ≤ k.start ∧ k.start ≤ 65535) ∧ (0 ≤ k.left ∧ k.left ≤ 8) ∧ (k.ready = true ↔ k.left = 0) ∧ (k.left = 0 ∨ ¬ k.command = 0 ∧ ¬ k.words = 0) ∧ RtV k.drive
theorem word16_def (x : Int) : ref16_word x = some (decide (0 ≤ x ∧ x ≤ 65535)) := by
  simp only [ref16_word, Tref16_word, Tree.run]
  by_cases h : 0 ≤ x <;> simp [h]
theorem isWord16_def (x : Int) : diskctl_isWord x = some (decide (0 ≤ x ∧ x ≤ 65535)) := by
  simp only [diskctl_isWord, Tdiskctl_isWord, Tree.run, and65535, mask_fix x 65536 (by omega)]
  rw [Option.some.injEq, decide_eq_decide]
  omega
theorem beq_iff16 (a : Bool) (p : Prop) [Decidable p] : (a == decide p) = decide (a = true ↔ p) := by
  cases a <;> by_cases h : p <;> simp [h]
open Classical in
theorem ref_RightK_def (k : Disk) (hb : k.drive.bad.length ≤ 9223372036854775807) : ref16_Right none k = some (decide (RtK k)) := by
  simp only [ref16_Right, Tref16_Right, Tree.run, word16_def, Option.bind_some, ref_RightV_def k.drive hb, beq_iff16]
  by_cases h1 : k.command < 0
  · have : ¬ RtK k := fun h => by have := h.1; omega
    simp [h1, this]
  by_cases h2 : 3 < k.command
  · have : ¬ RtK k := fun h => by have := h.1; omega
    simp [h1, h2, this]
  by_cases h3 : 0 ≤ k.words ∧ k.words ≤ 65535
  · by_cases h4 : 0 ≤ k.addr ∧ k.addr ≤ 65535
    · by_cases h5 : 0 ≤ k.start ∧ k.start ≤ 65535
      · by_cases h6 : k.addr % 2 = 0
        · by_cases h7 : k.left < 0
          · have : ¬ RtK k := fun h => by have := h.2.2.2.2.1; omega
            simp [h1, h2, h3, h4, h5, h6, h7, this, tmod_nn h4.1]
          by_cases h8 : 8 < k.left
          · have : ¬ RtK k := fun h => by have := h.2.2.2.2.1; omega
            simp [h1, h2, h3, h4, h5, h6, h7, h8, this, tmod_nn h4.1]
          by_cases h9 : k.ready = true ↔ k.left = 0
          · by_cases h10 : k.left = 0
            · have : RtK k ↔ RtV k.drive := ⟨fun h => h.2.2.2.2.2.2.2, fun h => ⟨by omega, h3, ⟨h4.1, h4.2, h6⟩, h5, by omega, h9, .inl h10, h⟩⟩
              simp [h1, h2, h3, h4, h5, h6, h9, h10, this, tmod_nn h4.1]
            · by_cases h11 : k.command = 0
              · have : ¬ RtK k := fun h => by rcases h.2.2.2.2.2.2.1 with h' | h' <;> omega
                have h9' : ¬ k.ready = true := fun h => h10 (h9.1 h)
                simp [h1, h2, h3, h4, h5, h6, h7, h8, h9', h10, h11, this, tmod_nn h4.1]
              · by_cases h12 : k.words = 0
                · have : ¬ RtK k := fun h => by rcases h.2.2.2.2.2.2.1 with h' | h' <;> omega
                  have h9' : ¬ k.ready = true := fun h => h10 (h9.1 h)
                  simp [h1, h2, h4, h5, h6, h7, h8, h9', h10, h11, h12, this, tmod_nn h4.1]
                · have : RtK k ↔ RtV k.drive := ⟨fun h => h.2.2.2.2.2.2.2, fun h => ⟨by omega, h3, ⟨h4.1, h4.2, h6⟩, h5, by omega, h9, .inr ⟨h11, h12⟩, h⟩⟩
                  have h9' : ¬ k.ready = true := fun h => h10 (h9.1 h)
                  simp [h1, h2, h3, h4, h5, h6, h7, h8, h9', h10, h11, h12, this, tmod_nn h4.1]
          · have : ¬ RtK k := fun h => h9 h.2.2.2.2.2.1
            simp [h1, h2, h3, h4, h5, h6, h7, h8, h9, this, tmod_nn h4.1]
        · have : ¬ RtK k := fun h => h6 h.2.2.1.2.2
          simp [h1, h2, h3, h4, h5, h6, this, tmod_nn h4.1]
      · have : ¬ RtK k := fun h => h5 h.2.2.2.1
        simp [h1, h2, h3, h4, h5, this]
    · have : ¬ RtK k := fun h => h4 ⟨h.2.2.1.1, h.2.2.1.2.1⟩
      simp [h1, h2, h3, h4, this]
  · have : ¬ RtK k := fun h => h3 h.2.1
    simp [h1, h2, h3, this]
open Classical in
theorem diskctl_Right_def (k : Disk) (hb : k.drive.bad.length ≤ 9223372036854775807) : diskctl_Right none k = some (decide (RtK k)) := by
  simp only [diskctl_Right, Tdiskctl_Right, Tree.run, isWord16_def, Option.bind_some, drive_Right_def k.drive hb, beq_iff16]
  by_cases hd : RtV k.drive
  · by_cases h1 : k.command < 0
    · have : ¬ RtK k := fun h => by have := h.1; omega
      simp [hd, h1, this]
    by_cases h2 : 3 < k.command
    · have : ¬ RtK k := fun h => by have := h.1; omega
      simp [hd, h1, h2, this]
    by_cases h3 : 0 ≤ k.words ∧ k.words ≤ 65535
    · by_cases h4 : 0 ≤ k.addr ∧ k.addr ≤ 65535
      · by_cases h5 : 0 ≤ k.start ∧ k.start ≤ 65535
        · by_cases h6 : k.addr % 2 = 0
          · have h6' : ¬ k.addr % 2 = 1 := by omega
            by_cases h7 : k.left < 0
            · have : ¬ RtK k := fun h => by have := h.2.2.2.2.1; omega
              simp [hd, h1, h2, h3, h4, h5, h6, h6', h7, this, tmod_nn h4.1]
            by_cases h8 : 8 < k.left
            · have : ¬ RtK k := fun h => by have := h.2.2.2.2.1; omega
              simp [hd, h1, h2, h3, h4, h5, h6, h6', h7, h8, this, tmod_nn h4.1]
            by_cases h9 : k.ready = true ↔ k.left = 0
            · by_cases h10 : k.left = 0
              · have : RtK k := ⟨by omega, h3, ⟨h4.1, h4.2, h6⟩, h5, by omega, h9, .inl h10, hd⟩
                simp [hd, h1, h2, h3, h4, h5, h6, h6', h9, h10, this, tmod_nn h4.1]
              · have h9' : ¬ k.ready = true := fun h => h10 (h9.1 h)
                by_cases h11 : k.command = 0
                · have : ¬ RtK k := fun h => by rcases h.2.2.2.2.2.2.1 with h' | h' <;> omega
                  simp [hd, h1, h2, h3, h4, h5, h6, h6', h7, h8, h9', h10, h11, this, tmod_nn h4.1]
                · by_cases h12 : k.words = 0
                  · have : ¬ RtK k := fun h => by rcases h.2.2.2.2.2.2.1 with h' | h' <;> omega
                    simp [hd, h1, h2, h4, h5, h6, h6', h7, h8, h9', h10, h11, h12, this, tmod_nn h4.1]
                  · have : RtK k := ⟨by omega, h3, ⟨h4.1, h4.2, h6⟩, h5, by omega, h9, .inr ⟨h11, h12⟩, hd⟩
                    simp [hd, h1, h2, h3, h4, h5, h6, h6', h7, h8, h9', h10, h11, h12, this, tmod_nn h4.1]
            · have : ¬ RtK k := fun h => h9 h.2.2.2.2.2.1
              simp [hd, h1, h2, h3, h4, h5, h6, h6', h7, h8, h9, this, tmod_nn h4.1]
          · have h6' : k.addr % 2 = 1 := by omega
            have : ¬ RtK k := fun h => h6 h.2.2.1.2.2
            simp [hd, h1, h2, h3, h4, h5, h6', this, tmod_nn h4.1]
        · have : ¬ RtK k := fun h => h5 h.2.2.2.1
          simp [hd, h1, h2, h3, h4, h5, this]
      · have : ¬ RtK k := fun h => h4 ⟨h.2.2.1.1, h.2.2.1.2.1⟩
        simp [hd, h1, h2, h3, h4, this]
    · have : ¬ RtK k := fun h => h3 h.2.1
      simp [hd, h1, h2, h3, this]
  · have : ¬ RtK k := fun h => hd h.2.2.2.2.2.2.2
    simp [hd, this]
/-! ### registers -/
theorem bit16_def (b : Bool) (n : Int) : diskctl_bit b n = some (if b then n else 0) := by cases b <;> rfl
theorem or_bit16 (a : Int) (b : Bool) (n : Nat) (hn : n ≤ 15) (h0 : 0 ≤ a) (h1 : a ≤ 65535) (ha : a < 2 ^ n) : IntKind.wrap .i64 ((BitVec.ofInt 64 a ||| BitVec.ofInt 64 (if b then ((2 : Int) ^ n) else 0)).toNat : Int) = a + (if b then (2 : Int) ^ n else 0) := by
  have hp : (2 : Int) ^ n ≤ 32768 := by
    have : (2 : Nat) ^ n ≤ 2 ^ 15 := Nat.pow_le_pow_right (by omega) hn
    have e : ((2 : Int) ^ n) = ((2 ^ n : Nat) : Int) := by simp
    rw [e]; omega
  have hpos : 0 < (2 : Int) ^ n := by
    have : 0 < (2 : Nat) ^ n := Nat.pow_pos (by omega)
    have e : ((2 : Int) ^ n) = ((2 ^ n : Nat) : Int) := by simp
    rw [e]; omega
  cases b
  · exact or_add' n a 0 h0 ha (by omega) (by simp) (by omega)
  · exact or_add' n a _ h0 ha (by simp; omega) (by simp) (by simp; omega)
def stat16 (k : Disk) : Int := 2 * k.command + (if k.enable then 64 else 0) + (if k.ready then 128 else 0) + (if k.error then 32768 else 0)
def got16 (k : Disk) (r : Int) : Int × Bool := if r = 2 then (k.words, true) else if r = 4 then (k.addr, true) else if r = 6 then (k.start, true) else if r = 0 then (stat16 k, true) else (0, false)
theorem ref_Read16_def (k : Disk) (r : Int) (hc : 0 ≤ k.command ∧ k.command ≤ 3) : ref16_Read k r = some (got16 k r) := by
  simp only [ref16_Read, Tref16_Read, Tree.run, got16]
  by_cases h2 : r = 2
  · simp [h2]
  by_cases h4 : r = 4
  · simp [h4]
  by_cases h6 : r = 6
  · simp [h6]
  by_cases h0 : r = 0
  · have e0 : IntKind.wrap .i64 (2 * k.command) = 2 * k.command := wrap_id (by omega) (by omega)
    have e1 : IntKind.wrap .i64 (2 * k.command + 64) = 2 * k.command + 64 := wrap_id (by omega) (by omega)
    have e2 : IntKind.wrap .i64 (2 * k.command + 128) = 2 * k.command + 128 := wrap_id (by omega) (by omega)
    have e3 : IntKind.wrap .i64 (2 * k.command + 32768) = 2 * k.command + 32768 := wrap_id (by omega) (by omega)
    have e4 : IntKind.wrap .i64 (2 * k.command + 64 + 128) = 2 * k.command + 64 + 128 := wrap_id (by omega) (by omega)
    have e5 : IntKind.wrap .i64 (2 * k.command + 64 + 32768) = 2 * k.command + 64 + 32768 := wrap_id (by omega) (by omega)
    have e6 : IntKind.wrap .i64 (2 * k.command + 128 + 32768) = 2 * k.command + 128 + 32768 := wrap_id (by omega) (by omega)
    have e7 : IntKind.wrap .i64 (2 * k.command + 64 + 128 + 32768) = 2 * k.command + 64 + 128 + 32768 := wrap_id (by omega) (by omega)
    subst h0
    unfold stat16
    cases k.enable <;> cases k.ready <;> cases k.error <;> simp [e0, e1, e2, e3, e4, e5, e6, e7]
  · simp [h2, h4, h6, h0]
theorem Read16_def (k : Disk) (r : Int) (hc : 0 ≤ k.command ∧ k.command ≤ 3) : diskctl_Read k r = some (got16 k r) := by
  simp only [diskctl_Read, Tdiskctl_Read, Tree.run, bit16_def, Option.bind_some, got16, decide_eq_true_eq]
  by_cases h0 : r = 0
  · have e1 : IntKind.wrap .i64 (k.command * 2 ^ (min ((1 : Int)).toNat 64)) = 2 * k.command := by
      rw [show (2 : Int) ^ (min ((1 : Int)).toNat 64) = 2 by decide, wrap_id (by omega) (by omega)]; omega
    have b6 : (if k.enable = true then (64 : Int) else 0) ≤ 64 ∧ 0 ≤ (if k.enable = true then (64 : Int) else 0) := by split <;> omega
    have b7 : (if k.ready = true then (128 : Int) else 0) ≤ 128 ∧ 0 ≤ (if k.ready = true then (128 : Int) else 0) := by split <;> omega
    have o6 := or_bit16 (2 * k.command) k.enable 6 (by omega) (by omega) (by omega) (show 2 * k.command < 64 by omega)
    rw [show (2 : Int) ^ 6 = 64 by decide] at o6
    have o7 := or_bit16 (2 * k.command + (if k.enable = true then (64 : Int) else 0)) k.ready 7 (by omega) (by omega) (by omega) (show _ < (128 : Int) by omega)
    rw [show (2 : Int) ^ 7 = 128 by decide] at o7
    have o8 := or_bit16 (2 * k.command + (if k.enable = true then (64 : Int) else 0) + (if k.ready = true then (128 : Int) else 0)) k.error 15 (by omega) (by omega) (by omega) (show _ < (32768 : Int) by omega)
    rw [show (2 : Int) ^ 15 = 32768 by decide] at o8
    have h2 : ¬ (0 : Int) = 2 := by omega
    have h4 : ¬ (0 : Int) = 4 := by omega
    have h6 : ¬ (0 : Int) = 6 := by omega
    simp only [h0, if_true, h2, h4, h6, if_false, show (0 : Int) ≤ 1 by omega, e1, o6, o7, o8, stat16]
  · by_cases h2 : r = 2
    · simp [h2]
    by_cases h4 : r = 4
    · simp [h4]
    by_cases h6 : r = 6
    · simp [h6]
    simp [h2, h4, h6, h0]
def nilK : Disk := Disk.mk (Drive.mk [] []) false false false 0 0 0 0 0
def en16 (v : Int) : Bool := !decide (IntKind.wrap .i64 ((BitVec.ofInt 64 v &&& BitVec.ofInt 64 (64 : Int)).toNat : Int) = 0)
def cmd16 (k : Disk) (v : Int) : Disk := if k.ready = true ∧ ¬ v % 2 = 0 then (if ¬ v / 2 % 4 = 0 ∧ ¬ k.words = 0 then { k with enable := en16 v, error := false, command := v / 2 % 4, ready := false, left := 8 } else { k with enable := en16 v, error := false, command := v / 2 % 4 }) else { k with enable := en16 v }
def write16 (k : Disk) (r v : Int) : Disk × Bool := if r = 0 then (cmd16 k v, true) else if r = 2 then (if k.ready then { k with words := v % 65536 } else k, true) else if r = 4 then (if k.ready then { k with addr := v % 65536 - v % 65536 % 2 } else k, true) else if r = 6 then (if k.ready then { k with start := v % 65536 } else k, true) else (nilK, false)
theorem shr1_16 (v : Int) : v.fdiv (2 ^ (min ((1 : Int)).toNat 64)) = v / 2 := by
  rw [show (2 : Int) ^ (min ((1 : Int)).toNat 64) = 2 by decide, fdiv_pos _ (by omega)]
theorem and64 (v : Int) : IntKind.wrap .i64 ((BitVec.ofInt 64 v &&& BitVec.ofInt 64 (64 : Int)).toNat : Int) = v / 64 % 2 * 64 := by
  rw [nat_and]
  have h := nat_and_up (v % 18446744073709551616).toNat 1 6
  have e1 : ((64 : Int) % 18446744073709551616).toNat = (2 ^ 1 - 1) * 2 ^ 6 := by decide
  rw [e1, h]
  have e2 : (2 : Nat) ^ 6 = 64 := by decide
  have e3 : (2 : Nat) ^ 1 = 2 := by decide
  rw [e2, e3, wrap_id (by omega) (by omega)]
  omega
theorem and65534 (v : Int) : IntKind.wrap .i64 ((BitVec.ofInt 64 v &&& BitVec.ofInt 64 (65534 : Int)).toNat : Int) = v % 65536 - v % 2 := by
  rw [nat_and]
  have h := nat_and_up (v % 18446744073709551616).toNat 15 1
  have e1 : ((65534 : Int) % 18446744073709551616).toNat = (2 ^ 15 - 1) * 2 ^ 1 := by decide
  rw [e1, h]
  have e2 : (2 : Nat) ^ 15 = 32768 := by decide
  have e3 : (2 : Nat) ^ 1 = 2 := by decide
  rw [e2, e3, wrap_id (by omega) (by omega)]
  omega
theorem en16_low (v : Int) : en16 (v % 65536) = en16 v := by
  unfold en16
  rw [and64, and64]
  congr 2
  rw [eq_iff_iff]
  omega
theorem cmd16_low (k : Disk) (v : Int) : cmd16 k (v % 65536) = cmd16 k v := by
  unfold cmd16
  rw [en16_low, show v % 65536 % 2 = v % 2 by omega, show v % 65536 / 2 % 4 = v / 2 % 4 by omega]
theorem command16_def (k : Disk) (v : Int) : diskctl_command k v = some (cmd16 k v) := by
  obtain ⟨d, a, b, c, e, f, g, h, i⟩ := k
  simp only [diskctl_command, Tdiskctl_command, Tree.run, cmd16, shr1_16, and1, and3, show (0 : Int) ≤ 1 by omega, decide_true, if_true, decide_eq_true_eq]
  cases b
  · simp [en16]
  · by_cases h1 : v % 2 = 0
    · simp [h1, en16]
    · by_cases h2 : v / 2 % 4 = 0
      · simp [h1, h2, en16]
      · by_cases h3 : f = 0
        · simp [h1, h2, h3, en16]
        · simp [h1, h2, h3, en16]
theorem Write16_def (k : Disk) (r v : Int) : diskctl_Write k r v = some (write16 k r v) := by
  simp only [diskctl_Write, Tdiskctl_Write, Tree.run, command16_def, Option.bind_some, and65535, cmd16_low, write16, decide_eq_true_eq, andNot1 (v % 65536) (by omega) (by omega), nilK]
  by_cases h0 : r = 0
  · simp [h0]
  by_cases h2 : r = 2
  · cases hr : k.ready <;> simp [h2]
  by_cases h4 : r = 4
  · cases hr : k.ready <;> simp [h4]
  by_cases h6 : r = 6
  · cases hr : k.ready <;> simp [h6]
  · simp [h0, h2, h4, h6]
theorem ref_Write16_def (k : Disk) (r v : Int) : ref16_Write k r v = some (write16 k r v) := by
  simp only [ref16_Write, Tref16_Write, Tree.run, and65535, and65534, and1, and3, shr1_16, write16, cmd16, decide_eq_true_eq, nilK, show (0 : Int) ≤ 1 by omega, decide_true, if_true]
  by_cases h0 : r = 0
  · subst h0
    cases hr : k.ready
    · simp [en16]
    · by_cases h1 : v % 2 = 0
      · simp [h1, en16]
      · by_cases h2 : v / 2 % 4 = 0
        · simp [h1, h2, en16]
        · by_cases h3 : k.words = 0
          · simp [h1, h2, h3, en16]
          · simp [h1, h2, h3, en16]
  have e : v % 65536 % 2 = v % 2 := by omega
  by_cases h2 : r = 2
  · cases hr : k.ready <;> simp [h2]
  by_cases h4 : r = 4
  · cases hr : k.ready <;> simp [h4, e]
  by_cases h6 : r = 6
  · cases hr : k.ready <;> simp [h6]
  · simp [h0, h2, h4, h6]
theorem cmd16_right (k : Disk) (v : Int) (h : RtK k) : RtK (cmd16 k v) := by
  obtain ⟨h1, h2, h3, h4, h5, h6, h7, h8⟩ := h
  unfold cmd16
  split
  · rename_i hc
    have hl := h6.1 hc.1
    split
    · rename_i hd
      exact ⟨by dsimp only; omega, h2, h3, h4, by dsimp only; omega, by simp, .inr ⟨hd.1, hd.2⟩, h8⟩
    · exact ⟨by dsimp only; omega, h2, h3, h4, h5, h6, .inl hl, h8⟩
  · exact ⟨h1, h2, h3, h4, h5, h6, h7, h8⟩
theorem write16_right (k : Disk) (r v : Int) (h : RtK k) (hok : (write16 k r v).2 = true) : RtK (write16 k r v).1 := by
  have h0 := h
  obtain ⟨h1, h2, h3, h4, h5, h6, h7, h8⟩ := h
  unfold write16 at hok ⊢
  split
  · exact cmd16_right k v h0
  · split
    · dsimp only
      split
      · rename_i hr
        have hl := h6.1 hr
        exact ⟨h1, by dsimp only; omega, h3, h4, h5, h6, .inl hl, h8⟩
      · exact h0
    · split
      · dsimp only
        split
        · rename_i hr
          have hl := h6.1 hr
          exact ⟨h1, h2, by dsimp only; omega, h4, h5, h6, .inl hl, h8⟩
        · exact h0
      · split
        · dsimp only
          split
          · rename_i hr
            have hl := h6.1 hr
            exact ⟨h1, h2, h3, by dsimp only; omega, h5, h6, .inl hl, h8⟩
          · exact h0
        · rename_i a b c d
          rw [if_neg a, if_neg b, if_neg c, if_neg d] at hok
          cases hok
theorem cmd16_drive (k : Disk) (v : Int) : (cmd16 k v).drive = k.drive := by
  unfold cmd16
  split
  · split <;> rfl
  · rfl
theorem write16_drive (k : Disk) (r v : Int) (hok : (write16 k r v).2 = true) : (write16 k r v).1.drive = k.drive := by
  unfold write16 at hok ⊢
  split
  · exact cmd16_drive k v
  · split
    · dsimp only; split <;> rfl
    · split
      · dsimp only; split <;> rfl
      · split
        · dsimp only; split <;> rfl
        · rename_i a b c d
          rw [if_neg a, if_neg b, if_neg c, if_neg d] at hok
          cases hok
end Go.Proofs.Ytenckckimagkkaa
end
section
set_option linter.unusedSimpArgs false
set_option linter.unusedVariables false
namespace Go.Proofs.Ytenckckimagkkaa.C08
open Go Go.Ab
theorem wrap_succ {i n : Nat} (h : i < n) (hn : n ≤ 9223372036854775807) : IntKind.wrap .i64 ((i : Int) + 1) = ((i + 1 : Nat) : Int) := by rw [wrap_id] <;> omega
def okA (m : List Int) (a : Int) (b : Bool) : Prop := 0 ≤ a ∧ a < 2 * (m.length : Int) ∧ (b = true ∨ a % 2 = 0)
instance (m a b) : Decidable (okA m a b) := by unfold okA; infer_instance
def wordAt (m : List Int) (a : Int) : Int := m.getD (a / 2).toNat 0
def byteAt (m : List Int) (a : Int) : Int := if a % 2 = 0 then wordAt m a % 256 else wordAt m a / 256 % 256
theorem get_word {m : List Int} {a : Int} (h0 : 0 ≤ a) (h1 : a < 2 * (m.length : Int)) : m[(a / 2).toNat]? = some (wordAt m a) := by
  have : (a / 2).toNat < m.length := by omega
  simp [wordAt, this]
theorem wrap2 {m : List Int} (hm : m.length ≤ 100000) : IntKind.wrap .i64 (2 * (m.length : Int)) = 2 * (m.length : Int) := wrap_id (by omega) (by omega)
theorem half {a : Int} (h0 : 0 ≤ a) (h1 : a ≤ 9223372036854775807) : IntKind.wrap .i64 (a.tdiv 2) = a / 2 := by rw [tdiv_nn h0, wrap_id (by omega) (by omega)]
def readM (m bad : List Int) (a : Int) (b : Bool) : Int × Int := if okA m a b then (if a - a % 2 ∈ bad then (0, 9) else (if b then byteAt m a else wordAt m a, 0)) else (0, 1)
/-- the word after a byte is written -/
def putB (w a b : Int) : Int := if a % 2 = 0 then w / 256 * 256 + b else w % 256 + b * 256
def putW (w a : Int) (b : Bool) (v : Int) : Int := if b then putB w a (v % 256) else v % 65536
theorem bits_lo (w b : Int) (h0 : 0 ≤ w) (h1 : w ≤ 65535) (hb : 0 ≤ b ∧ b ≤ 255) : IntKind.wrap .i64 ((BitVec.ofInt 64 (IntKind.wrap .i64 ((BitVec.ofInt 64 w &&& ~~~BitVec.ofInt 64 (255 : Int)).toNat : Int)) ||| BitVec.ofInt 64 b).toNat : Int) = w / 256 * 256 + b := by
  rw [andNot255 w h0 (by omega), or_add 8 _ _ hb.1 (by omega) (by omega) (by omega) (by omega)]
  omega
theorem bits_lo' (w b : Int) (h0 : 0 ≤ w) (h1 : w ≤ 65535) (hb : 0 ≤ b ∧ b ≤ 255) : IntKind.wrap .i64 ((BitVec.ofInt 64 (IntKind.wrap .i64 ((BitVec.ofInt 64 w &&& BitVec.ofInt 64 (65280 : Int)).toNat : Int)) ||| BitVec.ofInt 64 b).toNat : Int) = w / 256 * 256 + b := by
  rw [and65280 w h0 (by omega), or_add 8 _ _ hb.1 (by omega) (by omega) (by omega) (by omega)]
  omega
theorem bits_hi (w b : Int) (h0 : 0 ≤ w) (h1 : w ≤ 65535) (hb : 0 ≤ b ∧ b ≤ 255) : IntKind.wrap .i64 ((BitVec.ofInt 64 (IntKind.wrap .i64 ((BitVec.ofInt 64 w &&& ~~~BitVec.ofInt 64 (65280 : Int)).toNat : Int)) ||| BitVec.ofInt 64 (b * 256)).toNat : Int) = w % 256 + b * 256 := by
  rw [andNot65280 w h0 (by omega), show w - w / 256 % 256 * 256 = w % 256 by omega, or_add' 8 _ _ (by omega) (by omega) (by omega) (by omega) (by omega)]
theorem bits_hi' (w b : Int) (h0 : 0 ≤ w) (h1 : w ≤ 65535) (hb : 0 ≤ b ∧ b ≤ 255) : IntKind.wrap .i64 ((BitVec.ofInt 64 (IntKind.wrap .i64 ((BitVec.ofInt 64 w &&& BitVec.ofInt 64 (255 : Int)).toNat : Int)) ||| BitVec.ofInt 64 (b * 256)).toNat : Int) = w % 256 + b * 256 := by
  rw [and255, or_add' 8 _ _ (by omega) (by omega) (by omega) (by omega) (by omega)]
theorem bits_w (w v : Int) (h0 : 0 ≤ w) (h1 : w ≤ 65535) (hv : 0 ≤ v ∧ v ≤ 65535) : IntKind.wrap .i64 ((BitVec.ofInt 64 (IntKind.wrap .i64 ((BitVec.ofInt 64 w &&& ~~~BitVec.ofInt 64 (65535 : Int)).toNat : Int)) ||| BitVec.ofInt 64 v).toNat : Int) = v := by
  rw [andNot65535 w h0 (by omega), show w - w % 65536 = 0 by omega, or_add 16 _ _ hv.1 (by omega) (by omega) (by omega) (by omega)]
  omega
/-- a byte is put into memory -/
def setB (m : List Int) (a b : Int) : List Int := m.set (a / 2).toNat (putB (wordAt m a) a b)
def Words (m : List Int) : Prop := m.length ≤ 100000 ∧ ∀ w ∈ m, 0 ≤ w ∧ w ≤ 65535
theorem word_in {m : List Int} (hm : Words m) {a : Int} (h0 : 0 ≤ a) (h1 : a < 2 * (m.length : Int)) : 0 ≤ wordAt m a ∧ wordAt m a ≤ 65535 := hm.2 _ (List.mem_of_getElem? (get_word h0 h1))
theorem copied_def (m : List Int) (hm : m.length ≤ 100000) : memory_copied m = some m := by
  simp [memory_copied, Tmemory_copied, Tree.run]
  omega
/-- the bad addresses without one -/
def without (bad : List Int) (c : Int) : List Int := bad.filter fun y => decide (y ≠ c)
theorem without_more {l : List Int} {c : Int} {i : Nat} (hi : i < l.length) : without (l.take (i + 1)) c = without (l.take i) c ++ (if l[i] = c then [] else [l[i]]) := by
  rw [take_one_more hi]
  unfold without
  rw [List.filter_append]
  by_cases he : l[i] = c <;> simp [he]
theorem without_take_eq {l : List Int} {c : Int} {k : Nat} (h : ∀ i, i < k → l[i]? ≠ some c) : without (l.take k) c = l.take k := by
  unfold without
  rw [List.filter_eq_self]
  intro y hy
  obtain ⟨i, hi, he⟩ := List.mem_iff_getElem.1 hy
  rw [List.getElem_take] at he
  have hlt : i < k := by rw [List.length_take] at hi; omega
  have := h i hlt
  rw [List.getElem?_eq_getElem (by rw [List.length_take] at hi; omega), he] at this
  simp at this ⊢
  exact this
/-- memory after an access that writes -/
def writeM (m bad : List Int) (a : Int) (b : Bool) (v : Int) : List Int × List Int × Int := if okA m a b then (m.set (a / 2).toNat (putW (wordAt m a) a b v), without bad (a - a % 2), 0) else ([], [], 1)
def Bads (n : Nat) (bad : List Int) : Prop := ∀ i, (h : i < bad.length) → 0 ≤ bad[i] ∧ bad[i] < 2 * (n : Int) ∧ bad[i] % 2 = 0 ∧ ∀ h' : 0 < i, bad[i - 1] < bad[i]
def Sized (n : Int) : Prop := 256 ≤ n ∧ n ≤ 32768 ∧ n % 64 = 0
instance (n) : Decidable (Sized n) := by unfold Sized; infer_instance
def Rt (m bad : List Int) : Prop := Sized (2 * (m.length : Int)) ∧ (∀ w ∈ m, 0 ≤ w ∧ w ≤ 65535) ∧ Bads m.length bad
theorem Size_def (n : Int) : ref08_Size n = some (decide (Sized n)) := by
  simp only [ref08_Size, Tref08_Size, Tree.run]
  by_cases h0 : 0 ≤ n
  · rw [tmod_nn h0]
    simp only [decide_eq_true_eq, show ¬ (64 : Int) = 0 by omega, if_false]
    repeat' split
    all_goals (rw [Option.some.injEq]; first | (symm; rw [decide_eq_false_iff_not]; unfold Sized; omega) | (rw [decide_eq_decide]; unfold Sized; omega))
  · have : ¬ Sized n := fun h => h0 (by have := h.1; omega)
    simp [this]; omega
theorem words_iff (m : List Int) : (∀ i, i < m.length → ∀ y, m[i]? = some y → 0 ≤ y ∧ y ≤ 65535) ↔ ∀ w ∈ m, 0 ≤ w ∧ w ≤ 65535 := by
  constructor
  · intro h w hw
    obtain ⟨i, hi, he⟩ := List.mem_iff_getElem.1 hw
    exact h i hi w (by rw [List.getElem?_eq_getElem hi, he])
  · intro h i hi y hy
    exact h y (List.mem_of_getElem? hy)
theorem ref_words (m bad : List Int) (hm : m.length ≤ 100000) : Lref08_Right_0 none ⟨m, bad, (0 : Int)⟩ = some (if ∀ w ∈ m, 0 ≤ w ∧ w ≤ 65535 then .inr (m, bad) else .inl (m, bad, false)) := by
  have hs := lim_scan (f := fun s => (Wref08_Right_0 s).run) (fun i : Nat => ⟨m, bad, (i : Int)⟩) m.length (fun i => ∀ y, m[i]? = some y → 0 ≤ y ∧ y ≤ 65535) (fun i => .inl (m, bad, false)) (.inr (m, bad))
    (fun i hi hp => by
      have hp' := hp m[i] (List.getElem?_eq_getElem hi)
      have h1 : ¬ m[i] < 0 := by omega
      have h2 : ¬ 65535 < m[i] := by omega
      simp [Wref08_Right_0, Tree.run, hi, wrap_succ hi (show m.length ≤ 9223372036854775807 by omega), h1, h2])
    (fun i hi hp => by
      have hp' : ¬ (0 ≤ m[i] ∧ m[i] ≤ 65535) := fun h => hp fun y hy => by
        rw [List.getElem?_eq_getElem hi] at hy
        rw [← Option.some.inj hy]; exact h
      by_cases h1 : m[i] < 0
      · simp [Wref08_Right_0, Tree.run, hi, h1]
      · have h2 : 65535 < m[i] := by omega
        simp [Wref08_Right_0, Tree.run, hi, h1, h2])
    (by simp [Wref08_Right_0, Tree.run])
  rcases hs with ⟨h1, h2⟩ | ⟨i, hi, h1, h2⟩
  · rw [if_pos ((words_iff m).1 h1)]; exact h2
  · rw [if_neg fun h => h1 ((words_iff m).2 h i hi)]; exact h2
/-- a bad address in its place -/
def GoodAt (n : Nat) (bad : List Int) (i : Nat) : Prop := ∀ h : i < bad.length, 0 ≤ bad[i] ∧ bad[i] < 2 * (n : Int) ∧ bad[i] % 2 = 0 ∧ ∀ h' : 0 < i, bad[i - 1] < bad[i]
def lastOf (bad : List Int) (i : Nat) : Int := if i = 0 then -1 else bad.getD (i - 1) 0
def GoodAt' (n : Nat) (bad : List Int) (i : Nat) : Prop := ∀ h : i < bad.length, lastOf bad i < bad[i] ∧ bad[i].tmod 2 = 0 ∧ bad[i] < 2 * (n : Int)
theorem bads_iff (n : Nat) (bad : List Int) : (∀ i, i < bad.length → GoodAt n bad i) ↔ Bads n bad := ⟨fun h i hi => h i hi hi, fun h i _ hi => h i hi⟩
theorem bads_iff' (n : Nat) (bad : List Int) : (∀ i, i < bad.length → GoodAt' n bad i) ↔ Bads n bad := by
  constructor
  · intro h i
    induction i with
    | zero =>
      intro hi
      obtain ⟨h1, h2, h3⟩ := h 0 hi hi
      have h1' : -1 < bad[0] := h1
      rw [tmod_nn (by omega)] at h2
      exact ⟨by omega, h3, h2, fun h' => absurd h' (by omega)⟩
    | succ i ih =>
      intro hi
      have hi' : i < bad.length := by omega
      obtain ⟨h1, h2, h3⟩ := h (i + 1) hi hi
      have hp := ih hi'
      have hl : lastOf bad (i + 1) = bad[i] := by simp [lastOf, hi']
      rw [hl] at h1
      rw [tmod_nn (by omega)] at h2
      exact ⟨by omega, h3, h2, fun _ => h1⟩
  · intro h i hi _
    obtain ⟨h1, h2, h3, h4⟩ := h i hi
    refine ⟨?_, by rw [tmod_nn h1]; exact h3, h2⟩
    by_cases h0 : i = 0
    · subst h0; simp [lastOf]; omega
    · have hlt : i - 1 < bad.length := by omega
      have := h4 (by omega)
      simp [lastOf, h0, hlt]; exact this
theorem ref_bads (m bad : List Int) (hm : m.length ≤ 100000) (hb : bad.length ≤ 100000) : ∃ r, Lref08_Right_1 none ⟨m, bad, (0 : Int)⟩ = some r ∧ (r = .inr () ∧ Bads m.length bad ∨ r = .inl false ∧ ¬ Bads m.length bad) := by
  have hs := lim_scan (f := fun s => (Wref08_Right_1 s).run) (fun i : Nat => ⟨m, bad, (i : Int)⟩) bad.length (GoodAt m.length bad) (fun i => .inl false) (.inr ())
    (fun i hi hp => by
      obtain ⟨h1, h2, h3, h4⟩ := hp hi
      have h5 : ¬ bad[i] < 0 := by omega
      have h6 : ¬ 2 * (m.length : Int) ≤ bad[i] := by omega
      by_cases h0 : 0 < i
      · have h7 := h4 h0
        have h8 : ¬ bad[i] ≤ bad[i - 1] := by omega
        have h9 : IntKind.wrap .i64 ((i : Int) - 1) = ((i - 1 : Nat) : Int) := by rw [wrap_id] <;> omega
        have h10 : i - 1 < bad.length := by omega
        simp [Wref08_Right_1, Tree.run, hi, wrap_succ hi (show bad.length ≤ 9223372036854775807 by omega), h5, wrap2 hm, h6, tmod_nn h1, h3, h0, h9, h10, h8]
      · have h00 : i = 0 := by omega
        subst h00
        simp [Wref08_Right_1, Tree.run, hi, wrap_id (n := 1) (by omega) (by omega), h5, wrap2 hm, h6, tmod_nn h1, h3])
    (fun i hi hp => by
      by_cases h1 : bad[i] < 0
      · simp [Wref08_Right_1, Tree.run, hi, h1]
      by_cases h2 : 2 * (m.length : Int) ≤ bad[i]
      · simp [Wref08_Right_1, Tree.run, hi, h1, wrap2 hm, h2]
      by_cases h3 : bad[i] % 2 = 0
      · by_cases h0 : 0 < i
        · have h10 : i - 1 < bad.length := by omega
          have h9 : IntKind.wrap .i64 ((i : Int) - 1) = ((i - 1 : Nat) : Int) := by rw [wrap_id] <;> omega
          by_cases h4 : bad[i] ≤ bad[i - 1]
          · simp [Wref08_Right_1, Tree.run, hi, h1, wrap2 hm, h2, tmod_nn (show 0 ≤ bad[i] by omega), h3, h0, h9, h10, h4]
          · exact absurd (fun h => ⟨by omega, by omega, h3, fun _ => by omega⟩) hp
        · exact absurd (fun h => ⟨by omega, by omega, h3, fun h' => absurd h' h0⟩) hp
      · simp [Wref08_Right_1, Tree.run, hi, h1, wrap2 hm, h2, tmod_nn (show 0 ≤ bad[i] by omega), h3])
    (by simp [Wref08_Right_1, Tree.run])
  rcases hs with ⟨h1, h2⟩ | ⟨i, hi, h1, h2⟩
  · exact ⟨_, h2, .inl ⟨rfl, (bads_iff _ _).1 h1⟩⟩
  · exact ⟨_, h2, .inr ⟨rfl, fun h => h1 ((bads_iff _ _).2 h i hi)⟩⟩
open Classical in
theorem ref_Right_def (m bad : List Int) (hm : m.length ≤ 100000) (hb : bad.length ≤ 100000) : ref08_Right none m bad = some (decide (Rt m bad)) := by
  obtain ⟨r, hr, hc⟩ := ref_bads m bad hm hb
  simp only [ref08_Right, Tref08_Right, Tree.run, wrap2 hm, Size_def, Option.bind_some, ref_words m bad hm]
  by_cases h1 : Sized (2 * (m.length : Int))
  · by_cases h2 : ∀ w ∈ m, 0 ≤ w ∧ w ≤ 65535
    · rw [if_pos h2]
      rcases hc with ⟨e, h3⟩ | ⟨e, h3⟩
      · simp [h1, hr, e, Rt, h3]; exact h2
      · simp [h1, hr, e, Rt, h3]
    · rw [if_neg h2]
      have : ¬ Rt m bad := fun h => h2 h.2.1
      simp [h1, this]
  · have : ¬ Rt m bad := fun h => h1 h.1
    simp [h1, this]
/-- a range within memory -/
def Wn (m : List Int) (a n : Int) : Prop := 0 ≤ a ∧ 0 ≤ n ∧ a ≤ 2 * (m.length : Int) ∧ n ≤ 2 * (m.length : Int) - a
instance (m a n) : Decidable (Wn m a n) := by unfold Wn; infer_instance
theorem within_def (m : List Int) (a n : Int) (hm : m.length ≤ 100000) : memory_within m a n = some (decide (Wn m a n)) := by
  simp only [memory_within, Tmemory_within, Tree.run, wrap2 hm, decide_eq_true_eq]
  by_cases h0 : 0 ≤ a
  · by_cases h1 : 0 ≤ n
    · by_cases h2 : a ≤ 2 * (m.length : Int)
      · rw [if_pos h0, if_pos h1, if_pos h2, wrap_id (by omega) (by omega), Option.some.injEq, decide_eq_decide]
        unfold Wn; omega
      · have : ¬ Wn m a n := fun h => h2 h.2.2.1
        simp [h0, h1, h2, this]
    · have : ¬ Wn m a n := fun h => h1 h.2.1
      simp [h0, h1, this]
  · have : ¬ Wn m a n := fun h => h0 h.1
    simp [h0, this]
theorem up_def {a : Int} (h0 : 0 ≤ a) : IntKind.wrap .i64 (a.tmod 2 * 8) = if a % 2 = 0 then 0 else 8 := by
  rw [tmod_nn h0, wrap_id (by omega) (by omega)]
  split <;> omega
theorem shr_byte (m : List Int) {a : Int} (h0 : 0 ≤ a) : IntKind.wrap .u8 ((wordAt m a).fdiv (2 ^ (min (IntKind.wrap .i64 (a.tmod 2 * 8)).toNat 64))) = byteAt m a := by
  rw [IntKind.wrap_u8, up_def h0, byteAt]
  split
  · rw [show (2 : Int) ^ (min ((0 : Int)).toNat 64) = 1 by decide, fdiv_pos _ (by omega), Int.ediv_one]
  · rw [show (2 : Int) ^ (min ((8 : Int)).toNat 64) = 256 by decide, fdiv_pos _ (by omega)]
theorem byteAt_in (m : List Int) (a : Int) : 0 ≤ byteAt m a ∧ byteAt m a ≤ 255 := by
  unfold byteAt
  split <;> omega
def bytesL (m : List Int) (a : Int) (n : Nat) : List Int := (List.range n).map fun i => byteAt m (a + (i : Nat))
theorem bytesL_succ (m : List Int) (a : Int) (n : Nat) : bytesL m a (n + 1) = bytesL m a n ++ [byteAt m (a + (n : Nat))] := by
  simp [bytesL, List.range_succ]
theorem bytesL_len (m : List Int) (a : Int) (n : Nat) : (bytesL m a n).length = n := by simp [bytesL]
def outB (m : List Int) (a : Int) (n : Nat) : List UInt8 := (bytesL m a n).map fun x => UInt8.ofNat x.toNat
theorem outB_len (m : List Int) (a : Int) (n : Nat) : (outB m a n).length = n := by simp [outB, bytesL]
def bytesM (m : List Int) (a n : Int) : List UInt8 × Int := if Wn m a n then (outB m a n.toNat, 0) else ([], 2)
theorem Bytes_loop (m : List Int) (a : Int) (n : Nat) (hm : m.length ≤ 100000) (h : Wn m a n) : Lmemory_Bytes_0 none ⟨m, a, (n : Int), (0 : Int), List.replicate n (0 : Int)⟩ = some (bytesL m a n) := by
  obtain ⟨h0, h1, h2, h3⟩ := h
  have hc := lim_count (f := fun s => (Wmemory_Bytes_0 s).run) (fun i : Nat => ⟨m, a, (n : Int), (i : Int), bytesL m a i ++ List.replicate (n - i) (0 : Int)⟩) n (fun i hi => by
    have e1 : IntKind.wrap .i64 (a + (i : Int)) = a + (i : Int) := wrap_id (by omega) (by omega)
    have h4 : 0 ≤ a + (i : Int) := by omega
    have h5 : 0 ≤ (a + (i : Int)) / 2 := by omega
    have h6 : 0 ≤ IntKind.wrap .i64 ((a + (i : Int)).tmod 2 * 8) := by rw [up_def h4]; split <;> omega
    have h7 : (i : Int) < ((bytesL m a i ++ List.replicate (n - i) (0 : Int)).length : Int) := by
      simp [bytesL_len]; omega
    have h8 : (bytesL m a i ++ List.replicate (n - i) (0 : Int))[((i : Int)).toNat]? = some 0 := by
      rw [Int.toNat_natCast, List.getElem?_append_right (by rw [bytesL_len]; omega), bytesL_len, Nat.sub_self, List.getElem?_replicate]
      simp; omega
    have h8' : (bytesL m a i ++ List.replicate (n - i) (0 : Int))[i]? = some 0 := h8
    have h9 : (bytesL m a i ++ List.replicate (n - i) (0 : Int)).set i (byteAt m (a + (i : Int))) = bytesL m a (i + 1) ++ List.replicate (n - (i + 1)) (0 : Int) := by
      rw [List.set_append_right (h := by rw [bytesL_len]; omega), bytesL_len, Nat.sub_self, bytesL_succ, show n - i = (n - (i + 1)) + 1 by omega, List.replicate_succ]
      simp
    have hi' : (i : Int) < (n : Int) := by omega
    have h10 : (0 : Int) ≤ (i : Int) := by omega
    simp only [Wmemory_Bytes_0, Tree.run, e1, half h4 (by omega), get_word h4 (show a + (i : Int) < 2 * (m.length : Int) by omega), shr_byte m h4, wrap_succ hi (show n ≤ 9223372036854775807 by omega), hi', h10, h5, h6, h7, h8, decide_true, if_true, show ¬ (2 : Int) = 0 by omega, decide_false, Bool.false_eq_true, if_false, Option.bind_some, Int.toNat_natCast, h8', h9]) 0 (Nat.zero_le _)
  have hd : Lmemory_Bytes_0 none ⟨m, a, (n : Int), ((n : Nat) : Int), bytesL m a n ++ List.replicate (n - n) (0 : Int)⟩ = some (bytesL m a n ++ List.replicate (n - n) (0 : Int)) := lim_done (by simp [Wmemory_Bytes_0, Tree.run])
  have he : Lmemory_Bytes_0 none ⟨m, a, (n : Int), (0 : Int), bytesL m a 0 ++ List.replicate (n - 0) (0 : Int)⟩ = some (bytesL m a n ++ List.replicate (n - n) (0 : Int)) := hc.trans hd
  simpa [bytesL] using he
theorem Bytes_def (m : List Int) (a n : Int) (hm : m.length ≤ 100000) : memory_Bytes none m a n = some (bytesM m a n) := by
  simp only [memory_Bytes, Tmemory_Bytes, Tree.run, within_def m a n hm, Option.bind_some, bytesM]
  by_cases h : Wn m a n
  · obtain ⟨h0, h1, h2, h3⟩ := id h
    have hl := Bytes_loop m a n.toNat hm (by rw [Int.toNat_of_nonneg h1]; exact h)
    have h4 : (1 : Int) * n ≤ 281474976710656 := by omega
    simp only [h, decide_true, Bool.not_true, Bool.false_eq_true, if_false, if_true, h1, h4, List.length_replicate, hl, Option.bind_some, outB]
  · simp [h]
def storeL : List Int → Int → List UInt8 → List Int
  | m, _, [] => m
  | m, a, c :: s => storeL (setB m a (c.toNat : Int)) (a + 1) s
theorem storeL_more (m : List Int) (a : Int) (s : List UInt8) (c : UInt8) : storeL m a (s ++ [c]) = setB (storeL m a s) (a + (s.length : Int)) (c.toNat : Int) := by
  induction s generalizing m a with
  | nil => simp [storeL]
  | cons d s ih =>
    simp only [List.cons_append, storeL, ih, List.length_cons]
    congr 1
    omega
theorem setB_len (m : List Int) (a b : Int) : (setB m a b).length = m.length := by simp [setB]
theorem storeL_len (m : List Int) (a : Int) (s : List UInt8) : (storeL m a s).length = m.length := by
  induction s generalizing m a with
  | nil => rfl
  | cons d s ih => rw [storeL, ih, setB_len]
theorem setB_words {m : List Int} {a b : Int} (hm : Words m) (h0 : 0 ≤ a) (h1 : a < 2 * (m.length : Int)) (hb : 0 ≤ b ∧ b ≤ 255) : Words (setB m a b) := by
  refine ⟨by rw [setB_len]; exact hm.1, fun w hw => ?_⟩
  rcases List.mem_or_eq_of_mem_set hw with h | h
  · exact hm.2 w h
  · have := word_in hm h0 h1
    rw [h]; unfold putB; split <;> omega
theorem byte_lt (c : UInt8) : 0 ≤ (c.toNat : Int) ∧ (c.toNat : Int) ≤ 255 := by have := c.toNat_lt; omega
theorem storeL_words {m : List Int} {a : Int} {s : List UInt8} (hm : Words m) (h0 : 0 ≤ a) (h1 : a + (s.length : Int) ≤ 2 * (m.length : Int)) : Words (storeL m a s) := by
  induction s generalizing m a with
  | nil => exact hm
  | cons d s ih =>
    simp only [List.length_cons] at h1
    exact ih (setB_words hm h0 (by omega) (byte_lt d)) (by omega) (by rw [setB_len]; omega)
def storeM (m : List Int) (a : Int) (s : List UInt8) : List Int × Int := if Wn m a (s.length : Int) then (storeL m a s, 0) else ([], 2)
theorem u8_nat (c : UInt8) : IntKind.wrap .i64 (c.toNat : Int) = (c.toNat : Int) := by have := c.toNat_lt; exact wrap_id (by omega) (by omega)
theorem put_eq (b : List Int) (a : Int) (c : UInt8) (hw : Words b) (h0 : 0 ≤ a) (h1 : a < 2 * (b.length : Int)) : IntKind.wrap .i64 ((BitVec.ofInt 64 (IntKind.wrap .i64 ((BitVec.ofInt 64 (wordAt b a) &&& ~~~BitVec.ofInt 64 (IntKind.wrap .i64 ((255 : Int) * 2 ^ (min (IntKind.wrap .i64 (a.tmod 2 * 8)).toNat 64)))).toNat : Int)) ||| BitVec.ofInt 64 (IntKind.wrap .i64 ((IntKind.wrap .i64 (c.toNat : Int)) * 2 ^ (min (IntKind.wrap .i64 (a.tmod 2 * 8)).toNat 64)))).toNat : Int) = putB (wordAt b a) a (c.toNat : Int) := by
  have hb := byte_lt c
  have hi := word_in hw h0 h1
  rw [up_def h0, u8_nat]
  unfold putB
  split
  · rw [show (2 : Int) ^ (min ((0 : Int)).toNat 64) = 1 by decide, Int.mul_one, Int.mul_one, wrap_id (n := 255) (by omega) (by omega), wrap_id (n := (c.toNat : Int)) (by omega) (by omega), bits_lo _ _ hi.1 hi.2 hb]
  · rw [show (2 : Int) ^ (min ((8 : Int)).toNat 64) = 256 by decide, wrap_id (n := 255 * 256) (by omega) (by omega), wrap_id (n := (c.toNat : Int) * 256) (by omega) (by omega), show (255 : Int) * 256 = 65280 by omega, bits_hi _ _ hi.1 hi.2 hb]
theorem Store_loop (m : List Int) (a : Int) (s : List UInt8) (hm : Words m) (h : Wn m a (s.length : Int)) : Lmemory_Store_0 none ⟨a, s, (s.length : Int), (0 : Int), m⟩ = some (storeL m a s) := by
  obtain ⟨h0, h1, h2, h3⟩ := h
  have hl := hm.1
  have hc := lim_count (f := fun s => (Wmemory_Store_0 s).run) (fun i : Nat => ⟨a, s, (s.length : Int), (i : Int), storeL m a (s.take i)⟩) s.length (fun i hi => by
    have e1 : IntKind.wrap .i64 (a + (i : Int)) = a + (i : Int) := wrap_id (by omega) (by omega)
    have h4 : 0 ≤ a + (i : Int) := by omega
    have h5 : 0 ≤ (a + (i : Int)) / 2 := by omega
    have h6 : 0 ≤ IntKind.wrap .i64 ((a + (i : Int)).tmod 2 * 8) := by rw [up_def h4]; split <;> omega
    have hlen : (storeL m a (s.take i)).length = m.length := storeL_len _ _ _
    have hlt : (s.take i).length = i := by rw [List.length_take]; omega
    have hw : Words (storeL m a (s.take i)) := storeL_words hm h0 (by rw [hlt]; omega)
    have h7 : (a + (i : Int)) / 2 < ((storeL m a (s.take i)).length : Int) := by rw [hlen]; omega
    have h8 : a + (i : Int) < 2 * ((storeL m a (s.take i)).length : Int) := by rw [hlen]; omega
    have hi' : (i : Int) < (s.length : Int) := by omega
    have h10 : (0 : Int) ≤ (i : Int) := by omega
    have h9 : storeL m a (s.take (i + 1)) = (storeL m a (s.take i)).set ((a + (i : Int)) / 2).toNat (putB (wordAt (storeL m a (s.take i)) (a + (i : Int))) (a + (i : Int)) (s[i].toNat : Int)) := by
      rw [take_one_more hi, storeL_more, hlt]; rfl
    simp only [Wmemory_Store_0, Tree.run, e1, half h4 (by omega), get_word h4 h8, wrap_succ hi (show s.length ≤ 9223372036854775807 by omega), hi', h10, h5, h6, h7, decide_true, if_true, show ¬ (2 : Int) = 0 by omega, decide_false, Bool.false_eq_true, if_false, Option.bind_some, Int.toNat_natCast, List.getElem?_eq_getElem hi, put_eq _ _ _ hw h4 h8, h9]) 0 (Nat.zero_le _)
  have hd : Lmemory_Store_0 none ⟨a, s, (s.length : Int), ((s.length : Nat) : Int), storeL m a (s.take s.length)⟩ = some (storeL m a (s.take s.length)) := lim_done (by simp [Wmemory_Store_0, Tree.run])
  have he : Lmemory_Store_0 none ⟨a, s, (s.length : Int), (0 : Int), storeL m a (s.take 0)⟩ = some (storeL m a (s.take s.length)) := hc.trans hd
  simpa [storeL] using he
theorem Store_def (m : List Int) (a : Int) (s : List UInt8) (hm : Words m) : memory_Store none m a s = some (storeM m a s) := by
  simp only [memory_Store, Tmemory_Store, Tree.run, within_def m a _ hm.1, copied_def m hm.1, Option.bind_some, storeM]
  by_cases h : Wn m a (s.length : Int)
  · simp only [h, decide_true, Bool.not_true, Bool.false_eq_true, if_false, if_true, Store_loop m a s hm h, Option.bind_some]
  · simp [h]
theorem bads_pair (n : Nat) (bad : List Int) : Bads n bad ↔ bad.Pairwise (· < ·) ∧ ∀ y ∈ bad, 0 ≤ y ∧ y < 2 * (n : Int) ∧ y % 2 = 0 := by
  constructor
  · intro h
    refine ⟨List.pairwise_iff_getElem.2 fun i j hi hj hij => ?_, fun y hy => ?_⟩
    · induction j with
      | zero => omega
      | succ j ih =>
        have h1 := (h (j + 1) hj).2.2.2 (by omega)
        simp only [Nat.add_sub_cancel] at h1
        by_cases he : i = j
        · subst he; exact h1
        · exact Int.lt_trans (ih (by omega) (by omega)) h1
    · obtain ⟨i, hi, he⟩ := List.mem_iff_getElem.1 hy
      obtain ⟨h1, h2, h3, _⟩ := h i hi
      rw [he] at h1 h2 h3
      exact ⟨h1, h2, h3⟩
  · rintro ⟨h1, h2⟩ i hi
    obtain ⟨h3, h4, h5⟩ := h2 _ (List.getElem_mem hi)
    exact ⟨h3, h4, h5, fun h' => List.pairwise_iff_getElem.1 h1 (i - 1) i (by omega) hi (by omega)⟩
theorem bads_filter {n : Nat} {bad : List Int} (p : Int → Bool) (h : Bads n bad) : Bads n (bad.filter p) := by
  rw [bads_pair] at h ⊢
  exact ⟨h.1.filter p, fun y hy => h.2 y (List.mem_filter.1 hy).1⟩
/-- where a number has its place in a rising list -/
def Cut (l : List Int) (a : Int) (p : Nat) : Prop := p ≤ l.length ∧ (∀ i, (h : i < l.length) → i < p → l[i] < a) ∧ ∀ i, (h : i < l.length) → p ≤ i → a ≤ l[i]
def spoilL (l : List Int) (a : Int) : List Int := l.filter (fun y => decide (y < a)) ++ [a] ++ l.filter (fun y => decide (a < y))
theorem cut_take {l : List Int} {a : Int} {p : Nat} (h : Cut l a p) : l.filter (fun y => decide (y < a)) = l.take p := by
  obtain ⟨h1, h2, h3⟩ := h
  have e : l = l.take p ++ l.drop p := (List.take_append_drop p l).symm
  have e1 : (l.take p).filter (fun y => decide (y < a)) = l.take p := by
    rw [List.filter_eq_self]
    intro y hy
    obtain ⟨i, hi, he⟩ := List.mem_iff_getElem.1 hy
    rw [List.getElem_take] at he
    rw [List.length_take] at hi
    have := h2 i (by omega) (by omega)
    rw [he] at this
    exact decide_eq_true this
  have e2 : (l.drop p).filter (fun y => decide (y < a)) = [] := by
    rw [List.filter_eq_nil_iff]
    intro y hy
    obtain ⟨i, hi, he⟩ := List.mem_iff_getElem.1 hy
    rw [List.getElem_drop] at he
    rw [List.length_drop] at hi
    have := h3 (p + i) (by omega) (by omega)
    rw [he] at this
    simp; omega
  conv => lhs; rw [e]
  rw [List.filter_append, e1, e2, List.append_nil]
theorem cut_drop {l : List Int} {a : Int} {p : Nat} (h : Cut l a p) : l.filter (fun y => decide (a < y)) = (l.drop p).filter (fun y => !decide (y = a)) := by
  obtain ⟨h1, h2, h3⟩ := h
  have e : l = l.take p ++ l.drop p := (List.take_append_drop p l).symm
  have e1 : (l.take p).filter (fun y => decide (a < y)) = [] := by
    rw [List.filter_eq_nil_iff]
    intro y hy
    obtain ⟨i, hi, he⟩ := List.mem_iff_getElem.1 hy
    rw [List.getElem_take] at he
    rw [List.length_take] at hi
    have := h2 i (by omega) (by omega)
    rw [he] at this
    simp; omega
  conv => lhs; rw [e]
  rw [List.filter_append, e1, List.nil_append]
  apply List.filter_congr
  intro y hy
  obtain ⟨i, hi, he⟩ := List.mem_iff_getElem.1 hy
  rw [List.getElem_drop] at he
  rw [List.length_drop] at hi
  have := h3 (p + i) (by omega) (by omega)
  rw [he] at this
  rw [Bool.eq_iff_iff]
  simp
  omega
theorem cut_here {l : List Int} {a : Int} {p : Nat} (hs : l.Pairwise (· < ·)) (h : Cut l a p) (hp : p < l.length) (he : l[p] = a) : spoilL l a = l := by
  have hd : l.drop p = l[p] :: l.drop (p + 1) := (List.getElem_cons_drop ..).symm
  have e2 : (l.drop (p + 1)).filter (fun y => !decide (y = a)) = l.drop (p + 1) := by
    rw [List.filter_eq_self]
    intro y hy
    obtain ⟨i, hi, hx⟩ := List.mem_iff_getElem.1 hy
    rw [List.getElem_drop] at hx
    rw [List.length_drop] at hi
    have := List.pairwise_iff_getElem.1 hs p (p + 1 + i) hp (by omega) (by omega)
    rw [he, hx] at this
    simp; omega
  unfold spoilL
  rw [cut_take h, cut_drop h, hd, he]
  have e3 : (a :: l.drop (p + 1)).filter (fun y => !decide (y = a)) = l.drop (p + 1) := by rw [List.filter_cons, e2]; simp
  rw [e3]
  have : l = l.take p ++ (l[p] :: l.drop (p + 1)) := by rw [← hd, List.take_append_drop]
  conv => rhs; rw [this, he]
  simp
theorem cut_not {l : List Int} {a : Int} {p : Nat} (hs : l.Pairwise (· < ·)) (h : Cut l a p) (hne : ∀ hp : p < l.length, l[p] ≠ a) : spoilL l a = l.take p ++ [a] ++ l.drop p := by
  unfold spoilL
  rw [cut_take h, cut_drop h]
  congr 1
  rw [List.filter_eq_self]
  intro y hy
  obtain ⟨i, hi, hx⟩ := List.mem_iff_getElem.1 hy
  rw [List.getElem_drop] at hx
  rw [List.length_drop] at hi
  have h0 := h.2.2 p (by omega) (Nat.le_refl _)
  have h1 := hne (by omega)
  rcases Nat.eq_zero_or_pos i with h' | h'
  · subst h'
    simp only [Nat.add_zero] at hx
    rw [← hx]; simpa using h1
  · have := List.pairwise_iff_getElem.1 hs p (p + i) (by omega) (by omega) (by omega)
    rw [hx] at this
    simp; omega
theorem cut_ex {l : List Int} (hs : l.Pairwise (· < ·)) (a : Int) {i j : Nat} (hij : i ≤ j) (hj : j ≤ l.length) (h1 : ∀ k, (h : k < l.length) → k < i → l[k] < a) (h2 : ∀ k, (h : k < l.length) → j ≤ k → a ≤ l[k]) (he : i = j) : Cut l a i := ⟨by omega, h1, fun k h hk => h2 k h (by omega)⟩
theorem mid_def {i j : Nat} (h : i + j ≤ 1000000) : IntKind.wrap .i64 (((IntKind.wrap .u64 (IntKind.wrap .i64 ((i : Int) + (j : Int))))).fdiv (2 ^ (min ((1 : Int)).toNat 64))) = (((i + j) / 2 : Nat) : Int) := by
  have e1 : IntKind.wrap .i64 ((i : Int) + (j : Int)) = ((i + j : Nat) : Int) := by rw [wrap_id (by omega) (by omega)]; omega
  have e2 : IntKind.wrap .u64 ((i + j : Nat) : Int) = ((i + j : Nat) : Int) := by
    rw [IntKind.wrap_u64]; omega
  rw [e1, e2, show (2 : Int) ^ (min ((1 : Int)).toNat 64) = 2 by decide, fdiv_pos _ (by omega), wrap_id (by omega) (by omega)]
  omega
def spoilM (m bad : List Int) (a : Int) : List Int × Int := if ¬ a % 2 = 0 then ([], 1) else if a < 0 ∨ 2 * (m.length : Int) ≤ a then ([], 2) else (spoilL bad a, 0)
theorem tmod2 (o : Int) : o.tmod 2 = 0 ↔ o % 2 = 0 := by
  rw [Int.tmod_eq_emod]
  split
  · simp
  · rename_i h
    constructor
    · intro h'; omega
    · intro h'; exact absurd (.inr (Int.dvd_of_emod_eq_zero h')) h
theorem spoil_bads {n : Nat} {bad : List Int} {a : Int} (h : Bads n bad) (h0 : 0 ≤ a) (h1 : a < 2 * (n : Int)) (h2 : a % 2 = 0) : Bads n (spoilL bad a) := by
  rw [bads_pair] at h ⊢
  unfold spoilL
  refine ⟨?_, fun y hy => ?_⟩
  · rw [List.pairwise_append, List.pairwise_append]
    refine ⟨⟨h.1.filter _, List.pairwise_singleton _ _, fun x hx y hy => ?_⟩, h.1.filter _, fun x hx y hy => ?_⟩
    · rw [List.mem_singleton.1 hy]
      simpa using (List.mem_filter.1 hx).2
    · have hy2 : a < y := by simpa using (List.mem_filter.1 hy).2
      rcases List.mem_append.1 hx with hx | hx
      · have : x < a := by simpa using (List.mem_filter.1 hx).2
        omega
      · rw [List.mem_singleton.1 hx]; exact hy2
  · rcases List.mem_append.1 hy with hy | hy
    · rcases List.mem_append.1 hy with hy | hy
      · exact h.2 y (List.mem_filter.1 hy).1
      · rw [List.mem_singleton.1 hy]; exact ⟨h0, h1, h2⟩
    · exact h.2 y (List.mem_filter.1 hy).1
theorem spoilL_len (bad : List Int) (a : Int) : (spoilL bad a).length ≤ 2 * bad.length + 1 := by
  unfold spoilL
  have h1 := List.length_filter_le (fun y => decide (y < a)) bad
  have h2 := List.length_filter_le (fun y => decide (a < y)) bad
  simp only [List.length_append, List.length_cons, List.length_nil]
  omega
end Go.Proofs.Ytenckckimagkkaa.C08
end
section
set_option linter.unusedSimpArgs false
set_option linter.unusedVariables false
namespace Go.Proofs.Ytenckckimagkkaa
open Go Go.Ab
theorem alive_true : law16_alive none = some true := lelaw16_alive 700 true (by kernel_rfl)
theorem Diff_self (d : Drive) (hl : d.sectors.length ≤ 1000000) : ref15_Diff none d d = some [] := by
  have hc := lim_count (f := fun s => (Wref15_Diff_0 s).run) (fun i : Nat => ⟨(i : Int), d, d, []⟩) d.sectors.length (fun i hi => by
    have k1 : (i : Int) < (d.sectors.length : Int) := by omega
    have k2 : ¬ (d.sectors.length : Int) ≤ (i : Int) := by omega
    have k3 : (0 : Int) ≤ (i : Int) := by omega
    have g := List.getElem?_eq_getElem hi
    have w := wrap_succ hi (show d.sectors.length ≤ 9223372036854775807 by omega)
    simp only [Wref15_Diff_0, Tree.run, k1, k2, k3, g, w, decide_true, decide_false, Bool.false_eq_true, if_true, if_false, Int.toNat_natCast, Option.bind_some, Bool.not_true]) 0 (Nat.zero_le _)
  have hd : Lref15_Diff_0 none ⟨(d.sectors.length : Int), d, d, []⟩ = some [] := lim_done (by
    have k1 : ¬ (d.sectors.length : Int) < (d.sectors.length : Int) := by omega
    simp only [Wref15_Diff_0, Tree.run, k1, decide_false, Bool.false_eq_true, if_false])
  have h : Lref15_Diff_0 none ⟨(0 : Int), d, d, []⟩ = some [] := hc.trans hd
  simp only [ref15_Diff, Tref15_Diff, Tree.run, h, Option.bind_some]
theorem SameDrive_self (d : Drive) (hl : d.sectors.length ≤ 1000000) (hb : d.bad.length ≤ 1000000) : ref15_SameDrive none d d = some true := by
  have hc := lim_count (f := fun s => (Wref15_SameDrive_0 s).run) (fun i : Nat => ⟨(i : Int), d, d⟩) d.bad.length (fun i hi => by
    have k1 : (i : Int) < (d.bad.length : Int) := by omega
    have k3 : (0 : Int) ≤ (i : Int) := by omega
    have g := List.getElem?_eq_getElem hi
    have w := wrap_succ hi (show d.bad.length ≤ 9223372036854775807 by omega)
    simp only [Wref15_SameDrive_0, Tree.run, k1, k3, g, w, decide_true, decide_false, Bool.false_eq_true, if_true, if_false, Int.toNat_natCast, Option.bind_some, Bool.not_true]) 0 (Nat.zero_le _)
  have hd : Lref15_SameDrive_0 none ⟨(d.bad.length : Int), d, d⟩ = some (.inr (d, d)) := lim_done (by
    have k1 : ¬ (d.bad.length : Int) < (d.bad.length : Int) := by omega
    simp only [Wref15_SameDrive_0, Tree.run, k1, decide_false, Bool.false_eq_true, if_false])
  have h : Lref15_SameDrive_0 none ⟨(0 : Int), d, d⟩ = some (.inr (d, d)) := hc.trans hd
  simp [ref15_SameDrive, Tref15_SameDrive, Tree.run, h, Diff_self d hl]
theorem SameDisk_self (k : Disk) (hl : k.drive.sectors.length ≤ 1000000) (hb : k.drive.bad.length ≤ 1000000) : ref16_SameDisk none k k = some true := by
  simp [ref16_SameDisk, Tref16_SameDisk, Tree.run, SameDrive_self k.drive hl hb]
theorem SameInts_self (l : List Int) (hl : l.length ≤ 1000000) : ref16_SameInts none l l = some true := by
  have hc := lim_count (f := fun s => (Wref16_SameInts_0 s).run) (fun i : Nat => ⟨l, l, (i : Int)⟩) l.length (fun i hi => by
    have k1 : (i : Int) < (l.length : Int) := by omega
    have k3 : (0 : Int) ≤ (i : Int) := by omega
    have g := List.getElem?_eq_getElem hi
    have w := wrap_succ hi (show l.length ≤ 9223372036854775807 by omega)
    simp only [Wref16_SameInts_0, Tree.run, k1, k3, g, w, decide_true, decide_false, Bool.false_eq_true, if_true, if_false, Int.toNat_natCast, Option.bind_some, Bool.not_true]) 0 (Nat.zero_le _)
  have hd : Lref16_SameInts_0 none ⟨l, l, (l.length : Int)⟩ = some (.inr ()) := lim_done (by
    have k1 : ¬ (l.length : Int) < (l.length : Int) := by omega
    simp only [Wref16_SameInts_0, Tree.run, k1, decide_false, Bool.false_eq_true, if_false])
  have h : Lref16_SameInts_0 none ⟨l, l, (0 : Int)⟩ = some (.inr ()) := hc.trans hd
  simp [ref16_SameInts, Tref16_SameInts, Tree.run, h]
theorem same_self (l : List Request) (hl : l.length ≤ 1000000) : law16_same none l l = some true := by
  have hc := lim_count (f := fun s => (Wlaw16_same_0 s).run) (fun i : Nat => ⟨l, l, (l.length : Int), (i : Int)⟩) l.length (fun i hi => by
    have k1 : (i : Int) < (l.length : Int) := by omega
    have k3 : (0 : Int) ≤ (i : Int) := by omega
    have g := List.getElem?_eq_getElem hi
    have w := wrap_succ hi (show l.length ≤ 9223372036854775807 by omega)
    simp [Wlaw16_same_0, Tree.run, k1, k3, g, w]) 0 (Nat.zero_le _)
  have hd : Llaw16_same_0 none ⟨l, l, (l.length : Int), (l.length : Int)⟩ = some (.inr ()) := lim_done (by
    have k1 : ¬ (l.length : Int) < (l.length : Int) := by omega
    simp only [Wlaw16_same_0, Tree.run, k1, decide_false, Bool.false_eq_true, if_false])
  have h : Llaw16_same_0 none ⟨l, l, (l.length : Int), (0 : Int)⟩ = some (.inr ()) := hc.trans hd
  simp [law16_same, Tlaw16_same, Tree.run, h]
theorem clone_some {α : Type} (b : Nat) (l : List α) (h : l.length * b ≤ 140737488355328) : cloneF b l = some l := if_pos h
theorem cloned16_def (d : Drive) (hl : d.sectors.length ≤ 1000000) (hb : d.bad.length ≤ 1000000) : diskctl_cloned d = some d := by
  simp only [diskctl_cloned, Tdiskctl_cloned, Tree.run, clone_some 16 d.sectors (by omega), clone_some 8 d.bad (by omega), Option.bind_some]
theorem New16_def (d : Drive) (hl : d.sectors.length ≤ 1000000) (hb : d.bad.length ≤ 1000000) : diskctl_New d = some ⟨d, false, true, false, 0, 0, 0, 0, 0⟩ ∧ ref16_New d = some ⟨d, false, true, false, 0, 0, 0, 0, 0⟩ := by
  have k1 : (([] : List (List UInt8)).length + d.sectors.length) * 16 ≤ 140737488355328 := by simp only [List.length_nil]; omega
  have k2 : (([] : List Int).length + d.bad.length) * 8 ≤ 140737488355328 := by simp only [List.length_nil]; omega
  exact ⟨by simp only [diskctl_New, Tdiskctl_New, Tree.run, cloned16_def d hl hb, Option.bind_some], by simp only [ref16_New, Tref16_New, Tree.run, k1, k2, decide_true, if_true, List.nil_append]⟩
def reset16 (k : Disk) : Disk := ⟨k.drive, false, true, false, 0, k.words, k.addr, k.start, 0⟩
theorem Reset16_def (k : Disk) : diskctl_Reset k = some (reset16 k) ∧ ref16_Reset k = some (reset16 k) := ⟨rfl, rfl⟩
theorem Requests16_eq (k : Disk) : ∃ r, diskctl_Requests k = some r ∧ ref16_Requests k = some r ∧ r.length ≤ 1 := by
  simp only [diskctl_Requests, Tdiskctl_Requests, ref16_Requests, Tref16_Requests, Tree.run]
  cases k.enable <;> cases k.ready
  · exact ⟨_, rfl, rfl, by simp⟩
  · exact ⟨_, rfl, rfl, by simp⟩
  · exact ⟨_, rfl, rfl, by simp⟩
  · exact ⟨_, rfl, rfl, by simp⟩
def accept16 (k : Disk) (v : Int) : Disk := if v = 160 then { k with enable := false } else k
theorem Accept16_def (k : Disk) (v : Int) : diskctl_Accept k v = some (accept16 k v) ∧ ref16_Accept k v = some (accept16 k v) := by
  obtain ⟨a, e, b, c, d, f, g, h, i⟩ := k
  simp only [diskctl_Accept, Tdiskctl_Accept, ref16_Accept, Tref16_Accept, Tree.run, accept16]
  by_cases c1 : v = 160
  · cases e <;> simp [c1]
  · cases e <;> simp [c1]
theorem accept16_drive (k : Disk) (v : Int) : (accept16 k v).drive = k.drive := by unfold accept16; split <;> rfl
end Go.Proofs.Ytenckckimagkkaa
end
section
set_option linter.unusedSimpArgs false
set_option linter.unusedVariables false
namespace Go.Proofs.Ytenckckimagkkaa
open Go Go.Ab
theorem pf_law16_DiskctlRegisters (x : Disk × Int × Int × Unit) (hg : Glaw16_DiskctlRegisters x) : law16_DiskctlRegisters none x.1 x.2.1 x.2.2.1 = some true := by
  obtain ⟨k, r, v, u⟩ := x
  simp only [law16_DiskctlRegisters, Tlaw16_DiskctlRegisters, Tree.run, alive_true, Option.bind_some]
  by_cases c1 : (64 : Int) < (k.drive.sectors.length : Int)
  · simp only [c1, decide_true, if_true]
  by_cases c2 : (64 : Int) < (k.drive.bad.length : Int)
  · simp only [c1, c2, decide_true, decide_false, Bool.false_eq_true, if_true, if_false]
  have h1 := diskctl_Right_def k (by omega)
  have h2 := ref_RightK_def k (by omega)
  obtain ⟨n1, n2⟩ := New16_def k.drive (by omega) (by omega)
  have n3 := SameDisk_self ⟨k.drive, false, true, false, 0, 0, 0, 0, 0⟩ (by simp only; omega) (by simp only; omega)
  simp only [c1, c2, decide_false, Bool.false_eq_true, if_false, h1, h2, n1, n2, n3, Option.bind_some, beq_self_eq_true, Bool.not_true]
  by_cases c3 : RtK k
  · have hr1 := ref_Read16_def k r c3.1
    have hr2 := Read16_def k r c3.1
    have hw1 := Write16_def k r v
    have hw2 := ref_Write16_def k r v
    have hs : ref16_SameDisk none (write16 k r v).1 (write16 k r v).1 = some true := by
      by_cases hok : (write16 k r v).2 = true
      · exact SameDisk_self _ (by rw [write16_drive k r v hok]; omega) (by rw [write16_drive k r v hok]; omega)
      · have : write16 k r v = (nilK, false) := by
          unfold write16 at hok ⊢
          split at hok
          · exact absurd rfl hok
          · split at hok
            · exact absurd rfl hok
            · split at hok
              · exact absurd rfl hok
              · split at hok
                · exact absurd rfl hok
                · rw [if_neg (by assumption), if_neg (by assumption), if_neg (by assumption), if_neg (by assumption)]
        rw [this]
        exact SameDisk_self _ (by simp [nilK]) (by simp [nilK])
    obtain ⟨e1, e2⟩ := Reset16_def k
    have e3 := SameDisk_self (reset16 k) (by simp only [reset16]; omega) (by simp only [reset16]; omega)
    obtain ⟨q, q1, q2, q3⟩ := Requests16_eq k
    have q4 := same_self q (by omega)
    obtain ⟨a1, a2⟩ := Accept16_def k v
    have a3 := SameDisk_self (accept16 k v) (by rw [accept16_drive]; omega) (by rw [accept16_drive]; omega)
    simp only [c3, decide_true, Bool.not_true, Bool.false_eq_true, if_false, if_true, hr1, hr2, hw1, hw2, hs, e1, e2, e3, q1, q2, q4, a1, a2, a3, Option.bind_some, beq_self_eq_true]
    cases hok : (write16 k r v).2 with
    | false => simp
    | true =>
      have h3 := write16_right k r v c3 hok
      have h4 := diskctl_Right_def (write16 k r v).1 (by rw [write16_drive k r v hok]; omega)
      simp [h4, h3]
  · simp only [c3, decide_false, Bool.not_false, if_true]
end Go.Proofs.Ytenckckimagkkaa
end
