/- The law DiskctlCopies holds of the typed functions. -/
import Derived.Test.YtenckckimagkkaaAbLim
import Derived.Laws.BitsLemmas
import Derived.Test.YtenckckimagkkaaAb16
import Derived.Test.YtenckckimagkkaaAbRd16
section
set_option linter.unusedSimpArgs false
namespace Go.Ab
variable {α β : Type}
/-- A loop that looks through numbers for the first that is not good. -/
theorem lim_scan1 {f : α → Option (α ⊕ β)} (s : Nat → α) (n : Nat) (p : Nat → Prop) (bad : Nat → β) (e : β) (h : ∀ i, i < n → p i → f (s i) = some (.inl (s (i + 1)))) (hb : ∀ i, i < n → ¬ p i → f (s i) = some (.inr (bad i))) (he : f (s n) = some (.inr e)) :
    ((∀ i, i < n → p i) ∧ lim f (s 0) = some e) ∨ ∃ i, i < n ∧ (∀ j, j < i → p j) ∧ ¬ p i ∧ lim f (s 0) = some (bad i) := by
  have key : ∀ k, k ≤ n → ((∀ i, n - k ≤ i → i < n → p i) ∧ lim f (s (n - k)) = some e) ∨ ∃ i, n - k ≤ i ∧ i < n ∧ (∀ j, n - k ≤ j → j < i → p j) ∧ ¬ p i ∧ lim f (s (n - k)) = some (bad i) := by
    intro k
    induction k with
    | zero => intro _; exact .inl ⟨fun i h1 h2 => by omega, lim_done he⟩
    | succ k ih =>
      intro hk
      by_cases hp : p (n - (k + 1))
      · have hn := lim_next (h (n - (k + 1)) (by omega) hp)
        rw [show n - (k + 1) + 1 = n - k by omega] at hn
        have hj : ∀ j, n - (k + 1) ≤ j → ¬ n - k ≤ j → p j := fun j h1 h2 => by rw [show j = n - (k + 1) by omega]; exact hp
        rcases ih (by omega) with ⟨h1, h2⟩ | ⟨i, h0, h1, h2, h3, h4⟩
        · refine .inl ⟨fun i hi hlt => ?_, by rw [hn]; exact h2⟩
          by_cases h' : n - k ≤ i
          · exact h1 i h' hlt
          · exact hj i hi h'
        · refine .inr ⟨i, by omega, h1, fun j hj1 hj2 => ?_, h3, by rw [hn]; exact h4⟩
          by_cases h' : n - k ≤ j
          · exact h2 j h' hj2
          · exact hj j hj1 h'
      · exact .inr ⟨n - (k + 1), Nat.le_refl _, by omega, fun j h1 h2 => by omega, hp, lim_done (hb _ (by omega) hp)⟩
  rcases key n (Nat.le_refl n) with ⟨h1, h2⟩ | ⟨i, h0, h1, h2, h3, h4⟩
  · rw [Nat.sub_self] at h2; exact .inl ⟨fun i hi => h1 i (by omega) hi, h2⟩
  · rw [Nat.sub_self] at h4; exact .inr ⟨i, h1, fun j hj => h2 j (by omega) hj, h3, h4⟩
theorem take_one_more {α : Type} {l : List α} {i : Nat} (hi : i < l.length) : l.take (i + 1) = l.take i ++ [l[i]] := by
  rw [List.take_add_one, List.getElem?_eq_getElem hi]; rfl
end Go.Ab
end
section
set_option linter.unusedSimpArgs false
namespace Go.Ab
theorem wrap_id {n : Int} (h1 : -9223372036854775808 ≤ n) (h2 : n ≤ 9223372036854775807) : IntKind.wrap .i64 n = n := by
  rw [IntKind.wrap_i64]; omega
theorem nat_and (a b : Int) : ((BitVec.ofInt 64 a &&& BitVec.ofInt 64 b).toNat : Int) = (((a % 18446744073709551616).toNat &&& (b % 18446744073709551616).toNat : Nat) : Int) := by
  rw [BitVec.toNat_and, BitVec.toNat_ofInt, BitVec.toNat_ofInt]
  rfl
/-- a mask of the lowest bits -/
theorem and_mask (j : Nat) (hj : j ≤ 62) (a : Int) : IntKind.wrap .i64 ((BitVec.ofInt 64 a &&& BitVec.ofInt 64 (2 ^ j - 1)).toNat : Int) = a % 2 ^ j := by
  have hp : (2 : Nat) ^ j ≤ 2 ^ 62 := Nat.pow_le_pow_right (by omega) hj
  have hc : ((2 : Int) ^ j) = ((2 ^ j : Nat) : Int) := by simp
  have h0 : 0 < (2 : Nat) ^ j := Nat.pow_pos (by omega)
  have hd : (2 : Nat) ^ j ∣ 18446744073709551616 := by
    have : (18446744073709551616 : Nat) = 2 ^ 64 := rfl
    rw [this]
    exact Nat.pow_dvd_pow 2 (by omega)
  rw [nat_and]
  have e1 : (((2 : Int) ^ j - 1) % 18446744073709551616).toNat = 2 ^ j - 1 := by
    rw [hc, Int.emod_eq_of_lt (by omega) (by omega)]
    omega
  rw [e1, Nat.and_two_pow_sub_one_eq_mod]
  have e2 : ((a % 18446744073709551616).toNat % 2 ^ j : Nat) = (a % 2 ^ j).toNat := by
    have hn : 0 ≤ a % 18446744073709551616 := Int.emod_nonneg _ (by omega)
    have : (((a % 18446744073709551616).toNat % 2 ^ j : Nat) : Int) = a % 2 ^ j := by
      rw [Int.natCast_emod, Int.toNat_of_nonneg hn, hc]
      exact Int.emod_emod_of_dvd a (Int.natCast_dvd_natCast.2 hd)
    omega
  rw [e2]
  have h1 : 0 ≤ a % 2 ^ j := Int.emod_nonneg _ (by rw [hc]; omega)
  have h2 : a % 2 ^ j < 2 ^ j := Int.emod_lt_of_pos _ (by rw [hc]; omega)
  rw [Int.toNat_of_nonneg h1]
  exact wrap_id (by omega) (by rw [hc] at h2; omega)
theorem and1 (a : Int) : IntKind.wrap .i64 ((BitVec.ofInt 64 a &&& BitVec.ofInt 64 (1 : Int)).toNat : Int) = a % 2 := and_mask 1 (by omega) a
theorem and3 (a : Int) : IntKind.wrap .i64 ((BitVec.ofInt 64 a &&& BitVec.ofInt 64 (3 : Int)).toNat : Int) = a % 4 := and_mask 2 (by omega) a
theorem and7 (a : Int) : IntKind.wrap .i64 ((BitVec.ofInt 64 a &&& BitVec.ofInt 64 (7 : Int)).toNat : Int) = a % 8 := and_mask 3 (by omega) a
theorem and31 (a : Int) : IntKind.wrap .i64 ((BitVec.ofInt 64 a &&& BitVec.ofInt 64 (31 : Int)).toNat : Int) = a % 32 := and_mask 5 (by omega) a
theorem and255 (a : Int) : IntKind.wrap .i64 ((BitVec.ofInt 64 a &&& BitVec.ofInt 64 (255 : Int)).toNat : Int) = a % 256 := and_mask 8 (by omega) a
theorem and4095 (a : Int) : IntKind.wrap .i64 ((BitVec.ofInt 64 a &&& BitVec.ofInt 64 (4095 : Int)).toNat : Int) = a % 4096 := and_mask 12 (by omega) a
theorem and65535 (a : Int) : IntKind.wrap .i64 ((BitVec.ofInt 64 a &&& BitVec.ofInt 64 (65535 : Int)).toNat : Int) = a % 65536 := and_mask 16 (by omega) a
theorem and262143 (a : Int) : IntKind.wrap .i64 ((BitVec.ofInt 64 a &&& BitVec.ofInt 64 (262143 : Int)).toNat : Int) = a % 262144 := and_mask 18 (by omega) a
/-- parts that share no bit are added -/
theorem or_add (j : Nat) (a b : Int) (h0 : 0 ≤ b) (hb : b < 2 ^ j) (ha0 : 0 ≤ a) (ha : a % 2 ^ j = 0) (hs : a + b ≤ 9223372036854775807) : IntKind.wrap .i64 ((BitVec.ofInt 64 a ||| BitVec.ofInt 64 b).toNat : Int) = a + b := by
  rw [BitVec.toNat_or, BitVec.toNat_ofInt, BitVec.toNat_ofInt]
  have e1 : (a % ((2 ^ 64 : Nat) : Int)).toNat = a.toNat := by rw [Int.emod_eq_of_lt ha0 (by omega)]
  have e2 : (b % ((2 ^ 64 : Nat) : Int)).toNat = b.toNat := by rw [Int.emod_eq_of_lt h0 (by omega)]
  rw [e1, e2]
  have hc : ((2 : Int) ^ j) = ((2 ^ j : Nat) : Int) := by simp
  have hm : a.toNat % 2 ^ j = 0 := by
    rw [hc] at ha
    have : ((a.toNat % 2 ^ j : Nat) : Int) = 0 := by rw [Int.natCast_emod, Int.toNat_of_nonneg ha0]; exact ha
    exact Int.ofNat.inj this
  obtain ⟨c, hc'⟩ := Nat.dvd_of_mod_eq_zero hm
  have hlt : b.toNat < 2 ^ j := by rw [hc] at hb; omega
  have : a.toNat ||| b.toNat = a.toNat + b.toNat := by
    rw [hc', Nat.two_pow_add_eq_or_of_lt hlt]
  rw [this]
  rw [wrap_id (by omega) (by omega)]
  omega
theorem or_add' (j : Nat) (a b : Int) (h0 : 0 ≤ a) (ha : a < 2 ^ j) (hb0 : 0 ≤ b) (hb : b % 2 ^ j = 0) (hs : a + b ≤ 9223372036854775807) : IntKind.wrap .i64 ((BitVec.ofInt 64 a ||| BitVec.ofInt 64 b).toNat : Int) = a + b := by
  rw [BitVec.or_comm, or_add j b a h0 ha hb0 hb (by omega)]
  omega
theorem tdiv_nn {a : Int} (h : 0 ≤ a) (b : Int) : a.tdiv b = a / b := Int.tdiv_eq_ediv_of_nonneg h
theorem tmod_nn {a : Int} (h : 0 ≤ a) (b : Int) : a.tmod b = a % b := Int.tmod_eq_emod_of_nonneg h
theorem fdiv_pos (a : Int) {b : Int} (h : 0 ≤ b) : a.fdiv b = a / b := Int.fdiv_eq_ediv_of_nonneg a h
/-- Go's remainder, brought above zero -/
theorem tmod_up (x m : Int) (hm : 0 < m) : (x.tmod m < 0 ∧ x.tmod m + m = x % m) ∨ (0 ≤ x.tmod m ∧ x.tmod m = x % m) := by
  have h1 := Int.emod_nonneg x (show m ≠ 0 by omega)
  have h2 := Int.emod_lt_of_pos x hm
  rw [Int.tmod_eq_emod]
  split
  · right; simp; exact h1
  · left; omega
theorem mask_fix (a m : Int) (hm : 0 < m) : (a % m = a) ↔ (0 ≤ a ∧ a < m) := by
  constructor
  · intro h
    have h1 := Int.emod_nonneg a (show m ≠ 0 by omega)
    have h2 := Int.emod_lt_of_pos a hm
    omega
  · rintro ⟨h1, h2⟩
    exact Int.emod_eq_of_lt h1 h2
end Go.Ab
end
section
set_option linter.unusedSimpArgs false
namespace Go.Ab
theorem nat_and_up (a j k : Nat) : a &&& ((2 ^ j - 1) * 2 ^ k) = (a / 2 ^ k % 2 ^ j) * 2 ^ k := by
  apply Nat.eq_of_testBit_eq
  intro i
  rw [Nat.testBit_and, Nat.testBit_mul_two_pow, Nat.testBit_mul_two_pow, Nat.testBit_mod_two_pow, Nat.testBit_div_two_pow, Nat.testBit_two_pow_sub_one]
  by_cases h : k ≤ i
  · simp [h]
    rw [Bool.and_comm]
  · simp [h]
theorem bv_andNot (x y : BitVec 64) : x &&& ~~~y = x - (x &&& y) := by
  have h : (x &&& ~~~y) + (x &&& y) = x := by
    rw [BitVec.add_eq_or_of_and_eq_zero]
    · ext i hi
      simp
      cases x[i] <;> cases y[i] <;> rfl
    · ext i hi
      simp
      cases x[i] <;> cases y[i] <;> simp
  exact BitVec.eq_sub_iff_add_eq.2 h
/-- bits taken away -/
theorem andNot_sub (a b : Int) (h0 : 0 ≤ a) (h1 : a ≤ 9223372036854775807) : IntKind.wrap .i64 ((BitVec.ofInt 64 a &&& ~~~BitVec.ofInt 64 b).toNat : Int) = a - IntKind.wrap .i64 ((BitVec.ofInt 64 a &&& BitVec.ofInt 64 b).toNat : Int) := by
  rw [bv_andNot]
  have hle : BitVec.ofInt 64 a &&& BitVec.ofInt 64 b ≤ BitVec.ofInt 64 a := by
    rw [BitVec.le_def, BitVec.toNat_and]
    exact Nat.and_le_left
  rw [BitVec.toNat_sub_of_le hle]
  have ha : (BitVec.ofInt 64 a).toNat = a.toNat := by
    rw [BitVec.toNat_ofInt, Int.emod_eq_of_lt h0 (by omega)]
  have hle' := BitVec.le_def.1 hle
  rw [ha] at hle' ⊢
  rw [wrap_id (by omega) (by omega), wrap_id (by omega) (by omega)]
  omega
theorem andNot_mask (j : Nat) (hj : j ≤ 62) (a : Int) (h0 : 0 ≤ a) (h1 : a ≤ 9223372036854775807) : IntKind.wrap .i64 ((BitVec.ofInt 64 a &&& ~~~BitVec.ofInt 64 (2 ^ j - 1)).toNat : Int) = a - a % 2 ^ j := by
  rw [andNot_sub a _ h0 h1, and_mask j hj]
theorem andNot1 (a : Int) (h0 : 0 ≤ a) (h1 : a ≤ 9223372036854775807) : IntKind.wrap .i64 ((BitVec.ofInt 64 a &&& ~~~BitVec.ofInt 64 (1 : Int)).toNat : Int) = a - a % 2 := andNot_mask 1 (by omega) a h0 h1
theorem andNot255 (a : Int) (h0 : 0 ≤ a) (h1 : a ≤ 9223372036854775807) : IntKind.wrap .i64 ((BitVec.ofInt 64 a &&& ~~~BitVec.ofInt 64 (255 : Int)).toNat : Int) = a - a % 256 := andNot_mask 8 (by omega) a h0 h1
theorem andNot65535 (a : Int) (h0 : 0 ≤ a) (h1 : a ≤ 9223372036854775807) : IntKind.wrap .i64 ((BitVec.ofInt 64 a &&& ~~~BitVec.ofInt 64 (65535 : Int)).toNat : Int) = a - a % 65536 := andNot_mask 16 (by omega) a h0 h1
/-- a mask higher up -/
theorem and_up (j k : Nat) (hj : j + k ≤ 62) (a : Int) (h0 : 0 ≤ a) (h1 : a ≤ 9223372036854775807) : IntKind.wrap .i64 ((BitVec.ofInt 64 a &&& BitVec.ofInt 64 ((2 ^ j - 1) * 2 ^ k)).toNat : Int) = a / 2 ^ k % 2 ^ j * 2 ^ k := by
  have hp : (2 : Nat) ^ (j + k) ≤ 2 ^ 62 := Nat.pow_le_pow_right (by omega) hj
  have hpos : 0 < (2 : Nat) ^ j := Nat.pow_pos (by omega)
  have hposk : 0 < (2 : Nat) ^ k := Nat.pow_pos (by omega)
  have hc : ((2 : Int) ^ j - 1) * 2 ^ k = (((2 ^ j - 1) * 2 ^ k : Nat) : Int) := by
    rw [Int.natCast_mul, Int.natCast_sub (by omega)]
    simp
  have hlt : (2 ^ j - 1) * 2 ^ k < 2 ^ 62 := by
    have : (2 ^ j - 1) * 2 ^ k < 2 ^ j * 2 ^ k := Nat.mul_lt_mul_of_pos_right (by omega) hposk
    rw [← Nat.pow_add] at this
    omega
  rw [nat_and, hc, Int.emod_eq_of_lt h0 (by omega), Int.emod_eq_of_lt (by omega) (by omega), Int.toNat_natCast, nat_and_up]
  have e : (((a.toNat / 2 ^ k % 2 ^ j * 2 ^ k : Nat)) : Int) = a / 2 ^ k % 2 ^ j * 2 ^ k := by
    rw [Int.natCast_mul, Int.natCast_emod, Int.natCast_ediv, Int.toNat_of_nonneg h0]
    simp
  rw [e]
  have hm := Int.emod_nonneg (a / 2 ^ k) (show (2 : Int) ^ j ≠ 0 by have := Int.natCast_pos.2 hpos; simp at this; omega)
  apply wrap_id
  · rw [← e]; omega
  · rw [← e]
    have : a.toNat / 2 ^ k % 2 ^ j * 2 ^ k ≤ a.toNat / 2 ^ k * 2 ^ k := Nat.mul_le_mul_right _ (Nat.mod_le _ _)
    have h2 : a.toNat / 2 ^ k * 2 ^ k ≤ a.toNat := Nat.div_mul_le_self _ _
    omega
theorem and65280 (a : Int) (h0 : 0 ≤ a) (h1 : a ≤ 9223372036854775807) : IntKind.wrap .i64 ((BitVec.ofInt 64 a &&& BitVec.ofInt 64 (65280 : Int)).toNat : Int) = a / 256 % 256 * 256 := and_up 8 8 (by omega) a h0 h1
theorem andNot65280 (a : Int) (h0 : 0 ≤ a) (h1 : a ≤ 9223372036854775807) : IntKind.wrap .i64 ((BitVec.ofInt 64 a &&& ~~~BitVec.ofInt 64 (65280 : Int)).toNat : Int) = a - a / 256 % 256 * 256 := by
  rw [andNot_sub a _ h0 h1, and65280 a h0 h1]
end Go.Ab
end
section
set_option linter.unusedSimpArgs false
set_option linter.unusedVariables false
namespace Go.Proofs.Ytenckckimagkkaa
open Go Go.Ab
theorem wrap_succ {i n : Nat} (h : i < n) (hn : n ≤ 9223372036854775807) : IntKind.wrap .i64 ((i : Int) + 1) = ((i + 1 : Nat) : Int) := by rw [wrap_id] <;> omega
/-- the bad sectors: rising, within the drive -/
def BadsD (n : Nat) (bad : List Int) : Prop := ∀ i, (h : i < bad.length) → 0 ≤ bad[i] ∧ bad[i] < (n : Int) ∧ ∀ h' : 0 < i, bad[i - 1] < bad[i]
def GoodD (n : Nat) (bad : List Int) (i : Nat) : Prop := ∀ h : i < bad.length, 0 ≤ bad[i] ∧ bad[i] < (n : Int) ∧ ∀ h' : 0 < i, bad[i - 1] < bad[i]
def lastD (bad : List Int) (i : Nat) : Int := if i = 0 then -1 else bad.getD (i - 1) 0
def GoodD' (n : Nat) (bad : List Int) (i : Nat) : Prop := ∀ h : i < bad.length, lastD bad i < bad[i] ∧ bad[i] < (n : Int)
theorem badsD_iff (n : Nat) (bad : List Int) : (∀ i, i < bad.length → GoodD n bad i) ↔ BadsD n bad := ⟨fun h i hi => h i hi hi, fun h i _ hi => h i hi⟩
theorem badsD_iff' (n : Nat) (bad : List Int) : (∀ i, i < bad.length → GoodD' n bad i) ↔ BadsD n bad := by
  constructor
  · intro h i
    induction i with
    | zero =>
      intro hi
      obtain ⟨h1, h2⟩ := h 0 hi hi
      have h1' : -1 < bad[0] := h1
      exact ⟨by omega, h2, fun h' => absurd h' (by omega)⟩
    | succ i ih =>
      intro hi
      have hi' : i < bad.length := by omega
      obtain ⟨h1, h2⟩ := h (i + 1) hi hi
      have hp := ih hi'
      have hl : lastD bad (i + 1) = bad[i] := by simp [lastD, hi']
      rw [hl] at h1
      exact ⟨by omega, h2, fun _ => h1⟩
  · intro h i hi _
    obtain ⟨h1, h2, h4⟩ := h i hi
    refine ⟨?_, h2⟩
    by_cases h0 : i = 0
    · subst h0; simp [lastD]; omega
    · have hlt : i - 1 < bad.length := by omega
      have := h4 (by omega)
      simp [lastD, h0, hlt]; exact this
def RtV (d : Drive) : Prop := 1 ≤ d.sectors.length ∧ d.sectors.length ≤ 256 ∧ (∀ s ∈ d.sectors, s.length = 128) ∧ BadsD d.sectors.length d.bad
theorem sect_iff (l : List (List UInt8)) : (∀ i, i < l.length → ∀ s, l[i]? = some s → s.length = 128) ↔ ∀ s ∈ l, s.length = 128 := by
  constructor
  · intro h s hs
    obtain ⟨i, hi, he⟩ := List.mem_iff_getElem.1 hs
    exact h i hi s (by rw [List.getElem?_eq_getElem hi, he])
  · intro h i _ s hs
    exact h s (List.mem_of_getElem? hs)
open Classical in
theorem ref_sects (d : Drive) (hl : d.sectors.length ≤ 9223372036854775807) : Lref15_Right_0 none ⟨(0 : Int), d⟩ = some (if ∀ s ∈ d.sectors, s.length = 128 then .inr d else .inl (false, d)) := by
  have hs := lim_scan (f := fun s => (Wref15_Right_0 s).run) (fun i : Nat => ⟨(i : Int), d⟩) d.sectors.length (fun i => ∀ s, d.sectors[i]? = some s → s.length = 128) (fun i => .inl (false, d)) (.inr d)
    (fun i hi hp => by
      have hp' : (d.sectors[i].length : Int) = 128 := by have := hp d.sectors[i] (List.getElem?_eq_getElem hi); omega
      simp [Wref15_Right_0, Tree.run, hi, wrap_succ hi hl, hp'])
    (fun i hi hp => by
      have hp' : ¬ (d.sectors[i].length : Int) = 128 := fun he => hp fun s hs => by
        rw [List.getElem?_eq_getElem hi] at hs
        rw [← Option.some.inj hs]; omega
      simp [Wref15_Right_0, Tree.run, hi, hp'])
    (by simp [Wref15_Right_0, Tree.run])
  rcases hs with ⟨h1, h2⟩ | ⟨i, hi, h1, h2⟩
  · rw [if_pos ((sect_iff _).1 h1)]; exact h2
  · rw [if_neg (fun h => h1 ((sect_iff _).2 h i hi))]; exact h2
open Classical in
theorem drive_sects (d : Drive) (hl : d.sectors.length ≤ 9223372036854775807) : Ldrive_Right_0 none ⟨d.sectors, (d.sectors.length : Int), (0 : Int), d⟩ = some (if ∀ s ∈ d.sectors, s.length = 128 then .inr d else .inl (false, d)) := by
  have hs := lim_scan (f := fun s => (Wdrive_Right_0 s).run) (fun i : Nat => ⟨d.sectors, (d.sectors.length : Int), (i : Int), d⟩) d.sectors.length (fun i => ∀ s, d.sectors[i]? = some s → s.length = 128) (fun i => .inl (false, d)) (.inr d)
    (fun i hi hp => by
      have hp' : (d.sectors[i].length : Int) = 128 := by have := hp d.sectors[i] (List.getElem?_eq_getElem hi); omega
      simp [Wdrive_Right_0, Tree.run, hi, wrap_succ hi hl, hp'])
    (fun i hi hp => by
      have hp' : ¬ (d.sectors[i].length : Int) = 128 := fun he => hp fun s hs => by
        rw [List.getElem?_eq_getElem hi] at hs
        rw [← Option.some.inj hs]; omega
      simp [Wdrive_Right_0, Tree.run, hi, hp'])
    (by simp [Wdrive_Right_0, Tree.run])
  rcases hs with ⟨h1, h2⟩ | ⟨i, hi, h1, h2⟩
  · rw [if_pos ((sect_iff _).1 h1)]; exact h2
  · rw [if_neg (fun h => h1 ((sect_iff _).2 h i hi))]; exact h2
theorem ref_badsD (d : Drive) (hb : d.bad.length ≤ 9223372036854775807) : ∃ r, Lref15_Right_1 none ⟨(0 : Int), d⟩ = some r ∧ (r = .inr () ∧ BadsD d.sectors.length d.bad ∨ r = .inl false ∧ ¬ BadsD d.sectors.length d.bad) := by
  obtain ⟨secs, bad⟩ := d
  dsimp only at hb ⊢
  have hs := lim_scan (f := fun s => (Wref15_Right_1 s).run) (fun i : Nat => ⟨(i : Int), ⟨secs, bad⟩⟩) bad.length (GoodD secs.length bad) (fun i => .inl false) (.inr ())
    (fun i hi hp => by
      obtain ⟨h1, h2, h4⟩ := hp hi
      have h5 : ¬ bad[i] < 0 := by omega
      have h6 : ¬ (secs.length : Int) ≤ bad[i] := by omega
      by_cases h0 : 0 < i
      · have h7 := h4 h0
        have h8 : ¬ bad[i] ≤ bad[i - 1] := by omega
        have h9 : IntKind.wrap .i64 ((i : Int) - 1) = ((i - 1 : Nat) : Int) := by rw [wrap_id] <;> omega
        have h10 : i - 1 < bad.length := by omega
        simp [Wref15_Right_1, Tree.run, hi, wrap_succ hi hb, h5, h6, h0, h9, h10, h8]
      · have h00 : i = 0 := by omega
        subst h00
        simp [Wref15_Right_1, Tree.run, hi, wrap_id (n := 1) (by omega) (by omega), h5, h6])
    (fun i hi hp => by
      by_cases h1 : bad[i] < 0
      · simp [Wref15_Right_1, Tree.run, hi, h1]
      by_cases h2 : (secs.length : Int) ≤ bad[i]
      · simp [Wref15_Right_1, Tree.run, hi, h1, h2]
      by_cases h0 : 0 < i
      · have h10 : i - 1 < bad.length := by omega
        have h9 : IntKind.wrap .i64 ((i : Int) - 1) = ((i - 1 : Nat) : Int) := by rw [wrap_id] <;> omega
        by_cases h4 : bad[i] ≤ bad[i - 1]
        · simp [Wref15_Right_1, Tree.run, hi, h1, h2, h0, h9, h10, h4]
        · exact absurd (fun h => ⟨by omega, by omega, fun _ => by omega⟩) hp
      · exact absurd (fun h => ⟨by omega, by omega, fun h' => absurd h' h0⟩) hp)
    (by simp [Wref15_Right_1, Tree.run])
  rcases hs with ⟨h1, h2⟩ | ⟨i, hi, h1, h2⟩
  · exact ⟨_, h2, .inl ⟨rfl, (badsD_iff _ _).1 h1⟩⟩
  · exact ⟨_, h2, .inr ⟨rfl, fun h => h1 ((badsD_iff _ _).2 h i hi)⟩⟩
theorem drive_badsD (d : Drive) (hb : d.bad.length ≤ 9223372036854775807) : ∃ r, Ldrive_Right_1 none ⟨(-1 : Int), d.bad, (d.bad.length : Int), (0 : Int), d⟩ = some r ∧ (r = .inr () ∧ BadsD d.sectors.length d.bad ∨ r = .inl false ∧ ¬ BadsD d.sectors.length d.bad) := by
  obtain ⟨secs, bad⟩ := d
  dsimp only at hb ⊢
  have hs := lim_scan (f := fun s => (Wdrive_Right_1 s).run) (fun i : Nat => ⟨lastD bad i, bad, (bad.length : Int), (i : Int), ⟨secs, bad⟩⟩) bad.length (GoodD' secs.length bad) (fun i => .inl false) (.inr ())
    (fun i hi hp => by
      obtain ⟨h1, h2⟩ := hp hi
      have h4 : ¬ bad[i] ≤ lastD bad i := by omega
      have h5 : ¬ (secs.length : Int) ≤ bad[i] := by omega
      have h6 : lastD bad (i + 1) = bad[i] := by simp [lastD, hi]
      simp [Wdrive_Right_1, Tree.run, hi, wrap_succ hi hb, h4, h5, h6])
    (fun i hi hp => by
      by_cases h1 : bad[i] ≤ lastD bad i
      · simp [Wdrive_Right_1, Tree.run, hi, h1]
      by_cases h3 : (secs.length : Int) ≤ bad[i]
      · simp [Wdrive_Right_1, Tree.run, hi, h1, h3]
      · exact absurd (fun h => ⟨by omega, by omega⟩) hp)
    (by simp [Wdrive_Right_1, Tree.run])
  rcases hs with ⟨h1, h2⟩ | ⟨i, hi, h1, h2⟩
  · exact ⟨_, h2, .inl ⟨rfl, (badsD_iff' _ _).1 h1⟩⟩
  · exact ⟨_, h2, .inr ⟨rfl, fun h => h1 ((badsD_iff' _ _).2 h i hi)⟩⟩
open Classical in
theorem ref_RightV_def (d : Drive) (hb : d.bad.length ≤ 9223372036854775807) : ref15_Right none d = some (decide (RtV d)) := by
  simp only [ref15_Right, Tref15_Right, Tree.run]
  by_cases h1 : (d.sectors.length : Int) < 1
  · have : ¬ RtV d := fun h => by have := h.1; omega
    simp [h1, this]
  by_cases h2 : 256 < (d.sectors.length : Int)
  · have : ¬ RtV d := fun h => by have := h.2.1; omega
    simp [h1, h2, this]
  simp only [h1, h2, decide_false, Bool.false_eq_true, if_false, ref_sects d (by omega), Option.bind_some]
  by_cases h3 : ∀ s ∈ d.sectors, s.length = 128
  · rw [if_pos h3]
    obtain ⟨r, hr, hc⟩ := ref_badsD d hb
    simp only [Sum.isLeft_inr, Bool.false_eq_true, if_false, Sum.getRight?_inr, Option.bind_some, hr]
    rcases hc with ⟨rfl, h4⟩ | ⟨rfl, h4⟩
    · have : RtV d := ⟨by omega, by omega, h3, h4⟩
      simp [this]
    · have : ¬ RtV d := fun h => h4 h.2.2.2
      simp [this]
  · rw [if_neg h3]
    have : ¬ RtV d := fun h => h3 h.2.2.1
    simp [this]
open Classical in
theorem drive_Right_def (d : Drive) (hb : d.bad.length ≤ 9223372036854775807) : drive_Right none d = some (decide (RtV d)) := by
  simp only [drive_Right, Tdrive_Right, Tree.run]
  by_cases h1 : (d.sectors.length : Int) < 1
  · have : ¬ RtV d := fun h => by have := h.1; omega
    simp [h1, this]
  by_cases h2 : 256 < (d.sectors.length : Int)
  · have : ¬ RtV d := fun h => by have := h.2.1; omega
    simp [h1, h2, this]
  simp only [h1, h2, decide_false, Bool.false_eq_true, if_false, drive_sects d (by omega), Option.bind_some]
  by_cases h3 : ∀ s ∈ d.sectors, s.length = 128
  · rw [if_pos h3]
    obtain ⟨r, hr, hc⟩ := drive_badsD d hb
    simp only [Sum.isLeft_inr, Bool.false_eq_true, if_false, Sum.getRight?_inr, Option.bind_some, hr]
    rcases hc with ⟨rfl, h4⟩ | ⟨rfl, h4⟩
    · have : RtV d := ⟨by omega, by omega, h3, h4⟩
      simp [this]
    · have : ¬ RtV d := fun h => h4 h.2.2.2
      simp [this]
  · rw [if_neg h3]
    have : ¬ RtV d := fun h => h3 h.2.2.1
    simp [this]
/-! ### controllers -/
def RtK (k : Disk) : Prop := (0 ≤ k.command ∧ k.command ≤ 3) ∧ (0 ≤ k.words ∧ k.words ≤ 65535) ∧ (0 ≤ k.addr ∧ k.addr ≤ 65535 ∧ k.addr % 2 = 0) ∧ (0 ≤ k.start ∧ k.start ≤ 65535) ∧ (0 ≤ k.left ∧ k.left ≤ 8) ∧ (k.ready = true ↔ k.left = 0) ∧ (k.left = 0 ∨ ¬ k.command = 0 ∧ ¬ k.words = 0) ∧ RtV k.drive
theorem word16_def (x : Int) : ref16_word x = some (decide (0 ≤ x ∧ x ≤ 65535)) := by
  simp only [ref16_word, Tref16_word, Tree.run]
  by_cases h : 0 ≤ x <;> simp [h]
theorem isWord16_def (x : Int) : diskctl_isWord x = some (decide (0 ≤ x ∧ x ≤ 65535)) := by
  simp only [diskctl_isWord, Tdiskctl_isWord, Tree.run, and65535, mask_fix x 65536 (by omega)]
  rw [Option.some.injEq, decide_eq_decide]
  omega
theorem beq_iff16 (a : Bool) (p : Prop) [Decidable p] : (a == decide p) = decide (a = true ↔ p) := by
  cases a <;> by_cases h : p <;> simp [h]
open Classical in
theorem ref_RightK_def (k : Disk) (hb : k.drive.bad.length ≤ 9223372036854775807) : ref16_Right none k = some (decide (RtK k)) := by
  simp only [ref16_Right, Tref16_Right, Tree.run, word16_def, Option.bind_some, ref_RightV_def k.drive hb, beq_iff16]
  by_cases h1 : k.command < 0
  · have : ¬ RtK k := fun h => by have := h.1; omega
    simp [h1, this]
  by_cases h2 : 3 < k.command
  · have : ¬ RtK k := fun h => by have := h.1; omega
    simp [h1, h2, this]
  by_cases h3 : 0 ≤ k.words ∧ k.words ≤ 65535
  · by_cases h4 : 0 ≤ k.addr ∧ k.addr ≤ 65535
    · by_cases h5 : 0 ≤ k.start ∧ k.start ≤ 65535
      · by_cases h6 : k.addr % 2 = 0
        · by_cases h7 : k.left < 0
          · have : ¬ RtK k := fun h => by have := h.2.2.2.2.1; omega
            simp [h1, h2, h3, h4, h5, h6, h7, this, tmod_nn h4.1]
          by_cases h8 : 8 < k.left
          · have : ¬ RtK k := fun h => by have := h.2.2.2.2.1; omega
            simp [h1, h2, h3, h4, h5, h6, h7, h8, this, tmod_nn h4.1]
          by_cases h9 : k.ready = true ↔ k.left = 0
          · by_cases h10 : k.left = 0
            · have : RtK k ↔ RtV k.drive := ⟨fun h => h.2.2.2.2.2.2.2, fun h => ⟨by omega, h3, ⟨h4.1, h4.2, h6⟩, h5, by omega, h9, .inl h10, h⟩⟩
              simp [h1, h2, h3, h4, h5, h6, h9, h10, this, tmod_nn h4.1]
            · by_cases h11 : k.command = 0
              · have : ¬ RtK k := fun h => by rcases h.2.2.2.2.2.2.1 with h' | h' <;> omega
                have h9' : ¬ k.ready = true := fun h => h10 (h9.1 h)
                simp [h1, h2, h3, h4, h5, h6, h7, h8, h9', h10, h11, this, tmod_nn h4.1]
              · by_cases h12 : k.words = 0
                · have : ¬ RtK k := fun h => by rcases h.2.2.2.2.2.2.1 with h' | h' <;> omega
                  have h9' : ¬ k.ready = true := fun h => h10 (h9.1 h)
                  simp [h1, h2, h4, h5, h6, h7, h8, h9', h10, h11, h12, this, tmod_nn h4.1]
                · have : RtK k ↔ RtV k.drive := ⟨fun h => h.2.2.2.2.2.2.2, fun h => ⟨by omega, h3, ⟨h4.1, h4.2, h6⟩, h5, by omega, h9, .inr ⟨h11, h12⟩, h⟩⟩
                  have h9' : ¬ k.ready = true := fun h => h10 (h9.1 h)
                  simp [h1, h2, h3, h4, h5, h6, h7, h8, h9', h10, h11, h12, this, tmod_nn h4.1]
          · have : ¬ RtK k := fun h => h9 h.2.2.2.2.2.1
            simp [h1, h2, h3, h4, h5, h6, h7, h8, h9, this, tmod_nn h4.1]
        · have : ¬ RtK k := fun h => h6 h.2.2.1.2.2
          simp [h1, h2, h3, h4, h5, h6, this, tmod_nn h4.1]
      · have : ¬ RtK k := fun h => h5 h.2.2.2.1
        simp [h1, h2, h3, h4, h5, this]
    · have : ¬ RtK k := fun h => h4 ⟨h.2.2.1.1, h.2.2.1.2.1⟩
      simp [h1, h2, h3, h4, this]
  · have : ¬ RtK k := fun h => h3 h.2.1
    simp [h1, h2, h3, this]
open Classical in
theorem diskctl_Right_def (k : Disk) (hb : k.drive.bad.length ≤ 9223372036854775807) : diskctl_Right none k = some (decide (RtK k)) := by
  simp only [diskctl_Right, Tdiskctl_Right, Tree.run, isWord16_def, Option.bind_some, drive_Right_def k.drive hb, beq_iff16]
  by_cases hd : RtV k.drive
  · by_cases h1 : k.command < 0
    · have : ¬ RtK k := fun h => by have := h.1; omega
      simp [hd, h1, this]
    by_cases h2 : 3 < k.command
    · have : ¬ RtK k := fun h => by have := h.1; omega
      simp [hd, h1, h2, this]
    by_cases h3 : 0 ≤ k.words ∧ k.words ≤ 65535
    · by_cases h4 : 0 ≤ k.addr ∧ k.addr ≤ 65535
      · by_cases h5 : 0 ≤ k.start ∧ k.start ≤ 65535
        · by_cases h6 : k.addr % 2 = 0
          · have h6' : ¬ k.addr % 2 = 1 := by omega
            by_cases h7 : k.left < 0
            · have : ¬ RtK k := fun h => by have := h.2.2.2.2.1; omega
              simp [hd, h1, h2, h3, h4, h5, h6, h6', h7, this, tmod_nn h4.1]
            by_cases h8 : 8 < k.left
            · have : ¬ RtK k := fun h => by have := h.2.2.2.2.1; omega
              simp [hd, h1, h2, h3, h4, h5, h6, h6', h7, h8, this, tmod_nn h4.1]
            by_cases h9 : k.ready = true ↔ k.left = 0
            · by_cases h10 : k.left = 0
              · have : RtK k := ⟨by omega, h3, ⟨h4.1, h4.2, h6⟩, h5, by omega, h9, .inl h10, hd⟩
                simp [hd, h1, h2, h3, h4, h5, h6, h6', h9, h10, this, tmod_nn h4.1]
              · have h9' : ¬ k.ready = true := fun h => h10 (h9.1 h)
                by_cases h11 : k.command = 0
                · have : ¬ RtK k := fun h => by rcases h.2.2.2.2.2.2.1 with h' | h' <;> omega
                  simp [hd, h1, h2, h3, h4, h5, h6, h6', h7, h8, h9', h10, h11, this, tmod_nn h4.1]
                · by_cases h12 : k.words = 0
                  · have : ¬ RtK k := fun h => by rcases h.2.2.2.2.2.2.1 with h' | h' <;> omega
                    simp [hd, h1, h2, h4, h5, h6, h6', h7, h8, h9', h10, h11, h12, this, tmod_nn h4.1]
                  · have : RtK k := ⟨by omega, h3, ⟨h4.1, h4.2, h6⟩, h5, by omega, h9, .inr ⟨h11, h12⟩, hd⟩
                    simp [hd, h1, h2, h3, h4, h5, h6, h6', h7, h8, h9', h10, h11, h12, this, tmod_nn h4.1]
            · have : ¬ RtK k := fun h => h9 h.2.2.2.2.2.1
              simp [hd, h1, h2, h3, h4, h5, h6, h6', h7, h8, h9, this, tmod_nn h4.1]
          · have h6' : k.addr % 2 = 1 := by omega
            have : ¬ RtK k := fun h => h6 h.2.2.1.2.2
            simp [hd, h1, h2, h3, h4, h5, h6', this, tmod_nn h4.1]
        · have : ¬ RtK k := fun h => h5 h.2.2.2.1
          simp [hd, h1, h2, h3, h4, h5, this]
      · have : ¬ RtK k := fun h => h4 ⟨h.2.2.1.1, h.2.2.1.2.1⟩
        simp [hd, h1, h2, h3, h4, this]
    · have : ¬ RtK k := fun h => h3 h.2.1
      simp [hd, h1, h2, h3, this]
  · have : ¬ RtK k := fun h => hd h.2.2.2.2.2.2.2
    simp [hd, this]
/-! ### registers -/
theorem bit16_def (b : Bool) (n : Int) : diskctl_bit b n = some (if b then n else 0) := by cases b <;> rfl
theorem or_bit16 (a : Int) (b : Bool) (n : Nat) (hn : n ≤ 15) (h0 : 0 ≤ a) (h1 : a ≤ 65535) (ha : a < 2 ^ n) : IntKind.wrap .i64 ((BitVec.ofInt 64 a ||| BitVec.ofInt 64 (if b then ((2 : Int) ^ n) else 0)).toNat : Int) = a + (if b then (2 : Int) ^ n else 0) := by
  have hp : (2 : Int) ^ n ≤ 32768 := by
    have : (2 : Nat) ^ n ≤ 2 ^ 15 := Nat.pow_le_pow_right (by omega) hn
    have e : ((2 : Int) ^ n) = ((2 ^ n : Nat) : Int) := by simp
    rw [e]; omega
  have hpos : 0 < (2 : Int) ^ n := by
    have : 0 < (2 : Nat) ^ n := Nat.pow_pos (by omega)
    have e : ((2 : Int) ^ n) = ((2 ^ n : Nat) : Int) := by simp
    rw [e]; omega
  cases b
  · exact or_add' n a 0 h0 ha (by omega) (by simp) (by omega)
  · exact or_add' n a _ h0 ha (by simp; omega) (by simp) (by simp; omega)
def stat16 (k : Disk) : Int := 2 * k.command + (if k.enable then 64 else 0) + (if k.ready then 128 else 0) + (if k.error then 32768 else 0)
def got16 (k : Disk) (r : Int) : Int × Bool := if r = 2 then (k.words, true) else if r = 4 then (k.addr, true) else if r = 6 then (k.start, true) else if r = 0 then (stat16 k, true) else (0, false)
theorem ref_Read16_def (k : Disk) (r : Int) (hc : 0 ≤ k.command ∧ k.command ≤ 3) : ref16_Read k r = some (got16 k r) := by
  simp only [ref16_Read, Tref16_Read, Tree.run, got16]
  by_cases h2 : r = 2
  · simp [h2]
  by_cases h4 : r = 4
  · simp [h4]
  by_cases h6 : r = 6
  · simp [h6]
  by_cases h0 : r = 0
  · have e0 : IntKind.wrap .i64 (2 * k.command) = 2 * k.command := wrap_id (by omega) (by omega)
    have e1 : IntKind.wrap .i64 (2 * k.command + 64) = 2 * k.command + 64 := wrap_id (by omega) (by omega)
    have e2 : IntKind.wrap .i64 (2 * k.command + 128) = 2 * k.command + 128 := wrap_id (by omega) (by omega)
    have e3 : IntKind.wrap .i64 (2 * k.command + 32768) = 2 * k.command + 32768 := wrap_id (by omega) (by omega)
    have e4 : IntKind.wrap .i64 (2 * k.command + 64 + 128) = 2 * k.command + 64 + 128 := wrap_id (by omega) (by omega)
    have e5 : IntKind.wrap .i64 (2 * k.command + 64 + 32768) = 2 * k.command + 64 + 32768 := wrap_id (by omega) (by omega)
    have e6 : IntKind.wrap .i64 (2 * k.command + 128 + 32768) = 2 * k.command + 128 + 32768 := wrap_id (by omega) (by omega)
    have e7 : IntKind.wrap .i64 (2 * k.command + 64 + 128 + 32768) = 2 * k.command + 64 + 128 + 32768 := wrap_id (by omega) (by omega)
    subst h0
    unfold stat16
    cases k.enable <;> cases k.ready <;> cases k.error <;> simp [e0, e1, e2, e3, e4, e5, e6, e7]
  · simp [h2, h4, h6, h0]
theorem Read16_def (k : Disk) (r : Int) (hc : 0 ≤ k.command ∧ k.command ≤ 3) : diskctl_Read k r = some (got16 k r) := by
  simp only [diskctl_Read, Tdiskctl_Read, Tree.run, bit16_def, Option.bind_some, got16, decide_eq_true_eq]
  by_cases h0 : r = 0
  · have e1 : IntKind.wrap .i64 (k.command * 2 ^ (min ((1 : Int)).toNat 64)) = 2 * k.command := by
      rw [show (2 : Int) ^ (min ((1 : Int)).toNat 64) = 2 by decide, wrap_id (by omega) (by omega)]; omega
    have b6 : (if k.enable = true then (64 : Int) else 0) ≤ 64 ∧ 0 ≤ (if k.enable = true then (64 : Int) else 0) := by split <;> omega
    have b7 : (if k.ready = true then (128 : Int) else 0) ≤ 128 ∧ 0 ≤ (if k.ready = true then (128 : Int) else 0) := by split <;> omega
    have o6 := or_bit16 (2 * k.command) k.enable 6 (by omega) (by omega) (by omega) (show 2 * k.command < 64 by omega)
    rw [show (2 : Int) ^ 6 = 64 by decide] at o6
    have o7 := or_bit16 (2 * k.command + (if k.enable = true then (64 : Int) else 0)) k.ready 7 (by omega) (by omega) (by omega) (show _ < (128 : Int) by omega)
    rw [show (2 : Int) ^ 7 = 128 by decide] at o7
    have o8 := or_bit16 (2 * k.command + (if k.enable = true then (64 : Int) else 0) + (if k.ready = true then (128 : Int) else 0)) k.error 15 (by omega) (by omega) (by omega) (show _ < (32768 : Int) by omega)
    rw [show (2 : Int) ^ 15 = 32768 by decide] at o8
    have h2 : ¬ (0 : Int) = 2 := by omega
    have h4 : ¬ (0 : Int) = 4 := by omega
    have h6 : ¬ (0 : Int) = 6 := by omega
    simp only [h0, if_true, h2, h4, h6, if_false, show (0 : Int) ≤ 1 by omega, e1, o6, o7, o8, stat16]
  · by_cases h2 : r = 2
    · simp [h2]
    by_cases h4 : r = 4
    · simp [h4]
    by_cases h6 : r = 6
    · simp [h6]
    simp [h2, h4, h6, h0]
def nilK : Disk := Disk.mk (Drive.mk [] []) false false false 0 0 0 0 0
def en16 (v : Int) : Bool := !decide (IntKind.wrap .i64 ((BitVec.ofInt 64 v &&& BitVec.ofInt 64 (64 : Int)).toNat : Int) = 0)
def cmd16 (k : Disk) (v : Int) : Disk := if k.ready = true ∧ ¬ v % 2 = 0 then (if ¬ v / 2 % 4 = 0 ∧ ¬ k.words = 0 then { k with enable := en16 v, error := false, command := v / 2 % 4, ready := false, left := 8 } else { k with enable := en16 v, error := false, command := v / 2 % 4 }) else { k with enable := en16 v }
def write16 (k : Disk) (r v : Int) : Disk × Bool := if r = 0 then (cmd16 k v, true) else if r = 2 then (if k.ready then { k with words := v % 65536 } else k, true) else if r = 4 then (if k.ready then { k with addr := v % 65536 - v % 65536 % 2 } else k, true) else if r = 6 then (if k.ready then { k with start := v % 65536 } else k, true) else (nilK, false)
theorem shr1_16 (v : Int) : v.fdiv (2 ^ (min ((1 : Int)).toNat 64)) = v / 2 := by
  rw [show (2 : Int) ^ (min ((1 : Int)).toNat 64) = 2 by decide, fdiv_pos _ (by omega)]
theorem and64 (v : Int) : IntKind.wrap .i64 ((BitVec.ofInt 64 v &&& BitVec.ofInt 64 (64 : Int)).toNat : Int) = v / 64 % 2 * 64 := by
  rw [nat_and]
  have h := nat_and_up (v % 18446744073709551616).toNat 1 6
  have e1 : ((64 : Int) % 18446744073709551616).toNat = (2 ^ 1 - 1) * 2 ^ 6 := by decide
  rw [e1, h]
  have e2 : (2 : Nat) ^ 6 = 64 := by decide
  have e3 : (2 : Nat) ^ 1 = 2 := by decide
  rw [e2, e3, wrap_id (by omega) (by omega)]
  omega
theorem and65534 (v : Int) : IntKind.wrap .i64 ((BitVec.ofInt 64 v &&& BitVec.ofInt 64 (65534 : Int)).toNat : Int) = v % 65536 - v % 2 := by
  rw [nat_and]
  have h := nat_and_up (v % 18446744073709551616).toNat 15 1
  have e1 : ((65534 : Int) % 18446744073709551616).toNat = (2 ^ 15 - 1) * 2 ^ 1 := by decide
  rw [e1, h]
  have e2 : (2 : Nat) ^ 15 = 32768 := by decide
  have e3 : (2 : Nat) ^ 1 = 2 := by decide
  rw [e2, e3, wrap_id (by omega) (by omega)]
  omega
theorem en16_low (v : Int) : en16 (v % 65536) = en16 v := by
  unfold en16
  rw [and64, and64]
  congr 2
  rw [eq_iff_iff]
  omega
theorem cmd16_low (k : Disk) (v : Int) : cmd16 k (v % 65536) = cmd16 k v := by
  unfold cmd16
  rw [en16_low, show v % 65536 % 2 = v % 2 by omega, show v % 65536 / 2 % 4 = v / 2 % 4 by omega]
theorem command16_def (k : Disk) (v : Int) : diskctl_command k v = some (cmd16 k v) := by
  obtain ⟨d, a, b, c, e, f, g, h, i⟩ := k
  simp only [diskctl_command, Tdiskctl_command, Tree.run, cmd16, shr1_16, and1, and3, show (0 : Int) ≤ 1 by omega, decide_true, if_true, decide_eq_true_eq]
  cases b
  · simp [en16]
  · by_cases h1 : v % 2 = 0
    · simp [h1, en16]
    · by_cases h2 : v / 2 % 4 = 0
      · simp [h1, h2, en16]
      · by_cases h3 : f = 0
        · simp [h1, h2, h3, en16]
        · simp [h1, h2, h3, en16]
theorem Write16_def (k : Disk) (r v : Int) : diskctl_Write k r v = some (write16 k r v) := by
  simp only [diskctl_Write, Tdiskctl_Write, Tree.run, command16_def, Option.bind_some, and65535, cmd16_low, write16, decide_eq_true_eq, andNot1 (v % 65536) (by omega) (by omega), nilK]
  by_cases h0 : r = 0
  · simp [h0]
  by_cases h2 : r = 2
  · cases hr : k.ready <;> simp [h2]
  by_cases h4 : r = 4
  · cases hr : k.ready <;> simp [h4]
  by_cases h6 : r = 6
  · cases hr : k.ready <;> simp [h6]
  · simp [h0, h2, h4, h6]
theorem ref_Write16_def (k : Disk) (r v : Int) : ref16_Write k r v = some (write16 k r v) := by
  simp only [ref16_Write, Tref16_Write, Tree.run, and65535, and65534, and1, and3, shr1_16, write16, cmd16, decide_eq_true_eq, nilK, show (0 : Int) ≤ 1 by omega, decide_true, if_true]
  by_cases h0 : r = 0
  · subst h0
    cases hr : k.ready
    · simp [en16]
    · by_cases h1 : v % 2 = 0
      · simp [h1, en16]
      · by_cases h2 : v / 2 % 4 = 0
        · simp [h1, h2, en16]
        · by_cases h3 : k.words = 0
          · simp [h1, h2, h3, en16]
          · simp [h1, h2, h3, en16]
  have e : v % 65536 % 2 = v % 2 := by omega
  by_cases h2 : r = 2
  · cases hr : k.ready <;> simp [h2]
  by_cases h4 : r = 4
  · cases hr : k.ready <;> simp [h4, e]
  by_cases h6 : r = 6
  · cases hr : k.ready <;> simp [h6]
  · simp [h0, h2, h4, h6]
theorem cmd16_right (k : Disk) (v : Int) (h : RtK k) : RtK (cmd16 k v) := by
  obtain ⟨h1, h2, h3, h4, h5, h6, h7, h8⟩ := h
  unfold cmd16
  split
  · rename_i hc
    have hl := h6.1 hc.1
    split
    · rename_i hd
      exact ⟨by dsimp only; omega, h2, h3, h4, by dsimp only; omega, by simp, .inr ⟨hd.1, hd.2⟩, h8⟩
    · exact ⟨by dsimp only; omega, h2, h3, h4, h5, h6, .inl hl, h8⟩
  · exact ⟨h1, h2, h3, h4, h5, h6, h7, h8⟩
theorem write16_right (k : Disk) (r v : Int) (h : RtK k) (hok : (write16 k r v).2 = true) : RtK (write16 k r v).1 := by
  have h0 := h
  obtain ⟨h1, h2, h3, h4, h5, h6, h7, h8⟩ := h
  unfold write16 at hok ⊢
  split
  · exact cmd16_right k v h0
  · split
    · dsimp only
      split
      · rename_i hr
        have hl := h6.1 hr
        exact ⟨h1, by dsimp only; omega, h3, h4, h5, h6, .inl hl, h8⟩
      · exact h0
    · split
      · dsimp only
        split
        · rename_i hr
          have hl := h6.1 hr
          exact ⟨h1, h2, by dsimp only; omega, h4, h5, h6, .inl hl, h8⟩
        · exact h0
      · split
        · dsimp only
          split
          · rename_i hr
            have hl := h6.1 hr
            exact ⟨h1, h2, h3, by dsimp only; omega, h5, h6, .inl hl, h8⟩
          · exact h0
        · rename_i a b c d
          rw [if_neg a, if_neg b, if_neg c, if_neg d] at hok
          cases hok
theorem cmd16_drive (k : Disk) (v : Int) : (cmd16 k v).drive = k.drive := by
  unfold cmd16
  split
  · split <;> rfl
  · rfl
theorem write16_drive (k : Disk) (r v : Int) (hok : (write16 k r v).2 = true) : (write16 k r v).1.drive = k.drive := by
  unfold write16 at hok ⊢
  split
  · exact cmd16_drive k v
  · split
    · dsimp only; split <;> rfl
    · split
      · dsimp only; split <;> rfl
      · split
        · dsimp only; split <;> rfl
        · rename_i a b c d
          rw [if_neg a, if_neg b, if_neg c, if_neg d] at hok
          cases hok
end Go.Proofs.Ytenckckimagkkaa
end
section
set_option linter.unusedSimpArgs false
set_option linter.unusedVariables false
namespace Go.Proofs.Ytenckckimagkkaa.C08
open Go Go.Ab
theorem wrap_succ {i n : Nat} (h : i < n) (hn : n ≤ 9223372036854775807) : IntKind.wrap .i64 ((i : Int) + 1) = ((i + 1 : Nat) : Int) := by rw [wrap_id] <;> omega
def okA (m : List Int) (a : Int) (b : Bool) : Prop := 0 ≤ a ∧ a < 2 * (m.length : Int) ∧ (b = true ∨ a % 2 = 0)
instance (m a b) : Decidable (okA m a b) := by unfold okA; infer_instance
def wordAt (m : List Int) (a : Int) : Int := m.getD (a / 2).toNat 0
def byteAt (m : List Int) (a : Int) : Int := if a % 2 = 0 then wordAt m a % 256 else wordAt m a / 256 % 256
theorem get_word {m : List Int} {a : Int} (h0 : 0 ≤ a) (h1 : a < 2 * (m.length : Int)) : m[(a / 2).toNat]? = some (wordAt m a) := by
  have : (a / 2).toNat < m.length := by omega
  simp [wordAt, this]
theorem wrap2 {m : List Int} (hm : m.length ≤ 100000) : IntKind.wrap .i64 (2 * (m.length : Int)) = 2 * (m.length : Int) := wrap_id (by omega) (by omega)
theorem half {a : Int} (h0 : 0 ≤ a) (h1 : a ≤ 9223372036854775807) : IntKind.wrap .i64 (a.tdiv 2) = a / 2 := by rw [tdiv_nn h0, wrap_id (by omega) (by omega)]
def readM (m bad : List Int) (a : Int) (b : Bool) : Int × Int := if okA m a b then (if a - a % 2 ∈ bad then (0, 9) else (if b then byteAt m a else wordAt m a, 0)) else (0, 1)
/-- the word after a byte is written -/
def putB (w a b : Int) : Int := if a % 2 = 0 then w / 256 * 256 + b else w % 256 + b * 256
def putW (w a : Int) (b : Bool) (v : Int) : Int := if b then putB w a (v % 256) else v % 65536
theorem bits_lo (w b : Int) (h0 : 0 ≤ w) (h1 : w ≤ 65535) (hb : 0 ≤ b ∧ b ≤ 255) : IntKind.wrap .i64 ((BitVec.ofInt 64 (IntKind.wrap .i64 ((BitVec.ofInt 64 w &&& ~~~BitVec.ofInt 64 (255 : Int)).toNat : Int)) ||| BitVec.ofInt 64 b).toNat : Int) = w / 256 * 256 + b := by
  rw [andNot255 w h0 (by omega), or_add 8 _ _ hb.1 (by omega) (by omega) (by omega) (by omega)]
  omega
theorem bits_lo' (w b : Int) (h0 : 0 ≤ w) (h1 : w ≤ 65535) (hb : 0 ≤ b ∧ b ≤ 255) : IntKind.wrap .i64 ((BitVec.ofInt 64 (IntKind.wrap .i64 ((BitVec.ofInt 64 w &&& BitVec.ofInt 64 (65280 : Int)).toNat : Int)) ||| BitVec.ofInt 64 b).toNat : Int) = w / 256 * 256 + b := by
  rw [and65280 w h0 (by omega), or_add 8 _ _ hb.1 (by omega) (by omega) (by omega) (by omega)]
  omega
theorem bits_hi (w b : Int) (h0 : 0 ≤ w) (h1 : w ≤ 65535) (hb : 0 ≤ b ∧ b ≤ 255) : IntKind.wrap .i64 ((BitVec.ofInt 64 (IntKind.wrap .i64 ((BitVec.ofInt 64 w &&& ~~~BitVec.ofInt 64 (65280 : Int)).toNat : Int)) ||| BitVec.ofInt 64 (b * 256)).toNat : Int) = w % 256 + b * 256 := by
  rw [andNot65280 w h0 (by omega), show w - w / 256 % 256 * 256 = w % 256 by omega, or_add' 8 _ _ (by omega) (by omega) (by omega) (by omega) (by omega)]
theorem bits_hi' (w b : Int) (h0 : 0 ≤ w) (h1 : w ≤ 65535) (hb : 0 ≤ b ∧ b ≤ 255) : IntKind.wrap .i64 ((BitVec.ofInt 64 (IntKind.wrap .i64 ((BitVec.ofInt 64 w &&& BitVec.ofInt 64 (255 : Int)).toNat : Int)) ||| BitVec.ofInt 64 (b * 256)).toNat : Int) = w % 256 + b * 256 := by
  rw [and255, or_add' 8 _ _ (by omega) (by omega) (by omega) (by omega) (by omega)]
theorem bits_w (w v : Int) (h0 : 0 ≤ w) (h1 : w ≤ 65535) (hv : 0 ≤ v ∧ v ≤ 65535) : IntKind.wrap .i64 ((BitVec.ofInt 64 (IntKind.wrap .i64 ((BitVec.ofInt 64 w &&& ~~~BitVec.ofInt 64 (65535 : Int)).toNat : Int)) ||| BitVec.ofInt 64 v).toNat : Int) = v := by
  rw [andNot65535 w h0 (by omega), show w - w % 65536 = 0 by omega, or_add 16 _ _ hv.1 (by omega) (by omega) (by omega) (by omega)]
  omega
/-- a byte is put into memory -/
def setB (m : List Int) (a b : Int) : List Int := m.set (a / 2).toNat (putB (wordAt m a) a b)
def Words (m : List Int) : Prop := m.length ≤ 100000 ∧ ∀ w ∈ m, 0 ≤ w ∧ w ≤ 65535
theorem word_in {m : List Int} (hm : Words m) {a : Int} (h0 : 0 ≤ a) (h1 : a < 2 * (m.length : Int)) : 0 ≤ wordAt m a ∧ wordAt m a ≤ 65535 := hm.2 _ (List.mem_of_getElem? (get_word h0 h1))
theorem copied_def (m : List Int) (hm : m.length ≤ 100000) : memory_copied m = some m := by
  simp [memory_copied, Tmemory_copied, Tree.run]
  omega
/-- the bad addresses without one -/
def without (bad : List Int) (c : Int) : List Int := bad.filter fun y => decide (y ≠ c)
theorem without_more {l : List Int} {c : Int} {i : Nat} (hi : i < l.length) : without (l.take (i + 1)) c = without (l.take i) c ++ (if l[i] = c then [] else [l[i]]) := by
  rw [take_one_more hi]
  unfold without
  rw [List.filter_append]
  by_cases he : l[i] = c <;> simp [he]
theorem without_take_eq {l : List Int} {c : Int} {k : Nat} (h : ∀ i, i < k → l[i]? ≠ some c) : without (l.take k) c = l.take k := by
  unfold without
  rw [List.filter_eq_self]
  intro y hy
  obtain ⟨i, hi, he⟩ := List.mem_iff_getElem.1 hy
  rw [List.getElem_take] at he
  have hlt : i < k := by rw [List.length_take] at hi; omega
  have := h i hlt
  rw [List.getElem?_eq_getElem (by rw [List.length_take] at hi; omega), he] at this
  simp at this ⊢
  exact this
/-- memory after an access that writes -/
def writeM (m bad : List Int) (a : Int) (b : Bool) (v : Int) : List Int × List Int × Int := if okA m a b then (m.set (a / 2).toNat (putW (wordAt m a) a b v), without bad (a - a % 2), 0) else ([], [], 1)
def Bads (n : Nat) (bad : List Int) : Prop := ∀ i, (h : i < bad.length) → 0 ≤ bad[i] ∧ bad[i] < 2 * (n : Int) ∧ bad[i] % 2 = 0 ∧ ∀ h' : 0 < i, bad[i - 1] < bad[i]
def Sized (n : Int) : Prop := 256 ≤ n ∧ n ≤ 32768 ∧ n % 64 = 0
instance (n) : Decidable (Sized n) := by unfold Sized; infer_instance
def Rt (m bad : List Int) : Prop := Sized (2 * (m.length : Int)) ∧ (∀ w ∈ m, 0 ≤ w ∧ w ≤ 65535) ∧ Bads m.length bad
theorem Size_def (n : Int) : ref08_Size n = some (decide (Sized n)) := by
  simp only [ref08_Size, Tref08_Size, Tree.run]
  by_cases h0 : 0 ≤ n
  · rw [tmod_nn h0]
    simp only [decide_eq_true_eq, show ¬ (64 : Int) = 0 by omega, if_false]
    repeat' split
    all_goals (rw [Option.some.injEq]; first | (symm; rw [decide_eq_false_iff_not]; unfold Sized; omega) | (rw [decide_eq_decide]; unfold Sized; omega))
  · have : ¬ Sized n := fun h => h0 (by have := h.1; omega)
    simp [this]; omega
theorem words_iff (m : List Int) : (∀ i, i < m.length → ∀ y, m[i]? = some y → 0 ≤ y ∧ y ≤ 65535) ↔ ∀ w ∈ m, 0 ≤ w ∧ w ≤ 65535 := by
  constructor
  · intro h w hw
    obtain ⟨i, hi, he⟩ := List.mem_iff_getElem.1 hw
    exact h i hi w (by rw [List.getElem?_eq_getElem hi, he])
  · intro h i hi y hy
    exact h y (List.mem_of_getElem? hy)
theorem ref_words (m bad : List Int) (hm : m.length ≤ 100000) : Lref08_Right_0 none ⟨m, bad, (0 : Int)⟩ = some (if ∀ w ∈ m, 0 ≤ w ∧ w ≤ 65535 then .inr (m, bad) else .inl (m, bad, false)) := by
  have hs := lim_scan (f := fun s => (Wref08_Right_0 s).run) (fun i : Nat => ⟨m, bad, (i : Int)⟩) m.length (fun i => ∀ y, m[i]? = some y → 0 ≤ y ∧ y ≤ 65535) (fun i => .inl (m, bad, false)) (.inr (m, bad))
    (fun i hi hp => by
      have hp' := hp m[i] (List.getElem?_eq_getElem hi)
      have h1 : ¬ m[i] < 0 := by omega
      have h2 : ¬ 65535 < m[i] := by omega
      simp [Wref08_Right_0, Tree.run, hi, wrap_succ hi (show m.length ≤ 9223372036854775807 by omega), h1, h2])
    (fun i hi hp => by
      have hp' : ¬ (0 ≤ m[i] ∧ m[i] ≤ 65535) := fun h => hp fun y hy => by
        rw [List.getElem?_eq_getElem hi] at hy
        rw [← Option.some.inj hy]; exact h
      by_cases h1 : m[i] < 0
      · simp [Wref08_Right_0, Tree.run, hi, h1]
      · have h2 : 65535 < m[i] := by omega
        simp [Wref08_Right_0, Tree.run, hi, h1, h2])
    (by simp [Wref08_Right_0, Tree.run])
  rcases hs with ⟨h1, h2⟩ | ⟨i, hi, h1, h2⟩
  · rw [if_pos ((words_iff m).1 h1)]; exact h2
  · rw [if_neg fun h => h1 ((words_iff m).2 h i hi)]; exact h2
/-- a bad address in its place -/
def GoodAt (n : Nat) (bad : List Int) (i : Nat) : Prop := ∀ h : i < bad.length, 0 ≤ bad[i] ∧ bad[i] < 2 * (n : Int) ∧ bad[i] % 2 = 0 ∧ ∀ h' : 0 < i, bad[i - 1] < bad[i]
def lastOf (bad : List Int) (i : Nat) : Int := if i = 0 then -1 else bad.getD (i - 1) 0
def GoodAt' (n : Nat) (bad : List Int) (i : Nat) : Prop := ∀ h : i < bad.length, lastOf bad i < bad[i] ∧ bad[i].tmod 2 = 0 ∧ bad[i] < 2 * (n : Int)
theorem bads_iff (n : Nat) (bad : List Int) : (∀ i, i < bad.length → GoodAt n bad i) ↔ Bads n bad := ⟨fun h i hi => h i hi hi, fun h i _ hi => h i hi⟩
theorem bads_iff' (n : Nat) (bad : List Int) : (∀ i, i < bad.length → GoodAt' n bad i) ↔ Bads n bad := by
  constructor
  · intro h i
    induction i with
    | zero =>
      intro hi
      obtain ⟨h1, h2, h3⟩ := h 0 hi hi
      have h1' : -1 < bad[0] := h1
      rw [tmod_nn (by omega)] at h2
      exact ⟨by omega, h3, h2, fun h' => absurd h' (by omega)⟩
    | succ i ih =>
      intro hi
      have hi' : i < bad.length := by omega
      obtain ⟨h1, h2, h3⟩ := h (i + 1) hi hi
      have hp := ih hi'
      have hl : lastOf bad (i + 1) = bad[i] := by simp [lastOf, hi']
      rw [hl] at h1
      rw [tmod_nn (by omega)] at h2
      exact ⟨by omega, h3, h2, fun _ => h1⟩
  · intro h i hi _
    obtain ⟨h1, h2, h3, h4⟩ := h i hi
    refine ⟨?_, by rw [tmod_nn h1]; exact h3, h2⟩
    by_cases h0 : i = 0
    · subst h0; simp [lastOf]; omega
    · have hlt : i - 1 < bad.length := by omega
      have := h4 (by omega)
      simp [lastOf, h0, hlt]; exact this
theorem ref_bads (m bad : List Int) (hm : m.length ≤ 100000) (hb : bad.length ≤ 100000) : ∃ r, Lref08_Right_1 none ⟨m, bad, (0 : Int)⟩ = some r ∧ (r = .inr () ∧ Bads m.length bad ∨ r = .inl false ∧ ¬ Bads m.length bad) := by
  have hs := lim_scan (f := fun s => (Wref08_Right_1 s).run) (fun i : Nat => ⟨m, bad, (i : Int)⟩) bad.length (GoodAt m.length bad) (fun i => .inl false) (.inr ())
    (fun i hi hp => by
      obtain ⟨h1, h2, h3, h4⟩ := hp hi
      have h5 : ¬ bad[i] < 0 := by omega
      have h6 : ¬ 2 * (m.length : Int) ≤ bad[i] := by omega
      by_cases h0 : 0 < i
      · have h7 := h4 h0
        have h8 : ¬ bad[i] ≤ bad[i - 1] := by omega
        have h9 : IntKind.wrap .i64 ((i : Int) - 1) = ((i - 1 : Nat) : Int) := by rw [wrap_id] <;> omega
        have h10 : i - 1 < bad.length := by omega
        simp [Wref08_Right_1, Tree.run, hi, wrap_succ hi (show bad.length ≤ 9223372036854775807 by omega), h5, wrap2 hm, h6, tmod_nn h1, h3, h0, h9, h10, h8]
      · have h00 : i = 0 := by omega
        subst h00
        simp [Wref08_Right_1, Tree.run, hi, wrap_id (n := 1) (by omega) (by omega), h5, wrap2 hm, h6, tmod_nn h1, h3])
    (fun i hi hp => by
      by_cases h1 : bad[i] < 0
      · simp [Wref08_Right_1, Tree.run, hi, h1]
      by_cases h2 : 2 * (m.length : Int) ≤ bad[i]
      · simp [Wref08_Right_1, Tree.run, hi, h1, wrap2 hm, h2]
      by_cases h3 : bad[i] % 2 = 0
      · by_cases h0 : 0 < i
        · have h10 : i - 1 < bad.length := by omega
          have h9 : IntKind.wrap .i64 ((i : Int) - 1) = ((i - 1 : Nat) : Int) := by rw [wrap_id] <;> omega
          by_cases h4 : bad[i] ≤ bad[i - 1]
          · simp [Wref08_Right_1, Tree.run, hi, h1, wrap2 hm, h2, tmod_nn (show 0 ≤ bad[i] by omega), h3, h0, h9, h10, h4]
          · exact absurd (fun h => ⟨by omega, by omega, h3, fun _ => by omega⟩) hp
        · exact absurd (fun h => ⟨by omega, by omega, h3, fun h' => absurd h' h0⟩) hp
      · simp [Wref08_Right_1, Tree.run, hi, h1, wrap2 hm, h2, tmod_nn (show 0 ≤ bad[i] by omega), h3])
    (by simp [Wref08_Right_1, Tree.run])
  rcases hs with ⟨h1, h2⟩ | ⟨i, hi, h1, h2⟩
  · exact ⟨_, h2, .inl ⟨rfl, (bads_iff _ _).1 h1⟩⟩
  · exact ⟨_, h2, .inr ⟨rfl, fun h => h1 ((bads_iff _ _).2 h i hi)⟩⟩
open Classical in
theorem ref_Right_def (m bad : List Int) (hm : m.length ≤ 100000) (hb : bad.length ≤ 100000) : ref08_Right none m bad = some (decide (Rt m bad)) := by
  obtain ⟨r, hr, hc⟩ := ref_bads m bad hm hb
  simp only [ref08_Right, Tref08_Right, Tree.run, wrap2 hm, Size_def, Option.bind_some, ref_words m bad hm]
  by_cases h1 : Sized (2 * (m.length : Int))
  · by_cases h2 : ∀ w ∈ m, 0 ≤ w ∧ w ≤ 65535
    · rw [if_pos h2]
      rcases hc with ⟨e, h3⟩ | ⟨e, h3⟩
      · simp [h1, hr, e, Rt, h3]; exact h2
      · simp [h1, hr, e, Rt, h3]
    · rw [if_neg h2]
      have : ¬ Rt m bad := fun h => h2 h.2.1
      simp [h1, this]
  · have : ¬ Rt m bad := fun h => h1 h.1
    simp [h1, this]
/-- a range within memory -/
def Wn (m : List Int) (a n : Int) : Prop := 0 ≤ a ∧ 0 ≤ n ∧ a ≤ 2 * (m.length : Int) ∧ n ≤ 2 * (m.length : Int) - a
instance (m a n) : Decidable (Wn m a n) := by unfold Wn; infer_instance
theorem within_def (m : List Int) (a n : Int) (hm : m.length ≤ 100000) : memory_within m a n = some (decide (Wn m a n)) := by
  simp only [memory_within, Tmemory_within, Tree.run, wrap2 hm, decide_eq_true_eq]
  by_cases h0 : 0 ≤ a
  · by_cases h1 : 0 ≤ n
    · by_cases h2 : a ≤ 2 * (m.length : Int)
      · rw [if_pos h0, if_pos h1, if_pos h2, wrap_id (by omega) (by omega), Option.some.injEq, decide_eq_decide]
        unfold Wn; omega
      · have : ¬ Wn m a n := fun h => h2 h.2.2.1
        simp [h0, h1, h2, this]
    · have : ¬ Wn m a n := fun h => h1 h.2.1
      simp [h0, h1, this]
  · have : ¬ Wn m a n := fun h => h0 h.1
    simp [h0, this]
theorem up_def {a : Int} (h0 : 0 ≤ a) : IntKind.wrap .i64 (a.tmod 2 * 8) = if a % 2 = 0 then 0 else 8 := by
  rw [tmod_nn h0, wrap_id (by omega) (by omega)]
  split <;> omega
theorem shr_byte (m : List Int) {a : Int} (h0 : 0 ≤ a) : IntKind.wrap .u8 ((wordAt m a).fdiv (2 ^ (min (IntKind.wrap .i64 (a.tmod 2 * 8)).toNat 64))) = byteAt m a := by
  rw [IntKind.wrap_u8, up_def h0, byteAt]
  split
  · rw [show (2 : Int) ^ (min ((0 : Int)).toNat 64) = 1 by decide, fdiv_pos _ (by omega), Int.ediv_one]
  · rw [show (2 : Int) ^ (min ((8 : Int)).toNat 64) = 256 by decide, fdiv_pos _ (by omega)]
theorem byteAt_in (m : List Int) (a : Int) : 0 ≤ byteAt m a ∧ byteAt m a ≤ 255 := by
  unfold byteAt
  split <;> omega
def bytesL (m : List Int) (a : Int) (n : Nat) : List Int := (List.range n).map fun i => byteAt m (a + (i : Nat))
theorem bytesL_succ (m : List Int) (a : Int) (n : Nat) : bytesL m a (n + 1) = bytesL m a n ++ [byteAt m (a + (n : Nat))] := by
  simp [bytesL, List.range_succ]
theorem bytesL_len (m : List Int) (a : Int) (n : Nat) : (bytesL m a n).length = n := by simp [bytesL]
def outB (m : List Int) (a : Int) (n : Nat) : List UInt8 := (bytesL m a n).map fun x => UInt8.ofNat x.toNat
theorem outB_len (m : List Int) (a : Int) (n : Nat) : (outB m a n).length = n := by simp [outB, bytesL]
def bytesM (m : List Int) (a n : Int) : List UInt8 × Int := if Wn m a n then (outB m a n.toNat, 0) else ([], 2)
theorem Bytes_loop (m : List Int) (a : Int) (n : Nat) (hm : m.length ≤ 100000) (h : Wn m a n) : Lmemory_Bytes_0 none ⟨m, a, (n : Int), (0 : Int), List.replicate n (0 : Int)⟩ = some (bytesL m a n) := by
  obtain ⟨h0, h1, h2, h3⟩ := h
  have hc := lim_count (f := fun s => (Wmemory_Bytes_0 s).run) (fun i : Nat => ⟨m, a, (n : Int), (i : Int), bytesL m a i ++ List.replicate (n - i) (0 : Int)⟩) n (fun i hi => by
    have e1 : IntKind.wrap .i64 (a + (i : Int)) = a + (i : Int) := wrap_id (by omega) (by omega)
    have h4 : 0 ≤ a + (i : Int) := by omega
    have h5 : 0 ≤ (a + (i : Int)) / 2 := by omega
    have h6 : 0 ≤ IntKind.wrap .i64 ((a + (i : Int)).tmod 2 * 8) := by rw [up_def h4]; split <;> omega
    have h7 : (i : Int) < ((bytesL m a i ++ List.replicate (n - i) (0 : Int)).length : Int) := by
      simp [bytesL_len]; omega
    have h8 : (bytesL m a i ++ List.replicate (n - i) (0 : Int))[((i : Int)).toNat]? = some 0 := by
      rw [Int.toNat_natCast, List.getElem?_append_right (by rw [bytesL_len]; omega), bytesL_len, Nat.sub_self, List.getElem?_replicate]
      simp; omega
    have h8' : (bytesL m a i ++ List.replicate (n - i) (0 : Int))[i]? = some 0 := h8
    have h9 : (bytesL m a i ++ List.replicate (n - i) (0 : Int)).set i (byteAt m (a + (i : Int))) = bytesL m a (i + 1) ++ List.replicate (n - (i + 1)) (0 : Int) := by
      rw [List.set_append_right (h := by rw [bytesL_len]; omega), bytesL_len, Nat.sub_self, bytesL_succ, show n - i = (n - (i + 1)) + 1 by omega, List.replicate_succ]
      simp
    have hi' : (i : Int) < (n : Int) := by omega
    have h10 : (0 : Int) ≤ (i : Int) := by omega
    simp only [Wmemory_Bytes_0, Tree.run, e1, half h4 (by omega), get_word h4 (show a + (i : Int) < 2 * (m.length : Int) by omega), shr_byte m h4, wrap_succ hi (show n ≤ 9223372036854775807 by omega), hi', h10, h5, h6, h7, h8, decide_true, if_true, show ¬ (2 : Int) = 0 by omega, decide_false, Bool.false_eq_true, if_false, Option.bind_some, Int.toNat_natCast, h8', h9]) 0 (Nat.zero_le _)
  have hd : Lmemory_Bytes_0 none ⟨m, a, (n : Int), ((n : Nat) : Int), bytesL m a n ++ List.replicate (n - n) (0 : Int)⟩ = some (bytesL m a n ++ List.replicate (n - n) (0 : Int)) := lim_done (by simp [Wmemory_Bytes_0, Tree.run])
  have he : Lmemory_Bytes_0 none ⟨m, a, (n : Int), (0 : Int), bytesL m a 0 ++ List.replicate (n - 0) (0 : Int)⟩ = some (bytesL m a n ++ List.replicate (n - n) (0 : Int)) := hc.trans hd
  simpa [bytesL] using he
theorem Bytes_def (m : List Int) (a n : Int) (hm : m.length ≤ 100000) : memory_Bytes none m a n = some (bytesM m a n) := by
  simp only [memory_Bytes, Tmemory_Bytes, Tree.run, within_def m a n hm, Option.bind_some, bytesM]
  by_cases h : Wn m a n
  · obtain ⟨h0, h1, h2, h3⟩ := id h
    have hl := Bytes_loop m a n.toNat hm (by rw [Int.toNat_of_nonneg h1]; exact h)
    have h4 : (1 : Int) * n ≤ 281474976710656 := by omega
    simp only [h, decide_true, Bool.not_true, Bool.false_eq_true, if_false, if_true, h1, h4, List.length_replicate, hl, Option.bind_some, outB]
  · simp [h]
def storeL : List Int → Int → List UInt8 → List Int
  | m, _, [] => m
  | m, a, c :: s => storeL (setB m a (c.toNat : Int)) (a + 1) s
theorem storeL_more (m : List Int) (a : Int) (s : List UInt8) (c : UInt8) : storeL m a (s ++ [c]) = setB (storeL m a s) (a + (s.length : Int)) (c.toNat : Int) := by
  induction s generalizing m a with
  | nil => simp [storeL]
  | cons d s ih =>
    simp only [List.cons_append, storeL, ih, List.length_cons]
    congr 1
    omega
theorem setB_len (m : List Int) (a b : Int) : (setB m a b).length = m.length := by simp [setB]
theorem storeL_len (m : List Int) (a : Int) (s : List UInt8) : (storeL m a s).length = m.length := by
  induction s generalizing m a with
  | nil => rfl
  | cons d s ih => rw [storeL, ih, setB_len]
theorem setB_words {m : List Int} {a b : Int} (hm : Words m) (h0 : 0 ≤ a) (h1 : a < 2 * (m.length : Int)) (hb : 0 ≤ b ∧ b ≤ 255) : Words (setB m a b) := by
  refine ⟨by rw [setB_len]; exact hm.1, fun w hw => ?_⟩
  rcases List.mem_or_eq_of_mem_set hw with h | h
  · exact hm.2 w h
  · have := word_in hm h0 h1
    rw [h]; unfold putB; split <;> omega
theorem byte_lt (c : UInt8) : 0 ≤ (c.toNat : Int) ∧ (c.toNat : Int) ≤ 255 := by have := c.toNat_lt; omega
theorem storeL_words {m : List Int} {a : Int} {s : List UInt8} (hm : Words m) (h0 : 0 ≤ a) (h1 : a + (s.length : Int) ≤ 2 * (m.length : Int)) : Words (storeL m a s) := by
  induction s generalizing m a with
  | nil => exact hm
  | cons d s ih =>
    simp only [List.length_cons] at h1
    exact ih (setB_words hm h0 (by omega) (byte_lt d)) (by omega) (by rw [setB_len]; omega)
def storeM (m : List Int) (a : Int) (s : List UInt8) : List Int × Int := if Wn m a (s.length : Int) then (storeL m a s, 0) else ([], 2)
theorem u8_nat (c : UInt8) : IntKind.wrap .i64 (c.toNat : Int) = (c.toNat : Int) := by have := c.toNat_lt; exact wrap_id (by omega) (by omega)
theorem put_eq (b : List Int) (a : Int) (c : UInt8) (hw : Words b) (h0 : 0 ≤ a) (h1 : a < 2 * (b.length : Int)) : IntKind.wrap .i64 ((BitVec.ofInt 64 (IntKind.wrap .i64 ((BitVec.ofInt 64 (wordAt b a) &&& ~~~BitVec.ofInt 64 (IntKind.wrap .i64 ((255 : Int) * 2 ^ (min (IntKind.wrap .i64 (a.tmod 2 * 8)).toNat 64)))).toNat : Int)) ||| BitVec.ofInt 64 (IntKind.wrap .i64 ((IntKind.wrap .i64 (c.toNat : Int)) * 2 ^ (min (IntKind.wrap .i64 (a.tmod 2 * 8)).toNat 64)))).toNat : Int) = putB (wordAt b a) a (c.toNat : Int) := by
  have hb := byte_lt c
  have hi := word_in hw h0 h1
  rw [up_def h0, u8_nat]
  unfold putB
  split
  · rw [show (2 : Int) ^ (min ((0 : Int)).toNat 64) = 1 by decide, Int.mul_one, Int.mul_one, wrap_id (n := 255) (by omega) (by omega), wrap_id (n := (c.toNat : Int)) (by omega) (by omega), bits_lo _ _ hi.1 hi.2 hb]
  · rw [show (2 : Int) ^ (min ((8 : Int)).toNat 64) = 256 by decide, wrap_id (n := 255 * 256) (by omega) (by omega), wrap_id (n := (c.toNat : Int) * 256) (by omega) (by omega), show (255 : Int) * 256 = 65280 by omega, bits_hi _ _ hi.1 hi.2 hb]
theorem Store_loop (m : List Int) (a : Int) (s : List UInt8) (hm : Words m) (h : Wn m a (s.length : Int)) : Lmemory_Store_0 none ⟨a, s, (s.length : Int), (0 : Int), m⟩ = some (storeL m a s) := by
  obtain ⟨h0, h1, h2, h3⟩ := h
  have hl := hm.1
  have hc := lim_count (f := fun s => (Wmemory_Store_0 s).run) (fun i : Nat => ⟨a, s, (s.length : Int), (i : Int), storeL m a (s.take i)⟩) s.length (fun i hi => by
    have e1 : IntKind.wrap .i64 (a + (i : Int)) = a + (i : Int) := wrap_id (by omega) (by omega)
    have h4 : 0 ≤ a + (i : Int) := by omega
    have h5 : 0 ≤ (a + (i : Int)) / 2 := by omega
    have h6 : 0 ≤ IntKind.wrap .i64 ((a + (i : Int)).tmod 2 * 8) := by rw [up_def h4]; split <;> omega
    have hlen : (storeL m a (s.take i)).length = m.length := storeL_len _ _ _
    have hlt : (s.take i).length = i := by rw [List.length_take]; omega
    have hw : Words (storeL m a (s.take i)) := storeL_words hm h0 (by rw [hlt]; omega)
    have h7 : (a + (i : Int)) / 2 < ((storeL m a (s.take i)).length : Int) := by rw [hlen]; omega
    have h8 : a + (i : Int) < 2 * ((storeL m a (s.take i)).length : Int) := by rw [hlen]; omega
    have hi' : (i : Int) < (s.length : Int) := by omega
    have h10 : (0 : Int) ≤ (i : Int) := by omega
    have h9 : storeL m a (s.take (i + 1)) = (storeL m a (s.take i)).set ((a + (i : Int)) / 2).toNat (putB (wordAt (storeL m a (s.take i)) (a + (i : Int))) (a + (i : Int)) (s[i].toNat : Int)) := by
      rw [take_one_more hi, storeL_more, hlt]; rfl
    simp only [Wmemory_Store_0, Tree.run, e1, half h4 (by omega), get_word h4 h8, wrap_succ hi (show s.length ≤ 9223372036854775807 by omega), hi', h10, h5, h6, h7, decide_true, if_true, show ¬ (2 : Int) = 0 by omega, decide_false, Bool.false_eq_true, if_false, Option.bind_some, Int.toNat_natCast, List.getElem?_eq_getElem hi, put_eq _ _ _ hw h4 h8, h9]) 0 (Nat.zero_le _)
  have hd : Lmemory_Store_0 none ⟨a, s, (s.length : Int), ((s.length : Nat) : Int), storeL m a (s.take s.length)⟩ = some (storeL m a (s.take s.length)) := lim_done (by simp [Wmemory_Store_0, Tree.run])
  have he : Lmemory_Store_0 none ⟨a, s, (s.length : Int), (0 : Int), storeL m a (s.take 0)⟩ = some (storeL m a (s.take s.length)) := hc.trans hd
  simpa [storeL] using he
theorem Store_def (m : List Int) (a : Int) (s : List UInt8) (hm : Words m) : memory_Store none m a s = some (storeM m a s) := by
  simp only [memory_Store, Tmemory_Store, Tree.run, within_def m a _ hm.1, copied_def m hm.1, Option.bind_some, storeM]
  by_cases h : Wn m a (s.length : Int)
  · simp only [h, decide_true, Bool.not_true, Bool.false_eq_true, if_false, if_true, Store_loop m a s hm h, Option.bind_some]
  · simp [h]
theorem bads_pair (n : Nat) (bad : List Int) : Bads n bad ↔ bad.Pairwise (· < ·) ∧ ∀ y ∈ bad, 0 ≤ y ∧ y < 2 * (n : Int) ∧ y % 2 = 0 := by
  constructor
  · intro h
    refine ⟨List.pairwise_iff_getElem.2 fun i j hi hj hij => ?_, fun y hy => ?_⟩
    · induction j with
      | zero => omega
      | succ j ih =>
        have h1 := (h (j + 1) hj).2.2.2 (by omega)
        simp only [Nat.add_sub_cancel] at h1
        by_cases he : i = j
        · subst he; exact h1
        · exact Int.lt_trans (ih (by omega) (by omega)) h1
    · obtain ⟨i, hi, he⟩ := List.mem_iff_getElem.1 hy
      obtain ⟨h1, h2, h3, _⟩ := h i hi
      rw [he] at h1 h2 h3
      exact ⟨h1, h2, h3⟩
  · rintro ⟨h1, h2⟩ i hi
    obtain ⟨h3, h4, h5⟩ := h2 _ (List.getElem_mem hi)
    exact ⟨h3, h4, h5, fun h' => List.pairwise_iff_getElem.1 h1 (i - 1) i (by omega) hi (by omega)⟩
theorem bads_filter {n : Nat} {bad : List Int} (p : Int → Bool) (h : Bads n bad) : Bads n (bad.filter p) := by
  rw [bads_pair] at h ⊢
  exact ⟨h.1.filter p, fun y hy => h.2 y (List.mem_filter.1 hy).1⟩
/-- where a number has its place in a rising list -/
def Cut (l : List Int) (a : Int) (p : Nat) : Prop := p ≤ l.length ∧ (∀ i, (h : i < l.length) → i < p → l[i] < a) ∧ ∀ i, (h : i < l.length) → p ≤ i → a ≤ l[i]
def spoilL (l : List Int) (a : Int) : List Int := l.filter (fun y => decide (y < a)) ++ [a] ++ l.filter (fun y => decide (a < y))
theorem cut_take {l : List Int} {a : Int} {p : Nat} (h : Cut l a p) : l.filter (fun y => decide (y < a)) = l.take p := by
  obtain ⟨h1, h2, h3⟩ := h
  have e : l = l.take p ++ l.drop p := (List.take_append_drop p l).symm
  have e1 : (l.take p).filter (fun y => decide (y < a)) = l.take p := by
    rw [List.filter_eq_self]
    intro y hy
    obtain ⟨i, hi, he⟩ := List.mem_iff_getElem.1 hy
    rw [List.getElem_take] at he
    rw [List.length_take] at hi
    have := h2 i (by omega) (by omega)
    rw [he] at this
    exact decide_eq_true this
  have e2 : (l.drop p).filter (fun y => decide (y < a)) = [] := by
    rw [List.filter_eq_nil_iff]
    intro y hy
    obtain ⟨i, hi, he⟩ := List.mem_iff_getElem.1 hy
    rw [List.getElem_drop] at he
    rw [List.length_drop] at hi
    have := h3 (p + i) (by omega) (by omega)
    rw [he] at this
    simp; omega
  conv => lhs; rw [e]
  rw [List.filter_append, e1, e2, List.append_nil]
theorem cut_drop {l : List Int} {a : Int} {p : Nat} (h : Cut l a p) : l.filter (fun y => decide (a < y)) = (l.drop p).filter (fun y => !decide (y = a)) := by
  obtain ⟨h1, h2, h3⟩ := h
  have e : l = l.take p ++ l.drop p := (List.take_append_drop p l).symm
  have e1 : (l.take p).filter (fun y => decide (a < y)) = [] := by
    rw [List.filter_eq_nil_iff]
    intro y hy
    obtain ⟨i, hi, he⟩ := List.mem_iff_getElem.1 hy
    rw [List.getElem_take] at he
    rw [List.length_take] at hi
    have := h2 i (by omega) (by omega)
    rw [he] at this
    simp; omega
  conv => lhs; rw [e]
  rw [List.filter_append, e1, List.nil_append]
  apply List.filter_congr
  intro y hy
  obtain ⟨i, hi, he⟩ := List.mem_iff_getElem.1 hy
  rw [List.getElem_drop] at he
  rw [List.length_drop] at hi
  have := h3 (p + i) (by omega) (by omega)
  rw [he] at this
  rw [Bool.eq_iff_iff]
  simp
  omega
theorem cut_here {l : List Int} {a : Int} {p : Nat} (hs : l.Pairwise (· < ·)) (h : Cut l a p) (hp : p < l.length) (he : l[p] = a) : spoilL l a = l := by
  have hd : l.drop p = l[p] :: l.drop (p + 1) := (List.getElem_cons_drop ..).symm
  have e2 : (l.drop (p + 1)).filter (fun y => !decide (y = a)) = l.drop (p + 1) := by
    rw [List.filter_eq_self]
    intro y hy
    obtain ⟨i, hi, hx⟩ := List.mem_iff_getElem.1 hy
    rw [List.getElem_drop] at hx
    rw [List.length_drop] at hi
    have := List.pairwise_iff_getElem.1 hs p (p + 1 + i) hp (by omega) (by omega)
    rw [he, hx] at this
    simp; omega
  unfold spoilL
  rw [cut_take h, cut_drop h, hd, he]
  have e3 : (a :: l.drop (p + 1)).filter (fun y => !decide (y = a)) = l.drop (p + 1) := by rw [List.filter_cons, e2]; simp
  rw [e3]
  have : l = l.take p ++ (l[p] :: l.drop (p + 1)) := by rw [← hd, List.take_append_drop]
  conv => rhs; rw [this, he]
  simp
theorem cut_not {l : List Int} {a : Int} {p : Nat} (hs : l.Pairwise (· < ·)) (h : Cut l a p) (hne : ∀ hp : p < l.length, l[p] ≠ a) : spoilL l a = l.take p ++ [a] ++ l.drop p := by
  unfold spoilL
  rw [cut_take h, cut_drop h]
  congr 1
  rw [List.filter_eq_self]
  intro y hy
  obtain ⟨i, hi, hx⟩ := List.mem_iff_getElem.1 hy
  rw [List.getElem_drop] at hx
  rw [List.length_drop] at hi
  have h0 := h.2.2 p (by omega) (Nat.le_refl _)
  have h1 := hne (by omega)
  rcases Nat.eq_zero_or_pos i with h' | h'
  · subst h'
    simp only [Nat.add_zero] at hx
    rw [← hx]; simpa using h1
  · have := List.pairwise_iff_getElem.1 hs p (p + i) (by omega) (by omega) (by omega)
    rw [hx] at this
    simp; omega
theorem cut_ex {l : List Int} (hs : l.Pairwise (· < ·)) (a : Int) {i j : Nat} (hij : i ≤ j) (hj : j ≤ l.length) (h1 : ∀ k, (h : k < l.length) → k < i → l[k] < a) (h2 : ∀ k, (h : k < l.length) → j ≤ k → a ≤ l[k]) (he : i = j) : Cut l a i := ⟨by omega, h1, fun k h hk => h2 k h (by omega)⟩
theorem mid_def {i j : Nat} (h : i + j ≤ 1000000) : IntKind.wrap .i64 (((IntKind.wrap .u64 (IntKind.wrap .i64 ((i : Int) + (j : Int))))).fdiv (2 ^ (min ((1 : Int)).toNat 64))) = (((i + j) / 2 : Nat) : Int) := by
  have e1 : IntKind.wrap .i64 ((i : Int) + (j : Int)) = ((i + j : Nat) : Int) := by rw [wrap_id (by omega) (by omega)]; omega
  have e2 : IntKind.wrap .u64 ((i + j : Nat) : Int) = ((i + j : Nat) : Int) := by
    rw [IntKind.wrap_u64]; omega
  rw [e1, e2, show (2 : Int) ^ (min ((1 : Int)).toNat 64) = 2 by decide, fdiv_pos _ (by omega), wrap_id (by omega) (by omega)]
  omega
def spoilM (m bad : List Int) (a : Int) : List Int × Int := if ¬ a % 2 = 0 then ([], 1) else if a < 0 ∨ 2 * (m.length : Int) ≤ a then ([], 2) else (spoilL bad a, 0)
theorem tmod2 (o : Int) : o.tmod 2 = 0 ↔ o % 2 = 0 := by
  rw [Int.tmod_eq_emod]
  split
  · simp
  · rename_i h
    constructor
    · intro h'; omega
    · intro h'; exact absurd (.inr (Int.dvd_of_emod_eq_zero h')) h
theorem spoil_bads {n : Nat} {bad : List Int} {a : Int} (h : Bads n bad) (h0 : 0 ≤ a) (h1 : a < 2 * (n : Int)) (h2 : a % 2 = 0) : Bads n (spoilL bad a) := by
  rw [bads_pair] at h ⊢
  unfold spoilL
  refine ⟨?_, fun y hy => ?_⟩
  · rw [List.pairwise_append, List.pairwise_append]
    refine ⟨⟨h.1.filter _, List.pairwise_singleton _ _, fun x hx y hy => ?_⟩, h.1.filter _, fun x hx y hy => ?_⟩
    · rw [List.mem_singleton.1 hy]
      simpa using (List.mem_filter.1 hx).2
    · have hy2 : a < y := by simpa using (List.mem_filter.1 hy).2
      rcases List.mem_append.1 hx with hx | hx
      · have : x < a := by simpa using (List.mem_filter.1 hx).2
        omega
      · rw [List.mem_singleton.1 hx]; exact hy2
  · rcases List.mem_append.1 hy with hy | hy
    · rcases List.mem_append.1 hy with hy | hy
      · exact h.2 y (List.mem_filter.1 hy).1
      · rw [List.mem_singleton.1 hy]; exact ⟨h0, h1, h2⟩
    · exact h.2 y (List.mem_filter.1 hy).1
theorem spoilL_len (bad : List Int) (a : Int) : (spoilL bad a).length ≤ 2 * bad.length + 1 := by
  unfold spoilL
  have h1 := List.length_filter_le (fun y => decide (y < a)) bad
  have h2 := List.length_filter_le (fun y => decide (a < y)) bad
  simp only [List.length_append, List.length_cons, List.length_nil]
  omega
end Go.Proofs.Ytenckckimagkkaa.C08
end
section
set_option linter.unusedSimpArgs false
set_option linter.unusedVariables false
namespace Go.Proofs.Ytenckckimagkkaa
open Go Go.Ab
theorem alive_true : law16_alive none = some true := lelaw16_alive 700 true (by kernel_rfl)
theorem Diff_self (d : Drive) (hl : d.sectors.length ≤ 1000000) : ref15_Diff none d d = some [] := by
  have hc := lim_count (f := fun s => (Wref15_Diff_0 s).run) (fun i : Nat => ⟨(i : Int), d, d, []⟩) d.sectors.length (fun i hi => by
    have k1 : (i : Int) < (d.sectors.length : Int) := by omega
    have k2 : ¬ (d.sectors.length : Int) ≤ (i : Int) := by omega
    have k3 : (0 : Int) ≤ (i : Int) := by omega
    have g := List.getElem?_eq_getElem hi
    have w := wrap_succ hi (show d.sectors.length ≤ 9223372036854775807 by omega)
    simp only [Wref15_Diff_0, Tree.run, k1, k2, k3, g, w, decide_true, decide_false, Bool.false_eq_true, if_true, if_false, Int.toNat_natCast, Option.bind_some, Bool.not_true]) 0 (Nat.zero_le _)
  have hd : Lref15_Diff_0 none ⟨(d.sectors.length : Int), d, d, []⟩ = some [] := lim_done (by
    have k1 : ¬ (d.sectors.length : Int) < (d.sectors.length : Int) := by omega
    simp only [Wref15_Diff_0, Tree.run, k1, decide_false, Bool.false_eq_true, if_false])
  have h : Lref15_Diff_0 none ⟨(0 : Int), d, d, []⟩ = some [] := hc.trans hd
  simp only [ref15_Diff, Tref15_Diff, Tree.run, h, Option.bind_some]
theorem SameDrive_self (d : Drive) (hl : d.sectors.length ≤ 1000000) (hb : d.bad.length ≤ 1000000) : ref15_SameDrive none d d = some true := by
  have hc := lim_count (f := fun s => (Wref15_SameDrive_0 s).run) (fun i : Nat => ⟨(i : Int), d, d⟩) d.bad.length (fun i hi => by
    have k1 : (i : Int) < (d.bad.length : Int) := by omega
    have k3 : (0 : Int) ≤ (i : Int) := by omega
    have g := List.getElem?_eq_getElem hi
    have w := wrap_succ hi (show d.bad.length ≤ 9223372036854775807 by omega)
    simp only [Wref15_SameDrive_0, Tree.run, k1, k3, g, w, decide_true, decide_false, Bool.false_eq_true, if_true, if_false, Int.toNat_natCast, Option.bind_some, Bool.not_true]) 0 (Nat.zero_le _)
  have hd : Lref15_SameDrive_0 none ⟨(d.bad.length : Int), d, d⟩ = some (.inr (d, d)) := lim_done (by
    have k1 : ¬ (d.bad.length : Int) < (d.bad.length : Int) := by omega
    simp only [Wref15_SameDrive_0, Tree.run, k1, decide_false, Bool.false_eq_true, if_false])
  have h : Lref15_SameDrive_0 none ⟨(0 : Int), d, d⟩ = some (.inr (d, d)) := hc.trans hd
  simp [ref15_SameDrive, Tref15_SameDrive, Tree.run, h, Diff_self d hl]
theorem SameDisk_self (k : Disk) (hl : k.drive.sectors.length ≤ 1000000) (hb : k.drive.bad.length ≤ 1000000) : ref16_SameDisk none k k = some true := by
  simp [ref16_SameDisk, Tref16_SameDisk, Tree.run, SameDrive_self k.drive hl hb]
theorem SameInts_self (l : List Int) (hl : l.length ≤ 1000000) : ref16_SameInts none l l = some true := by
  have hc := lim_count (f := fun s => (Wref16_SameInts_0 s).run) (fun i : Nat => ⟨l, l, (i : Int)⟩) l.length (fun i hi => by
    have k1 : (i : Int) < (l.length : Int) := by omega
    have k3 : (0 : Int) ≤ (i : Int) := by omega
    have g := List.getElem?_eq_getElem hi
    have w := wrap_succ hi (show l.length ≤ 9223372036854775807 by omega)
    simp only [Wref16_SameInts_0, Tree.run, k1, k3, g, w, decide_true, decide_false, Bool.false_eq_true, if_true, if_false, Int.toNat_natCast, Option.bind_some, Bool.not_true]) 0 (Nat.zero_le _)
  have hd : Lref16_SameInts_0 none ⟨l, l, (l.length : Int)⟩ = some (.inr ()) := lim_done (by
    have k1 : ¬ (l.length : Int) < (l.length : Int) := by omega
    simp only [Wref16_SameInts_0, Tree.run, k1, decide_false, Bool.false_eq_true, if_false])
  have h : Lref16_SameInts_0 none ⟨l, l, (0 : Int)⟩ = some (.inr ()) := hc.trans hd
  simp [ref16_SameInts, Tref16_SameInts, Tree.run, h]
theorem same_self (l : List Request) (hl : l.length ≤ 1000000) : law16_same none l l = some true := by
  have hc := lim_count (f := fun s => (Wlaw16_same_0 s).run) (fun i : Nat => ⟨l, l, (l.length : Int), (i : Int)⟩) l.length (fun i hi => by
    have k1 : (i : Int) < (l.length : Int) := by omega
    have k3 : (0 : Int) ≤ (i : Int) := by omega
    have g := List.getElem?_eq_getElem hi
    have w := wrap_succ hi (show l.length ≤ 9223372036854775807 by omega)
    simp [Wlaw16_same_0, Tree.run, k1, k3, g, w]) 0 (Nat.zero_le _)
  have hd : Llaw16_same_0 none ⟨l, l, (l.length : Int), (l.length : Int)⟩ = some (.inr ()) := lim_done (by
    have k1 : ¬ (l.length : Int) < (l.length : Int) := by omega
    simp only [Wlaw16_same_0, Tree.run, k1, decide_false, Bool.false_eq_true, if_false])
  have h : Llaw16_same_0 none ⟨l, l, (l.length : Int), (0 : Int)⟩ = some (.inr ()) := hc.trans hd
  simp [law16_same, Tlaw16_same, Tree.run, h]
theorem clone_some {α : Type} (b : Nat) (l : List α) (h : l.length * b ≤ 140737488355328) : cloneF b l = some l := if_pos h
theorem cloned16_def (d : Drive) (hl : d.sectors.length ≤ 1000000) (hb : d.bad.length ≤ 1000000) : diskctl_cloned d = some d := by
  simp only [diskctl_cloned, Tdiskctl_cloned, Tree.run, clone_some 16 d.sectors (by omega), clone_some 8 d.bad (by omega), Option.bind_some]
theorem New16_def (d : Drive) (hl : d.sectors.length ≤ 1000000) (hb : d.bad.length ≤ 1000000) : diskctl_New d = some ⟨d, false, true, false, 0, 0, 0, 0, 0⟩ ∧ ref16_New d = some ⟨d, false, true, false, 0, 0, 0, 0, 0⟩ := by
  have k1 : (([] : List (List UInt8)).length + d.sectors.length) * 16 ≤ 140737488355328 := by simp only [List.length_nil]; omega
  have k2 : (([] : List Int).length + d.bad.length) * 8 ≤ 140737488355328 := by simp only [List.length_nil]; omega
  exact ⟨by simp only [diskctl_New, Tdiskctl_New, Tree.run, cloned16_def d hl hb, Option.bind_some], by simp only [ref16_New, Tref16_New, Tree.run, k1, k2, decide_true, if_true, List.nil_append]⟩
def reset16 (k : Disk) : Disk := ⟨k.drive, false, true, false, 0, k.words, k.addr, k.start, 0⟩
theorem Reset16_def (k : Disk) : diskctl_Reset k = some (reset16 k) ∧ ref16_Reset k = some (reset16 k) := ⟨rfl, rfl⟩
theorem Requests16_eq (k : Disk) : ∃ r, diskctl_Requests k = some r ∧ ref16_Requests k = some r ∧ r.length ≤ 1 := by
  simp only [diskctl_Requests, Tdiskctl_Requests, ref16_Requests, Tref16_Requests, Tree.run]
  cases k.enable <;> cases k.ready
  · exact ⟨_, rfl, rfl, by simp⟩
  · exact ⟨_, rfl, rfl, by simp⟩
  · exact ⟨_, rfl, rfl, by simp⟩
  · exact ⟨_, rfl, rfl, by simp⟩
def accept16 (k : Disk) (v : Int) : Disk := if v = 160 then { k with enable := false } else k
theorem Accept16_def (k : Disk) (v : Int) : diskctl_Accept k v = some (accept16 k v) ∧ ref16_Accept k v = some (accept16 k v) := by
  obtain ⟨a, e, b, c, d, f, g, h, i⟩ := k
  simp only [diskctl_Accept, Tdiskctl_Accept, ref16_Accept, Tref16_Accept, Tree.run, accept16]
  by_cases c1 : v = 160
  · cases e <;> simp [c1]
  · cases e <;> simp [c1]
theorem accept16_drive (k : Disk) (v : Int) : (accept16 k v).drive = k.drive := by unfold accept16; split <;> rfl
end Go.Proofs.Ytenckckimagkkaa
end
section
set_option linter.unusedSimpArgs false
set_option linter.unusedVariables false
namespace Go.Proofs.Ytenckckimagkkaa
open Go Go.Ab
theorem memI_dec (l : List Int) (n : Int) : memI l n = decide (n ∈ l) := by rw [Bool.eq_iff_iff]; simp [memI_iff]
def HasD (d : Drive) (i : Int) : Prop := 0 ≤ i ∧ i < (d.sectors.length : Int)
instance (d i) : Decidable (HasD d i) := by unfold HasD; infer_instance
def nulD : Drive := ⟨[], []⟩
def readD (d : Drive) (i : Int) : List UInt8 × Int := if HasD d i then (if i ∈ d.bad then ([], 21) else (d.sectors.getD i.toNat [], 0)) else ([], 2)
def padL (s : List UInt8) : List UInt8 := s ++ List.replicate (128 - s.length) 0
def writeD (d : Drive) (i : Int) (s : List UInt8) : Drive × Int := if HasD d i then (if 128 < s.length then (nulD, 7) else if i ∈ d.bad then (nulD, 21) else (⟨d.sectors.set i.toNat (padL s), d.bad⟩, 0)) else (nulD, 2)
theorem worn_def (d : Drive) (hb : d.bad.length ≤ 1000000) : drive_worn d = some d.bad := if_pos (by omega)
theorem sect_get {d : Drive} {i : Int} (h : HasD d i) : d.sectors[i.toNat]? = some (d.sectors.getD i.toNat []) := by
  obtain ⟨h1, h2⟩ := h
  have : i.toNat < d.sectors.length := by omega
  simp [List.getD, List.getElem?_eq_getElem this]
theorem Read_def (d : Drive) (i : Int) (hb : d.bad.length ≤ 1000000) : drive_Read d i = some (readD d i) := by
  simp only [drive_Read, Tdrive_Read, drive_has, Tdrive_has, Tree.run, worn_def d hb, memI_dec, Option.bind_some, readD]
  by_cases c1 : 0 ≤ i
  · by_cases c2 : i < (d.sectors.length : Int)
    · have h : HasD d i := ⟨c1, c2⟩
      have g := sect_get h
      by_cases c3 : i ∈ d.bad
      · simp [c1, c2, c3, h]
      · simp only [c1, c2, c3, h, g, decide_true, decide_false, Bool.not_true, Bool.false_eq_true, if_true, if_false, Option.bind_some]
    · have h : ¬ HasD d i := fun h => c2 h.2
      simp [c1, c2, h]
  · have h : ¬ HasD d i := fun h => c1 h.1
    simp [c1, h]
theorem Isbad_def (d : Drive) (i : Int) (hb : d.bad.length ≤ 1000000) : ref15_Isbad none d i = some (decide (i ∈ d.bad)) := by
  have hs := lim_scan (f := fun s => (Wref15_Isbad_0 s).run) (fun j : Nat => ⟨i, (j : Int), d⟩) d.bad.length (fun j => ∀ y, d.bad[j]? = some y → y ≠ i) (fun j => .inl true) (.inr ())
    (fun j hj hp => by
      have hp' := hp d.bad[j] (List.getElem?_eq_getElem hj)
      simp [Wref15_Isbad_0, Tree.run, hj, hp', wrap_succ hj (show d.bad.length ≤ 9223372036854775807 by omega)])
    (fun j hj hp => by
      have hp' : d.bad[j] = i := by
        by_cases h : d.bad[j] = i
        · exact h
        · exact absurd (fun y hy => by rw [List.getElem?_eq_getElem hj] at hy; rw [← Option.some.inj hy]; exact h) hp
      simp [Wref15_Isbad_0, Tree.run, hj, hp'])
    (by simp [Wref15_Isbad_0, Tree.run])
  rcases hs with ⟨q1, q2⟩ | ⟨j, hj, q1, q2⟩
  · have q2' : Lref15_Isbad_0 none ⟨i, (0 : Int), d⟩ = some (.inr ()) := q2
    have hn : i ∉ d.bad := fun h => by
      obtain ⟨j, hj, he⟩ := List.mem_iff_getElem.1 h
      exact q1 j hj i (by rw [List.getElem?_eq_getElem hj, he]) rfl
    simp [ref15_Isbad, Tref15_Isbad, Tree.run, q2', hn]
  · have q2' : Lref15_Isbad_0 none ⟨i, (0 : Int), d⟩ = some (.inl true) := q2
    have hn : i ∈ d.bad := by
      by_cases h : i ∈ d.bad
      · exact h
      · exact absurd (fun y hy e => h (by rw [← e]; exact List.mem_of_getElem? hy)) q1
    simp [ref15_Isbad, Tref15_Isbad, Tree.run, q2', hn]
theorem ref_Read_def (d : Drive) (i : Int) (hb : d.bad.length ≤ 1000000) : ref15_Read none d i = some (readD d i) := by
  simp only [ref15_Read, Tref15_Read, Tree.run, Isbad_def d i hb, Option.bind_some, readD]
  by_cases c1 : i < 0
  · have h : ¬ HasD d i := fun h => by have := h.1; omega
    simp [c1, h]
  · by_cases c2 : (d.sectors.length : Int) ≤ i
    · have h : ¬ HasD d i := fun h => by have := h.2; omega
      simp [c1, c2, h]
    · have h : HasD d i := ⟨by omega, by omega⟩
      have g := sect_get h
      have c3 : 0 ≤ i := by omega
      by_cases c4 : i ∈ d.bad
      · simp [c1, c2, c4, h]
      · simp only [c1, c2, c3, c4, h, g, decide_true, decide_false, Bool.not_true, Bool.false_eq_true, if_true, if_false, Option.bind_some]
theorem copies_zero (n : Nat) : copies ([0] : List UInt8) n = List.replicate n 0 := by
  induction n with
  | zero => rfl
  | succ n ih => simp only [copies, ih]; rfl
theorem repeat_def (n : Nat) (h : n ≤ 1000000) : strings_Repeat ([0] : List UInt8) (n : Int) = some (List.replicate n 0) := by
  have : strings_Repeat ([0] : List UInt8) (n : Int) = repF ([0] : List UInt8) (n : Int) := rfl
  rw [this]
  unfold repF
  rw [if_pos ⟨by omega, by omega, by simp only [List.length_cons, List.length_nil]; omega⟩, copies_zero, Int.toNat_natCast]
theorem zeros_def (n : Nat) (h : n ≤ 1000000) : ref15_zeros none (n : Int) = some (List.replicate n 0) := by
  have hc := lim_count (f := fun s => (Wref15_zeros_0 s).run) (fun i : Nat => ⟨(n : Int), (i : Int), List.replicate i 0⟩) n (fun i hi => by
    have k1 : (i : Int) < (n : Int) := by omega
    have w := wrap_succ hi (show n ≤ 9223372036854775807 by omega)
    have k2 : ((List.replicate i (0 : Int)).length + ([(0 : Int)]).length) * 1 ≤ 140737488355328 := by simp only [List.length_replicate, List.length_cons, List.length_nil]; omega
    have e : List.replicate i (0 : Int) ++ [0] = List.replicate (i + 1) 0 := by rw [List.replicate_succ']
    simp only [Wref15_zeros_0, Tree.run, k1, k2, w, e, decide_true, if_true]) 0 (Nat.zero_le _)
  have hd : Lref15_zeros_0 none ⟨(n : Int), (n : Int), List.replicate n 0⟩ = some (List.replicate n 0) := lim_done (by
    have k1 : ¬ (n : Int) < (n : Int) := by omega
    simp only [Wref15_zeros_0, Tree.run, k1, decide_false, Bool.false_eq_true, if_false])
  have hh : Lref15_zeros_0 none ⟨(n : Int), (0 : Int), []⟩ = some (List.replicate n 0) := hc.trans hd
  simp only [ref15_zeros, Tref15_zeros, Tree.run, hh, Option.bind_some, List.map_replicate]
  rfl
theorem pad_len {s : List UInt8} (h : s.length ≤ 128) : (padL s).length = 128 := by
  simp only [padL, List.length_append, List.length_replicate]; omega
theorem ref_Write_def (d : Drive) (i : Int) (s : List UInt8) (hl : d.sectors.length ≤ 1000000) (hb : d.bad.length ≤ 1000000) : ref15_Write none d i s = some (writeD d i s) := by
  simp only [ref15_Write, Tref15_Write, Tree.run, Isbad_def d i hb, Option.bind_some, writeD]
  by_cases c1 : i < 0
  · have h : ¬ HasD d i := fun h => by have := h.1; omega
    simp [c1, h, nulD]
  · by_cases c2 : (d.sectors.length : Int) ≤ i
    · have h : ¬ HasD d i := fun h => by have := h.2; omega
      simp [c1, c2, h, nulD]
    · have h : HasD d i := ⟨by omega, by omega⟩
      have g := sect_get h
      have c3 : 0 ≤ i := by omega
      by_cases c4 : 128 < s.length
      · have c4' : (128 : Int) < (s.length : Int) := by omega
        simp [c1, c2, c4, c4', h, nulD]
      · have c4' : ¬ (128 : Int) < (s.length : Int) := by omega
        by_cases c5 : i ∈ d.bad
        · simp [c1, c2, c4, c4', c5, h, nulD]
        · have w : IntKind.wrap .i64 ((128 : Int) - (s.length : Int)) = ((128 - s.length : Nat) : Int) := by rw [wrap_id] <;> omega
          have z := zeros_def (128 - s.length) (by omega)
          have k1 : (([] : List (List UInt8)).length + d.sectors.length) * 16 ≤ 140737488355328 := by simp only [List.length_nil]; omega
          have k2 : s.length + (List.replicate (128 - s.length) (0 : UInt8)).length ≤ 9223372036854775807 := by simp only [List.length_replicate]; omega
          have k3 : i < ((([] : List (List UInt8)) ++ d.sectors).length : Int) := by simp only [List.nil_append]; exact h.2
          simp only [c1, c2, c3, c4, c4', c5, h, k1, k2, k3, w, z, g, List.nil_append, decide_true, decide_false, Bool.false_eq_true, if_true, if_false, Option.bind_some, padL]
          rw [if_pos (by have := h.2; simpa using this)]
theorem fault_def (d : Drive) (i : Int) (s : List UInt8) : drive_fault_V1 d.bad ⟨i, s⟩ d.sectors d.bad = some (if HasD d i then (if 128 < s.length then 7 else if i ∈ d.bad then 21 else 0) else 2) := by
  simp only [drive_fault_V1, Tdrive_fault_V1, drive_has_V1, Tdrive_has_V1, Tree.run, memI_dec]
  by_cases c1 : 0 ≤ i
  · by_cases c2 : i < (d.sectors.length : Int)
    · have h : HasD d i := ⟨c1, c2⟩
      by_cases c4 : 128 < s.length
      · have c4' : (128 : Int) < (s.length : Int) := by omega
        simp [c1, c2, c4, c4', h]
      · have c4' : ¬ (128 : Int) < (s.length : Int) := by omega
        by_cases c5 : i ∈ d.bad
        · simp [c1, c2, c4, c4', c5, h]
        · simp [c1, c2, c4, c4', c5, h]
    · have h : ¬ HasD d i := fun h => c2 h.2
      simp [c1, c2, h]
  · have h : ¬ HasD d i := fun h => c1 h.1
    simp [c1, h]
theorem Write_def (d : Drive) (i : Int) (s : List UInt8) (hl : d.sectors.length ≤ 1000000) (hb : d.bad.length ≤ 1000000) : drive_Write none d i s = some (writeD d i s) := by
  have hcp : drive_copied d = some (d.sectors, d.bad) := by
    simp only [drive_copied, Tdrive_copied, Tree.run, clone_some 16 d.sectors (by omega), clone_some 8 d.bad (by omega), Option.bind_some]
  have hwn : wornF (d.bad.map fun x : Int => x) = some d.bad := by
    rw [List.map_id' ]; exact if_pos (by omega)
  have hf := fault_def d i s
  have k1 : ((0 : Int)) < (([(⟨i, s⟩ : Write)]).length : Int) := by simp
  have k2 : ¬ (0 : Int) = -1 := by omega
  by_cases c0 : HasD d i ∧ ¬ 128 < s.length ∧ i ∉ d.bad
  · obtain ⟨h, c4, c5⟩ := c0
    have w : IntKind.wrap .i64 ((128 : Int) - (s.length : Int)) = ((128 - s.length : Nat) : Int) := by rw [wrap_id] <;> omega
    have z := repeat_def (128 - s.length) (by omega)
    have k3 : s.length + (List.replicate (128 - s.length) (0 : UInt8)).length ≤ 9223372036854775807 := by simp only [List.length_replicate]; omega
    have g := sect_get h
    rw [if_pos h, if_neg c4, if_neg c5] at hf
    have w1 : IntKind.wrap .i64 ((0 : Int) + 1) = 1 := wrap_id (by omega) (by omega)
    have s1 : (Wdrive_Apply_0 ⟨[⟨i, s⟩], (-1 : Int), d.bad, [⟨i, s⟩], (([(⟨i, s⟩ : Write)]).length : Int), (0 : Int), nulD, d.sectors, d.bad⟩).run = some (.inl ⟨[⟨i, s⟩], (-1 : Int), d.bad, [⟨i, s⟩], (([(⟨i, s⟩ : Write)]).length : Int), (1 : Int), nulD, d.sectors.set i.toNat (padL s), d.bad⟩) := by
      simp only [Wdrive_Apply_0, Tree.run, k1, k2, hf, w, z, k3, g, h.1, h.2, w1, padL, decide_true, decide_false, Bool.false_eq_true, if_true, if_false, Option.bind_some, Int.toNat_zero, List.getElem?_cons_zero, Int.le_refl, Bool.not_true]
    have s2 : (Wdrive_Apply_0 ⟨[⟨i, s⟩], (-1 : Int), d.bad, [⟨i, s⟩], (([(⟨i, s⟩ : Write)]).length : Int), (1 : Int), nulD, d.sectors.set i.toNat (padL s), d.bad⟩).run = some (.inr (.inr ([⟨i, s⟩], nulD, d.sectors.set i.toNat (padL s), d.bad))) := by
      have k : ¬ (1 : Int) < (([(⟨i, s⟩ : Write)]).length : Int) := by simp
      simp only [Wdrive_Apply_0, Tree.run, k, decide_false, Bool.false_eq_true, if_false]
    have hL : Ldrive_Apply_0 none ⟨[⟨i, s⟩], (-1 : Int), d.bad, [⟨i, s⟩], (([(⟨i, s⟩ : Write)]).length : Int), (0 : Int), ⟨[], []⟩, d.sectors, d.bad⟩ = some (.inr ([⟨i, s⟩], nulD, d.sectors.set i.toNat (padL s), d.bad)) := (lim_next s1).trans (lim_done s2)
    simp only [drive_Write, Tdrive_Write, drive_Apply, Tdrive_Apply, Tree.run, hcp, hwn, hL, Option.bind_some, Sum.isLeft_inr, Bool.false_eq_true, if_false, Sum.getRight?_inr, decide_true, Bool.not_true, writeD, if_pos h, if_neg c4, if_neg c5]
  · have hne : ∃ e, drive_fault_V1 d.bad ⟨i, s⟩ d.sectors d.bad = some e ∧ e ≠ 0 ∧ writeD d i s = (nulD, e) := by
      rw [hf]
      unfold writeD
      by_cases h : HasD d i
      · by_cases c4 : 128 < s.length
        · exact ⟨7, by simp [h, c4], by omega, by simp [h, c4]⟩
        · by_cases c5 : i ∈ d.bad
          · exact ⟨21, by simp [h, c4, c5], by omega, by simp [h, c4, c5]⟩
          · exact absurd ⟨h, c4, c5⟩ c0
      · exact ⟨2, by simp [h], by omega, by simp [h]⟩
    obtain ⟨e, e1, e2, e3⟩ := hne
    have s1 : (Wdrive_Apply_0 ⟨[⟨i, s⟩], (-1 : Int), d.bad, [⟨i, s⟩], (([(⟨i, s⟩ : Write)]).length : Int), (0 : Int), ⟨[], []⟩, d.sectors, d.bad⟩).run = some (.inr (.inl ([⟨i, s⟩], (0 : Int), e, d.sectors, d.bad))) := by
      simp only [Wdrive_Apply_0, Tree.run, k1, k2, e1, e2, decide_true, decide_false, Bool.false_eq_true, if_true, if_false, Option.bind_some, Int.toNat_zero, List.getElem?_cons_zero, Int.le_refl, Bool.not_false]
    have hL : Ldrive_Apply_0 none ⟨[⟨i, s⟩], (-1 : Int), d.bad, [⟨i, s⟩], (([(⟨i, s⟩ : Write)]).length : Int), (0 : Int), ⟨[], []⟩, d.sectors, d.bad⟩ = some (.inl ([⟨i, s⟩], (0 : Int), e, d.sectors, d.bad)) := lim_done s1
    simp only [drive_Write, Tdrive_Write, drive_Apply, Tdrive_Apply, Tree.run, hcp, hwn, hL, Option.bind_some, Sum.isLeft_inl, if_true, Sum.getLeft?_inl, e2, decide_false, Bool.not_false, e3, nulD]
end Go.Proofs.Ytenckckimagkkaa
end
section
set_option linter.unusedSimpArgs false
set_option linter.unusedVariables false
namespace Go.Proofs.Ytenckckimagkkaa
open Go Go.Ab
/-- is an address among n bytes from a on -/
def Hit (a n y : Int) : Prop := a ≤ y ∧ y < a + n
instance (a n y) : Decidable (Hit a n y) := by unfold Hit; infer_instance
/-- a controller's address and a number of words -/
structure Rng (k : Disk) (n : Int) : Prop where
  a0 : 0 ≤ k.addr
  a1 : k.addr ≤ 65535
  n0 : 0 ≤ n
  n1 : n ≤ 64
theorem hit_def (y : Int) (k : Disk) (n : Int) (h : Rng k n) : diskctl_transfer_1 y k n = some (decide (Hit k.addr (2 * n) y)) := by
  obtain ⟨a0, a1, n0, n1⟩ := h
  have w1 : IntKind.wrap .i64 (2 * n) = 2 * n := wrap_id (by omega) (by omega)
  have w : IntKind.wrap .i64 (k.addr + 2 * n) = k.addr + 2 * n := wrap_id (by omega) (by omega)
  simp only [diskctl_transfer_1, Tdiskctl_transfer_1, Tree.run, w1, w, Hit]
  by_cases h : k.addr ≤ y <;> simp [h]
def cutL (l : List Int) (a n : Int) : List Int := l.filter fun y => !decide (Hit a n y)
theorem cut_more {l : List Int} {a n : Int} {i : Nat} (hi : i < l.length) : cutL (l.take (i + 1)) a n = cutL (l.take i) a n ++ (if Hit a n l[i] then [] else [l[i]]) := by
  rw [take_one_more hi]
  unfold cutL
  rw [List.filter_append]
  by_cases he : Hit a n l[i] <;> simp [he]
theorem cut_take {l : List Int} {a n : Int} {k : Nat} (h : ∀ i, i < k → ∀ y, l[i]? = some y → ¬ Hit a n y) : cutL (l.take k) a n = l.take k := by
  unfold cutL
  rw [List.filter_eq_self]
  intro y hy
  obtain ⟨i, hi, he⟩ := List.mem_iff_getElem.1 hy
  rw [List.getElem_take] at he
  have hlt : i < k := by rw [List.length_take] at hi; omega
  have := h i hlt y (by rw [List.getElem?_eq_getElem (by rw [List.length_take] at hi; omega), he])
  simp [this]
theorem cut_len (l : List Int) (a n : Int) : (cutL l a n).length ≤ l.length := List.length_filter_le _ _
theorem scan_dec {l : List Int} {p : Int → Prop} [DecidablePred p] {i : Nat} (hi : i < l.length) (h : ¬ ∀ y, l[i]? = some y → ¬ p y) : p l[i] := by
  by_cases h' : p l[i]
  · exact h'
  · exact absurd (fun y hy => by rw [List.getElem?_eq_getElem hi] at hy; rw [← Option.some.inj hy]; exact h') h
theorem index_def (l : List Int) (k : Disk) (n : Int) (hl : l.length ≤ 100000) (h : Rng k n) : ((∀ i, i < l.length → ∀ y, l[i]? = some y → ¬ Hit k.addr (2 * n) y) ∧ slices_IndexFunc_int_int none l k n = some (-1)) ∨ ∃ j, ∃ hk : j < l.length, (∀ i, i < j → ∀ y, l[i]? = some y → ¬ Hit k.addr (2 * n) y) ∧ Hit k.addr (2 * n) l[j] ∧ slices_IndexFunc_int_int none l k n = some (j : Int) := by
  have hs := lim_scan1 (f := fun s => (Wslices_IndexFunc_int_int_0 (k, n) s).run) (fun i : Nat => ⟨l, (l.length : Int), (i : Int)⟩) l.length (fun i => ∀ y, l[i]? = some y → ¬ Hit k.addr (2 * n) y) (fun i => .inl (i : Int)) (.inr ())
    (fun i hi hp => by
      have hp' := hp l[i] (List.getElem?_eq_getElem hi)
      simp [Wslices_IndexFunc_int_int_0, Tree.run, hi, wrap_succ hi (show l.length ≤ 9223372036854775807 by omega), hit_def _ k n h, hp'])
    (fun i hi hp => by
      have hp' := scan_dec hi hp
      simp [Wslices_IndexFunc_int_int_0, Tree.run, hi, hit_def _ k n h, hp'])
    (by simp [Wslices_IndexFunc_int_int_0, Tree.run])
  rcases hs with ⟨h4, h5⟩ | ⟨i, hi, h4, h5, h6⟩
  · have h' : Lslices_IndexFunc_int_int_0 none (k, n) ⟨l, (l.length : Int), (0 : Int)⟩ = some (.inr ()) := h5
    exact .inl ⟨h4, by simp [slices_IndexFunc_int_int, Tslices_IndexFunc_int_int, Tree.run, h']⟩
  · have h' : Lslices_IndexFunc_int_int_0 none (k, n) ⟨l, (l.length : Int), (0 : Int)⟩ = some (.inl (i : Int)) := h6
    exact .inr ⟨i, hi, h4, scan_dec hi h5, by simp [slices_IndexFunc_int_int, Tslices_IndexFunc_int_int, Tree.run, h']⟩
def SpoiltP (l : List Int) (a n : Int) : Prop := ∃ y ∈ l, Hit a n y
noncomputable instance (l a n) : Decidable (SpoiltP l a n) := Classical.propDecidable _
theorem contains_def (l : List Int) (k : Disk) (n : Int) (hl : l.length ≤ 100000) (h : Rng k n) : slices_ContainsFunc_int_int none l k n = some (decide (SpoiltP l k.addr (2 * n))) := by
  rcases index_def l k n hl h with ⟨h4, h5⟩ | ⟨j, hj, h4, h5, h6⟩
  · have hn : ¬ SpoiltP l k.addr (2 * n) := fun ⟨y, hy, hh⟩ => by
      obtain ⟨i, hi, he⟩ := List.mem_iff_getElem.1 hy
      exact h4 i hi y (by rw [List.getElem?_eq_getElem hi, he]) hh
    simp [slices_ContainsFunc_int_int, Tslices_ContainsFunc_int_int, Tree.run, h5, hn]
  · have hn : SpoiltP l k.addr (2 * n) := ⟨_, List.getElem_mem hj, h5⟩
    simp [slices_ContainsFunc_int_int, Tslices_ContainsFunc_int_int, Tree.run, h6, hn]
theorem spoilt_def (l : List Int) (k : Disk) (n : Int) (hl : l.length ≤ 100000) (h : Rng k n) : ref16_spoilt none l k.addr n = some (decide (SpoiltP l k.addr (2 * n))) := by
  obtain ⟨a0, a1, n0, n1⟩ := id h
  have w1 : IntKind.wrap .i64 (2 * n) = 2 * n := wrap_id (by omega) (by omega)
  have w : IntKind.wrap .i64 (k.addr + 2 * n) = k.addr + 2 * n := wrap_id (by omega) (by omega)
  have hs := lim_scan (f := fun s => (Wref16_spoilt_0 s).run) (fun i : Nat => ⟨l, k.addr, n, (i : Int)⟩) l.length (fun i => ∀ y, l[i]? = some y → ¬ Hit k.addr (2 * n) y) (fun i => .inl true) (.inr ())
    (fun i hi hp => by
      have hp' := hp l[i] (List.getElem?_eq_getElem hi)
      have k1 : (i : Int) < (l.length : Int) := by omega
      have k3 : (0 : Int) ≤ (i : Int) := by omega
      have g := List.getElem?_eq_getElem hi
      have ws := wrap_succ hi (show l.length ≤ 9223372036854775807 by omega)
      by_cases c1 : k.addr ≤ l[i]
      · have c2 : ¬ l[i] < k.addr + 2 * n := fun h => hp' ⟨c1, h⟩
        simp only [Wref16_spoilt_0, Tree.run, k1, k3, g, w1, w, ws, c1, c2, decide_true, decide_false, Bool.false_eq_true, if_true, if_false, Int.toNat_natCast, Option.bind_some]
      · simp only [Wref16_spoilt_0, Tree.run, k1, k3, g, w1, w, ws, c1, decide_true, decide_false, Bool.false_eq_true, if_true, if_false, Int.toNat_natCast, Option.bind_some])
    (fun i hi hp => by
      have hp' := scan_dec hi hp
      have k1 : (i : Int) < (l.length : Int) := by omega
      have k3 : (0 : Int) ≤ (i : Int) := by omega
      have g := List.getElem?_eq_getElem hi
      simp only [Wref16_spoilt_0, Tree.run, k1, k3, g, w1, w, hp'.1, hp'.2, decide_true, if_true, Int.toNat_natCast, Option.bind_some])
    (by simp [Wref16_spoilt_0, Tree.run])
  rcases hs with ⟨h4, h5⟩ | ⟨i, hi, h4, h5⟩
  · have h' : Lref16_spoilt_0 none ⟨l, k.addr, n, (0 : Int)⟩ = some (.inr ()) := h5
    have hn : ¬ SpoiltP l k.addr (2 * n) := fun ⟨y, hy, hh⟩ => by
      obtain ⟨i, hi, he⟩ := List.mem_iff_getElem.1 hy
      exact h4 i hi y (by rw [List.getElem?_eq_getElem hi, he]) hh
    simp [ref16_spoilt, Tref16_spoilt, Tree.run, h', hn]
  · have h' : Lref16_spoilt_0 none ⟨l, k.addr, n, (0 : Int)⟩ = some (.inl true) := h5
    have hn : SpoiltP l k.addr (2 * n) := by
      by_cases hsp : SpoiltP l k.addr (2 * n)
      · exact hsp
      · exact absurd (fun y hy hh => hsp ⟨y, List.mem_of_getElem? hy, hh⟩) h4
    simp [ref16_spoilt, Tref16_spoilt, Tree.run, h', hn]
theorem index2_def (l : List Int) (k : Disk) (n : Int) (hl : l.length ≤ 100000) (h : Rng k n) : ((∀ i, i < l.length → ∀ y, l[i]? = some y → ¬ Hit k.addr (2 * n) y) ∧ slices_IndexFunc_int_int_V2 none l k n = some (-1)) ∨ ∃ j, ∃ hk : j < l.length, (∀ i, i < j → ∀ y, l[i]? = some y → ¬ Hit k.addr (2 * n) y) ∧ Hit k.addr (2 * n) l[j] ∧ slices_IndexFunc_int_int_V2 none l k n = some (j : Int) := by
  have hs := lim_scan1 (f := fun s => (Wslices_IndexFunc_int_int_V2_0 (l, k, n) s).run) (fun i : Nat => ⟨(l.length : Int), (i : Int)⟩) l.length (fun i => ∀ y, l[i]? = some y → ¬ Hit k.addr (2 * n) y) (fun i => .inl (i : Int)) (.inr ())
    (fun i hi hp => by
      have hp' := hp l[i] (List.getElem?_eq_getElem hi)
      simp [Wslices_IndexFunc_int_int_V2_0, Tree.run, hi, wrap_succ hi (show l.length ≤ 9223372036854775807 by omega), hit_def _ k n h, hp'])
    (fun i hi hp => by
      have hp' := scan_dec hi hp
      simp [Wslices_IndexFunc_int_int_V2_0, Tree.run, hi, hit_def _ k n h, hp'])
    (by simp [Wslices_IndexFunc_int_int_V2_0, Tree.run])
  rcases hs with ⟨h4, h5⟩ | ⟨i, hi, h4, h5, h6⟩
  · have h' : Lslices_IndexFunc_int_int_V2_0 none (l, k, n) ⟨(l.length : Int), (0 : Int)⟩ = some (.inr ()) := h5
    exact .inl ⟨h4, by simp [slices_IndexFunc_int_int_V2, Tslices_IndexFunc_int_int_V2, Tree.run, h']⟩
  · have h' : Lslices_IndexFunc_int_int_V2_0 none (l, k, n) ⟨(l.length : Int), (0 : Int)⟩ = some (.inl (i : Int)) := h6
    exact .inr ⟨i, hi, h4, scan_dec hi h5, by simp [slices_IndexFunc_int_int_V2, Tslices_IndexFunc_int_int_V2, Tree.run, h']⟩
theorem delete_loop (l : List Int) (kd : Disk) (n : Int) (hl : l.length ≤ 100000) (h : Rng kd n) (i j : Nat) (b : List Int) (hb : b.length = l.length) (hd : b.drop i = l.drop i) (ht : b.take j = cutL (l.take i) kd.addr (2 * n)) (hji : j ≤ i) (hi : i ≤ l.length) :
    ∃ (k : Nat) (b' : List Int), Lslices_DeleteFunc_int_int_0 none (kd, n) ⟨(j : Int), (i : Int), b⟩ = some ((k : Int), b') ∧ k ≤ l.length ∧ b'.length = l.length ∧ b'.take k = cutL l kd.addr (2 * n) := by
  obtain ⟨r, hr, k, b', e1, e2, e3, e4⟩ := lim_rule (f := fun s => (Wslices_DeleteFunc_int_int_0 (kd, n) s).run)
    (fun s => ∃ (i j : Nat) (b : List Int), s = ⟨(j : Int), (i : Int), b⟩ ∧ b.length = l.length ∧ b.drop i = l.drop i ∧ b.take j = cutL (l.take i) kd.addr (2 * n) ∧ j ≤ i ∧ i ≤ l.length)
    (fun r => ∃ (k : Nat) (b' : List Int), r = ((k : Int), b') ∧ k ≤ l.length ∧ b'.length = l.length ∧ b'.take k = cutL l kd.addr (2 * n))
    (fun s => l.length - s.t6.toNat)
    (by
      rintro s ⟨i, j, b, rfl, hb, hd, ht, hji, hi⟩
      by_cases hlt : i < l.length
      · have hib : i < b.length := by omega
        have he : b[i] = l[i] := by
          have h2 := congrArg (fun x => x[0]?) hd
          simp only [List.getElem?_drop, Nat.add_zero] at h2
          rw [List.getElem?_eq_getElem hib, List.getElem?_eq_getElem hlt] at h2
          exact Option.some.inj h2
        have hd' : b.drop (i + 1) = l.drop (i + 1) := by
          have h2 := congrArg (List.drop 1) hd
          rwa [List.drop_drop, List.drop_drop] at h2
        right
        by_cases hp : Hit kd.addr (2 * n) l[i]
        · refine ⟨⟨(j : Int), ((i + 1 : Nat) : Int), b⟩, ?_, ⟨i + 1, j, b, rfl, hb, hd', ?_, by omega, hlt⟩, ?_⟩
          · simp [Wslices_DeleteFunc_int_int_0, Tree.run, hb, hlt, hib, he, wrap_succ hlt (show l.length ≤ 9223372036854775807 by omega), hit_def _ kd n h, hp]
          · rw [cut_more hlt, if_pos hp, List.append_nil]; exact ht
          · simp; omega
        · have hjb : j < b.length := by omega
          have hjl : j < l.length := by omega
          refine ⟨⟨((j + 1 : Nat) : Int), ((i + 1 : Nat) : Int), b.set j l[i]⟩, ?_, ⟨i + 1, j + 1, b.set j l[i], rfl, by rw [List.length_set]; exact hb, ?_, ?_, by omega, hlt⟩, ?_⟩
          · simp [Wslices_DeleteFunc_int_int_0, Tree.run, hb, hlt, hjl, hib, hjb, he, wrap_succ hlt (show l.length ≤ 9223372036854775807 by omega), wrap_succ hjl (show l.length ≤ 9223372036854775807 by omega), hit_def _ kd n h, hp]
          · rw [List.drop_set_of_lt (by omega)]; exact hd'
          · rw [cut_more hlt, if_neg hp, ← ht, take_one_more (by rw [List.length_set]; exact hjb), List.take_set_of_le (Nat.le_refl _)]
            simp
          · simp; omega
      · left
        have hil : i = l.length := by omega
        refine ⟨((j : Int), b), ?_, j, b, rfl, by omega, hb, ?_⟩
        · simp [Wslices_DeleteFunc_int_int_0, Tree.run, hb, hil]
        · rw [ht, hil, List.take_length])
    ⟨(j : Int), (i : Int), b⟩ ⟨i, j, b, rfl, hb, hd, ht, hji, hi⟩
  subst e1
  exact ⟨k, b', hr, e2, e3, e4⟩
theorem delete_def (l : List Int) (kd : Disk) (n : Int) (hl : l.length ≤ 100000) (h : Rng kd n) : slices_DeleteFunc_int_int none l kd n = some (.inl ()) ∧ cutL l kd.addr (2 * n) = l ∨ ∃ k b, slices_DeleteFunc_int_int none l kd n = some (.inr ((0, k), b)) ∧ b.take k = cutL l kd.addr (2 * n) := by
  rcases index2_def l kd n hl h with ⟨h4, h5⟩ | ⟨k, hk, h4, he, h6⟩
  · left
    have := cut_take (k := l.length) h4
    rw [List.take_length] at this
    exact ⟨by simp [slices_DeleteFunc_int_int, Tslices_DeleteFunc_int_int, Tree.run, h5], this⟩
  · right
    obtain ⟨m, b, e1, e2, e3, e4⟩ := delete_loop l kd n hl h (k + 1) k l rfl rfl (by rw [cut_more hk, if_pos he, List.append_nil, cut_take h4]) (by omega) hk
    have e1' : Lslices_DeleteFunc_int_int_0 none (kd, n) ⟨(k : Int), IntKind.wrap .i64 ((k : Int) + 1), l⟩ = some ((m : Int), b) := by
      rw [wrap_succ hk (by omega)]; exact e1
    have hlen : (b.take m ++ List.replicate (b.length - m) (0 : Int)).length = b.length := by
      simp; omega
    refine ⟨m, b.take m ++ List.replicate (b.length - m) 0, ?_, ?_⟩
    · have hne : ¬ (k : Int) = -1 := by omega
      have hdrop : b.drop (m + (b.length - m)) = [] := List.drop_eq_nil_of_le (by omega)
      simp [slices_DeleteFunc_int_int, Tslices_DeleteFunc_int_int, Tree.run, h6, e1', hne, hdrop]
      omega
    · rw [List.take_append_of_le_length (by rw [List.length_take]; omega), List.take_take, Nat.min_self]
      exact e4
end Go.Proofs.Ytenckckimagkkaa
end
section
set_option linter.unusedSimpArgs false
set_option linter.unusedVariables false
namespace Go.Proofs.Ytenckckimagkkaa
open Go Go.Ab
theorem wrap_u8 (x : Int) : IntKind.wrap .u8 x = x % 256 := rfl
theorem shr8 (v : Int) : v.fdiv (2 ^ (min ((8 : Int)).toNat 64)) = v / 256 := by
  rw [show (2 : Int) ^ (min ((8 : Int)).toNat 64) = 256 by decide]; exact Int.fdiv_eq_ediv_of_nonneg _ (by omega)
/-- the words from an address on lie within memory -/
structure InM (mem : List Int) (a : Int) (n : Nat) : Prop where
  w : C08.Words mem
  a0 : 0 ≤ a
  ae : a % 2 = 0
  a1 : a + 2 * (n : Int) ≤ 2 * (mem.length : Int)
  n1 : n ≤ 64
theorem at_word {mem : List Int} {a : Int} {n : Nat} (h : InM mem a n) {i : Nat} (hi : i < n) : IntKind.wrap .i64 (IntKind.wrap .i64 (a.tdiv 2) + (i : Int)) = a / 2 + (i : Int) ∧ 0 ≤ a / 2 + (i : Int) ∧ mem[(a / 2 + (i : Int)).toNat]? = some (C08.wordAt mem (a + 2 * (i : Int))) ∧ (a / 2 + (i : Int)).toNat < mem.length := by
  obtain ⟨w, a0, ae, a1, n1⟩ := h
  have hm := w.1
  have e : (a + 2 * (i : Int)) / 2 = a / 2 + (i : Int) := by omega
  have w1 : IntKind.wrap .i64 (a.tdiv 2) = a / 2 := by rw [tdiv_nn a0, wrap_id (by omega) (by omega)]
  have g := C08.get_word (m := mem) (a := a + 2 * (i : Int)) (by omega) (by omega)
  rw [e] at g
  exact ⟨by rw [w1, wrap_id] <;> omega, by omega, g, by omega⟩
theorem sector_loop (mem : List Int) (a : Int) (n : Nat) (h : InM mem a n) : Lref16_sector_0 none ⟨mem, a, (n : Int), (0 : Int), []⟩ = some (C08.bytesL mem a (2 * n)) := by
  have hc := lim_count (f := fun s => (Wref16_sector_0 s).run) (fun i : Nat => ⟨mem, a, (n : Int), (i : Int), C08.bytesL mem a (2 * i)⟩) n (fun i hi => by
    obtain ⟨w1, k1, g, _⟩ := at_word h hi
    have n1 := h.n1
    have k2 : (i : Int) < (n : Int) := by omega
    have ws := wrap_succ hi (show n ≤ 9223372036854775807 by omega)
    have a0 := h.a0
    have ae := h.ae
    have e0 : C08.byteAt mem (a + ((2 * i : Nat) : Int)) = C08.wordAt mem (a + 2 * (i : Int)) % 256 := by
      rw [show a + ((2 * i : Nat) : Int) = a + 2 * (i : Int) by omega]
      exact if_pos (by omega)
    have e1 : C08.byteAt mem (a + ((2 * i + 1 : Nat) : Int)) = C08.wordAt mem (a + 2 * (i : Int)) / 256 % 256 := by
      unfold C08.byteAt
      rw [if_neg (by omega)]
      unfold C08.wordAt
      rw [show (a + ((2 * i + 1 : Nat) : Int)) / 2 = (a + 2 * (i : Int)) / 2 by omega]
    have hb : C08.bytesL mem a (2 * (i + 1)) = C08.bytesL mem a (2 * i) ++ [C08.wordAt mem (a + 2 * (i : Int)) % 256, C08.wordAt mem (a + 2 * (i : Int)) / 256 % 256] := by
      rw [show 2 * (i + 1) = 2 * i + 1 + 1 by omega, C08.bytesL_succ, C08.bytesL_succ, e0, e1, List.append_assoc]; rfl
    have w8 : IntKind.wrap .u8 (IntKind.wrap .i64 ((BitVec.ofInt 64 (C08.wordAt mem (a + 2 * (i : Int))) &&& BitVec.ofInt 64 (255 : Int)).toNat : Int)) = C08.wordAt mem (a + 2 * (i : Int)) % 256 := by
      rw [and255, wrap_u8, Int.emod_emod_of_dvd _ (Int.dvd_refl _)]
    have w9 : IntKind.wrap .u8 ((C08.wordAt mem (a + 2 * (i : Int))).fdiv (2 ^ (min ((8 : Int)).toNat 64))) = C08.wordAt mem (a + 2 * (i : Int)) / 256 % 256 := by
      rw [shr8, wrap_u8]
    have k3 : ((C08.bytesL mem a (2 * i)).length + ([C08.wordAt mem (a + 2 * (i : Int)) % 256, C08.wordAt mem (a + 2 * (i : Int)) / 256 % 256]).length) * 1 ≤ 140737488355328 := by
      rw [C08.bytesL_len]; simp only [List.length_cons, List.length_nil]; omega
    simp only [Wref16_sector_0, Tree.run, k1, k2, k3, w1, g, ws, w8, w9, hb, show ¬ (2 : Int) = 0 by omega, show (0 : Int) ≤ 8 by omega, decide_true, decide_false, Bool.false_eq_true, if_true, if_false, Option.bind_some]) 0 (Nat.zero_le _)
  have hd : Lref16_sector_0 none ⟨mem, a, (n : Int), (n : Int), C08.bytesL mem a (2 * n)⟩ = some (C08.bytesL mem a (2 * n)) := lim_done (by
    have k1 : ¬ (n : Int) < (n : Int) := by omega
    simp only [Wref16_sector_0, Tree.run, k1, decide_false, Bool.false_eq_true, if_false])
  exact hc.trans hd
theorem sector_pad (l : List Int) (hl : l.length ≤ 128) : Lref16_sector_1 none ⟨l⟩ = some (l ++ List.replicate (128 - l.length) 0) := by
  have hc := lim_count (f := fun s => (Wref16_sector_1 s).run) (fun i : Nat => ⟨l ++ List.replicate i 0⟩) (128 - l.length) (fun i hi => by
    have k1 : ((l ++ List.replicate i (0 : Int)).length : Int) < 128 := by simp only [List.length_append, List.length_replicate]; omega
    have k2 : ((l ++ List.replicate i (0 : Int)).length + ([(0 : Int)]).length) * 1 ≤ 140737488355328 := by simp only [List.length_append, List.length_replicate, List.length_cons, List.length_nil]; omega
    have e : l ++ List.replicate i (0 : Int) ++ [0] = l ++ List.replicate (i + 1) 0 := by rw [List.append_assoc, List.replicate_succ']
    simp only [Wref16_sector_1, Tree.run, k1, k2, e, decide_true, if_true]) 0 (Nat.zero_le _)
  have hd : Lref16_sector_1 none ⟨l ++ List.replicate (128 - l.length) 0⟩ = some (l ++ List.replicate (128 - l.length) 0) := lim_done (by
    have k1 : ¬ ((l ++ List.replicate (128 - l.length) (0 : Int)).length : Int) < 128 := by simp only [List.length_append, List.length_replicate]; omega
    simp only [Wref16_sector_1, Tree.run, k1, decide_false, Bool.false_eq_true, if_false])
  have h0 : Lref16_sector_1 none ⟨l ++ List.replicate 0 0⟩ = _ := hc.trans hd
  rw [List.replicate_zero, List.append_nil] at h0
  exact h0
theorem sector_def (mem : List Int) (a : Int) (n : Nat) (h : InM mem a n) : ref16_sector none mem a (n : Int) = some (padL (C08.outB mem a (2 * n))) := by
  have n1 := h.n1
  have e1 := sector_loop mem a n h
  have e2 := sector_pad (C08.bytesL mem a (2 * n)) (by rw [C08.bytesL_len]; omega)
  simp only [ref16_sector, Tref16_sector, Tree.run, e1, e2, Option.bind_some, List.map_append, List.map_replicate, padL, C08.outB_len, C08.bytesL_len]
  rfl
def at16 (s : List UInt8) (i : Nat) : Int := ((s.getD (2 * i) 0).toNat : Int) + 256 * ((s.getD (2 * i + 1) 0).toNat : Int)
theorem at_def (s : List UInt8) (i : Nat) (h : 2 * i + 1 < s.length) (hl : s.length ≤ 1000) : ref16_at s (i : Int) = some (at16 s i) := by
  have w1 : IntKind.wrap .i64 (2 * (i : Int)) = ((2 * i : Nat) : Int) := by rw [wrap_id] <;> omega
  have w2 : IntKind.wrap .i64 (((2 * i : Nat) : Int) + 1) = ((2 * i + 1 : Nat) : Int) := by rw [wrap_id] <;> omega
  have k1 : (0 : Int) ≤ ((2 * i : Nat) : Int) := by omega
  have k2 : (0 : Int) ≤ ((2 * i + 1 : Nat) : Int) := by omega
  have g1 : s[2 * i]? = some (s.getD (2 * i) 0) := by simp [List.getD, List.getElem?_eq_getElem (show 2 * i < s.length by omega)]
  have g2 : s[2 * i + 1]? = some (s.getD (2 * i + 1) 0) := by simp [List.getD, List.getElem?_eq_getElem h]
  have b1 := C08.byte_lt (s.getD (2 * i) 0)
  have b2 := C08.byte_lt (s.getD (2 * i + 1) 0)
  have w5 : IntKind.wrap .i64 ((s.getD (2 * i) 0).toNat : Int) = ((s.getD (2 * i) 0).toNat : Int) := wrap_id (by omega) (by omega)
  have w6 : IntKind.wrap .i64 ((s.getD (2 * i + 1) 0).toNat : Int) = ((s.getD (2 * i + 1) 0).toNat : Int) := wrap_id (by omega) (by omega)
  have w7 : IntKind.wrap .i64 (256 * ((s.getD (2 * i + 1) 0).toNat : Int)) = 256 * ((s.getD (2 * i + 1) 0).toNat : Int) := wrap_id (by omega) (by omega)
  have w8 : IntKind.wrap .i64 (((s.getD (2 * i) 0).toNat : Int) + 256 * ((s.getD (2 * i + 1) 0).toNat : Int)) = at16 s i := wrap_id (by omega) (by omega)
  simp only [ref16_at, Tref16_at, Tree.run, w1, w2, k1, k2, g1, g2, w5, w6, w7, w8, decide_true, if_true, Int.toNat_natCast, Option.bind_some]
/-- a sector begins with the bytes of words -/
theorem same_bytes {mem : List Int} {a : Int} {n : Nat} (h : InM mem a n) {s : List UInt8} (hs : 2 * n ≤ s.length) : (∀ i, i < n → C08.wordAt mem (a + 2 * (i : Int)) = at16 s i) ↔ s.take (2 * n) = C08.outB mem a (2 * n) := by
  have a0 := h.a0
  have ae := h.ae
  have a1 := h.a1
  have lo : ∀ i, i < n → (C08.outB mem a (2 * n))[2 * i]? = some (UInt8.ofNat (C08.wordAt mem (a + 2 * (i : Int)) % 256).toNat) := fun i hi => by
    unfold C08.outB C08.bytesL
    rw [List.getElem?_map, List.getElem?_map, List.getElem?_range (by omega)]
    simp only [Option.map_some]
    rw [show a + ((2 * i : Nat) : Int) = a + 2 * (i : Int) by omega]
    rw [show C08.byteAt mem (a + 2 * (i : Int)) = C08.wordAt mem (a + 2 * (i : Int)) % 256 from if_pos (by omega)]
  have hi' : ∀ i, i < n → (C08.outB mem a (2 * n))[2 * i + 1]? = some (UInt8.ofNat (C08.wordAt mem (a + 2 * (i : Int)) / 256 % 256).toNat) := fun i hi => by
    unfold C08.outB C08.bytesL
    rw [List.getElem?_map, List.getElem?_map, List.getElem?_range (by omega)]
    simp only [Option.map_some]
    have : C08.byteAt mem (a + ((2 * i + 1 : Nat) : Int)) = C08.wordAt mem (a + 2 * (i : Int)) / 256 % 256 := by
      unfold C08.byteAt
      rw [if_neg (by omega)]
      unfold C08.wordAt
      rw [show (a + ((2 * i + 1 : Nat) : Int)) / 2 = (a + 2 * (i : Int)) / 2 by omega]
    rw [this]
  have hw : ∀ i, i < n → 0 ≤ C08.wordAt mem (a + 2 * (i : Int)) ∧ C08.wordAt mem (a + 2 * (i : Int)) ≤ 65535 := fun i hi => C08.word_in h.w (by omega) (by omega)
  constructor
  · intro hh
    apply List.ext_getElem?
    intro j
    by_cases hj : j < 2 * n
    · have hi : j / 2 < n := by omega
      have hq := hh (j / 2) hi
      have hwi := hw (j / 2) hi
      have b1 := C08.byte_lt (s.getD (2 * (j / 2)) 0)
      have b2 := C08.byte_lt (s.getD (2 * (j / 2) + 1) 0)
      unfold at16 at hq
      rw [List.getElem?_take_of_lt hj]
      rcases Nat.mod_two_eq_zero_or_one j with hm | hm
      · have e : 2 * (j / 2) = j := by omega
        have := lo (j / 2) hi
        rw [e] at this
        rw [this, List.getElem?_eq_getElem (by omega)]
        rw [hq, e]
        have hg : s.getD j 0 = s[j] := by simp [List.getD, List.getElem?_eq_getElem (show j < s.length by omega)]
        rw [hg]
        have hb := C08.byte_lt s[j]
        congr 1
        apply UInt8.toNat_inj.1
        rw [UInt8.toNat_ofNat']
        omega
      · have e : 2 * (j / 2) + 1 = j := by omega
        have := hi' (j / 2) hi
        rw [e] at this
        rw [this, List.getElem?_eq_getElem (by omega)]
        rw [hq, e]
        have hg : s.getD j 0 = s[j] := by simp [List.getD, List.getElem?_eq_getElem (show j < s.length by omega)]
        rw [hg]
        have hb := C08.byte_lt s[j]
        congr 1
        apply UInt8.toNat_inj.1
        rw [UInt8.toNat_ofNat']
        omega
    · rw [List.getElem?_eq_none (by rw [List.length_take]; omega), List.getElem?_eq_none (by rw [C08.outB_len]; omega)]
  · intro hh i hi
    have e1 := congrArg (fun l => l[2 * i]?) hh
    have e2 := congrArg (fun l => l[2 * i + 1]?) hh
    simp only [lo i hi, hi' i hi] at e1 e2
    rw [List.getElem?_take_of_lt (by omega), List.getElem?_eq_getElem (by omega)] at e1 e2
    have hwi := hw i hi
    unfold at16
    have g1 : s.getD (2 * i) 0 = s[2 * i] := by simp [List.getD, List.getElem?_eq_getElem (show 2 * i < s.length by omega)]
    have g2 : s.getD (2 * i + 1) 0 = s[2 * i + 1] := by simp [List.getD, List.getElem?_eq_getElem (show 2 * i + 1 < s.length by omega)]
    rw [g1, g2, Option.some.inj e1, Option.some.inj e2, UInt8.toNat_ofNat', UInt8.toNat_ofNat']
    omega
theorem differs_def (mem : List Int) (a : Int) (n : Nat) (s : List UInt8) (h : InM mem a n) (hs : s.length = 128) : ref16_differs none mem a (n : Int) s = some (!decide (s.take (2 * n) = C08.outB mem a (2 * n))) := by
  have n1 := h.n1
  have hc := lim_scan (f := fun s => (Wref16_differs_0 s).run) (fun i : Nat => ⟨mem, a, (n : Int), s, (i : Int)⟩) n (fun i => C08.wordAt mem (a + 2 * (i : Int)) = at16 s i) (fun i => .inl true) (.inr ())
    (fun i hi hp => by
      obtain ⟨w1, k1, g, _⟩ := at_word h hi
      have k2 : (i : Int) < (n : Int) := by omega
      have ws := wrap_succ hi (show n ≤ 9223372036854775807 by omega)
      have ha := at_def s i (by omega) (by omega)
      simp only [Wref16_differs_0, Tree.run, k1, k2, w1, g, ws, ha, hp, show ¬ (2 : Int) = 0 by omega, decide_true, decide_false, Bool.not_true, Bool.false_eq_true, if_true, if_false, Option.bind_some])
    (fun i hi hp => by
      obtain ⟨w1, k1, g, _⟩ := at_word h hi
      have k2 : (i : Int) < (n : Int) := by omega
      have ha := at_def s i (by omega) (by omega)
      simp only [Wref16_differs_0, Tree.run, k1, k2, w1, g, ha, hp, show ¬ (2 : Int) = 0 by omega, decide_true, decide_false, Bool.not_false, Bool.false_eq_true, if_true, if_false, Option.bind_some])
    (by
      have k1 : ¬ (n : Int) < (n : Int) := by omega
      simp only [Wref16_differs_0, Tree.run, k1, decide_false, Bool.false_eq_true, if_false])
  have hb := same_bytes h (s := s) (by omega)
  rcases hc with ⟨q1, q2⟩ | ⟨i, hi, q1, q2⟩
  · have q2' : Lref16_differs_0 none ⟨mem, a, (n : Int), s, (0 : Int)⟩ = some (.inr ()) := q2
    have := hb.1 q1
    simp [ref16_differs, Tref16_differs, Tree.run, q2', this]
  · have q2' : Lref16_differs_0 none ⟨mem, a, (n : Int), s, (0 : Int)⟩ = some (.inl true) := q2
    have : ¬ s.take (2 * n) = C08.outB mem a (2 * n) := fun e => q1 (hb.2 e i hi)
    simp [ref16_differs, Tref16_differs, Tree.run, q2', this]
/-- two bytes are a word -/
theorem pair_set (M : List Int) (a c d : Int) (h0 : 0 ≤ a) (he : a % 2 = 0) (h1 : a < 2 * (M.length : Int)) (hc : 0 ≤ c ∧ c ≤ 255) : C08.setB (C08.setB M a c) (a + 1) d = M.set (a / 2).toNat (c + 256 * d) := by
  have hk : ((a + 1) / 2).toNat = (a / 2).toNat := by omega
  have hlt : (a / 2).toNat < M.length := by omega
  unfold C08.setB
  rw [hk, List.set_set]
  congr 1
  have hw : C08.wordAt (M.set (a / 2).toNat (C08.putB (C08.wordAt M a) a c)) (a + 1) = C08.putB (C08.wordAt M a) a c := by
    simp [C08.wordAt, hk, List.getD, hlt]
  rw [hw]
  unfold C08.putB
  rw [if_pos he, if_neg (by omega)]
  omega
theorem tick_mem (bad : List Int) (n : Nat) (s : List UInt8) (mem : List Int) (k k' : Disk) (h : InM mem k.addr n) (hs : s.length = 128) : Lref16_Tick_0 none ⟨bad, (n : Int), s, (0 : Int), mem, k, k'⟩ = some (bad, (n : Int), C08.storeL mem k.addr (s.take (2 * n)), k, k') := by
  have n1 := h.n1
  have hm := h.w.1
  have a0 := h.a0
  have ae := h.ae
  have a1 := h.a1
  have hc := lim_count (f := fun s => (Wref16_Tick_0 s).run) (fun i : Nat => ⟨bad, (n : Int), s, (i : Int), C08.storeL mem k.addr (s.take (2 * i)), k, k'⟩) n (fun i hi => by
    obtain ⟨w1, k1, g, hlt⟩ := at_word h hi
    have hlen : (C08.storeL mem k.addr (s.take (2 * i))).length = mem.length := C08.storeL_len _ _ _
    have k2 : (i : Int) < (n : Int) := by omega
    have ws := wrap_succ hi (show n ≤ 9223372036854775807 by omega)
    have ha := at_def s i (by omega) (by omega)
    have k3 : k.addr / 2 + (i : Int) < ((C08.storeL mem k.addr (s.take (2 * i))).length : Int) := by rw [hlen]; omega
    have g3 := List.getElem?_eq_getElem (l := C08.storeL mem k.addr (s.take (2 * i))) (i := (k.addr / 2 + (i : Int)).toNat) (by omega)
    have i1 : 2 * i < s.length := by omega
    have i2 : 2 * i + 1 < s.length := by omega
    have hset : C08.storeL mem k.addr (s.take (2 * (i + 1))) = (C08.storeL mem k.addr (s.take (2 * i))).set (k.addr / 2 + (i : Int)).toNat (at16 s i) := by
      rw [show 2 * (i + 1) = 2 * i + 1 + 1 by omega, take_one_more i2, C08.storeL_more, take_one_more i1, C08.storeL_more]
      have e1 : (s.take (2 * i)).length = 2 * i := by rw [List.length_take]; omega
      have e2 : (s.take (2 * i) ++ [s[2 * i]]).length = 2 * i + 1 := by rw [List.length_append, e1]; rfl
      rw [e1, e2, show k.addr + ((2 * i + 1 : Nat) : Int) = k.addr + ((2 * i : Nat) : Int) + 1 by omega]
      rw [pair_set _ _ _ _ (by omega) (by omega) (by rw [hlen]; omega) (C08.byte_lt _)]
      rw [show (k.addr + ((2 * i : Nat) : Int)) / 2 = k.addr / 2 + (i : Int) by omega]
      simp [at16, List.getD, i1, i2]
    simp only [Wref16_Tick_0, Tree.run, k1, k2, k3, w1, g3, ws, ha, hset, show ¬ (2 : Int) = 0 by omega, decide_true, decide_false, Bool.false_eq_true, if_true, if_false, Option.bind_some]) 0 (Nat.zero_le _)
  have hd : Lref16_Tick_0 none ⟨bad, (n : Int), s, (n : Int), C08.storeL mem k.addr (s.take (2 * n)), k, k'⟩ = some (bad, (n : Int), C08.storeL mem k.addr (s.take (2 * n)), k, k') := lim_done (by
    have k1 : ¬ (n : Int) < (n : Int) := by omega
    simp only [Wref16_Tick_0, Tree.run, k1, decide_false, Bool.false_eq_true, if_false])
  exact hc.trans hd
theorem tick_bad (bad : List Int) (n : Int) (mem : List Int) (k k' : Disk) (h : Rng k n) (hl : bad.length ≤ 100000) : Lref16_Tick_1 none ⟨bad, n, (0 : Int), mem, k, k', []⟩ = some (n, mem, k, k', cutL bad k.addr (2 * n)) := by
  obtain ⟨a0, a1, n0, n1⟩ := id h
  have w1 : IntKind.wrap .i64 (2 * n) = 2 * n := wrap_id (by omega) (by omega)
  have w : IntKind.wrap .i64 (k.addr + 2 * n) = k.addr + 2 * n := wrap_id (by omega) (by omega)
  have hc := lim_count (f := fun s => (Wref16_Tick_1 s).run) (fun i : Nat => ⟨bad, n, (i : Int), mem, k, k', cutL (bad.take i) k.addr (2 * n)⟩) bad.length (fun i hi => by
    have k1 : (i : Int) < (bad.length : Int) := by omega
    have k2 : (0 : Int) ≤ (i : Int) := by omega
    have g := List.getElem?_eq_getElem hi
    have ws := wrap_succ hi (show bad.length ≤ 9223372036854775807 by omega)
    have hlen : (cutL (bad.take i) k.addr (2 * n)).length ≤ i := by
      have := cut_len (bad.take i) k.addr (2 * n)
      rw [List.length_take] at this
      exact Nat.le_trans this (by omega)
    have k3 : ((cutL (bad.take i) k.addr (2 * n)).length + ([bad[i]]).length) * 8 ≤ 140737488355328 := by
      simp only [List.length_cons, List.length_nil]; omega
    have hm := cut_more (a := k.addr) (n := 2 * n) hi
    by_cases c1 : bad[i] < k.addr
    · have hh : ¬ Hit k.addr (2 * n) bad[i] := fun h => by have := h.1; omega
      rw [if_neg hh] at hm
      simp only [Wref16_Tick_1, Tree.run, k1, k2, k3, g, w1, w, ws, c1, decide_true, if_true, Int.toNat_natCast, Option.bind_some, hm]
    · by_cases c2 : k.addr + 2 * n ≤ bad[i]
      · have hh : ¬ Hit k.addr (2 * n) bad[i] := fun h => by have := h.2; omega
        rw [if_neg hh] at hm
        simp only [Wref16_Tick_1, Tree.run, k1, k2, k3, g, w1, w, ws, c1, c2, decide_true, decide_false, Bool.false_eq_true, if_false, if_true, Int.toNat_natCast, Option.bind_some, hm]
      · have hh : Hit k.addr (2 * n) bad[i] := ⟨by omega, by omega⟩
        rw [if_pos hh, List.append_nil] at hm
        simp only [Wref16_Tick_1, Tree.run, k1, k2, k3, g, w1, w, ws, c1, c2, decide_true, decide_false, Bool.false_eq_true, if_false, if_true, Int.toNat_natCast, Option.bind_some, hm]) 0 (Nat.zero_le _)
  have hd : Lref16_Tick_1 none ⟨bad, n, (bad.length : Int), mem, k, k', cutL (bad.take bad.length) k.addr (2 * n)⟩ = some (n, mem, k, k', cutL (bad.take bad.length) k.addr (2 * n)) := lim_done (by
    have k1 : ¬ (bad.length : Int) < (bad.length : Int) := by omega
    simp only [Wref16_Tick_1, Tree.run, k1, decide_false, Bool.false_eq_true, if_false])
  have hc' := hc.trans hd
  rw [List.take_length] at hc'
  exact hc'
end Go.Proofs.Ytenckckimagkkaa
end
section
set_option linter.unusedSimpArgs false
set_option linter.unusedVariables false
namespace Go.Proofs.Ytenckckimagkkaa
open Go Go.Ab
def nK (k : Disk) : Int := if 64 < k.words then 64 else k.words
def stopK (k : Disk) : Disk := ⟨k.drive, k.enable, true, true, k.command, k.words, k.addr, k.start, k.left - 1⟩
def nextK (k : Disk) (d : Drive) : Disk := ⟨d, k.enable, if k.words - nK k = 0 then true else k.ready, k.error, k.command, k.words - nK k, (k.addr + 2 * nK k) % 65536, (k.start + 1) % 65536, if k.words - nK k = 0 then k.left - 1 else 8⟩
noncomputable def tickV (k : Disk) (mem bad : List Int) : Disk × List Int × List Int :=
  if k.left = 0 then (k, mem, bad)
  else if 0 < k.left - 1 then ({ k with left := k.left - 1 }, mem, bad)
  else if ¬ C08.Wn mem k.addr (2 * nK k) then (stopK k, mem, bad)
  else if k.command = 2 then
    (if (writeD k.drive k.start (C08.outB mem k.addr (2 * nK k).toNat)).2 = 0 ∧ ¬ SpoiltP bad k.addr (2 * nK k) then (nextK k (writeD k.drive k.start (C08.outB mem k.addr (2 * nK k).toNat)).1, mem, bad) else (stopK k, mem, bad))
  else if ¬ (readD k.drive k.start).2 = 0 then (stopK k, mem, bad)
  else if k.command = 3 then
    (if (readD k.drive k.start).1.take (2 * nK k).toNat = C08.outB mem k.addr (2 * nK k).toNat ∧ ¬ SpoiltP bad k.addr (2 * nK k) then (nextK k k.drive, mem, bad) else (stopK k, mem, bad))
  else (nextK k k.drive, C08.storeL mem k.addr ((readD k.drive k.start).1.take (2 * nK k).toNat), cutL bad k.addr (2 * nK k))
/-- what a tick may be asked of -/
structure Okay (k : Disk) (mem bad : List Int) : Prop where
  rt : RtK k
  w : C08.Words mem
  b : bad.length ≤ 100000
  d : k.drive.bad.length ≤ 100000
theorem nK_in {k : Disk} (h : RtK k) : 0 ≤ nK k ∧ nK k ≤ 64 ∧ nK k ≤ k.words := by
  obtain ⟨_, ⟨h1, h2⟩, _⟩ := h
  unfold nK
  split <;> omega
theorem read_len {d : Drive} (h : RtV d) {i : Int} (hr : (readD d i).2 = 0) : (readD d i).1.length = 128 := by
  unfold readD at hr ⊢
  by_cases c1 : HasD d i
  · rw [if_pos c1] at hr ⊢
    by_cases c2 : i ∈ d.bad
    · rw [if_pos c2] at hr; exact absurd hr (by simp)
    · rw [if_neg c2]
      exact h.2.2.1 _ (List.mem_of_getElem? (sect_get c1))
  · rw [if_neg c1] at hr; exact absurd hr (by simp)
theorem Tick16_def (k : Disk) (mem bad : List Int) (h : Okay k mem bad) : diskctl_Tick none k mem bad = some (tickV k mem bad) := by
  obtain ⟨hk, hw, hb, hd⟩ := h
  obtain ⟨n0, n1, n2⟩ := nK_in hk
  obtain ⟨⟨c0, c1⟩, ⟨w0, w1⟩, ⟨a0, a1, a2⟩, ⟨s0, s1⟩, ⟨l0, l1⟩, hrd, hz, hv⟩ := id hk
  have hv1 := hv.2.1
  have e0 : IntKind.wrap .i64 (k.left - 1) = k.left - 1 := wrap_id (by omega) (by omega)
  have en : (if (64 : Int) < k.words then (64 : Int) else k.words) = nK k := rfl
  simp only [diskctl_Tick, Tdiskctl_Tick, Tree.run, e0, en]
  unfold tickV
  by_cases q1 : k.left = 0
  · simp only [q1, decide_true, if_true]
  by_cases q2 : 0 < k.left - 1
  · simp only [q1, q2, decide_true, decide_false, Bool.false_eq_true, if_true, if_false]
  simp only [q1, q2, decide_false, Bool.false_eq_true, if_false]
  have hR : Rng ⟨k.drive, k.enable, k.ready, k.error, k.command, k.words, k.addr, k.start, k.left - 1⟩ (nK k) := ⟨a0, a1, n0, n1⟩
  have e1 : IntKind.wrap .i64 (2 * nK k) = 2 * nK k := wrap_id (by omega) (by omega)
  have e2 : IntKind.wrap .i64 (k.addr + 2 * nK k) = k.addr + 2 * nK k := wrap_id (by omega) (by omega)
  have e3 : IntKind.wrap .i64 (k.words - nK k) = k.words - nK k := wrap_id (by omega) (by omega)
  have e4 : IntKind.wrap .i64 (k.start + 1) = k.start + 1 := wrap_id (by omega) (by omega)
  have p1 := C08.Bytes_def mem k.addr (2 * nK k) hw.1
  have p2 := Write_def k.drive k.start (C08.outB mem k.addr (2 * nK k).toNat) (by omega) (by omega)
  have p3 := Read_def k.drive k.start (by omega)
  have p4 := contains_def bad _ (nK k) hb hR
  simp only [diskctl_transfer, Tdiskctl_transfer, Tree.run, e1, p1, p3, p4, Option.bind_some, C08.bytesM]
  by_cases q3 : C08.Wn mem k.addr (2 * nK k)
  rotate_left
  · simp only [q3, if_false, not_false_eq_true, if_true, show ¬ (2 : Int) = 0 by omega, decide_false, Bool.not_false, Option.bind_some, stopK]
  simp only [q3, if_true, not_true_eq_false, if_false, decide_true, Bool.not_true, Bool.false_eq_true, p2, Option.bind_some]
  by_cases q4 : k.command = 2
  · simp only [q4, decide_true, if_true]
    by_cases q5 : (writeD k.drive k.start (C08.outB mem k.addr (2 * nK k).toNat)).2 = 0
    · simp only [q5, decide_true, if_true, Option.bind_some]
      by_cases q6 : SpoiltP bad k.addr (2 * nK k)
      · simp only [q6, decide_true, Bool.not_true, Bool.not_false, if_true, not_true_eq_false, and_false, if_false, stopK, q4]
      · simp only [q6, decide_false, Bool.not_false, Bool.not_true, Bool.false_eq_true, if_false, not_false_eq_true, and_true, if_true, e1, e2, e3, e4, and65535, nextK, q4]
        by_cases q7 : k.words - nK k = 0
        · simp only [q7, decide_true, if_true]
        · simp only [q7, decide_false, Bool.false_eq_true, if_false]
    · simp only [q5, decide_false, Bool.false_eq_true, if_false, Bool.not_false, if_true, false_and, Option.bind_some, stopK, q4]
  simp only [q4, decide_false, Bool.false_eq_true, if_false]
  by_cases q5 : (readD k.drive k.start).2 = 0
  rotate_left
  · simp only [q5, decide_false, Bool.not_false, if_true, not_false_eq_true, Option.bind_some, stopK]
  have hlen := read_len hv q5
  have k1 : (0 : Int) ≤ 2 * nK k := by omega
  have k2 : 2 * nK k ≤ (((readD k.drive k.start).1.length : Nat) : Int) := by omega
  simp only [q5, decide_true, Bool.not_true, Bool.false_eq_true, if_false, not_true_eq_false, k1, k2, if_true, List.drop_zero, Nat.sub_zero]
  by_cases q6 : k.command = 3
  · simp only [q6, decide_true, if_true]
    by_cases q7 : (readD k.drive k.start).1.take (2 * nK k).toNat = C08.outB mem k.addr (2 * nK k).toNat
    · simp only [q7, decide_true, if_true, true_and, Option.bind_some]
      by_cases q8 : SpoiltP bad k.addr (2 * nK k)
      · simp only [q8, decide_true, Bool.not_true, Bool.not_false, if_true, not_true_eq_false, if_false, stopK, q6]
      · simp only [q8, decide_false, Bool.not_false, Bool.not_true, Bool.false_eq_true, if_false, not_false_eq_true, if_true, e1, e2, e3, e4, and65535, nextK, q6]
        by_cases q9 : k.words - nK k = 0
        · simp only [q9, decide_true, if_true]
        · simp only [q9, decide_false, Bool.false_eq_true, if_false]
    · simp only [q7, decide_false, Bool.false_eq_true, if_false, Bool.not_false, if_true, false_and, Option.bind_some, stopK, q6]
  simp only [q6, decide_false, Bool.false_eq_true, if_false]
  have htl : ((readD k.drive k.start).1.take (2 * nK k).toNat).length = (2 * nK k).toNat := by rw [List.length_take]; omega
  have p5 := C08.Store_def mem k.addr ((readD k.drive k.start).1.take (2 * nK k).toNat) hw
  have hst : C08.storeM mem k.addr ((readD k.drive k.start).1.take (2 * nK k).toNat) = (C08.storeL mem k.addr ((readD k.drive k.start).1.take (2 * nK k).toNat), 0) := by
    unfold C08.storeM
    rw [htl, if_pos (by rw [Int.toNat_of_nonneg k1]; exact q3)]
  have p6 := clone_some 8 bad (by omega)
  have p7 := delete_def bad _ (nK k) hb hR
  have fin : ∀ l : List Int, l = cutL bad k.addr (2 * nK k) → (if k.words - nK k = 0 then some (⟨k.drive, k.enable, true, k.error, k.command, k.words - nK k, (k.addr + 2 * nK k) % 65536, (k.start + 1) % 65536, k.left - 1⟩, C08.storeL mem k.addr ((readD k.drive k.start).1.take (2 * nK k).toNat), l) else some (⟨k.drive, k.enable, k.ready, k.error, k.command, k.words - nK k, (k.addr + 2 * nK k) % 65536, (k.start + 1) % 65536, 8⟩, C08.storeL mem k.addr ((readD k.drive k.start).1.take (2 * nK k).toNat), l)) = some ((nextK k k.drive, C08.storeL mem k.addr ((readD k.drive k.start).1.take (2 * nK k).toNat), cutL bad k.addr (2 * nK k)) : Disk × List Int × List Int) := by
    intro l hl
    subst hl
    unfold nextK
    by_cases q9 : k.words - nK k = 0
    · simp only [q9, if_true]
    · simp only [q9, if_false]
  rw [hst] at p5
  simp only [p5, p6, Option.bind_some]
  rcases p7 with ⟨d1, d2⟩ | ⟨j, b, d1, d2⟩
  · simp only [d1, Option.bind_some, Sum.isLeft_inl, if_true, Sum.getLeft?_inl, decide_true, Bool.not_true, Bool.false_eq_true, if_false, e1, e2, e3, e4, and65535, decide_eq_true_eq]
    exact fin _ d2.symm
  · simp only [d1, Option.bind_some, Sum.isLeft_inr, Bool.false_eq_true, if_false, Sum.getRight?_inr, List.drop_zero, decide_true, Bool.not_true, e1, e2, e3, e4, and65535, decide_eq_true_eq]
    exact fin _ d2
theorem failed_def (k : Disk) : ref16_failed k = some ⟨k.drive, k.enable, true, true, k.command, k.words, k.addr, k.start, k.left⟩ := rfl
theorem write_pad (d : Drive) (i : Int) (s : List UInt8) (h : s.length ≤ 128) : writeD d i (padL s) = writeD d i s := by
  have h1 := pad_len h
  have h2 : padL (padL s) = padL s := by
    show padL s ++ List.replicate (128 - (padL s).length) 0 = padL s
    rw [h1, Nat.sub_self, List.replicate_zero, List.append_nil]
  unfold writeD
  rw [h1, h2, if_neg (show ¬ 128 < 128 by omega), if_neg (show ¬ 128 < s.length by omega)]
theorem ref_Tick16_def (k : Disk) (mem bad : List Int) (h : Okay k mem bad) : ref16_Tick none k mem bad = some (tickV k mem bad) := by
  obtain ⟨hk, hw, hb, hd⟩ := h
  obtain ⟨n0, n1, n2⟩ := nK_in hk
  obtain ⟨⟨c0, c1⟩, ⟨w0, w1⟩, ⟨a0, a1, a2⟩, ⟨s0, s1⟩, ⟨l0, l1⟩, hrd, hz, hv⟩ := id hk
  have hv1 := hv.2.1
  have hml := hw.1
  have e0 : IntKind.wrap .i64 (k.left - 1) = k.left - 1 := wrap_id (by omega) (by omega)
  unfold tickV
  by_cases q1 : k.left = 0
  · simp only [ref16_Tick, Tref16_Tick, Tree.run, q1, decide_true, if_true]
  by_cases q2 : 0 < k.left - 1
  · simp only [ref16_Tick, Tref16_Tick, Tree.run, e0, q1, q2, decide_true, decide_false, Bool.false_eq_true, if_true, if_false]
  have hcm : k.command = 1 ∨ k.command = 2 ∨ k.command = 3 := by rcases hz with hz | hz <;> omega
  have e1 : IntKind.wrap .i64 (2 * nK k) = 2 * nK k := wrap_id (by omega) (by omega)
  have e2 : IntKind.wrap .i64 (k.addr + 2 * nK k) = k.addr + 2 * nK k := wrap_id (by omega) (by omega)
  have e3 : IntKind.wrap .i64 (k.words - nK k) = k.words - nK k := wrap_id (by omega) (by omega)
  have e4 : IntKind.wrap .i64 (k.start + 1) = k.start + 1 := wrap_id (by omega) (by omega)
  have e5 : IntKind.wrap .i64 (2 * (mem.length : Int)) = 2 * (mem.length : Int) := wrap_id (by omega) (by omega)
  have e6 : (k.addr + 2 * nK k).tmod 65536 = (k.addr + 2 * nK k) % 65536 := tmod_nn (by omega) _
  have e7 : (k.start + 1).tmod 65536 = (k.start + 1) % 65536 := tmod_nn (by omega) _
  have p3 := ref_Read_def k.drive k.start (by omega)
  have p4 := spoilt_def bad k (nK k) hb ⟨a0, a1, n0, n1⟩
  have k5 : (([] : List Int).length + mem.length) * 8 ≤ 140737488355328 := by simp only [List.length_nil]; omega
  by_cases c64 : 64 < k.words
  · have hN : nK k = (64 : Int) := if_pos c64
    rw [hN] at n0 n1 n2 p4 e1 e2 e3 e6
    obtain ⟨m, hm⟩ : ∃ m : Nat, (64 : Int) = (m : Int) := ⟨((64 : Int)).toNat, by omega⟩
    rw [hN]
    by_cases q3 : C08.Wn mem k.addr (2 * (64 : Int))
    rotate_left
    · have q3' : 2 * (mem.length : Int) < k.addr + 2 * (64 : Int) := by
        rcases Int.lt_or_le (2 * (mem.length : Int)) (k.addr + 2 * (64 : Int)) with h | h
        · exact h
        · exact absurd (⟨a0, by omega, by omega, by omega⟩ : C08.Wn mem k.addr (2 * (64 : Int))) q3
      simp only [ref16_Tick, Tref16_Tick, Tree.run, e0, e1, e2, e5, q1, q2, q3, q3', c64, decide_true, decide_false, Bool.false_eq_true, if_true, if_false, not_false_eq_true, failed_def, Option.bind_some, stopK]
    have q3' : ¬ 2 * (mem.length : Int) < k.addr + 2 * (64 : Int) := by have := q3.2.2.2; omega
    have hI : ∀ a, a = k.addr → InM mem a m := fun a ha => ⟨hw, by omega, by omega, by have := q3.2.2.2; omega, by omega⟩
    have e8 : (2 * (64 : Int)).toNat = 2 * m := by omega
    rcases hcm with q | q | q
    · by_cases q5 : (readD k.drive k.start).2 = 0
      rotate_left
      · simp only [ref16_Tick, Tref16_Tick, Tree.run, e0, e1, e2, e5, q1, q2, q3, q3', c64, q, q5, p3, show ¬ (1 : Int) = 2 by omega, decide_true, decide_false, Bool.false_eq_true, Bool.not_false, if_true, if_false, not_true_eq_false, not_false_eq_true, failed_def, Option.bind_some, stopK]
      have hlen := read_len hv q5
      have t1 := tick_mem bad m (readD k.drive k.start).1 mem ⟨k.drive, k.enable, k.ready, k.error, k.command, k.words, k.addr, k.start, k.left - 1⟩ ⟨⟨[], []⟩, false, false, false, 0, 0, 0, 0, 0⟩ (hI _ rfl) hlen
      have t2 := tick_bad bad (64 : Int) (C08.storeL mem k.addr ((readD k.drive k.start).1.take (2 * m))) ⟨k.drive, k.enable, k.ready, k.error, k.command, k.words, k.addr, k.start, k.left - 1⟩ ⟨⟨[], []⟩, false, false, false, 0, 0, 0, 0, 0⟩ ⟨a0, a1, by omega, by omega⟩ hb
      rw [← hm] at t1
      rw [q] at t1 t2
      simp only [ref16_Tick, Tref16_Tick, Tree.run, e0, e1, e2, e3, e4, e5, e6, e7, e8, k5, q1, q2, q3, q3', c64, q, q5, p3, t1, t2, show ¬ (1 : Int) = 2 by omega, show ¬ (1 : Int) = 3 by omega, show ¬ (65536 : Int) = 0 by omega, decide_true, decide_false, Bool.false_eq_true, Bool.not_false, Bool.not_true, if_true, if_false, not_true_eq_false, not_false_eq_true, Option.bind_some, nextK, List.nil_append, hN]
      by_cases q9 : k.words - (64 : Int) = 0
      · simp only [q9, decide_true, if_true]
      · simp only [q9, decide_false, Bool.false_eq_true, if_false]
    · by_cases q6 : SpoiltP bad k.addr (2 * (64 : Int))
      · simp only [ref16_Tick, Tref16_Tick, Tree.run, e0, e1, e2, e5, q1, q2, q3, q3', c64, q, q6, p3, p4, show ¬ (2 : Int) = 1 by omega, decide_true, decide_false, Bool.false_eq_true, Bool.not_false, Bool.not_true, if_true, if_false, not_true_eq_false, not_false_eq_true, and_false, failed_def, Option.bind_some, stopK]
      have hsec := sector_def mem k.addr m (hI _ rfl)
      rw [← hm] at hsec
      have hol : (C08.outB mem k.addr (2 * m)).length ≤ 128 := by rw [C08.outB_len]; omega
      have hwr := ref_Write_def k.drive k.start (padL (C08.outB mem k.addr (2 * m))) (by omega) (by omega)
      rw [write_pad _ _ _ hol] at hwr
      by_cases q5 : (writeD k.drive k.start (C08.outB mem k.addr (2 * m))).2 = 0
      · simp only [ref16_Tick, Tref16_Tick, Tree.run, e0, e1, e2, e3, e4, e5, e6, e7, e8, k5, q1, q2, q3, q3', c64, q, q5, q6, p3, p4, hsec, hwr, show ¬ (2 : Int) = 1 by omega, show ¬ (2 : Int) = 3 by omega, show ¬ (65536 : Int) = 0 by omega, decide_true, decide_false, Bool.false_eq_true, Bool.not_false, Bool.not_true, if_true, if_false, not_true_eq_false, not_false_eq_true, and_true, Option.bind_some, nextK, hN]
        by_cases q9 : k.words - (64 : Int) = 0
        · simp only [q9, decide_true, if_true]
        · simp only [q9, decide_false, Bool.false_eq_true, if_false]
      · simp only [ref16_Tick, Tref16_Tick, Tree.run, e0, e1, e2, e3, e4, e5, e6, e7, e8, k5, q1, q2, q3, q3', c64, q, q5, q6, p3, p4, hsec, hwr, show ¬ (2 : Int) = 1 by omega, show ¬ (2 : Int) = 3 by omega, show ¬ (65536 : Int) = 0 by omega, decide_true, decide_false, Bool.false_eq_true, Bool.not_false, Bool.not_true, if_true, if_false, not_true_eq_false, not_false_eq_true, and_true, Option.bind_some, failed_def, stopK]
    · by_cases q5 : (readD k.drive k.start).2 = 0
      rotate_left
      · simp only [ref16_Tick, Tref16_Tick, Tree.run, e0, e1, e2, e5, q1, q2, q3, q3', c64, q, q5, p3, show ¬ (3 : Int) = 2 by omega, decide_true, decide_false, Bool.false_eq_true, Bool.not_false, if_true, if_false, not_true_eq_false, not_false_eq_true, failed_def, Option.bind_some, stopK]
      have hlen := read_len hv q5
      have hdf := differs_def mem k.addr m (readD k.drive k.start).1 (hI _ rfl) hlen
      rw [← hm] at hdf
      by_cases q6 : SpoiltP bad k.addr (2 * (64 : Int))
      · simp only [ref16_Tick, Tref16_Tick, Tree.run, e0, e1, e2, e5, q1, q2, q3, q3', c64, q, q5, q6, p3, p4, show ¬ (3 : Int) = 1 by omega, show ¬ (3 : Int) = 2 by omega, decide_true, decide_false, Bool.false_eq_true, Bool.not_false, Bool.not_true, if_true, if_false, not_true_eq_false, not_false_eq_true, and_false, failed_def, Option.bind_some, stopK]
      by_cases q7 : (readD k.drive k.start).1.take (2 * m) = C08.outB mem k.addr (2 * m)
      · simp only [ref16_Tick, Tref16_Tick, Tree.run, e0, e1, e2, e3, e4, e5, e6, e7, e8, k5, q1, q2, q3, q3', c64, q, q5, q6, q7, p3, p4, hdf, show ¬ (3 : Int) = 1 by omega, show ¬ (3 : Int) = 2 by omega, show ¬ (65536 : Int) = 0 by omega, decide_true, decide_false, Bool.false_eq_true, Bool.not_false, Bool.not_true, if_true, if_false, not_true_eq_false, not_false_eq_true, and_self, Option.bind_some, nextK, hN]
        by_cases q9 : k.words - (64 : Int) = 0
        · simp only [q9, decide_true, if_true]
        · simp only [q9, decide_false, Bool.false_eq_true, if_false]
      · simp only [ref16_Tick, Tref16_Tick, Tree.run, e0, e1, e2, e3, e4, e5, e6, e7, e8, k5, q1, q2, q3, q3', c64, q, q5, q6, q7, p3, p4, hdf, show ¬ (3 : Int) = 1 by omega, show ¬ (3 : Int) = 2 by omega, show ¬ (65536 : Int) = 0 by omega, decide_true, decide_false, Bool.false_eq_true, Bool.not_false, Bool.not_true, if_true, if_false, not_true_eq_false, not_false_eq_true, false_and, Option.bind_some, failed_def, stopK]
  · have hN : nK k = k.words := if_neg c64
    rw [hN] at n0 n1 n2 p4 e1 e2 e3 e6
    obtain ⟨m, hm⟩ : ∃ m : Nat, k.words = (m : Int) := ⟨(k.words).toNat, by omega⟩
    rw [hN]
    by_cases q3 : C08.Wn mem k.addr (2 * k.words)
    rotate_left
    · have q3' : 2 * (mem.length : Int) < k.addr + 2 * k.words := by
        rcases Int.lt_or_le (2 * (mem.length : Int)) (k.addr + 2 * k.words) with h | h
        · exact h
        · exact absurd (⟨a0, by omega, by omega, by omega⟩ : C08.Wn mem k.addr (2 * k.words)) q3
      simp only [ref16_Tick, Tref16_Tick, Tree.run, e0, e1, e2, e5, q1, q2, q3, q3', c64, decide_true, decide_false, Bool.false_eq_true, if_true, if_false, not_false_eq_true, failed_def, Option.bind_some, stopK]
    have q3' : ¬ 2 * (mem.length : Int) < k.addr + 2 * k.words := by have := q3.2.2.2; omega
    have hI : ∀ a, a = k.addr → InM mem a m := fun a ha => ⟨hw, by omega, by omega, by have := q3.2.2.2; omega, by omega⟩
    have e8 : (2 * k.words).toNat = 2 * m := by omega
    rcases hcm with q | q | q
    · by_cases q5 : (readD k.drive k.start).2 = 0
      rotate_left
      · simp only [ref16_Tick, Tref16_Tick, Tree.run, e0, e1, e2, e5, q1, q2, q3, q3', c64, q, q5, p3, show ¬ (1 : Int) = 2 by omega, decide_true, decide_false, Bool.false_eq_true, Bool.not_false, if_true, if_false, not_true_eq_false, not_false_eq_true, failed_def, Option.bind_some, stopK]
      have hlen := read_len hv q5
      have t1 := tick_mem bad m (readD k.drive k.start).1 mem ⟨k.drive, k.enable, k.ready, k.error, k.command, k.words, k.addr, k.start, k.left - 1⟩ ⟨⟨[], []⟩, false, false, false, 0, 0, 0, 0, 0⟩ (hI _ rfl) hlen
      have t2 := tick_bad bad k.words (C08.storeL mem k.addr ((readD k.drive k.start).1.take (2 * m))) ⟨k.drive, k.enable, k.ready, k.error, k.command, k.words, k.addr, k.start, k.left - 1⟩ ⟨⟨[], []⟩, false, false, false, 0, 0, 0, 0, 0⟩ ⟨a0, a1, by omega, by omega⟩ hb
      rw [← hm] at t1
      rw [q] at t1 t2
      simp only [ref16_Tick, Tref16_Tick, Tree.run, e0, e1, e2, e3, e4, e5, e6, e7, e8, k5, q1, q2, q3, q3', c64, q, q5, p3, t1, t2, show ¬ (1 : Int) = 2 by omega, show ¬ (1 : Int) = 3 by omega, show ¬ (65536 : Int) = 0 by omega, decide_true, decide_false, Bool.false_eq_true, Bool.not_false, Bool.not_true, if_true, if_false, not_true_eq_false, not_false_eq_true, Option.bind_some, nextK, List.nil_append, hN]
      by_cases q9 : k.words - k.words = 0
      · simp only [q9, decide_true, if_true]
      · simp only [q9, decide_false, Bool.false_eq_true, if_false]
    · by_cases q6 : SpoiltP bad k.addr (2 * k.words)
      · simp only [ref16_Tick, Tref16_Tick, Tree.run, e0, e1, e2, e5, q1, q2, q3, q3', c64, q, q6, p3, p4, show ¬ (2 : Int) = 1 by omega, decide_true, decide_false, Bool.false_eq_true, Bool.not_false, Bool.not_true, if_true, if_false, not_true_eq_false, not_false_eq_true, and_false, failed_def, Option.bind_some, stopK]
      have hsec := sector_def mem k.addr m (hI _ rfl)
      rw [← hm] at hsec
      have hol : (C08.outB mem k.addr (2 * m)).length ≤ 128 := by rw [C08.outB_len]; omega
      have hwr := ref_Write_def k.drive k.start (padL (C08.outB mem k.addr (2 * m))) (by omega) (by omega)
      rw [write_pad _ _ _ hol] at hwr
      by_cases q5 : (writeD k.drive k.start (C08.outB mem k.addr (2 * m))).2 = 0
      · simp only [ref16_Tick, Tref16_Tick, Tree.run, e0, e1, e2, e3, e4, e5, e6, e7, e8, k5, q1, q2, q3, q3', c64, q, q5, q6, p3, p4, hsec, hwr, show ¬ (2 : Int) = 1 by omega, show ¬ (2 : Int) = 3 by omega, show ¬ (65536 : Int) = 0 by omega, decide_true, decide_false, Bool.false_eq_true, Bool.not_false, Bool.not_true, if_true, if_false, not_true_eq_false, not_false_eq_true, and_true, Option.bind_some, nextK, hN]
        by_cases q9 : k.words - k.words = 0
        · simp only [q9, decide_true, if_true]
        · simp only [q9, decide_false, Bool.false_eq_true, if_false]
      · simp only [ref16_Tick, Tref16_Tick, Tree.run, e0, e1, e2, e3, e4, e5, e6, e7, e8, k5, q1, q2, q3, q3', c64, q, q5, q6, p3, p4, hsec, hwr, show ¬ (2 : Int) = 1 by omega, show ¬ (2 : Int) = 3 by omega, show ¬ (65536 : Int) = 0 by omega, decide_true, decide_false, Bool.false_eq_true, Bool.not_false, Bool.not_true, if_true, if_false, not_true_eq_false, not_false_eq_true, and_true, Option.bind_some, failed_def, stopK]
    · by_cases q5 : (readD k.drive k.start).2 = 0
      rotate_left
      · simp only [ref16_Tick, Tref16_Tick, Tree.run, e0, e1, e2, e5, q1, q2, q3, q3', c64, q, q5, p3, show ¬ (3 : Int) = 2 by omega, decide_true, decide_false, Bool.false_eq_true, Bool.not_false, if_true, if_false, not_true_eq_false, not_false_eq_true, failed_def, Option.bind_some, stopK]
      have hlen := read_len hv q5
      have hdf := differs_def mem k.addr m (readD k.drive k.start).1 (hI _ rfl) hlen
      rw [← hm] at hdf
      by_cases q6 : SpoiltP bad k.addr (2 * k.words)
      · simp only [ref16_Tick, Tref16_Tick, Tree.run, e0, e1, e2, e5, q1, q2, q3, q3', c64, q, q5, q6, p3, p4, show ¬ (3 : Int) = 1 by omega, show ¬ (3 : Int) = 2 by omega, decide_true, decide_false, Bool.false_eq_true, Bool.not_false, Bool.not_true, if_true, if_false, not_true_eq_false, not_false_eq_true, and_false, failed_def, Option.bind_some, stopK]
      by_cases q7 : (readD k.drive k.start).1.take (2 * m) = C08.outB mem k.addr (2 * m)
      · simp only [ref16_Tick, Tref16_Tick, Tree.run, e0, e1, e2, e3, e4, e5, e6, e7, e8, k5, q1, q2, q3, q3', c64, q, q5, q6, q7, p3, p4, hdf, show ¬ (3 : Int) = 1 by omega, show ¬ (3 : Int) = 2 by omega, show ¬ (65536 : Int) = 0 by omega, decide_true, decide_false, Bool.false_eq_true, Bool.not_false, Bool.not_true, if_true, if_false, not_true_eq_false, not_false_eq_true, and_self, Option.bind_some, nextK, hN]
        by_cases q9 : k.words - k.words = 0
        · simp only [q9, decide_true, if_true]
        · simp only [q9, decide_false, Bool.false_eq_true, if_false]
      · simp only [ref16_Tick, Tref16_Tick, Tree.run, e0, e1, e2, e3, e4, e5, e6, e7, e8, k5, q1, q2, q3, q3', c64, q, q5, q6, q7, p3, p4, hdf, show ¬ (3 : Int) = 1 by omega, show ¬ (3 : Int) = 2 by omega, show ¬ (65536 : Int) = 0 by omega, decide_true, decide_false, Bool.false_eq_true, Bool.not_false, Bool.not_true, if_true, if_false, not_true_eq_false, not_false_eq_true, false_and, Option.bind_some, failed_def, stopK]
end Go.Proofs.Ytenckckimagkkaa
end
section
set_option linter.unusedSimpArgs false
set_option linter.unusedVariables false
namespace Go.Proofs.Ytenckckimagkkaa
open Go Go.Ab
/-- what stays of a controller and a memory -/
structure Kept (k : Disk) (mem bad : List Int) (r : Disk × List Int × List Int) : Prop where
  ok : Okay r.1 r.2.1 r.2.2
  m : r.2.1.length = mem.length
  b : r.2.2.length ≤ bad.length
  s : r.1.drive.sectors.length = k.drive.sectors.length
  d : r.1.drive.bad = k.drive.bad
theorem kept_self {k : Disk} {mem bad : List Int} (h : Okay k mem bad) : Kept k mem bad (k, mem, bad) := ⟨h, rfl, Nat.le_refl _, rfl, rfl⟩
theorem write_right {d : Drive} (h : RtV d) {i : Int} {s : List UInt8} (hs : s.length ≤ 128) (hr : (writeD d i s).2 = 0) : RtV (writeD d i s).1 ∧ (writeD d i s).1.sectors.length = d.sectors.length ∧ (writeD d i s).1.bad = d.bad := by
  obtain ⟨h1, h2, h3, h4⟩ := h
  unfold writeD at hr ⊢
  by_cases c1 : HasD d i
  · rw [if_pos c1] at hr ⊢
    rw [if_neg (by omega)] at hr ⊢
    by_cases c2 : i ∈ d.bad
    · rw [if_pos c2] at hr; exact absurd hr (by simp)
    · rw [if_neg c2]
      refine ⟨⟨by simp only [List.length_set]; exact h1, by simp only [List.length_set]; exact h2, fun t ht => ?_, by simp only [List.length_set]; exact h4⟩, by simp only [List.length_set], rfl⟩
      rcases List.mem_or_eq_of_mem_set ht with ht | rfl
      · exact h3 t ht
      · exact pad_len hs
  · rw [if_neg c1] at hr; exact absurd hr (by simp)
theorem next_right {k : Disk} (h : RtK k) {d : Drive} (hd : RtV d) (hl : ¬ k.left = 0) (h1 : ¬ 0 < k.left - 1) : RtK (nextK k d) := by
  obtain ⟨n0, n1, n2⟩ := nK_in h
  obtain ⟨⟨c0, c1⟩, ⟨w0, w1⟩, ⟨a0, a1, a2⟩, ⟨s0, s1⟩, ⟨l0, l1⟩, hrd, hz, hv⟩ := h
  have hz' : ¬ k.command = 0 ∧ ¬ k.words = 0 := by rcases hz with h | h; exact absurd h hl; exact h
  have hr : ¬ k.ready = true := fun e => hl (hrd.1 e)
  unfold nextK RtK
  by_cases q : k.words - nK k = 0
  · simp only [q, if_true]
    exact ⟨⟨c0, c1⟩, ⟨by omega, by omega⟩, ⟨by omega, by omega, by omega⟩, ⟨by omega, by omega⟩, ⟨by omega, by omega⟩, ⟨fun _ => by omega, fun _ => trivial⟩, .inl (by omega), hd⟩
  · simp only [q, if_false]
    exact ⟨⟨c0, c1⟩, ⟨by omega, by omega⟩, ⟨by omega, by omega, by omega⟩, ⟨by omega, by omega⟩, ⟨by omega, by omega⟩, ⟨fun e => absurd e hr, fun e => by cases e⟩, .inr ⟨hz'.1, fun e => e⟩, hd⟩
theorem stop_right {k : Disk} (h : RtK k) (hl : ¬ k.left = 0) (h1 : ¬ 0 < k.left - 1) : RtK (stopK k) := by
  obtain ⟨⟨c0, c1⟩, ⟨w0, w1⟩, ⟨a0, a1, a2⟩, ⟨s0, s1⟩, ⟨l0, l1⟩, hrd, hz, hv⟩ := h
  unfold stopK RtK
  exact ⟨⟨c0, c1⟩, ⟨w0, w1⟩, ⟨a0, a1, a2⟩, ⟨s0, s1⟩, ⟨by simp only; omega, by simp only; omega⟩, ⟨fun _ => by simp only; omega, fun _ => rfl⟩, .inl (by simp only; omega), hv⟩
theorem tick_kept (k : Disk) (mem bad : List Int) (h : Okay k mem bad) : Kept k mem bad (tickV k mem bad) := by
  obtain ⟨hk, hw, hb, hd⟩ := id h
  obtain ⟨n0, n1, n2⟩ := nK_in hk
  have hv := hk.2.2.2.2.2.2.2
  unfold tickV
  split
  · exact kept_self h
  · rename_i q1
    split
    · rename_i q2
      obtain ⟨⟨c0, c1⟩, ⟨w0, w1⟩, ⟨a0, a1, a2⟩, ⟨s0, s1⟩, ⟨l0, l1⟩, hrd, hz, _⟩ := hk
      have hr : ¬ k.ready = true := fun e => q1 (hrd.1 e)
      have hz' : ¬ k.command = 0 ∧ ¬ k.words = 0 := by rcases hz with h | h; exact absurd h q1; exact h
      exact ⟨⟨⟨⟨c0, c1⟩, ⟨w0, w1⟩, ⟨a0, a1, a2⟩, ⟨s0, s1⟩, ⟨by simp only; omega, by simp only; omega⟩, ⟨fun e => absurd e hr, fun e => by simp only at e; omega⟩, .inr hz', hv⟩, hw, hb, hd⟩, rfl, Nat.le_refl _, rfl, rfl⟩
    · rename_i q2
      have st : Kept k mem bad (stopK k, mem, bad) := ⟨⟨stop_right hk q1 q2, hw, hb, hd⟩, rfl, Nat.le_refl _, rfl, rfl⟩
      split
      · exact st
      · rename_i q3
        have q3 : C08.Wn mem k.addr (2 * nK k) := by
          by_cases h : C08.Wn mem k.addr (2 * nK k)
          · exact h
          · exact absurd h q3
        split
        · split
          · rename_i q5
            have hol : (C08.outB mem k.addr (2 * nK k).toNat).length ≤ 128 := by rw [C08.outB_len]; omega
            obtain ⟨r1, r2, r3⟩ := write_right hv hol q5.1
            exact ⟨⟨next_right hk r1 q1 q2, hw, hb, by simp only [nextK, r3]; exact hd⟩, rfl, Nat.le_refl _, r2, r3⟩
          · exact st
        · split
          · exact st
          · rename_i q5
            split
            · split
              · exact ⟨⟨next_right hk hv q1 q2, hw, hb, hd⟩, rfl, Nat.le_refl _, rfl, rfl⟩
              · exact st
            · have hl := read_len hv (Classical.not_not.1 q5)
              have htl : ((readD k.drive k.start).1.take (2 * nK k).toNat).length = (2 * nK k).toNat := by rw [List.length_take]; omega
              have := cut_len bad k.addr (2 * nK k)
              exact ⟨⟨next_right hk hv q1 q2, C08.storeL_words hw hk.2.2.1.1 (by rw [htl]; have := q3.2.2.2; omega), by simp only; omega, hd⟩, C08.storeL_len _ _ _, this, rfl, rfl⟩
theorem few_def (k : Disk) (mem bad : List Int) : ∃ r, law16_few none k mem bad = some r ∧ (r = true → Okay k mem bad ∧ k.drive.sectors.length ≤ 64 ∧ k.drive.bad.length ≤ 64 ∧ mem.length ≤ 2048 ∧ bad.length ≤ 60) := by
  simp only [law16_few, Tlaw16_few, Tree.run]
  by_cases h1 : (k.drive.sectors.length : Int) ≤ 64
  · by_cases h2 : (k.drive.bad.length : Int) ≤ 64
    · by_cases h3 : (mem.length : Int) ≤ 2048
      · by_cases h4 : (bad.length : Int) ≤ 60
        · simp only [h1, h2, h3, h4, decide_true, if_true, ref_RightK_def k (by omega), C08.ref_Right_def mem bad (by omega) (by omega), Option.bind_some]
          by_cases h5 : RtK k
          · by_cases h6 : C08.Rt mem bad
            · exact ⟨true, by simp [h5, h6], fun _ => ⟨⟨h5, ⟨by omega, h6.2.1⟩, by omega, by omega⟩, by omega, by omega, by omega, by omega⟩⟩
            · exact ⟨false, by simp [h5, h6], fun h => by cases h⟩
          · exact ⟨false, by simp [h5], fun h => by cases h⟩
        · exact ⟨false, by simp [h1, h2, h3, h4], fun h => by cases h⟩
      · exact ⟨false, by simp [h1, h2, h3], fun h => by cases h⟩
    · exact ⟨false, by simp [h1, h2], fun h => by cases h⟩
  · exact ⟨false, by simp [h1], fun h => by cases h⟩
theorem reset_right {k : Disk} (h : RtK k) : RtK (reset16 k) := by
  obtain ⟨⟨c0, c1⟩, ⟨w0, w1⟩, ⟨a0, a1, a2⟩, ⟨s0, s1⟩, ⟨l0, l1⟩, hrd, hz, hv⟩ := h
  exact ⟨⟨by simp [reset16], by simp [reset16]⟩, ⟨w0, w1⟩, ⟨a0, a1, a2⟩, ⟨s0, s1⟩, ⟨by simp [reset16], by simp [reset16]⟩, ⟨fun _ => rfl, fun _ => rfl⟩, .inl rfl, hv⟩
theorem accept_right {k : Disk} (h : RtK k) (v : Int) : RtK (accept16 k v) := by
  unfold accept16
  split
  · exact h
  · exact h
end Go.Proofs.Ytenckckimagkkaa
end
section
set_option linter.unusedSimpArgs false
set_option linter.unusedVariables false
namespace Go.Proofs.Ytenckckimagkkaa
open Go Go.Ab
/-! ### bytes of memory, stored elsewhere -/
theorem wordAt_two (N : List Int) (q : Nat) : C08.wordAt N (2 * (q : Int)) = N.getD q 0 := by
  have : (2 * (q : Int) / 2).toNat = q := by omega
  simp only [C08.wordAt, this]
theorem out_more (N : List Int) (q m : Nat) : C08.outB N (2 * (q : Int)) (2 * (m + 1)) = C08.outB N (2 * (q : Int)) (2 * m) ++ [UInt8.ofNat (N.getD (q + m) 0 % 256).toNat] ++ [UInt8.ofNat (N.getD (q + m) 0 / 256 % 256).toNat] := by
  have e : 2 * (m + 1) = 2 * m + 1 + 1 := by omega
  have b1 : C08.byteAt N (2 * (q : Int) + ((2 * m : Nat) : Int)) = N.getD (q + m) 0 % 256 := by
    unfold C08.byteAt
    rw [if_pos (by omega), show 2 * (q : Int) + ((2 * m : Nat) : Int) = 2 * ((q + m : Nat) : Int) by omega, wordAt_two]
  have b2 : C08.byteAt N (2 * (q : Int) + ((2 * m + 1 : Nat) : Int)) = N.getD (q + m) 0 / 256 % 256 := by
    unfold C08.byteAt
    rw [if_neg (by omega)]
    have : ((2 * (q : Int) + ((2 * m + 1 : Nat) : Int)) / 2).toNat = q + m := by omega
    simp only [C08.wordAt, this]
  unfold C08.outB
  rw [e, C08.bytesL_succ, C08.bytesL_succ, b1, b2]
  simp
theorem getD_in {N : List Int} (hN : C08.Words N) {i : Nat} (hi : i < N.length) : 0 ≤ N.getD i 0 ∧ N.getD i 0 ≤ 65535 := by
  have := hN.2 N[i] (List.getElem_mem hi)
  simpa [List.getD, hi] using this
theorem u8_of (v : Int) (h0 : 0 ≤ v) (h1 : v ≤ 255) : ((UInt8.ofNat v.toNat).toNat : Int) = v := by
  rw [UInt8.toNat_ofNat']; omega
theorem store_out (M N : List Int) (p q : Nat) (hN : C08.Words N) : ∀ m : Nat, p + m ≤ M.length → q + m ≤ N.length → (C08.storeL M (2 * (p : Int)) (C08.outB N (2 * (q : Int)) (2 * m))).length = M.length ∧ ∀ i : Nat, (C08.storeL M (2 * (p : Int)) (C08.outB N (2 * (q : Int)) (2 * m))).getD i 0 = if p ≤ i ∧ i < p + m then N.getD (q + (i - p)) 0 else M.getD i 0
  | 0, _, _ => by
    refine ⟨C08.storeL_len _ _ _, fun i => ?_⟩
    rw [if_neg (by omega)]
    rfl
  | m + 1, h1, h2 => by
    obtain ⟨l1, ih⟩ := store_out M N p q hN m (by omega) (by omega)
    refine ⟨C08.storeL_len _ _ _, fun i => ?_⟩
    obtain ⟨w0, w1⟩ := getD_in hN (i := q + m) (by omega)
    rw [out_more, C08.storeL_more, C08.storeL_more]
    have e1 : (C08.outB N (2 * (q : Int)) (2 * m)).length = 2 * m := C08.outB_len _ _ _
    rw [List.length_append, e1, u8_of _ (by omega) (by omega), u8_of _ (by omega) (by omega)]
    have e2 : 2 * (p : Int) + ((2 * m + [UInt8.ofNat (N.getD (q + m) 0 % 256).toNat].length : Nat) : Int) = 2 * (p : Int) + ((2 * m : Nat) : Int) + 1 := by simp only [List.length_cons, List.length_nil]; omega
    rw [e2, pair_set _ _ _ _ (by omega) (by omega) (by rw [l1]; omega) (by omega)]
    have e3 : ((2 * (p : Int) + ((2 * m : Nat) : Int)) / 2).toNat = p + m := by omega
    have e4 : N.getD (q + m) 0 % 256 + 256 * (N.getD (q + m) 0 / 256 % 256) = N.getD (q + m) 0 := by omega
    rw [e3, e4]
    by_cases hi : i = p + m
    · subst hi
      rw [if_pos (by omega), show q + (p + m - p) = q + m by omega]
      rw [List.getD_eq_getElem?_getD, List.getElem?_set_self (by rw [l1]; omega)]
      rfl
    · rw [List.getD_eq_getElem?_getD, List.getElem?_set_ne (by omega), ← List.getD_eq_getElem?_getD, ih i]
      by_cases hc : p ≤ i ∧ i < p + m
      · rw [if_pos hc, if_pos (by omega)]
      · rw [if_neg hc, if_neg (by omega)]
/-! ### ticks between sectors -/
def stT (K : Nat → Disk) (i : Nat) : Disk := if i % 8 = 0 then K (i / 8) else { K (i / 8) with left := 8 - ((i % 8 : Nat) : Int) }
structure Run (K : Nat → Disk) (M : Nat → List Int) (c : Nat) : Prop where
  ok : ∀ j, j < c → Okay (K j) (M j) []
  left : ∀ j, j < c → (K j).left = 8
  tick : ∀ j, j < c → tickV { K j with left := 1 } (M j) [] = (K (j + 1), M (j + 1), [])
theorem stT_eq {K : Nat → Disk} {M : Nat → List Int} {c : Nat} (h : Run K M c) {i : Nat} (hi : i / 8 < c) : stT K i = { K (i / 8) with left := 8 - ((i % 8 : Nat) : Int) } := by
  unfold stT
  split
  · rename_i e
    have := h.left _ hi
    rw [e]
    cases hk : K (i / 8) with
    | mk a b c d e f g i j =>
      rw [hk] at this
      simp only at this
      subst this
      rfl
  · rfl
theorem okay_left {k : Disk} {mem bad : List Int} (h : Okay k mem bad) (h8 : k.left = 8) {l : Int} (h1 : 1 ≤ l) (h2 : l ≤ 8) : Okay { k with left := l } mem bad ∧ k.ready = false := by
  obtain ⟨⟨c, w, a, s, l0, hrd, hz, hv⟩, hw, hb, hd⟩ := h
  have hr : k.ready = false := by
    cases hk : k.ready with
    | false => rfl
    | true => have := hrd.1 hk; omega
  refine ⟨⟨⟨c, w, a, s, ⟨by simp only; omega, by simp only; omega⟩, ⟨fun e => ?_, fun e => ?_⟩, .inr ?_, hv⟩, hw, hb, hd⟩, hr⟩
  · simp only [hr] at e; cases e
  · simp only at e; omega
  · rcases hz with hz | hz
    · omega
    · exact hz
theorem stT_ok {K : Nat → Disk} {M : Nat → List Int} {c : Nat} (h : Run K M c) {i : Nat} (hi : i < 8 * c) : Okay (stT K i) (M (i / 8)) [] ∧ (stT K i).ready = false ∧ (stT K i).left = 8 - ((i % 8 : Nat) : Int) := by
  have hj : i / 8 < c := by omega
  rw [stT_eq h hj]
  obtain ⟨h1, h2⟩ := okay_left (h.ok _ hj) (h.left _ hj) (l := 8 - ((i % 8 : Nat) : Int)) (by omega) (by omega)
  exact ⟨h1, h2, rfl⟩
theorem stT_tick {K : Nat → Disk} {M : Nat → List Int} {c : Nat} (h : Run K M c) {i : Nat} (hi : i < 8 * c) : tickV (stT K i) (M (i / 8)) [] = (stT K (i + 1), M ((i + 1) / 8), []) := by
  have hj : i / 8 < c := by omega
  by_cases h7 : i % 8 = 7
  · have e1 : (i + 1) / 8 = i / 8 + 1 := by omega
    have e2 : stT K (i + 1) = K (i / 8 + 1) := by
      unfold stT
      rw [if_pos (by omega), e1]
    have e3 : stT K i = { K (i / 8) with left := 1 } := by
      rw [stT_eq h hj, h7]; rfl
    rw [e1, e2, e3]
    exact h.tick _ hj
  · have e1 : (i + 1) / 8 = i / 8 := by omega
    have e2 : (i + 1) % 8 = i % 8 + 1 := by omega
    rw [stT_eq h hj, stT_eq h (i := i + 1) (by omega), e1, e2]
    unfold tickV
    rw [if_neg (by simp only; omega), if_pos (by simp only; omega)]
    have e3 : (8 : Int) - ((i % 8 : Nat) : Int) - 1 = 8 - ((i % 8 + 1 : Nat) : Int) := by omega
    simp only [e3]
theorem copies_ticks {K : Nat → Disk} {M : Nat → List Int} {c : Nat} (h : Run K M c) (hc : c ≤ 100) (s : Slaw16_DiskctlCopies_3) (h1 : s.t22 = ((8 * c : Nat) : Int)) (h2 : s.t99 = ((8 * c : Nat) : Int)) (h3 : s.t20 = M 0) (h4 : s.t21 = []) (h5 : s.t100 = 0) (h6 : s.b0 = K 0) :
    Llaw16_DiskctlCopies_3 none s = some (.inr (s.t0, s.t9, s.t10, s.t13, s.t14, M c, [], s.t79, s.t80, s.t81, K c, s.b1_0, s.b1_1)) := by
  have hcnt := lim_count (f := fun s => (Wlaw16_DiskctlCopies_3 none s).run) (fun i : Nat => { s with t20 := M (i / 8), t21 := [], t100 := (i : Int), b0 := stT K i }) (8 * c) (fun i hi => by
    obtain ⟨o, hr, hl⟩ := stT_ok h hi
    have ht := stT_tick h hi
    have hT := Tick16_def _ _ _ o
    rw [ht] at hT
    have k1 : (i : Int) < ((8 * c : Nat) : Int) := by omega
    have k2 : ¬ 8 - ((i % 8 : Nat) : Int) = 0 := by omega
    have w1 : IntKind.wrap .i64 (((8 * c : Nat) : Int) - 1) = ((8 * c : Nat) : Int) - 1 := wrap_id (by omega) (by omega)
    have w2 := wrap_succ hi (show 8 * c ≤ 9223372036854775807 by omega)
    simp only [Wlaw16_DiskctlCopies_3, Tree.run, h1, h2, k1, hr, hl, k2, hT, w1, w2, decide_true, decide_false, Bool.false_eq_true, if_true, if_false, Option.bind_some]
    by_cases k3 : (i : Int) < ((8 * c : Nat) : Int) - 1
    · obtain ⟨_, hr2, _⟩ := stT_ok h (i := i + 1) (by omega)
      simp only [k3, hr2, decide_true, if_true, Bool.false_eq_true, if_false]
    · simp only [k3, decide_false, Bool.false_eq_true, if_false]) 0 (Nat.zero_le _)
  have hd : Llaw16_DiskctlCopies_3 none { s with t20 := M (8 * c / 8), t21 := [], t100 := ((8 * c : Nat) : Int), b0 := stT K (8 * c) } = some (.inr (s.t0, s.t9, s.t10, s.t13, s.t14, M (8 * c / 8), [], s.t79, s.t80, s.t81, stT K (8 * c), s.b1_0, s.b1_1)) := lim_done (by
    have k1 : ¬ ((8 * c : Nat) : Int) < ((8 * c : Nat) : Int) := by omega
    simp only [Wlaw16_DiskctlCopies_3, Tree.run, h2, k1, decide_false, Bool.false_eq_true, if_false])
  have e1 : 8 * c / 8 = c := by omega
  have e2 : stT K (8 * c) = K c := by unfold stT; rw [if_pos (by omega), e1]
  rw [e1, e2] at hd
  have e3 : ({ s with t20 := M (0 / 8), t21 := [], t100 := ((0 : Nat) : Int), b0 := stT K 0 } : Slaw16_DiskctlCopies_3) = s := by
    cases s
    simp only at h3 h4 h5 h6
    subst h3 h4 h5 h6
    rfl
  have hcnt' := hcnt
  simp only [e3, e1, e2] at hcnt'
  exact hcnt'.trans hd
end Go.Proofs.Ytenckckimagkkaa
end
section
set_option linter.unusedSimpArgs false
set_option linter.unusedVariables false
namespace Go.Proofs.Ytenckckimagkkaa
open Go Go.Ab
/-- a controller before its j-th sector -/
def kk (en : Bool) (cmd : Int) (p s0 n : Nat) (j : Nat) (D : Drive) : Disk :=
  ⟨D, en, !decide (64 * j < n), false, cmd, ((n - 64 * j : Nat) : Int), 2 * ((p + min (64 * j) n : Nat) : Int), ((s0 + j : Nat) : Int), if 64 * j < n then 8 else 0⟩
/-- words of the j-th sector -/
def mj (n j : Nat) : Nat := min 64 (n - 64 * j)
structure Par (cmd : Int) (p s0 n : Nat) : Prop where
  c : cmd = 1 ∨ cmd = 2 ∨ cmd = 3
  p : p + n ≤ 1000
  s : s0 ≤ 3
  n : n ≤ 200
/-- a drive of eight sectors, none of them bad -/
structure D8 (D : Drive) : Prop where
  len : D.sectors.length = 8
  all : ∀ s ∈ D.sectors, s.length = 128
  bad : D.bad = []
theorem D8.rt {D : Drive} (h : D8 D) : RtV D := ⟨by rw [h.len]; omega, by rw [h.len]; omega, h.all, by rw [h.bad]; intro i hi; simp at hi⟩
theorem kk_rt {en : Bool} {cmd : Int} {p s0 n j : Nat} {D : Drive} (h : Par cmd p s0 n) (hD : D8 D) (hj : 64 * j < n) : RtK (kk en cmd p s0 n j D) := by
  obtain ⟨c, hp, hs, hn⟩ := h
  unfold RtK kk
  simp only [hj, decide_true, Bool.not_true, if_true]
  refine ⟨by omega, by omega, by omega, by omega, by omega, ⟨fun e => absurd e (by simp), fun e => by omega⟩, .inr ⟨by omega, by omega⟩, hD.rt⟩
theorem kk_okay {en : Bool} {cmd : Int} {p s0 n j : Nat} {D : Drive} {M : List Int} (h : Par cmd p s0 n) (hD : D8 D) (hM : C08.Words M) (hj : 64 * j < n) : Okay (kk en cmd p s0 n j D) M [] := ⟨kk_rt h hD hj, hM, by simp, by simp only [kk, hD.bad, List.length_nil]; omega⟩
theorem kk_left {en : Bool} {cmd : Int} {p s0 n j : Nat} {D : Drive} (hj : 64 * j < n) : (kk en cmd p s0 n j D).left = 8 := by
  simp only [kk, hj, if_true]
theorem kk_nK {en : Bool} {cmd : Int} {p s0 n j : Nat} {D : Drive} (l : Int) : nK { kk en cmd p s0 n j D with left := l } = ((mj n j : Nat) : Int) := by
  show (if (64 : Int) < ((n - 64 * j : Nat) : Int) then (64 : Int) else ((n - 64 * j : Nat) : Int)) = ((mj n j : Nat) : Int)
  unfold mj
  by_cases q : (64 : Int) < ((n - 64 * j : Nat) : Int)
  · rw [if_pos q]; omega
  · rw [if_neg q]; omega
theorem kk_next {en : Bool} {cmd : Int} {p s0 n j : Nat} {D D' : Drive} (h : Par cmd p s0 n) (hj : 64 * j < n) : nextK { kk en cmd p s0 n j D with left := 1 } D' = kk en cmd p s0 n (j + 1) D' := by
  obtain ⟨c, hp, hs, hn⟩ := h
  unfold nextK
  rw [kk_nK]
  simp only [kk, mj, hj, decide_true, Bool.not_true, Disk.mk.injEq, true_and]
  have e1 : ((n - 64 * j : Nat) : Int) - ((min 64 (n - 64 * j) : Nat) : Int) = ((n - 64 * (j + 1) : Nat) : Int) := by omega
  rw [e1]
  by_cases q : 64 * (j + 1) < n
  · have q1 : ¬ ((n - 64 * (j + 1) : Nat) : Int) = 0 := by omega
    rw [if_neg q1, if_neg q1, if_pos q]
    refine ⟨by simp [q], rfl, by omega, by omega, rfl⟩
  · have q1 : ((n - 64 * (j + 1) : Nat) : Int) = 0 := by omega
    rw [if_pos q1, if_pos q1, if_neg q]
    refine ⟨by simp [q], rfl, by omega, by omega, by omega⟩
theorem kk_wn {en : Bool} {cmd : Int} {p s0 n j : Nat} {D : Drive} {M : List Int} (h : Par cmd p s0 n) (hM : M.length = 1024) : C08.Wn M { kk en cmd p s0 n j D with left := 1 }.addr (2 * ((mj n j : Nat) : Int)) := by
  obtain ⟨c, hp, hs, hn⟩ := h
  unfold C08.Wn mj
  simp only [kk]
  omega
theorem has8 {D : Drive} (hD : D8 D) {cmd : Int} {p s0 n j : Nat} (h : Par cmd p s0 n) (hj : 64 * j < n) : HasD D ((s0 + j : Nat) : Int) := by
  obtain ⟨c, hp, hs, hn⟩ := h
  unfold HasD
  rw [hD.len]
  omega
theorem spoilt_nil (a n : Int) : ¬ SpoiltP [] a n := fun ⟨y, hy, _⟩ => by simp at hy
theorem two_nat (m : Nat) : (2 * ((m : Nat) : Int)).toNat = 2 * m := by omega
def seg (M : List Int) (p n j : Nat) : List UInt8 := C08.outB M (2 * ((p + 64 * j : Nat) : Int)) (2 * mj n j)
theorem seg_len (M : List Int) (p n j : Nat) : (seg M p n j).length = 2 * mj n j := C08.outB_len _ _ _
theorem seg_short (M : List Int) (p n j : Nat) : (seg M p n j).length ≤ 128 := by rw [seg_len]; unfold mj; omega
theorem kk_addr {p n j : Nat} (hj : 64 * j < n) : 2 * ((p + min (64 * j) n : Nat) : Int) = 2 * ((p + 64 * j : Nat) : Int) := by omega
theorem read8 {D : Drive} (hD : D8 D) {cmd : Int} {p s0 n j : Nat} (h : Par cmd p s0 n) (hj : 64 * j < n) : readD D ((s0 + j : Nat) : Int) = (D.sectors.getD (s0 + j) [], 0) := by
  unfold readD
  rw [if_pos (has8 hD h hj), if_neg (by rw [hD.bad]; simp), Int.toNat_natCast]
def putD (D : Drive) (i : Nat) (s : List UInt8) : Drive := ⟨D.sectors.set i (padL s), D.bad⟩
theorem write8 {D : Drive} (hD : D8 D) {cmd : Int} {p s0 n j : Nat} (h : Par cmd p s0 n) (hj : 64 * j < n) {s : List UInt8} (hs : s.length ≤ 128) : writeD D ((s0 + j : Nat) : Int) s = (putD D (s0 + j) s, 0) := by
  unfold writeD
  rw [if_pos (has8 hD h hj), if_neg (by omega), if_neg (by rw [hD.bad]; simp), Int.toNat_natCast]
  rfl
theorem put8 {D : Drive} (hD : D8 D) (i : Nat) {s : List UInt8} (hs : s.length ≤ 128) : D8 (putD D i s) := by
  refine ⟨by simp only [putD, List.length_set]; exact hD.len, fun t ht => ?_, hD.bad⟩
  rcases List.mem_or_eq_of_mem_set ht with ht | rfl
  · exact hD.all t ht
  · exact pad_len hs
theorem pad_take (s : List UInt8) : (padL s).take s.length = s := by simp [padL]
section
variable {en : Bool} {p s0 n j : Nat} {D : Drive} {M : List Int}
theorem tick_start {cmd : Int} (h : Par cmd p s0 n) (hM : M.length = 1024) : tickV { kk en cmd p s0 n j D with left := 1 } M [] = (if cmd = 2 then
    (if (writeD D ((s0 + j : Nat) : Int) (C08.outB M (2 * ((p + min (64 * j) n : Nat) : Int)) (2 * mj n j))).2 = 0 ∧ ¬ SpoiltP [] (2 * ((p + min (64 * j) n : Nat) : Int)) (2 * ((mj n j : Nat) : Int)) then (nextK { kk en cmd p s0 n j D with left := 1 } (writeD D ((s0 + j : Nat) : Int) (C08.outB M (2 * ((p + min (64 * j) n : Nat) : Int)) (2 * mj n j))).1, M, []) else (stopK { kk en cmd p s0 n j D with left := 1 }, M, []))
  else if ¬ (readD D ((s0 + j : Nat) : Int)).2 = 0 then (stopK { kk en cmd p s0 n j D with left := 1 }, M, [])
  else if cmd = 3 then
    (if (readD D ((s0 + j : Nat) : Int)).1.take (2 * mj n j) = C08.outB M (2 * ((p + min (64 * j) n : Nat) : Int)) (2 * mj n j) ∧ ¬ SpoiltP [] (2 * ((p + min (64 * j) n : Nat) : Int)) (2 * ((mj n j : Nat) : Int)) then (nextK { kk en cmd p s0 n j D with left := 1 } D, M, []) else (stopK { kk en cmd p s0 n j D with left := 1 }, M, []))
  else (nextK { kk en cmd p s0 n j D with left := 1 } D, C08.storeL M (2 * ((p + min (64 * j) n : Nat) : Int)) ((readD D ((s0 + j : Nat) : Int)).1.take (2 * mj n j)), cutL [] (2 * ((p + min (64 * j) n : Nat) : Int)) (2 * ((mj n j : Nat) : Int)))) := by
  have hw := kk_wn (en := en) (j := j) (D := D) h hM
  unfold tickV
  rw [kk_nK, two_nat]
  rw [if_neg (by simp), if_neg (by simp), if_neg (fun hh => hh hw)]
  rfl
theorem tick_put (h : Par 2 p s0 n) (hD : D8 D) (hM : M.length = 1024) (hj : 64 * j < n) : tickV { kk en 2 p s0 n j D with left := 1 } M [] = (kk en 2 p s0 n (j + 1) (putD D (s0 + j) (seg M p n j)), M, []) := by
  rw [tick_start h hM, if_pos rfl, kk_addr hj]
  have hw := write8 hD h hj (seg_short M p n j)
  rw [show C08.outB M (2 * ((p + 64 * j : Nat) : Int)) (2 * mj n j) = seg M p n j from rfl, hw]
  rw [if_pos ⟨rfl, spoilt_nil _ _⟩, kk_next h hj]
theorem tick_check (h : Par 3 p s0 n) (hD : D8 D) (hM : M.length = 1024) (hj : 64 * j < n) (hs : D.sectors.getD (s0 + j) [] = padL (seg M p n j)) : tickV { kk en 3 p s0 n j D with left := 1 } M [] = (kk en 3 p s0 n (j + 1) D, M, []) := by
  rw [tick_start h hM, if_neg (by omega), kk_addr hj, read8 hD h hj]
  have hp := pad_take (seg M p n j)
  rw [seg_len] at hp
  rw [if_neg (by simp), if_pos rfl, hs, hp, if_pos ⟨rfl, spoilt_nil _ _⟩, kk_next h hj]
theorem tick_get (h : Par 1 p s0 n) (hD : D8 D) (hM : M.length = 1024) (hj : 64 * j < n) {s : List UInt8} (hl : s.length = 2 * mj n j) (hs : D.sectors.getD (s0 + j) [] = padL s) : tickV { kk en 1 p s0 n j D with left := 1 } M [] = (kk en 1 p s0 n (j + 1) D, C08.storeL M (2 * ((p + 64 * j : Nat) : Int)) s, []) := by
  rw [tick_start h hM, if_neg (by omega), kk_addr hj, read8 hD h hj]
  have hp := pad_take s
  rw [hl] at hp
  rw [if_neg (by simp), if_neg (by omega), hs, hp, kk_next h hj]
  rfl
end
/-! ### what the drive holds after a put, and what memory holds after a get -/
def drv (M : List Int) (p s0 n : Nat) (D : Drive) : Nat → Drive
  | 0 => D
  | j + 1 => putD (drv M p s0 n D j) (s0 + j) (seg M p n j)
theorem drv8 {M : List Int} {p s0 n : Nat} {D : Drive} (hD : D8 D) : ∀ j, D8 (drv M p s0 n D j)
  | 0 => hD
  | j + 1 => put8 (drv8 hD j) _ (seg_short _ _ _ _)
theorem drv_get {M : List Int} {p s0 n : Nat} {D : Drive} (hD : D8 D) : ∀ j, s0 + j ≤ 8 → ∀ i, i < j → (drv M p s0 n D j).sectors.getD (s0 + i) [] = padL (seg M p n i)
  | 0, _, i, hi => by omega
  | j + 1, hj, i, hi => by
    have hl := (drv8 (M := M) (p := p) (s0 := s0) (n := n) hD j).len
    simp only [drv, putD, List.getD_eq_getElem?_getD]
    by_cases e : i = j
    · subst e
      rw [List.getElem?_set_self (by omega)]
      rfl
    · rw [List.getElem?_set_ne (by omega), ← List.getD_eq_getElem?_getD]
      exact drv_get hD j (by omega) i (by omega)
def got (M0 M : List Int) (p q n : Nat) : Nat → List Int
  | 0 => M
  | j + 1 => C08.storeL (got M0 M p q n j) (2 * ((q + 64 * j : Nat) : Int)) (seg M0 p n j)
theorem got_def {M0 M : List Int} {p q n : Nat} (h0 : C08.Words M0) (l0 : M0.length = 1024) (hM : C08.Words M) (lM : M.length = 1024) (hp : p + n ≤ 1000) (hq : q + n ≤ 1000) : ∀ j, 64 * j < n + 64 → C08.Words (got M0 M p q n j) ∧ (got M0 M p q n j).length = 1024 ∧ ∀ i, (got M0 M p q n j).getD i 0 = if q ≤ i ∧ i < q + min (64 * j) n then M0.getD (p + (i - q)) 0 else M.getD i 0
  | 0, _ => by
    refine ⟨hM, lM, fun i => ?_⟩
    rw [if_neg (by omega)]
    rfl
  | j + 1, hj => by
    obtain ⟨w, l, g⟩ := got_def h0 l0 hM lM hp hq j (by omega)
    have hm : mj n j = min 64 (n - 64 * j) := rfl
    have hs := store_out (got M0 M p q n j) M0 (q + 64 * j) (p + 64 * j) h0 (mj n j) (by rw [l, hm]; omega) (by rw [l0, hm]; omega)
    refine ⟨C08.storeL_words w (by omega) (by rw [seg_len, l, hm]; omega), by simp only [got, seg]; rw [hs.1, l], fun i => ?_⟩
    simp only [got, seg]
    rw [hs.2 i, hm]
    by_cases c1 : q + 64 * j ≤ i ∧ i < q + 64 * j + min 64 (n - 64 * j)
    · rw [if_pos c1, if_pos (by omega), show p + 64 * j + (i - (q + 64 * j)) = p + (i - q) by omega]
    · rw [if_neg c1, g i]
      by_cases c2 : q ≤ i ∧ i < q + min (64 * j) n
      · rw [if_pos c2, if_pos (by omega)]
      · rw [if_neg c2, if_neg (by omega)]
/-! ### the transfers -/
theorem sect_lt {n j : Nat} (hj : j < (n + 63) / 64) : 64 * j < n := by omega
theorem run_put {en : Bool} {p s0 n : Nat} {D : Drive} {M : List Int} (h : Par 2 p s0 n) (hD : D8 D) (hM : C08.Words M) (lM : M.length = 1024) : Run (fun j => kk en 2 p s0 n j (drv M p s0 n D j)) (fun _ => M) ((n + 63) / 64) :=
  ⟨fun j hj => kk_okay h (drv8 hD j) hM (sect_lt hj), fun j hj => kk_left (sect_lt hj), fun j hj => tick_put h (drv8 hD j) lM (sect_lt hj)⟩
theorem run_check {en : Bool} {p s0 n : Nat} {D : Drive} {M : List Int} (h : Par 3 p s0 n) (hD : D8 D) (hM : C08.Words M) (lM : M.length = 1024) (hs : ∀ j, 64 * j < n → D.sectors.getD (s0 + j) [] = padL (seg M p n j)) : Run (fun j => kk en 3 p s0 n j D) (fun _ => M) ((n + 63) / 64) :=
  ⟨fun j hj => kk_okay h hD hM (sect_lt hj), fun j hj => kk_left (sect_lt hj), fun j hj => tick_check h hD lM (sect_lt hj) (hs j (sect_lt hj))⟩
theorem run_get {en : Bool} {p q s0 n : Nat} {D : Drive} {M0 M : List Int} (h : Par 1 q s0 n) (hD : D8 D) (h0 : C08.Words M0) (l0 : M0.length = 1024) (hM : C08.Words M) (lM : M.length = 1024) (hp : p + n ≤ 1000) (hs : ∀ j, 64 * j < n → D.sectors.getD (s0 + j) [] = padL (seg M0 p n j)) : Run (fun j => kk en 1 q s0 n j D) (fun j => got M0 M p q n j) ((n + 63) / 64) :=
  ⟨fun j hj => kk_okay h hD (got_def h0 l0 hM lM hp h.p j (by omega)).1 (sect_lt hj), fun j hj => kk_left (sect_lt hj), fun j hj => tick_get h hD (got_def h0 l0 hM lM hp h.p j (by omega)).2.1 (sect_lt hj) (seg_len _ _ _ _) (hs j (sect_lt hj))⟩
end Go.Proofs.Ytenckckimagkkaa
end
section
set_option linter.unusedSimpArgs false
set_option linter.unusedVariables false
namespace Go.Proofs.Ytenckckimagkkaa
open Go Go.Ab
theorem sample_def : ∃ d, law16_sample none = some d ∧ D8 d := by
  have h : law16_sample none = some ⟨[List.replicate 128 0, List.replicate 128 0, List.replicate 128 0, 1 :: 2 :: List.replicate 126 0, List.replicate 128 0, List.replicate 128 0, List.replicate 128 0, List.replicate 128 0], []⟩ := lelaw16_sample 20 _ (by kernel_rfl)
  refine ⟨_, h, rfl, fun s hs => ?_, rfl⟩
  simp only [List.mem_cons, List.not_mem_nil, or_false] at hs
  rcases hs with rfl | rfl | rfl | rfl | rfl | rfl | rfl | rfl <;> simp
theorem start_def {k : Disk} (hr : k.ready = true) {cmd : Int} {p s0 n : Nat} (h : Par cmd p s0 n) (hn : 1 ≤ n) : law16_start k cmd (n : Int) (2 * (p : Int)) (s0 : Int) = some (kk (en16 (1 + 2 * cmd)) cmd p s0 n 0 k.drive) := by
  obtain ⟨hc, hp, hs, hn2⟩ := h
  obtain ⟨d, e, r, er, c, w, a, st, l⟩ := k
  simp only at hr
  subst hr
  have w1 : IntKind.wrap .i64 (2 * cmd) = 2 * cmd := wrap_id (by omega) (by omega)
  have w2 : IntKind.wrap .i64 (1 + 2 * cmd) = 1 + 2 * cmd := wrap_id (by omega) (by omega)
  have e1 : (n : Int) % 65536 = (n : Int) := by omega
  have e2 : (2 * (p : Int)) % 65536 - (2 * (p : Int)) % 65536 % 2 = 2 * (p : Int) := by omega
  have e3 : (s0 : Int) % 65536 = (s0 : Int) := by omega
  have e4 : ¬ (1 + 2 * cmd) % 2 = 0 := by omega
  have e5 : (1 + 2 * cmd) / 2 % 4 = cmd := by omega
  have e6 : ¬ cmd = 0 := by omega
  have e7 : ¬ (n : Int) = 0 := by omega
  have k0 : 64 * 0 < n := by omega
  simp only [law16_start, Tlaw16_start, Tree.run, Write16_def, Option.bind_some, write16, w1, w2, show ¬ (2 : Int) = 0 by omega, show ¬ (4 : Int) = 0 by omega, show ¬ (4 : Int) = 2 by omega, show ¬ (6 : Int) = 0 by omega, show ¬ (6 : Int) = 2 by omega, show ¬ (6 : Int) = 4 by omega, if_true, if_false, e1, e2, e3, cmd16, e4, e5, e6, e7, not_false_eq_true, and_self, kk, k0, decide_true, Bool.not_true, Nat.mul_zero, Nat.sub_zero, Nat.zero_min, Nat.add_zero]
theorem copies_same (s : Slaw16_DiskctlCopies_4) {y n : Nat} (h170 : s.t170 = 1024) (l10 : s.t10.length = 1024) (l20 : s.t20.length = 1024) (h171 : s.t171 = 0) (h13 : s.t13 = (y : Int)) (hy : y + n ≤ 1000) (h9 : s.t9 = (n : Int)) (h0 : s.t0.length = n)
    (hv : ∀ i : Nat, i < 1024 → s.t20.getD i 0 = if s.b1_0 = 1 ∧ y ≤ i ∧ i < y + n then s.t0.getD (i - y) 0 % 65536 else s.t10.getD i 0) :
    Llaw16_DiskctlCopies_4 none s = some (.inr (s.t0, s.t9, s.t10, s.t13, s.t14, s.t79, s.t80, s.t81, s.b0)) := by
  have hcnt := lim_count (f := fun s => (Wlaw16_DiskctlCopies_4 s).run) (fun i : Nat => { s with t171 := (i : Int) }) 1024 (fun i hi => by
    have k1 : (i : Int) < 1024 := by omega
    have k2 : (0 : Int) ≤ (i : Int) := by omega
    have g1 : s.t10[i]? = some (s.t10.getD i 0) := by simp [List.getD, show i < s.t10.length by omega]
    have g2 : s.t20[i]? = some (s.t20.getD i 0) := by simp [List.getD, show i < s.t20.length by omega]
    have w := wrap_succ hi (show 1024 ≤ 9223372036854775807 by omega)
    have w1 : IntKind.wrap .i64 ((y : Int) + (n : Int)) = (y : Int) + (n : Int) := wrap_id (by omega) (by omega)
    have w2 : IntKind.wrap .i64 ((i : Int) - (y : Int)) = (i : Int) - (y : Int) := wrap_id (by omega) (by omega)
    have hvi := hv i hi
    simp only [Wlaw16_DiskctlCopies_4, Tree.run, h170, h13, h9, k1, k2, g1, g2, w, w1, w2, decide_true, if_true, Int.toNat_natCast, Option.bind_some]
    by_cases c1 : s.b1_0 = 1
    · by_cases c2 : (y : Int) ≤ (i : Int)
      · by_cases c3 : (i : Int) < (y : Int) + (n : Int)
        · have c4 : 0 ≤ (i : Int) - (y : Int) := by omega
          have e : ((i : Int) - (y : Int)).toNat = i - y := by omega
          have g3 : s.t0[i - y]? = some (s.t0.getD (i - y) 0) := by simp [List.getD, show i - y < s.t0.length by omega]
          rw [if_pos ⟨c1, by omega, by omega⟩] at hvi
          simp only [c1, c2, c3, c4, e, g3, and65535, hvi, decide_true, if_true, Option.bind_some, Bool.not_true, Bool.false_eq_true, if_false]
        · rw [if_neg (by omega)] at hvi
          simp only [c1, c2, c3, hvi, decide_true, decide_false, if_true, Bool.not_true, Bool.false_eq_true, if_false]
      · rw [if_neg (by omega)] at hvi
        simp only [c1, c2, hvi, decide_true, decide_false, if_true, Bool.not_true, Bool.false_eq_true, if_false]
    · rw [if_neg (fun h => c1 h.1)] at hvi
      simp only [c1, hvi, decide_true, decide_false, Bool.not_true, Bool.false_eq_true, if_false]) 0 (Nat.zero_le _)
  have hd : Llaw16_DiskctlCopies_4 none { s with t171 := ((1024 : Nat) : Int) } = some (.inr (s.t0, s.t9, s.t10, s.t13, s.t14, s.t79, s.t80, s.t81, s.b0)) := lim_done (by
    have k1 : ¬ ((1024 : Nat) : Int) < 1024 := by omega
    simp only [Wlaw16_DiskctlCopies_4, Tree.run, h170, k1, decide_false, Bool.false_eq_true, if_false])
  have e3 : ({ s with t171 := ((0 : Nat) : Int) } : Slaw16_DiskctlCopies_4) = s := by
    cases s
    simp only at h171
    subst h171
    rfl
  have hcnt' := hcnt
  simp only [e3] at hcnt'
  exact hcnt'.trans hd
theorem copies_round (s : Slaw16_DiskctlCopies_2) {i : Nat} {cmd : Int} {p s0 n y : Nat} {K : Nat → Disk} {M : Nat → List Int} {D : Drive} (h80 : s.t80 = 3) (h81 : s.t81 = (i : Int)) (hi : i < 3) (hg : s.t79[i]? = some ⟨cmd, (p : Int)⟩) (h9 : s.t9 = (n : Int)) (hn : 1 ≤ n) (hP : Par cmd p s0 n) (h14 : s.t14 = (s0 : Int)) (hr : s.b0.ready = true)
    (hK : K 0 = kk (en16 (1 + 2 * cmd)) cmd p s0 n 0 s.b0.drive) (hM : M 0 = s.t10) (hrun : Run K M ((n + 63) / 64)) (hKc : K ((n + 63) / 64) = kk (en16 (1 + 2 * cmd)) cmd p s0 n ((n + 63) / 64) D) (lM : (M ((n + 63) / 64)).length = 1024) (l10 : s.t10.length = 1024) (h13 : s.t13 = (y : Int)) (hy : y + n ≤ 1000) (h0 : s.t0.length = n)
    (hv : ∀ i : Nat, i < 1024 → (M ((n + 63) / 64)).getD i 0 = if cmd = 1 ∧ y ≤ i ∧ i < y + n then s.t0.getD (i - y) 0 % 65536 else s.t10.getD i 0) :
    (Wlaw16_DiskctlCopies_2 none s).run = some (.inl { s with t81 := ((i + 1 : Nat) : Int), b0 := kk (en16 (1 + 2 * cmd)) cmd p s0 n ((n + 63) / 64) D }) := by
  obtain ⟨hc, hp, hs, hn2⟩ := id hP
  have k1 : (i : Int) < 3 := by omega
  have k2 : (0 : Int) ≤ (i : Int) := by omega
  have w0 : IntKind.wrap .i64 (2 * (p : Int)) = 2 * (p : Int) := wrap_id (by omega) (by omega)
  have w1 : IntKind.wrap .i64 ((n : Int) + 63) = ((n + 63 : Nat) : Int) := by rw [wrap_id] <;> omega
  have w2 : (((n + 63 : Nat) : Int)).tdiv 64 = (((n + 63) / 64 : Nat) : Int) := rfl
  have w3 : IntKind.wrap .i64 (((n + 63) / 64 : Nat) : Int) = (((n + 63) / 64 : Nat) : Int) := wrap_id (by omega) (by omega)
  have w4 : IntKind.wrap .i64 (8 * (((n + 63) / 64 : Nat) : Int)) = ((8 * ((n + 63) / 64) : Nat) : Int) := by rw [wrap_id] <;> omega
  have hst := start_def hr hP hn
  rw [← hK] at hst
  have hT := copies_ticks hrun (by omega) ⟨s.t0, (n : Int), s.t10, (y : Int), (s0 : Int), s.t10, [], ((8 * ((n + 63) / 64) : Nat) : Int), s.t79, 3, (i : Int), ((8 * ((n + 63) / 64) : Nat) : Int), 0, K 0, cmd, (p : Int)⟩ rfl rfl hM.symm rfl rfl rfl
  rw [hKc] at hT
  have hS := copies_same ⟨s.t0, (n : Int), s.t10, (y : Int), (s0 : Int), M ((n + 63) / 64), s.t79, 3, (i : Int), 1024, 0, kk (en16 (1 + 2 * cmd)) cmd p s0 n ((n + 63) / 64) D, cmd, (p : Int)⟩ rfl l10 lM rfl rfl hy rfl h0 hv
  have q0 : ¬ 64 * ((n + 63) / 64) < n := by omega
  have f1 : (kk (en16 (1 + 2 * cmd)) cmd p s0 n ((n + 63) / 64) D).ready = true := by simp [kk, q0]
  have f2 : (kk (en16 (1 + 2 * cmd)) cmd p s0 n ((n + 63) / 64) D).error = false := rfl
  have f3 : (kk (en16 (1 + 2 * cmd)) cmd p s0 n ((n + 63) / 64) D).words = 0 := by simp only [kk]; omega
  have f4 : (kk (en16 (1 + 2 * cmd)) cmd p s0 n ((n + 63) / 64) D).addr = IntKind.wrap .i64 (2 * IntKind.wrap .i64 ((p : Int) + (n : Int))) := by
    rw [wrap_id (n := (p : Int) + (n : Int)) (by omega) (by omega), wrap_id (by omega) (by omega)]; simp only [kk]; omega
  have f5 : (kk (en16 (1 + 2 * cmd)) cmd p s0 n ((n + 63) / 64) D).start = IntKind.wrap .i64 ((s0 : Int) + (((n + 63) / 64 : Nat) : Int)) := by
    rw [wrap_id (by omega) (by omega)]; simp only [kk]; omega
  have w := wrap_succ hi (show 3 ≤ 9223372036854775807 by omega)
  have lM' : ((M ((n + 63) / 64)).length : Int) = 1024 := by omega
  simp only [Wlaw16_DiskctlCopies_2, Tree.run, h80, h81, h9, h13, h14, k1, k2, hg, w0, w1, w2, w3, w4, hst, hT, show ¬ (64 : Int) = 0 by omega, decide_true, decide_false, if_true, Int.toNat_natCast, Option.bind_some, Bool.false_eq_true, if_false, Sum.isLeft_inr, Sum.getRight?_inr, f1, f2, f3, f4.symm, f5.symm, Bool.not_true, List.length_nil, lM', hS, w]
  rfl
theorem fill_loop (x0 : List Int) (x1 x2 x3 n : Int) : ∃ b, Llaw16_DiskctlCopies_0 none ⟨x0, x1, x2, x3, n, 1024, 0, List.replicate 1024 0⟩ = some (x0, x1, x2, x3, n, b) ∧ b.length = 1024 ∧ C08.Words b := by
  obtain ⟨r, hr, b, e, hb, hw⟩ := lim_rule (f := fun s => (Wlaw16_DiskctlCopies_0 s).run) (fun s => ∃ (i : Nat) (b : List Int), s = ⟨x0, x1, x2, x3, n, 1024, (i : Int), b⟩ ∧ i ≤ 1024 ∧ b.length = 1024 ∧ C08.Words b) (fun r => ∃ b, r = (x0, x1, x2, x3, n, b) ∧ b.length = 1024 ∧ C08.Words b) (fun s => 1024 - s.t38.toNat) (by
    rintro s ⟨i, b, rfl, hi, hb, hw⟩
    by_cases hlt : i < 1024
    · right
      have k1 : (i : Int) < 1024 := by omega
      have k2 : (0 : Int) ≤ (i : Int) := by omega
      have k3 : (i : Int) < (b.length : Int) := by omega
      have g : b[i]? = some (b.getD i 0) := by simp [List.getD, show i < b.length by omega]
      have w := wrap_succ hlt (show 1024 ≤ 9223372036854775807 by omega)
      refine ⟨⟨x0, x1, x2, x3, n, 1024, ((i + 1 : Nat) : Int), b.set i (IntKind.wrap .i64 (7 * (i : Int)) % 65536)⟩, ?_, ⟨i + 1, _, rfl, hlt, by rw [List.length_set]; exact hb, by rw [List.length_set]; exact hw.1, fun v hv => ?_⟩, ?_⟩
      · simp only [Wlaw16_DiskctlCopies_0, Tree.run, k1, k2, k3, g, w, and65535, decide_true, if_true, Int.toNat_natCast, Option.bind_some]
      · rcases List.mem_or_eq_of_mem_set hv with h | h
        · exact hw.2 v h
        · rw [h]; omega
      · simp only; omega
    · left
      have k1 : ¬ (i : Int) < 1024 := by omega
      exact ⟨_, by simp only [Wlaw16_DiskctlCopies_0, Tree.run, k1, decide_false, Bool.false_eq_true, if_false], b, rfl, hb, hw⟩)
    ⟨x0, x1, x2, x3, n, 1024, 0, List.replicate 1024 0⟩ ⟨0, _, rfl, by omega, List.length_replicate .., by rw [List.length_replicate]; omega, fun v hv => by have := List.eq_of_mem_replicate hv; omega⟩
  subst e
  exact ⟨b, hr, hb, hw⟩
theorem put_loop (x0 : List Int) (p : Nat) (y f : Int) (b : List Int) (hn : x0.length ≤ 200) (hp : p ≤ 255) (hb : b.length = 1024) (hw : C08.Words b) : ∃ c, Llaw16_DiskctlCopies_1 none ⟨x0, (x0.length : Int), (p : Int), y, f, x0, (x0.length : Int), 0, b⟩ = some (x0, (x0.length : Int), (p : Int), y, f, c) ∧ c.length = 1024 ∧ C08.Words c ∧ ∀ k, k < x0.length → c.getD (p + k) 0 = x0.getD k 0 % 65536 := by
  obtain ⟨r, hr, c, e, hc, hw, hv⟩ := lim_rule (f := fun s => (Wlaw16_DiskctlCopies_1 s).run) (fun s => ∃ (i : Nat) (c : List Int), s = ⟨x0, (x0.length : Int), (p : Int), y, f, x0, (x0.length : Int), (i : Int), c⟩ ∧ i ≤ x0.length ∧ c.length = 1024 ∧ C08.Words c ∧ ∀ k, k < i → c.getD (p + k) 0 = x0.getD k 0 % 65536) (fun r => ∃ c, r = (x0, (x0.length : Int), (p : Int), y, f, c) ∧ c.length = 1024 ∧ C08.Words c ∧ ∀ k, k < x0.length → c.getD (p + k) 0 = x0.getD k 0 % 65536) (fun s => x0.length - s.t58.toNat) (by
    rintro s ⟨i, c, rfl, hi, hc, hw, hv⟩
    by_cases hlt : i < x0.length
    · right
      have k1 : (i : Int) < (x0.length : Int) := by omega
      have k2 : (0 : Int) ≤ (i : Int) := by omega
      have w1 : IntKind.wrap .i64 ((p : Int) + (i : Int)) = ((p + i : Nat) : Int) := by rw [wrap_id] <;> omega
      have k3 : (0 : Int) ≤ ((p + i : Nat) : Int) := by omega
      have k4 : ((p + i : Nat) : Int) < (c.length : Int) := by omega
      have g1 : x0[i]? = some (x0.getD i 0) := by simp [List.getD, hlt]
      have g2 : c[p + i]? = some (c.getD (p + i) 0) := by simp [List.getD, show p + i < c.length by omega]
      have w := wrap_succ hlt (show x0.length ≤ 9223372036854775807 by omega)
      refine ⟨⟨x0, (x0.length : Int), (p : Int), y, f, x0, (x0.length : Int), ((i + 1 : Nat) : Int), c.set (p + i) (x0.getD i 0 % 65536)⟩, ?_, ⟨i + 1, _, rfl, hlt, by rw [List.length_set]; exact hc, ⟨by rw [List.length_set]; exact hw.1, fun v hv => ?_⟩, fun k hk => ?_⟩, ?_⟩
      · simp only [Wlaw16_DiskctlCopies_1, Tree.run, k1, k2, w1, k3, k4, g1, g2, w, and65535, decide_true, if_true, Int.toNat_natCast, Option.bind_some]
      · rcases List.mem_or_eq_of_mem_set hv with h | h
        · exact hw.2 v h
        · rw [h]; omega
      · rw [List.getD_eq_getElem?_getD]
        by_cases e : k = i
        · subst e
          rw [List.getElem?_set_self (by omega)]
          rfl
        · rw [List.getElem?_set_ne (by omega), ← List.getD_eq_getElem?_getD]
          exact hv k (by omega)
      · simp only; omega
    · left
      have k1 : ¬ (i : Int) < (x0.length : Int) := by omega
      exact ⟨_, by simp only [Wlaw16_DiskctlCopies_1, Tree.run, k1, decide_false, Bool.false_eq_true, if_false], c, rfl, hc, hw, fun k hk => hv k (by omega)⟩)
    ⟨x0, (x0.length : Int), (p : Int), y, f, x0, (x0.length : Int), 0, b⟩ ⟨0, _, rfl, by omega, hb, hw, fun k hk => by omega⟩
  subst e
  exact ⟨c, hr, hc, hw, hv⟩
theorem pf_law16_DiskctlCopies (x : List Int × Int × Int × Int × Unit) (hg : Glaw16_DiskctlCopies x) : law16_DiskctlCopies none x.1 x.2.1 x.2.2.1 x.2.2.2.1 = some true := by
  obtain ⟨x0, x1, x2, x3, u⟩ := x
  obtain ⟨_, ⟨a1, b1⟩, ⟨a2, b2⟩, ⟨a3, b3⟩, _⟩ := hg
  have a1 : 0 ≤ x1 := a1
  have a2 : 0 ≤ x2 := a2
  have a3 : 0 ≤ x3 := a3
  have b1 : x1 ≤ 255 := b1
  have b2 : x2 ≤ 255 := b2
  have b3 : x3 ≤ 255 := b3
  obtain ⟨p, rfl⟩ : ∃ p : Nat, x1 = (p : Int) := ⟨_, (Int.toNat_of_nonneg a1).symm⟩
  obtain ⟨y', rfl⟩ : ∃ p : Nat, x2 = (p : Int) := ⟨_, (Int.toNat_of_nonneg a2).symm⟩
  obtain ⟨f, rfl⟩ : ∃ p : Nat, x3 = (p : Int) := ⟨_, (Int.toNat_of_nonneg a3).symm⟩
  simp only [law16_DiskctlCopies, Tlaw16_DiskctlCopies, Tree.run, alive_true, Option.bind_some]
  by_cases c0 : (x0.length : Int) = 0
  · simp only [c0, decide_true, if_true]
  by_cases c1 : (200 : Int) < (x0.length : Int)
  · simp only [c0, c1, decide_true, decide_false, Bool.false_eq_true, if_false, if_true]
  obtain ⟨b, hb1, hb2, hb3⟩ := fill_loop x0 (p : Int) (y' : Int) (f : Int) (x0.length : Int)
  have hb1' : Llaw16_DiskctlCopies_0 none ⟨x0, (p : Int), (y' : Int), (f : Int), (x0.length : Int), ((List.replicate ((1024 : Int)).toNat (0 : Int)).length : Int), 0, List.replicate ((1024 : Int)).toNat (0 : Int)⟩ = some (x0, (p : Int), (y' : Int), (f : Int), (x0.length : Int), b) := by
    have e : ((List.replicate ((1024 : Int)).toNat (0 : Int)).length : Int) = 1024 := by rw [List.length_replicate]; rfl
    rw [e]
    exact hb1
  have w1 : IntKind.wrap .i64 (p : Int) = (p : Int) := wrap_id (by omega) (by omega)
  have w2 : IntKind.wrap .i64 (y' : Int) = (y' : Int) := wrap_id (by omega) (by omega)
  have w3 : IntKind.wrap .i64 ((512 : Int) + (y' : Int)) = ((512 + y' : Nat) : Int) := by rw [wrap_id] <;> omega
  have w4 : IntKind.wrap .i64 (f : Int) = (f : Int) := wrap_id (by omega) (by omega)
  have w5 : ((f : Int)).tmod 4 = ((f % 4 : Nat) : Int) := rfl
  obtain ⟨M, hM1, lM, wM, hx⟩ := put_loop x0 p ((512 + y' : Nat) : Int) ((f % 4 : Nat) : Int) b (by omega) (by omega) hb2 hb3
  obtain ⟨d, hd, h8⟩ := sample_def
  have hnew := (New16_def d (by rw [h8.len]; omega) (by rw [h8.bad]; simp)).1
  generalize hy : 512 + y' = y at *
  generalize hs0 : f % 4 = s0 at *
  generalize hn : x0.length = n at *
  have hn1 : 1 ≤ n := by omega
  have P2 : Par 2 p s0 n := ⟨by omega, by omega, by omega, by omega⟩
  have P3 : Par 3 p s0 n := ⟨by omega, by omega, by omega, by omega⟩
  have P1 : Par 1 y s0 n := ⟨by omega, by omega, by omega, by omega⟩
  have hC : (n + 63) / 64 ≤ 4 := by omega
  have D1 := drv8 (M := M) (p := p) (s0 := s0) (n := n) h8 ((n + 63) / 64)
  have hsec : ∀ j, 64 * j < n → (drv M p s0 n d ((n + 63) / 64)).sectors.getD (s0 + j) [] = padL (seg M p n j) := fun j hj => drv_get h8 _ (by omega) j (by omega)
  have hmin : min (64 * ((n + 63) / 64)) n = n := by omega
  have r0 := copies_round ⟨x0, (n : Int), M, (y : Int), (s0 : Int), [⟨2, (p : Int)⟩, ⟨3, (p : Int)⟩, ⟨1, (y : Int)⟩], 3, ((0 : Nat) : Int), ⟨d, false, true, false, 0, 0, 0, 0, 0⟩⟩ (y := y) rfl rfl (by omega) rfl rfl hn1 P2 rfl rfl (K := fun j => kk (en16 (1 + 2 * 2)) 2 p s0 n j (drv M p s0 n d j)) (M := fun _ => M) rfl rfl (run_put P2 h8 wM lM) rfl lM lM rfl (by omega) hn (fun i hi => by rw [if_neg (by omega)])
  have r1 := copies_round ⟨x0, (n : Int), M, (y : Int), (s0 : Int), [⟨2, (p : Int)⟩, ⟨3, (p : Int)⟩, ⟨1, (y : Int)⟩], 3, ((1 : Nat) : Int), kk (en16 (1 + 2 * 2)) 2 p s0 n ((n + 63) / 64) (drv M p s0 n d ((n + 63) / 64))⟩ (y := y) rfl rfl (by omega) rfl rfl hn1 P3 rfl (by simp [kk]; omega) (K := fun j => kk (en16 (1 + 2 * 3)) 3 p s0 n j (drv M p s0 n d ((n + 63) / 64))) (M := fun _ => M) rfl rfl (run_check P3 D1 wM lM hsec) rfl lM lM rfl (by omega) hn (fun i hi => by rw [if_neg (by omega)])
  have r2 := copies_round ⟨x0, (n : Int), M, (y : Int), (s0 : Int), [⟨2, (p : Int)⟩, ⟨3, (p : Int)⟩, ⟨1, (y : Int)⟩], 3, ((2 : Nat) : Int), kk (en16 (1 + 2 * 3)) 3 p s0 n ((n + 63) / 64) (drv M p s0 n d ((n + 63) / 64))⟩ (y := y) rfl rfl (by omega) rfl rfl hn1 P1 rfl (by simp [kk]; omega) (K := fun j => kk (en16 (1 + 2 * 1)) 1 y s0 n j (drv M p s0 n d ((n + 63) / 64))) (M := fun j => got M M p y n j) rfl rfl (run_get P1 D1 wM lM wM lM (by omega) hsec) rfl (got_def wM lM wM lM (by omega) (by omega) _ (by omega)).2.1 lM rfl (by omega) hn (fun i hi => by
    rw [(got_def wM lM wM lM (by omega) (by omega) _ (by omega)).2.2 i, hmin]
    by_cases c : y ≤ i ∧ i < y + n
    · rw [if_pos c, if_pos ⟨rfl, c⟩, hx (i - y) (by omega)]
    · rw [if_neg c, if_neg (fun h => c h.2)])
  have hL : Llaw16_DiskctlCopies_2 none ⟨x0, (n : Int), M, (y : Int), (s0 : Int), [⟨2, (p : Int)⟩, ⟨3, (p : Int)⟩, ⟨1, (y : Int)⟩], 3, ((0 : Nat) : Int), ⟨d, false, true, false, 0, 0, 0, 0, 0⟩⟩ = some (.inr ()) := by
    refine (lim_next r0).trans ((lim_next r1).trans ((lim_next r2).trans (lim_done ?_)))
    simp [Wlaw16_DiskctlCopies_2, Tree.run]
  have hL' : Llaw16_DiskctlCopies_2 none ⟨x0, (n : Int), M, (y : Int), (s0 : Int), [⟨2, (p : Int)⟩, ⟨3, (p : Int)⟩, ⟨1, (y : Int)⟩], (([⟨2, (p : Int)⟩, ⟨3, (p : Int)⟩, ⟨1, (y : Int)⟩] : List T31).length : Int), 0, ⟨d, false, true, false, 0, 0, 0, 0, 0⟩⟩ = some (.inr ()) := hL
  simp only [c0, c1, decide_false, Bool.false_eq_true, if_false, decide_true, if_true, show (0 : Int) ≤ 1024 by omega, show (8 : Int) * 1024 ≤ 281474976710656 by omega, hb1', Option.bind_some, show ¬ (4 : Int) = 0 by omega, w1, w2, w3, w4, w5, hn, hM1, hd, hnew, hL', Sum.isLeft_inr, Sum.getRight?_inr]
end Go.Proofs.Ytenckckimagkkaa
end
