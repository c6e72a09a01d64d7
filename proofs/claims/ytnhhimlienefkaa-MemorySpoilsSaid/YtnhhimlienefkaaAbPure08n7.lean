/- MemorySpoils: plain. -/
import Derived.Test.YtnhhimlienefkaaAbLim
import Derived.Laws.BitsLemmas
import Derived.Test.YtnhhimlienefkaaAb08
import Derived.Test.YtnhhimlienefkaaAbRd08
section
set_option linter.unusedSimpArgs false
namespace Go.Ab
variable {α β : Type}
/-- A loop that looks through numbers for the first that is not good. -/
theorem lim_scan1 {f : α → Option (α ⊕ β)} (s : Nat → α) (n : Nat) (p : Nat → Prop) (bad : Nat → β) (e : β) (h : ∀ i, i < n → p i → f (s i) = some (.inl (s (i + 1)))) (hb : ∀ i, i < n → ¬ p i → f (s i) = some (.inr (bad i))) (he : f (s n) = some (.inr e)) :
    ((∀ i, i < n → p i) ∧ lim f (s 0) = some e) ∨ ∃ i, i < n ∧ (∀ j, j < i → p j) ∧ ¬ p i ∧ lim f (s 0) = some (bad i) := by
  have key : ∀ k, k ≤ n → ((∀ i, n - k ≤ i → i < n → p i) ∧ lim f (s (n - k)) = some e) ∨ ∃ i, n - k ≤ i ∧ i < n ∧ (∀ j, n - k ≤ j → j < i → p j) ∧ ¬ p i ∧ lim f (s (n - k)) = some (bad i) := by
    intro k
    induction k with
    | zero => intro _; exact .inl ⟨fun i h1 h2 => by omega, lim_done he⟩
    | succ k ih =>
      intro hk
      by_cases hp : p (n - (k + 1))
      · have hn := lim_next (h (n - (k + 1)) (by omega) hp)
        rw [show n - (k + 1) + 1 = n - k by omega] at hn
        have hj : ∀ j, n - (k + 1) ≤ j → ¬ n - k ≤ j → p j := fun j h1 h2 => by rw [show j = n - (k + 1) by omega]; exact hp
        rcases ih (by omega) with ⟨h1, h2⟩ | ⟨i, h0, h1, h2, h3, h4⟩
        · refine .inl ⟨fun i hi hlt => ?_, by rw [hn]; exact h2⟩
          by_cases h' : n - k ≤ i
          · exact h1 i h' hlt
          · exact hj i hi h'
        · refine .inr ⟨i, by omega, h1, fun j hj1 hj2 => ?_, h3, by rw [hn]; exact h4⟩
          by_cases h' : n - k ≤ j
          · exact h2 j h' hj2
          · exact hj j hj1 h'
      · exact .inr ⟨n - (k + 1), Nat.le_refl _, by omega, fun j h1 h2 => by omega, hp, lim_done (hb _ (by omega) hp)⟩
  rcases key n (Nat.le_refl n) with ⟨h1, h2⟩ | ⟨i, h0, h1, h2, h3, h4⟩
  · rw [Nat.sub_self] at h2; exact .inl ⟨fun i hi => h1 i (by omega) hi, h2⟩
  · rw [Nat.sub_self] at h4; exact .inr ⟨i, h1, fun j hj => h2 j (by omega) hj, h3, h4⟩
theorem take_one_more {α : Type} {l : List α} {i : Nat} (hi : i < l.length) : l.take (i + 1) = l.take i ++ [l[i]] := by
  rw [List.take_add_one, List.getElem?_eq_getElem hi]; rfl
end Go.Ab
end
section
set_option linter.unusedSimpArgs false
namespace Go.Ab
theorem wrap_id {n : Int} (h1 : -9223372036854775808 ≤ n) (h2 : n ≤ 9223372036854775807) : IntKind.wrap .i64 n = n := by
  rw [IntKind.wrap_i64]; omega
theorem nat_and (a b : Int) : ((BitVec.ofInt 64 a &&& BitVec.ofInt 64 b).toNat : Int) = (((a % 18446744073709551616).toNat &&& (b % 18446744073709551616).toNat : Nat) : Int) := by
  rw [BitVec.toNat_and, BitVec.toNat_ofInt, BitVec.toNat_ofInt]
  rfl
/-- a mask of the lowest bits -/
theorem and_mask (j : Nat) (hj : j ≤ 62) (a : Int) : IntKind.wrap .i64 ((BitVec.ofInt 64 a &&& BitVec.ofInt 64 (2 ^ j - 1)).toNat : Int) = a % 2 ^ j := by
  have hp : (2 : Nat) ^ j ≤ 2 ^ 62 := Nat.pow_le_pow_right (by omega) hj
  have hc : ((2 : Int) ^ j) = ((2 ^ j : Nat) : Int) := by simp
  have h0 : 0 < (2 : Nat) ^ j := Nat.pow_pos (by omega)
  have hd : (2 : Nat) ^ j ∣ 18446744073709551616 := by
    have : (18446744073709551616 : Nat) = 2 ^ 64 := rfl
    rw [this]
    exact Nat.pow_dvd_pow 2 (by omega)
  rw [nat_and]
  have e1 : (((2 : Int) ^ j - 1) % 18446744073709551616).toNat = 2 ^ j - 1 := by
    rw [hc, Int.emod_eq_of_lt (by omega) (by omega)]
    omega
  rw [e1, Nat.and_two_pow_sub_one_eq_mod]
  have e2 : ((a % 18446744073709551616).toNat % 2 ^ j : Nat) = (a % 2 ^ j).toNat := by
    have hn : 0 ≤ a % 18446744073709551616 := Int.emod_nonneg _ (by omega)
    have : (((a % 18446744073709551616).toNat % 2 ^ j : Nat) : Int) = a % 2 ^ j := by
      rw [Int.natCast_emod, Int.toNat_of_nonneg hn, hc]
      exact Int.emod_emod_of_dvd a (Int.natCast_dvd_natCast.2 hd)
    omega
  rw [e2]
  have h1 : 0 ≤ a % 2 ^ j := Int.emod_nonneg _ (by rw [hc]; omega)
  have h2 : a % 2 ^ j < 2 ^ j := Int.emod_lt_of_pos _ (by rw [hc]; omega)
  rw [Int.toNat_of_nonneg h1]
  exact wrap_id (by omega) (by rw [hc] at h2; omega)
theorem and1 (a : Int) : IntKind.wrap .i64 ((BitVec.ofInt 64 a &&& BitVec.ofInt 64 (1 : Int)).toNat : Int) = a % 2 := and_mask 1 (by omega) a
theorem and3 (a : Int) : IntKind.wrap .i64 ((BitVec.ofInt 64 a &&& BitVec.ofInt 64 (3 : Int)).toNat : Int) = a % 4 := and_mask 2 (by omega) a
theorem and7 (a : Int) : IntKind.wrap .i64 ((BitVec.ofInt 64 a &&& BitVec.ofInt 64 (7 : Int)).toNat : Int) = a % 8 := and_mask 3 (by omega) a
theorem and31 (a : Int) : IntKind.wrap .i64 ((BitVec.ofInt 64 a &&& BitVec.ofInt 64 (31 : Int)).toNat : Int) = a % 32 := and_mask 5 (by omega) a
theorem and255 (a : Int) : IntKind.wrap .i64 ((BitVec.ofInt 64 a &&& BitVec.ofInt 64 (255 : Int)).toNat : Int) = a % 256 := and_mask 8 (by omega) a
theorem and4095 (a : Int) : IntKind.wrap .i64 ((BitVec.ofInt 64 a &&& BitVec.ofInt 64 (4095 : Int)).toNat : Int) = a % 4096 := and_mask 12 (by omega) a
theorem and65535 (a : Int) : IntKind.wrap .i64 ((BitVec.ofInt 64 a &&& BitVec.ofInt 64 (65535 : Int)).toNat : Int) = a % 65536 := and_mask 16 (by omega) a
theorem and262143 (a : Int) : IntKind.wrap .i64 ((BitVec.ofInt 64 a &&& BitVec.ofInt 64 (262143 : Int)).toNat : Int) = a % 262144 := and_mask 18 (by omega) a
/-- parts that share no bit are added -/
theorem or_add (j : Nat) (a b : Int) (h0 : 0 ≤ b) (hb : b < 2 ^ j) (ha0 : 0 ≤ a) (ha : a % 2 ^ j = 0) (hs : a + b ≤ 9223372036854775807) : IntKind.wrap .i64 ((BitVec.ofInt 64 a ||| BitVec.ofInt 64 b).toNat : Int) = a + b := by
  rw [BitVec.toNat_or, BitVec.toNat_ofInt, BitVec.toNat_ofInt]
  have e1 : (a % ((2 ^ 64 : Nat) : Int)).toNat = a.toNat := by rw [Int.emod_eq_of_lt ha0 (by omega)]
  have e2 : (b % ((2 ^ 64 : Nat) : Int)).toNat = b.toNat := by rw [Int.emod_eq_of_lt h0 (by omega)]
  rw [e1, e2]
  have hc : ((2 : Int) ^ j) = ((2 ^ j : Nat) : Int) := by simp
  have hm : a.toNat % 2 ^ j = 0 := by
    rw [hc] at ha
    have : ((a.toNat % 2 ^ j : Nat) : Int) = 0 := by rw [Int.natCast_emod, Int.toNat_of_nonneg ha0]; exact ha
    exact Int.ofNat.inj this
  obtain ⟨c, hc'⟩ := Nat.dvd_of_mod_eq_zero hm
  have hlt : b.toNat < 2 ^ j := by rw [hc] at hb; omega
  have : a.toNat ||| b.toNat = a.toNat + b.toNat := by
    rw [hc', Nat.two_pow_add_eq_or_of_lt hlt]
  rw [this]
  rw [wrap_id (by omega) (by omega)]
  omega
theorem or_add' (j : Nat) (a b : Int) (h0 : 0 ≤ a) (ha : a < 2 ^ j) (hb0 : 0 ≤ b) (hb : b % 2 ^ j = 0) (hs : a + b ≤ 9223372036854775807) : IntKind.wrap .i64 ((BitVec.ofInt 64 a ||| BitVec.ofInt 64 b).toNat : Int) = a + b := by
  rw [BitVec.or_comm, or_add j b a h0 ha hb0 hb (by omega)]
  omega
theorem tdiv_nn {a : Int} (h : 0 ≤ a) (b : Int) : a.tdiv b = a / b := Int.tdiv_eq_ediv_of_nonneg h
theorem tmod_nn {a : Int} (h : 0 ≤ a) (b : Int) : a.tmod b = a % b := Int.tmod_eq_emod_of_nonneg h
theorem fdiv_pos (a : Int) {b : Int} (h : 0 ≤ b) : a.fdiv b = a / b := Int.fdiv_eq_ediv_of_nonneg a h
/-- Go's remainder, brought above zero -/
theorem tmod_up (x m : Int) (hm : 0 < m) : (x.tmod m < 0 ∧ x.tmod m + m = x % m) ∨ (0 ≤ x.tmod m ∧ x.tmod m = x % m) := by
  have h1 := Int.emod_nonneg x (show m ≠ 0 by omega)
  have h2 := Int.emod_lt_of_pos x hm
  rw [Int.tmod_eq_emod]
  split
  · right; simp; exact h1
  · left; omega
theorem mask_fix (a m : Int) (hm : 0 < m) : (a % m = a) ↔ (0 ≤ a ∧ a < m) := by
  constructor
  · intro h
    have h1 := Int.emod_nonneg a (show m ≠ 0 by omega)
    have h2 := Int.emod_lt_of_pos a hm
    omega
  · rintro ⟨h1, h2⟩
    exact Int.emod_eq_of_lt h1 h2
end Go.Ab
end
section
set_option linter.unusedSimpArgs false
namespace Go.Ab
theorem nat_and_up (a j k : Nat) : a &&& ((2 ^ j - 1) * 2 ^ k) = (a / 2 ^ k % 2 ^ j) * 2 ^ k := by
  apply Nat.eq_of_testBit_eq
  intro i
  rw [Nat.testBit_and, Nat.testBit_mul_two_pow, Nat.testBit_mul_two_pow, Nat.testBit_mod_two_pow, Nat.testBit_div_two_pow, Nat.testBit_two_pow_sub_one]
  by_cases h : k ≤ i
  · simp [h]
    rw [Bool.and_comm]
  · simp [h]
theorem bv_andNot (x y : BitVec 64) : x &&& ~~~y = x - (x &&& y) := by
  have h : (x &&& ~~~y) + (x &&& y) = x := by
    rw [BitVec.add_eq_or_of_and_eq_zero]
    · ext i hi
      simp
      cases x[i] <;> cases y[i] <;> rfl
    · ext i hi
      simp
      cases x[i] <;> cases y[i] <;> simp
  exact BitVec.eq_sub_iff_add_eq.2 h
/-- bits taken away -/
theorem andNot_sub (a b : Int) (h0 : 0 ≤ a) (h1 : a ≤ 9223372036854775807) : IntKind.wrap .i64 ((BitVec.ofInt 64 a &&& ~~~BitVec.ofInt 64 b).toNat : Int) = a - IntKind.wrap .i64 ((BitVec.ofInt 64 a &&& BitVec.ofInt 64 b).toNat : Int) := by
  rw [bv_andNot]
  have hle : BitVec.ofInt 64 a &&& BitVec.ofInt 64 b ≤ BitVec.ofInt 64 a := by
    rw [BitVec.le_def, BitVec.toNat_and]
    exact Nat.and_le_left
  rw [BitVec.toNat_sub_of_le hle]
  have ha : (BitVec.ofInt 64 a).toNat = a.toNat := by
    rw [BitVec.toNat_ofInt, Int.emod_eq_of_lt h0 (by omega)]
  have hle' := BitVec.le_def.1 hle
  rw [ha] at hle' ⊢
  rw [wrap_id (by omega) (by omega), wrap_id (by omega) (by omega)]
  omega
theorem andNot_mask (j : Nat) (hj : j ≤ 62) (a : Int) (h0 : 0 ≤ a) (h1 : a ≤ 9223372036854775807) : IntKind.wrap .i64 ((BitVec.ofInt 64 a &&& ~~~BitVec.ofInt 64 (2 ^ j - 1)).toNat : Int) = a - a % 2 ^ j := by
  rw [andNot_sub a _ h0 h1, and_mask j hj]
theorem andNot1 (a : Int) (h0 : 0 ≤ a) (h1 : a ≤ 9223372036854775807) : IntKind.wrap .i64 ((BitVec.ofInt 64 a &&& ~~~BitVec.ofInt 64 (1 : Int)).toNat : Int) = a - a % 2 := andNot_mask 1 (by omega) a h0 h1
theorem andNot255 (a : Int) (h0 : 0 ≤ a) (h1 : a ≤ 9223372036854775807) : IntKind.wrap .i64 ((BitVec.ofInt 64 a &&& ~~~BitVec.ofInt 64 (255 : Int)).toNat : Int) = a - a % 256 := andNot_mask 8 (by omega) a h0 h1
theorem andNot65535 (a : Int) (h0 : 0 ≤ a) (h1 : a ≤ 9223372036854775807) : IntKind.wrap .i64 ((BitVec.ofInt 64 a &&& ~~~BitVec.ofInt 64 (65535 : Int)).toNat : Int) = a - a % 65536 := andNot_mask 16 (by omega) a h0 h1
/-- a mask higher up -/
theorem and_up (j k : Nat) (hj : j + k ≤ 62) (a : Int) (h0 : 0 ≤ a) (h1 : a ≤ 9223372036854775807) : IntKind.wrap .i64 ((BitVec.ofInt 64 a &&& BitVec.ofInt 64 ((2 ^ j - 1) * 2 ^ k)).toNat : Int) = a / 2 ^ k % 2 ^ j * 2 ^ k := by
  have hp : (2 : Nat) ^ (j + k) ≤ 2 ^ 62 := Nat.pow_le_pow_right (by omega) hj
  have hpos : 0 < (2 : Nat) ^ j := Nat.pow_pos (by omega)
  have hposk : 0 < (2 : Nat) ^ k := Nat.pow_pos (by omega)
  have hc : ((2 : Int) ^ j - 1) * 2 ^ k = (((2 ^ j - 1) * 2 ^ k : Nat) : Int) := by
    rw [Int.natCast_mul, Int.natCast_sub (by omega)]
    simp
  have hlt : (2 ^ j - 1) * 2 ^ k < 2 ^ 62 := by
    have : (2 ^ j - 1) * 2 ^ k < 2 ^ j * 2 ^ k := Nat.mul_lt_mul_of_pos_right (by omega) hposk
    rw [← Nat.pow_add] at this
    omega
  rw [nat_and, hc, Int.emod_eq_of_lt h0 (by omega), Int.emod_eq_of_lt (by omega) (by omega), Int.toNat_natCast, nat_and_up]
  have e : (((a.toNat / 2 ^ k % 2 ^ j * 2 ^ k : Nat)) : Int) = a / 2 ^ k % 2 ^ j * 2 ^ k := by
    rw [Int.natCast_mul, Int.natCast_emod, Int.natCast_ediv, Int.toNat_of_nonneg h0]
    simp
  rw [e]
  have hm := Int.emod_nonneg (a / 2 ^ k) (show (2 : Int) ^ j ≠ 0 by have := Int.natCast_pos.2 hpos; simp at this; omega)
  apply wrap_id
  · rw [← e]; omega
  · rw [← e]
    have : a.toNat / 2 ^ k % 2 ^ j * 2 ^ k ≤ a.toNat / 2 ^ k * 2 ^ k := Nat.mul_le_mul_right _ (Nat.mod_le _ _)
    have h2 : a.toNat / 2 ^ k * 2 ^ k ≤ a.toNat := Nat.div_mul_le_self _ _
    omega
theorem and65280 (a : Int) (h0 : 0 ≤ a) (h1 : a ≤ 9223372036854775807) : IntKind.wrap .i64 ((BitVec.ofInt 64 a &&& BitVec.ofInt 64 (65280 : Int)).toNat : Int) = a / 256 % 256 * 256 := and_up 8 8 (by omega) a h0 h1
theorem andNot65280 (a : Int) (h0 : 0 ≤ a) (h1 : a ≤ 9223372036854775807) : IntKind.wrap .i64 ((BitVec.ofInt 64 a &&& ~~~BitVec.ofInt 64 (65280 : Int)).toNat : Int) = a - a / 256 % 256 * 256 := by
  rw [andNot_sub a _ h0 h1, and65280 a h0 h1]
end Go.Ab
end
section
set_option linter.unusedSimpArgs false
set_option linter.unusedVariables false
namespace Go.Proofs.Ytnhhimlienefkaa
open Go Go.Ab
/-! ### lists of numbers -/
theorem wrap_succ {i n : Nat} (h : i < n) (hn : n ≤ 9223372036854775807) : IntKind.wrap .i64 ((i : Int) + 1) = ((i + 1 : Nat) : Int) := by rw [wrap_id] <;> omega
theorem Index_def (l : List Int) (x : Int) (hl : l.length ≤ 9223372036854775807) : ∃ r, slices_Index_int_int none l x = some r ∧ (0 ≤ r ↔ x ∈ l) := by
  have hs := lim_scan (f := fun s => (Wslices_Index_int_int_0 s).run) (fun i : Nat => ⟨l, x, (l.length : Int), (i : Int)⟩) l.length (fun i => l[i]? ≠ some x) (fun i => .inl (i : Int)) (.inr ())
    (fun i hi hp => by
      have hp' : ¬ x = l[i] := fun he => hp (by rw [List.getElem?_eq_getElem hi, he])
      simp [Wslices_Index_int_int_0, Tree.run, hi, wrap_succ hi hl, hp'])
    (fun i hi hp => by
      have hp' : x = l[i] := by
        rw [List.getElem?_eq_getElem hi] at hp
        simp at hp; exact hp.symm
      simp [Wslices_Index_int_int_0, Tree.run, hi, ← hp'])
    (by simp [Wslices_Index_int_int_0, Tree.run])
  rcases hs with ⟨h1, h2⟩ | ⟨i, hi, h1, h2⟩
  · have h : Lslices_Index_int_int_0 none ⟨l, x, (l.length : Int), (0 : Int)⟩ = some (.inr ()) := h2
    refine ⟨-1, by simp [slices_Index_int_int, Tslices_Index_int_int, Tree.run, h], by omega, fun hm => ?_⟩
    obtain ⟨i, hi, he⟩ := List.mem_iff_getElem.1 hm
    exact absurd (by rw [List.getElem?_eq_getElem hi, he]) (h1 i hi)
  · have h : Lslices_Index_int_int_0 none ⟨l, x, (l.length : Int), (0 : Int)⟩ = some (.inl (i : Int)) := h2
    refine ⟨i, by simp [slices_Index_int_int, Tslices_Index_int_int, Tree.run, h], fun _ => ?_, fun _ => by omega⟩
    rw [List.getElem?_eq_getElem hi] at h1
    simp at h1
    rw [← h1]; exact List.getElem_mem hi
theorem Contains_def (l : List Int) (x : Int) (hl : l.length ≤ 9223372036854775807) : slices_Contains_int_int none l x = some (decide (x ∈ l)) := by
  obtain ⟨r, h1, h2⟩ := Index_def l x hl
  simp only [slices_Contains_int_int, Tslices_Contains_int_int, Tree.run, h1, Option.bind_some, h2]
theorem Has_def (l : List Int) (x : Int) (hl : l.length ≤ 9223372036854775807) : ref08_Has none l x = some (decide (x ∈ l)) := by
  have hs := lim_scan (f := fun s => (Wref08_Has_0 s).run) (fun i : Nat => ⟨l, x, (i : Int)⟩) l.length (fun i => l[i]? ≠ some x) (fun i => .inl true) (.inr ())
    (fun i hi hp => by
      have hp' : ¬ l[i] = x := fun he => hp (by rw [List.getElem?_eq_getElem hi, he])
      simp [Wref08_Has_0, Tree.run, hi, wrap_succ hi hl, hp'])
    (fun i hi hp => by
      have hp' : l[i] = x := by
        rw [List.getElem?_eq_getElem hi] at hp
        simp at hp; exact hp
      simp [Wref08_Has_0, Tree.run, hi, hp'])
    (by simp [Wref08_Has_0, Tree.run])
  rcases hs with ⟨h1, h2⟩ | ⟨i, hi, h1, h2⟩
  · have h : Lref08_Has_0 none ⟨l, x, (0 : Int)⟩ = some (.inr ()) := h2
    have hn : ¬ x ∈ l := fun hm => by
      obtain ⟨i, hi, he⟩ := List.mem_iff_getElem.1 hm
      exact absurd (by rw [List.getElem?_eq_getElem hi, he]) (h1 i hi)
    simp [ref08_Has, Tref08_Has, Tree.run, h, hn]
  · have h : Lref08_Has_0 none ⟨l, x, (0 : Int)⟩ = some (.inl true) := h2
    have hm : x ∈ l := by
      rw [List.getElem?_eq_getElem hi] at h1
      simp at h1
      rw [← h1]; exact List.getElem_mem hi
    simp [ref08_Has, Tref08_Has, Tree.run, h, hm]
theorem Same_def (a b : List Int) (hl : a.length ≤ 9223372036854775807) : ref08_Same none a b = some (decide (a = b)) := by
  by_cases hab : a.length = b.length
  · have hs := lim_scan (f := fun s => (Wref08_Same_0 s).run) (fun i : Nat => ⟨a, b, (i : Int)⟩) a.length (fun i => a[i]? = b[i]?) (fun i => .inl false) (.inr ())
      (fun i hi hp => by
        have hi' : i < b.length := by omega
        have hp' : a[i] = b[i] := by
          rw [List.getElem?_eq_getElem hi, List.getElem?_eq_getElem hi'] at hp
          exact Option.some.inj hp
        simp [Wref08_Same_0, Tree.run, hi, hi', wrap_succ hi hl, hp'])
      (fun i hi hp => by
        have hi' : i < b.length := by omega
        have hp' : ¬ a[i] = b[i] := by
          rw [List.getElem?_eq_getElem hi, List.getElem?_eq_getElem hi'] at hp
          exact fun h => hp (by rw [h])
        simp [Wref08_Same_0, Tree.run, hi, hi', hp'])
      (by simp [Wref08_Same_0, Tree.run])
    rcases hs with ⟨h1, h2⟩ | ⟨i, hi, h1, h2⟩
    · have h : Lref08_Same_0 none ⟨a, b, (0 : Int)⟩ = some (.inr ()) := h2
      have he : a = b := List.ext_getElem? fun i => by
        by_cases hi : i < a.length
        · exact h1 i hi
        · rw [List.getElem?_eq_none (by omega), List.getElem?_eq_none (by omega)]
      simp [ref08_Same, Tref08_Same, Tree.run, h, hab]
      exact he
    · have h : Lref08_Same_0 none ⟨a, b, (0 : Int)⟩ = some (.inl false) := h2
      have he : ¬ a = b := fun he => h1 (by rw [he])
      simp [ref08_Same, Tref08_Same, Tree.run, h, hab, he]
  · have he : ¬ a = b := fun h => hab (by rw [h])
    have hab' : ¬ (a.length : Int) = (b.length : Int) := by omega
    simp [ref08_Same, Tref08_Same, Tree.run, hab', he]
/-! ### a single access -/
def okA (m : List Int) (a : Int) (b : Bool) : Prop := 0 ≤ a ∧ a < 2 * (m.length : Int) ∧ (b = true ∨ a % 2 = 0)
instance (m a b) : Decidable (okA m a b) := by unfold okA; infer_instance
def wordAt (m : List Int) (a : Int) : Int := m.getD (a / 2).toNat 0
def byteAt (m : List Int) (a : Int) : Int := if a % 2 = 0 then wordAt m a % 256 else wordAt m a / 256 % 256
theorem get_word {m : List Int} {a : Int} (h0 : 0 ≤ a) (h1 : a < 2 * (m.length : Int)) : m[(a / 2).toNat]? = some (wordAt m a) := by
  have : (a / 2).toNat < m.length := by omega
  simp [wordAt, this]
theorem wrap2 {m : List Int} (hm : m.length ≤ 100000) : IntKind.wrap .i64 (2 * (m.length : Int)) = 2 * (m.length : Int) := wrap_id (by omega) (by omega)
theorem half {a : Int} (h0 : 0 ≤ a) (h1 : a ≤ 9223372036854775807) : IntKind.wrap .i64 (a.tdiv 2) = a / 2 := by rw [tdiv_nn h0, wrap_id (by omega) (by omega)]
theorem misses_def (m : List Int) (a : Int) (b : Bool) (hm : m.length ≤ 100000) : memory_misses m a b = some (!decide (okA m a b)) := by
  simp only [memory_misses, Tmemory_misses, Tree.run, wrap2 hm]
  by_cases h0 : 0 ≤ a
  · rw [tmod_nn h0]
    cases b
    all_goals simp [okA]
    all_goals repeat' split
    all_goals (rw [Option.some.injEq, Bool.eq_iff_iff]; simp; try omega)
  · have hn : ¬ okA m a b := fun h => h0 h.1
    have hlt : a < 0 := by omega
    cases b
    all_goals simp [hn, hlt]
theorem access_def (m : List Int) (a : Int) (b : Bool) (hm : m.length ≤ 100000) : ref08_access m a b = some (if okA m a b then 0 else 1) := by
  simp only [ref08_access, Tref08_access, Tree.run, wrap2 hm]
  by_cases h0 : 0 ≤ a
  · rw [tmod_nn h0]
    cases b
    all_goals simp [okA]
    all_goals repeat' split
    all_goals first | rfl | omega
  · have hn : ¬ okA m a b := fun h => h0 h.1
    have hlt : a < 0 := by omega
    simp [hn, hlt]
theorem Byte_def (m : List Int) (a : Int) (h0 : 0 ≤ a) (h1 : a < 2 * (m.length : Int)) (hm : m.length ≤ 100000) : ref08_Byte m a = some (byteAt m a) := by
  have e8 : (2 : Int) ^ (min ((8 : Int)).toNat 64) = 256 := by decide
  simp only [ref08_Byte, Tref08_Byte, Tree.run, tmod_nn h0, half h0 (by omega), get_word h0 h1, and255, e8, fdiv_pos _ (show (0 : Int) ≤ 256 by omega), byteAt]
  have hd : 0 ≤ a / 2 := by omega
  by_cases hp : a % 2 = 0 <;> simp [hp, hd]
def readM (m bad : List Int) (a : Int) (b : Bool) : Int × Int := if okA m a b then (if a - a % 2 ∈ bad then (0, 9) else (if b then byteAt m a else wordAt m a, 0)) else (0, 1)
theorem Read_def (m bad : List Int) (a : Int) (b : Bool) (hm : m.length ≤ 100000) (hb : bad.length ≤ 9223372036854775807) : memory_Read none m bad a b = some (readM m bad a b) := by
  simp only [memory_Read, Tmemory_Read, Tree.run, misses_def m a b hm, Option.bind_some, Contains_def _ _ hb, readM]
  by_cases ho : okA m a b
  · obtain ⟨h0, h1, h2⟩ := id ho
    simp only [ho, decide_true, Bool.not_true, Bool.false_eq_true, if_false, if_true, andNot1 a h0 (by omega), decide_eq_true_eq, tmod_nn h0, half h0 (by omega), get_word h0 h1, and255, Option.bind_some]
    by_cases hi : a - a % 2 ∈ bad
    · simp only [hi, if_true]
    · have hd : 0 ≤ a / 2 := by omega
      simp only [hi, if_false, hd, if_true, show ¬ (2 : Int) = 0 by omega]
      cases b
      · simp
      · simp only [if_true, byteAt]
        by_cases hp : a % 2 = 0
        · have e : IntKind.wrap .i64 (a % 2 * 8) = 0 := by rw [hp]; rfl
          rw [e, if_pos (by omega), if_pos hp, show (2 : Int) ^ (min ((0 : Int)).toNat 64) = 1 by decide, fdiv_pos _ (by omega), Int.ediv_one]
        · have hp1 : a % 2 = 1 := by omega
          have e : IntKind.wrap .i64 (a % 2 * 8) = 8 := by rw [hp1]; rfl
          rw [e, if_pos (by omega), if_neg hp, show (2 : Int) ^ (min ((8 : Int)).toNat 64) = 256 by decide, fdiv_pos _ (by omega)]
  · simp [ho]
theorem ref_Read_def (m bad : List Int) (a : Int) (b : Bool) (hm : m.length ≤ 100000) (hb : bad.length ≤ 9223372036854775807) : ref08_Read none m bad a b = some (readM m bad a b) := by
  simp only [ref08_Read, Tref08_Read, Tree.run, access_def m a b hm, Option.bind_some, readM, Has_def _ _ hb]
  by_cases ho : okA m a b
  · obtain ⟨h0, h1, h2⟩ := id ho
    have hd : 0 ≤ a / 2 := by omega
    simp only [ho, if_true, tmod_nn h0, half h0 (by omega), wrap_id (n := a - a % 2) (by omega) (by omega), get_word h0 h1, Byte_def m a h0 h1 hm, Option.bind_some, decide_eq_true_eq]
    by_cases hi : a - a % 2 ∈ bad
    · simp [hi]
    · cases b <;> simp [hi, hd]
  · simp [ho]
/-! ### writing -/
/-- the word after a byte is written -/
def putB (w a b : Int) : Int := if a % 2 = 0 then w / 256 * 256 + b else w % 256 + b * 256
def putW (w a : Int) (b : Bool) (v : Int) : Int := if b then putB w a (v % 256) else v % 65536
theorem bits_lo (w b : Int) (h0 : 0 ≤ w) (h1 : w ≤ 65535) (hb : 0 ≤ b ∧ b ≤ 255) : IntKind.wrap .i64 ((BitVec.ofInt 64 (IntKind.wrap .i64 ((BitVec.ofInt 64 w &&& ~~~BitVec.ofInt 64 (255 : Int)).toNat : Int)) ||| BitVec.ofInt 64 b).toNat : Int) = w / 256 * 256 + b := by
  rw [andNot255 w h0 (by omega), or_add 8 _ _ hb.1 (by omega) (by omega) (by omega) (by omega)]
  omega
theorem bits_lo' (w b : Int) (h0 : 0 ≤ w) (h1 : w ≤ 65535) (hb : 0 ≤ b ∧ b ≤ 255) : IntKind.wrap .i64 ((BitVec.ofInt 64 (IntKind.wrap .i64 ((BitVec.ofInt 64 w &&& BitVec.ofInt 64 (65280 : Int)).toNat : Int)) ||| BitVec.ofInt 64 b).toNat : Int) = w / 256 * 256 + b := by
  rw [and65280 w h0 (by omega), or_add 8 _ _ hb.1 (by omega) (by omega) (by omega) (by omega)]
  omega
theorem bits_hi (w b : Int) (h0 : 0 ≤ w) (h1 : w ≤ 65535) (hb : 0 ≤ b ∧ b ≤ 255) : IntKind.wrap .i64 ((BitVec.ofInt 64 (IntKind.wrap .i64 ((BitVec.ofInt 64 w &&& ~~~BitVec.ofInt 64 (65280 : Int)).toNat : Int)) ||| BitVec.ofInt 64 (b * 256)).toNat : Int) = w % 256 + b * 256 := by
  rw [andNot65280 w h0 (by omega), show w - w / 256 % 256 * 256 = w % 256 by omega, or_add' 8 _ _ (by omega) (by omega) (by omega) (by omega) (by omega)]
theorem bits_hi' (w b : Int) (h0 : 0 ≤ w) (h1 : w ≤ 65535) (hb : 0 ≤ b ∧ b ≤ 255) : IntKind.wrap .i64 ((BitVec.ofInt 64 (IntKind.wrap .i64 ((BitVec.ofInt 64 w &&& BitVec.ofInt 64 (255 : Int)).toNat : Int)) ||| BitVec.ofInt 64 (b * 256)).toNat : Int) = w % 256 + b * 256 := by
  rw [and255, or_add' 8 _ _ (by omega) (by omega) (by omega) (by omega) (by omega)]
theorem bits_w (w v : Int) (h0 : 0 ≤ w) (h1 : w ≤ 65535) (hv : 0 ≤ v ∧ v ≤ 65535) : IntKind.wrap .i64 ((BitVec.ofInt 64 (IntKind.wrap .i64 ((BitVec.ofInt 64 w &&& ~~~BitVec.ofInt 64 (65535 : Int)).toNat : Int)) ||| BitVec.ofInt 64 v).toNat : Int) = v := by
  rw [andNot65535 w h0 (by omega), show w - w % 65536 = 0 by omega, or_add 16 _ _ hv.1 (by omega) (by omega) (by omega) (by omega)]
  omega
/-- a byte is put into memory -/
def setB (m : List Int) (a b : Int) : List Int := m.set (a / 2).toNat (putB (wordAt m a) a b)
def Words (m : List Int) : Prop := m.length ≤ 100000 ∧ ∀ w ∈ m, 0 ≤ w ∧ w ≤ 65535
theorem word_in {m : List Int} (hm : Words m) {a : Int} (h0 : 0 ≤ a) (h1 : a < 2 * (m.length : Int)) : 0 ≤ wordAt m a ∧ wordAt m a ≤ 65535 := hm.2 _ (List.mem_of_getElem? (get_word h0 h1))
theorem set_def (m : List Int) (a b : Int) (hm : Words m) (h0 : 0 ≤ a) (h1 : a < 2 * (m.length : Int)) (hb : 0 ≤ b ∧ b ≤ 255) : ref08_set a b m = some (setB m a b) := by
  have hw := word_in hm h0 h1
  have hl := hm.1
  have hd : 0 ≤ a / 2 := by omega
  have hd2 : a / 2 < (m.length : Int) := by omega
  have e8 : (2 : Int) ^ (min ((8 : Int)).toNat 64) = 256 := by decide
  simp only [ref08_set, Tref08_set, Tree.run, tmod_nn h0, half h0 (by omega), get_word h0 h1, e8, Option.bind_some, hd, hd2, decide_true, if_true, wrap_id (n := b * 256) (by omega) (by omega), bits_lo' _ b hw.1 hw.2 hb, bits_hi' _ b hw.1 hw.2 hb, setB, putB, show ¬ (2 : Int) = 0 by omega, decide_false, Bool.false_eq_true, if_false, decide_eq_true_eq, show (0 : Int) ≤ 8 by omega]
  by_cases hp : a % 2 = 0 <;> simp [hp]
theorem copied_def (m : List Int) (hm : m.length ≤ 100000) : memory_copied m = some m := by
  simp [memory_copied, Tmemory_copied, Tree.run]
  omega
/-- the bad addresses without one -/
def without (bad : List Int) (c : Int) : List Int := bad.filter fun y => decide (y ≠ c)
theorem without_more {l : List Int} {c : Int} {i : Nat} (hi : i < l.length) : without (l.take (i + 1)) c = without (l.take i) c ++ (if l[i] = c then [] else [l[i]]) := by
  rw [take_one_more hi]
  unfold without
  rw [List.filter_append]
  by_cases he : l[i] = c <;> simp [he]
theorem Without_def (l : List Int) (c : Int) (hl : l.length ≤ 100000) : ref08_Without none l c = some (without l c) := by
  have hc := lim_count (f := fun s => (Wref08_Without_0 s).run) (fun i : Nat => ⟨l, c, (i : Int), without (l.take i) c⟩) l.length (fun i hi => by
    have hle : (without (l.take i) c).length ≤ i := by
      refine Nat.le_trans (List.length_filter_le _ _) ?_
      rw [List.length_take]; omega
    have hm := without_more (c := c) hi
    by_cases he : l[i] = c
    · rw [if_pos he, List.append_nil] at hm
      simp [Wref08_Without_0, Tree.run, hi, wrap_succ hi (show l.length ≤ 9223372036854775807 by omega), he, hm]
    · rw [if_neg he] at hm
      have hlt : ((without (l.take i) c).length + 1) * 8 ≤ 140737488355328 := by omega
      simp [Wref08_Without_0, Tree.run, hi, wrap_succ hi (show l.length ≤ 9223372036854775807 by omega), he, hm, hlt]) 0 (Nat.zero_le _)
  have hd : Lref08_Without_0 none ⟨l, c, ((l.length : Nat) : Int), without (l.take l.length) c⟩ = some (without (l.take l.length) c) := lim_done (by simp [Wref08_Without_0, Tree.run])
  have h : Lref08_Without_0 none ⟨l, c, (0 : Int), []⟩ = some (without (l.take l.length) c) := hc.trans hd
  rw [List.take_length] at h
  simp [ref08_Without, Tref08_Without, Tree.run, h]
theorem hit_def (y a : Int) (h0 : 0 ≤ a) (h1 : a ≤ 9223372036854775807) : memory_Write_1 y a = some (decide (y = a - a % 2)) := by
  simp only [memory_Write_1, Tmemory_Write_1, Tree.run, andNot1 a h0 h1]
theorem IndexFunc_def (l : List Int) (a : Int) (hl : l.length ≤ 100000) (h0 : 0 ≤ a) (h1 : a ≤ 9223372036854775807) : ((∀ i, i < l.length → l[i]? ≠ some (a - a % 2)) ∧ slices_IndexFunc_int_int none l a = some (-1, l, a)) ∨ ∃ k, k < l.length ∧ (∀ i, i < k → l[i]? ≠ some (a - a % 2)) ∧ l[k]? = some (a - a % 2) ∧ slices_IndexFunc_int_int none l a = some ((k : Int), l, a) := by
  have hs := lim_scan1 (f := fun s => (Wslices_IndexFunc_int_int_0 s).run) (fun i : Nat => ⟨(l.length : Int), (i : Int), l, a⟩) l.length (fun i => l[i]? ≠ some (a - a % 2)) (fun i => .inl ((i : Int), l, a)) (.inr (l, a))
    (fun i hi hp => by
      have hp' : ¬ l[i] = a - a % 2 := fun he => hp (by rw [List.getElem?_eq_getElem hi, he])
      simp [Wslices_IndexFunc_int_int_0, Tree.run, hi, wrap_succ hi (show l.length ≤ 9223372036854775807 by omega), hit_def _ a h0 h1, hp'])
    (fun i hi hp => by
      have hp' : l[i] = a - a % 2 := by
        rw [List.getElem?_eq_getElem hi] at hp
        simp at hp; exact hp
      simp [Wslices_IndexFunc_int_int_0, Tree.run, hi, hit_def _ a h0 h1, hp'])
    (by simp [Wslices_IndexFunc_int_int_0, Tree.run])
  rcases hs with ⟨h2, h3⟩ | ⟨i, hi, h2, h3, h4⟩
  · have h : Lslices_IndexFunc_int_int_0 none ⟨(l.length : Int), (0 : Int), l, a⟩ = some (.inr (l, a)) := h3
    exact .inl ⟨h2, by simp [slices_IndexFunc_int_int, Tslices_IndexFunc_int_int, Tree.run, h]⟩
  · have h : Lslices_IndexFunc_int_int_0 none ⟨(l.length : Int), (0 : Int), l, a⟩ = some (.inl ((i : Int), l, a)) := h4
    exact .inr ⟨i, hi, h2, by rw [Decidable.not_not] at h3; exact h3, by simp [slices_IndexFunc_int_int, Tslices_IndexFunc_int_int, Tree.run, h]⟩
theorem without_take_eq {l : List Int} {c : Int} {k : Nat} (h : ∀ i, i < k → l[i]? ≠ some c) : without (l.take k) c = l.take k := by
  unfold without
  rw [List.filter_eq_self]
  intro y hy
  obtain ⟨i, hi, he⟩ := List.mem_iff_getElem.1 hy
  rw [List.getElem_take] at he
  have hlt : i < k := by rw [List.length_take] at hi; omega
  have := h i hlt
  rw [List.getElem?_eq_getElem (by rw [List.length_take] at hi; omega), he] at this
  simp at this ⊢
  exact this
theorem delete_loop (l : List Int) (a : Int) (hl : l.length ≤ 100000) (h0 : 0 ≤ a) (h1 : a ≤ 9223372036854775807) (i j : Nat) (b : List Int) (hb : b.length = l.length) (hd : b.drop i = l.drop i) (ht : b.take j = without (l.take i) (a - a % 2)) (hji : j ≤ i) (hi : i ≤ l.length) :
    ∃ (k : Nat) (b' : List Int), Lslices_DeleteFunc_int_int_0 none ⟨(j : Int), (i : Int), b, a⟩ = some ((k : Int), b', a) ∧ k ≤ l.length ∧ b'.length = l.length ∧ b'.take k = without l (a - a % 2) := by
  obtain ⟨r, hr, k, b', e1, e2, e3, e4⟩ := lim_rule (f := fun s => (Wslices_DeleteFunc_int_int_0 s).run)
    (fun s => ∃ (i j : Nat) (b : List Int), s = ⟨(j : Int), (i : Int), b, a⟩ ∧ b.length = l.length ∧ b.drop i = l.drop i ∧ b.take j = without (l.take i) (a - a % 2) ∧ j ≤ i ∧ i ≤ l.length)
    (fun r => ∃ (k : Nat) (b' : List Int), r = ((k : Int), b', a) ∧ k ≤ l.length ∧ b'.length = l.length ∧ b'.take k = without l (a - a % 2))
    (fun s => l.length - s.t6.toNat)
    (by
      rintro s ⟨i, j, b, rfl, hb, hd, ht, hji, hi⟩
      by_cases hlt : i < l.length
      · have hib : i < b.length := by omega
        have he : b[i] = l[i] := by
          have h2 := congrArg (fun x => x[0]?) hd
          simp only [List.getElem?_drop, Nat.add_zero] at h2
          rw [List.getElem?_eq_getElem hib, List.getElem?_eq_getElem hlt] at h2
          exact Option.some.inj h2
        have hd' : b.drop (i + 1) = l.drop (i + 1) := by
          have h2 := congrArg (List.drop 1) hd
          rwa [List.drop_drop, List.drop_drop] at h2
        right
        by_cases hp : l[i] = a - a % 2
        · refine ⟨⟨(j : Int), ((i + 1 : Nat) : Int), b, a⟩, ?_, ⟨i + 1, j, b, rfl, hb, hd', ?_, by omega, hlt⟩, ?_⟩
          · simp [Wslices_DeleteFunc_int_int_0, Tree.run, hb, hlt, hib, he, wrap_succ hlt (show l.length ≤ 9223372036854775807 by omega), hit_def _ a h0 h1, hp]
          · rw [without_more hlt, if_pos hp, List.append_nil]; exact ht
          · simp; omega
        · have hjb : j < b.length := by omega
          have hjl : j < l.length := by omega
          refine ⟨⟨((j + 1 : Nat) : Int), ((i + 1 : Nat) : Int), b.set j l[i], a⟩, ?_, ⟨i + 1, j + 1, b.set j l[i], rfl, by rw [List.length_set]; exact hb, ?_, ?_, by omega, hlt⟩, ?_⟩
          · simp [Wslices_DeleteFunc_int_int_0, Tree.run, hb, hlt, hjl, hib, hjb, he, wrap_succ hlt (show l.length ≤ 9223372036854775807 by omega), wrap_succ hjl (show l.length ≤ 9223372036854775807 by omega), hit_def _ a h0 h1, hp]
          · rw [List.drop_set_of_lt (by omega)]; exact hd'
          · rw [without_more hlt, if_neg hp, ← ht, take_one_more (by rw [List.length_set]; exact hjb), List.take_set_of_le (Nat.le_refl _)]
            simp
          · simp; omega
      · left
        have hil : i = l.length := by omega
        refine ⟨((j : Int), b, a), ?_, j, b, rfl, by omega, hb, ?_⟩
        · simp [Wslices_DeleteFunc_int_int_0, Tree.run, hb, hil]
        · rw [ht, hil, List.take_length])
    ⟨(j : Int), (i : Int), b, a⟩ ⟨i, j, b, rfl, hb, hd, ht, hji, hi⟩
  subst e1
  exact ⟨k, b', hr, e2, e3, e4⟩
theorem DeleteFunc_def (l : List Int) (a : Int) (hl : l.length ≤ 100000) (h0 : 0 ≤ a) (h1 : a ≤ 9223372036854775807) : slices_DeleteFunc_int_int none l a = some (.inl (l, a)) ∧ without l (a - a % 2) = l ∨ ∃ k b, slices_DeleteFunc_int_int none l a = some (.inr ((0, k), b, a)) ∧ b.take k = without l (a - a % 2) := by
  rcases IndexFunc_def l a hl h0 h1 with ⟨h2, h3⟩ | ⟨k, hk, h2, h3, h4⟩
  · left
    have := without_take_eq (k := l.length) h2
    rw [List.take_length] at this
    exact ⟨by simp [slices_DeleteFunc_int_int, Tslices_DeleteFunc_int_int, Tree.run, h3], this⟩
  · right
    have he : l[k] = a - a % 2 := by rw [List.getElem?_eq_getElem hk] at h3; exact Option.some.inj h3
    obtain ⟨n, b, e1, e2, e3, e4⟩ := delete_loop l a hl h0 h1 (k + 1) k l rfl rfl (by rw [without_more hk, if_pos he, List.append_nil, without_take_eq h2]) (by omega) hk
    have e1' : Lslices_DeleteFunc_int_int_0 none ⟨(k : Int), IntKind.wrap .i64 ((k : Int) + 1), l, a⟩ = some ((n : Int), b, a) := by
      rw [wrap_succ hk (by omega)]; exact e1
    have hlen : (b.take n ++ List.replicate (b.length - n) (0 : Int)).length = b.length := by
      simp; omega
    refine ⟨n, b.take n ++ List.replicate (b.length - n) 0, ?_, ?_⟩
    · have hne : ¬ (k : Int) = -1 := by omega
      have hdrop : b.drop (n + (b.length - n)) = [] := List.drop_eq_nil_of_le (by omega)
      simp [slices_DeleteFunc_int_int, Tslices_DeleteFunc_int_int, Tree.run, h4, e1', hne, hdrop]
      omega
    · rw [List.take_append_of_le_length (by rw [List.length_take]; omega), List.take_take, Nat.min_self]
      exact e4
/-- memory after an access that writes -/
def writeM (m bad : List Int) (a : Int) (b : Bool) (v : Int) : List Int × List Int × Int := if okA m a b then (m.set (a / 2).toNat (putW (wordAt m a) a b v), without bad (a - a % 2), 0) else ([], [], 1)
theorem Write_def (m bad : List Int) (a : Int) (b : Bool) (v : Int) (hm : Words m) (hb : bad.length ≤ 100000) : memory_Write none m bad a b v = some (writeM m bad a b v) := by
  have hl := hm.1
  simp only [memory_Write, Tmemory_Write, Tree.run, misses_def m a b hl, copied_def m hl, Option.bind_some, writeM]
  by_cases ho : okA m a b
  · obtain ⟨h0, h1, h2⟩ := id ho
    have hw := word_in hm h0 h1
    have hd : 0 ≤ a / 2 := by omega
    have hd2 : a / 2 < (m.length : Int) := by omega
    have hcl : cloneF 8 bad = some bad := by unfold cloneF; rw [if_pos (by omega)]
    simp only [ho, decide_true, Bool.not_true, Bool.false_eq_true, if_false, if_true, decide_eq_true_eq, tmod_nn h0, half h0 (by omega), get_word h0 h1, Option.bind_some, hd, hd2, hcl, show ¬ (2 : Int) = 0 by omega, and255, and65535]
    have hv1 : 0 ≤ v % 256 ∧ v % 256 ≤ 255 := by omega
    have hv2 : 0 ≤ v % 65536 ∧ v % 65536 ≤ 65535 := by omega
    have hne : ¬ b = true → a % 2 = 0 := fun hb => h2.resolve_left hb
    cases b
    · have hp : a % 2 = 0 := hne (by decide)
      simp only [Bool.false_eq_true, if_false, show (2 : Int) ^ (min ((0 : Int)).toNat 64) = 1 by decide, Int.mul_one, wrap_id (n := 65535) (by omega) (by omega), wrap_id (n := v % 65536) (by omega) (by omega), bits_w _ _ hw.1 hw.2 hv2, putW, Int.le_refl, if_true]
      rcases DeleteFunc_def bad a hb h0 (by omega) with ⟨e1, e2⟩ | ⟨k, b', e1, e2⟩
      · simp [e1, e2]
      · simp [e1, e2]
    · by_cases hp : a % 2 = 0
      · simp only [if_true, hp, Int.zero_mul, wrap_id (n := 0) (by omega) (by omega), show (2 : Int) ^ (min ((0 : Int)).toNat 64) = 1 by decide, Int.mul_one, wrap_id (n := 255) (by omega) (by omega), wrap_id (n := v % 256) (by omega) (by omega), bits_lo _ _ hw.1 hw.2 hv1, putW, putB, Int.le_refl]
        rcases DeleteFunc_def bad a hb h0 (by omega) with ⟨e1, e2⟩ | ⟨k, b', e1, e2⟩
        · rw [hp, Int.sub_zero] at e2; simp [e1, e2]
        · rw [hp, Int.sub_zero] at e2; simp [e1, e2]
      · have hp1 : a % 2 = 1 := by omega
        simp only [if_true, hp1, Int.one_mul, wrap_id (n := 8) (by omega) (by omega), show (2 : Int) ^ (min ((8 : Int)).toNat 64) = 256 by decide, show (255 : Int) * 256 = 65280 by omega, wrap_id (n := 65280) (by omega) (by omega), wrap_id (n := v % 256 * 256) (by omega) (by omega), wrap_id (n := v % 256) (by omega) (by omega), bits_hi _ _ hw.1 hw.2 hv1, putW, putB, show (0 : Int) ≤ 8 by omega, show ¬ (1 : Int) = 0 by omega, if_false]
        rcases DeleteFunc_def bad a hb h0 (by omega) with ⟨e1, e2⟩ | ⟨k, b', e1, e2⟩
        · rw [hp1] at e2; simp [e1, e2]
        · rw [hp1] at e2; simp [e1, e2]
  · simp [ho]
theorem ref_Write_def (m bad : List Int) (a : Int) (b : Bool) (v : Int) (hm : Words m) (hb : bad.length ≤ 100000) : ref08_Write none m bad a b v = some (writeM m bad a b v) := by
  have hl := hm.1
  simp only [ref08_Write, Tref08_Write, Tree.run, access_def m a b hl, Option.bind_some, writeM]
  by_cases ho : okA m a b
  · obtain ⟨h0, h1, h2⟩ := id ho
    have hd : 0 ≤ a / 2 := by omega
    have hd2 : a / 2 < (m.length : Int) := by omega
    have hv1 : 0 ≤ v % 256 ∧ v % 256 ≤ 255 := by omega
    simp only [ho, if_true, tmod_nn h0, half h0 (by omega), wrap_id (n := a - a % 2) (by omega) (by omega), List.nil_append, get_word h0 h1, Option.bind_some, decide_eq_true_eq, hd, hd2, and255, and65535, set_def m a _ hm h0 h1 hv1, Without_def _ _ hb, setB]
    cases b <;> simp [putW] <;> omega
  · simp [ho]
/-! ### valid memories -/
def Bads (n : Nat) (bad : List Int) : Prop := ∀ i, (h : i < bad.length) → 0 ≤ bad[i] ∧ bad[i] < 2 * (n : Int) ∧ bad[i] % 2 = 0 ∧ ∀ h' : 0 < i, bad[i - 1] < bad[i]
def Sized (n : Int) : Prop := 256 ≤ n ∧ n ≤ 32768 ∧ n % 64 = 0
instance (n) : Decidable (Sized n) := by unfold Sized; infer_instance
def Rt (m bad : List Int) : Prop := Sized (2 * (m.length : Int)) ∧ (∀ w ∈ m, 0 ≤ w ∧ w ≤ 65535) ∧ Bads m.length bad
theorem Size_def (n : Int) : ref08_Size n = some (decide (Sized n)) := by
  simp only [ref08_Size, Tref08_Size, Tree.run]
  by_cases h0 : 0 ≤ n
  · rw [tmod_nn h0]
    simp only [decide_eq_true_eq, show ¬ (64 : Int) = 0 by omega, if_false]
    repeat' split
    all_goals (rw [Option.some.injEq]; first | (symm; rw [decide_eq_false_iff_not]; unfold Sized; omega) | (rw [decide_eq_decide]; unfold Sized; omega))
  · have : ¬ Sized n := fun h => h0 (by have := h.1; omega)
    simp [this]; omega
theorem sized_def (n : Int) : memory_sized n = some (decide (Sized n)) := Size_def n
theorem words_iff (m : List Int) : (∀ i, i < m.length → ∀ y, m[i]? = some y → 0 ≤ y ∧ y ≤ 65535) ↔ ∀ w ∈ m, 0 ≤ w ∧ w ≤ 65535 := by
  constructor
  · intro h w hw
    obtain ⟨i, hi, he⟩ := List.mem_iff_getElem.1 hw
    exact h i hi w (by rw [List.getElem?_eq_getElem hi, he])
  · intro h i hi y hy
    exact h y (List.mem_of_getElem? hy)
theorem ref_words (m bad : List Int) (hm : m.length ≤ 100000) : Lref08_Right_0 none ⟨m, bad, (0 : Int)⟩ = some (if ∀ w ∈ m, 0 ≤ w ∧ w ≤ 65535 then .inr (m, bad) else .inl (m, bad, false)) := by
  have hs := lim_scan (f := fun s => (Wref08_Right_0 s).run) (fun i : Nat => ⟨m, bad, (i : Int)⟩) m.length (fun i => ∀ y, m[i]? = some y → 0 ≤ y ∧ y ≤ 65535) (fun i => .inl (m, bad, false)) (.inr (m, bad))
    (fun i hi hp => by
      have hp' := hp m[i] (List.getElem?_eq_getElem hi)
      have h1 : ¬ m[i] < 0 := by omega
      have h2 : ¬ 65535 < m[i] := by omega
      simp [Wref08_Right_0, Tree.run, hi, wrap_succ hi (show m.length ≤ 9223372036854775807 by omega), h1, h2])
    (fun i hi hp => by
      have hp' : ¬ (0 ≤ m[i] ∧ m[i] ≤ 65535) := fun h => hp fun y hy => by
        rw [List.getElem?_eq_getElem hi] at hy
        rw [← Option.some.inj hy]; exact h
      by_cases h1 : m[i] < 0
      · simp [Wref08_Right_0, Tree.run, hi, h1]
      · have h2 : 65535 < m[i] := by omega
        simp [Wref08_Right_0, Tree.run, hi, h1, h2])
    (by simp [Wref08_Right_0, Tree.run])
  rcases hs with ⟨h1, h2⟩ | ⟨i, hi, h1, h2⟩
  · rw [if_pos ((words_iff m).1 h1)]; exact h2
  · rw [if_neg fun h => h1 ((words_iff m).2 h i hi)]; exact h2
theorem mem_words (m bad : List Int) (hm : m.length ≤ 100000) : Lmemory_Right_0 none ⟨m, bad, m, (m.length : Int), (0 : Int)⟩ = some (if ∀ w ∈ m, 0 ≤ w ∧ w ≤ 65535 then .inr (m, bad) else .inl (m, bad, false)) := by
  have hs := lim_scan (f := fun s => (Wmemory_Right_0 s).run) (fun i : Nat => ⟨m, bad, m, (m.length : Int), (i : Int)⟩) m.length (fun i => ∀ y, m[i]? = some y → 0 ≤ y ∧ y ≤ 65535) (fun i => .inl (m, bad, false)) (.inr (m, bad))
    (fun i hi hp => by
      have hp' := hp m[i] (List.getElem?_eq_getElem hi)
      have h1 : m[i] % 65536 = m[i] := (mask_fix _ _ (by omega)).2 ⟨hp'.1, by omega⟩
      simp only [Wmemory_Right_0, Tree.run, and65535]
      simp [hi, wrap_succ hi (show m.length ≤ 9223372036854775807 by omega), h1])
    (fun i hi hp => by
      have hp' : ¬ m[i] % 65536 = m[i] := fun h => hp fun y hy => by
        rw [List.getElem?_eq_getElem hi] at hy
        rw [← Option.some.inj hy]
        have := (mask_fix _ _ (by omega)).1 h
        omega
      simp only [Wmemory_Right_0, Tree.run, and65535]
      simp [hi, hp'])
    (by simp [Wmemory_Right_0, Tree.run])
  rcases hs with ⟨h1, h2⟩ | ⟨i, hi, h1, h2⟩
  · rw [if_pos ((words_iff m).1 h1)]; exact h2
  · rw [if_neg fun h => h1 ((words_iff m).2 h i hi)]; exact h2
/-- a bad address in its place -/
def GoodAt (n : Nat) (bad : List Int) (i : Nat) : Prop := ∀ h : i < bad.length, 0 ≤ bad[i] ∧ bad[i] < 2 * (n : Int) ∧ bad[i] % 2 = 0 ∧ ∀ h' : 0 < i, bad[i - 1] < bad[i]
def lastOf (bad : List Int) (i : Nat) : Int := if i = 0 then -1 else bad.getD (i - 1) 0
def GoodAt' (n : Nat) (bad : List Int) (i : Nat) : Prop := ∀ h : i < bad.length, lastOf bad i < bad[i] ∧ bad[i].tmod 2 = 0 ∧ bad[i] < 2 * (n : Int)
theorem bads_iff (n : Nat) (bad : List Int) : (∀ i, i < bad.length → GoodAt n bad i) ↔ Bads n bad := ⟨fun h i hi => h i hi hi, fun h i _ hi => h i hi⟩
theorem bads_iff' (n : Nat) (bad : List Int) : (∀ i, i < bad.length → GoodAt' n bad i) ↔ Bads n bad := by
  constructor
  · intro h i
    induction i with
    | zero =>
      intro hi
      obtain ⟨h1, h2, h3⟩ := h 0 hi hi
      have h1' : -1 < bad[0] := h1
      rw [tmod_nn (by omega)] at h2
      exact ⟨by omega, h3, h2, fun h' => absurd h' (by omega)⟩
    | succ i ih =>
      intro hi
      have hi' : i < bad.length := by omega
      obtain ⟨h1, h2, h3⟩ := h (i + 1) hi hi
      have hp := ih hi'
      have hl : lastOf bad (i + 1) = bad[i] := by simp [lastOf, hi']
      rw [hl] at h1
      rw [tmod_nn (by omega)] at h2
      exact ⟨by omega, h3, h2, fun _ => h1⟩
  · intro h i hi _
    obtain ⟨h1, h2, h3, h4⟩ := h i hi
    refine ⟨?_, by rw [tmod_nn h1]; exact h3, h2⟩
    by_cases h0 : i = 0
    · subst h0; simp [lastOf]; omega
    · have hlt : i - 1 < bad.length := by omega
      have := h4 (by omega)
      simp [lastOf, h0, hlt]; exact this
theorem ref_bads (m bad : List Int) (hm : m.length ≤ 100000) (hb : bad.length ≤ 100000) : ∃ r, Lref08_Right_1 none ⟨m, bad, (0 : Int)⟩ = some r ∧ (r = .inr () ∧ Bads m.length bad ∨ r = .inl false ∧ ¬ Bads m.length bad) := by
  have hs := lim_scan (f := fun s => (Wref08_Right_1 s).run) (fun i : Nat => ⟨m, bad, (i : Int)⟩) bad.length (GoodAt m.length bad) (fun i => .inl false) (.inr ())
    (fun i hi hp => by
      obtain ⟨h1, h2, h3, h4⟩ := hp hi
      have h5 : ¬ bad[i] < 0 := by omega
      have h6 : ¬ 2 * (m.length : Int) ≤ bad[i] := by omega
      by_cases h0 : 0 < i
      · have h7 := h4 h0
        have h8 : ¬ bad[i] ≤ bad[i - 1] := by omega
        have h9 : IntKind.wrap .i64 ((i : Int) - 1) = ((i - 1 : Nat) : Int) := by rw [wrap_id] <;> omega
        have h10 : i - 1 < bad.length := by omega
        simp [Wref08_Right_1, Tree.run, hi, wrap_succ hi (show bad.length ≤ 9223372036854775807 by omega), h5, wrap2 hm, h6, tmod_nn h1, h3, h0, h9, h10, h8]
      · have h00 : i = 0 := by omega
        subst h00
        simp [Wref08_Right_1, Tree.run, hi, wrap_id (n := 1) (by omega) (by omega), h5, wrap2 hm, h6, tmod_nn h1, h3])
    (fun i hi hp => by
      by_cases h1 : bad[i] < 0
      · simp [Wref08_Right_1, Tree.run, hi, h1]
      by_cases h2 : 2 * (m.length : Int) ≤ bad[i]
      · simp [Wref08_Right_1, Tree.run, hi, h1, wrap2 hm, h2]
      by_cases h3 : bad[i] % 2 = 0
      · by_cases h0 : 0 < i
        · have h10 : i - 1 < bad.length := by omega
          have h9 : IntKind.wrap .i64 ((i : Int) - 1) = ((i - 1 : Nat) : Int) := by rw [wrap_id] <;> omega
          by_cases h4 : bad[i] ≤ bad[i - 1]
          · simp [Wref08_Right_1, Tree.run, hi, h1, wrap2 hm, h2, tmod_nn (show 0 ≤ bad[i] by omega), h3, h0, h9, h10, h4]
          · exact absurd (fun h => ⟨by omega, by omega, h3, fun _ => by omega⟩) hp
        · exact absurd (fun h => ⟨by omega, by omega, h3, fun h' => absurd h' h0⟩) hp
      · simp [Wref08_Right_1, Tree.run, hi, h1, wrap2 hm, h2, tmod_nn (show 0 ≤ bad[i] by omega), h3])
    (by simp [Wref08_Right_1, Tree.run])
  rcases hs with ⟨h1, h2⟩ | ⟨i, hi, h1, h2⟩
  · exact ⟨_, h2, .inl ⟨rfl, (bads_iff _ _).1 h1⟩⟩
  · exact ⟨_, h2, .inr ⟨rfl, fun h => h1 ((bads_iff _ _).2 h i hi)⟩⟩
theorem mem_bads (m bad : List Int) (hm : m.length ≤ 100000) (hb : bad.length ≤ 100000) : ∃ r, Lmemory_Right_1 none ⟨m, (-1 : Int), bad, (bad.length : Int), (0 : Int)⟩ = some r ∧ (r = .inr () ∧ Bads m.length bad ∨ r = .inl false ∧ ¬ Bads m.length bad) := by
  have hs := lim_scan (f := fun s => (Wmemory_Right_1 s).run) (fun i : Nat => ⟨m, lastOf bad i, bad, (bad.length : Int), (i : Int)⟩) bad.length (GoodAt' m.length bad) (fun i => .inl false) (.inr ())
    (fun i hi hp => by
      obtain ⟨h1, h2, h3⟩ := hp hi
      have h4 : ¬ bad[i] ≤ lastOf bad i := by omega
      have h5 : ¬ 2 * (m.length : Int) ≤ bad[i] := by omega
      have h6 : lastOf bad (i + 1) = bad[i] := by simp [lastOf, hi]
      simp [Wmemory_Right_1, Tree.run, hi, wrap_succ hi (show bad.length ≤ 9223372036854775807 by omega), h4, wrap2 hm, h2, h5, h6])
    (fun i hi hp => by
      by_cases h1 : bad[i] ≤ lastOf bad i
      · simp [Wmemory_Right_1, Tree.run, hi, h1]
      by_cases h2 : bad[i].tmod 2 = 0
      · by_cases h3 : 2 * (m.length : Int) ≤ bad[i]
        · simp [Wmemory_Right_1, Tree.run, hi, h1, h2, wrap2 hm, h3]
        · exact absurd (fun h => ⟨by omega, h2, by omega⟩) hp
      · simp [Wmemory_Right_1, Tree.run, hi, h1, h2])
    (by simp [Wmemory_Right_1, Tree.run])
  rcases hs with ⟨h1, h2⟩ | ⟨i, hi, h1, h2⟩
  · exact ⟨_, h2, .inl ⟨rfl, (bads_iff' _ _).1 h1⟩⟩
  · exact ⟨_, h2, .inr ⟨rfl, fun h => h1 ((bads_iff' _ _).2 h i hi)⟩⟩
open Classical in
theorem ref_Right_def (m bad : List Int) (hm : m.length ≤ 100000) (hb : bad.length ≤ 100000) : ref08_Right none m bad = some (decide (Rt m bad)) := by
  obtain ⟨r, hr, hc⟩ := ref_bads m bad hm hb
  simp only [ref08_Right, Tref08_Right, Tree.run, wrap2 hm, Size_def, Option.bind_some, ref_words m bad hm]
  by_cases h1 : Sized (2 * (m.length : Int))
  · by_cases h2 : ∀ w ∈ m, 0 ≤ w ∧ w ≤ 65535
    · rw [if_pos h2]
      rcases hc with ⟨e, h3⟩ | ⟨e, h3⟩
      · simp [h1, hr, e, Rt, h3]; exact h2
      · simp [h1, hr, e, Rt, h3]
    · rw [if_neg h2]
      have : ¬ Rt m bad := fun h => h2 h.2.1
      simp [h1, this]
  · have : ¬ Rt m bad := fun h => h1 h.1
    simp [h1, this]
open Classical in
theorem mem_Right_def (m bad : List Int) (hm : m.length ≤ 100000) (hb : bad.length ≤ 100000) : memory_Right none m bad = some (decide (Rt m bad)) := by
  obtain ⟨r, hr, hc⟩ := mem_bads m bad hm hb
  simp only [memory_Right, Tmemory_Right, Tree.run, wrap2 hm, sized_def, Option.bind_some, mem_words m bad hm]
  by_cases h1 : Sized (2 * (m.length : Int))
  · by_cases h2 : ∀ w ∈ m, 0 ≤ w ∧ w ≤ 65535
    · rw [if_pos h2]
      rcases hc with ⟨e, h3⟩ | ⟨e, h3⟩
      · simp [h1, hr, e, Rt, h3]; exact h2
      · simp [h1, hr, e, Rt, h3]
    · rw [if_neg h2]
      have : ¬ Rt m bad := fun h => h2 h.2.1
      simp [h1, this]
  · have : ¬ Rt m bad := fun h => h1 h.1
    simp [h1, this]
theorem New_eq (n : Int) : memory_New n = ref08_New n := rfl
theorem New_some (n : Int) : ∃ r, memory_New n = some r ∧ r.1.length ≤ 100000 := by
  simp only [memory_New, Tmemory_New, Tree.run, sized_def, Option.bind_some]
  by_cases h : Sized n
  · obtain ⟨h1, h2, h3⟩ := id h
    have hd : 0 ≤ n / 2 := by omega
    have hd2 : 8 * (n / 2) ≤ 281474976710656 := by omega
    simp [h, half (show 0 ≤ n by omega) (by omega), hd, hd2]
    omega
  · simp [h]
end Go.Proofs.Ytnhhimlienefkaa
end
section
set_option linter.unusedSimpArgs false
namespace Go.Proofs.Ytnhhimlienefkaa
open Go Go.Ab
theorem alive_true : law08_alive none = some true := lelaw08_alive 300 true (by kernel_rfl)
theorem small_def (m bad : List Int) (r : Bool) (h : law08_small none m bad = some r) : r = true → m.length ≤ 2048 ∧ bad.length ≤ 2048 ∧ Rt m bad := by
  intro hr
  subst hr
  simp only [law08_small, Tlaw08_small, Tree.run, decide_eq_true_eq] at h
  split at h
  · split at h
    · rw [ref_Right_def m bad (by omega) (by omega)] at h
      simp at h
      exact ⟨by omega, by omega, h⟩
    · simp at h
  · simp at h
theorem small_some (m bad : List Int) : ∃ r, law08_small none m bad = some r := by
  simp only [law08_small, Tlaw08_small, Tree.run, decide_eq_true_eq]
  split
  · split
    · rw [ref_Right_def m bad (by omega) (by omega)]
      exact ⟨_, rfl⟩
    · exact ⟨_, rfl⟩
  · exact ⟨_, rfl⟩
theorem writeM_len (m bad : List Int) (a : Int) (b : Bool) (v : Int) : (writeM m bad a b v).1.length ≤ m.length ∧ (writeM m bad a b v).2.1.length ≤ bad.length := by
  unfold writeM
  split
  · exact ⟨by simp, List.length_filter_le _ _⟩
  · simp
theorem pf_law08_MemoryAccess (x : (List Int) × (List Int) × Access × Unit) (h : Glaw08_MemoryAccess x) : law08_MemoryAccess none x.1 x.2.1 x.2.2.1 = some true := by
  obtain ⟨m, bad, ⟨a, b, v⟩, u⟩ := x
  obtain ⟨r, hr⟩ := small_some m bad
  simp only [law08_MemoryAccess, Tlaw08_MemoryAccess, Tree.run, hr, Option.bind_some]
  cases r with
  | false => rfl
  | true =>
    obtain ⟨h1, h2, h3⟩ := small_def m bad true hr rfl
    have hl := writeM_len m bad a b v
    simp only [Read_def m bad a b (by omega) (by omega), ref_Read_def m bad a b (by omega) (by omega), Write_def m bad a b v ⟨by omega, h3.2.1⟩ (by omega), ref_Write_def m bad a b v ⟨by omega, h3.2.1⟩ (by omega), Option.bind_some, Same_def _ (writeM m bad a b v).1 (show (writeM m bad a b v).1.length ≤ 9223372036854775807 by omega), Same_def _ (writeM m bad a b v).2.1 (show (writeM m bad a b v).2.1.length ≤ 9223372036854775807 by omega), decide_true, Bool.not_true, Bool.false_eq_true, if_false, if_true, alive_true]
end Go.Proofs.Ytnhhimlienefkaa
end
section
set_option linter.unusedSimpArgs false
set_option linter.unusedVariables false
namespace Go.Proofs.Ytnhhimlienefkaa
open Go Go.Ab
/-- a range within memory -/
def Wn (m : List Int) (a n : Int) : Prop := 0 ≤ a ∧ 0 ≤ n ∧ a ≤ 2 * (m.length : Int) ∧ n ≤ 2 * (m.length : Int) - a
instance (m a n) : Decidable (Wn m a n) := by unfold Wn; infer_instance
theorem within_def (m : List Int) (a n : Int) (hm : m.length ≤ 100000) : memory_within m a n = some (decide (Wn m a n)) := by
  simp only [memory_within, Tmemory_within, Tree.run, wrap2 hm, decide_eq_true_eq]
  by_cases h0 : 0 ≤ a
  · by_cases h1 : 0 ≤ n
    · by_cases h2 : a ≤ 2 * (m.length : Int)
      · rw [if_pos h0, if_pos h1, if_pos h2, wrap_id (by omega) (by omega), Option.some.injEq, decide_eq_decide]
        unfold Wn; omega
      · have : ¬ Wn m a n := fun h => h2 h.2.2.1
        simp [h0, h1, h2, this]
    · have : ¬ Wn m a n := fun h => h1 h.2.1
      simp [h0, h1, this]
  · have : ¬ Wn m a n := fun h => h0 h.1
    simp [h0, this]
theorem Within_eq (m : List Int) (a n : Int) : ref08_Within m a n = memory_within m a n := rfl
theorem up_def {a : Int} (h0 : 0 ≤ a) : IntKind.wrap .i64 (a.tmod 2 * 8) = if a % 2 = 0 then 0 else 8 := by
  rw [tmod_nn h0, wrap_id (by omega) (by omega)]
  split <;> omega
theorem shr_byte (m : List Int) {a : Int} (h0 : 0 ≤ a) : IntKind.wrap .u8 ((wordAt m a).fdiv (2 ^ (min (IntKind.wrap .i64 (a.tmod 2 * 8)).toNat 64))) = byteAt m a := by
  rw [IntKind.wrap_u8, up_def h0, byteAt]
  split
  · rw [show (2 : Int) ^ (min ((0 : Int)).toNat 64) = 1 by decide, fdiv_pos _ (by omega), Int.ediv_one]
  · rw [show (2 : Int) ^ (min ((8 : Int)).toNat 64) = 256 by decide, fdiv_pos _ (by omega)]
theorem byteAt_in (m : List Int) (a : Int) : 0 ≤ byteAt m a ∧ byteAt m a ≤ 255 := by
  unfold byteAt
  split <;> omega
def bytesL (m : List Int) (a : Int) (n : Nat) : List Int := (List.range n).map fun i => byteAt m (a + (i : Nat))
theorem bytesL_succ (m : List Int) (a : Int) (n : Nat) : bytesL m a (n + 1) = bytesL m a n ++ [byteAt m (a + (n : Nat))] := by
  simp [bytesL, List.range_succ]
theorem bytesL_len (m : List Int) (a : Int) (n : Nat) : (bytesL m a n).length = n := by simp [bytesL]
def outB (m : List Int) (a : Int) (n : Nat) : List UInt8 := (bytesL m a n).map fun x => UInt8.ofNat x.toNat
theorem outB_len (m : List Int) (a : Int) (n : Nat) : (outB m a n).length = n := by simp [outB, bytesL]
def bytesM (m : List Int) (a n : Int) : List UInt8 × Int := if Wn m a n then (outB m a n.toNat, 0) else ([], 2)
theorem Bytes_loop (m : List Int) (a : Int) (n : Nat) (hm : m.length ≤ 100000) (h : Wn m a n) : Lmemory_Bytes_0 none ⟨m, a, (n : Int), (0 : Int), List.replicate n (0 : Int)⟩ = some (bytesL m a n) := by
  obtain ⟨h0, h1, h2, h3⟩ := h
  have hc := lim_count (f := fun s => (Wmemory_Bytes_0 s).run) (fun i : Nat => ⟨m, a, (n : Int), (i : Int), bytesL m a i ++ List.replicate (n - i) (0 : Int)⟩) n (fun i hi => by
    have e1 : IntKind.wrap .i64 (a + (i : Int)) = a + (i : Int) := wrap_id (by omega) (by omega)
    have h4 : 0 ≤ a + (i : Int) := by omega
    have h5 : 0 ≤ (a + (i : Int)) / 2 := by omega
    have h6 : 0 ≤ IntKind.wrap .i64 ((a + (i : Int)).tmod 2 * 8) := by rw [up_def h4]; split <;> omega
    have h7 : (i : Int) < ((bytesL m a i ++ List.replicate (n - i) (0 : Int)).length : Int) := by
      simp [bytesL_len]; omega
    have h8 : (bytesL m a i ++ List.replicate (n - i) (0 : Int))[((i : Int)).toNat]? = some 0 := by
      rw [Int.toNat_natCast, List.getElem?_append_right (by rw [bytesL_len]; omega), bytesL_len, Nat.sub_self, List.getElem?_replicate]
      simp; omega
    have h8' : (bytesL m a i ++ List.replicate (n - i) (0 : Int))[i]? = some 0 := h8
    have h9 : (bytesL m a i ++ List.replicate (n - i) (0 : Int)).set i (byteAt m (a + (i : Int))) = bytesL m a (i + 1) ++ List.replicate (n - (i + 1)) (0 : Int) := by
      rw [List.set_append_right (h := by rw [bytesL_len]; omega), bytesL_len, Nat.sub_self, bytesL_succ, show n - i = (n - (i + 1)) + 1 by omega, List.replicate_succ]
      simp
    have hi' : (i : Int) < (n : Int) := by omega
    have h10 : (0 : Int) ≤ (i : Int) := by omega
    simp only [Wmemory_Bytes_0, Tree.run, e1, half h4 (by omega), get_word h4 (show a + (i : Int) < 2 * (m.length : Int) by omega), shr_byte m h4, wrap_succ hi (show n ≤ 9223372036854775807 by omega), hi', h10, h5, h6, h7, h8, decide_true, if_true, show ¬ (2 : Int) = 0 by omega, decide_false, Bool.false_eq_true, if_false, Option.bind_some, Int.toNat_natCast, h8', h9]) 0 (Nat.zero_le _)
  have hd : Lmemory_Bytes_0 none ⟨m, a, (n : Int), ((n : Nat) : Int), bytesL m a n ++ List.replicate (n - n) (0 : Int)⟩ = some (bytesL m a n ++ List.replicate (n - n) (0 : Int)) := lim_done (by simp [Wmemory_Bytes_0, Tree.run])
  have he : Lmemory_Bytes_0 none ⟨m, a, (n : Int), (0 : Int), bytesL m a 0 ++ List.replicate (n - 0) (0 : Int)⟩ = some (bytesL m a n ++ List.replicate (n - n) (0 : Int)) := hc.trans hd
  simpa [bytesL] using he
theorem Bytes_def (m : List Int) (a n : Int) (hm : m.length ≤ 100000) : memory_Bytes none m a n = some (bytesM m a n) := by
  simp only [memory_Bytes, Tmemory_Bytes, Tree.run, within_def m a n hm, Option.bind_some, bytesM]
  by_cases h : Wn m a n
  · obtain ⟨h0, h1, h2, h3⟩ := id h
    have hl := Bytes_loop m a n.toNat hm (by rw [Int.toNat_of_nonneg h1]; exact h)
    have h4 : (1 : Int) * n ≤ 281474976710656 := by omega
    simp only [h, decide_true, Bool.not_true, Bool.false_eq_true, if_false, if_true, h1, h4, List.length_replicate, hl, Option.bind_some, outB]
  · simp [h]
theorem ref_Bytes_loop (m : List Int) (a : Int) (n : Nat) (hm : m.length ≤ 100000) (h : Wn m a n) : Lref08_Bytes_0 none ⟨m, a, (n : Int), (0 : Int), []⟩ = some (bytesL m a n) := by
  obtain ⟨h0, h1, h2, h3⟩ := h
  have hc := lim_count (f := fun s => (Wref08_Bytes_0 s).run) (fun i : Nat => ⟨m, a, (n : Int), (i : Int), bytesL m a i⟩) n (fun i hi => by
    have e1 : IntKind.wrap .i64 (a + (i : Int)) = a + (i : Int) := wrap_id (by omega) (by omega)
    have h4 : 0 ≤ a + (i : Int) := by omega
    have hb := byteAt_in m (a + (i : Int))
    have e2 : IntKind.wrap .u8 (byteAt m (a + (i : Int))) = byteAt m (a + (i : Int)) := by rw [IntKind.wrap_u8]; omega
    have hi' : (i : Int) < (n : Int) := by omega
    have h7 : ((bytesL m a i).length + 1) * 1 ≤ 140737488355328 := by rw [bytesL_len]; omega
    simp only [Wref08_Bytes_0, Tree.run, e1, Byte_def m _ h4 (show a + (i : Int) < 2 * (m.length : Int) by omega) hm, e2, wrap_succ hi (show n ≤ 9223372036854775807 by omega), hi', decide_true, if_true, Option.bind_some, List.length_cons, List.length_nil, Nat.zero_add, h7, bytesL_succ]) 0 (Nat.zero_le _)
  have hd : Lref08_Bytes_0 none ⟨m, a, (n : Int), ((n : Nat) : Int), bytesL m a n⟩ = some (bytesL m a n) := lim_done (by simp [Wref08_Bytes_0, Tree.run])
  have he : Lref08_Bytes_0 none ⟨m, a, (n : Int), (0 : Int), bytesL m a 0⟩ = some (bytesL m a n) := hc.trans hd
  simpa [bytesL] using he
theorem ref_Bytes_def (m : List Int) (a n : Int) (hm : m.length ≤ 100000) : ref08_Bytes none m a n = some (bytesM m a n) := by
  simp only [ref08_Bytes, Tref08_Bytes, Tree.run, Within_eq, within_def m a n hm, Option.bind_some, bytesM]
  by_cases h : Wn m a n
  · obtain ⟨h0, h1, h2, h3⟩ := id h
    have hl := ref_Bytes_loop m a n.toNat hm (by rw [Int.toNat_of_nonneg h1]; exact h)
    rw [Int.toNat_of_nonneg h1] at hl
    simp only [h, decide_true, Bool.not_true, Bool.false_eq_true, if_false, if_true, hl, Option.bind_some, outB]
  · simp [h]
/-! ### storing -/
def storeL : List Int → Int → List UInt8 → List Int
  | m, _, [] => m
  | m, a, c :: s => storeL (setB m a (c.toNat : Int)) (a + 1) s
theorem storeL_more (m : List Int) (a : Int) (s : List UInt8) (c : UInt8) : storeL m a (s ++ [c]) = setB (storeL m a s) (a + (s.length : Int)) (c.toNat : Int) := by
  induction s generalizing m a with
  | nil => simp [storeL]
  | cons d s ih =>
    simp only [List.cons_append, storeL, ih, List.length_cons]
    congr 1
    omega
theorem setB_len (m : List Int) (a b : Int) : (setB m a b).length = m.length := by simp [setB]
theorem storeL_len (m : List Int) (a : Int) (s : List UInt8) : (storeL m a s).length = m.length := by
  induction s generalizing m a with
  | nil => rfl
  | cons d s ih => rw [storeL, ih, setB_len]
theorem setB_words {m : List Int} {a b : Int} (hm : Words m) (h0 : 0 ≤ a) (h1 : a < 2 * (m.length : Int)) (hb : 0 ≤ b ∧ b ≤ 255) : Words (setB m a b) := by
  refine ⟨by rw [setB_len]; exact hm.1, fun w hw => ?_⟩
  rcases List.mem_or_eq_of_mem_set hw with h | h
  · exact hm.2 w h
  · have := word_in hm h0 h1
    rw [h]; unfold putB; split <;> omega
theorem byte_lt (c : UInt8) : 0 ≤ (c.toNat : Int) ∧ (c.toNat : Int) ≤ 255 := by have := c.toNat_lt; omega
theorem storeL_words {m : List Int} {a : Int} {s : List UInt8} (hm : Words m) (h0 : 0 ≤ a) (h1 : a + (s.length : Int) ≤ 2 * (m.length : Int)) : Words (storeL m a s) := by
  induction s generalizing m a with
  | nil => exact hm
  | cons d s ih =>
    simp only [List.length_cons] at h1
    exact ih (setB_words hm h0 (by omega) (byte_lt d)) (by omega) (by rw [setB_len]; omega)
def storeM (m : List Int) (a : Int) (s : List UInt8) : List Int × Int := if Wn m a (s.length : Int) then (storeL m a s, 0) else ([], 2)
theorem u8_nat (c : UInt8) : IntKind.wrap .i64 (c.toNat : Int) = (c.toNat : Int) := by have := c.toNat_lt; exact wrap_id (by omega) (by omega)
theorem put_eq (b : List Int) (a : Int) (c : UInt8) (hw : Words b) (h0 : 0 ≤ a) (h1 : a < 2 * (b.length : Int)) : IntKind.wrap .i64 ((BitVec.ofInt 64 (IntKind.wrap .i64 ((BitVec.ofInt 64 (wordAt b a) &&& ~~~BitVec.ofInt 64 (IntKind.wrap .i64 ((255 : Int) * 2 ^ (min (IntKind.wrap .i64 (a.tmod 2 * 8)).toNat 64)))).toNat : Int)) ||| BitVec.ofInt 64 (IntKind.wrap .i64 ((IntKind.wrap .i64 (c.toNat : Int)) * 2 ^ (min (IntKind.wrap .i64 (a.tmod 2 * 8)).toNat 64)))).toNat : Int) = putB (wordAt b a) a (c.toNat : Int) := by
  have hb := byte_lt c
  have hi := word_in hw h0 h1
  rw [up_def h0, u8_nat]
  unfold putB
  split
  · rw [show (2 : Int) ^ (min ((0 : Int)).toNat 64) = 1 by decide, Int.mul_one, Int.mul_one, wrap_id (n := 255) (by omega) (by omega), wrap_id (n := (c.toNat : Int)) (by omega) (by omega), bits_lo _ _ hi.1 hi.2 hb]
  · rw [show (2 : Int) ^ (min ((8 : Int)).toNat 64) = 256 by decide, wrap_id (n := 255 * 256) (by omega) (by omega), wrap_id (n := (c.toNat : Int) * 256) (by omega) (by omega), show (255 : Int) * 256 = 65280 by omega, bits_hi _ _ hi.1 hi.2 hb]
theorem Store_loop (m : List Int) (a : Int) (s : List UInt8) (hm : Words m) (h : Wn m a (s.length : Int)) : Lmemory_Store_0 none ⟨a, s, (s.length : Int), (0 : Int), m⟩ = some (storeL m a s) := by
  obtain ⟨h0, h1, h2, h3⟩ := h
  have hl := hm.1
  have hc := lim_count (f := fun s => (Wmemory_Store_0 s).run) (fun i : Nat => ⟨a, s, (s.length : Int), (i : Int), storeL m a (s.take i)⟩) s.length (fun i hi => by
    have e1 : IntKind.wrap .i64 (a + (i : Int)) = a + (i : Int) := wrap_id (by omega) (by omega)
    have h4 : 0 ≤ a + (i : Int) := by omega
    have h5 : 0 ≤ (a + (i : Int)) / 2 := by omega
    have h6 : 0 ≤ IntKind.wrap .i64 ((a + (i : Int)).tmod 2 * 8) := by rw [up_def h4]; split <;> omega
    have hlen : (storeL m a (s.take i)).length = m.length := storeL_len _ _ _
    have hlt : (s.take i).length = i := by rw [List.length_take]; omega
    have hw : Words (storeL m a (s.take i)) := storeL_words hm h0 (by rw [hlt]; omega)
    have h7 : (a + (i : Int)) / 2 < ((storeL m a (s.take i)).length : Int) := by rw [hlen]; omega
    have h8 : a + (i : Int) < 2 * ((storeL m a (s.take i)).length : Int) := by rw [hlen]; omega
    have hi' : (i : Int) < (s.length : Int) := by omega
    have h10 : (0 : Int) ≤ (i : Int) := by omega
    have h9 : storeL m a (s.take (i + 1)) = (storeL m a (s.take i)).set ((a + (i : Int)) / 2).toNat (putB (wordAt (storeL m a (s.take i)) (a + (i : Int))) (a + (i : Int)) (s[i].toNat : Int)) := by
      rw [take_one_more hi, storeL_more, hlt]; rfl
    simp only [Wmemory_Store_0, Tree.run, e1, half h4 (by omega), get_word h4 h8, wrap_succ hi (show s.length ≤ 9223372036854775807 by omega), hi', h10, h5, h6, h7, decide_true, if_true, show ¬ (2 : Int) = 0 by omega, decide_false, Bool.false_eq_true, if_false, Option.bind_some, Int.toNat_natCast, List.getElem?_eq_getElem hi, put_eq _ _ _ hw h4 h8, h9]) 0 (Nat.zero_le _)
  have hd : Lmemory_Store_0 none ⟨a, s, (s.length : Int), ((s.length : Nat) : Int), storeL m a (s.take s.length)⟩ = some (storeL m a (s.take s.length)) := lim_done (by simp [Wmemory_Store_0, Tree.run])
  have he : Lmemory_Store_0 none ⟨a, s, (s.length : Int), (0 : Int), storeL m a (s.take 0)⟩ = some (storeL m a (s.take s.length)) := hc.trans hd
  simpa [storeL] using he
theorem Store_def (m : List Int) (a : Int) (s : List UInt8) (hm : Words m) : memory_Store none m a s = some (storeM m a s) := by
  simp only [memory_Store, Tmemory_Store, Tree.run, within_def m a _ hm.1, copied_def m hm.1, Option.bind_some, storeM]
  by_cases h : Wn m a (s.length : Int)
  · simp only [h, decide_true, Bool.not_true, Bool.false_eq_true, if_false, if_true, Store_loop m a s hm h, Option.bind_some]
  · simp [h]
theorem ref_Store_loop (m : List Int) (a : Int) (s : List UInt8) (hm : Words m) (h : Wn m a (s.length : Int)) : Lref08_Store_0 none ⟨a, s, (0 : Int), m⟩ = some (storeL m a s) := by
  obtain ⟨h0, h1, h2, h3⟩ := h
  have hl := hm.1
  have hc := lim_count (f := fun s => (Wref08_Store_0 s).run) (fun i : Nat => ⟨a, s, (i : Int), storeL m a (s.take i)⟩) s.length (fun i hi => by
    have e1 : IntKind.wrap .i64 (a + (i : Int)) = a + (i : Int) := wrap_id (by omega) (by omega)
    have h4 : 0 ≤ a + (i : Int) := by omega
    have hlen : (storeL m a (s.take i)).length = m.length := storeL_len _ _ _
    have hlt : (s.take i).length = i := by rw [List.length_take]; omega
    have hw : Words (storeL m a (s.take i)) := storeL_words hm h0 (by rw [hlt]; omega)
    have h8 : a + (i : Int) < 2 * ((storeL m a (s.take i)).length : Int) := by rw [hlen]; omega
    have hi' : (i : Int) < (s.length : Int) := by omega
    have h10 : (0 : Int) ≤ (i : Int) := by omega
    have h9 : storeL m a (s.take (i + 1)) = setB (storeL m a (s.take i)) (a + (i : Int)) (s[i].toNat : Int) := by
      rw [take_one_more hi, storeL_more, hlt]
    simp only [Wref08_Store_0, Tree.run, e1, wrap_succ hi (show s.length ≤ 9223372036854775807 by omega), hi', h10, decide_true, if_true, Option.bind_some, Int.toNat_natCast, List.getElem?_eq_getElem hi, u8_nat, set_def _ _ _ hw h4 h8 (byte_lt s[i]), h9]) 0 (Nat.zero_le _)
  have hd : Lref08_Store_0 none ⟨a, s, ((s.length : Nat) : Int), storeL m a (s.take s.length)⟩ = some (storeL m a (s.take s.length)) := lim_done (by simp [Wref08_Store_0, Tree.run])
  have he : Lref08_Store_0 none ⟨a, s, (0 : Int), storeL m a (s.take 0)⟩ = some (storeL m a (s.take s.length)) := hc.trans hd
  simpa [storeL] using he
theorem ref_Store_def (m : List Int) (a : Int) (s : List UInt8) (hm : Words m) : ref08_Store none m a s = some (storeM m a s) := by
  have hl := hm.1
  have h5 : (([] : List Int).length + m.length) * 8 ≤ 140737488355328 := by simp; omega
  simp only [ref08_Store, Tref08_Store, Tree.run, Within_eq, within_def m a _ hm.1, Option.bind_some, storeM, h5, decide_true, if_true, List.nil_append]
  by_cases h : Wn m a (s.length : Int)
  · simp only [h, decide_true, Bool.not_true, Bool.false_eq_true, if_false, if_true, ref_Store_loop m a s hm h, Option.bind_some]
  · simp [h]
def moveM (m : List Int) (to from_ n : Int) : List Int × Int := if Wn m to n ∧ Wn m from_ n then (storeL m to (outB m from_ n.toNat), 0) else ([], 2)
theorem Move_def (m : List Int) (to from_ n : Int) (hm : Words m) : memory_Move none m to from_ n = some (moveM m to from_ n) := by
  simp only [memory_Move, Tmemory_Move, Tree.run, within_def m _ _ hm.1, Bytes_def m _ _ hm.1, Store_def m _ _ hm, Option.bind_some, moveM]
  by_cases h : Wn m to n
  · by_cases h' : Wn m from_ n
    · have h1 := h.2.1
      have h2 : Wn m to ((outB m from_ n.toNat).length : Int) := by rw [outB_len, Int.toNat_of_nonneg h1]; exact h
      simp [h, h', bytesM, storeM, h2]
    · simp [h, h', bytesM, storeM]
  · simp [h]
theorem ref_Move_def (m : List Int) (to from_ n : Int) (hm : Words m) : ref08_Move none m to from_ n = some (moveM m to from_ n) := by
  simp only [ref08_Move, Tref08_Move, Tree.run, ref_Bytes_def m _ _ hm.1, ref_Store_def m _ _ hm, Option.bind_some, moveM]
  by_cases h' : Wn m from_ n
  · have h1 := h'.2.1
    by_cases h : Wn m to n
    · have h2 : Wn m to ((outB m from_ n.toNat).length : Int) := by rw [outB_len, Int.toNat_of_nonneg h1]; exact h
      simp [h, h', bytesM, storeM, h2]
    · have h2 : ¬ Wn m to ((outB m from_ n.toNat).length : Int) := by rw [outB_len, Int.toNat_of_nonneg h1]; exact h
      simp [h, h', bytesM, storeM, h2]
  · simp [h', bytesM]
end Go.Proofs.Ytnhhimlienefkaa
end
section
set_option linter.unusedSimpArgs false
namespace Go.Proofs.Ytnhhimlienefkaa
open Go Go.Ab
theorem storeM_len (m : List Int) (a : Int) (s : List UInt8) : (storeM m a s).1.length ≤ m.length := by
  unfold storeM
  split
  · exact Nat.le_of_eq (storeL_len _ _ _)
  · simp
theorem moveM_len (m : List Int) (to from_ n : Int) : (moveM m to from_ n).1.length ≤ m.length := by
  unfold moveM
  split
  · exact Nat.le_of_eq (storeL_len _ _ _)
  · simp
theorem pf_law08_MemoryRanges (x : (List Int) × (List UInt8) × Span × Unit) (h : Glaw08_MemoryRanges x) : law08_MemoryRanges none x.1 x.2.1 x.2.2.1 = some true := by
  obtain ⟨m, s, ⟨t, f, n⟩, u⟩ := x
  obtain ⟨r, hr⟩ := small_some m []
  simp only [law08_MemoryRanges, Tlaw08_MemoryRanges, Tree.run, hr, Option.bind_some]
  cases r with
  | false => rfl
  | true =>
    obtain ⟨h1, h2, h3⟩ := small_def m [] true hr rfl
    have hw : Words m := ⟨by omega, h3.2.1⟩
    have hl := storeM_len m t s
    have hl2 := moveM_len m t f n
    simp only [Bytes_def m f n hw.1, ref_Bytes_def m f n hw.1, Store_def m t s hw, ref_Store_def m t s hw, Move_def m t f n hw, ref_Move_def m t f n hw, Option.bind_some, Same_def _ (storeM m t s).1 (show (storeM m t s).1.length ≤ 9223372036854775807 by omega), Same_def _ (moveM m t f n).1 (show (moveM m t f n).1.length ≤ 9223372036854775807 by omega), decide_true, Bool.not_true, Bool.false_eq_true, if_false, if_true, alive_true]
    split <;> rfl
end Go.Proofs.Ytnhhimlienefkaa
end
section
set_option linter.unusedSimpArgs false
namespace Go.Proofs.Ytnhhimlienefkaa
open Go Go.Ab
theorem wordAt_set (m : List Int) (a w c : Int) (h0 : 0 ≤ a) (h1 : a < 2 * (m.length : Int)) (hc : 0 ≤ c) : wordAt (m.set (a / 2).toNat w) c = if a / 2 = c / 2 then w else wordAt m c := by
  unfold wordAt
  have hlt : (a / 2).toNat < m.length := by omega
  rw [List.getD_eq_getElem?_getD, List.getD_eq_getElem?_getD, List.getElem?_set]
  by_cases h : a / 2 = c / 2
  · rw [if_pos (by rw [h]), if_pos h, if_pos hlt]; rfl
  · rw [if_neg (by omega), if_neg h]
theorem byteAt_setB (m : List Int) (a b c : Int) (hm : Words m) (h0 : 0 ≤ a) (h1 : a < 2 * (m.length : Int)) (hb : 0 ≤ b ∧ b ≤ 255) (hc : 0 ≤ c) : byteAt (setB m a b) c = if c = a then b else byteAt m c := by
  have hw := word_in hm h0 h1
  unfold byteAt setB
  rw [wordAt_set m a _ c h0 h1 hc]
  by_cases h : a / 2 = c / 2
  · have he : wordAt m c = wordAt m a := by unfold wordAt; rw [h]
    rw [if_pos h, he]
    unfold putB
    by_cases h2 : c = a
    · subst h2
      rw [if_pos rfl]
      split <;> omega
    · rw [if_neg h2]
      by_cases h3 : a % 2 = 0
      · rw [if_pos h3, if_neg (show ¬ c % 2 = 0 by omega), if_neg (show ¬ c % 2 = 0 by omega)]
        omega
      · rw [if_neg h3, if_pos (show c % 2 = 0 by omega), if_pos (show c % 2 = 0 by omega)]
        omega
  · have hne : ¬ c = a := fun he => h (by rw [he])
    rw [if_neg h, if_neg hne]
theorem byteAt_storeL (m : List Int) (a : Int) (s : List UInt8) (hm : Words m) (h0 : 0 ≤ a) (h1 : a + (s.length : Int) ≤ 2 * (m.length : Int)) (c : Int) (hc : 0 ≤ c) : byteAt (storeL m a s) c = if a ≤ c ∧ c < a + (s.length : Int) then ((s.getD (c - a).toNat 0).toNat : Int) else byteAt m c := by
  induction s generalizing m a with
  | nil =>
    have : ¬ (a ≤ c ∧ c < a + (([] : List UInt8).length : Int)) := by simp
    rw [storeL, if_neg this]
  | cons d s ih =>
    simp only [List.length_cons] at h1
    have hd := byte_lt d
    rw [storeL, ih (setB m a d.toNat) (a + 1) (setB_words hm h0 (by omega) hd) (by omega) (by rw [setB_len]; omega), byteAt_setB m a _ c hm h0 (by omega) hd hc]
    simp only [List.length_cons]
    by_cases h2 : a + 1 ≤ c ∧ c < a + 1 + (s.length : Int)
    · rw [if_pos h2, if_pos (by omega), show (c - a).toNat = (c - (a + 1)).toNat + 1 by omega, List.getD_cons_succ]
    · rw [if_neg h2]
      by_cases h3 : c = a
      · rw [if_pos h3, if_pos (by omega), show (c - a).toNat = 0 by omega]; rfl
      · rw [if_neg h3, if_neg (by omega)]
theorem outB_get (m : List Int) (a : Int) (n i : Nat) (h : i < (outB m a n).length) : (outB m a n)[i] = UInt8.ofNat (byteAt m (a + (i : Nat))).toNat := by
  simp [outB, bytesL]
theorem u8_back (c : UInt8) : UInt8.ofNat ((c.toNat : Int)).toNat = c := by simp
/-- what is stored is read -/
theorem outB_store (m : List Int) (a : Int) (s : List UInt8) (hm : Words m) (h0 : 0 ≤ a) (h1 : a + (s.length : Int) ≤ 2 * (m.length : Int)) : outB (storeL m a s) a s.length = s := by
  apply List.ext_getElem
  · rw [outB_len]
  · intro i h2 h3
    rw [outB_get, byteAt_storeL m a s hm h0 h1 _ (by omega), if_pos (by omega), show (a + (i : Int) - a).toNat = i by omega]
    simp [h3]
/-- all bytes after a store -/
theorem outB_all (m : List Int) (a : Int) (s : List UInt8) (hm : Words m) (h0 : 0 ≤ a) (h1 : a + (s.length : Int) ≤ 2 * (m.length : Int)) : outB (storeL m a s) 0 (2 * m.length) = (outB m 0 (2 * m.length)).take a.toNat ++ s ++ (outB m 0 (2 * m.length)).drop (a + (s.length : Int)).toNat := by
  have hlen : (outB m 0 (2 * m.length)).length = 2 * m.length := outB_len _ _ _
  have ht : ((outB m 0 (2 * m.length)).take a.toNat).length = a.toNat := by rw [List.length_take]; omega
  apply List.ext_getElem
  · simp [outB_len]; omega
  · intro i h2 h3
    rw [outB_len] at h2
    rw [outB_get, Int.zero_add, byteAt_storeL m a s hm h0 h1 _ (by omega)]
    by_cases h4 : i < a.toNat
    · rw [if_neg (by omega), List.getElem_append_left (by simp [outB_len]; omega), List.getElem_append_left (by rw [ht]; exact h4), List.getElem_take, outB_get, Int.zero_add]
    · by_cases h5 : i < a.toNat + s.length
      · rw [if_pos (by omega), List.getElem_append_left (by simp [outB_len]; omega), List.getElem_append_right (by rw [ht]; omega)]
        simp only [ht]
        have h6 : ((i : Int) - a).toNat = i - a.toNat := by omega
        have h7 : i - a.toNat < s.length := by omega
        simp [h6, h7]
      · rw [if_neg (by omega), List.getElem_append_right (by simp [outB_len]; omega)]
        have h6 : ((outB m 0 (2 * m.length)).take a.toNat ++ s).length = a.toNat + s.length := by rw [List.length_append, ht]
        simp only [h6, List.getElem_drop, outB_get, Int.zero_add]
        congr 3
        omega
noncomputable def tailT (q : Option Nat) (m : List Int) (s : List UInt8) (t : Int) : Tree Bool :=
  (.opt ((List Int) × Int) (memory_Store q m t s) fun r191 =>
                .ite (!decide (r191.2 = (0 : Int)))
                  (.ite (decide ((r191.1.length : Int) = (0 : Int)))
                    (.opt Bool (law08_alive q) fun r192 =>
                      .leaf (r192))
                    (.leaf (false)))
                  (.opt ((List UInt8) × Int) (memory_Bytes q m (0 : Int) (IntKind.wrap .i64 ((2 : Int) * (m.length : Int)))) fun r193 =>
                    .ite (!decide ((r193.1.length : Int) = (IntKind.wrap .i64 ((2 : Int) * (m.length : Int)))))
                      (.leaf (false))
                      (.ite (decide (t < (0 : Int)))
                        (.leaf (false))
                        (.ite (decide ((IntKind.wrap .i64 ((r193.1.length : Int) - (s.length : Int))) < t))
                          (.leaf (false))
                          (.opt ((List UInt8) × Int) (memory_Bytes q r191.1 (0 : Int) (IntKind.wrap .i64 ((2 : Int) * (r191.1.length : Int)))) fun r194 =>
                            .ite (decide (r194.2 = (0 : Int)))
                              (.ite (decide (0 ≤ t))
                                (.ite (decide (t ≤ ((r193.1.length : Nat) : Int)))
                                  (.ite (decide (((r193.1.drop (0)).take ((t).toNat - 0)).length + s.length ≤ 9223372036854775807))
                                    (.ite (decide (0 ≤ IntKind.wrap .i64 (t + (s.length : Int))))
                                      (.ite (decide (IntKind.wrap .i64 (t + (s.length : Int)) ≤ ((r193.1.length : Nat) : Int)))
                                        (.ite (decide ((((r193.1.drop (0)).take ((t).toNat - 0)) ++ s).length + ((r193.1.drop ((IntKind.wrap .i64 (t + (s.length : Int))).toNat)).take (r193.1.length - (IntKind.wrap .i64 (t + (s.length : Int))).toNat)).length ≤ 9223372036854775807))
                                          (.ite (decide (r194.1 = ((((r193.1.drop (0)).take ((t).toNat - 0)) ++ s) ++ ((r193.1.drop ((IntKind.wrap .i64 (t + (s.length : Int))).toNat)).take (r193.1.length - (IntKind.wrap .i64 (t + (s.length : Int))).toNat)))))
                                            (.opt Bool (law08_alive q) fun r195 =>
                                              .leaf (r195))
                                            (.leaf (false)))
                                          .fail)
                                        .fail)
                                      .fail)
                                    .fail)
                                  .fail)
                                .fail)
                              (.leaf (false)))))))
theorem tail_true (m : List Int) (s : List UInt8) (t : Int) (hw : Words m) (hs : s.length ≤ 5000) : (tailT none m s t).run = some true := by
  have hl := hw.1
  simp only [tailT, Tree.run, Store_def m t s hw, Option.bind_some]
  by_cases h : Wn m t (s.length : Int)
  · obtain ⟨h0, h1, h2, h3⟩ := id h
    have hA : (outB m 0 (2 * m.length)).length = 2 * m.length := outB_len _ _ _
    have hn : (2 * (m.length : Int)).toNat = 2 * m.length := by omega
    have hb1 : memory_Bytes none m 0 (2 * (m.length : Int)) = some (outB m 0 (2 * m.length), 0) := by
      rw [Bytes_def m 0 _ hl, bytesM, if_pos ⟨by omega, by omega, by omega, by omega⟩, hn]
    have hb2 : memory_Bytes none (storeL m t s) 0 (2 * (m.length : Int)) = some ((outB m 0 (2 * m.length)).take t.toNat ++ s ++ (outB m 0 (2 * m.length)).drop (t + (s.length : Int)).toNat, 0) := by
      rw [Bytes_def _ 0 _ (by rw [storeL_len]; exact hl), bytesM, if_pos ⟨by omega, by omega, by rw [storeL_len]; omega, by rw [storeL_len]; omega⟩, hn, outB_all m t s hw h0 (by omega)]
    simp only [storeM, h, if_true, decide_true, Bool.not_true, Bool.false_eq_true, if_false, wrap2 hl, hb1, Option.bind_some, storeL_len, hb2]
    generalize hAA : outB m 0 (2 * m.length) = A at hA ⊢
    have e1 : ((A.length : Nat) : Int) = 2 * (m.length : Int) := by omega
    have e2 : IntKind.wrap .i64 (t + (s.length : Int)) = t + (s.length : Int) := wrap_id (by omega) (by omega)
    have e3 : IntKind.wrap .i64 (2 * (m.length : Int) - (s.length : Int)) = 2 * (m.length : Int) - (s.length : Int) := wrap_id (by omega) (by omega)
    simp only [e1, e2, e3, List.drop_zero, Nat.sub_zero]
    have l1 : (A.take t.toNat).length + s.length ≤ 9223372036854775807 := by rw [List.length_take]; omega
    have l2 : (A.take t.toNat ++ s).length + ((A.drop (t + (s.length : Int)).toNat).take (A.length - (t + (s.length : Int)).toNat)).length ≤ 9223372036854775807 := by
      rw [List.length_append, List.length_take, List.length_take, List.length_drop]; omega
    have l3 : (A.drop (t + (s.length : Int)).toNat).take (A.length - (t + (s.length : Int)).toNat) = A.drop (t + (s.length : Int)).toNat := List.take_of_length_le (by rw [List.length_drop]; omega)
    have c1 : ¬ t < 0 := by omega
    have c2 : ¬ 2 * (m.length : Int) - (s.length : Int) < t := by omega
    have c3 : t ≤ 2 * (m.length : Int) := by omega
    have c4 : 0 ≤ t + (s.length : Int) := by omega
    have c5 : t + (s.length : Int) ≤ 2 * (m.length : Int) := by omega
    simp only [l1, l2, c1, c2, c3, c4, c5, h0, decide_true, decide_false, Bool.not_true, Bool.false_eq_true, if_true, if_false]
    simp only [l3, decide_true, if_true, alive_true, Option.bind_some]
  · simp only [storeM, h, if_false, List.length_nil, alive_true, Option.bind_some]
    rfl
theorem pf_law08_MemoryMoves (x : (List Int) × (List UInt8) × Span × Unit) (h : Glaw08_MemoryMoves x) : law08_MemoryMoves none x.1 x.2.1 x.2.2.1 = some true := by
  obtain ⟨m, s, ⟨t, f, n⟩, u⟩ := x
  obtain ⟨r, hr⟩ := small_some m []
  simp only [law08_MemoryMoves, Tlaw08_MemoryMoves, Tree.run, hr, Option.bind_some]
  cases r with
  | false => rfl
  | true =>
    obtain ⟨h1, h2, h3⟩ := small_def m [] true hr rfl
    have hw : Words m := ⟨by omega, h3.2.1⟩
    by_cases h5 : (5000 : Int) < (s.length : Int)
    · simp [h5]
    · have ht := tail_true m s t hw (by omega)
      simp only [tailT, Tree.run] at ht
      simp only [h5, decide_false, Bool.not_true, Bool.false_eq_true, if_false, Bytes_def m f n hw.1, Move_def m t f n hw, Option.bind_some]
      by_cases hM : Wn m t n ∧ Wn m f n
      · have hn := hM.1.2.1
        have e1 : moveM m t f n = (storeL m t (outB m f n.toNat), 0) := by rw [moveM, if_pos hM]
        have e2 : bytesM m f n = (outB m f n.toNat, 0) := by rw [bytesM, if_pos hM.2]
        have h6 : t + ((outB m f n.toNat).length : Int) ≤ 2 * (m.length : Int) := by
          obtain ⟨a0, a1, a2, a3⟩ := hM.1
          rw [outB_len]; omega
        have e3 : memory_Bytes none (storeL m t (outB m f n.toNat)) t n = some (outB m f n.toNat, 0) := by
          obtain ⟨a0, a1, a2, a3⟩ := id hM.1
          have := outB_store m t (outB m f n.toNat) hw a0 h6
          rw [outB_len] at this
          rw [Bytes_def _ t n (by rw [storeL_len]; exact hw.1), bytesM, if_pos ⟨a0, a1, by rw [storeL_len]; exact a2, by rw [storeL_len]; exact a3⟩, this]
        simp only [e1, e2, e3, decide_true, Bool.not_true, Bool.false_eq_true, if_true, if_false, Option.bind_some]
        exact ht
      · have e1 : moveM m t f n = ([], 2) := by rw [moveM, if_neg hM]
        simp only [e1, show ¬ (2 : Int) = 0 by omega, decide_false, Bool.false_eq_true, if_false]
        exact ht
end Go.Proofs.Ytnhhimlienefkaa
end
section
set_option linter.unusedSimpArgs false
set_option linter.unusedVariables false
namespace Go.Proofs.Ytnhhimlienefkaa
open Go Go.Ab
theorem bads_pair (n : Nat) (bad : List Int) : Bads n bad ↔ bad.Pairwise (· < ·) ∧ ∀ y ∈ bad, 0 ≤ y ∧ y < 2 * (n : Int) ∧ y % 2 = 0 := by
  constructor
  · intro h
    refine ⟨List.pairwise_iff_getElem.2 fun i j hi hj hij => ?_, fun y hy => ?_⟩
    · induction j with
      | zero => omega
      | succ j ih =>
        have h1 := (h (j + 1) hj).2.2.2 (by omega)
        simp only [Nat.add_sub_cancel] at h1
        by_cases he : i = j
        · subst he; exact h1
        · exact Int.lt_trans (ih (by omega) (by omega)) h1
    · obtain ⟨i, hi, he⟩ := List.mem_iff_getElem.1 hy
      obtain ⟨h1, h2, h3, _⟩ := h i hi
      rw [he] at h1 h2 h3
      exact ⟨h1, h2, h3⟩
  · rintro ⟨h1, h2⟩ i hi
    obtain ⟨h3, h4, h5⟩ := h2 _ (List.getElem_mem hi)
    exact ⟨h3, h4, h5, fun h' => List.pairwise_iff_getElem.1 h1 (i - 1) i (by omega) hi (by omega)⟩
theorem bads_filter {n : Nat} {bad : List Int} (p : Int → Bool) (h : Bads n bad) : Bads n (bad.filter p) := by
  rw [bads_pair] at h ⊢
  exact ⟨h.1.filter p, fun y hy => h.2 y (List.mem_filter.1 hy).1⟩
/-- where a number has its place in a rising list -/
def Cut (l : List Int) (a : Int) (p : Nat) : Prop := p ≤ l.length ∧ (∀ i, (h : i < l.length) → i < p → l[i] < a) ∧ ∀ i, (h : i < l.length) → p ≤ i → a ≤ l[i]
def spoilL (l : List Int) (a : Int) : List Int := l.filter (fun y => decide (y < a)) ++ [a] ++ l.filter (fun y => decide (a < y))
theorem cut_take {l : List Int} {a : Int} {p : Nat} (h : Cut l a p) : l.filter (fun y => decide (y < a)) = l.take p := by
  obtain ⟨h1, h2, h3⟩ := h
  have e : l = l.take p ++ l.drop p := (List.take_append_drop p l).symm
  have e1 : (l.take p).filter (fun y => decide (y < a)) = l.take p := by
    rw [List.filter_eq_self]
    intro y hy
    obtain ⟨i, hi, he⟩ := List.mem_iff_getElem.1 hy
    rw [List.getElem_take] at he
    rw [List.length_take] at hi
    have := h2 i (by omega) (by omega)
    rw [he] at this
    exact decide_eq_true this
  have e2 : (l.drop p).filter (fun y => decide (y < a)) = [] := by
    rw [List.filter_eq_nil_iff]
    intro y hy
    obtain ⟨i, hi, he⟩ := List.mem_iff_getElem.1 hy
    rw [List.getElem_drop] at he
    rw [List.length_drop] at hi
    have := h3 (p + i) (by omega) (by omega)
    rw [he] at this
    simp; omega
  conv => lhs; rw [e]
  rw [List.filter_append, e1, e2, List.append_nil]
theorem cut_drop {l : List Int} {a : Int} {p : Nat} (h : Cut l a p) : l.filter (fun y => decide (a < y)) = (l.drop p).filter (fun y => !decide (y = a)) := by
  obtain ⟨h1, h2, h3⟩ := h
  have e : l = l.take p ++ l.drop p := (List.take_append_drop p l).symm
  have e1 : (l.take p).filter (fun y => decide (a < y)) = [] := by
    rw [List.filter_eq_nil_iff]
    intro y hy
    obtain ⟨i, hi, he⟩ := List.mem_iff_getElem.1 hy
    rw [List.getElem_take] at he
    rw [List.length_take] at hi
    have := h2 i (by omega) (by omega)
    rw [he] at this
    simp; omega
  conv => lhs; rw [e]
  rw [List.filter_append, e1, List.nil_append]
  apply List.filter_congr
  intro y hy
  obtain ⟨i, hi, he⟩ := List.mem_iff_getElem.1 hy
  rw [List.getElem_drop] at he
  rw [List.length_drop] at hi
  have := h3 (p + i) (by omega) (by omega)
  rw [he] at this
  rw [Bool.eq_iff_iff]
  simp
  omega
theorem cut_here {l : List Int} {a : Int} {p : Nat} (hs : l.Pairwise (· < ·)) (h : Cut l a p) (hp : p < l.length) (he : l[p] = a) : spoilL l a = l := by
  have hd : l.drop p = l[p] :: l.drop (p + 1) := (List.getElem_cons_drop ..).symm
  have e2 : (l.drop (p + 1)).filter (fun y => !decide (y = a)) = l.drop (p + 1) := by
    rw [List.filter_eq_self]
    intro y hy
    obtain ⟨i, hi, hx⟩ := List.mem_iff_getElem.1 hy
    rw [List.getElem_drop] at hx
    rw [List.length_drop] at hi
    have := List.pairwise_iff_getElem.1 hs p (p + 1 + i) hp (by omega) (by omega)
    rw [he, hx] at this
    simp; omega
  unfold spoilL
  rw [cut_take h, cut_drop h, hd, he]
  have e3 : (a :: l.drop (p + 1)).filter (fun y => !decide (y = a)) = l.drop (p + 1) := by rw [List.filter_cons, e2]; simp
  rw [e3]
  have : l = l.take p ++ (l[p] :: l.drop (p + 1)) := by rw [← hd, List.take_append_drop]
  conv => rhs; rw [this, he]
  simp
theorem cut_not {l : List Int} {a : Int} {p : Nat} (hs : l.Pairwise (· < ·)) (h : Cut l a p) (hne : ∀ hp : p < l.length, l[p] ≠ a) : spoilL l a = l.take p ++ [a] ++ l.drop p := by
  unfold spoilL
  rw [cut_take h, cut_drop h]
  congr 1
  rw [List.filter_eq_self]
  intro y hy
  obtain ⟨i, hi, hx⟩ := List.mem_iff_getElem.1 hy
  rw [List.getElem_drop] at hx
  rw [List.length_drop] at hi
  have h0 := h.2.2 p (by omega) (Nat.le_refl _)
  have h1 := hne (by omega)
  rcases Nat.eq_zero_or_pos i with h' | h'
  · subst h'
    simp only [Nat.add_zero] at hx
    rw [← hx]; simpa using h1
  · have := List.pairwise_iff_getElem.1 hs p (p + i) (by omega) (by omega) (by omega)
    rw [hx] at this
    simp; omega
theorem cut_ex {l : List Int} (hs : l.Pairwise (· < ·)) (a : Int) {i j : Nat} (hij : i ≤ j) (hj : j ≤ l.length) (h1 : ∀ k, (h : k < l.length) → k < i → l[k] < a) (h2 : ∀ k, (h : k < l.length) → j ≤ k → a ≤ l[k]) (he : i = j) : Cut l a i := ⟨by omega, h1, fun k h hk => h2 k h (by omega)⟩
theorem Less_def (x y : Int) : cmp_Less_int x y = some (decide (x < y)) := by
  simp [cmp_Less_int, Tcmp_Less_int, Tree.run, cmp_isNaN_int, Tcmp_isNaN_int]
theorem mid_def {i j : Nat} (h : i + j ≤ 1000000) : IntKind.wrap .i64 (((IntKind.wrap .u64 (IntKind.wrap .i64 ((i : Int) + (j : Int))))).fdiv (2 ^ (min ((1 : Int)).toNat 64))) = (((i + j) / 2 : Nat) : Int) := by
  have e1 : IntKind.wrap .i64 ((i : Int) + (j : Int)) = ((i + j : Nat) : Int) := by rw [wrap_id (by omega) (by omega)]; omega
  have e2 : IntKind.wrap .u64 ((i + j : Nat) : Int) = ((i + j : Nat) : Int) := by
    rw [IntKind.wrap_u64]; omega
  rw [e1, e2, show (2 : Int) ^ (min ((1 : Int)).toNat 64) = 2 by decide, fdiv_pos _ (by omega), wrap_id (by omega) (by omega)]
  omega
theorem Search_loop (l : List Int) (a n : Int) (hs : l.Pairwise (· < ·)) (hl : l.length ≤ 100000) : ∃ p, Cut l a p ∧ Lslices_BinarySearch_int_int_0 none ⟨l, a, n, (0 : Int), (l.length : Int)⟩ = some (l, a, n, (p : Int)) := by
  obtain ⟨r, hr, p, e, hp⟩ := lim_rule (f := fun s => (Wslices_BinarySearch_int_int_0 s).run)
    (fun s => ∃ i j : Nat, s = ⟨l, a, n, (i : Int), (j : Int)⟩ ∧ i ≤ j ∧ j ≤ l.length ∧ (∀ k, (h : k < l.length) → k < i → l[k] < a) ∧ ∀ k, (h : k < l.length) → j ≤ k → a ≤ l[k])
    (fun r => ∃ p, r = (l, a, n, ((p : Nat) : Int)) ∧ Cut l a p) (fun s => (s.t8 - s.t7).toNat)
    (by
      rintro s ⟨i, j, rfl, hij, hj, h1, h2⟩
      by_cases hlt : i < j
      · right
        have hlt' : (i : Int) < (j : Int) := by omega
        have hm : (i + j) / 2 < l.length := by omega
        have h0 : (0 : Int) ≤ (((i + j) / 2 : Nat) : Int) := by omega
        by_cases hc : l[(i + j) / 2] < a
        · refine ⟨⟨l, a, n, (((i + j) / 2 + 1 : Nat) : Int), (j : Int)⟩, ?_, ⟨(i + j) / 2 + 1, j, rfl, by omega, hj, fun k h hk => ?_, h2⟩, ?_⟩
          · simp only [Wslices_BinarySearch_int_int_0, Tree.run, hlt', decide_true, if_true, mid_def (show i + j ≤ 1000000 by omega), h0, Int.toNat_natCast, List.getElem?_eq_getElem hm, Option.bind_some, Less_def, hc, wrap_succ hm (show l.length ≤ 9223372036854775807 by omega), show (0 : Int) ≤ 1 by omega]
          · rcases Nat.lt_or_ge k ((i + j) / 2) with h' | h'
            · exact Int.lt_trans (List.pairwise_iff_getElem.1 hs k _ h hm h') hc
            · have : k = (i + j) / 2 := by omega
              subst this; exact hc
          · dsimp only; omega
        · refine ⟨⟨l, a, n, (i : Int), (((i + j) / 2 : Nat) : Int)⟩, ?_, ⟨i, (i + j) / 2, rfl, by omega, by omega, h1, fun k h hk => ?_⟩, ?_⟩
          · simp only [Wslices_BinarySearch_int_int_0, Tree.run, hlt', decide_true, if_true, mid_def (show i + j ≤ 1000000 by omega), h0, Int.toNat_natCast, List.getElem?_eq_getElem hm, Option.bind_some, Less_def, hc, show (0 : Int) ≤ 1 by omega, decide_false, Bool.false_eq_true, if_false]
          · rcases Nat.eq_or_lt_of_le hk with h' | h'
            · subst h'; omega
            · have := List.pairwise_iff_getElem.1 hs _ k hm h h'
              omega
          · dsimp only; omega
      · left
        have hlt' : ¬ (i : Int) < (j : Int) := by omega
        exact ⟨(l, a, n, (i : Int)), by simp only [Wslices_BinarySearch_int_int_0, Tree.run, hlt', decide_false, Bool.false_eq_true, if_false], i, rfl, cut_ex hs a hij hj h1 h2 (by omega)⟩)
    ⟨l, a, n, (0 : Int), (l.length : Int)⟩ ⟨0, l.length, rfl, Nat.zero_le _, Nat.le_refl _, fun k h hk => absurd hk (by omega), fun k h hk => absurd hk (by omega)⟩
  subst e
  exact ⟨p, hp, hr⟩
theorem Search_def (l : List Int) (a : Int) (hs : l.Pairwise (· < ·)) (hl : l.length ≤ 100000) : ∃ p, Cut l a p ∧ ∃ b, slices_BinarySearch_int_int none l a = some ((p : Int), b) ∧ (b = true ↔ ∃ h : p < l.length, l[p] = a) := by
  obtain ⟨p, hp, h⟩ := Search_loop l a (l.length : Int) hs hl
  refine ⟨p, hp, ?_⟩
  simp only [slices_BinarySearch_int_int, Tslices_BinarySearch_int_int, Tree.run, h, Option.bind_some]
  by_cases hlt : p < l.length
  · have hlt' : (p : Int) < (l.length : Int) := by omega
    have h0 : (0 : Int) ≤ (p : Int) := by omega
    by_cases he : l[p] = a
    · exact ⟨true, by simp only [hlt', h0, decide_true, if_true, Int.toNat_natCast, List.getElem?_eq_getElem hlt, Option.bind_some, he], by simp [hlt, he]⟩
    · exact ⟨false, by simp only [hlt', h0, decide_true, if_true, Int.toNat_natCast, List.getElem?_eq_getElem hlt, Option.bind_some, he, decide_false, Bool.false_eq_true, if_false, slices_isNaN_int, Tslices_isNaN_int, Tree.run, Bool.not_true], by simp [hlt, he]⟩
  · have hlt' : ¬ (p : Int) < (l.length : Int) := by omega
    exact ⟨false, by simp only [hlt', decide_false, Bool.false_eq_true, if_false], by simp [hlt]⟩
def spoilM (m bad : List Int) (a : Int) : List Int × Int := if ¬ a % 2 = 0 then ([], 1) else if a < 0 ∨ 2 * (m.length : Int) ≤ a then ([], 2) else (spoilL bad a, 0)
theorem tmod2 (o : Int) : o.tmod 2 = 0 ↔ o % 2 = 0 := by
  rw [Int.tmod_eq_emod]
  split
  · simp
  · rename_i h
    constructor
    · intro h'; omega
    · intro h'; exact absurd (.inr (Int.dvd_of_emod_eq_zero h')) h
theorem Spoil_def (m bad : List Int) (a : Int) (hm : m.length ≤ 100000) (hb : bad.length ≤ 100000) (hs : bad.Pairwise (· < ·)) : memory_Spoil none m bad a = some (spoilM m bad a) := by
  simp only [memory_Spoil, Tmemory_Spoil, Tree.run, wrap2 hm, spoilM, show ¬ (2 : Int) = 0 by omega, decide_false, Bool.false_eq_true, if_false, tmod2]
  by_cases h0 : a % 2 = 0
  · by_cases h1 : a < 0
    · simp [h0, h1]
    · by_cases h2 : 2 * (m.length : Int) ≤ a
      · simp [h0, h1, h2]
      · obtain ⟨p, hp, b, e, hbb⟩ := Search_def bad a hs hb
        have hc : cloneF 8 bad = some bad := by unfold cloneF; rw [if_pos (by omega)]
        simp only [h0, h1, h2, decide_true, decide_false, Bool.not_true, Bool.false_eq_true, if_false, not_true, or_self, e, Option.bind_some, hc]
        cases b with
        | true =>
          obtain ⟨h, he⟩ := hbb.1 rfl
          simp only [if_true, cut_here hs hp h he]
        | false =>
          have hne : ∀ h : p < bad.length, bad[p] ≠ a := fun h he => by
            have := hbb.2 ⟨h, he⟩
            cases this
          have hi : insF (p : Int) bad [a] = some (bad.take p ++ [a] ++ bad.drop p) := by
            unfold insF
            have := hp.1
            rw [if_pos ⟨by omega, by omega, by simp, by simp only [List.length_cons, List.length_nil]; omega⟩, Int.toNat_natCast]
          simp only [Bool.false_eq_true, if_false, hi, Option.bind_some, cut_not hs hp hne]
  · simp [h0]
theorem ref_Spoil_def (m bad : List Int) (a : Int) (hm : m.length ≤ 100000) (hb : bad.length ≤ 100000) (hs : bad.Pairwise (· < ·)) : ref08_Spoil none m bad a = some (spoilM m bad a) := by
  simp only [ref08_Spoil, Tref08_Spoil, Tree.run, wrap2 hm, spoilM, show ¬ (2 : Int) = 0 by omega, decide_false, Bool.false_eq_true, if_false, tmod2]
  by_cases h0 : a % 2 = 0
  · by_cases h1 : a < 0
    · simp [h0, h1]
    · by_cases h2 : 2 * (m.length : Int) ≤ a
      · simp [h0, h1, h2]
      · obtain ⟨p, hp, hq⟩ : ∃ p, Cut bad a p ∧ Lref08_Spoil_0 none ⟨bad, a, (0 : Int), []⟩ = some (bad, a, (p : Int), bad.take p) := by
          obtain ⟨r, hr, p, e, hp⟩ := lim_rule (f := fun s => (Wref08_Spoil_0 s).run)
            (fun s => ∃ i : Nat, s = ⟨bad, a, (i : Int), bad.take i⟩ ∧ i ≤ bad.length ∧ (∀ k, (h : k < bad.length) → k < i → bad[k] < a))
            (fun r => ∃ p, r = (bad, a, ((p : Nat) : Int), bad.take p) ∧ Cut bad a p) (fun s => bad.length - s.t9.toNat)
            (by
              rintro s ⟨i, rfl, hi, h1⟩
              by_cases hlt : i < bad.length
              · have hlt' : (i : Int) < (bad.length : Int) := by omega
                have h0 : (0 : Int) ≤ (i : Int) := by omega
                by_cases hc : bad[i] < a
                · right
                  have hfit : ((bad.take i).length + [bad[i]].length) * 8 ≤ 140737488355328 := by rw [List.length_take, List.length_cons, List.length_nil]; omega
                  refine ⟨⟨bad, a, ((i + 1 : Nat) : Int), bad.take (i + 1)⟩, ?_, ⟨i + 1, rfl, hlt, fun k h hk => ?_⟩, ?_⟩
                  · simp only [Wref08_Spoil_0, Tree.run, hlt', h0, decide_true, if_true, Int.toNat_natCast, List.getElem?_eq_getElem hlt, Option.bind_some, hc, hfit, wrap_succ hlt (show bad.length ≤ 9223372036854775807 by omega), take_one_more hlt]
                  · by_cases hki : k = i
                    · subst hki; exact hc
                    · exact h1 k h (by omega)
                  · dsimp only; omega
                · left
                  refine ⟨(bad, a, (i : Int), bad.take i), ?_, i, rfl, hi, h1, fun k h hk => ?_⟩
                  · simp only [Wref08_Spoil_0, Tree.run, hlt', h0, decide_true, if_true, Int.toNat_natCast, List.getElem?_eq_getElem hlt, Option.bind_some, hc, decide_false, Bool.false_eq_true, if_false]
                  · rcases Nat.eq_or_lt_of_le hk with h' | h'
                    · subst h'; omega
                    · have := List.pairwise_iff_getElem.1 hs _ k hlt h h'
                      omega
              · left
                have hlt' : ¬ (i : Int) < (bad.length : Int) := by omega
                exact ⟨(bad, a, (i : Int), bad.take i), by simp only [Wref08_Spoil_0, Tree.run, hlt', decide_false, Bool.false_eq_true, if_false], i, rfl, hi, h1, fun k h hk => absurd h (by omega)⟩)
            ⟨bad, a, (0 : Int), []⟩ ⟨0, rfl, Nat.zero_le _, fun k h hk => absurd hk (by omega)⟩
          subst e
          exact ⟨p, hp, hr⟩
        have hfit : ((bad.take p).length + [a].length) * 8 ≤ 140737488355328 := by rw [List.length_take, List.length_cons, List.length_nil]; omega
        have hsp : spoilL bad a = bad.take p ++ [a] ++ (bad.drop p).filter (fun y => !decide (y = a)) := by unfold spoilL; rw [cut_take hp, cut_drop hp]
        have hq2 : Lref08_Spoil_1 none ⟨bad, a, (p : Int), bad.take p ++ [a]⟩ = some (spoilL bad a) := by
          have hc := lim_count (f := fun s => (Wref08_Spoil_1 s).run) (fun i : Nat => ⟨bad, a, ((p + i : Nat) : Int), bad.take p ++ [a] ++ ((bad.drop p).take i).filter (fun y => !decide (y = a))⟩) (bad.length - p) (fun i hi => by
            have hlt : p + i < bad.length := by omega
            have hlt' : ((p + i : Nat) : Int) < (bad.length : Int) := by omega
            have h0 : (0 : Int) ≤ ((p + i : Nat) : Int) := by omega
            have hd : i < (bad.drop p).length := by rw [List.length_drop]; omega
            have hx : (bad.drop p)[i] = bad[p + i] := List.getElem_drop ..
            have hw := wrap_succ hlt (show bad.length ≤ 9223372036854775807 by omega)
            have e1 : p + i + 1 = p + (i + 1) := by omega
            rw [e1] at hw
            by_cases hc : bad[p + i] = a
            · have ef : ((bad.drop p).take (i + 1)).filter (fun y => !decide (y = a)) = ((bad.drop p).take i).filter (fun y => !decide (y = a)) := by
                rw [take_one_more hd, List.filter_append, hx, hc]; simp
              simp only [Wref08_Spoil_1, Tree.run, hlt', h0, decide_true, if_true, Int.toNat_natCast, List.getElem?_eq_getElem hlt, Option.bind_some, hc, Bool.not_true, Bool.false_eq_true, if_false, hw, ef]
            · have ef : ((bad.drop p).take (i + 1)).filter (fun y => !decide (y = a)) = ((bad.drop p).take i).filter (fun y => !decide (y = a)) ++ [bad[p + i]] := by
                rw [take_one_more hd, List.filter_append, hx]; simp [hc]
              have eg : bad.take p ++ [a] ++ ((bad.drop p).take (i + 1)).filter (fun y => !decide (y = a)) = (bad.take p ++ [a] ++ ((bad.drop p).take i).filter (fun y => !decide (y = a))) ++ [bad[p + i]] := by rw [ef]; simp
              have hf2 : ((bad.take p ++ [a] ++ ((bad.drop p).take i).filter (fun y => !decide (y = a))).length + [bad[p + i]].length) * 8 ≤ 140737488355328 := by
                have : (((bad.drop p).take i).filter (fun y => !decide (y = a))).length ≤ 100000 := Nat.le_trans (List.length_filter_le _ _) (by rw [List.length_take, List.length_drop]; omega)
                simp only [List.length_append, List.length_take, List.length_cons, List.length_nil]
                omega
              simp only [Wref08_Spoil_1, Tree.run, hlt', h0, decide_true, if_true, Int.toNat_natCast, List.getElem?_eq_getElem hlt, Option.bind_some, hc, decide_false, Bool.not_false, hf2, hw, eg]) 0 (Nat.zero_le _)
          have hall : (bad.drop p).take (bad.length - p) = bad.drop p := List.take_of_length_le (by rw [List.length_drop]; omega)
          rw [hall] at hc
          have hple := hp.1
          rw [show p + (bad.length - p) = bad.length by omega] at hc
          have hd : Lref08_Spoil_1 none ⟨bad, a, ((bad.length : Nat) : Int), bad.take p ++ [a] ++ (bad.drop p).filter (fun y => !decide (y = a))⟩ = some (bad.take p ++ [a] ++ (bad.drop p).filter (fun y => !decide (y = a))) := lim_done (by simp [Wref08_Spoil_1, Tree.run])
          have h : Lref08_Spoil_1 none ⟨bad, a, ((p + 0 : Nat) : Int), bad.take p ++ [a] ++ ((bad.drop p).take 0).filter (fun y => !decide (y = a))⟩ = _ := hc.trans hd
          rw [hsp]
          simpa using h
        simp only [h0, h1, h2, decide_true, decide_false, Bool.not_true, Bool.false_eq_true, if_false, not_true, or_self, hq, Option.bind_some, hfit, if_true, hq2]
  · simp [h0]
theorem spoil_bads {n : Nat} {bad : List Int} {a : Int} (h : Bads n bad) (h0 : 0 ≤ a) (h1 : a < 2 * (n : Int)) (h2 : a % 2 = 0) : Bads n (spoilL bad a) := by
  rw [bads_pair] at h ⊢
  unfold spoilL
  refine ⟨?_, fun y hy => ?_⟩
  · rw [List.pairwise_append, List.pairwise_append]
    refine ⟨⟨h.1.filter _, List.pairwise_singleton _ _, fun x hx y hy => ?_⟩, h.1.filter _, fun x hx y hy => ?_⟩
    · rw [List.mem_singleton.1 hy]
      simpa using (List.mem_filter.1 hx).2
    · have hy2 : a < y := by simpa using (List.mem_filter.1 hy).2
      rcases List.mem_append.1 hx with hx | hx
      · have : x < a := by simpa using (List.mem_filter.1 hx).2
        omega
      · rw [List.mem_singleton.1 hx]; exact hy2
  · rcases List.mem_append.1 hy with hy | hy
    · rcases List.mem_append.1 hy with hy | hy
      · exact h.2 y (List.mem_filter.1 hy).1
      · rw [List.mem_singleton.1 hy]; exact ⟨h0, h1, h2⟩
    · exact h.2 y (List.mem_filter.1 hy).1
theorem spoilL_len (bad : List Int) (a : Int) : (spoilL bad a).length ≤ 2 * bad.length + 1 := by
  unfold spoilL
  have h1 := List.length_filter_le (fun y => decide (y < a)) bad
  have h2 := List.length_filter_le (fun y => decide (a < y)) bad
  simp only [List.length_append, List.length_cons, List.length_nil]
  omega
end Go.Proofs.Ytnhhimlienefkaa
end
section
set_option linter.unusedSimpArgs false
namespace Go.Proofs.Ytnhhimlienefkaa
open Go Go.Ab
theorem pf_law08_MemorySpoils (x : (List Int) × (List Int) × Int × Unit) (h : Glaw08_MemorySpoils x) : law08_MemorySpoils none x.1 x.2.1 x.2.2.1 = some true := by
  obtain ⟨m, bad, a, u⟩ := x
  obtain ⟨r, hr⟩ := small_some m bad
  simp only [law08_MemorySpoils, Tlaw08_MemorySpoils, Tree.run, hr, Option.bind_some]
  cases r with
  | false => rfl
  | true =>
    obtain ⟨h1, h2, h3⟩ := small_def m bad true hr rfl
    have hs := ((bads_pair _ _).1 h3.2.2).1
    have hl : (spoilM m bad a).1.length ≤ 100000 := by
      unfold spoilM
      split
      · simp
      · split
        · simp
        · have := spoilL_len bad a; dsimp only; omega
    simp only [Spoil_def m bad a (by omega) (by omega) hs, ref_Spoil_def m bad a (by omega) (by omega) hs, Option.bind_some, Same_def _ _ (show (spoilM m bad a).1.length ≤ 9223372036854775807 by omega), decide_true, if_true, Bool.not_true, Bool.false_eq_true, if_false, mem_Right_def m _ (show m.length ≤ 100000 by omega) hl, alive_true]
    by_cases h0 : a % 2 = 0
    · by_cases h4 : a < 0 ∨ 2 * (m.length : Int) ≤ a
      · have e : spoilM m bad a = ([], 2) := by unfold spoilM; rw [if_neg (by simp [h0]), if_pos h4]
        simp [e]
      · have e : spoilM m bad a = (spoilL bad a, 0) := by unfold spoilM; rw [if_neg (by simp [h0]), if_neg h4]
        have hR : Rt m (spoilL bad a) := ⟨h3.1, h3.2.1, spoil_bads h3.2.2 (by omega) (by omega) h0⟩
        simp [e, hR]
    · have e : spoilM m bad a = ([], 1) := by unfold spoilM; rw [if_pos h0]
      simp [e]
end Go.Proofs.Ytnhhimlienefkaa
end
