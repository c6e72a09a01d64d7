/- One device after the other, plain. -/
import Derived.Laws.BitsLemmas
import Derived.Test.YtfdndagnolbnhaaGreatYAbLim
import Derived.Test.YtfdndagnolbnhaaGreatYAb18y
import Derived.Test.YtfdndagnolbnhaaGreatYAbRd18y
import Derived.Test.YtfdndagnolbnhaaGreatYAbBus18y
section
set_option linter.unusedSimpArgs false
namespace Go.Ab
theorem zh {n : Int} (h1 : -9223372036854775808 ≤ n) (h2 : n ≤ 9223372036854775807) : IntKind.wrap .i64 n = n := by
  rw [IntKind.wrap_i64]; omega
theorem z1xd (a b : Int) : ((BitVec.ofInt 64 a &&& BitVec.ofInt 64 b).toNat : Int) = (((a % 18446744073709551616).toNat &&& (b % 18446744073709551616).toNat : Nat) : Int) := by
  rw [BitVec.toNat_and, BitVec.toNat_ofInt, BitVec.toNat_ofInt]
  rfl
theorem z1ds (j : Nat) (hj : j ≤ 62) (a : Int) : IntKind.wrap .i64 ((BitVec.ofInt 64 a &&& BitVec.ofInt 64 (2 ^ j - 1)).toNat : Int) = a % 2 ^ j := by
  have hp : (2 : Nat) ^ j ≤ 2 ^ 62 := Nat.pow_le_pow_right (by omega) hj
  have hc : ((2 : Int) ^ j) = ((2 ^ j : Nat) : Int) := by simp
  have h0 : 0 < (2 : Nat) ^ j := Nat.pow_pos (by omega)
  have hd : (2 : Nat) ^ j ∣ 18446744073709551616 := by
    have : (18446744073709551616 : Nat) = 2 ^ 64 := rfl
    rw [this]
    exact Nat.pow_dvd_pow 2 (by omega)
  rw [z1xd]
  have e1 : (((2 : Int) ^ j - 1) % 18446744073709551616).toNat = 2 ^ j - 1 := by
    rw [hc, Int.emod_eq_of_lt (by omega) (by omega)]
    omega
  rw [e1, Nat.and_two_pow_sub_one_eq_mod]
  have e2 : ((a % 18446744073709551616).toNat % 2 ^ j : Nat) = (a % 2 ^ j).toNat := by
    have hn : 0 ≤ a % 18446744073709551616 := Int.emod_nonneg _ (by omega)
    have : (((a % 18446744073709551616).toNat % 2 ^ j : Nat) : Int) = a % 2 ^ j := by
      rw [Int.natCast_emod, Int.toNat_of_nonneg hn, hc]
      exact Int.emod_emod_of_dvd a (Int.natCast_dvd_natCast.2 hd)
    omega
  rw [e2]
  have h1 : 0 ≤ a % 2 ^ j := Int.emod_nonneg _ (by rw [hc]; omega)
  have h2 : a % 2 ^ j < 2 ^ j := Int.emod_lt_of_pos _ (by rw [hc]; omega)
  rw [Int.toNat_of_nonneg h1]
  exact zh (by omega) (by rw [hc] at h2; omega)
theorem and255 (a : Int) : IntKind.wrap .i64 ((BitVec.ofInt 64 a &&& BitVec.ofInt 64 (255 : Int)).toNat : Int) = a % 256 := z1ds 8 (by omega) a
theorem zdh (a : Int) : IntKind.wrap .i64 ((BitVec.ofInt 64 a &&& BitVec.ofInt 64 (65535 : Int)).toNat : Int) = a % 65536 := z1ds 16 (by omega) a
theorem zn8 (j : Nat) (a b : Int) (h0 : 0 ≤ b) (hb : b < 2 ^ j) (ha0 : 0 ≤ a) (ha : a % 2 ^ j = 0) (hs : a + b ≤ 9223372036854775807) : IntKind.wrap .i64 ((BitVec.ofInt 64 a ||| BitVec.ofInt 64 b).toNat : Int) = a + b := by
  rw [BitVec.toNat_or, BitVec.toNat_ofInt, BitVec.toNat_ofInt]
  have e1 : (a % ((2 ^ 64 : Nat) : Int)).toNat = a.toNat := by rw [Int.emod_eq_of_lt ha0 (by omega)]
  have e2 : (b % ((2 ^ 64 : Nat) : Int)).toNat = b.toNat := by rw [Int.emod_eq_of_lt h0 (by omega)]
  rw [e1, e2]
  have hc : ((2 : Int) ^ j) = ((2 ^ j : Nat) : Int) := by simp
  have hm : a.toNat % 2 ^ j = 0 := by
    rw [hc] at ha
    have : ((a.toNat % 2 ^ j : Nat) : Int) = 0 := by rw [Int.natCast_emod, Int.toNat_of_nonneg ha0]; exact ha
    exact Int.ofNat.inj this
  obtain ⟨c, hc'⟩ := Nat.dvd_of_mod_eq_zero hm
  have hlt : b.toNat < 2 ^ j := by rw [hc] at hb; omega
  have : a.toNat ||| b.toNat = a.toNat + b.toNat := by
    rw [hc', Nat.two_pow_add_eq_or_of_lt hlt]
  rw [this]
  rw [zh (by omega) (by omega)]
  omega
theorem zn8' (j : Nat) (a b : Int) (h0 : 0 ≤ a) (ha : a < 2 ^ j) (hb0 : 0 ≤ b) (hb : b % 2 ^ j = 0) (hs : a + b ≤ 9223372036854775807) : IntKind.wrap .i64 ((BitVec.ofInt 64 a ||| BitVec.ofInt 64 b).toNat : Int) = a + b := by
  rw [BitVec.or_comm, zn8 j b a h0 ha hb0 hb (by omega)]
  omega
theorem z1ln {a : Int} (h : 0 ≤ a) (b : Int) : a.tdiv b = a / b := Int.tdiv_eq_ediv_of_nonneg h
theorem z21 {a : Int} (h : 0 ≤ a) (b : Int) : a.tmod b = a % b := Int.tmod_eq_emod_of_nonneg h
theorem zqs (a : Int) {b : Int} (h : 0 ≤ b) : a.fdiv b = a / b := Int.fdiv_eq_ediv_of_nonneg a h
theorem zr2 (a m : Int) (hm : 0 < m) : (a % m = a) ↔ (0 ≤ a ∧ a < m) := by
  constructor
  · intro h
    have h1 := Int.emod_nonneg a (show m ≠ 0 by omega)
    have h2 := Int.emod_lt_of_pos a hm
    omega
  · rintro ⟨h1, h2⟩
    exact Int.emod_eq_of_lt h1 h2
end Go.Ab
end
section
set_option linter.unusedSimpArgs false
namespace Go.Ab
theorem z1y6 (a j k : Nat) : a &&& ((2 ^ j - 1) * 2 ^ k) = (a / 2 ^ k % 2 ^ j) * 2 ^ k := by
  apply Nat.eq_of_testBit_eq
  intro i
  rw [Nat.testBit_and, Nat.testBit_mul_two_pow, Nat.testBit_mul_two_pow, Nat.testBit_mod_two_pow, Nat.testBit_div_two_pow, Nat.testBit_two_pow_sub_one]
  by_cases h : k ≤ i
  · simp [h]
    rw [Bool.and_comm]
  · simp [h]
theorem z1z3 (x y : BitVec 64) : x &&& ~~~y = x - (x &&& y) := by
  have h : (x &&& ~~~y) + (x &&& y) = x := by
    rw [BitVec.add_eq_or_of_and_eq_zero]
    · ext i hi
      simp
      cases x[i] <;> cases y[i] <;> rfl
    · ext i hi
      simp
      cases x[i] <;> cases y[i] <;> simp
  exact BitVec.eq_sub_iff_add_eq.2 h
theorem z1hk (a b : Int) (h0 : 0 ≤ a) (h1 : a ≤ 9223372036854775807) : IntKind.wrap .i64 ((BitVec.ofInt 64 a &&& ~~~BitVec.ofInt 64 b).toNat : Int) = a - IntKind.wrap .i64 ((BitVec.ofInt 64 a &&& BitVec.ofInt 64 b).toNat : Int) := by
  rw [z1z3]
  have hle : BitVec.ofInt 64 a &&& BitVec.ofInt 64 b ≤ BitVec.ofInt 64 a := by
    rw [BitVec.le_def, BitVec.toNat_and]
    exact Nat.and_le_left
  rw [BitVec.toNat_sub_of_le hle]
  have ha : (BitVec.ofInt 64 a).toNat = a.toNat := by
    rw [BitVec.toNat_ofInt, Int.emod_eq_of_lt h0 (by omega)]
  have hle' := BitVec.le_def.1 hle
  rw [ha] at hle' ⊢
  rw [zh (by omega) (by omega), zh (by omega) (by omega)]
  omega
theorem z1vb (j : Nat) (hj : j ≤ 62) (a : Int) (h0 : 0 ≤ a) (h1 : a ≤ 9223372036854775807) : IntKind.wrap .i64 ((BitVec.ofInt 64 a &&& ~~~BitVec.ofInt 64 (2 ^ j - 1)).toNat : Int) = a - a % 2 ^ j := by
  rw [z1hk a _ h0 h1, z1ds j hj]
theorem z1mc (a : Int) (h0 : 0 ≤ a) (h1 : a ≤ 9223372036854775807) : IntKind.wrap .i64 ((BitVec.ofInt 64 a &&& ~~~BitVec.ofInt 64 (255 : Int)).toNat : Int) = a - a % 256 := z1vb 8 (by omega) a h0 h1
theorem z22i (j k : Nat) (hj : j + k ≤ 62) (a : Int) (h0 : 0 ≤ a) (h1 : a ≤ 9223372036854775807) : IntKind.wrap .i64 ((BitVec.ofInt 64 a &&& BitVec.ofInt 64 ((2 ^ j - 1) * 2 ^ k)).toNat : Int) = a / 2 ^ k % 2 ^ j * 2 ^ k := by
  have hp : (2 : Nat) ^ (j + k) ≤ 2 ^ 62 := Nat.pow_le_pow_right (by omega) hj
  have hpos : 0 < (2 : Nat) ^ j := Nat.pow_pos (by omega)
  have hposk : 0 < (2 : Nat) ^ k := Nat.pow_pos (by omega)
  have hc : ((2 : Int) ^ j - 1) * 2 ^ k = (((2 ^ j - 1) * 2 ^ k : Nat) : Int) := by
    rw [Int.natCast_mul, Int.natCast_sub (by omega)]
    simp
  have hlt : (2 ^ j - 1) * 2 ^ k < 2 ^ 62 := by
    have : (2 ^ j - 1) * 2 ^ k < 2 ^ j * 2 ^ k := Nat.mul_lt_mul_of_pos_right (by omega) hposk
    rw [← Nat.pow_add] at this
    omega
  rw [z1xd, hc, Int.emod_eq_of_lt h0 (by omega), Int.emod_eq_of_lt (by omega) (by omega), Int.toNat_natCast, z1y6]
  have e : (((a.toNat / 2 ^ k % 2 ^ j * 2 ^ k : Nat)) : Int) = a / 2 ^ k % 2 ^ j * 2 ^ k := by
    rw [Int.natCast_mul, Int.natCast_emod, Int.natCast_ediv, Int.toNat_of_nonneg h0]
    simp
  rw [e]
  have hm := Int.emod_nonneg (a / 2 ^ k) (show (2 : Int) ^ j ≠ 0 by have := Int.natCast_pos.2 hpos; simp at this; omega)
  apply zh
  · rw [← e]; omega
  · rw [← e]
    have : a.toNat / 2 ^ k % 2 ^ j * 2 ^ k ≤ a.toNat / 2 ^ k * 2 ^ k := Nat.mul_le_mul_right _ (Nat.mod_le _ _)
    have h2 : a.toNat / 2 ^ k * 2 ^ k ≤ a.toNat := Nat.div_mul_le_self _ _
    omega
theorem z1qz (a : Int) (h0 : 0 ≤ a) (h1 : a ≤ 9223372036854775807) : IntKind.wrap .i64 ((BitVec.ofInt 64 a &&& BitVec.ofInt 64 (65280 : Int)).toNat : Int) = a / 256 % 256 * 256 := z22i 8 8 (by omega) a h0 h1
theorem z1db (a : Int) (h0 : 0 ≤ a) (h1 : a ≤ 9223372036854775807) : IntKind.wrap .i64 ((BitVec.ofInt 64 a &&& ~~~BitVec.ofInt 64 (65280 : Int)).toNat : Int) = a - a / 256 % 256 * 256 := by
  rw [z1hk a _ h0 h1, z1qz a h0 h1]
end Go.Ab
end
section
set_option linter.unusedSimpArgs false
namespace Go.Ab
variable {α β : Type}
theorem zn3 {f : α → Option (α ⊕ β)} (s : Nat → α) (n : Nat) (p : Nat → Prop) (bad : Nat → β) (e : β) (h : ∀ i, i < n → p i → f (s i) = some (.inl (s (i + 1)))) (hb : ∀ i, i < n → ¬ p i → f (s i) = some (.inr (bad i))) (he : f (s n) = some (.inr e)) :
    ((∀ i, i < n → p i) ∧ lim f (s 0) = some e) ∨ ∃ i, i < n ∧ (∀ j, j < i → p j) ∧ ¬ p i ∧ lim f (s 0) = some (bad i) := by
  have key : ∀ k, k ≤ n → ((∀ i, n - k ≤ i → i < n → p i) ∧ lim f (s (n - k)) = some e) ∨ ∃ i, n - k ≤ i ∧ i < n ∧ (∀ j, n - k ≤ j → j < i → p j) ∧ ¬ p i ∧ lim f (s (n - k)) = some (bad i) := by
    intro k
    induction k with
    | zero => intro _; exact .inl ⟨fun i h1 h2 => by omega, z2q he⟩
    | succ k ih =>
      intro hk
      by_cases hp : p (n - (k + 1))
      · have hn := zqy (h (n - (k + 1)) (by omega) hp)
        rw [show n - (k + 1) + 1 = n - k by omega] at hn
        have hj : ∀ j, n - (k + 1) ≤ j → ¬ n - k ≤ j → p j := fun j h1 h2 => by rw [show j = n - (k + 1) by omega]; exact hp
        rcases ih (by omega) with ⟨h1, h2⟩ | ⟨i, h0, h1, h2, h3, h4⟩
        · refine .inl ⟨fun i hi hlt => ?_, by rw [hn]; exact h2⟩
          by_cases h' : n - k ≤ i
          · exact h1 i h' hlt
          · exact hj i hi h'
        · refine .inr ⟨i, by omega, h1, fun j hj1 hj2 => ?_, h3, by rw [hn]; exact h4⟩
          by_cases h' : n - k ≤ j
          · exact h2 j h' hj2
          · exact hj j hj1 h'
      · exact .inr ⟨n - (k + 1), Nat.le_refl _, by omega, fun j h1 h2 => by omega, hp, z2q (hb _ (by omega) hp)⟩
  rcases key n (Nat.le_refl n) with ⟨h1, h2⟩ | ⟨i, h0, h1, h2, h3, h4⟩
  · rw [Nat.sub_self] at h2; exact .inl ⟨fun i hi => h1 i (by omega) hi, h2⟩
  · rw [Nat.sub_self] at h4; exact .inr ⟨i, h1, fun j hj => h2 j (by omega) hj, h3, h4⟩
theorem z3l {α : Type} {l : List α} {i : Nat} (hi : i < l.length) : l.take (i + 1) = l.take i ++ [l[i]] := by
  rw [List.take_add_one, List.getElem?_eq_getElem hi]; rfl
end Go.Ab
end
section
set_option linter.unusedSimpArgs false
set_option linter.unusedVariables false
namespace Go.Proofs.YtfdndagnolbnhaaGreat.C08
open Go Go.Ab
theorem zt {i n : Nat} (h : i < n) (hn : n ≤ 9223372036854775807) : IntKind.wrap .i64 ((i : Int) + 1) = ((i + 1 : Nat) : Int) := by rw [zh] <;> omega
theorem Same_def (a b : List Int) (hl : a.length ≤ 9223372036854775807) : zaj none a b = some (decide (a = b)) := by
  by_cases hab : a.length = b.length
  · have hs := z2r (f := fun s => (z7x s).run) (fun i : Nat => ⟨a, b, (i : Int)⟩) a.length (fun i => a[i]? = b[i]?) (fun i => .inl false) (.inr ())
      (fun i hi hp => by
        have hi' : i < b.length := by omega
        have hp' : a[i] = b[i] := by
          rw [List.getElem?_eq_getElem hi, List.getElem?_eq_getElem hi'] at hp
          exact Option.some.inj hp
        simp [z7x, Tree.run, hi, hi', zt hi hl, hp'])
      (fun i hi hp => by
        have hi' : i < b.length := by omega
        have hp' : ¬ a[i] = b[i] := by
          rw [List.getElem?_eq_getElem hi, List.getElem?_eq_getElem hi'] at hp
          exact fun h => hp (by rw [h])
        simp [z7x, Tree.run, hi, hi', hp'])
      (by simp [z7x, Tree.run])
    rcases hs with ⟨h1, h2⟩ | ⟨i, hi, h1, h2⟩
    · have h : zbz none ⟨a, b, (0 : Int)⟩ = some (.inr ()) := h2
      have he : a = b := List.ext_getElem? fun i => by
        by_cases hi : i < a.length
        · exact h1 i hi
        · rw [List.getElem?_eq_none (by omega), List.getElem?_eq_none (by omega)]
      simp [zaj, zcc, Tree.run, h, hab]
      exact he
    · have h : zbz none ⟨a, b, (0 : Int)⟩ = some (.inl false) := h2
      have he : ¬ a = b := fun he => h1 (by rw [he])
      simp [zaj, zcc, Tree.run, h, hab, he]
  · have he : ¬ a = b := fun h => hab (by rw [h])
    have hab' : ¬ (a.length : Int) = (b.length : Int) := by omega
    simp [zaj, zcc, Tree.run, hab', he]
def wordAt (m : List Int) (a : Int) : Int := m.getD (a / 2).toNat 0
def byteAt (m : List Int) (a : Int) : Int := if a % 2 = 0 then wordAt m a % 256 else wordAt m a / 256 % 256
theorem get_word {m : List Int} {a : Int} (h0 : 0 ≤ a) (h1 : a < 2 * (m.length : Int)) : m[(a / 2).toNat]? = some (wordAt m a) := by
  have : (a / 2).toNat < m.length := by omega
  simp [wordAt, this]
theorem wrap2 {m : List Int} (hm : m.length ≤ 100000) : IntKind.wrap .i64 (2 * (m.length : Int)) = 2 * (m.length : Int) := zh (by omega) (by omega)
theorem half {a : Int} (h0 : 0 ≤ a) (h1 : a ≤ 9223372036854775807) : IntKind.wrap .i64 (a.tdiv 2) = a / 2 := by rw [z1ln h0, zh (by omega) (by omega)]
def putB (w a b : Int) : Int := if a % 2 = 0 then w / 256 * 256 + b else w % 256 + b * 256
theorem zyj (w b : Int) (h0 : 0 ≤ w) (h1 : w ≤ 65535) (hb : 0 ≤ b ∧ b ≤ 255) : IntKind.wrap .i64 ((BitVec.ofInt 64 (IntKind.wrap .i64 ((BitVec.ofInt 64 w &&& ~~~BitVec.ofInt 64 (255 : Int)).toNat : Int)) ||| BitVec.ofInt 64 b).toNat : Int) = w / 256 * 256 + b := by
  rw [z1mc w h0 (by omega), zn8 8 _ _ hb.1 (by omega) (by omega) (by omega) (by omega)]
  omega
theorem zyi (w b : Int) (h0 : 0 ≤ w) (h1 : w ≤ 65535) (hb : 0 ≤ b ∧ b ≤ 255) : IntKind.wrap .i64 ((BitVec.ofInt 64 (IntKind.wrap .i64 ((BitVec.ofInt 64 w &&& ~~~BitVec.ofInt 64 (65280 : Int)).toNat : Int)) ||| BitVec.ofInt 64 (b * 256)).toNat : Int) = w % 256 + b * 256 := by
  rw [z1db w h0 (by omega), show w - w / 256 % 256 * 256 = w % 256 by omega, zn8' 8 _ _ (by omega) (by omega) (by omega) (by omega) (by omega)]
def setB (m : List Int) (a b : Int) : List Int := m.set (a / 2).toNat (putB (wordAt m a) a b)
def Words (m : List Int) : Prop := m.length ≤ 100000 ∧ ∀ w ∈ m, 0 ≤ w ∧ w ≤ 65535
theorem word_in {m : List Int} (hm : Words m) {a : Int} (h0 : 0 ≤ a) (h1 : a < 2 * (m.length : Int)) : 0 ≤ wordAt m a ∧ wordAt m a ≤ 65535 := hm.2 _ (List.mem_of_getElem? (get_word h0 h1))
theorem z10d (m : List Int) (hm : m.length ≤ 100000) : z81 m = some m := by
  simp [z81, z8h, Tree.run]
  omega
def Bads (n : Nat) (bad : List Int) : Prop := ∀ i, (h : i < bad.length) → 0 ≤ bad[i] ∧ bad[i] < 2 * (n : Int) ∧ bad[i] % 2 = 0 ∧ ∀ h' : 0 < i, bad[i - 1] < bad[i]
def Sized (n : Int) : Prop := 256 ≤ n ∧ n ≤ 32768 ∧ n % 64 = 0
instance (n) : Decidable (Sized n) := by unfold Sized; infer_instance
def Rt (m bad : List Int) : Prop := Sized (2 * (m.length : Int)) ∧ (∀ w ∈ m, 0 ≤ w ∧ w ≤ 65535) ∧ Bads m.length bad
theorem z1qv (n : Int) : zjl n = some (decide (Sized n)) := by
  simp only [zjl, zlv, Tree.run]
  by_cases h0 : 0 ≤ n
  · rw [z21 h0]
    simp only [decide_eq_true_eq, show ¬ (64 : Int) = 0 by omega, if_false]
    repeat' split
    all_goals (rw [Option.some.injEq]; first | (symm; rw [decide_eq_false_iff_not]; unfold Sized; omega) | (rw [decide_eq_decide]; unfold Sized; omega))
  · have : ¬ Sized n := fun h => h0 (by have := h.1; omega)
    simp [this]; omega
theorem z206 (n : Int) : zr3 n = some (decide (Sized n)) := z1qv n
theorem zv5 (m : List Int) : (∀ i, i < m.length → ∀ y, m[i]? = some y → 0 ≤ y ∧ y ≤ 65535) ↔ ∀ w ∈ m, 0 ≤ w ∧ w ≤ 65535 := by
  constructor
  · intro h w hw
    obtain ⟨i, hi, he⟩ := List.mem_iff_getElem.1 hw
    exact h i hi w (by rw [List.getElem?_eq_getElem hi, he])
  · intro h i hi y hy
    exact h y (List.mem_of_getElem? hy)
theorem z202 (m bad : List Int) (hm : m.length ≤ 100000) : zee none ⟨m, bad, (0 : Int)⟩ = some (if ∀ w ∈ m, 0 ≤ w ∧ w ≤ 65535 then .inr (m, bad) else .inl (m, bad, false)) := by
  have hs := z2r (f := fun s => (z5v s).run) (fun i : Nat => ⟨m, bad, (i : Int)⟩) m.length (fun i => ∀ y, m[i]? = some y → 0 ≤ y ∧ y ≤ 65535) (fun i => .inl (m, bad, false)) (.inr (m, bad))
    (fun i hi hp => by
      have hp' := hp m[i] (List.getElem?_eq_getElem hi)
      have h1 : ¬ m[i] < 0 := by omega
      have h2 : ¬ 65535 < m[i] := by omega
      simp [z5v, Tree.run, hi, zt hi (show m.length ≤ 9223372036854775807 by omega), h1, h2])
    (fun i hi hp => by
      have hp' : ¬ (0 ≤ m[i] ∧ m[i] ≤ 65535) := fun h => hp fun y hy => by
        rw [List.getElem?_eq_getElem hi] at hy
        rw [← Option.some.inj hy]; exact h
      by_cases h1 : m[i] < 0
      · simp [z5v, Tree.run, hi, h1]
      · have h2 : 65535 < m[i] := by omega
        simp [z5v, Tree.run, hi, h1, h2])
    (by simp [z5v, Tree.run])
  rcases hs with ⟨h1, h2⟩ | ⟨i, hi, h1, h2⟩
  · rw [if_pos ((zv5 m).1 h1)]; exact h2
  · rw [if_neg fun h => h1 ((zv5 m).2 h i hi)]; exact h2
theorem z1zp (m bad : List Int) (hm : m.length ≤ 100000) : zct none ⟨m, bad, m, (m.length : Int), (0 : Int)⟩ = some (if ∀ w ∈ m, 0 ≤ w ∧ w ≤ 65535 then .inr (m, bad) else .inl (m, bad, false)) := by
  have hs := z2r (f := fun s => (z6f s).run) (fun i : Nat => ⟨m, bad, m, (m.length : Int), (i : Int)⟩) m.length (fun i => ∀ y, m[i]? = some y → 0 ≤ y ∧ y ≤ 65535) (fun i => .inl (m, bad, false)) (.inr (m, bad))
    (fun i hi hp => by
      have hp' := hp m[i] (List.getElem?_eq_getElem hi)
      have h1 : m[i] % 65536 = m[i] := (zr2 _ _ (by omega)).2 ⟨hp'.1, by omega⟩
      simp only [z6f, Tree.run, zdh]
      simp [hi, zt hi (show m.length ≤ 9223372036854775807 by omega), h1])
    (fun i hi hp => by
      have hp' : ¬ m[i] % 65536 = m[i] := fun h => hp fun y hy => by
        rw [List.getElem?_eq_getElem hi] at hy
        rw [← Option.some.inj hy]
        have := (zr2 _ _ (by omega)).1 h
        omega
      simp only [z6f, Tree.run, zdh]
      simp [hi, hp'])
    (by simp [z6f, Tree.run])
  rcases hs with ⟨h1, h2⟩ | ⟨i, hi, h1, h2⟩
  · rw [if_pos ((zv5 m).1 h1)]; exact h2
  · rw [if_neg fun h => h1 ((zv5 m).2 h i hi)]; exact h2
def GoodAt (n : Nat) (bad : List Int) (i : Nat) : Prop := ∀ h : i < bad.length, 0 ≤ bad[i] ∧ bad[i] < 2 * (n : Int) ∧ bad[i] % 2 = 0 ∧ ∀ h' : 0 < i, bad[i - 1] < bad[i]
def lastOf (bad : List Int) (i : Nat) : Int := if i = 0 then -1 else bad.getD (i - 1) 0
def GoodAt' (n : Nat) (bad : List Int) (i : Nat) : Prop := ∀ h : i < bad.length, lastOf bad i < bad[i] ∧ bad[i].tmod 2 = 0 ∧ bad[i] < 2 * (n : Int)
theorem zqq (n : Nat) (bad : List Int) : (∀ i, i < bad.length → GoodAt n bad i) ↔ Bads n bad := ⟨fun h i hi => h i hi hi, fun h i _ hi => h i hi⟩
theorem zqq' (n : Nat) (bad : List Int) : (∀ i, i < bad.length → GoodAt' n bad i) ↔ Bads n bad := by
  constructor
  · intro h i
    induction i with
    | zero =>
      intro hi
      obtain ⟨h1, h2, h3⟩ := h 0 hi hi
      have h1' : -1 < bad[0] := h1
      rw [z21 (by omega)] at h2
      exact ⟨by omega, h3, h2, fun h' => absurd h' (by omega)⟩
    | succ i ih =>
      intro hi
      have hi' : i < bad.length := by omega
      obtain ⟨h1, h2, h3⟩ := h (i + 1) hi hi
      have hp := ih hi'
      have hl : lastOf bad (i + 1) = bad[i] := by simp [lastOf, hi']
      rw [hl] at h1
      rw [z21 (by omega)] at h2
      exact ⟨by omega, h3, h2, fun _ => h1⟩
  · intro h i hi _
    obtain ⟨h1, h2, h3, h4⟩ := h i hi
    refine ⟨?_, by rw [z21 h1]; exact h3, h2⟩
    by_cases h0 : i = 0
    · subst h0; simp [lastOf]; omega
    · have hlt : i - 1 < bad.length := by omega
      have := h4 (by omega)
      simp [lastOf, h0, hlt]; exact this
theorem z21d (m bad : List Int) (hm : m.length ≤ 100000) (hb : bad.length ≤ 100000) : ∃ r, zef none ⟨m, bad, (0 : Int)⟩ = some r ∧ (r = .inr () ∧ Bads m.length bad ∨ r = .inl false ∧ ¬ Bads m.length bad) := by
  have hs := z2r (f := fun s => (z3c s).run) (fun i : Nat => ⟨m, bad, (i : Int)⟩) bad.length (GoodAt m.length bad) (fun i => .inl false) (.inr ())
    (fun i hi hp => by
      obtain ⟨h1, h2, h3, h4⟩ := hp hi
      have h5 : ¬ bad[i] < 0 := by omega
      have h6 : ¬ 2 * (m.length : Int) ≤ bad[i] := by omega
      by_cases h0 : 0 < i
      · have h7 := h4 h0
        have h8 : ¬ bad[i] ≤ bad[i - 1] := by omega
        have h9 : IntKind.wrap .i64 ((i : Int) - 1) = ((i - 1 : Nat) : Int) := by rw [zh] <;> omega
        have h10 : i - 1 < bad.length := by omega
        simp [z3c, Tree.run, hi, zt hi (show bad.length ≤ 9223372036854775807 by omega), h5, wrap2 hm, h6, z21 h1, h3, h0, h9, h10, h8]
      · have h00 : i = 0 := by omega
        subst h00
        simp [z3c, Tree.run, hi, zh (n := 1) (by omega) (by omega), h5, wrap2 hm, h6, z21 h1, h3])
    (fun i hi hp => by
      by_cases h1 : bad[i] < 0
      · simp [z3c, Tree.run, hi, h1]
      by_cases h2 : 2 * (m.length : Int) ≤ bad[i]
      · simp [z3c, Tree.run, hi, h1, wrap2 hm, h2]
      by_cases h3 : bad[i] % 2 = 0
      · by_cases h0 : 0 < i
        · have h10 : i - 1 < bad.length := by omega
          have h9 : IntKind.wrap .i64 ((i : Int) - 1) = ((i - 1 : Nat) : Int) := by rw [zh] <;> omega
          by_cases h4 : bad[i] ≤ bad[i - 1]
          · simp [z3c, Tree.run, hi, h1, wrap2 hm, h2, z21 (show 0 ≤ bad[i] by omega), h3, h0, h9, h10, h4]
          · exact absurd (fun h => ⟨by omega, by omega, h3, fun _ => by omega⟩) hp
        · exact absurd (fun h => ⟨by omega, by omega, h3, fun h' => absurd h' h0⟩) hp
      · simp [z3c, Tree.run, hi, h1, wrap2 hm, h2, z21 (show 0 ≤ bad[i] by omega), h3])
    (by simp [z3c, Tree.run])
  rcases hs with ⟨h1, h2⟩ | ⟨i, hi, h1, h2⟩
  · exact ⟨_, h2, .inl ⟨rfl, (zqq _ _).1 h1⟩⟩
  · exact ⟨_, h2, .inr ⟨rfl, fun h => h1 ((zqq _ _).2 h i hi)⟩⟩
theorem z215 (m bad : List Int) (hm : m.length ≤ 100000) (hb : bad.length ≤ 100000) : ∃ r, zcu none ⟨m, (-1 : Int), bad, (bad.length : Int), (0 : Int)⟩ = some r ∧ (r = .inr () ∧ Bads m.length bad ∨ r = .inl false ∧ ¬ Bads m.length bad) := by
  have hs := z2r (f := fun s => (z45 s).run) (fun i : Nat => ⟨m, lastOf bad i, bad, (bad.length : Int), (i : Int)⟩) bad.length (GoodAt' m.length bad) (fun i => .inl false) (.inr ())
    (fun i hi hp => by
      obtain ⟨h1, h2, h3⟩ := hp hi
      have h4 : ¬ bad[i] ≤ lastOf bad i := by omega
      have h5 : ¬ 2 * (m.length : Int) ≤ bad[i] := by omega
      have h6 : lastOf bad (i + 1) = bad[i] := by simp [lastOf, hi]
      simp [z45, Tree.run, hi, zt hi (show bad.length ≤ 9223372036854775807 by omega), h4, wrap2 hm, h2, h5, h6])
    (fun i hi hp => by
      by_cases h1 : bad[i] ≤ lastOf bad i
      · simp [z45, Tree.run, hi, h1]
      by_cases h2 : bad[i].tmod 2 = 0
      · by_cases h3 : 2 * (m.length : Int) ≤ bad[i]
        · simp [z45, Tree.run, hi, h1, h2, wrap2 hm, h3]
        · exact absurd (fun h => ⟨by omega, h2, by omega⟩) hp
      · simp [z45, Tree.run, hi, h1, h2])
    (by simp [z45, Tree.run])
  rcases hs with ⟨h1, h2⟩ | ⟨i, hi, h1, h2⟩
  · exact ⟨_, h2, .inl ⟨rfl, (zqq' _ _).1 h1⟩⟩
  · exact ⟨_, h2, .inr ⟨rfl, fun h => h1 ((zqq' _ _).2 h i hi)⟩⟩
open Classical in
theorem ref_Right_def (m bad : List Int) (hm : m.length ≤ 100000) (hb : bad.length ≤ 100000) : zml none m bad = some (decide (Rt m bad)) := by
  obtain ⟨r, hr, hc⟩ := z21d m bad hm hb
  simp only [zml, zi9, Tree.run, wrap2 hm, z1qv, Option.bind_some, z202 m bad hm]
  by_cases h1 : Sized (2 * (m.length : Int))
  · by_cases h2 : ∀ w ∈ m, 0 ≤ w ∧ w ≤ 65535
    · rw [if_pos h2]
      rcases hc with ⟨e, h3⟩ | ⟨e, h3⟩
      · simp [h1, hr, e, Rt, h3]; exact h2
      · simp [h1, hr, e, Rt, h3]
    · rw [if_neg h2]
      have : ¬ Rt m bad := fun h => h2 h.2.1
      simp [h1, this]
  · have : ¬ Rt m bad := fun h => h1 h.1
    simp [h1, this]
open Classical in
theorem mem_Right_def (m bad : List Int) (hm : m.length ≤ 100000) (hb : bad.length ≤ 100000) : zjh none m bad = some (decide (Rt m bad)) := by
  obtain ⟨r, hr, hc⟩ := z215 m bad hm hb
  simp only [zjh, zg5, Tree.run, wrap2 hm, z206, Option.bind_some, z1zp m bad hm]
  by_cases h1 : Sized (2 * (m.length : Int))
  · by_cases h2 : ∀ w ∈ m, 0 ≤ w ∧ w ≤ 65535
    · rw [if_pos h2]
      rcases hc with ⟨e, h3⟩ | ⟨e, h3⟩
      · simp [h1, hr, e, Rt, h3]; exact h2
      · simp [h1, hr, e, Rt, h3]
    · rw [if_neg h2]
      have : ¬ Rt m bad := fun h => h2 h.2.1
      simp [h1, this]
  · have : ¬ Rt m bad := fun h => h1 h.1
    simp [h1, this]
def Wn (m : List Int) (a n : Int) : Prop := 0 ≤ a ∧ 0 ≤ n ∧ a ≤ 2 * (m.length : Int) ∧ n ≤ 2 * (m.length : Int) - a
instance (m a n) : Decidable (Wn m a n) := by unfold Wn; infer_instance
theorem zby (m : List Int) (a n : Int) (hm : m.length ≤ 100000) : z6m m a n = some (decide (Wn m a n)) := by
  simp only [z6m, zb7, Tree.run, wrap2 hm, decide_eq_true_eq]
  by_cases h0 : 0 ≤ a
  · by_cases h1 : 0 ≤ n
    · by_cases h2 : a ≤ 2 * (m.length : Int)
      · rw [if_pos h0, if_pos h1, if_pos h2, zh (by omega) (by omega), Option.some.injEq, decide_eq_decide]
        unfold Wn; omega
      · have : ¬ Wn m a n := fun h => h2 h.2.2.1
        simp [h0, h1, h2, this]
    · have : ¬ Wn m a n := fun h => h1 h.2.1
      simp [h0, h1, this]
  · have : ¬ Wn m a n := fun h => h0 h.1
    simp [h0, this]
theorem zk1 {a : Int} (h0 : 0 ≤ a) : IntKind.wrap .i64 (a.tmod 2 * 8) = if a % 2 = 0 then 0 else 8 := by
  rw [z21 h0, zh (by omega) (by omega)]
  split <;> omega
theorem z1fc (m : List Int) {a : Int} (h0 : 0 ≤ a) : IntKind.wrap .u8 ((wordAt m a).fdiv (2 ^ (min (IntKind.wrap .i64 (a.tmod 2 * 8)).toNat 64))) = byteAt m a := by
  rw [IntKind.wrap_u8, zk1 h0, byteAt]
  split
  · rw [show (2 : Int) ^ (min ((0 : Int)).toNat 64) = 1 by decide, zqs _ (by omega), Int.ediv_one]
  · rw [show (2 : Int) ^ (min ((8 : Int)).toNat 64) = 256 by decide, zqs _ (by omega)]
def bytesL (m : List Int) (a : Int) (n : Nat) : List Int := (List.range n).map fun i => byteAt m (a + (i : Nat))
theorem bytesL_succ (m : List Int) (a : Int) (n : Nat) : bytesL m a (n + 1) = bytesL m a n ++ [byteAt m (a + (n : Nat))] := by
  simp [bytesL, List.range_succ]
theorem bytesL_len (m : List Int) (a : Int) (n : Nat) : (bytesL m a n).length = n := by simp [bytesL]
def outB (m : List Int) (a : Int) (n : Nat) : List UInt8 := (bytesL m a n).map fun x => UInt8.ofNat x.toNat
theorem outB_len (m : List Int) (a : Int) (n : Nat) : (outB m a n).length = n := by simp [outB, bytesL]
def bytesM (m : List Int) (a n : Int) : List UInt8 × Int := if Wn m a n then (outB m a n.toNat, 0) else ([], 2)
theorem zzr (m : List Int) (a : Int) (n : Nat) (hm : m.length ≤ 100000) (h : Wn m a n) : z3v none ⟨m, a, (n : Int), (0 : Int), List.replicate n (0 : Int)⟩ = some (bytesL m a n) := by
  obtain ⟨h0, h1, h2, h3⟩ := h
  have hc := z4i (f := fun s => (z44 s).run) (fun i : Nat => ⟨m, a, (n : Int), (i : Int), bytesL m a i ++ List.replicate (n - i) (0 : Int)⟩) n (fun i hi => by
    have e1 : IntKind.wrap .i64 (a + (i : Int)) = a + (i : Int) := zh (by omega) (by omega)
    have h4 : 0 ≤ a + (i : Int) := by omega
    have h5 : 0 ≤ (a + (i : Int)) / 2 := by omega
    have h6 : 0 ≤ IntKind.wrap .i64 ((a + (i : Int)).tmod 2 * 8) := by rw [zk1 h4]; split <;> omega
    have h7 : (i : Int) < ((bytesL m a i ++ List.replicate (n - i) (0 : Int)).length : Int) := by
      simp [bytesL_len]; omega
    have h8 : (bytesL m a i ++ List.replicate (n - i) (0 : Int))[((i : Int)).toNat]? = some 0 := by
      rw [Int.toNat_natCast, List.getElem?_append_right (by rw [bytesL_len]; omega), bytesL_len, Nat.sub_self, List.getElem?_replicate]
      simp; omega
    have h8' : (bytesL m a i ++ List.replicate (n - i) (0 : Int))[i]? = some 0 := h8
    have h9 : (bytesL m a i ++ List.replicate (n - i) (0 : Int)).set i (byteAt m (a + (i : Int))) = bytesL m a (i + 1) ++ List.replicate (n - (i + 1)) (0 : Int) := by
      rw [List.set_append_right (h := by rw [bytesL_len]; omega), bytesL_len, Nat.sub_self, bytesL_succ, show n - i = (n - (i + 1)) + 1 by omega, List.replicate_succ]
      simp
    have hi' : (i : Int) < (n : Int) := by omega
    have h10 : (0 : Int) ≤ (i : Int) := by omega
    simp only [z44, Tree.run, e1, half h4 (by omega), get_word h4 (show a + (i : Int) < 2 * (m.length : Int) by omega), z1fc m h4, zt hi (show n ≤ 9223372036854775807 by omega), hi', h10, h5, h6, h7, h8, decide_true, if_true, show ¬ (2 : Int) = 0 by omega, decide_false, Bool.false_eq_true, if_false, Option.bind_some, Int.toNat_natCast, h8', h9]) 0 (Nat.zero_le _)
  have hd : z3v none ⟨m, a, (n : Int), ((n : Nat) : Int), bytesL m a n ++ List.replicate (n - n) (0 : Int)⟩ = some (bytesL m a n ++ List.replicate (n - n) (0 : Int)) := z2q (by simp [z44, Tree.run])
  have he : z3v none ⟨m, a, (n : Int), (0 : Int), bytesL m a 0 ++ List.replicate (n - 0) (0 : Int)⟩ = some (bytesL m a n ++ List.replicate (n - n) (0 : Int)) := hc.trans hd
  simpa [bytesL] using he
theorem Bytes_def (m : List Int) (a n : Int) (hm : m.length ≤ 100000) : z8v none m a n = some (bytesM m a n) := by
  simp only [z8v, zc4, Tree.run, zby m a n hm, Option.bind_some, bytesM]
  by_cases h : Wn m a n
  · obtain ⟨h0, h1, h2, h3⟩ := id h
    have hl := zzr m a n.toNat hm (by rw [Int.toNat_of_nonneg h1]; exact h)
    have h4 : (1 : Int) * n ≤ 281474976710656 := by omega
    simp only [h, decide_true, Bool.not_true, Bool.false_eq_true, if_false, if_true, h1, h4, List.length_replicate, hl, Option.bind_some, outB]
  · simp [h]
def storeL : List Int → Int → List UInt8 → List Int
  | m, _, [] => m
  | m, a, c :: s => storeL (setB m a (c.toNat : Int)) (a + 1) s
theorem storeL_more (m : List Int) (a : Int) (s : List UInt8) (c : UInt8) : storeL m a (s ++ [c]) = setB (storeL m a s) (a + (s.length : Int)) (c.toNat : Int) := by
  induction s generalizing m a with
  | nil => simp [storeL]
  | cons d s ih =>
    simp only [List.cons_append, storeL, ih, List.length_cons]
    congr 1
    omega
theorem zgz (m : List Int) (a b : Int) : (setB m a b).length = m.length := by simp [setB]
theorem storeL_len (m : List Int) (a : Int) (s : List UInt8) : (storeL m a s).length = m.length := by
  induction s generalizing m a with
  | nil => rfl
  | cons d s ih => rw [storeL, ih, zgz]
theorem z119 {m : List Int} {a b : Int} (hm : Words m) (h0 : 0 ≤ a) (h1 : a < 2 * (m.length : Int)) (hb : 0 ≤ b ∧ b ≤ 255) : Words (setB m a b) := by
  refine ⟨by rw [zgz]; exact hm.1, fun w hw => ?_⟩
  rcases List.mem_or_eq_of_mem_set hw with h | h
  · exact hm.2 w h
  · have := word_in hm h0 h1
    rw [h]; unfold putB; split <;> omega
theorem byte_lt (c : UInt8) : 0 ≤ (c.toNat : Int) ∧ (c.toNat : Int) ≤ 255 := by have := c.toNat_lt; omega
theorem storeL_words {m : List Int} {a : Int} {s : List UInt8} (hm : Words m) (h0 : 0 ≤ a) (h1 : a + (s.length : Int) ≤ 2 * (m.length : Int)) : Words (storeL m a s) := by
  induction s generalizing m a with
  | nil => exact hm
  | cons d s ih =>
    simp only [List.length_cons] at h1
    exact ih (z119 hm h0 (by omega) (byte_lt d)) (by omega) (by rw [zgz]; omega)
def storeM (m : List Int) (a : Int) (s : List UInt8) : List Int × Int := if Wn m a (s.length : Int) then (storeL m a s, 0) else ([], 2)
theorem z1je (c : UInt8) : IntKind.wrap .i64 (c.toNat : Int) = (c.toNat : Int) := by have := c.toNat_lt; exact zh (by omega) (by omega)
theorem put_eq (b : List Int) (a : Int) (c : UInt8) (hw : Words b) (h0 : 0 ≤ a) (h1 : a < 2 * (b.length : Int)) : IntKind.wrap .i64 ((BitVec.ofInt 64 (IntKind.wrap .i64 ((BitVec.ofInt 64 (wordAt b a) &&& ~~~BitVec.ofInt 64 (IntKind.wrap .i64 ((255 : Int) * 2 ^ (min (IntKind.wrap .i64 (a.tmod 2 * 8)).toNat 64)))).toNat : Int)) ||| BitVec.ofInt 64 (IntKind.wrap .i64 ((IntKind.wrap .i64 (c.toNat : Int)) * 2 ^ (min (IntKind.wrap .i64 (a.tmod 2 * 8)).toNat 64)))).toNat : Int) = putB (wordAt b a) a (c.toNat : Int) := by
  have hb := byte_lt c
  have hi := word_in hw h0 h1
  rw [zk1 h0, z1je]
  unfold putB
  split
  · rw [show (2 : Int) ^ (min ((0 : Int)).toNat 64) = 1 by decide, Int.mul_one, Int.mul_one, zh (n := 255) (by omega) (by omega), zh (n := (c.toNat : Int)) (by omega) (by omega), zyj _ _ hi.1 hi.2 hb]
  · rw [show (2 : Int) ^ (min ((8 : Int)).toNat 64) = 256 by decide, zh (n := 255 * 256) (by omega) (by omega), zh (n := (c.toNat : Int) * 256) (by omega) (by omega), show (255 : Int) * 256 = 65280 by omega, zyi _ _ hi.1 hi.2 hb]
theorem zzv (m : List Int) (a : Int) (s : List UInt8) (hm : Words m) (h : Wn m a (s.length : Int)) : z3w none ⟨a, s, (s.length : Int), (0 : Int), m⟩ = some (storeL m a s) := by
  obtain ⟨h0, h1, h2, h3⟩ := h
  have hl := hm.1
  have hc := z4i (f := fun s => (z46 s).run) (fun i : Nat => ⟨a, s, (s.length : Int), (i : Int), storeL m a (s.take i)⟩) s.length (fun i hi => by
    have e1 : IntKind.wrap .i64 (a + (i : Int)) = a + (i : Int) := zh (by omega) (by omega)
    have h4 : 0 ≤ a + (i : Int) := by omega
    have h5 : 0 ≤ (a + (i : Int)) / 2 := by omega
    have h6 : 0 ≤ IntKind.wrap .i64 ((a + (i : Int)).tmod 2 * 8) := by rw [zk1 h4]; split <;> omega
    have hlen : (storeL m a (s.take i)).length = m.length := storeL_len _ _ _
    have hlt : (s.take i).length = i := by rw [List.length_take]; omega
    have hw : Words (storeL m a (s.take i)) := storeL_words hm h0 (by rw [hlt]; omega)
    have h7 : (a + (i : Int)) / 2 < ((storeL m a (s.take i)).length : Int) := by rw [hlen]; omega
    have h8 : a + (i : Int) < 2 * ((storeL m a (s.take i)).length : Int) := by rw [hlen]; omega
    have hi' : (i : Int) < (s.length : Int) := by omega
    have h10 : (0 : Int) ≤ (i : Int) := by omega
    have h9 : storeL m a (s.take (i + 1)) = (storeL m a (s.take i)).set ((a + (i : Int)) / 2).toNat (putB (wordAt (storeL m a (s.take i)) (a + (i : Int))) (a + (i : Int)) (s[i].toNat : Int)) := by
      rw [z3l hi, storeL_more, hlt]; rfl
    simp only [z46, Tree.run, e1, half h4 (by omega), get_word h4 h8, zt hi (show s.length ≤ 9223372036854775807 by omega), hi', h10, h5, h6, h7, decide_true, if_true, show ¬ (2 : Int) = 0 by omega, decide_false, Bool.false_eq_true, if_false, Option.bind_some, Int.toNat_natCast, List.getElem?_eq_getElem hi, put_eq _ _ _ hw h4 h8, h9]) 0 (Nat.zero_le _)
  have hd : z3w none ⟨a, s, (s.length : Int), ((s.length : Nat) : Int), storeL m a (s.take s.length)⟩ = some (storeL m a (s.take s.length)) := z2q (by simp [z46, Tree.run])
  have he : z3w none ⟨a, s, (s.length : Int), (0 : Int), storeL m a (s.take 0)⟩ = some (storeL m a (s.take s.length)) := hc.trans hd
  simpa [storeL] using he
theorem Store_def (m : List Int) (a : Int) (s : List UInt8) (hm : Words m) : z7p none m a s = some (storeM m a s) := by
  simp only [z7p, zc5, Tree.run, zby m a _ hm.1, z10d m hm.1, Option.bind_some, storeM]
  by_cases h : Wn m a (s.length : Int)
  · simp only [h, decide_true, Bool.not_true, Bool.false_eq_true, if_false, if_true, zzv m a s hm h, Option.bind_some]
  · simp [h]
end Go.Proofs.YtfdndagnolbnhaaGreat.C08
end
section
set_option linter.unusedSimpArgs false
set_option linter.unusedVariables false
namespace Go.Proofs.YtfdndagnolbnhaaGreat.C09
open Go Go.Ab
theorem z1dz (x m : Int) : zbv x m = some (decide (0 ≤ x ∧ x ≤ m)) := by
  simp only [zbv, zt7, Tree.run]
  by_cases h : 0 ≤ x <;> simp [h]
def OkPage (p : Page) : Prop := (0 ≤ p.base ∧ p.base ≤ 4095) ∧ (0 ≤ p.length ∧ p.length ≤ 128) ∧ (0 ≤ p.access ∧ p.access ≤ 2)
instance (p : Page) : Decidable (OkPage p) := by unfold OkPage; infer_instance
def Rt (u : Mmu) : Prop := (∀ p ∈ u.pages, OkPage p) ∧ (0 ≤ u.status ∧ u.status ≤ 3) ∧ (0 ≤ u.addr ∧ u.addr ≤ 65535)
instance (u : Mmu) : Decidable (Rt u) := by unfold Rt; infer_instance
theorem zt9 {l : List Page} (h : l.length = 16) {Q : Page → Prop} : (∀ p ∈ l, Q p) ↔ ∀ m, m < 2 → ∀ j, j < 8 → ∀ p, l[m * 8 + j]? = some p → Q p := by
  constructor
  · intro hp m hm j hj p hq
    exact hp p (List.mem_of_getElem? hq)
  · intro hp p hq
    obtain ⟨i, hi, rfl⟩ := List.mem_iff_getElem.1 hq
    exact hp (i / 8) (by omega) (i % 8) (by omega) _ (by rw [show i / 8 * 8 + i % 8 = i by omega]; exact List.getElem?_eq_getElem hi)
theorem ref_Right_def (u : Mmu) (h : u.pages.length = 16) : zfp none u = some (decide (Rt u)) := by
  -- the pages of a mode
  have inner : ∀ m : Nat, m < 2 → ((∀ j, j < 8 → ∀ p, u.pages[m * 8 + j]? = some p → OkPage p) ∧ zax none ⟨(m : Int), 0, u⟩ = some (.inr ((m : Int), u))) ∨ ∃ j, j < 8 ∧ (¬ ∀ p, u.pages[m * 8 + j]? = some p → OkPage p) ∧ zax none ⟨(m : Int), 0, u⟩ = some (.inl (false, (m : Int), u)) := by
    intro m hm
    refine z2r (f := fun s => (z78 s).run) (fun j : Nat => ⟨(m : Int), (j : Int), u⟩) 8 (fun j => ∀ p, u.pages[m * 8 + j]? = some p → OkPage p) (fun _ => .inl (false, (m : Int), u)) (.inr ((m : Int), u)) (fun j hj hp => ?_) (fun j hj hp => ?_) ?_
    · have hlt : m * 8 + j < u.pages.length := by omega
      have hg := List.getElem?_eq_getElem hlt
      obtain ⟨h1, h2, h3⟩ := hp _ hg
      have hw : IntKind.wrap .i64 ((j : Int) + 1) = ((j + 1 : Nat) : Int) := by rw [zh] <;> omega
      simp only [z78, Tree.run, decide_eq_true_eq, Int.toNat_natCast, Nat.mul_one, hg, Option.bind_some]
      rw [if_pos (by omega), if_pos (by omega), if_pos (by omega), if_pos (by omega), if_pos (by omega), if_neg (by omega), if_neg (by omega), if_neg (by omega), if_neg (by omega), if_neg (by omega), if_neg (by omega), hw]
    · have hlt : m * 8 + j < u.pages.length := by omega
      have hg := List.getElem?_eq_getElem hlt
      have hp : ¬ OkPage u.pages[m * 8 + j] := fun hk => hp fun p hq => by rw [hg] at hq; injection hq with hq; rw [← hq]; exact hk
      simp only [z78, Tree.run, decide_eq_true_eq, Int.toNat_natCast, Nat.mul_one, hg, Option.bind_some]
      rw [if_pos (by omega), if_pos (by omega), if_pos (by omega), if_pos (by omega), if_pos (by omega)]
      unfold OkPage at hp
      repeat' split
      all_goals first | rfl | (exfalso; omega)
    · simp [z78, Tree.run]
  have outer := z2r (f := fun s => (z77 none s).run) (fun m : Nat => ⟨(m : Int), u⟩) 2 (fun m => ∀ j, j < 8 → ∀ p, u.pages[m * 8 + j]? = some p → OkPage p) (fun _ => .inl (false, u)) (.inr u) (fun m hm hp => by
      have hw : IntKind.wrap .i64 ((m : Int) + 1) = ((m + 1 : Nat) : Int) := by rw [zh] <;> omega
      rcases inner m hm with ⟨_, e⟩ | ⟨j, hj, hn, _⟩
      · simp only [z77, Tree.run, decide_eq_true_eq, e, Option.bind_some]
        rw [if_pos (by omega)]
        simp [hw]
      · exact absurd (hp j hj) hn) (fun m hm hp => by
      rcases inner m hm with ⟨h1, _⟩ | ⟨j, hj, _, e⟩
      · exact absurd h1 hp
      · simp only [z77, Tree.run, decide_eq_true_eq, e, Option.bind_some]
        rw [if_pos (by omega)]
        simp) (by simp [z77, Tree.run])
  rw [show ((0 : Nat) : Int) = 0 from rfl] at outer
  rcases outer with ⟨hall, e⟩ | ⟨m, hm, hn, e⟩
  · have e : zaw none ⟨0, u⟩ = some (.inr u) := e
    have hp := (zt9 h).2 hall
    simp only [zfp, zdf, Tree.run, e, Option.bind_some, decide_eq_true_eq, Sum.isLeft_inr, Sum.getRight?_inr, Bool.false_eq_true, if_false]
    unfold Rt
    simp only [eq_true hp, true_and]
    repeat' split
    all_goals (rw [Option.some.injEq, Bool.eq_iff_iff]; simp; try omega)
  · have e : zaw none ⟨0, u⟩ = some (.inl (false, u)) := e
    have hp : ¬ Rt u := fun hr => hn ((zt9 h).1 hr.1 m hm)
    simp [zfp, zdf, Tree.run, e, hp]
theorem mmu_Right_def (u : Mmu) (h : u.pages.length = 16) : zn5 none u = some (decide (Rt u)) := by
  have inner : ∀ m : Nat, m < 2 → ((∀ j, j < 8 → ∀ p, u.pages[m * 8 + j]? = some p → OkPage p) ∧ zd6 none ⟨u.pages, (m : Int), (u.pages.drop (m * 8)).take 8, 0, u⟩ = some (.inr (u.pages, (m : Int), u))) ∨ ∃ j, j < 8 ∧ (¬ ∀ p, u.pages[m * 8 + j]? = some p → OkPage p) ∧ zd6 none ⟨u.pages, (m : Int), (u.pages.drop (m * 8)).take 8, 0, u⟩ = some (.inl (false, u.pages, (m : Int), u)) := by
    intro m hm
    have hget : ∀ j, j < 8 → ((u.pages.drop (m * 8)).take 8)[j]? = u.pages[m * 8 + j]? := by
      intro j hj
      rw [List.getElem?_take, if_pos hj, List.getElem?_drop]
    refine z2r (f := fun s => (z8s s).run) (fun j : Nat => ⟨u.pages, (m : Int), (u.pages.drop (m * 8)).take 8, (j : Int), u⟩) 8 (fun j => ∀ p, u.pages[m * 8 + j]? = some p → OkPage p) (fun _ => .inl (false, u.pages, (m : Int), u)) (.inr (u.pages, (m : Int), u)) (fun j hj hp => ?_) (fun j hj hp => ?_) ?_
    · have hlt : m * 8 + j < u.pages.length := by omega
      have hg := List.getElem?_eq_getElem hlt
      obtain ⟨h1, h2, h3⟩ := hp _ hg
      have hw : IntKind.wrap .i64 ((j : Int) + 1) = ((j + 1 : Nat) : Int) := by rw [zh] <;> omega
      simp only [z8s, Tree.run, decide_eq_true_eq, Int.toNat_natCast, hget j hj, hg, Option.bind_some, z1dz]
      rw [if_pos (by omega), if_pos (by omega), if_pos (by omega)]
      simp [h1, h2, h3, hw]
    · have hlt : m * 8 + j < u.pages.length := by omega
      have hg := List.getElem?_eq_getElem hlt
      have hp : ¬ OkPage u.pages[m * 8 + j] := fun hk => hp fun p hq => by rw [hg] at hq; injection hq with hq; rw [← hq]; exact hk
      simp only [z8s, Tree.run, decide_eq_true_eq, Int.toNat_natCast, hget j hj, hg, Option.bind_some, z1dz]
      rw [if_pos (by omega), if_pos (by omega), if_pos (by omega)]
      unfold OkPage at hp
      simp only [Bool.not_eq_true', decide_eq_false_iff_not]
      repeat' split
      all_goals first | rfl | (exfalso; simp_all)
    · simp [z8s, Tree.run]
  have outer := z2r (f := fun s => (z8r none s).run) (fun m : Nat => ⟨u.pages, (m : Int), u⟩) 2 (fun m => ∀ j, j < 8 → ∀ p, u.pages[m * 8 + j]? = some p → OkPage p) (fun _ => .inl (false, u)) (.inr u) (fun m hm hp => by
      have hw : IntKind.wrap .i64 ((m : Int) + 1) = ((m + 1 : Nat) : Int) := by rw [zh] <;> omega
      rcases inner m hm with ⟨_, e⟩ | ⟨j, hj, hn, _⟩
      · simp only [z8r, Tree.run, decide_eq_true_eq, Int.toNat_natCast, e, Option.bind_some]
        rw [if_pos (by omega), if_pos (by omega), if_pos (by omega), if_pos (by omega)]
        simp [hw]
      · exact absurd (hp j hj) hn) (fun m hm hp => by
      rcases inner m hm with ⟨h1, _⟩ | ⟨j, hj, _, e⟩
      · exact absurd h1 hp
      · simp only [z8r, Tree.run, decide_eq_true_eq, Int.toNat_natCast, e, Option.bind_some]
        rw [if_pos (by omega), if_pos (by omega), if_pos (by omega), if_pos (by omega)]
        simp) (by simp [z8r, Tree.run])
  rcases outer with ⟨hall, e⟩ | ⟨m, hm, hn, e⟩
  · have e : zd5 none ⟨u.pages, 0, u⟩ = some (.inr u) := e
    have hp := (zt9 h).2 hall
    simp only [zn5, zi6, Tree.run, e, Option.bind_some, decide_eq_true_eq, Sum.isLeft_inr, Sum.getRight?_inr, Bool.false_eq_true, if_false, z1dz]
    unfold Rt
    simp only [eq_true hp, true_and]
    repeat' split
    all_goals (rw [Option.some.injEq, Bool.eq_iff_iff]; simp_all; try omega)
  · have e : zd5 none ⟨u.pages, 0, u⟩ = some (.inl (false, u)) := e
    have hp : ¬ Rt u := fun hr => hn ((zt9 h).1 hr.1 m hm)
    simp [zn5, zi6, Tree.run, e, hp]
end Go.Proofs.YtfdndagnolbnhaaGreat.C09
end
section
set_option linter.unusedSimpArgs false
set_option linter.unusedVariables false
namespace Go.Proofs.YtfdndagnolbnhaaGreat.C13
open Go Go.Ab
theorem F7_def (c : Clock) : zce c = some (decide (1 ≤ c.period) && decide (c.period ≤ 65535) && decide (1 ≤ c.left) && decide (c.left ≤ c.period)) := by
  simp only [zce, zic, Tree.run]
  by_cases h1 : 1 ≤ c.period <;> by_cases h2 : c.period ≤ 65535 <;> by_cases h3 : 1 ≤ c.left <;> simp [h1, h2, h3]
theorem F20_F7 (c : Clock) : zw7 c = zce c := rfl
end Go.Proofs.YtfdndagnolbnhaaGreat.C13
end
section
set_option linter.unusedSimpArgs false
set_option linter.unusedVariables false
namespace Go.Proofs.YtfdndagnolbnhaaGreat.C14
open Go Go.Ab
def Rt (l : Line) : Prop := (0 ≤ l.rxData ∧ l.rxData ≤ 255) ∧ (0 ≤ l.txData ∧ l.txData ≤ 255) ∧ (0 ≤ l.txLeft ∧ l.txLeft ≤ 4) ∧ (l.txReady = true ↔ l.txLeft = 0) ∧ l.out.length ≤ 4096
instance (l : Line) : Decidable (Rt l) := by unfold Rt; infer_instance
theorem z1y0 (x : Int) : zfn x = some (decide (0 ≤ x ∧ x ≤ 255)) := by
  simp only [zfn, zi5, Tree.run, and255, zr2 x 256 (by omega)]
  rw [Option.some.injEq, Bool.eq_iff_iff]
  simp
  omega
theorem ref14_Right_def (l : Line) : zmm l = some (decide (Rt l)) := by
  obtain ⟨a, b, c, rx, e, tr, tx, tl, out⟩ := l
  simp only [zmm, zid, Tree.run, Rt, decide_eq_true_eq]
  cases tr
  all_goals repeat' split
  all_goals (rw [Option.some.injEq, Bool.eq_iff_iff]; simp; try omega)
theorem line_Right_def (l : Line) : zpd l = some (decide (Rt l)) := by
  obtain ⟨a, b, c, rx, e, tr, tx, tl, out⟩ := l
  simp only [zpd, zlt, Tree.run, Rt, decide_eq_true_eq, z1y0, Option.bind_some]
  cases tr
  all_goals repeat' split
  all_goals (rw [Option.some.injEq, Bool.eq_iff_iff]; simp_all; try omega)
def sent (l : Line) : List UInt8 := let o := l.out ++ [UInt8.ofNat (l.txData % 256).toNat]; o.drop (o.length - 4096)
def ticked (l : Line) : Line := if l.txLeft = 0 then l else if l.txLeft = 1 then { l with txLeft := 0, txReady := true, out := sent l } else { l with txLeft := l.txLeft - 1 }
theorem Tick_def (l : Line) (h : Rt l) : zto l = some (ticked l) := by
  obtain ⟨h1, h2, h3, h4, h5⟩ := h
  have hw : IntKind.wrap .i64 (l.txLeft - 1) = l.txLeft - 1 := zh (by omega) (by omega)
  have hb : IntKind.wrap .u8 l.txData = l.txData % 256 := IntKind.wrap_u8 _
  simp only [zto, zp3, Tree.run, hw, hb, ticked, decide_eq_true_eq]
  by_cases hz : l.txLeft = 0
  · simp [hz]
  · by_cases h1' : l.txLeft = 1
    · have hl : (l.out ++ [UInt8.ofNat (l.txData % 256).toNat]).length = l.out.length + 1 := by simp
      have hw2 : IntKind.wrap .i64 (((l.out.length + 1 : Nat) : Int) - 4096) = ((l.out.length + 1 : Nat) : Int) - 4096 := zh (by omega) (by omega)
      simp only [h1', List.map_cons, List.map_nil, hl, List.length_cons, List.length_nil, hw2]
      generalize hm : (if (((l.out.length + 1 : Nat) : Int) - 4096) > 0 then (((l.out.length + 1 : Nat) : Int) - 4096) else (0 : Int)) = m
      have hm' : 0 ≤ m ∧ m ≤ ((l.out.length + 1 : Nat) : Int) ∧ m.toNat = l.out.length + 1 - 4096 := by rw [← hm]; split <;> omega
      rw [if_neg (show ¬ (1 : Int) = 0 by omega), if_pos (show (1 : Int) - 1 = 0 by omega), if_pos (by omega), if_pos hm'.1, if_pos hm'.2.1, if_neg (show ¬ (1 : Int) = 0 by omega), if_pos trivial]
      simp only [sent, hl, hm'.2.2]
      rw [List.take_of_length_le (by rw [List.length_drop, hl]; omega)]
      rfl
    · have : ¬ l.txLeft - 1 = 0 := by omega
      simp [hz, h1', this]
theorem Tick_ref (l : Line) (h : Rt l) : zph l = some (ticked l) := by
  obtain ⟨h1, h2, h3, h4, h5⟩ := h
  have hw : IntKind.wrap .i64 (l.txLeft - 1) = l.txLeft - 1 := zh (by omega) (by omega)
  have hb : IntKind.wrap .u8 l.txData = l.txData % 256 := IntKind.wrap_u8 _
  simp only [zph, zlw, Tree.run, hw, hb, ticked, decide_eq_true_eq]
  by_cases hz : l.txLeft = 0
  · rw [if_pos (by omega), if_pos hz]
  · rw [if_neg (by omega), if_neg hz]
    by_cases h1' : l.txLeft = 1
    · have hl : (l.out ++ [UInt8.ofNat (l.txData % 256).toNat]).length = l.out.length + 1 := by simp
      rw [if_neg (by omega), if_pos h1']
      simp only [h1', List.map_cons, List.map_nil, hl, List.length_cons, List.length_nil]
      rw [if_pos (by omega)]
      by_cases h6 : (4096 : Int) < ((l.out.length + 1 : Nat) : Int)
      · have hw2 : IntKind.wrap .i64 (((l.out.length + 1 : Nat) : Int) - 4096) = ((l.out.length + 1 : Nat) : Int) - 4096 := zh (by omega) (by omega)
        rw [if_pos h6, hw2, if_pos (by omega), if_pos (by omega)]
        simp only [sent, hl, Option.some.injEq]
        rw [show (((l.out.length + 1 : Nat) : Int) - 4096).toNat = l.out.length + 1 - 4096 by omega, List.take_of_length_le (by rw [List.length_drop, hl]; omega)]
        rfl
      · rw [if_neg h6]
        simp only [sent, hl, Option.some.injEq]
        rw [show l.out.length + 1 - 4096 = 0 by omega, List.drop_zero]
        rfl
    · rw [if_pos (by omega), if_neg h1']
theorem z21e (l : Line) (h : l.out.length ≤ 4096) : l.out.length ≤ (sent l).length ∧ (sent l).length ≤ 4096 := by
  simp only [sent, List.length_drop, List.length_append, List.length_cons, List.length_nil]
  omega
theorem ticked_right (l : Line) (h : Rt l) : Rt (ticked l) ∧ l.out.length ≤ (ticked l).out.length := by
  have hs := z21e l h.2.2.2.2
  obtain ⟨h1, h2, h3, h4, h5⟩ := h
  unfold ticked
  split
  · exact ⟨⟨h1, h2, h3, h4, h5⟩, Nat.le_refl _⟩
  · split
    · obtain ⟨hs1, hs2⟩ := hs
      generalize sent l = o at hs1 hs2
      refine ⟨⟨h1, h2, ?_, ?_, hs2⟩, hs1⟩
      · show (0 : Int) ≤ 0 ∧ (0 : Int) ≤ 4
        omega
      · show true = true ↔ (0 : Int) = 0
        simp
    · rename_i a b
      refine ⟨⟨h1, h2, ⟨by simp; omega, by simp; omega⟩, ?_, h5⟩, Nat.le_refl _⟩
      simp only
      constructor
      · intro h; have := h4.1 h; omega
      · intro h; omega
end Go.Proofs.YtfdndagnolbnhaaGreat.C14
end
section
set_option linter.unusedSimpArgs false
set_option linter.unusedVariables false
namespace Go.Proofs.YtfdndagnolbnhaaGreat.C16
open Go Go.Ab
theorem zt {i n : Nat} (h : i < n) (hn : n ≤ 9223372036854775807) : IntKind.wrap .i64 ((i : Int) + 1) = ((i + 1 : Nat) : Int) := by rw [zh] <;> omega
def BadsD (n : Nat) (bad : List Int) : Prop := ∀ i, (h : i < bad.length) → 0 ≤ bad[i] ∧ bad[i] < (n : Int) ∧ ∀ h' : 0 < i, bad[i - 1] < bad[i]
def GoodD (n : Nat) (bad : List Int) (i : Nat) : Prop := ∀ h : i < bad.length, 0 ≤ bad[i] ∧ bad[i] < (n : Int) ∧ ∀ h' : 0 < i, bad[i - 1] < bad[i]
def lastD (bad : List Int) (i : Nat) : Int := if i = 0 then -1 else bad.getD (i - 1) 0
def GoodD' (n : Nat) (bad : List Int) (i : Nat) : Prop := ∀ h : i < bad.length, lastD bad i < bad[i] ∧ bad[i] < (n : Int)
theorem zmx (n : Nat) (bad : List Int) : (∀ i, i < bad.length → GoodD n bad i) ↔ BadsD n bad := ⟨fun h i hi => h i hi hi, fun h i _ hi => h i hi⟩
theorem zmx' (n : Nat) (bad : List Int) : (∀ i, i < bad.length → GoodD' n bad i) ↔ BadsD n bad := by
  constructor
  · intro h i
    induction i with
    | zero =>
      intro hi
      obtain ⟨h1, h2⟩ := h 0 hi hi
      have h1' : -1 < bad[0] := h1
      exact ⟨by omega, h2, fun h' => absurd h' (by omega)⟩
    | succ i ih =>
      intro hi
      have hi' : i < bad.length := by omega
      obtain ⟨h1, h2⟩ := h (i + 1) hi hi
      have hp := ih hi'
      have hl : lastD bad (i + 1) = bad[i] := by simp [lastD, hi']
      rw [hl] at h1
      exact ⟨by omega, h2, fun _ => h1⟩
  · intro h i hi _
    obtain ⟨h1, h2, h4⟩ := h i hi
    refine ⟨?_, h2⟩
    by_cases h0 : i = 0
    · subst h0; simp [lastD]; omega
    · have hlt : i - 1 < bad.length := by omega
      have := h4 (by omega)
      simp [lastD, h0, hlt]; exact this
def RtV (d : Drive) : Prop := 1 ≤ d.sectors.length ∧ d.sectors.length ≤ 256 ∧ (∀ s ∈ d.sectors, s.length = 128) ∧ BadsD d.sectors.length d.bad
theorem z118 (l : List (List UInt8)) : (∀ i, i < l.length → ∀ s, l[i]? = some s → s.length = 128) ↔ ∀ s ∈ l, s.length = 128 := by
  constructor
  · intro h s hs
    obtain ⟨i, hi, he⟩ := List.mem_iff_getElem.1 hs
    exact h i hi s (by rw [List.getElem?_eq_getElem hi, he])
  · intro h i _ s hs
    exact h s (List.mem_of_getElem? hs)
open Classical in
theorem z201 (d : Drive) (hl : d.sectors.length ≤ 9223372036854775807) : zeg none ⟨(0 : Int), d⟩ = some (if ∀ s ∈ d.sectors, s.length = 128 then .inr d else .inl (false, d)) := by
  have hs := z2r (f := fun s => (z7a s).run) (fun i : Nat => ⟨(i : Int), d⟩) d.sectors.length (fun i => ∀ s, d.sectors[i]? = some s → s.length = 128) (fun i => .inl (false, d)) (.inr d)
    (fun i hi hp => by
      have hp' : (d.sectors[i].length : Int) = 128 := by have := hp d.sectors[i] (List.getElem?_eq_getElem hi); omega
      simp [z7a, Tree.run, hi, zt hi hl, hp'])
    (fun i hi hp => by
      have hp' : ¬ (d.sectors[i].length : Int) = 128 := fun he => hp fun s hs => by
        rw [List.getElem?_eq_getElem hi] at hs
        rw [← Option.some.inj hs]; omega
      simp [z7a, Tree.run, hi, hp'])
    (by simp [z7a, Tree.run])
  rcases hs with ⟨h1, h2⟩ | ⟨i, hi, h1, h2⟩
  · rw [if_pos ((z118 _).1 h1)]; exact h2
  · rw [if_neg (fun h => h1 ((z118 _).2 h i hi))]; exact h2
open Classical in
theorem z1vk (d : Drive) (hl : d.sectors.length ≤ 9223372036854775807) : ze9 none ⟨d.sectors, (d.sectors.length : Int), (0 : Int), d⟩ = some (if ∀ s ∈ d.sectors, s.length = 128 then .inr d else .inl (false, d)) := by
  have hs := z2r (f := fun s => (z75 s).run) (fun i : Nat => ⟨d.sectors, (d.sectors.length : Int), (i : Int), d⟩) d.sectors.length (fun i => ∀ s, d.sectors[i]? = some s → s.length = 128) (fun i => .inl (false, d)) (.inr d)
    (fun i hi hp => by
      have hp' : (d.sectors[i].length : Int) = 128 := by have := hp d.sectors[i] (List.getElem?_eq_getElem hi); omega
      simp [z75, Tree.run, hi, zt hi hl, hp'])
    (fun i hi hp => by
      have hp' : ¬ (d.sectors[i].length : Int) = 128 := fun he => hp fun s hs => by
        rw [List.getElem?_eq_getElem hi] at hs
        rw [← Option.some.inj hs]; omega
      simp [z75, Tree.run, hi, hp'])
    (by simp [z75, Tree.run])
  rcases hs with ⟨h1, h2⟩ | ⟨i, hi, h1, h2⟩
  · rw [if_pos ((z118 _).1 h1)]; exact h2
  · rw [if_neg (fun h => h1 ((z118 _).2 h i hi))]; exact h2
theorem z1zz (d : Drive) (hb : d.bad.length ≤ 9223372036854775807) : ∃ r, zeh none ⟨(0 : Int), d⟩ = some r ∧ (r = .inr () ∧ BadsD d.sectors.length d.bad ∨ r = .inl false ∧ ¬ BadsD d.sectors.length d.bad) := by
  obtain ⟨secs, bad⟩ := d
  dsimp only at hb ⊢
  have hs := z2r (f := fun s => (z3t s).run) (fun i : Nat => ⟨(i : Int), ⟨secs, bad⟩⟩) bad.length (GoodD secs.length bad) (fun i => .inl false) (.inr ())
    (fun i hi hp => by
      obtain ⟨h1, h2, h4⟩ := hp hi
      have h5 : ¬ bad[i] < 0 := by omega
      have h6 : ¬ (secs.length : Int) ≤ bad[i] := by omega
      by_cases h0 : 0 < i
      · have h7 := h4 h0
        have h8 : ¬ bad[i] ≤ bad[i - 1] := by omega
        have h9 : IntKind.wrap .i64 ((i : Int) - 1) = ((i - 1 : Nat) : Int) := by rw [zh] <;> omega
        have h10 : i - 1 < bad.length := by omega
        simp [z3t, Tree.run, hi, zt hi hb, h5, h6, h0, h9, h10, h8]
      · have h00 : i = 0 := by omega
        subst h00
        simp [z3t, Tree.run, hi, zh (n := 1) (by omega) (by omega), h5, h6])
    (fun i hi hp => by
      by_cases h1 : bad[i] < 0
      · simp [z3t, Tree.run, hi, h1]
      by_cases h2 : (secs.length : Int) ≤ bad[i]
      · simp [z3t, Tree.run, hi, h1, h2]
      by_cases h0 : 0 < i
      · have h10 : i - 1 < bad.length := by omega
        have h9 : IntKind.wrap .i64 ((i : Int) - 1) = ((i - 1 : Nat) : Int) := by rw [zh] <;> omega
        by_cases h4 : bad[i] ≤ bad[i - 1]
        · simp [z3t, Tree.run, hi, h1, h2, h0, h9, h10, h4]
        · exact absurd (fun h => ⟨by omega, by omega, fun _ => by omega⟩) hp
      · exact absurd (fun h => ⟨by omega, by omega, fun h' => absurd h' h0⟩) hp)
    (by simp [z3t, Tree.run])
  rcases hs with ⟨h1, h2⟩ | ⟨i, hi, h1, h2⟩
  · exact ⟨_, h2, .inl ⟨rfl, (zmx _ _).1 h1⟩⟩
  · exact ⟨_, h2, .inr ⟨rfl, fun h => h1 ((zmx _ _).2 h i hi)⟩⟩
theorem z1vi (d : Drive) (hb : d.bad.length ≤ 9223372036854775807) : ∃ r, zea none ⟨(-1 : Int), d.bad, (d.bad.length : Int), (0 : Int), d⟩ = some r ∧ (r = .inr () ∧ BadsD d.sectors.length d.bad ∨ r = .inl false ∧ ¬ BadsD d.sectors.length d.bad) := by
  obtain ⟨secs, bad⟩ := d
  dsimp only at hb ⊢
  have hs := z2r (f := fun s => (z5u s).run) (fun i : Nat => ⟨lastD bad i, bad, (bad.length : Int), (i : Int), ⟨secs, bad⟩⟩) bad.length (GoodD' secs.length bad) (fun i => .inl false) (.inr ())
    (fun i hi hp => by
      obtain ⟨h1, h2⟩ := hp hi
      have h4 : ¬ bad[i] ≤ lastD bad i := by omega
      have h5 : ¬ (secs.length : Int) ≤ bad[i] := by omega
      have h6 : lastD bad (i + 1) = bad[i] := by simp [lastD, hi]
      simp [z5u, Tree.run, hi, zt hi hb, h4, h5, h6])
    (fun i hi hp => by
      by_cases h1 : bad[i] ≤ lastD bad i
      · simp [z5u, Tree.run, hi, h1]
      by_cases h3 : (secs.length : Int) ≤ bad[i]
      · simp [z5u, Tree.run, hi, h1, h3]
      · exact absurd (fun h => ⟨by omega, by omega⟩) hp)
    (by simp [z5u, Tree.run])
  rcases hs with ⟨h1, h2⟩ | ⟨i, hi, h1, h2⟩
  · exact ⟨_, h2, .inl ⟨rfl, (zmx' _ _).1 h1⟩⟩
  · exact ⟨_, h2, .inr ⟨rfl, fun h => h1 ((zmx' _ _).2 h i hi)⟩⟩
open Classical in
theorem z1kp (d : Drive) (hb : d.bad.length ≤ 9223372036854775807) : zfq none d = some (decide (RtV d)) := by
  simp only [zfq, zie, Tree.run]
  by_cases h1 : (d.sectors.length : Int) < 1
  · have : ¬ RtV d := fun h => by have := h.1; omega
    simp [h1, this]
  by_cases h2 : 256 < (d.sectors.length : Int)
  · have : ¬ RtV d := fun h => by have := h.2.1; omega
    simp [h1, h2, this]
  simp only [h1, h2, decide_false, Bool.false_eq_true, if_false, z201 d (by omega), Option.bind_some]
  by_cases h3 : ∀ s ∈ d.sectors, s.length = 128
  · rw [if_pos h3]
    obtain ⟨r, hr, hc⟩ := z1zz d hb
    simp only [Sum.isLeft_inr, Bool.false_eq_true, if_false, Sum.getRight?_inr, Option.bind_some, hr]
    rcases hc with ⟨rfl, h4⟩ | ⟨rfl, h4⟩
    · have : RtV d := ⟨by omega, by omega, h3, h4⟩
      simp [this]
    · have : ¬ RtV d := fun h => h4 h.2.2.2
      simp [this]
  · rw [if_neg h3]
    have : ¬ RtV d := fun h => h3 h.2.2.1
    simp [this]
open Classical in
theorem z1hp (d : Drive) (hb : d.bad.length ≤ 9223372036854775807) : zme none d = some (decide (RtV d)) := by
  simp only [zme, zi3, Tree.run]
  by_cases h1 : (d.sectors.length : Int) < 1
  · have : ¬ RtV d := fun h => by have := h.1; omega
    simp [h1, this]
  by_cases h2 : 256 < (d.sectors.length : Int)
  · have : ¬ RtV d := fun h => by have := h.2.1; omega
    simp [h1, h2, this]
  simp only [h1, h2, decide_false, Bool.false_eq_true, if_false, z1vk d (by omega), Option.bind_some]
  by_cases h3 : ∀ s ∈ d.sectors, s.length = 128
  · rw [if_pos h3]
    obtain ⟨r, hr, hc⟩ := z1vi d hb
    simp only [Sum.isLeft_inr, Bool.false_eq_true, if_false, Sum.getRight?_inr, Option.bind_some, hr]
    rcases hc with ⟨rfl, h4⟩ | ⟨rfl, h4⟩
    · have : RtV d := ⟨by omega, by omega, h3, h4⟩
      simp [this]
    · have : ¬ RtV d := fun h => h4 h.2.2.2
      simp [this]
  · rw [if_neg h3]
    have : ¬ RtV d := fun h => h3 h.2.2.1
    simp [this]
def RtK (k : Disk) : Prop := (0 ≤ k.command ∧ k.command ≤ 3) ∧ (0 ≤ k.words ∧ k.words ≤ 65535) ∧ (0 ≤ k.addr ∧ k.addr ≤ 65535 ∧ k.addr % 2 = 0) ∧ (0 ≤ k.start ∧ k.start ≤ 65535) ∧ (0 ≤ k.left ∧ k.left ≤ 8) ∧ (k.ready = true ↔ k.left = 0) ∧ (k.left = 0 ∨ ¬ k.command = 0 ∧ ¬ k.words = 0) ∧ RtV k.drive
theorem z1yv (x : Int) : zev x = some (decide (0 ≤ x ∧ x ≤ 65535)) := by
  simp only [zev, zly, Tree.run]
  by_cases h : 0 ≤ x <;> simp [h]
theorem z1t7 (x : Int) : z8l x = some (decide (0 ≤ x ∧ x ≤ 65535)) := by
  simp only [z8l, zcw, Tree.run, zdh, zr2 x 65536 (by omega)]
  rw [Option.some.injEq, decide_eq_decide]
  omega
theorem z1md (a : Bool) (p : Prop) [Decidable p] : (a == decide p) = decide (a = true ↔ p) := by
  cases a <;> by_cases h : p <;> simp [h]
open Classical in
theorem ref_RightK_def (k : Disk) (hb : k.drive.bad.length ≤ 9223372036854775807) : zmn none k = some (decide (RtK k)) := by
  simp only [zmn, zih, Tree.run, z1yv, Option.bind_some, z1kp k.drive hb, z1md]
  by_cases h1 : k.command < 0
  · have : ¬ RtK k := fun h => by have := h.1; omega
    simp [h1, this]
  by_cases h2 : 3 < k.command
  · have : ¬ RtK k := fun h => by have := h.1; omega
    simp [h1, h2, this]
  by_cases h3 : 0 ≤ k.words ∧ k.words ≤ 65535
  · by_cases h4 : 0 ≤ k.addr ∧ k.addr ≤ 65535
    · by_cases h5 : 0 ≤ k.start ∧ k.start ≤ 65535
      · by_cases h6 : k.addr % 2 = 0
        · by_cases h7 : k.left < 0
          · have : ¬ RtK k := fun h => by have := h.2.2.2.2.1; omega
            simp [h1, h2, h3, h4, h5, h6, h7, this, z21 h4.1]
          by_cases h8 : 8 < k.left
          · have : ¬ RtK k := fun h => by have := h.2.2.2.2.1; omega
            simp [h1, h2, h3, h4, h5, h6, h7, h8, this, z21 h4.1]
          by_cases h9 : k.ready = true ↔ k.left = 0
          · by_cases h10 : k.left = 0
            · have : RtK k ↔ RtV k.drive := ⟨fun h => h.2.2.2.2.2.2.2, fun h => ⟨by omega, h3, ⟨h4.1, h4.2, h6⟩, h5, by omega, h9, .inl h10, h⟩⟩
              simp [h1, h2, h3, h4, h5, h6, h9, h10, this, z21 h4.1]
            · by_cases h11 : k.command = 0
              · have : ¬ RtK k := fun h => by rcases h.2.2.2.2.2.2.1 with h' | h' <;> omega
                have h9' : ¬ k.ready = true := fun h => h10 (h9.1 h)
                simp [h1, h2, h3, h4, h5, h6, h7, h8, h9', h10, h11, this, z21 h4.1]
              · by_cases h12 : k.words = 0
                · have : ¬ RtK k := fun h => by rcases h.2.2.2.2.2.2.1 with h' | h' <;> omega
                  have h9' : ¬ k.ready = true := fun h => h10 (h9.1 h)
                  simp [h1, h2, h4, h5, h6, h7, h8, h9', h10, h11, h12, this, z21 h4.1]
                · have : RtK k ↔ RtV k.drive := ⟨fun h => h.2.2.2.2.2.2.2, fun h => ⟨by omega, h3, ⟨h4.1, h4.2, h6⟩, h5, by omega, h9, .inr ⟨h11, h12⟩, h⟩⟩
                  have h9' : ¬ k.ready = true := fun h => h10 (h9.1 h)
                  simp [h1, h2, h3, h4, h5, h6, h7, h8, h9', h10, h11, h12, this, z21 h4.1]
          · have : ¬ RtK k := fun h => h9 h.2.2.2.2.2.1
            simp [h1, h2, h3, h4, h5, h6, h7, h8, h9, this, z21 h4.1]
        · have : ¬ RtK k := fun h => h6 h.2.2.1.2.2
          simp [h1, h2, h3, h4, h5, h6, this, z21 h4.1]
      · have : ¬ RtK k := fun h => h5 h.2.2.2.1
        simp [h1, h2, h3, h4, h5, this]
    · have : ¬ RtK k := fun h => h4 ⟨h.2.2.1.1, h.2.2.1.2.1⟩
      simp [h1, h2, h3, h4, this]
  · have : ¬ RtK k := fun h => h3 h.2.1
    simp [h1, h2, h3, this]
open Classical in
theorem diskctl_Right_def (k : Disk) (hb : k.drive.bad.length ≤ 9223372036854775807) : zga none k = some (decide (RtK k)) := by
  simp only [zga, zel, Tree.run, z1t7, Option.bind_some, z1hp k.drive hb, z1md]
  by_cases hd : RtV k.drive
  · by_cases h1 : k.command < 0
    · have : ¬ RtK k := fun h => by have := h.1; omega
      simp [hd, h1, this]
    by_cases h2 : 3 < k.command
    · have : ¬ RtK k := fun h => by have := h.1; omega
      simp [hd, h1, h2, this]
    by_cases h3 : 0 ≤ k.words ∧ k.words ≤ 65535
    · by_cases h4 : 0 ≤ k.addr ∧ k.addr ≤ 65535
      · by_cases h5 : 0 ≤ k.start ∧ k.start ≤ 65535
        · by_cases h6 : k.addr % 2 = 0
          · have h6' : ¬ k.addr % 2 = 1 := by omega
            by_cases h7 : k.left < 0
            · have : ¬ RtK k := fun h => by have := h.2.2.2.2.1; omega
              simp [hd, h1, h2, h3, h4, h5, h6, h6', h7, this, z21 h4.1]
            by_cases h8 : 8 < k.left
            · have : ¬ RtK k := fun h => by have := h.2.2.2.2.1; omega
              simp [hd, h1, h2, h3, h4, h5, h6, h6', h7, h8, this, z21 h4.1]
            by_cases h9 : k.ready = true ↔ k.left = 0
            · by_cases h10 : k.left = 0
              · have : RtK k := ⟨by omega, h3, ⟨h4.1, h4.2, h6⟩, h5, by omega, h9, .inl h10, hd⟩
                simp [hd, h1, h2, h3, h4, h5, h6, h6', h9, h10, this, z21 h4.1]
              · have h9' : ¬ k.ready = true := fun h => h10 (h9.1 h)
                by_cases h11 : k.command = 0
                · have : ¬ RtK k := fun h => by rcases h.2.2.2.2.2.2.1 with h' | h' <;> omega
                  simp [hd, h1, h2, h3, h4, h5, h6, h6', h7, h8, h9', h10, h11, this, z21 h4.1]
                · by_cases h12 : k.words = 0
                  · have : ¬ RtK k := fun h => by rcases h.2.2.2.2.2.2.1 with h' | h' <;> omega
                    simp [hd, h1, h2, h4, h5, h6, h6', h7, h8, h9', h10, h11, h12, this, z21 h4.1]
                  · have : RtK k := ⟨by omega, h3, ⟨h4.1, h4.2, h6⟩, h5, by omega, h9, .inr ⟨h11, h12⟩, hd⟩
                    simp [hd, h1, h2, h3, h4, h5, h6, h6', h7, h8, h9', h10, h11, h12, this, z21 h4.1]
            · have : ¬ RtK k := fun h => h9 h.2.2.2.2.2.1
              simp [hd, h1, h2, h3, h4, h5, h6, h6', h7, h8, h9, this, z21 h4.1]
          · have h6' : k.addr % 2 = 1 := by omega
            have : ¬ RtK k := fun h => h6 h.2.2.1.2.2
            simp [hd, h1, h2, h3, h4, h5, h6', this, z21 h4.1]
        · have : ¬ RtK k := fun h => h5 h.2.2.2.1
          simp [hd, h1, h2, h3, h4, h5, this]
      · have : ¬ RtK k := fun h => h4 ⟨h.2.2.1.1, h.2.2.1.2.1⟩
        simp [hd, h1, h2, h3, h4, this]
    · have : ¬ RtK k := fun h => h3 h.2.1
      simp [hd, h1, h2, h3, this]
  · have : ¬ RtK k := fun h => hd h.2.2.2.2.2.2.2
    simp [hd, this]
theorem z10c {α : Type} (b : Nat) (l : List α) (h : l.length * b ≤ 140737488355328) : cloneF b l = some l := if_pos h
theorem z1ta (l : List Int) (n : Int) : memI l n = decide (n ∈ l) := by rw [Bool.eq_iff_iff]; simp [z1ec]
def HasD (d : Drive) (i : Int) : Prop := 0 ≤ i ∧ i < (d.sectors.length : Int)
instance (d i) : Decidable (HasD d i) := by unfold HasD; infer_instance
def nulD : Drive := ⟨[], []⟩
def readD (d : Drive) (i : Int) : List UInt8 × Int := if HasD d i then (if i ∈ d.bad then ([], 21) else (d.sectors.getD i.toNat [], 0)) else ([], 2)
def padL (s : List UInt8) : List UInt8 := s ++ List.replicate (128 - s.length) 0
def writeD (d : Drive) (i : Int) (s : List UInt8) : Drive × Int := if HasD d i then (if 128 < s.length then (nulD, 7) else if i ∈ d.bad then (nulD, 21) else (⟨d.sectors.set i.toNat (padL s), d.bad⟩, 0)) else (nulD, 2)
theorem z21l (d : Drive) (hb : d.bad.length ≤ 1000000) : z10f d = some d.bad := if_pos (by omega)
theorem zra {d : Drive} {i : Int} (h : HasD d i) : d.sectors[i.toNat]? = some (d.sectors.getD i.toNat []) := by
  obtain ⟨h1, h2⟩ := h
  have : i.toNat < d.sectors.length := by omega
  simp [List.getD, List.getElem?_eq_getElem this]
theorem z20h (d : Drive) (i : Int) (hb : d.bad.length ≤ 1000000) : zp7 d i = some (readD d i) := by
  simp only [zp7, zls, ztd, zp2, Tree.run, z21l d hb, z1ta, Option.bind_some, readD]
  by_cases c1 : 0 ≤ i
  · by_cases c2 : i < (d.sectors.length : Int)
    · have h : HasD d i := ⟨c1, c2⟩
      have g := zra h
      by_cases c3 : i ∈ d.bad
      · simp [c1, c2, c3, h]
      · simp only [c1, c2, c3, h, g, decide_true, decide_false, Bool.not_true, Bool.false_eq_true, if_true, if_false, Option.bind_some]
    · have h : ¬ HasD d i := fun h => c2 h.2
      simp [c1, c2, h]
  · have h : ¬ HasD d i := fun h => c1 h.1
    simp [c1, h]
theorem z1ly (d : Drive) (i : Int) (hb : d.bad.length ≤ 1000000) : zcf none d i = some (decide (i ∈ d.bad)) := by
  have hs := z2r (f := fun s => (z79 s).run) (fun j : Nat => ⟨i, (j : Int), d⟩) d.bad.length (fun j => ∀ y, d.bad[j]? = some y → y ≠ i) (fun j => .inl true) (.inr ())
    (fun j hj hp => by
      have hp' := hp d.bad[j] (List.getElem?_eq_getElem hj)
      simp [z79, Tree.run, hj, hp', zt hj (show d.bad.length ≤ 9223372036854775807 by omega)])
    (fun j hj hp => by
      have hp' : d.bad[j] = i := by
        by_cases h : d.bad[j] = i
        · exact h
        · exact absurd (fun y hy => by rw [List.getElem?_eq_getElem hj] at hy; rw [← Option.some.inj hy]; exact h) hp
      simp [z79, Tree.run, hj, hp'])
    (by simp [z79, Tree.run])
  rcases hs with ⟨q1, q2⟩ | ⟨j, hj, q1, q2⟩
  · have q2' : zay none ⟨i, (0 : Int), d⟩ = some (.inr ()) := q2
    have hn : i ∉ d.bad := fun h => by
      obtain ⟨j, hj, he⟩ := List.mem_iff_getElem.1 h
      exact q1 j hj i (by rw [List.getElem?_eq_getElem hj, he]) rfl
    simp [zcf, zdg, Tree.run, q2', hn]
  · have q2' : zay none ⟨i, (0 : Int), d⟩ = some (.inl true) := q2
    have hn : i ∈ d.bad := by
      by_cases h : i ∈ d.bad
      · exact h
      · exact absurd (fun y hy e => h (by rw [← e]; exact List.mem_of_getElem? hy)) q1
    simp [zcf, zdg, Tree.run, q2', hn]
theorem z1uc (d : Drive) (i : Int) (hb : d.bad.length ≤ 1000000) : zjo none d i = some (readD d i) := by
  simp only [zjo, zlx, Tree.run, z1ly d i hb, Option.bind_some, readD]
  by_cases c1 : i < 0
  · have h : ¬ HasD d i := fun h => by have := h.1; omega
    simp [c1, h]
  · by_cases c2 : (d.sectors.length : Int) ≤ i
    · have h : ¬ HasD d i := fun h => by have := h.2; omega
      simp [c1, c2, h]
    · have h : HasD d i := ⟨by omega, by omega⟩
      have g := zra h
      have c3 : 0 ≤ i := by omega
      by_cases c4 : i ∈ d.bad
      · simp [c1, c2, c4, h]
      · simp only [c1, c2, c3, c4, h, g, decide_true, decide_false, Bool.not_true, Bool.false_eq_true, if_true, if_false, Option.bind_some]
theorem z1vh (n : Nat) : copies ([0] : List UInt8) n = List.replicate n 0 := by
  induction n with
  | zero => rfl
  | succ n ih => simp only [copies, ih]; rfl
theorem z1yf (n : Nat) (h : n ≤ 1000000) : strings_Repeat ([0] : List UInt8) (n : Int) = some (List.replicate n 0) := by
  have : strings_Repeat ([0] : List UInt8) (n : Int) = repF ([0] : List UInt8) (n : Int) := rfl
  rw [this]
  unfold repF
  rw [if_pos ⟨by omega, by omega, by simp only [List.length_cons, List.length_nil]; omega⟩, z1vh, Int.toNat_natCast]
theorem z20f (n : Nat) (h : n ≤ 1000000) : zak none (n : Int) = some (List.replicate n 0) := by
  have hc := z4i (f := fun s => (z8k s).run) (fun i : Nat => ⟨(n : Int), (i : Int), List.replicate i 0⟩) n (fun i hi => by
    have k1 : (i : Int) < (n : Int) := by omega
    have w := zt hi (show n ≤ 9223372036854775807 by omega)
    have k2 : ((List.replicate i (0 : Int)).length + ([(0 : Int)]).length) * 1 ≤ 140737488355328 := by simp only [List.length_replicate, List.length_cons, List.length_nil]; omega
    have e : List.replicate i (0 : Int) ++ [0] = List.replicate (i + 1) 0 := by rw [List.replicate_succ']
    simp only [z8k, Tree.run, k1, k2, w, e, decide_true, if_true]) 0 (Nat.zero_le _)
  have hd : z6x none ⟨(n : Int), (n : Int), List.replicate n 0⟩ = some (List.replicate n 0) := z2q (by
    have k1 : ¬ (n : Int) < (n : Int) := by omega
    simp only [z8k, Tree.run, k1, decide_false, Bool.false_eq_true, if_false])
  have hh : z6x none ⟨(n : Int), (0 : Int), []⟩ = some (List.replicate n 0) := hc.trans hd
  simp only [zak, zig, Tree.run, hh, Option.bind_some, List.map_replicate]
  rfl
theorem z1xi {s : List UInt8} (h : s.length ≤ 128) : (padL s).length = 128 := by
  simp only [padL, List.length_append, List.length_replicate]; omega
theorem z13n (d : Drive) (i : Int) (s : List UInt8) (hl : d.sectors.length ≤ 1000000) (hb : d.bad.length ≤ 1000000) : z1z none d i s = some (writeD d i s) := by
  simp only [z1z, zif, Tree.run, z1ly d i hb, Option.bind_some, writeD]
  by_cases c1 : i < 0
  · have h : ¬ HasD d i := fun h => by have := h.1; omega
    simp [c1, h, nulD]
  · by_cases c2 : (d.sectors.length : Int) ≤ i
    · have h : ¬ HasD d i := fun h => by have := h.2; omega
      simp [c1, c2, h, nulD]
    · have h : HasD d i := ⟨by omega, by omega⟩
      have g := zra h
      have c3 : 0 ≤ i := by omega
      by_cases c4 : 128 < s.length
      · have c4' : (128 : Int) < (s.length : Int) := by omega
        simp [c1, c2, c4, c4', h, nulD]
      · have c4' : ¬ (128 : Int) < (s.length : Int) := by omega
        by_cases c5 : i ∈ d.bad
        · simp [c1, c2, c4, c4', c5, h, nulD]
        · have w : IntKind.wrap .i64 ((128 : Int) - (s.length : Int)) = ((128 - s.length : Nat) : Int) := by rw [zh] <;> omega
          have z := z20f (128 - s.length) (by omega)
          have k1 : (([] : List (List UInt8)).length + d.sectors.length) * 16 ≤ 140737488355328 := by simp only [List.length_nil]; omega
          have k2 : s.length + (List.replicate (128 - s.length) (0 : UInt8)).length ≤ 9223372036854775807 := by simp only [List.length_replicate]; omega
          have k3 : i < ((([] : List (List UInt8)) ++ d.sectors).length : Int) := by simp only [List.nil_append]; exact h.2
          simp only [c1, c2, c3, c4, c4', c5, h, k1, k2, k3, w, z, g, List.nil_append, decide_true, decide_false, Bool.false_eq_true, if_true, if_false, Option.bind_some, padL]
          rw [if_pos (by have := h.2; simpa using this)]
theorem z1za (d : Drive) (i : Int) (s : List UInt8) : zbd d.bad ⟨i, s⟩ d.sectors d.bad = some (if HasD d i then (if 128 < s.length then 7 else if i ∈ d.bad then 21 else 0) else 2) := by
  simp only [zbd, zac, zqr, zc3, Tree.run, z1ta]
  by_cases c1 : 0 ≤ i
  · by_cases c2 : i < (d.sectors.length : Int)
    · have h : HasD d i := ⟨c1, c2⟩
      by_cases c4 : 128 < s.length
      · have c4' : (128 : Int) < (s.length : Int) := by omega
        simp [c1, c2, c4, c4', h]
      · have c4' : ¬ (128 : Int) < (s.length : Int) := by omega
        by_cases c5 : i ∈ d.bad
        · simp [c1, c2, c4, c4', c5, h]
        · simp [c1, c2, c4, c4', c5, h]
    · have h : ¬ HasD d i := fun h => c2 h.2
      simp [c1, c2, h]
  · have h : ¬ HasD d i := fun h => c1 h.1
    simp [c1, h]
theorem z1yz (d : Drive) (i : Int) (s : List UInt8) (hl : d.sectors.length ≤ 1000000) (hb : d.bad.length ≤ 1000000) : zfl none d i s = some (writeD d i s) := by
  have hcp : zir d = some (d.sectors, d.bad) := by
    simp only [zir, zc2, Tree.run, z10c 16 d.sectors (by omega), z10c 8 d.bad (by omega), Option.bind_some]
  have hwn : wornF (d.bad.map fun x : Int => x) = some d.bad := by
    rw [List.map_id' ]; exact if_pos (by omega)
  have hf := z1za d i s
  have k1 : ((0 : Int)) < (([(⟨i, s⟩ : Write)]).length : Int) := by simp
  have k2 : ¬ (0 : Int) = -1 := by omega
  by_cases c0 : HasD d i ∧ ¬ 128 < s.length ∧ i ∉ d.bad
  · obtain ⟨h, c4, c5⟩ := c0
    have w : IntKind.wrap .i64 ((128 : Int) - (s.length : Int)) = ((128 - s.length : Nat) : Int) := by rw [zh] <;> omega
    have z := z1yf (128 - s.length) (by omega)
    have k3 : s.length + (List.replicate (128 - s.length) (0 : UInt8)).length ≤ 9223372036854775807 := by simp only [List.length_replicate]; omega
    have g := zra h
    rw [if_pos h, if_neg c4, if_neg c5] at hf
    have w1 : IntKind.wrap .i64 ((0 : Int) + 1) = 1 := zh (by omega) (by omega)
    have s1 : (z59 ⟨[⟨i, s⟩], (-1 : Int), d.bad, [⟨i, s⟩], (([(⟨i, s⟩ : Write)]).length : Int), (0 : Int), nulD, d.sectors, d.bad⟩).run = some (.inl ⟨[⟨i, s⟩], (-1 : Int), d.bad, [⟨i, s⟩], (([(⟨i, s⟩ : Write)]).length : Int), (1 : Int), nulD, d.sectors.set i.toNat (padL s), d.bad⟩) := by
      simp only [z59, Tree.run, k1, k2, hf, w, z, k3, g, h.1, h.2, w1, padL, decide_true, decide_false, Bool.false_eq_true, if_true, if_false, Option.bind_some, Int.toNat_zero, List.getElem?_cons_zero, Int.le_refl, Bool.not_true]
    have s2 : (z59 ⟨[⟨i, s⟩], (-1 : Int), d.bad, [⟨i, s⟩], (([(⟨i, s⟩ : Write)]).length : Int), (1 : Int), nulD, d.sectors.set i.toNat (padL s), d.bad⟩).run = some (.inr (.inr ([⟨i, s⟩], nulD, d.sectors.set i.toNat (padL s), d.bad))) := by
      have k : ¬ (1 : Int) < (([(⟨i, s⟩ : Write)]).length : Int) := by simp
      simp only [z59, Tree.run, k, decide_false, Bool.false_eq_true, if_false]
    have hL : zav none ⟨[⟨i, s⟩], (-1 : Int), d.bad, [⟨i, s⟩], (([(⟨i, s⟩ : Write)]).length : Int), (0 : Int), ⟨[], []⟩, d.sectors, d.bad⟩ = some (.inr ([⟨i, s⟩], nulD, d.sectors.set i.toNat (padL s), d.bad)) := (zqy s1).trans (z2q s2)
    simp only [zfl, zde, zmd, zdd, Tree.run, hcp, hwn, hL, Option.bind_some, Sum.isLeft_inr, Bool.false_eq_true, if_false, Sum.getRight?_inr, decide_true, Bool.not_true, writeD, if_pos h, if_neg c4, if_neg c5]
  · have hne : ∃ e, zbd d.bad ⟨i, s⟩ d.sectors d.bad = some e ∧ e ≠ 0 ∧ writeD d i s = (nulD, e) := by
      rw [hf]
      unfold writeD
      by_cases h : HasD d i
      · by_cases c4 : 128 < s.length
        · exact ⟨7, by simp [h, c4], by omega, by simp [h, c4]⟩
        · by_cases c5 : i ∈ d.bad
          · exact ⟨21, by simp [h, c4, c5], by omega, by simp [h, c4, c5]⟩
          · exact absurd ⟨h, c4, c5⟩ c0
      · exact ⟨2, by simp [h], by omega, by simp [h]⟩
    obtain ⟨e, e1, e2, e3⟩ := hne
    have s1 : (z59 ⟨[⟨i, s⟩], (-1 : Int), d.bad, [⟨i, s⟩], (([(⟨i, s⟩ : Write)]).length : Int), (0 : Int), ⟨[], []⟩, d.sectors, d.bad⟩).run = some (.inr (.inl ([⟨i, s⟩], (0 : Int), e, d.sectors, d.bad))) := by
      simp only [z59, Tree.run, k1, k2, e1, e2, decide_true, decide_false, Bool.false_eq_true, if_true, if_false, Option.bind_some, Int.toNat_zero, List.getElem?_cons_zero, Int.le_refl, Bool.not_false]
    have hL : zav none ⟨[⟨i, s⟩], (-1 : Int), d.bad, [⟨i, s⟩], (([(⟨i, s⟩ : Write)]).length : Int), (0 : Int), ⟨[], []⟩, d.sectors, d.bad⟩ = some (.inl ([⟨i, s⟩], (0 : Int), e, d.sectors, d.bad)) := z2q s1
    simp only [zfl, zde, zmd, zdd, Tree.run, hcp, hwn, hL, Option.bind_some, Sum.isLeft_inl, if_true, Sum.getLeft?_inl, e2, decide_false, Bool.not_false, e3, nulD]
def Hit (a n y : Int) : Prop := a ≤ y ∧ y < a + n
instance (a n y) : Decidable (Hit a n y) := by unfold Hit; infer_instance
structure Rng (k : Disk) (n : Int) : Prop where
  a0 : 0 ≤ k.addr
  a1 : k.addr ≤ 65535
  n0 : 0 ≤ n
  n1 : n ≤ 64
theorem zpr (y : Int) (k : Disk) (n : Int) (h : Rng k n) : z5x y k n = some (decide (Hit k.addr (2 * n) y)) := by
  obtain ⟨a0, a1, n0, n1⟩ := h
  have w1 : IntKind.wrap .i64 (2 * n) = 2 * n := zh (by omega) (by omega)
  have w : IntKind.wrap .i64 (k.addr + 2 * n) = k.addr + 2 * n := zh (by omega) (by omega)
  simp only [z5x, z6v, Tree.run, w1, w, Hit]
  by_cases h : k.addr ≤ y <;> simp [h]
def cutL (l : List Int) (a n : Int) : List Int := l.filter fun y => !decide (Hit a n y)
theorem z10e {l : List Int} {a n : Int} {i : Nat} (hi : i < l.length) : cutL (l.take (i + 1)) a n = cutL (l.take i) a n ++ (if Hit a n l[i] then [] else [l[i]]) := by
  rw [z3l hi]
  unfold cutL
  rw [List.filter_append]
  by_cases he : Hit a n l[i] <;> simp [he]
theorem z1r8 {l : List Int} {a n : Int} {k : Nat} (h : ∀ i, i < k → ∀ y, l[i]? = some y → ¬ Hit a n y) : cutL (l.take k) a n = l.take k := by
  unfold cutL
  rw [List.filter_eq_self]
  intro y hy
  obtain ⟨i, hi, he⟩ := List.mem_iff_getElem.1 hy
  rw [List.getElem_take] at he
  have hlt : i < k := by rw [List.length_take] at hi; omega
  have := h i hlt y (by rw [List.getElem?_eq_getElem (by rw [List.length_take] at hi; omega), he])
  simp [this]
theorem z1wx (l : List Int) (a n : Int) : (cutL l a n).length ≤ l.length := List.length_filter_le _ _
theorem zr9 {l : List Int} {p : Int → Prop} [DecidablePred p] {i : Nat} (hi : i < l.length) (h : ¬ ∀ y, l[i]? = some y → ¬ p y) : p l[i] := by
  by_cases h' : p l[i]
  · exact h'
  · exact absurd (fun y hy => by rw [List.getElem?_eq_getElem hi] at hy; rw [← Option.some.inj hy]; exact h') h
theorem z1zk (l : List Int) (k : Disk) (n : Int) (hl : l.length ≤ 100000) (h : Rng k n) : ((∀ i, i < l.length → ∀ y, l[i]? = some y → ¬ Hit k.addr (2 * n) y) ∧ z2i none l k n = some (-1)) ∨ ∃ j, ∃ hk : j < l.length, (∀ i, i < j → ∀ y, l[i]? = some y → ¬ Hit k.addr (2 * n) y) ∧ Hit k.addr (2 * n) l[j] ∧ z2i none l k n = some (j : Int) := by
  have hs := zn3 (f := fun s => (z1q (k, n) s).run) (fun i : Nat => ⟨l, (l.length : Int), (i : Int)⟩) l.length (fun i => ∀ y, l[i]? = some y → ¬ Hit k.addr (2 * n) y) (fun i => .inl (i : Int)) (.inr ())
    (fun i hi hp => by
      have hp' := hp l[i] (List.getElem?_eq_getElem hi)
      simp [z1q, Tree.run, hi, zt hi (show l.length ≤ 9223372036854775807 by omega), zpr _ k n h, hp'])
    (fun i hi hp => by
      have hp' := zr9 hi hp
      simp [z1q, Tree.run, hi, zpr _ k n h, hp'])
    (by simp [z1q, Tree.run])
  rcases hs with ⟨h4, h5⟩ | ⟨i, hi, h4, h5, h6⟩
  · have h' : z2s none (k, n) ⟨l, (l.length : Int), (0 : Int)⟩ = some (.inr ()) := h5
    exact .inl ⟨h4, by simp [z2i, z2b, Tree.run, h']⟩
  · have h' : z2s none (k, n) ⟨l, (l.length : Int), (0 : Int)⟩ = some (.inl (i : Int)) := h6
    exact .inr ⟨i, hi, h4, zr9 hi h5, by simp [z2i, z2b, Tree.run, h']⟩
def SpoiltP (l : List Int) (a n : Int) : Prop := ∃ y ∈ l, Hit a n y
noncomputable instance (l a n) : Decidable (SpoiltP l a n) := Classical.propDecidable _
theorem z1r7 (l : List Int) (k : Disk) (n : Int) (hl : l.length ≤ 100000) (h : Rng k n) : z2h none l k n = some (decide (SpoiltP l k.addr (2 * n))) := by
  rcases z1zk l k n hl h with ⟨h4, h5⟩ | ⟨j, hj, h4, h5, h6⟩
  · have hn : ¬ SpoiltP l k.addr (2 * n) := fun ⟨y, hy, hh⟩ => by
      obtain ⟨i, hi, he⟩ := List.mem_iff_getElem.1 hy
      exact h4 i hi y (by rw [List.getElem?_eq_getElem hi, he]) hh
    simp [z2h, z2a, Tree.run, h5, hn]
  · have hn : SpoiltP l k.addr (2 * n) := ⟨_, List.getElem_mem hj, h5⟩
    simp [z2h, z2a, Tree.run, h6, hn]
theorem z11b (l : List Int) (k : Disk) (n : Int) (hl : l.length ≤ 100000) (h : Rng k n) : z7q none l k.addr n = some (decide (SpoiltP l k.addr (2 * n))) := by
  obtain ⟨a0, a1, n0, n1⟩ := id h
  have w1 : IntKind.wrap .i64 (2 * n) = 2 * n := zh (by omega) (by omega)
  have w : IntKind.wrap .i64 (k.addr + 2 * n) = k.addr + 2 * n := zh (by omega) (by omega)
  have hs := z2r (f := fun s => (z5f s).run) (fun i : Nat => ⟨l, k.addr, n, (i : Int)⟩) l.length (fun i => ∀ y, l[i]? = some y → ¬ Hit k.addr (2 * n) y) (fun i => .inl true) (.inr ())
    (fun i hi hp => by
      have hp' := hp l[i] (List.getElem?_eq_getElem hi)
      have k1 : (i : Int) < (l.length : Int) := by omega
      have k3 : (0 : Int) ≤ (i : Int) := by omega
      have g := List.getElem?_eq_getElem hi
      have ws := zt hi (show l.length ≤ 9223372036854775807 by omega)
      by_cases c1 : k.addr ≤ l[i]
      · have c2 : ¬ l[i] < k.addr + 2 * n := fun h => hp' ⟨c1, h⟩
        simp only [z5f, Tree.run, k1, k3, g, w1, w, ws, c1, c2, decide_true, decide_false, Bool.false_eq_true, if_true, if_false, Int.toNat_natCast, Option.bind_some]
      · simp only [z5f, Tree.run, k1, k3, g, w1, w, ws, c1, decide_true, decide_false, Bool.false_eq_true, if_true, if_false, Int.toNat_natCast, Option.bind_some])
    (fun i hi hp => by
      have hp' := zr9 hi hp
      have k1 : (i : Int) < (l.length : Int) := by omega
      have k3 : (0 : Int) ≤ (i : Int) := by omega
      have g := List.getElem?_eq_getElem hi
      simp only [z5f, Tree.run, k1, k3, g, w1, w, hp'.1, hp'.2, decide_true, if_true, Int.toNat_natCast, Option.bind_some])
    (by simp [z5f, Tree.run])
  rcases hs with ⟨h4, h5⟩ | ⟨i, hi, h4, h5⟩
  · have h' : za5 none ⟨l, k.addr, n, (0 : Int)⟩ = some (.inr ()) := h5
    have hn : ¬ SpoiltP l k.addr (2 * n) := fun ⟨y, hy, hh⟩ => by
      obtain ⟨i, hi, he⟩ := List.mem_iff_getElem.1 hy
      exact h4 i hi y (by rw [List.getElem?_eq_getElem hi, he]) hh
    simp [z7q, zc6, Tree.run, h', hn]
  · have h' : za5 none ⟨l, k.addr, n, (0 : Int)⟩ = some (.inl true) := h5
    have hn : SpoiltP l k.addr (2 * n) := by
      by_cases hsp : SpoiltP l k.addr (2 * n)
      · exact hsp
      · exact absurd (fun y hy hh => hsp ⟨y, List.mem_of_getElem? hy, hh⟩) h4
    simp [z7q, zc6, Tree.run, h', hn]
theorem z1xz (l : List Int) (k : Disk) (n : Int) (hl : l.length ≤ 100000) (h : Rng k n) : ((∀ i, i < l.length → ∀ y, l[i]? = some y → ¬ Hit k.addr (2 * n) y) ∧ z2j none l k n = some (-1)) ∨ ∃ j, ∃ hk : j < l.length, (∀ i, i < j → ∀ y, l[i]? = some y → ¬ Hit k.addr (2 * n) y) ∧ Hit k.addr (2 * n) l[j] ∧ z2j none l k n = some (j : Int) := by
  have hs := zn3 (f := fun s => (z1r (l, k, n) s).run) (fun i : Nat => ⟨(l.length : Int), (i : Int)⟩) l.length (fun i => ∀ y, l[i]? = some y → ¬ Hit k.addr (2 * n) y) (fun i => .inl (i : Int)) (.inr ())
    (fun i hi hp => by
      have hp' := hp l[i] (List.getElem?_eq_getElem hi)
      simp [z1r, Tree.run, hi, zt hi (show l.length ≤ 9223372036854775807 by omega), zpr _ k n h, hp'])
    (fun i hi hp => by
      have hp' := zr9 hi hp
      simp [z1r, Tree.run, hi, zpr _ k n h, hp'])
    (by simp [z1r, Tree.run])
  rcases hs with ⟨h4, h5⟩ | ⟨i, hi, h4, h5, h6⟩
  · have h' : z2t none (l, k, n) ⟨(l.length : Int), (0 : Int)⟩ = some (.inr ()) := h5
    exact .inl ⟨h4, by simp [z2j, z2c, Tree.run, h']⟩
  · have h' : z2t none (l, k, n) ⟨(l.length : Int), (0 : Int)⟩ = some (.inl (i : Int)) := h6
    exact .inr ⟨i, hi, h4, zr9 hi h5, by simp [z2j, z2c, Tree.run, h']⟩
theorem zw8 (l : List Int) (kd : Disk) (n : Int) (hl : l.length ≤ 100000) (h : Rng kd n) (i j : Nat) (b : List Int) (hb : b.length = l.length) (hd : b.drop i = l.drop i) (ht : b.take j = cutL (l.take i) kd.addr (2 * n)) (hji : j ≤ i) (hi : i ≤ l.length) :
    ∃ (k : Nat) (b' : List Int), z2m none (kd, n) ⟨(j : Int), (i : Int), b⟩ = some ((k : Int), b') ∧ k ≤ l.length ∧ b'.length = l.length ∧ b'.take k = cutL l kd.addr (2 * n) := by
  obtain ⟨r, hr, k, b', e1, e2, e3, e4⟩ := zlc (f := fun s => (z1n (kd, n) s).run)
    (fun s => ∃ (i j : Nat) (b : List Int), s = ⟨(j : Int), (i : Int), b⟩ ∧ b.length = l.length ∧ b.drop i = l.drop i ∧ b.take j = cutL (l.take i) kd.addr (2 * n) ∧ j ≤ i ∧ i ≤ l.length)
    (fun r => ∃ (k : Nat) (b' : List Int), r = ((k : Int), b') ∧ k ≤ l.length ∧ b'.length = l.length ∧ b'.take k = cutL l kd.addr (2 * n))
    (fun s => l.length - s.t6.toNat)
    (by
      rintro s ⟨i, j, b, rfl, hb, hd, ht, hji, hi⟩
      by_cases hlt : i < l.length
      · have hib : i < b.length := by omega
        have he : b[i] = l[i] := by
          have h2 := congrArg (fun x => x[0]?) hd
          simp only [List.getElem?_drop, Nat.add_zero] at h2
          rw [List.getElem?_eq_getElem hib, List.getElem?_eq_getElem hlt] at h2
          exact Option.some.inj h2
        have hd' : b.drop (i + 1) = l.drop (i + 1) := by
          have h2 := congrArg (List.drop 1) hd
          rwa [List.drop_drop, List.drop_drop] at h2
        right
        by_cases hp : Hit kd.addr (2 * n) l[i]
        · refine ⟨⟨(j : Int), ((i + 1 : Nat) : Int), b⟩, ?_, ⟨i + 1, j, b, rfl, hb, hd', ?_, by omega, hlt⟩, ?_⟩
          · simp [z1n, Tree.run, hb, hlt, hib, he, zt hlt (show l.length ≤ 9223372036854775807 by omega), zpr _ kd n h, hp]
          · rw [z10e hlt, if_pos hp, List.append_nil]; exact ht
          · simp; omega
        · have hjb : j < b.length := by omega
          have hjl : j < l.length := by omega
          refine ⟨⟨((j + 1 : Nat) : Int), ((i + 1 : Nat) : Int), b.set j l[i]⟩, ?_, ⟨i + 1, j + 1, b.set j l[i], rfl, by rw [List.length_set]; exact hb, ?_, ?_, by omega, hlt⟩, ?_⟩
          · simp [z1n, Tree.run, hb, hlt, hjl, hib, hjb, he, zt hlt (show l.length ≤ 9223372036854775807 by omega), zt hjl (show l.length ≤ 9223372036854775807 by omega), zpr _ kd n h, hp]
          · rw [List.drop_set_of_lt (by omega)]; exact hd'
          · rw [z10e hlt, if_neg hp, ← ht, z3l (by rw [List.length_set]; exact hjb), List.take_set_of_le (Nat.le_refl _)]
            simp
          · simp; omega
      · left
        have hil : i = l.length := by omega
        refine ⟨((j : Int), b), ?_, j, b, rfl, by omega, hb, ?_⟩
        · simp [z1n, Tree.run, hb, hil]
        · rw [ht, hil, List.take_length])
    ⟨(j : Int), (i : Int), b⟩ ⟨i, j, b, rfl, hb, hd, ht, hji, hi⟩
  subst e1
  exact ⟨k, b', hr, e2, e3, e4⟩
theorem z1xv (l : List Int) (kd : Disk) (n : Int) (hl : l.length ≤ 100000) (h : Rng kd n) : z2f none l kd n = some (.inl ()) ∧ cutL l kd.addr (2 * n) = l ∨ ∃ k b, z2f none l kd n = some (.inr ((0, k), b)) ∧ b.take k = cutL l kd.addr (2 * n) := by
  rcases z1xz l kd n hl h with ⟨h4, h5⟩ | ⟨k, hk, h4, he, h6⟩
  · left
    have := z1r8 (k := l.length) h4
    rw [List.take_length] at this
    exact ⟨by simp [z2f, z26, Tree.run, h5], this⟩
  · right
    obtain ⟨m, b, e1, e2, e3, e4⟩ := zw8 l kd n hl h (k + 1) k l rfl rfl (by rw [z10e hk, if_pos he, List.append_nil, z1r8 h4]) (by omega) hk
    have e1' : z2m none (kd, n) ⟨(k : Int), IntKind.wrap .i64 ((k : Int) + 1), l⟩ = some ((m : Int), b) := by
      rw [zt hk (by omega)]; exact e1
    have hlen : (b.take m ++ List.replicate (b.length - m) (0 : Int)).length = b.length := by
      simp; omega
    refine ⟨m, b.take m ++ List.replicate (b.length - m) 0, ?_, ?_⟩
    · have hne : ¬ (k : Int) = -1 := by omega
      have hdrop : b.drop (m + (b.length - m)) = [] := List.drop_eq_nil_of_le (by omega)
      simp [z2f, z26, Tree.run, h6, e1', hne, hdrop]
      omega
    · rw [List.take_append_of_le_length (by rw [List.length_take]; omega), List.take_take, Nat.min_self]
      exact e4
theorem wrap_u8 (x : Int) : IntKind.wrap .u8 x = x % 256 := rfl
theorem shr8 (v : Int) : v.fdiv (2 ^ (min ((8 : Int)).toNat 64)) = v / 256 := by
  rw [show (2 : Int) ^ (min ((8 : Int)).toNat 64) = 256 by decide]; exact Int.fdiv_eq_ediv_of_nonneg _ (by omega)
structure InM (mem : List Int) (a : Int) (n : Nat) : Prop where
  w : C08.Words mem
  a0 : 0 ≤ a
  ae : a % 2 = 0
  a1 : a + 2 * (n : Int) ≤ 2 * (mem.length : Int)
  n1 : n ≤ 64
theorem z19n {mem : List Int} {a : Int} {n : Nat} (h : InM mem a n) {i : Nat} (hi : i < n) : IntKind.wrap .i64 (IntKind.wrap .i64 (a.tdiv 2) + (i : Int)) = a / 2 + (i : Int) ∧ 0 ≤ a / 2 + (i : Int) ∧ mem[(a / 2 + (i : Int)).toNat]? = some (C08.wordAt mem (a + 2 * (i : Int))) ∧ (a / 2 + (i : Int)).toNat < mem.length := by
  obtain ⟨w, a0, ae, a1, n1⟩ := h
  have hm := w.1
  have e : (a + 2 * (i : Int)) / 2 = a / 2 + (i : Int) := by omega
  have w1 : IntKind.wrap .i64 (a.tdiv 2) = a / 2 := by rw [z1ln a0, zh (by omega) (by omega)]
  have g := C08.get_word (m := mem) (a := a + 2 * (i : Int)) (by omega) (by omega)
  rw [e] at g
  exact ⟨by rw [w1, zh] <;> omega, by omega, g, by omega⟩
theorem z1wh (mem : List Int) (a : Int) (n : Nat) (h : InM mem a n) : za4 none ⟨mem, a, (n : Int), (0 : Int), []⟩ = some (C08.bytesL mem a (2 * n)) := by
  have hc := z4i (f := fun s => (z7u s).run) (fun i : Nat => ⟨mem, a, (n : Int), (i : Int), C08.bytesL mem a (2 * i)⟩) n (fun i hi => by
    obtain ⟨w1, k1, g, _⟩ := z19n h hi
    have n1 := h.n1
    have k2 : (i : Int) < (n : Int) := by omega
    have ws := zt hi (show n ≤ 9223372036854775807 by omega)
    have a0 := h.a0
    have ae := h.ae
    have e0 : C08.byteAt mem (a + ((2 * i : Nat) : Int)) = C08.wordAt mem (a + 2 * (i : Int)) % 256 := by
      rw [show a + ((2 * i : Nat) : Int) = a + 2 * (i : Int) by omega]
      exact if_pos (by omega)
    have e1 : C08.byteAt mem (a + ((2 * i + 1 : Nat) : Int)) = C08.wordAt mem (a + 2 * (i : Int)) / 256 % 256 := by
      unfold C08.byteAt
      rw [if_neg (by omega)]
      unfold C08.wordAt
      rw [show (a + ((2 * i + 1 : Nat) : Int)) / 2 = (a + 2 * (i : Int)) / 2 by omega]
    have hb : C08.bytesL mem a (2 * (i + 1)) = C08.bytesL mem a (2 * i) ++ [C08.wordAt mem (a + 2 * (i : Int)) % 256, C08.wordAt mem (a + 2 * (i : Int)) / 256 % 256] := by
      rw [show 2 * (i + 1) = 2 * i + 1 + 1 by omega, C08.bytesL_succ, C08.bytesL_succ, e0, e1, List.append_assoc]; rfl
    have w8 : IntKind.wrap .u8 (IntKind.wrap .i64 ((BitVec.ofInt 64 (C08.wordAt mem (a + 2 * (i : Int))) &&& BitVec.ofInt 64 (255 : Int)).toNat : Int)) = C08.wordAt mem (a + 2 * (i : Int)) % 256 := by
      rw [and255, wrap_u8, Int.emod_emod_of_dvd _ (Int.dvd_refl _)]
    have w9 : IntKind.wrap .u8 ((C08.wordAt mem (a + 2 * (i : Int))).fdiv (2 ^ (min ((8 : Int)).toNat 64))) = C08.wordAt mem (a + 2 * (i : Int)) / 256 % 256 := by
      rw [shr8, wrap_u8]
    have k3 : ((C08.bytesL mem a (2 * i)).length + ([C08.wordAt mem (a + 2 * (i : Int)) % 256, C08.wordAt mem (a + 2 * (i : Int)) / 256 % 256]).length) * 1 ≤ 140737488355328 := by
      rw [C08.bytesL_len]; simp only [List.length_cons, List.length_nil]; omega
    simp only [z7u, Tree.run, k1, k2, k3, w1, g, ws, w8, w9, hb, show ¬ (2 : Int) = 0 by omega, show (0 : Int) ≤ 8 by omega, decide_true, decide_false, Bool.false_eq_true, if_true, if_false, Option.bind_some]) 0 (Nat.zero_le _)
  have hd : za4 none ⟨mem, a, (n : Int), (n : Int), C08.bytesL mem a (2 * n)⟩ = some (C08.bytesL mem a (2 * n)) := z2q (by
    have k1 : ¬ (n : Int) < (n : Int) := by omega
    simp only [z7u, Tree.run, k1, decide_false, Bool.false_eq_true, if_false])
  exact hc.trans hd
theorem z1yk (l : List Int) (hl : l.length ≤ 128) : z7s none ⟨l⟩ = some (l ++ List.replicate (128 - l.length) 0) := by
  have hc := z4i (f := fun s => (z7v s).run) (fun i : Nat => ⟨l ++ List.replicate i 0⟩) (128 - l.length) (fun i hi => by
    have k1 : ((l ++ List.replicate i (0 : Int)).length : Int) < 128 := by simp only [List.length_append, List.length_replicate]; omega
    have k2 : ((l ++ List.replicate i (0 : Int)).length + ([(0 : Int)]).length) * 1 ≤ 140737488355328 := by simp only [List.length_append, List.length_replicate, List.length_cons, List.length_nil]; omega
    have e : l ++ List.replicate i (0 : Int) ++ [0] = l ++ List.replicate (i + 1) 0 := by rw [List.append_assoc, List.replicate_succ']
    simp only [z7v, Tree.run, k1, k2, e, decide_true, if_true]) 0 (Nat.zero_le _)
  have hd : z7s none ⟨l ++ List.replicate (128 - l.length) 0⟩ = some (l ++ List.replicate (128 - l.length) 0) := z2q (by
    have k1 : ¬ ((l ++ List.replicate (128 - l.length) (0 : Int)).length : Int) < 128 := by simp only [List.length_append, List.length_replicate]; omega
    simp only [z7v, Tree.run, k1, decide_false, Bool.false_eq_true, if_false])
  have h0 : z7s none ⟨l ++ List.replicate 0 0⟩ = _ := hc.trans hd
  rw [List.replicate_zero, List.append_nil] at h0
  exact h0
theorem z1jc (mem : List Int) (a : Int) (n : Nat) (h : InM mem a n) : z1u none mem a (n : Int) = some (padL (C08.outB mem a (2 * n))) := by
  have n1 := h.n1
  have e1 := z1wh mem a n h
  have e2 := z1yk (C08.bytesL mem a (2 * n)) (by rw [C08.bytesL_len]; omega)
  simp only [z1u, zg6, Tree.run, e1, e2, Option.bind_some, List.map_append, List.map_replicate, padL, C08.outB_len, C08.bytesL_len]
  rfl
def at16 (s : List UInt8) (i : Nat) : Int := ((s.getD (2 * i) 0).toNat : Int) + 256 * ((s.getD (2 * i + 1) 0).toNat : Int)
theorem z1r0 (s : List UInt8) (i : Nat) (h : 2 * i + 1 < s.length) (hl : s.length ≤ 1000) : zr7 s (i : Int) = some (at16 s i) := by
  have w1 : IntKind.wrap .i64 (2 * (i : Int)) = ((2 * i : Nat) : Int) := by rw [zh] <;> omega
  have w2 : IntKind.wrap .i64 (((2 * i : Nat) : Int) + 1) = ((2 * i + 1 : Nat) : Int) := by rw [zh] <;> omega
  have k1 : (0 : Int) ≤ ((2 * i : Nat) : Int) := by omega
  have k2 : (0 : Int) ≤ ((2 * i + 1 : Nat) : Int) := by omega
  have g1 : s[2 * i]? = some (s.getD (2 * i) 0) := by simp [List.getD, List.getElem?_eq_getElem (show 2 * i < s.length by omega)]
  have g2 : s[2 * i + 1]? = some (s.getD (2 * i + 1) 0) := by simp [List.getD, List.getElem?_eq_getElem h]
  have b1 := C08.byte_lt (s.getD (2 * i) 0)
  have b2 := C08.byte_lt (s.getD (2 * i + 1) 0)
  have w5 : IntKind.wrap .i64 ((s.getD (2 * i) 0).toNat : Int) = ((s.getD (2 * i) 0).toNat : Int) := zh (by omega) (by omega)
  have w6 : IntKind.wrap .i64 ((s.getD (2 * i + 1) 0).toNat : Int) = ((s.getD (2 * i + 1) 0).toNat : Int) := zh (by omega) (by omega)
  have w7 : IntKind.wrap .i64 (256 * ((s.getD (2 * i + 1) 0).toNat : Int)) = 256 * ((s.getD (2 * i + 1) 0).toNat : Int) := zh (by omega) (by omega)
  have w8 : IntKind.wrap .i64 (((s.getD (2 * i) 0).toNat : Int) + 256 * ((s.getD (2 * i + 1) 0).toNat : Int)) = at16 s i := zh (by omega) (by omega)
  simp only [zr7, zt8, Tree.run, w1, w2, k1, k2, g1, g2, w5, w6, w7, w8, decide_true, if_true, Int.toNat_natCast, Option.bind_some]
theorem z1yj {mem : List Int} {a : Int} {n : Nat} (h : InM mem a n) {s : List UInt8} (hs : 2 * n ≤ s.length) : (∀ i, i < n → C08.wordAt mem (a + 2 * (i : Int)) = at16 s i) ↔ s.take (2 * n) = C08.outB mem a (2 * n) := by
  have a0 := h.a0
  have ae := h.ae
  have a1 := h.a1
  have lo : ∀ i, i < n → (C08.outB mem a (2 * n))[2 * i]? = some (UInt8.ofNat (C08.wordAt mem (a + 2 * (i : Int)) % 256).toNat) := fun i hi => by
    unfold C08.outB C08.bytesL
    rw [List.getElem?_map, List.getElem?_map, List.getElem?_range (by omega)]
    simp only [Option.map_some]
    rw [show a + ((2 * i : Nat) : Int) = a + 2 * (i : Int) by omega]
    rw [show C08.byteAt mem (a + 2 * (i : Int)) = C08.wordAt mem (a + 2 * (i : Int)) % 256 from if_pos (by omega)]
  have hi' : ∀ i, i < n → (C08.outB mem a (2 * n))[2 * i + 1]? = some (UInt8.ofNat (C08.wordAt mem (a + 2 * (i : Int)) / 256 % 256).toNat) := fun i hi => by
    unfold C08.outB C08.bytesL
    rw [List.getElem?_map, List.getElem?_map, List.getElem?_range (by omega)]
    simp only [Option.map_some]
    have : C08.byteAt mem (a + ((2 * i + 1 : Nat) : Int)) = C08.wordAt mem (a + 2 * (i : Int)) / 256 % 256 := by
      unfold C08.byteAt
      rw [if_neg (by omega)]
      unfold C08.wordAt
      rw [show (a + ((2 * i + 1 : Nat) : Int)) / 2 = (a + 2 * (i : Int)) / 2 by omega]
    rw [this]
  have hw : ∀ i, i < n → 0 ≤ C08.wordAt mem (a + 2 * (i : Int)) ∧ C08.wordAt mem (a + 2 * (i : Int)) ≤ 65535 := fun i hi => C08.word_in h.w (by omega) (by omega)
  constructor
  · intro hh
    apply List.ext_getElem?
    intro j
    by_cases hj : j < 2 * n
    · have hi : j / 2 < n := by omega
      have hq := hh (j / 2) hi
      have hwi := hw (j / 2) hi
      have b1 := C08.byte_lt (s.getD (2 * (j / 2)) 0)
      have b2 := C08.byte_lt (s.getD (2 * (j / 2) + 1) 0)
      unfold at16 at hq
      rw [List.getElem?_take_of_lt hj]
      rcases Nat.mod_two_eq_zero_or_one j with hm | hm
      · have e : 2 * (j / 2) = j := by omega
        have := lo (j / 2) hi
        rw [e] at this
        rw [this, List.getElem?_eq_getElem (by omega)]
        rw [hq, e]
        have hg : s.getD j 0 = s[j] := by simp [List.getD, List.getElem?_eq_getElem (show j < s.length by omega)]
        rw [hg]
        have hb := C08.byte_lt s[j]
        congr 1
        apply UInt8.toNat_inj.1
        rw [UInt8.toNat_ofNat']
        omega
      · have e : 2 * (j / 2) + 1 = j := by omega
        have := hi' (j / 2) hi
        rw [e] at this
        rw [this, List.getElem?_eq_getElem (by omega)]
        rw [hq, e]
        have hg : s.getD j 0 = s[j] := by simp [List.getD, List.getElem?_eq_getElem (show j < s.length by omega)]
        rw [hg]
        have hb := C08.byte_lt s[j]
        congr 1
        apply UInt8.toNat_inj.1
        rw [UInt8.toNat_ofNat']
        omega
    · rw [List.getElem?_eq_none (by rw [List.length_take]; omega), List.getElem?_eq_none (by rw [C08.outB_len]; omega)]
  · intro hh i hi
    have e1 := congrArg (fun l => l[2 * i]?) hh
    have e2 := congrArg (fun l => l[2 * i + 1]?) hh
    simp only [lo i hi, hi' i hi] at e1 e2
    rw [List.getElem?_take_of_lt (by omega), List.getElem?_eq_getElem (by omega)] at e1 e2
    have hwi := hw i hi
    unfold at16
    have g1 : s.getD (2 * i) 0 = s[2 * i] := by simp [List.getD, List.getElem?_eq_getElem (show 2 * i < s.length by omega)]
    have g2 : s.getD (2 * i + 1) 0 = s[2 * i + 1] := by simp [List.getD, List.getElem?_eq_getElem (show 2 * i + 1 < s.length by omega)]
    rw [g1, g2, Option.some.inj e1, Option.some.inj e2, UInt8.toNat_ofNat', UInt8.toNat_ofNat']
    omega
theorem z1dg (mem : List Int) (a : Int) (n : Nat) (s : List UInt8) (h : InM mem a n) (hs : s.length = 128) : z36 none mem a (n : Int) s = some (!decide (s.take (2 * n) = C08.outB mem a (2 * n))) := by
  have n1 := h.n1
  have hc := z2r (f := fun s => (z5o s).run) (fun i : Nat => ⟨mem, a, (n : Int), s, (i : Int)⟩) n (fun i => C08.wordAt mem (a + 2 * (i : Int)) = at16 s i) (fun i => .inl true) (.inr ())
    (fun i hi hp => by
      obtain ⟨w1, k1, g, _⟩ := z19n h hi
      have k2 : (i : Int) < (n : Int) := by omega
      have ws := zt hi (show n ≤ 9223372036854775807 by omega)
      have ha := z1r0 s i (by omega) (by omega)
      simp only [z5o, Tree.run, k1, k2, w1, g, ws, ha, hp, show ¬ (2 : Int) = 0 by omega, decide_true, decide_false, Bool.not_true, Bool.false_eq_true, if_true, if_false, Option.bind_some])
    (fun i hi hp => by
      obtain ⟨w1, k1, g, _⟩ := z19n h hi
      have k2 : (i : Int) < (n : Int) := by omega
      have ha := z1r0 s i (by omega) (by omega)
      simp only [z5o, Tree.run, k1, k2, w1, g, ha, hp, show ¬ (2 : Int) = 0 by omega, decide_true, decide_false, Bool.not_false, Bool.false_eq_true, if_true, if_false, Option.bind_some])
    (by
      have k1 : ¬ (n : Int) < (n : Int) := by omega
      simp only [z5o, Tree.run, k1, decide_false, Bool.false_eq_true, if_false])
  have hb := z1yj h (s := s) (by omega)
  rcases hc with ⟨q1, q2⟩ | ⟨i, hi, q1, q2⟩
  · have q2' : z8n none ⟨mem, a, (n : Int), s, (0 : Int)⟩ = some (.inr ()) := q2
    have := hb.1 q1
    simp [z36, zb8, Tree.run, q2', this]
  · have q2' : z8n none ⟨mem, a, (n : Int), s, (0 : Int)⟩ = some (.inl true) := q2
    have : ¬ s.take (2 * n) = C08.outB mem a (2 * n) := fun e => q1 (hb.2 e i hi)
    simp [z36, zb8, Tree.run, q2', this]
theorem z21a (M : List Int) (a c d : Int) (h0 : 0 ≤ a) (he : a % 2 = 0) (h1 : a < 2 * (M.length : Int)) (hc : 0 ≤ c ∧ c ≤ 255) : C08.setB (C08.setB M a c) (a + 1) d = M.set (a / 2).toNat (c + 256 * d) := by
  have hk : ((a + 1) / 2).toNat = (a / 2).toNat := by omega
  have hlt : (a / 2).toNat < M.length := by omega
  unfold C08.setB
  rw [hk, List.set_set]
  congr 1
  have hw : C08.wordAt (M.set (a / 2).toNat (C08.putB (C08.wordAt M a) a c)) (a + 1) = C08.putB (C08.wordAt M a) a c := by
    simp [C08.wordAt, hk, List.getD, hlt]
  rw [hw]
  unfold C08.putB
  rw [if_pos he, if_neg (by omega)]
  omega
theorem z1v6 (bad : List Int) (n : Nat) (s : List UInt8) (mem : List Int) (k k' : Disk) (h : InM mem k.addr n) (hs : s.length = 128) : zq none ⟨bad, (n : Int), s, (0 : Int), mem, k, k'⟩ = some (bad, (n : Int), C08.storeL mem k.addr (s.take (2 * n)), k, k') := by
  have n1 := h.n1
  have hm := h.w.1
  have a0 := h.a0
  have ae := h.ae
  have a1 := h.a1
  have hc := z4i (f := fun s => (z9x s).run) (fun i : Nat => ⟨bad, (n : Int), s, (i : Int), C08.storeL mem k.addr (s.take (2 * i)), k, k'⟩) n (fun i hi => by
    obtain ⟨w1, k1, g, hlt⟩ := z19n h hi
    have hlen : (C08.storeL mem k.addr (s.take (2 * i))).length = mem.length := C08.storeL_len _ _ _
    have k2 : (i : Int) < (n : Int) := by omega
    have ws := zt hi (show n ≤ 9223372036854775807 by omega)
    have ha := z1r0 s i (by omega) (by omega)
    have k3 : k.addr / 2 + (i : Int) < ((C08.storeL mem k.addr (s.take (2 * i))).length : Int) := by rw [hlen]; omega
    have g3 := List.getElem?_eq_getElem (l := C08.storeL mem k.addr (s.take (2 * i))) (i := (k.addr / 2 + (i : Int)).toNat) (by omega)
    have i1 : 2 * i < s.length := by omega
    have i2 : 2 * i + 1 < s.length := by omega
    have hset : C08.storeL mem k.addr (s.take (2 * (i + 1))) = (C08.storeL mem k.addr (s.take (2 * i))).set (k.addr / 2 + (i : Int)).toNat (at16 s i) := by
      rw [show 2 * (i + 1) = 2 * i + 1 + 1 by omega, z3l i2, C08.storeL_more, z3l i1, C08.storeL_more]
      have e1 : (s.take (2 * i)).length = 2 * i := by rw [List.length_take]; omega
      have e2 : (s.take (2 * i) ++ [s[2 * i]]).length = 2 * i + 1 := by rw [List.length_append, e1]; rfl
      rw [e1, e2, show k.addr + ((2 * i + 1 : Nat) : Int) = k.addr + ((2 * i : Nat) : Int) + 1 by omega]
      rw [z21a _ _ _ _ (by omega) (by omega) (by rw [hlen]; omega) (C08.byte_lt _)]
      rw [show (k.addr + ((2 * i : Nat) : Int)) / 2 = k.addr / 2 + (i : Int) by omega]
      simp [at16, List.getD, i1, i2]
    simp only [z9x, Tree.run, k1, k2, k3, w1, g3, ws, ha, hset, show ¬ (2 : Int) = 0 by omega, decide_true, decide_false, Bool.false_eq_true, if_true, if_false, Option.bind_some]) 0 (Nat.zero_le _)
  have hd : zq none ⟨bad, (n : Int), s, (n : Int), C08.storeL mem k.addr (s.take (2 * n)), k, k'⟩ = some (bad, (n : Int), C08.storeL mem k.addr (s.take (2 * n)), k, k') := z2q (by
    have k1 : ¬ (n : Int) < (n : Int) := by omega
    simp only [z9x, Tree.run, k1, decide_false, Bool.false_eq_true, if_false])
  exact hc.trans hd
theorem z1v5 (bad : List Int) (n : Int) (mem : List Int) (k k' : Disk) (h : Rng k n) (hl : bad.length ≤ 100000) : zr none ⟨bad, n, (0 : Int), mem, k, k', []⟩ = some (n, mem, k, k', cutL bad k.addr (2 * n)) := by
  obtain ⟨a0, a1, n0, n1⟩ := id h
  have w1 : IntKind.wrap .i64 (2 * n) = 2 * n := zh (by omega) (by omega)
  have w : IntKind.wrap .i64 (k.addr + 2 * n) = k.addr + 2 * n := zh (by omega) (by omega)
  have hc := z4i (f := fun s => (z6k s).run) (fun i : Nat => ⟨bad, n, (i : Int), mem, k, k', cutL (bad.take i) k.addr (2 * n)⟩) bad.length (fun i hi => by
    have k1 : (i : Int) < (bad.length : Int) := by omega
    have k2 : (0 : Int) ≤ (i : Int) := by omega
    have g := List.getElem?_eq_getElem hi
    have ws := zt hi (show bad.length ≤ 9223372036854775807 by omega)
    have hlen : (cutL (bad.take i) k.addr (2 * n)).length ≤ i := by
      have := z1wx (bad.take i) k.addr (2 * n)
      rw [List.length_take] at this
      exact Nat.le_trans this (by omega)
    have k3 : ((cutL (bad.take i) k.addr (2 * n)).length + ([bad[i]]).length) * 8 ≤ 140737488355328 := by
      simp only [List.length_cons, List.length_nil]; omega
    have hm := z10e (a := k.addr) (n := 2 * n) hi
    by_cases c1 : bad[i] < k.addr
    · have hh : ¬ Hit k.addr (2 * n) bad[i] := fun h => by have := h.1; omega
      rw [if_neg hh] at hm
      simp only [z6k, Tree.run, k1, k2, k3, g, w1, w, ws, c1, decide_true, if_true, Int.toNat_natCast, Option.bind_some, hm]
    · by_cases c2 : k.addr + 2 * n ≤ bad[i]
      · have hh : ¬ Hit k.addr (2 * n) bad[i] := fun h => by have := h.2; omega
        rw [if_neg hh] at hm
        simp only [z6k, Tree.run, k1, k2, k3, g, w1, w, ws, c1, c2, decide_true, decide_false, Bool.false_eq_true, if_false, if_true, Int.toNat_natCast, Option.bind_some, hm]
      · have hh : Hit k.addr (2 * n) bad[i] := ⟨by omega, by omega⟩
        rw [if_pos hh, List.append_nil] at hm
        simp only [z6k, Tree.run, k1, k2, k3, g, w1, w, ws, c1, c2, decide_true, decide_false, Bool.false_eq_true, if_false, if_true, Int.toNat_natCast, Option.bind_some, hm]) 0 (Nat.zero_le _)
  have hd : zr none ⟨bad, n, (bad.length : Int), mem, k, k', cutL (bad.take bad.length) k.addr (2 * n)⟩ = some (n, mem, k, k', cutL (bad.take bad.length) k.addr (2 * n)) := z2q (by
    have k1 : ¬ (bad.length : Int) < (bad.length : Int) := by omega
    simp only [z6k, Tree.run, k1, decide_false, Bool.false_eq_true, if_false])
  have hc' := hc.trans hd
  rw [List.take_length] at hc'
  exact hc'
def nK (k : Disk) : Int := if 64 < k.words then 64 else k.words
def stopK (k : Disk) : Disk := ⟨k.drive, k.enable, true, true, k.command, k.words, k.addr, k.start, k.left - 1⟩
def nextK (k : Disk) (d : Drive) : Disk := ⟨d, k.enable, if k.words - nK k = 0 then true else k.ready, k.error, k.command, k.words - nK k, (k.addr + 2 * nK k) % 65536, (k.start + 1) % 65536, if k.words - nK k = 0 then k.left - 1 else 8⟩
noncomputable def tickV (k : Disk) (mem bad : List Int) : Disk × List Int × List Int :=
  if k.left = 0 then (k, mem, bad)
  else if 0 < k.left - 1 then ({ k with left := k.left - 1 }, mem, bad)
  else if ¬ C08.Wn mem k.addr (2 * nK k) then (stopK k, mem, bad)
  else if k.command = 2 then
    (if (writeD k.drive k.start (C08.outB mem k.addr (2 * nK k).toNat)).2 = 0 ∧ ¬ SpoiltP bad k.addr (2 * nK k) then (nextK k (writeD k.drive k.start (C08.outB mem k.addr (2 * nK k).toNat)).1, mem, bad) else (stopK k, mem, bad))
  else if ¬ (readD k.drive k.start).2 = 0 then (stopK k, mem, bad)
  else if k.command = 3 then
    (if (readD k.drive k.start).1.take (2 * nK k).toNat = C08.outB mem k.addr (2 * nK k).toNat ∧ ¬ SpoiltP bad k.addr (2 * nK k) then (nextK k k.drive, mem, bad) else (stopK k, mem, bad))
  else (nextK k k.drive, C08.storeL mem k.addr ((readD k.drive k.start).1.take (2 * nK k).toNat), cutL bad k.addr (2 * nK k))
structure Okay (k : Disk) (mem bad : List Int) : Prop where
  rt : RtK k
  w : C08.Words mem
  b : bad.length ≤ 100000
  d : k.drive.bad.length ≤ 100000
theorem z1qj {k : Disk} (h : RtK k) : 0 ≤ nK k ∧ nK k ≤ 64 ∧ nK k ≤ k.words := by
  obtain ⟨_, ⟨h1, h2⟩, _⟩ := h
  unfold nK
  split <;> omega
theorem zlh {d : Drive} (h : RtV d) {i : Int} (hr : (readD d i).2 = 0) : (readD d i).1.length = 128 := by
  unfold readD at hr ⊢
  by_cases c1 : HasD d i
  · rw [if_pos c1] at hr ⊢
    by_cases c2 : i ∈ d.bad
    · rw [if_pos c2] at hr; exact absurd hr (by simp)
    · rw [if_neg c2]
      exact h.2.2.1 _ (List.mem_of_getElem? (zra c1))
  · rw [if_neg c1] at hr; exact absurd hr (by simp)
theorem Tick16_def (k : Disk) (mem bad : List Int) (h : Okay k mem bad) : zdk none k mem bad = some (tickV k mem bad) := by
  obtain ⟨hk, hw, hb, hd⟩ := h
  obtain ⟨n0, n1, n2⟩ := z1qj hk
  obtain ⟨⟨c0, c1⟩, ⟨w0, w1⟩, ⟨a0, a1, a2⟩, ⟨s0, s1⟩, ⟨l0, l1⟩, hrd, hz, hv⟩ := id hk
  have hv1 := hv.2.1
  have e0 : IntKind.wrap .i64 (k.left - 1) = k.left - 1 := zh (by omega) (by omega)
  have en : (if (64 : Int) < k.words then (64 : Int) else k.words) = nK k := rfl
  simp only [zdk, zg4, Tree.run, e0, en]
  unfold tickV
  by_cases q1 : k.left = 0
  · simp only [q1, decide_true, if_true]
  by_cases q2 : 0 < k.left - 1
  · simp only [q1, q2, decide_true, decide_false, Bool.false_eq_true, if_true, if_false]
  simp only [q1, q2, decide_false, Bool.false_eq_true, if_false]
  have hR : Rng ⟨k.drive, k.enable, k.ready, k.error, k.command, k.words, k.addr, k.start, k.left - 1⟩ (nK k) := ⟨a0, a1, n0, n1⟩
  have e1 : IntKind.wrap .i64 (2 * nK k) = 2 * nK k := zh (by omega) (by omega)
  have e2 : IntKind.wrap .i64 (k.addr + 2 * nK k) = k.addr + 2 * nK k := zh (by omega) (by omega)
  have e3 : IntKind.wrap .i64 (k.words - nK k) = k.words - nK k := zh (by omega) (by omega)
  have e4 : IntKind.wrap .i64 (k.start + 1) = k.start + 1 := zh (by omega) (by omega)
  have p1 := C08.Bytes_def mem k.addr (2 * nK k) hw.1
  have p2 := z1yz k.drive k.start (C08.outB mem k.addr (2 * nK k).toNat) (by omega) (by omega)
  have p3 := z20h k.drive k.start (by omega)
  have p4 := z1r7 bad _ (nK k) hb hR
  simp only [zgg, zap, Tree.run, e1, p1, p3, p4, Option.bind_some, C08.bytesM]
  by_cases q3 : C08.Wn mem k.addr (2 * nK k)
  rotate_left
  · simp only [q3, if_false, not_false_eq_true, if_true, show ¬ (2 : Int) = 0 by omega, decide_false, Bool.not_false, Option.bind_some, stopK]
  simp only [q3, if_true, not_true_eq_false, if_false, decide_true, Bool.not_true, Bool.false_eq_true, p2, Option.bind_some]
  by_cases q4 : k.command = 2
  · simp only [q4, decide_true, if_true]
    by_cases q5 : (writeD k.drive k.start (C08.outB mem k.addr (2 * nK k).toNat)).2 = 0
    · simp only [q5, decide_true, if_true, Option.bind_some]
      by_cases q6 : SpoiltP bad k.addr (2 * nK k)
      · simp only [q6, decide_true, Bool.not_true, Bool.not_false, if_true, not_true_eq_false, and_false, if_false, stopK, q4]
      · simp only [q6, decide_false, Bool.not_false, Bool.not_true, Bool.false_eq_true, if_false, not_false_eq_true, and_true, if_true, e1, e2, e3, e4, zdh, nextK, q4]
        by_cases q7 : k.words - nK k = 0
        · simp only [q7, decide_true, if_true]
        · simp only [q7, decide_false, Bool.false_eq_true, if_false]
    · simp only [q5, decide_false, Bool.false_eq_true, if_false, Bool.not_false, if_true, false_and, Option.bind_some, stopK, q4]
  simp only [q4, decide_false, Bool.false_eq_true, if_false]
  by_cases q5 : (readD k.drive k.start).2 = 0
  rotate_left
  · simp only [q5, decide_false, Bool.not_false, if_true, not_false_eq_true, Option.bind_some, stopK]
  have hlen := zlh hv q5
  have k1 : (0 : Int) ≤ 2 * nK k := by omega
  have k2 : 2 * nK k ≤ (((readD k.drive k.start).1.length : Nat) : Int) := by omega
  simp only [q5, decide_true, Bool.not_true, Bool.false_eq_true, if_false, not_true_eq_false, k1, k2, if_true, List.drop_zero, Nat.sub_zero]
  by_cases q6 : k.command = 3
  · simp only [q6, decide_true, if_true]
    by_cases q7 : (readD k.drive k.start).1.take (2 * nK k).toNat = C08.outB mem k.addr (2 * nK k).toNat
    · simp only [q7, decide_true, if_true, true_and, Option.bind_some]
      by_cases q8 : SpoiltP bad k.addr (2 * nK k)
      · simp only [q8, decide_true, Bool.not_true, Bool.not_false, if_true, not_true_eq_false, if_false, stopK, q6]
      · simp only [q8, decide_false, Bool.not_false, Bool.not_true, Bool.false_eq_true, if_false, not_false_eq_true, if_true, e1, e2, e3, e4, zdh, nextK, q6]
        by_cases q9 : k.words - nK k = 0
        · simp only [q9, decide_true, if_true]
        · simp only [q9, decide_false, Bool.false_eq_true, if_false]
    · simp only [q7, decide_false, Bool.false_eq_true, if_false, Bool.not_false, if_true, false_and, Option.bind_some, stopK, q6]
  simp only [q6, decide_false, Bool.false_eq_true, if_false]
  have htl : ((readD k.drive k.start).1.take (2 * nK k).toNat).length = (2 * nK k).toNat := by rw [List.length_take]; omega
  have p5 := C08.Store_def mem k.addr ((readD k.drive k.start).1.take (2 * nK k).toNat) hw
  have hst : C08.storeM mem k.addr ((readD k.drive k.start).1.take (2 * nK k).toNat) = (C08.storeL mem k.addr ((readD k.drive k.start).1.take (2 * nK k).toNat), 0) := by
    unfold C08.storeM
    rw [htl, if_pos (by rw [Int.toNat_of_nonneg k1]; exact q3)]
  have p6 := z10c 8 bad (by omega)
  have p7 := z1xv bad _ (nK k) hb hR
  have fin : ∀ l : List Int, l = cutL bad k.addr (2 * nK k) → (if k.words - nK k = 0 then some (⟨k.drive, k.enable, true, k.error, k.command, k.words - nK k, (k.addr + 2 * nK k) % 65536, (k.start + 1) % 65536, k.left - 1⟩, C08.storeL mem k.addr ((readD k.drive k.start).1.take (2 * nK k).toNat), l) else some (⟨k.drive, k.enable, k.ready, k.error, k.command, k.words - nK k, (k.addr + 2 * nK k) % 65536, (k.start + 1) % 65536, 8⟩, C08.storeL mem k.addr ((readD k.drive k.start).1.take (2 * nK k).toNat), l)) = some ((nextK k k.drive, C08.storeL mem k.addr ((readD k.drive k.start).1.take (2 * nK k).toNat), cutL bad k.addr (2 * nK k)) : Disk × List Int × List Int) := by
    intro l hl
    subst hl
    unfold nextK
    by_cases q9 : k.words - nK k = 0
    · simp only [q9, if_true]
    · simp only [q9, if_false]
  rw [hst] at p5
  simp only [p5, p6, Option.bind_some]
  rcases p7 with ⟨d1, d2⟩ | ⟨j, b, d1, d2⟩
  · simp only [d1, Option.bind_some, Sum.isLeft_inl, if_true, Sum.getLeft?_inl, decide_true, Bool.not_true, Bool.false_eq_true, if_false, e1, e2, e3, e4, zdh, decide_eq_true_eq]
    exact fin _ d2.symm
  · simp only [d1, Option.bind_some, Sum.isLeft_inr, Bool.false_eq_true, if_false, Sum.getRight?_inr, List.drop_zero, decide_true, Bool.not_true, e1, e2, e3, e4, zdh, decide_eq_true_eq]
    exact fin _ d2
theorem z47 (k : Disk) : zz k = some ⟨k.drive, k.enable, true, true, k.command, k.words, k.addr, k.start, k.left⟩ := rfl
theorem z1of (d : Drive) (i : Int) (s : List UInt8) (h : s.length ≤ 128) : writeD d i (padL s) = writeD d i s := by
  have h1 := z1xi h
  have h2 : padL (padL s) = padL s := by
    show padL s ++ List.replicate (128 - (padL s).length) 0 = padL s
    rw [h1, Nat.sub_self, List.replicate_zero, List.append_nil]
  unfold writeD
  rw [h1, h2, if_neg (show ¬ 128 < 128 by omega), if_neg (show ¬ 128 < s.length by omega)]
theorem ref_Tick16_def (k : Disk) (mem bad : List Int) (h : Okay k mem bad) : z1h none k mem bad = some (tickV k mem bad) := by
  obtain ⟨hk, hw, hb, hd⟩ := h
  obtain ⟨n0, n1, n2⟩ := z1qj hk
  obtain ⟨⟨c0, c1⟩, ⟨w0, w1⟩, ⟨a0, a1, a2⟩, ⟨s0, s1⟩, ⟨l0, l1⟩, hrd, hz, hv⟩ := id hk
  have hv1 := hv.2.1
  have hml := hw.1
  have e0 : IntKind.wrap .i64 (k.left - 1) = k.left - 1 := zh (by omega) (by omega)
  unfold tickV
  by_cases q1 : k.left = 0
  · simp only [z1h, z1g, Tree.run, q1, decide_true, if_true]
  by_cases q2 : 0 < k.left - 1
  · simp only [z1h, z1g, Tree.run, e0, q1, q2, decide_true, decide_false, Bool.false_eq_true, if_true, if_false]
  have hcm : k.command = 1 ∨ k.command = 2 ∨ k.command = 3 := by rcases hz with hz | hz <;> omega
  have e1 : IntKind.wrap .i64 (2 * nK k) = 2 * nK k := zh (by omega) (by omega)
  have e2 : IntKind.wrap .i64 (k.addr + 2 * nK k) = k.addr + 2 * nK k := zh (by omega) (by omega)
  have e3 : IntKind.wrap .i64 (k.words - nK k) = k.words - nK k := zh (by omega) (by omega)
  have e4 : IntKind.wrap .i64 (k.start + 1) = k.start + 1 := zh (by omega) (by omega)
  have e5 : IntKind.wrap .i64 (2 * (mem.length : Int)) = 2 * (mem.length : Int) := zh (by omega) (by omega)
  have e6 : (k.addr + 2 * nK k).tmod 65536 = (k.addr + 2 * nK k) % 65536 := z21 (by omega) _
  have e7 : (k.start + 1).tmod 65536 = (k.start + 1) % 65536 := z21 (by omega) _
  have p3 := z1uc k.drive k.start (by omega)
  have p4 := z11b bad k (nK k) hb ⟨a0, a1, n0, n1⟩
  have k5 : (([] : List Int).length + mem.length) * 8 ≤ 140737488355328 := by simp only [List.length_nil]; omega
  by_cases c64 : 64 < k.words
  · have hN : nK k = (64 : Int) := if_pos c64
    rw [hN] at n0 n1 n2 p4 e1 e2 e3 e6
    obtain ⟨m, hm⟩ : ∃ m : Nat, (64 : Int) = (m : Int) := ⟨((64 : Int)).toNat, by omega⟩
    rw [hN]
    by_cases q3 : C08.Wn mem k.addr (2 * (64 : Int))
    rotate_left
    · have q3' : 2 * (mem.length : Int) < k.addr + 2 * (64 : Int) := by
        rcases Int.lt_or_le (2 * (mem.length : Int)) (k.addr + 2 * (64 : Int)) with h | h
        · exact h
        · exact absurd (⟨a0, by omega, by omega, by omega⟩ : C08.Wn mem k.addr (2 * (64 : Int))) q3
      simp only [z1h, z1g, Tree.run, e0, e1, e2, e5, q1, q2, q3, q3', c64, decide_true, decide_false, Bool.false_eq_true, if_true, if_false, not_false_eq_true, z47, Option.bind_some, stopK]
    have q3' : ¬ 2 * (mem.length : Int) < k.addr + 2 * (64 : Int) := by have := q3.2.2.2; omega
    have hI : ∀ a, a = k.addr → InM mem a m := fun a ha => ⟨hw, by omega, by omega, by have := q3.2.2.2; omega, by omega⟩
    have e8 : (2 * (64 : Int)).toNat = 2 * m := by omega
    rcases hcm with q | q | q
    · by_cases q5 : (readD k.drive k.start).2 = 0
      rotate_left
      · simp only [z1h, z1g, Tree.run, e0, e1, e2, e5, q1, q2, q3, q3', c64, q, q5, p3, show ¬ (1 : Int) = 2 by omega, decide_true, decide_false, Bool.false_eq_true, Bool.not_false, if_true, if_false, not_true_eq_false, not_false_eq_true, z47, Option.bind_some, stopK]
      have hlen := zlh hv q5
      have t1 := z1v6 bad m (readD k.drive k.start).1 mem ⟨k.drive, k.enable, k.ready, k.error, k.command, k.words, k.addr, k.start, k.left - 1⟩ ⟨⟨[], []⟩, false, false, false, 0, 0, 0, 0, 0⟩ (hI _ rfl) hlen
      have t2 := z1v5 bad (64 : Int) (C08.storeL mem k.addr ((readD k.drive k.start).1.take (2 * m))) ⟨k.drive, k.enable, k.ready, k.error, k.command, k.words, k.addr, k.start, k.left - 1⟩ ⟨⟨[], []⟩, false, false, false, 0, 0, 0, 0, 0⟩ ⟨a0, a1, by omega, by omega⟩ hb
      rw [← hm] at t1
      rw [q] at t1 t2
      simp only [z1h, z1g, Tree.run, e0, e1, e2, e3, e4, e5, e6, e7, e8, k5, q1, q2, q3, q3', c64, q, q5, p3, t1, t2, show ¬ (1 : Int) = 2 by omega, show ¬ (1 : Int) = 3 by omega, show ¬ (65536 : Int) = 0 by omega, decide_true, decide_false, Bool.false_eq_true, Bool.not_false, Bool.not_true, if_true, if_false, not_true_eq_false, not_false_eq_true, Option.bind_some, nextK, List.nil_append, hN]
      by_cases q9 : k.words - (64 : Int) = 0
      · simp only [q9, decide_true, if_true]
      · simp only [q9, decide_false, Bool.false_eq_true, if_false]
    · by_cases q6 : SpoiltP bad k.addr (2 * (64 : Int))
      · simp only [z1h, z1g, Tree.run, e0, e1, e2, e5, q1, q2, q3, q3', c64, q, q6, p3, p4, show ¬ (2 : Int) = 1 by omega, decide_true, decide_false, Bool.false_eq_true, Bool.not_false, Bool.not_true, if_true, if_false, not_true_eq_false, not_false_eq_true, and_false, z47, Option.bind_some, stopK]
      have hsec := z1jc mem k.addr m (hI _ rfl)
      rw [← hm] at hsec
      have hol : (C08.outB mem k.addr (2 * m)).length ≤ 128 := by rw [C08.outB_len]; omega
      have hwr := z13n k.drive k.start (padL (C08.outB mem k.addr (2 * m))) (by omega) (by omega)
      rw [z1of _ _ _ hol] at hwr
      by_cases q5 : (writeD k.drive k.start (C08.outB mem k.addr (2 * m))).2 = 0
      · simp only [z1h, z1g, Tree.run, e0, e1, e2, e3, e4, e5, e6, e7, e8, k5, q1, q2, q3, q3', c64, q, q5, q6, p3, p4, hsec, hwr, show ¬ (2 : Int) = 1 by omega, show ¬ (2 : Int) = 3 by omega, show ¬ (65536 : Int) = 0 by omega, decide_true, decide_false, Bool.false_eq_true, Bool.not_false, Bool.not_true, if_true, if_false, not_true_eq_false, not_false_eq_true, and_true, Option.bind_some, nextK, hN]
        by_cases q9 : k.words - (64 : Int) = 0
        · simp only [q9, decide_true, if_true]
        · simp only [q9, decide_false, Bool.false_eq_true, if_false]
      · simp only [z1h, z1g, Tree.run, e0, e1, e2, e3, e4, e5, e6, e7, e8, k5, q1, q2, q3, q3', c64, q, q5, q6, p3, p4, hsec, hwr, show ¬ (2 : Int) = 1 by omega, show ¬ (2 : Int) = 3 by omega, show ¬ (65536 : Int) = 0 by omega, decide_true, decide_false, Bool.false_eq_true, Bool.not_false, Bool.not_true, if_true, if_false, not_true_eq_false, not_false_eq_true, and_true, Option.bind_some, z47, stopK]
    · by_cases q5 : (readD k.drive k.start).2 = 0
      rotate_left
      · simp only [z1h, z1g, Tree.run, e0, e1, e2, e5, q1, q2, q3, q3', c64, q, q5, p3, show ¬ (3 : Int) = 2 by omega, decide_true, decide_false, Bool.false_eq_true, Bool.not_false, if_true, if_false, not_true_eq_false, not_false_eq_true, z47, Option.bind_some, stopK]
      have hlen := zlh hv q5
      have hdf := z1dg mem k.addr m (readD k.drive k.start).1 (hI _ rfl) hlen
      rw [← hm] at hdf
      by_cases q6 : SpoiltP bad k.addr (2 * (64 : Int))
      · simp only [z1h, z1g, Tree.run, e0, e1, e2, e5, q1, q2, q3, q3', c64, q, q5, q6, p3, p4, show ¬ (3 : Int) = 1 by omega, show ¬ (3 : Int) = 2 by omega, decide_true, decide_false, Bool.false_eq_true, Bool.not_false, Bool.not_true, if_true, if_false, not_true_eq_false, not_false_eq_true, and_false, z47, Option.bind_some, stopK]
      by_cases q7 : (readD k.drive k.start).1.take (2 * m) = C08.outB mem k.addr (2 * m)
      · simp only [z1h, z1g, Tree.run, e0, e1, e2, e3, e4, e5, e6, e7, e8, k5, q1, q2, q3, q3', c64, q, q5, q6, q7, p3, p4, hdf, show ¬ (3 : Int) = 1 by omega, show ¬ (3 : Int) = 2 by omega, show ¬ (65536 : Int) = 0 by omega, decide_true, decide_false, Bool.false_eq_true, Bool.not_false, Bool.not_true, if_true, if_false, not_true_eq_false, not_false_eq_true, and_self, Option.bind_some, nextK, hN]
        by_cases q9 : k.words - (64 : Int) = 0
        · simp only [q9, decide_true, if_true]
        · simp only [q9, decide_false, Bool.false_eq_true, if_false]
      · simp only [z1h, z1g, Tree.run, e0, e1, e2, e3, e4, e5, e6, e7, e8, k5, q1, q2, q3, q3', c64, q, q5, q6, q7, p3, p4, hdf, show ¬ (3 : Int) = 1 by omega, show ¬ (3 : Int) = 2 by omega, show ¬ (65536 : Int) = 0 by omega, decide_true, decide_false, Bool.false_eq_true, Bool.not_false, Bool.not_true, if_true, if_false, not_true_eq_false, not_false_eq_true, false_and, Option.bind_some, z47, stopK]
  · have hN : nK k = k.words := if_neg c64
    rw [hN] at n0 n1 n2 p4 e1 e2 e3 e6
    obtain ⟨m, hm⟩ : ∃ m : Nat, k.words = (m : Int) := ⟨(k.words).toNat, by omega⟩
    rw [hN]
    by_cases q3 : C08.Wn mem k.addr (2 * k.words)
    rotate_left
    · have q3' : 2 * (mem.length : Int) < k.addr + 2 * k.words := by
        rcases Int.lt_or_le (2 * (mem.length : Int)) (k.addr + 2 * k.words) with h | h
        · exact h
        · exact absurd (⟨a0, by omega, by omega, by omega⟩ : C08.Wn mem k.addr (2 * k.words)) q3
      simp only [z1h, z1g, Tree.run, e0, e1, e2, e5, q1, q2, q3, q3', c64, decide_true, decide_false, Bool.false_eq_true, if_true, if_false, not_false_eq_true, z47, Option.bind_some, stopK]
    have q3' : ¬ 2 * (mem.length : Int) < k.addr + 2 * k.words := by have := q3.2.2.2; omega
    have hI : ∀ a, a = k.addr → InM mem a m := fun a ha => ⟨hw, by omega, by omega, by have := q3.2.2.2; omega, by omega⟩
    have e8 : (2 * k.words).toNat = 2 * m := by omega
    rcases hcm with q | q | q
    · by_cases q5 : (readD k.drive k.start).2 = 0
      rotate_left
      · simp only [z1h, z1g, Tree.run, e0, e1, e2, e5, q1, q2, q3, q3', c64, q, q5, p3, show ¬ (1 : Int) = 2 by omega, decide_true, decide_false, Bool.false_eq_true, Bool.not_false, if_true, if_false, not_true_eq_false, not_false_eq_true, z47, Option.bind_some, stopK]
      have hlen := zlh hv q5
      have t1 := z1v6 bad m (readD k.drive k.start).1 mem ⟨k.drive, k.enable, k.ready, k.error, k.command, k.words, k.addr, k.start, k.left - 1⟩ ⟨⟨[], []⟩, false, false, false, 0, 0, 0, 0, 0⟩ (hI _ rfl) hlen
      have t2 := z1v5 bad k.words (C08.storeL mem k.addr ((readD k.drive k.start).1.take (2 * m))) ⟨k.drive, k.enable, k.ready, k.error, k.command, k.words, k.addr, k.start, k.left - 1⟩ ⟨⟨[], []⟩, false, false, false, 0, 0, 0, 0, 0⟩ ⟨a0, a1, by omega, by omega⟩ hb
      rw [← hm] at t1
      rw [q] at t1 t2
      simp only [z1h, z1g, Tree.run, e0, e1, e2, e3, e4, e5, e6, e7, e8, k5, q1, q2, q3, q3', c64, q, q5, p3, t1, t2, show ¬ (1 : Int) = 2 by omega, show ¬ (1 : Int) = 3 by omega, show ¬ (65536 : Int) = 0 by omega, decide_true, decide_false, Bool.false_eq_true, Bool.not_false, Bool.not_true, if_true, if_false, not_true_eq_false, not_false_eq_true, Option.bind_some, nextK, List.nil_append, hN]
      by_cases q9 : k.words - k.words = 0
      · simp only [q9, decide_true, if_true]
      · simp only [q9, decide_false, Bool.false_eq_true, if_false]
    · by_cases q6 : SpoiltP bad k.addr (2 * k.words)
      · simp only [z1h, z1g, Tree.run, e0, e1, e2, e5, q1, q2, q3, q3', c64, q, q6, p3, p4, show ¬ (2 : Int) = 1 by omega, decide_true, decide_false, Bool.false_eq_true, Bool.not_false, Bool.not_true, if_true, if_false, not_true_eq_false, not_false_eq_true, and_false, z47, Option.bind_some, stopK]
      have hsec := z1jc mem k.addr m (hI _ rfl)
      rw [← hm] at hsec
      have hol : (C08.outB mem k.addr (2 * m)).length ≤ 128 := by rw [C08.outB_len]; omega
      have hwr := z13n k.drive k.start (padL (C08.outB mem k.addr (2 * m))) (by omega) (by omega)
      rw [z1of _ _ _ hol] at hwr
      by_cases q5 : (writeD k.drive k.start (C08.outB mem k.addr (2 * m))).2 = 0
      · simp only [z1h, z1g, Tree.run, e0, e1, e2, e3, e4, e5, e6, e7, e8, k5, q1, q2, q3, q3', c64, q, q5, q6, p3, p4, hsec, hwr, show ¬ (2 : Int) = 1 by omega, show ¬ (2 : Int) = 3 by omega, show ¬ (65536 : Int) = 0 by omega, decide_true, decide_false, Bool.false_eq_true, Bool.not_false, Bool.not_true, if_true, if_false, not_true_eq_false, not_false_eq_true, and_true, Option.bind_some, nextK, hN]
        by_cases q9 : k.words - k.words = 0
        · simp only [q9, decide_true, if_true]
        · simp only [q9, decide_false, Bool.false_eq_true, if_false]
      · simp only [z1h, z1g, Tree.run, e0, e1, e2, e3, e4, e5, e6, e7, e8, k5, q1, q2, q3, q3', c64, q, q5, q6, p3, p4, hsec, hwr, show ¬ (2 : Int) = 1 by omega, show ¬ (2 : Int) = 3 by omega, show ¬ (65536 : Int) = 0 by omega, decide_true, decide_false, Bool.false_eq_true, Bool.not_false, Bool.not_true, if_true, if_false, not_true_eq_false, not_false_eq_true, and_true, Option.bind_some, z47, stopK]
    · by_cases q5 : (readD k.drive k.start).2 = 0
      rotate_left
      · simp only [z1h, z1g, Tree.run, e0, e1, e2, e5, q1, q2, q3, q3', c64, q, q5, p3, show ¬ (3 : Int) = 2 by omega, decide_true, decide_false, Bool.false_eq_true, Bool.not_false, if_true, if_false, not_true_eq_false, not_false_eq_true, z47, Option.bind_some, stopK]
      have hlen := zlh hv q5
      have hdf := z1dg mem k.addr m (readD k.drive k.start).1 (hI _ rfl) hlen
      rw [← hm] at hdf
      by_cases q6 : SpoiltP bad k.addr (2 * k.words)
      · simp only [z1h, z1g, Tree.run, e0, e1, e2, e5, q1, q2, q3, q3', c64, q, q5, q6, p3, p4, show ¬ (3 : Int) = 1 by omega, show ¬ (3 : Int) = 2 by omega, decide_true, decide_false, Bool.false_eq_true, Bool.not_false, Bool.not_true, if_true, if_false, not_true_eq_false, not_false_eq_true, and_false, z47, Option.bind_some, stopK]
      by_cases q7 : (readD k.drive k.start).1.take (2 * m) = C08.outB mem k.addr (2 * m)
      · simp only [z1h, z1g, Tree.run, e0, e1, e2, e3, e4, e5, e6, e7, e8, k5, q1, q2, q3, q3', c64, q, q5, q6, q7, p3, p4, hdf, show ¬ (3 : Int) = 1 by omega, show ¬ (3 : Int) = 2 by omega, show ¬ (65536 : Int) = 0 by omega, decide_true, decide_false, Bool.false_eq_true, Bool.not_false, Bool.not_true, if_true, if_false, not_true_eq_false, not_false_eq_true, and_self, Option.bind_some, nextK, hN]
        by_cases q9 : k.words - k.words = 0
        · simp only [q9, decide_true, if_true]
        · simp only [q9, decide_false, Bool.false_eq_true, if_false]
      · simp only [z1h, z1g, Tree.run, e0, e1, e2, e3, e4, e5, e6, e7, e8, k5, q1, q2, q3, q3', c64, q, q5, q6, q7, p3, p4, hdf, show ¬ (3 : Int) = 1 by omega, show ¬ (3 : Int) = 2 by omega, show ¬ (65536 : Int) = 0 by omega, decide_true, decide_false, Bool.false_eq_true, Bool.not_false, Bool.not_true, if_true, if_false, not_true_eq_false, not_false_eq_true, false_and, Option.bind_some, z47, stopK]
structure Kept (k : Disk) (mem bad : List Int) (r : Disk × List Int × List Int) : Prop where
  ok : Okay r.1 r.2.1 r.2.2
  m : r.2.1.length = mem.length
  b : r.2.2.length ≤ bad.length
  s : r.1.drive.sectors.length = k.drive.sectors.length
  d : r.1.drive.bad = k.drive.bad
theorem z1zm {k : Disk} {mem bad : List Int} (h : Okay k mem bad) : Kept k mem bad (k, mem, bad) := ⟨h, rfl, Nat.le_refl _, rfl, rfl⟩
theorem z1wm {d : Drive} (h : RtV d) {i : Int} {s : List UInt8} (hs : s.length ≤ 128) (hr : (writeD d i s).2 = 0) : RtV (writeD d i s).1 ∧ (writeD d i s).1.sectors.length = d.sectors.length ∧ (writeD d i s).1.bad = d.bad := by
  obtain ⟨h1, h2, h3, h4⟩ := h
  unfold writeD at hr ⊢
  by_cases c1 : HasD d i
  · rw [if_pos c1] at hr ⊢
    rw [if_neg (by omega)] at hr ⊢
    by_cases c2 : i ∈ d.bad
    · rw [if_pos c2] at hr; exact absurd hr (by simp)
    · rw [if_neg c2]
      refine ⟨⟨by simp only [List.length_set]; exact h1, by simp only [List.length_set]; exact h2, fun t ht => ?_, by simp only [List.length_set]; exact h4⟩, by simp only [List.length_set], rfl⟩
      rcases List.mem_or_eq_of_mem_set ht with ht | rfl
      · exact h3 t ht
      · exact z1xi hs
  · rw [if_neg c1] at hr; exact absurd hr (by simp)
theorem z10v {k : Disk} (h : RtK k) {d : Drive} (hd : RtV d) (hl : ¬ k.left = 0) (h1 : ¬ 0 < k.left - 1) : RtK (nextK k d) := by
  obtain ⟨n0, n1, n2⟩ := z1qj h
  obtain ⟨⟨c0, c1⟩, ⟨w0, w1⟩, ⟨a0, a1, a2⟩, ⟨s0, s1⟩, ⟨l0, l1⟩, hrd, hz, hv⟩ := h
  have hz' : ¬ k.command = 0 ∧ ¬ k.words = 0 := by rcases hz with h | h; exact absurd h hl; exact h
  have hr : ¬ k.ready = true := fun e => hl (hrd.1 e)
  unfold nextK RtK
  by_cases q : k.words - nK k = 0
  · simp only [q, if_true]
    exact ⟨⟨c0, c1⟩, ⟨by omega, by omega⟩, ⟨by omega, by omega, by omega⟩, ⟨by omega, by omega⟩, ⟨by omega, by omega⟩, ⟨fun _ => by omega, fun _ => trivial⟩, .inl (by omega), hd⟩
  · simp only [q, if_false]
    exact ⟨⟨c0, c1⟩, ⟨by omega, by omega⟩, ⟨by omega, by omega, by omega⟩, ⟨by omega, by omega⟩, ⟨by omega, by omega⟩, ⟨fun e => absurd e hr, fun e => by cases e⟩, .inr ⟨hz'.1, fun e => e⟩, hd⟩
theorem z1yl {k : Disk} (h : RtK k) (hl : ¬ k.left = 0) (h1 : ¬ 0 < k.left - 1) : RtK (stopK k) := by
  obtain ⟨⟨c0, c1⟩, ⟨w0, w1⟩, ⟨a0, a1, a2⟩, ⟨s0, s1⟩, ⟨l0, l1⟩, hrd, hz, hv⟩ := h
  unfold stopK RtK
  exact ⟨⟨c0, c1⟩, ⟨w0, w1⟩, ⟨a0, a1, a2⟩, ⟨s0, s1⟩, ⟨by simp only; omega, by simp only; omega⟩, ⟨fun _ => by simp only; omega, fun _ => rfl⟩, .inl (by simp only; omega), hv⟩
theorem tick_kept (k : Disk) (mem bad : List Int) (h : Okay k mem bad) : Kept k mem bad (tickV k mem bad) := by
  obtain ⟨hk, hw, hb, hd⟩ := id h
  obtain ⟨n0, n1, n2⟩ := z1qj hk
  have hv := hk.2.2.2.2.2.2.2
  unfold tickV
  split
  · exact z1zm h
  · rename_i q1
    split
    · rename_i q2
      obtain ⟨⟨c0, c1⟩, ⟨w0, w1⟩, ⟨a0, a1, a2⟩, ⟨s0, s1⟩, ⟨l0, l1⟩, hrd, hz, _⟩ := hk
      have hr : ¬ k.ready = true := fun e => q1 (hrd.1 e)
      have hz' : ¬ k.command = 0 ∧ ¬ k.words = 0 := by rcases hz with h | h; exact absurd h q1; exact h
      exact ⟨⟨⟨⟨c0, c1⟩, ⟨w0, w1⟩, ⟨a0, a1, a2⟩, ⟨s0, s1⟩, ⟨by simp only; omega, by simp only; omega⟩, ⟨fun e => absurd e hr, fun e => by simp only at e; omega⟩, .inr hz', hv⟩, hw, hb, hd⟩, rfl, Nat.le_refl _, rfl, rfl⟩
    · rename_i q2
      have st : Kept k mem bad (stopK k, mem, bad) := ⟨⟨z1yl hk q1 q2, hw, hb, hd⟩, rfl, Nat.le_refl _, rfl, rfl⟩
      split
      · exact st
      · rename_i q3
        have q3 : C08.Wn mem k.addr (2 * nK k) := by
          by_cases h : C08.Wn mem k.addr (2 * nK k)
          · exact h
          · exact absurd h q3
        split
        · split
          · rename_i q5
            have hol : (C08.outB mem k.addr (2 * nK k).toNat).length ≤ 128 := by rw [C08.outB_len]; omega
            obtain ⟨r1, r2, r3⟩ := z1wm hv hol q5.1
            exact ⟨⟨z10v hk r1 q1 q2, hw, hb, by simp only [nextK, r3]; exact hd⟩, rfl, Nat.le_refl _, r2, r3⟩
          · exact st
        · split
          · exact st
          · rename_i q5
            split
            · split
              · exact ⟨⟨z10v hk hv q1 q2, hw, hb, hd⟩, rfl, Nat.le_refl _, rfl, rfl⟩
              · exact st
            · have hl := zlh hv (Classical.not_not.1 q5)
              have htl : ((readD k.drive k.start).1.take (2 * nK k).toNat).length = (2 * nK k).toNat := by rw [List.length_take]; omega
              have := z1wx bad k.addr (2 * nK k)
              exact ⟨⟨z10v hk hv q1 q2, C08.storeL_words hw hk.2.2.1.1 (by rw [htl]; have := q3.2.2.2; omega), by simp only; omega, hd⟩, C08.storeL_len _ _ _, this, rfl, rfl⟩
end Go.Proofs.YtfdndagnolbnhaaGreat.C16
end
section
set_option linter.unusedSimpArgs false
set_option linter.unusedVariables false
namespace Go.Proofs.YtfdndagnolbnhaaGreat.C17
open Go Go.Ab
structure Store where
  mem : List Int
  bad : List Int
theorem zt {i n : Nat} (h : i < n) (hn : n ≤ 9223372036854775807) : IntKind.wrap .i64 ((i : Int) + 1) = ((i + 1 : Nat) : Int) := by rw [zh] <;> omega
theorem z1wn (l : List Int) (x : Int) (hl : l.length ≤ 9223372036854775807) : zn9 none l x = some (decide (x ∈ l)) := by
  have hs := z2r (f := fun s => (z8t s).run) (fun i : Nat => ⟨l, x, (i : Int)⟩) l.length (fun i => l[i]? ≠ some x) (fun i => .inl true) (.inr ())
    (fun i hi hp => by
      have hp' : ¬ l[i] = x := fun he => hp (by rw [List.getElem?_eq_getElem hi, he])
      simp [z8t, Tree.run, hi, zt hi hl, hp'])
    (fun i hi hp => by
      have hp' : l[i] = x := by
        rw [List.getElem?_eq_getElem hi] at hp
        simp at hp; exact hp
      simp [z8t, Tree.run, hi, hp'])
    (by simp [z8t, Tree.run])
  rcases hs with ⟨h1, h2⟩ | ⟨i, hi, h1, h2⟩
  · have h : zd7 none ⟨l, x, (0 : Int)⟩ = some (.inr ()) := h2
    have hn : ¬ x ∈ l := fun hm => by
      obtain ⟨i, hi, he⟩ := List.mem_iff_getElem.1 hm
      exact absurd (by rw [List.getElem?_eq_getElem hi, he]) (h1 i hi)
    simp [zn9, zi8, Tree.run, h, hn]
  · have h : zd7 none ⟨l, x, (0 : Int)⟩ = some (.inl true) := h2
    have hm : x ∈ l := by
      rw [List.getElem?_eq_getElem hi] at h1
      simp at h1
      rw [← h1]; exact List.getElem_mem hi
    simp [zn9, zi8, Tree.run, h, hm]
def wordAt (m : List Int) (a : Int) : Int := m.getD (a / 2).toNat 0
def byteAt (m : List Int) (a : Int) : Int := if a % 2 = 0 then wordAt m a % 256 else wordAt m a / 256 % 256
theorem get_word {m : List Int} {a : Int} (h0 : 0 ≤ a) (h1 : a < 2 * (m.length : Int)) : m[(a / 2).toNat]? = some (wordAt m a) := by
  have : (a / 2).toNat < m.length := by omega
  simp [wordAt, this]
theorem wrap2 {m : List Int} (hm : m.length ≤ 100000) : IntKind.wrap .i64 (2 * (m.length : Int)) = 2 * (m.length : Int) := zh (by omega) (by omega)
theorem half {a : Int} (h0 : 0 ≤ a) (h1 : a ≤ 9223372036854775807) : IntKind.wrap .i64 (a.tdiv 2) = a / 2 := by rw [z1ln h0, zh (by omega) (by omega)]
theorem z20g (m : List Int) (a : Int) (h0 : 0 ≤ a) (h1 : a < 2 * (m.length : Int)) (hm : m.length ≤ 100000) : zpg m a = some (byteAt m a) := by
  have e8 : (2 : Int) ^ (min ((8 : Int)).toNat 64) = 256 := by decide
  simp only [zpg, zlu, Tree.run, z21 h0, half h0 (by omega), get_word h0 h1, and255, e8, zqs _ (show (0 : Int) ≤ 256 by omega), byteAt]
  have hd : 0 ≤ a / 2 := by omega
  by_cases hp : a % 2 = 0 <;> simp [hp, hd]
def putB (w a b : Int) : Int := if a % 2 = 0 then w / 256 * 256 + b else w % 256 + b * 256
theorem zyj (w b : Int) (h0 : 0 ≤ w) (h1 : w ≤ 65535) (hb : 0 ≤ b ∧ b ≤ 255) : IntKind.wrap .i64 ((BitVec.ofInt 64 (IntKind.wrap .i64 ((BitVec.ofInt 64 w &&& ~~~BitVec.ofInt 64 (255 : Int)).toNat : Int)) ||| BitVec.ofInt 64 b).toNat : Int) = w / 256 * 256 + b := by
  rw [z1mc w h0 (by omega), zn8 8 _ _ hb.1 (by omega) (by omega) (by omega) (by omega)]
  omega
theorem zyj' (w b : Int) (h0 : 0 ≤ w) (h1 : w ≤ 65535) (hb : 0 ≤ b ∧ b ≤ 255) : IntKind.wrap .i64 ((BitVec.ofInt 64 (IntKind.wrap .i64 ((BitVec.ofInt 64 w &&& BitVec.ofInt 64 (65280 : Int)).toNat : Int)) ||| BitVec.ofInt 64 b).toNat : Int) = w / 256 * 256 + b := by
  rw [z1qz w h0 (by omega), zn8 8 _ _ hb.1 (by omega) (by omega) (by omega) (by omega)]
  omega
theorem zyi (w b : Int) (h0 : 0 ≤ w) (h1 : w ≤ 65535) (hb : 0 ≤ b ∧ b ≤ 255) : IntKind.wrap .i64 ((BitVec.ofInt 64 (IntKind.wrap .i64 ((BitVec.ofInt 64 w &&& ~~~BitVec.ofInt 64 (65280 : Int)).toNat : Int)) ||| BitVec.ofInt 64 (b * 256)).toNat : Int) = w % 256 + b * 256 := by
  rw [z1db w h0 (by omega), show w - w / 256 % 256 * 256 = w % 256 by omega, zn8' 8 _ _ (by omega) (by omega) (by omega) (by omega) (by omega)]
theorem zyi' (w b : Int) (h0 : 0 ≤ w) (h1 : w ≤ 65535) (hb : 0 ≤ b ∧ b ≤ 255) : IntKind.wrap .i64 ((BitVec.ofInt 64 (IntKind.wrap .i64 ((BitVec.ofInt 64 w &&& BitVec.ofInt 64 (255 : Int)).toNat : Int)) ||| BitVec.ofInt 64 (b * 256)).toNat : Int) = w % 256 + b * 256 := by
  rw [and255, zn8' 8 _ _ (by omega) (by omega) (by omega) (by omega) (by omega)]
def setB (m : List Int) (a b : Int) : List Int := m.set (a / 2).toNat (putB (wordAt m a) a b)
def Words (m : List Int) : Prop := m.length ≤ 100000 ∧ ∀ w ∈ m, 0 ≤ w ∧ w ≤ 65535
theorem word_in {m : List Int} (hm : Words m) {a : Int} (h0 : 0 ≤ a) (h1 : a < 2 * (m.length : Int)) : 0 ≤ wordAt m a ∧ wordAt m a ≤ 65535 := hm.2 _ (List.mem_of_getElem? (get_word h0 h1))
theorem z22f (m : List Int) (a b : Int) (hm : Words m) (h0 : 0 ≤ a) (h1 : a < 2 * (m.length : Int)) (hb : 0 ≤ b ∧ b ≤ 255) : ztx a b m = some (setB m a b) := by
  have hw := word_in hm h0 h1
  have hl := hm.1
  have hd : 0 ≤ a / 2 := by omega
  have hd2 : a / 2 < (m.length : Int) := by omega
  have e8 : (2 : Int) ^ (min ((8 : Int)).toNat 64) = 256 := by decide
  simp only [ztx, zib, Tree.run, z21 h0, half h0 (by omega), get_word h0 h1, e8, Option.bind_some, hd, hd2, decide_true, if_true, zh (n := b * 256) (by omega) (by omega), zyj' _ b hw.1 hw.2 hb, zyi' _ b hw.1 hw.2 hb, setB, putB, show ¬ (2 : Int) = 0 by omega, decide_false, Bool.false_eq_true, if_false, decide_eq_true_eq, show (0 : Int) ≤ 8 by omega]
  by_cases hp : a % 2 = 0 <;> simp [hp]
theorem z10d (m : List Int) (hm : m.length ≤ 100000) : z81 m = some m := by
  simp [z81, z8h, Tree.run]
  omega
def without (bad : List Int) (c : Int) : List Int := bad.filter fun y => decide (y ≠ c)
theorem z1v8 {l : List Int} {c : Int} {i : Nat} (hi : i < l.length) : without (l.take (i + 1)) c = without (l.take i) c ++ (if l[i] = c then [] else [l[i]]) := by
  rw [z3l hi]
  unfold without
  rw [List.filter_append]
  by_cases he : l[i] = c <;> simp [he]
theorem z1va (l : List Int) (c : Int) (hl : l.length ≤ 100000) : zgc none l c = some (without l c) := by
  have hc := z4i (f := fun s => (z5n s).run) (fun i : Nat => ⟨l, c, (i : Int), without (l.take i) c⟩) l.length (fun i hi => by
    have hle : (without (l.take i) c).length ≤ i := by
      refine Nat.le_trans (List.length_filter_le _ _) ?_
      rw [List.length_take]; omega
    have hm := z1v8 (c := c) hi
    by_cases he : l[i] = c
    · rw [if_pos he, List.append_nil] at hm
      simp [z5n, Tree.run, hi, zt hi (show l.length ≤ 9223372036854775807 by omega), he, hm]
    · rw [if_neg he] at hm
      have hlt : ((without (l.take i) c).length + 1) * 8 ≤ 140737488355328 := by omega
      simp [z5n, Tree.run, hi, zt hi (show l.length ≤ 9223372036854775807 by omega), he, hm, hlt]) 0 (Nat.zero_le _)
  have hd : z8m none ⟨l, c, ((l.length : Nat) : Int), without (l.take l.length) c⟩ = some (without (l.take l.length) c) := z2q (by simp [z5n, Tree.run])
  have h : z8m none ⟨l, c, (0 : Int), []⟩ = some (without (l.take l.length) c) := hc.trans hd
  rw [List.take_length] at h
  simp [zgc, zem, Tree.run, h]
def Bads (n : Nat) (bad : List Int) : Prop := ∀ i, (h : i < bad.length) → 0 ≤ bad[i] ∧ bad[i] < 2 * (n : Int) ∧ bad[i] % 2 = 0 ∧ ∀ h' : 0 < i, bad[i - 1] < bad[i]
def Sized (n : Int) : Prop := 256 ≤ n ∧ n ≤ 32768 ∧ n % 64 = 0
instance (n) : Decidable (Sized n) := by unfold Sized; infer_instance
def Rt (m bad : List Int) : Prop := Sized (2 * (m.length : Int)) ∧ (∀ w ∈ m, 0 ≤ w ∧ w ≤ 65535) ∧ Bads m.length bad
def Wn (m : List Int) (a n : Int) : Prop := 0 ≤ a ∧ 0 ≤ n ∧ a ≤ 2 * (m.length : Int) ∧ n ≤ 2 * (m.length : Int) - a
instance (m a n) : Decidable (Wn m a n) := by unfold Wn; infer_instance
theorem zby (m : List Int) (a n : Int) (hm : m.length ≤ 100000) : z6m m a n = some (decide (Wn m a n)) := by
  simp only [z6m, zb7, Tree.run, wrap2 hm, decide_eq_true_eq]
  by_cases h0 : 0 ≤ a
  · by_cases h1 : 0 ≤ n
    · by_cases h2 : a ≤ 2 * (m.length : Int)
      · rw [if_pos h0, if_pos h1, if_pos h2, zh (by omega) (by omega), Option.some.injEq, decide_eq_decide]
        unfold Wn; omega
      · have : ¬ Wn m a n := fun h => h2 h.2.2.1
        simp [h0, h1, h2, this]
    · have : ¬ Wn m a n := fun h => h1 h.2.1
      simp [h0, h1, this]
  · have : ¬ Wn m a n := fun h => h0 h.1
    simp [h0, this]
theorem z1ma (m : List Int) (a n : Int) : zjm m a n = z6m m a n := rfl
theorem zk1 {a : Int} (h0 : 0 ≤ a) : IntKind.wrap .i64 (a.tmod 2 * 8) = if a % 2 = 0 then 0 else 8 := by
  rw [z21 h0, zh (by omega) (by omega)]
  split <;> omega
theorem z1fc (m : List Int) {a : Int} (h0 : 0 ≤ a) : IntKind.wrap .u8 ((wordAt m a).fdiv (2 ^ (min (IntKind.wrap .i64 (a.tmod 2 * 8)).toNat 64))) = byteAt m a := by
  rw [IntKind.wrap_u8, zk1 h0, byteAt]
  split
  · rw [show (2 : Int) ^ (min ((0 : Int)).toNat 64) = 1 by decide, zqs _ (by omega), Int.ediv_one]
  · rw [show (2 : Int) ^ (min ((8 : Int)).toNat 64) = 256 by decide, zqs _ (by omega)]
theorem z1z4 (m : List Int) (a : Int) : 0 ≤ byteAt m a ∧ byteAt m a ≤ 255 := by
  unfold byteAt
  split <;> omega
def bytesL (m : List Int) (a : Int) (n : Nat) : List Int := (List.range n).map fun i => byteAt m (a + (i : Nat))
theorem bytesL_succ (m : List Int) (a : Int) (n : Nat) : bytesL m a (n + 1) = bytesL m a n ++ [byteAt m (a + (n : Nat))] := by
  simp [bytesL, List.range_succ]
theorem bytesL_len (m : List Int) (a : Int) (n : Nat) : (bytesL m a n).length = n := by simp [bytesL]
def outB (m : List Int) (a : Int) (n : Nat) : List UInt8 := (bytesL m a n).map fun x => UInt8.ofNat x.toNat
theorem outB_len (m : List Int) (a : Int) (n : Nat) : (outB m a n).length = n := by simp [outB, bytesL]
def bytesM (m : List Int) (a n : Int) : List UInt8 × Int := if Wn m a n then (outB m a n.toNat, 0) else ([], 2)
theorem zzr (m : List Int) (a : Int) (n : Nat) (hm : m.length ≤ 100000) (h : Wn m a n) : z3v none ⟨m, a, (n : Int), (0 : Int), List.replicate n (0 : Int)⟩ = some (bytesL m a n) := by
  obtain ⟨h0, h1, h2, h3⟩ := h
  have hc := z4i (f := fun s => (z44 s).run) (fun i : Nat => ⟨m, a, (n : Int), (i : Int), bytesL m a i ++ List.replicate (n - i) (0 : Int)⟩) n (fun i hi => by
    have e1 : IntKind.wrap .i64 (a + (i : Int)) = a + (i : Int) := zh (by omega) (by omega)
    have h4 : 0 ≤ a + (i : Int) := by omega
    have h5 : 0 ≤ (a + (i : Int)) / 2 := by omega
    have h6 : 0 ≤ IntKind.wrap .i64 ((a + (i : Int)).tmod 2 * 8) := by rw [zk1 h4]; split <;> omega
    have h7 : (i : Int) < ((bytesL m a i ++ List.replicate (n - i) (0 : Int)).length : Int) := by
      simp [bytesL_len]; omega
    have h8 : (bytesL m a i ++ List.replicate (n - i) (0 : Int))[((i : Int)).toNat]? = some 0 := by
      rw [Int.toNat_natCast, List.getElem?_append_right (by rw [bytesL_len]; omega), bytesL_len, Nat.sub_self, List.getElem?_replicate]
      simp; omega
    have h8' : (bytesL m a i ++ List.replicate (n - i) (0 : Int))[i]? = some 0 := h8
    have h9 : (bytesL m a i ++ List.replicate (n - i) (0 : Int)).set i (byteAt m (a + (i : Int))) = bytesL m a (i + 1) ++ List.replicate (n - (i + 1)) (0 : Int) := by
      rw [List.set_append_right (h := by rw [bytesL_len]; omega), bytesL_len, Nat.sub_self, bytesL_succ, show n - i = (n - (i + 1)) + 1 by omega, List.replicate_succ]
      simp
    have hi' : (i : Int) < (n : Int) := by omega
    have h10 : (0 : Int) ≤ (i : Int) := by omega
    simp only [z44, Tree.run, e1, half h4 (by omega), get_word h4 (show a + (i : Int) < 2 * (m.length : Int) by omega), z1fc m h4, zt hi (show n ≤ 9223372036854775807 by omega), hi', h10, h5, h6, h7, h8, decide_true, if_true, show ¬ (2 : Int) = 0 by omega, decide_false, Bool.false_eq_true, if_false, Option.bind_some, Int.toNat_natCast, h8', h9]) 0 (Nat.zero_le _)
  have hd : z3v none ⟨m, a, (n : Int), ((n : Nat) : Int), bytesL m a n ++ List.replicate (n - n) (0 : Int)⟩ = some (bytesL m a n ++ List.replicate (n - n) (0 : Int)) := z2q (by simp [z44, Tree.run])
  have he : z3v none ⟨m, a, (n : Int), (0 : Int), bytesL m a 0 ++ List.replicate (n - 0) (0 : Int)⟩ = some (bytesL m a n ++ List.replicate (n - n) (0 : Int)) := hc.trans hd
  simpa [bytesL] using he
theorem Bytes_def (m : List Int) (a n : Int) (hm : m.length ≤ 100000) : z8v none m a n = some (bytesM m a n) := by
  simp only [z8v, zc4, Tree.run, zby m a n hm, Option.bind_some, bytesM]
  by_cases h : Wn m a n
  · obtain ⟨h0, h1, h2, h3⟩ := id h
    have hl := zzr m a n.toNat hm (by rw [Int.toNat_of_nonneg h1]; exact h)
    have h4 : (1 : Int) * n ≤ 281474976710656 := by omega
    simp only [h, decide_true, Bool.not_true, Bool.false_eq_true, if_false, if_true, h1, h4, List.length_replicate, hl, Option.bind_some, outB]
  · simp [h]
theorem z1kn (m : List Int) (a : Int) (n : Nat) (hm : m.length ≤ 100000) (h : Wn m a n) : z8f none ⟨m, a, (n : Int), (0 : Int), []⟩ = some (bytesL m a n) := by
  obtain ⟨h0, h1, h2, h3⟩ := h
  have hc := z4i (f := fun s => (z8i s).run) (fun i : Nat => ⟨m, a, (n : Int), (i : Int), bytesL m a i⟩) n (fun i hi => by
    have e1 : IntKind.wrap .i64 (a + (i : Int)) = a + (i : Int) := zh (by omega) (by omega)
    have h4 : 0 ≤ a + (i : Int) := by omega
    have hb := z1z4 m (a + (i : Int))
    have e2 : IntKind.wrap .u8 (byteAt m (a + (i : Int))) = byteAt m (a + (i : Int)) := by rw [IntKind.wrap_u8]; omega
    have hi' : (i : Int) < (n : Int) := by omega
    have h7 : ((bytesL m a i).length + 1) * 1 ≤ 140737488355328 := by rw [bytesL_len]; omega
    simp only [z8i, Tree.run, e1, z20g m _ h4 (show a + (i : Int) < 2 * (m.length : Int) by omega) hm, e2, zt hi (show n ≤ 9223372036854775807 by omega), hi', decide_true, if_true, Option.bind_some, List.length_cons, List.length_nil, Nat.zero_add, h7, bytesL_succ]) 0 (Nat.zero_le _)
  have hd : z8f none ⟨m, a, (n : Int), ((n : Nat) : Int), bytesL m a n⟩ = some (bytesL m a n) := z2q (by simp [z8i, Tree.run])
  have he : z8f none ⟨m, a, (n : Int), (0 : Int), bytesL m a 0⟩ = some (bytesL m a n) := hc.trans hd
  simpa [bytesL] using he
theorem z1po (m : List Int) (a n : Int) (hm : m.length ≤ 100000) : zmk none m a n = some (bytesM m a n) := by
  simp only [zmk, zi7, Tree.run, z1ma, zby m a n hm, Option.bind_some, bytesM]
  by_cases h : Wn m a n
  · obtain ⟨h0, h1, h2, h3⟩ := id h
    have hl := z1kn m a n.toNat hm (by rw [Int.toNat_of_nonneg h1]; exact h)
    rw [Int.toNat_of_nonneg h1] at hl
    simp only [h, decide_true, Bool.not_true, Bool.false_eq_true, if_false, if_true, hl, Option.bind_some, outB]
  · simp [h]
def storeL : List Int → Int → List UInt8 → List Int
  | m, _, [] => m
  | m, a, c :: s => storeL (setB m a (c.toNat : Int)) (a + 1) s
theorem storeL_more (m : List Int) (a : Int) (s : List UInt8) (c : UInt8) : storeL m a (s ++ [c]) = setB (storeL m a s) (a + (s.length : Int)) (c.toNat : Int) := by
  induction s generalizing m a with
  | nil => simp [storeL]
  | cons d s ih =>
    simp only [List.cons_append, storeL, ih, List.length_cons]
    congr 1
    omega
theorem zgz (m : List Int) (a b : Int) : (setB m a b).length = m.length := by simp [setB]
theorem storeL_len (m : List Int) (a : Int) (s : List UInt8) : (storeL m a s).length = m.length := by
  induction s generalizing m a with
  | nil => rfl
  | cons d s ih => rw [storeL, ih, zgz]
theorem z119 {m : List Int} {a b : Int} (hm : Words m) (h0 : 0 ≤ a) (h1 : a < 2 * (m.length : Int)) (hb : 0 ≤ b ∧ b ≤ 255) : Words (setB m a b) := by
  refine ⟨by rw [zgz]; exact hm.1, fun w hw => ?_⟩
  rcases List.mem_or_eq_of_mem_set hw with h | h
  · exact hm.2 w h
  · have := word_in hm h0 h1
    rw [h]; unfold putB; split <;> omega
theorem byte_lt (c : UInt8) : 0 ≤ (c.toNat : Int) ∧ (c.toNat : Int) ≤ 255 := by have := c.toNat_lt; omega
theorem storeL_words {m : List Int} {a : Int} {s : List UInt8} (hm : Words m) (h0 : 0 ≤ a) (h1 : a + (s.length : Int) ≤ 2 * (m.length : Int)) : Words (storeL m a s) := by
  induction s generalizing m a with
  | nil => exact hm
  | cons d s ih =>
    simp only [List.length_cons] at h1
    exact ih (z119 hm h0 (by omega) (byte_lt d)) (by omega) (by rw [zgz]; omega)
def storeM (m : List Int) (a : Int) (s : List UInt8) : List Int × Int := if Wn m a (s.length : Int) then (storeL m a s, 0) else ([], 2)
theorem z1je (c : UInt8) : IntKind.wrap .i64 (c.toNat : Int) = (c.toNat : Int) := by have := c.toNat_lt; exact zh (by omega) (by omega)
theorem put_eq (b : List Int) (a : Int) (c : UInt8) (hw : Words b) (h0 : 0 ≤ a) (h1 : a < 2 * (b.length : Int)) : IntKind.wrap .i64 ((BitVec.ofInt 64 (IntKind.wrap .i64 ((BitVec.ofInt 64 (wordAt b a) &&& ~~~BitVec.ofInt 64 (IntKind.wrap .i64 ((255 : Int) * 2 ^ (min (IntKind.wrap .i64 (a.tmod 2 * 8)).toNat 64)))).toNat : Int)) ||| BitVec.ofInt 64 (IntKind.wrap .i64 ((IntKind.wrap .i64 (c.toNat : Int)) * 2 ^ (min (IntKind.wrap .i64 (a.tmod 2 * 8)).toNat 64)))).toNat : Int) = putB (wordAt b a) a (c.toNat : Int) := by
  have hb := byte_lt c
  have hi := word_in hw h0 h1
  rw [zk1 h0, z1je]
  unfold putB
  split
  · rw [show (2 : Int) ^ (min ((0 : Int)).toNat 64) = 1 by decide, Int.mul_one, Int.mul_one, zh (n := 255) (by omega) (by omega), zh (n := (c.toNat : Int)) (by omega) (by omega), zyj _ _ hi.1 hi.2 hb]
  · rw [show (2 : Int) ^ (min ((8 : Int)).toNat 64) = 256 by decide, zh (n := 255 * 256) (by omega) (by omega), zh (n := (c.toNat : Int) * 256) (by omega) (by omega), show (255 : Int) * 256 = 65280 by omega, zyi _ _ hi.1 hi.2 hb]
theorem zzv (m : List Int) (a : Int) (s : List UInt8) (hm : Words m) (h : Wn m a (s.length : Int)) : z3w none ⟨a, s, (s.length : Int), (0 : Int), m⟩ = some (storeL m a s) := by
  obtain ⟨h0, h1, h2, h3⟩ := h
  have hl := hm.1
  have hc := z4i (f := fun s => (z46 s).run) (fun i : Nat => ⟨a, s, (s.length : Int), (i : Int), storeL m a (s.take i)⟩) s.length (fun i hi => by
    have e1 : IntKind.wrap .i64 (a + (i : Int)) = a + (i : Int) := zh (by omega) (by omega)
    have h4 : 0 ≤ a + (i : Int) := by omega
    have h5 : 0 ≤ (a + (i : Int)) / 2 := by omega
    have h6 : 0 ≤ IntKind.wrap .i64 ((a + (i : Int)).tmod 2 * 8) := by rw [zk1 h4]; split <;> omega
    have hlen : (storeL m a (s.take i)).length = m.length := storeL_len _ _ _
    have hlt : (s.take i).length = i := by rw [List.length_take]; omega
    have hw : Words (storeL m a (s.take i)) := storeL_words hm h0 (by rw [hlt]; omega)
    have h7 : (a + (i : Int)) / 2 < ((storeL m a (s.take i)).length : Int) := by rw [hlen]; omega
    have h8 : a + (i : Int) < 2 * ((storeL m a (s.take i)).length : Int) := by rw [hlen]; omega
    have hi' : (i : Int) < (s.length : Int) := by omega
    have h10 : (0 : Int) ≤ (i : Int) := by omega
    have h9 : storeL m a (s.take (i + 1)) = (storeL m a (s.take i)).set ((a + (i : Int)) / 2).toNat (putB (wordAt (storeL m a (s.take i)) (a + (i : Int))) (a + (i : Int)) (s[i].toNat : Int)) := by
      rw [z3l hi, storeL_more, hlt]; rfl
    simp only [z46, Tree.run, e1, half h4 (by omega), get_word h4 h8, zt hi (show s.length ≤ 9223372036854775807 by omega), hi', h10, h5, h6, h7, decide_true, if_true, show ¬ (2 : Int) = 0 by omega, decide_false, Bool.false_eq_true, if_false, Option.bind_some, Int.toNat_natCast, List.getElem?_eq_getElem hi, put_eq _ _ _ hw h4 h8, h9]) 0 (Nat.zero_le _)
  have hd : z3w none ⟨a, s, (s.length : Int), ((s.length : Nat) : Int), storeL m a (s.take s.length)⟩ = some (storeL m a (s.take s.length)) := z2q (by simp [z46, Tree.run])
  have he : z3w none ⟨a, s, (s.length : Int), (0 : Int), storeL m a (s.take 0)⟩ = some (storeL m a (s.take s.length)) := hc.trans hd
  simpa [storeL] using he
theorem Store_def (m : List Int) (a : Int) (s : List UInt8) (hm : Words m) : z7p none m a s = some (storeM m a s) := by
  simp only [z7p, zc5, Tree.run, zby m a _ hm.1, z10d m hm.1, Option.bind_some, storeM]
  by_cases h : Wn m a (s.length : Int)
  · simp only [h, decide_true, Bool.not_true, Bool.false_eq_true, if_false, if_true, zzv m a s hm h, Option.bind_some]
  · simp [h]
theorem z1kq (m : List Int) (a : Int) (s : List UInt8) (hm : Words m) (h : Wn m a (s.length : Int)) : z8g none ⟨a, s, (0 : Int), m⟩ = some (storeL m a s) := by
  obtain ⟨h0, h1, h2, h3⟩ := h
  have hl := hm.1
  have hc := z4i (f := fun s => (z8j s).run) (fun i : Nat => ⟨a, s, (i : Int), storeL m a (s.take i)⟩) s.length (fun i hi => by
    have e1 : IntKind.wrap .i64 (a + (i : Int)) = a + (i : Int) := zh (by omega) (by omega)
    have h4 : 0 ≤ a + (i : Int) := by omega
    have hlen : (storeL m a (s.take i)).length = m.length := storeL_len _ _ _
    have hlt : (s.take i).length = i := by rw [List.length_take]; omega
    have hw : Words (storeL m a (s.take i)) := storeL_words hm h0 (by rw [hlt]; omega)
    have h8 : a + (i : Int) < 2 * ((storeL m a (s.take i)).length : Int) := by rw [hlen]; omega
    have hi' : (i : Int) < (s.length : Int) := by omega
    have h10 : (0 : Int) ≤ (i : Int) := by omega
    have h9 : storeL m a (s.take (i + 1)) = setB (storeL m a (s.take i)) (a + (i : Int)) (s[i].toNat : Int) := by
      rw [z3l hi, storeL_more, hlt]
    simp only [z8j, Tree.run, e1, zt hi (show s.length ≤ 9223372036854775807 by omega), hi', h10, decide_true, if_true, Option.bind_some, Int.toNat_natCast, List.getElem?_eq_getElem hi, z1je, z22f _ _ _ hw h4 h8 (byte_lt s[i]), h9]) 0 (Nat.zero_le _)
  have hd : z8g none ⟨a, s, ((s.length : Nat) : Int), storeL m a (s.take s.length)⟩ = some (storeL m a (s.take s.length)) := z2q (by simp [z8j, Tree.run])
  have he : z8g none ⟨a, s, (0 : Int), storeL m a (s.take 0)⟩ = some (storeL m a (s.take s.length)) := hc.trans hd
  simpa [storeL] using he
theorem z1pp (m : List Int) (a : Int) (s : List UInt8) (hm : Words m) : zfo none m a s = some (storeM m a s) := by
  have hl := hm.1
  have h5 : (([] : List Int).length + m.length) * 8 ≤ 140737488355328 := by simp; omega
  simp only [zfo, zia, Tree.run, z1ma, zby m a _ hm.1, Option.bind_some, storeM, h5, decide_true, if_true, List.nil_append]
  by_cases h : Wn m a (s.length : Int)
  · simp only [h, decide_true, Bool.not_true, Bool.false_eq_true, if_false, if_true, z1kq m a s hm h, Option.bind_some]
  · simp [h]
theorem z1e1 (r : List UInt8) : zv2 r = some (decide (512 < (r.length : Int))) := rfl
theorem z1vc (l : List (List UInt8)) (hl : l.length ≤ 9223372036854775807) : z29 none l = some (decide (∃ r ∈ l, 512 < r.length)) := by
  have hs := z2r (f := fun s => (z1k s).run) (fun i : Nat => ⟨l, (l.length : Int), (i : Int)⟩) l.length (fun i => ∀ r, l[i]? = some r → r.length ≤ 512) (fun i => .inl (i : Int)) (.inr ())
    (fun i hi hp => by
      have hp' : ¬ 512 < (l[i].length : Int) := by have := hp l[i] (List.getElem?_eq_getElem hi); omega
      simp [z1k, Tree.run, hi, zt hi hl, z1e1, hp'])
    (fun i hi hp => by
      have hp' : 512 < (l[i].length : Int) := by
        apply Classical.byContradiction
        intro hn
        exact hp fun r hr => by
          rw [List.getElem?_eq_getElem hi] at hr
          rw [← Option.some.inj hr]; omega
      simp [z1k, Tree.run, hi, z1e1, hp'])
    (by simp [z1k, Tree.run])
  rcases hs with ⟨h1, h2⟩ | ⟨i, hi, h1, h2⟩
  · have h : z28 none ⟨l, (l.length : Int), (0 : Int)⟩ = some (.inr ()) := h2
    have hn : ¬ ∃ r ∈ l, 512 < r.length := by
      rintro ⟨r, hr, hlt⟩
      obtain ⟨i, hi, he⟩ := List.mem_iff_getElem.1 hr
      have := h1 i hi r (by rw [List.getElem?_eq_getElem hi, he])
      omega
    simp only [z29, z1v, z4a, z20, Tree.run, h, hn]
    rfl
  · have h : z28 none ⟨l, (l.length : Int), (0 : Int)⟩ = some (.inl (i : Int)) := h2
    have hn : ∃ r ∈ l, 512 < r.length := by
      apply Classical.byContradiction
      intro hn
      refine h1 fun r hr => ?_
      apply Classical.byContradiction
      intro hlt
      exact hn ⟨r, List.mem_of_getElem? hr, by omega⟩
    have h0 : (0 : Int) ≤ (i : Int) := by omega
    simp only [z29, z1v, z4a, z20, Tree.run, h, hn]
    simp
theorem SameTexts_def (a b : List (List UInt8)) (hl : a.length ≤ 9223372036854775807) : z6h none a b = some (decide (a = b)) := by
  by_cases hab : a.length = b.length
  · have hs := z2r (f := fun s => (z4g s).run) (fun i : Nat => ⟨a, b, (i : Int)⟩) a.length (fun i => a[i]? = b[i]?) (fun i => .inl false) (.inr ())
      (fun i hi hp => by
        have hi' : i < b.length := by omega
        have hp' : a[i] = b[i] := by
          rw [List.getElem?_eq_getElem hi, List.getElem?_eq_getElem hi'] at hp
          exact Option.some.inj hp
        simp [z4g, Tree.run, hi, hi', zt hi hl, hp'])
      (fun i hi hp => by
        have hi' : i < b.length := by omega
        have hp' : ¬ a[i] = b[i] := by
          rw [List.getElem?_eq_getElem hi, List.getElem?_eq_getElem hi'] at hp
          exact fun h => hp (by rw [h])
        simp [z4g, Tree.run, hi, hi', hp'])
      (by simp [z4g, Tree.run])
    rcases hs with ⟨h1, h2⟩ | ⟨i, hi, h1, h2⟩
    · have h : z7l none ⟨a, b, (0 : Int)⟩ = some (.inr ()) := h2
      have he : a = b := List.ext_getElem? fun i => by
        by_cases hi : i < a.length
        · exact h1 i hi
        · rw [List.getElem?_eq_none (by omega), List.getElem?_eq_none (by omega)]
      simp [z6h, z74, Tree.run, h, hab]
      exact he
    · have h : z7l none ⟨a, b, (0 : Int)⟩ = some (.inl false) := h2
      have he : ¬ a = b := fun he => h1 (by rw [he])
      simp [z6h, z74, Tree.run, h, hab, he]
  · have he : ¬ a = b := fun h => hab (by rw [h])
    have hab' : ¬ (a.length : Int) = (b.length : Int) := by omega
    simp [z6h, z74, Tree.run, hab', he]
theorem Same_self (t : Tape) (hl : t.records.length ≤ 9223372036854775807) : zpi none t t = some true := by
  simp [zpi, zlz, Tree.run, SameTexts_def _ _ hl]
def RtT (t : Tape) : Prop := t.records.length ≤ 64 ∧ (∀ r ∈ t.records, r.length ≤ 512) ∧ (0 ≤ t.pos ∧ t.pos ≤ (t.records.length : Int)) ∧ (0 ≤ t.command ∧ t.command ≤ 6) ∧ (0 ≤ t.count ∧ t.count ≤ 65535) ∧ (0 ≤ t.addr ∧ t.addr ≤ 65535) ∧ (0 ≤ t.left ∧ t.left ≤ 16) ∧ (t.ready = true ↔ t.left = 0)
instance (t : Tape) : Decidable (RtT t) := by unfold RtT; infer_instance
theorem z21k (x : Int) : zjp x = some (decide (0 ≤ x ∧ x ≤ 65535)) := by
  simp only [zjp, zm3, Tree.run]
  by_cases h : 0 ≤ x <;> simp [h]
theorem z1y1 (x : Int) : zft x = some (decide (0 ≤ x ∧ x ≤ 65535)) := by
  simp only [zft, zil, Tree.run, zdh, zr2 x 65536 (by omega)]
  rw [Option.some.injEq, decide_eq_decide]
  omega
theorem z1wa (t : Tape) (hl : t.records.length ≤ 9223372036854775807) : zei none ⟨(0 : Int), t⟩ = some (if ∀ r ∈ t.records, r.length ≤ 512 then .inr t else .inl (false, t)) := by
  have hs := z2r (f := fun s => (z7b s).run) (fun i : Nat => ⟨(i : Int), t⟩) t.records.length (fun i => ∀ r, t.records[i]? = some r → r.length ≤ 512) (fun i => .inl (false, t)) (.inr t)
    (fun i hi hp => by
      have hp' : ¬ 512 < (t.records[i].length : Int) := by have := hp t.records[i] (List.getElem?_eq_getElem hi); omega
      simp [z7b, Tree.run, hi, zt hi hl, hp'])
    (fun i hi hp => by
      have hp' : 512 < (t.records[i].length : Int) := by
        apply Classical.byContradiction
        intro hn
        exact hp fun r hr => by
          rw [List.getElem?_eq_getElem hi] at hr
          rw [← Option.some.inj hr]; omega
      simp [z7b, Tree.run, hi, hp'])
    (by simp [z7b, Tree.run])
  rcases hs with ⟨h1, h2⟩ | ⟨i, hi, h1, h2⟩
  · rw [if_pos]
    · exact h2
    · intro r hr
      obtain ⟨i, hi, he⟩ := List.mem_iff_getElem.1 hr
      exact h1 i hi r (by rw [List.getElem?_eq_getElem hi, he])
  · rw [if_neg]
    · exact h2
    · intro h
      exact h1 fun r hr => h r (List.mem_of_getElem? hr)
theorem beq_iff' (a b : Bool) : (a == b) = true ↔ (a = true ↔ b = true) := by cases a <;> cases b <;> simp
theorem ref_RightT_def (t : Tape) (hl : t.records.length ≤ 9223372036854775807) : zmo none t = some (decide (RtT t)) := by
  simp only [zmo, zii, Tree.run, z21k, Option.bind_some, z1wa t hl]
  by_cases h1 : 64 < (t.records.length : Int)
  · have : ¬ RtT t := fun h => by have := h.1; omega
    simp [h1, this]
  by_cases h2 : t.pos < 0
  · have : ¬ RtT t := fun h => by have := h.2.2.1; omega
    simp [h1, h2, this]
  by_cases h3 : (t.records.length : Int) < t.pos
  · have : ¬ RtT t := fun h => by have := h.2.2.1; omega
    simp [h1, h2, h3, this]
  by_cases h4 : t.command < 0
  · have : ¬ RtT t := fun h => by have := h.2.2.2.1; omega
    simp [h1, h2, h3, h4, this]
  by_cases h5 : 6 < t.command
  · have : ¬ RtT t := fun h => by have := h.2.2.2.1; omega
    simp [h1, h2, h3, h4, h5, this]
  by_cases h6 : 0 ≤ t.count ∧ t.count ≤ 65535
  · by_cases h7 : 0 ≤ t.addr ∧ t.addr ≤ 65535
    · by_cases h8 : ∀ r ∈ t.records, r.length ≤ 512
      · rw [if_pos h8]
        by_cases h9 : 0 ≤ t.left
        · by_cases h10 : t.left ≤ 16
          · simp only [h1, h2, h3, h4, h5, h6, h7, h9, h10, decide_false, decide_true, Bool.false_eq_true, if_false, if_true, Bool.not_true, and_self, Sum.isLeft_inr, Sum.getRight?_inr, Option.bind_some]
            rw [Option.some.injEq, Bool.eq_iff_iff, beq_iff', decide_eq_true_eq, decide_eq_true_eq]
            unfold RtT
            constructor
            · intro h; exact ⟨by omega, h8, by omega, by omega, h6, h7, by omega, h⟩
            · intro h; exact h.2.2.2.2.2.2.2
          · have : ¬ RtT t := fun h => by have := h.2.2.2.2.2.2.1; omega
            simp [h1, h2, h3, h4, h5, h6, h7, h9, h10, this]
        · have : ¬ RtT t := fun h => by have := h.2.2.2.2.2.2.1; omega
          simp [h1, h2, h3, h4, h5, h6, h7, h9, this]
      · rw [if_neg h8]
        have : ¬ RtT t := fun h => h8 h.2.1
        simp [h1, h2, h3, h4, h5, h6, h7, this]
    · have : ¬ RtT t := fun h => h7 h.2.2.2.2.2.1
      simp [h1, h2, h3, h4, h5, h6, h7, this]
  · have : ¬ RtT t := fun h => h6 h.2.2.2.2.1
    simp [h1, h2, h3, h4, h5, h6, this]
theorem tape_Right_def (t : Tape) (hl : t.records.length ≤ 9223372036854775807) : zpn none t = some (decide (RtT t)) := by
  simp only [zpn, zm7, Tree.run, z1y1, Option.bind_some, z1vc _ hl]
  by_cases h1 : 64 < (t.records.length : Int)
  · have : ¬ RtT t := fun h => by have := h.1; omega
    simp [h1, this]
  by_cases h8 : ∃ r ∈ t.records, 512 < r.length
  · have : ¬ RtT t := fun h => by
      obtain ⟨r, hr, hlt⟩ := h8
      have := h.2.1 r hr
      omega
    simp only [h1, h8, this, decide_true, decide_false, if_true, if_false, Bool.false_eq_true]
  have h8' : ∀ r ∈ t.records, r.length ≤ 512 := fun r hr => by
    apply Classical.byContradiction
    intro hn
    exact h8 ⟨r, hr, by omega⟩
  simp only [h1, h8, decide_false, if_false, Bool.false_eq_true]
  by_cases h2 : t.pos < 0
  · have : ¬ RtT t := fun h => by have := h.2.2.1; omega
    simp [h2, this]
  by_cases h3 : (t.records.length : Int) < t.pos
  · have : ¬ RtT t := fun h => by have := h.2.2.1; omega
    simp [h2, h3, this]
  by_cases h4 : 0 ≤ t.command
  · by_cases h5 : t.command ≤ 6
    · by_cases h6 : 0 ≤ t.count ∧ t.count ≤ 65535
      · by_cases h7 : 0 ≤ t.addr ∧ t.addr ≤ 65535
        · by_cases h9 : 0 ≤ t.left
          · by_cases h10 : t.left ≤ 16
            · simp only [h2, h3, h4, h5, h6, h7, h9, h10, decide_false, decide_true, Bool.false_eq_true, if_false, if_true, Bool.not_true, and_self, Option.bind_some]
              rw [Option.some.injEq, Bool.eq_iff_iff, beq_iff', decide_eq_true_eq, decide_eq_true_eq]
              unfold RtT
              constructor
              · intro h; exact ⟨by omega, h8', by omega, by omega, h6, h7, by omega, h⟩
              · intro h; exact h.2.2.2.2.2.2.2
            · have : ¬ RtT t := fun h => by have := h.2.2.2.2.2.2.1; omega
              simp [h2, h3, h4, h5, h6, h7, h9, h10, this]
          · have : ¬ RtT t := fun h => by have := h.2.2.2.2.2.2.1; omega
            simp [h2, h3, h4, h5, h6, h7, h9, this]
        · have : ¬ RtT t := fun h => h7 h.2.2.2.2.2.1
          simp [h2, h3, h4, h5, h6, h7, this]
      · have : ¬ RtT t := fun h => h6 h.2.2.2.2.1
        simp [h2, h3, h4, h5, h6, this]
    · have : ¬ RtT t := fun h => by have := h.2.2.2.1; omega
      simp [h2, h3, h4, h5, this]
  · have : ¬ RtT t := fun h => by have := h.2.2.2.1; omega
    simp [h2, h3, h4, this]
def hitW (a n y : Int) : Bool := decide (0 < n ∧ a ≤ y + 1 ∧ y < a + n)
def Evens (l : List Int) : Prop := l.length ≤ 100000 ∧ ∀ y ∈ l, 0 ≤ y ∧ y ≤ 1000000 ∧ y % 2 = 0
def Rng (a n : Int) : Prop := 0 ≤ a ∧ a ≤ 65535 ∧ 0 ≤ n ∧ n ≤ 65535
theorem zfu {a n y : Int} (hr : Rng a n) (hy : 0 ≤ y ∧ y ≤ 1000000) : z9z y n a = some (hitW a n y) := by
  obtain ⟨h0, h1, h2, h3⟩ := hr
  simp only [z9z, zba, Tree.run, zh (n := y + 1) (by omega) (by omega), zh (n := a + n) (by omega) (by omega), hitW]
  by_cases h4 : 0 < n
  · by_cases h5 : a ≤ y + 1
    · simp [h4, h5]
    · simp [h4, h5]
  · simp [h4]
theorem zpt {l : List Int} {i : Nat} (hi : i < l.length) : l[i] ∈ l := List.getElem_mem hi
theorem z1og (l : List Int) (a n : Int) (hl : Evens l) (hr : Rng a n) : ((∀ i, (h : i < l.length) → hitW a n l[i] = false) ∧ z2k none l n a = some (-1)) ∨ ∃ k, ∃ h : k < l.length, (∀ i, (h : i < k) → (h' : i < l.length) → hitW a n l[i] = false) ∧ hitW a n l[k] = true ∧ z2k none l n a = some ((k : Int)) := by
  have hs := zn3 (f := fun s => (z1s (l, n, a) s).run) (fun i : Nat => ⟨(l.length : Int), (i : Int)⟩) l.length (fun i => ∀ h : i < l.length, hitW a n l[i] = false) (fun i => .inl ((i : Int))) (.inr ())
    (fun i hi hp => by
      have := hl.1; have h2 := hl.2 _ (zpt hi)
      simp [z1s, Tree.run, hi, zt hi (show l.length ≤ 9223372036854775807 by omega), zfu hr ⟨h2.1, h2.2.1⟩, hp hi])
    (fun i hi hp => by
      have h2 := hl.2 _ (zpt hi)
      have hp' : hitW a n l[i] = true := by
        cases h : hitW a n l[i]
        · exact absurd (fun _ => h) hp
        · rfl
      simp [z1s, Tree.run, hi, zfu hr ⟨h2.1, h2.2.1⟩, hp'])
    (by simp [z1s, Tree.run])
  rcases hs with ⟨h2, h3⟩ | ⟨i, hi, h2, h3, h4⟩
  · have h : z2u none (l, n, a) ⟨(l.length : Int), (0 : Int)⟩ = some (.inr ()) := h3
    exact .inl ⟨fun i hi => h2 i hi hi, by simp [z2k, z2d, Tree.run, h]⟩
  · have h : z2u none (l, n, a) ⟨(l.length : Int), (0 : Int)⟩ = some (.inl ((i : Int))) := h4
    refine .inr ⟨i, hi, fun j hj hjl => h2 j hj hjl, ?_, by simp [z2k, z2d, Tree.run, h]⟩
    cases hh : hitW a n l[i]
    · exact absurd (fun _ => hh) h3
    · rfl
def keepW (a n : Int) (l : List Int) : List Int := l.filter fun y => !hitW a n y
theorem z13j {l : List Int} {a n : Int} {k : Nat} (h : ∀ i, i < k → (h' : i < l.length) → hitW a n l[i] = false) : keepW a n (l.take k) = l.take k := by
  unfold keepW
  rw [List.filter_eq_self]
  intro y hy
  obtain ⟨i, hi, he⟩ := List.mem_iff_getElem.1 hy
  rw [List.getElem_take] at he
  have hlt : i < k := by rw [List.length_take] at hi; omega
  have := h i hlt (by rw [List.length_take] at hi; omega)
  rw [he] at this
  simp [this]
theorem z10p {l : List Int} {a n : Int} {i : Nat} (hi : i < l.length) : keepW a n (l.take (i + 1)) = keepW a n (l.take i) ++ (if hitW a n l[i] = true then [] else [l[i]]) := by
  rw [z3l hi]
  unfold keepW
  rw [List.filter_append]
  cases he : hitW a n l[i] <;> simp [he]
theorem zw8 (l : List Int) (a n : Int) (hl : Evens l) (hr : Rng a n) (i j : Nat) (b : List Int) (hb : b.length = l.length) (hd : b.drop i = l.drop i) (ht : b.take j = keepW a n (l.take i)) (hji : j ≤ i) (hi : i ≤ l.length) :
    ∃ (k : Nat) (b' : List Int), z2n none (n, a) ⟨(j : Int), (i : Int), b⟩ = some ((k : Int), b') ∧ k ≤ l.length ∧ b'.length = l.length ∧ b'.take k = keepW a n l := by
  obtain ⟨r, hr', k, b', e1, e2, e3, e4⟩ := zlc (f := fun s => (z1o (n, a) s).run)
    (fun s => ∃ (i j : Nat) (b : List Int), s = ⟨(j : Int), (i : Int), b⟩ ∧ b.length = l.length ∧ b.drop i = l.drop i ∧ b.take j = keepW a n (l.take i) ∧ j ≤ i ∧ i ≤ l.length)
    (fun r => ∃ (k : Nat) (b' : List Int), r = ((k : Int), b') ∧ k ≤ l.length ∧ b'.length = l.length ∧ b'.take k = keepW a n l)
    (fun s => l.length - s.t6.toNat)
    (by
      rintro s ⟨i, j, b, rfl, hb, hd, ht, hji, hi⟩
      have hlen := hl.1
      by_cases hlt : i < l.length
      · have hib : i < b.length := by omega
        have he : b[i] = l[i] := by
          have h2 := congrArg (fun x => x[0]?) hd
          simp only [List.getElem?_drop, Nat.add_zero] at h2
          rw [List.getElem?_eq_getElem hib, List.getElem?_eq_getElem hlt] at h2
          exact Option.some.inj h2
        have hd' : b.drop (i + 1) = l.drop (i + 1) := by
          have h2 := congrArg (List.drop 1) hd
          rwa [List.drop_drop, List.drop_drop] at h2
        have h2 := hl.2 _ (zpt hlt)
        have hw := zfu hr (y := l[i]) ⟨h2.1, h2.2.1⟩
        right
        cases hp : hitW a n l[i]
        · have hjb : j < b.length := by omega
          have hjl : j < l.length := by omega
          refine ⟨⟨((j + 1 : Nat) : Int), ((i + 1 : Nat) : Int), b.set j l[i]⟩, ?_, ⟨i + 1, j + 1, b.set j l[i], rfl, by rw [List.length_set]; exact hb, ?_, ?_, by omega, hlt⟩, ?_⟩
          · simp [z1o, Tree.run, hb, hlt, hjl, hib, hjb, he, zt hlt (show l.length ≤ 9223372036854775807 by omega), zt hjl (show l.length ≤ 9223372036854775807 by omega), hw, hp]
          · rw [List.drop_set_of_lt (by omega)]; exact hd'
          · rw [z10p hlt, hp, if_neg (by simp), ← ht, z3l (by rw [List.length_set]; exact hjb), List.take_set_of_le (Nat.le_refl _)]
            simp
          · simp; omega
        · refine ⟨⟨(j : Int), ((i + 1 : Nat) : Int), b⟩, ?_, ⟨i + 1, j, b, rfl, hb, hd', ?_, by omega, hlt⟩, ?_⟩
          · simp [z1o, Tree.run, hb, hlt, hib, he, zt hlt (show l.length ≤ 9223372036854775807 by omega), hw, hp]
          · rw [z10p hlt, hp, if_pos rfl, List.append_nil]; exact ht
          · simp; omega
      · left
        have hil : i = l.length := by omega
        refine ⟨((j : Int), b), ?_, j, b, rfl, by omega, hb, ?_⟩
        · simp [z1o, Tree.run, hb, hil]
        · rw [ht, hil, List.take_length])
    ⟨(j : Int), (i : Int), b⟩ ⟨i, j, b, rfl, hb, hd, ht, hji, hi⟩
  subst e1
  exact ⟨k, b', hr', e2, e3, e4⟩
theorem z1jf (l : List Int) (a n : Int) (hl : Evens l) (hr : Rng a n) : z1y none l n a = some (.inl ()) ∧ keepW a n l = l ∨ ∃ k b, z1y none l n a = some (.inr ((0, k), b)) ∧ b.take k = keepW a n l := by
  rcases z1og l a n hl hr with ⟨h2, h3⟩ | ⟨k, hk, h2, h3, h4⟩
  · left
    have := z13j (k := l.length) fun i _ h => h2 i h
    rw [List.take_length] at this
    exact ⟨by simp [z1y, z27, Tree.run, h3], this⟩
  · right
    have hlen := hl.1
    obtain ⟨m, b, e1, e2, e3, e4⟩ := zw8 l a n hl hr (k + 1) k l rfl rfl (by rw [z10p hk, if_pos h3, List.append_nil, z13j h2]) (by omega) hk
    have e1' : z2n none (n, a) ⟨(k : Int), IntKind.wrap .i64 ((k : Int) + 1), l⟩ = some ((m : Int), b) := by
      rw [zt hk (by omega)]; exact e1
    refine ⟨m, b.take m ++ List.replicate (b.length - m) 0, ?_, ?_⟩
    · have hne : ¬ (k : Int) = -1 := by omega
      have hdrop : b.drop (m + (b.length - m)) = [] := List.drop_eq_nil_of_le (by omega)
      simp [z1y, z27, Tree.run, h4, e1', hne, hdrop]
      omega
    · rw [List.take_append_of_le_length (by rw [List.length_take]; omega), List.take_take, Nat.min_self]
      exact e4
theorem z1jg (l : List Int) (a n : Int) (hl : Evens l) (hr : Rng a n) : ∃ r, z3f none l n a = some r ∧ (0 ≤ r ↔ ∃ y ∈ l, hitW a n y = true) := by
  have hs := zn3 (f := fun s => (z1t (n, a) s).run) (fun i : Nat => ⟨l, (l.length : Int), (i : Int)⟩) l.length (fun i => ∀ h : i < l.length, hitW a n l[i] = false) (fun i => .inl ((i : Int))) (.inr ())
    (fun i hi hp => by
      have := hl.1; have h2 := hl.2 _ (zpt hi)
      simp [z1t, Tree.run, hi, zt hi (show l.length ≤ 9223372036854775807 by omega), zfu hr ⟨h2.1, h2.2.1⟩, hp hi])
    (fun i hi hp => by
      have h2 := hl.2 _ (zpt hi)
      have hp' : hitW a n l[i] = true := by
        cases h : hitW a n l[i]
        · exact absurd (fun _ => h) hp
        · rfl
      simp [z1t, Tree.run, hi, zfu hr ⟨h2.1, h2.2.1⟩, hp'])
    (by simp [z1t, Tree.run])
  rcases hs with ⟨h2, h3⟩ | ⟨i, hi, h2, h3, h4⟩
  · have h : z2v none (n, a) ⟨l, (l.length : Int), (0 : Int)⟩ = some (.inr ()) := h3
    refine ⟨-1, by simp [z3f, z2e, Tree.run, h], by omega, ?_⟩
    rintro ⟨y, hy, hh⟩
    obtain ⟨i, hi, he⟩ := List.mem_iff_getElem.1 hy
    have := h2 i hi hi
    rw [he, hh] at this
    cases this
  · have h : z2v none (n, a) ⟨l, (l.length : Int), (0 : Int)⟩ = some (.inl ((i : Int))) := h4
    refine ⟨i, by simp [z3f, z2e, Tree.run, h], fun _ => ⟨l[i], zpt hi, ?_⟩, fun _ => by omega⟩
    cases hh : hitW a n l[i]
    · exact absurd (fun _ => hh) h3
    · rfl
theorem z1dn (l : List Int) (a n : Int) (hl : Evens l) (hr : Rng a n) : z48 none l n a = some (decide (∃ y ∈ l, hitW a n y = true)) := by
  obtain ⟨r, h1, h2⟩ := z1jg l a n hl hr
  simp only [z48, z2o, Tree.run, h1, Option.bind_some, h2]
theorem z19l {a : Int} {i : Nat} (h0 : 0 ≤ a) (h1 : a + (i : Int) ≤ 1000000) : IntKind.wrap .i64 ((IntKind.wrap .i64 ((IntKind.wrap .i64 (a + (i : Int))).tdiv 2)) * 2) = (a + (i : Int)) / 2 * 2 := by
  rw [zh (n := a + (i : Int)) (by omega) (by omega), half (by omega) (by omega), zh (by omega) (by omega)]
theorem z1zj (a y : Int) (k : Nat) (h0 : 0 ≤ a) (hy : y % 2 = 0) : hitW a ((k + 1 : Nat) : Int) y = (hitW a (k : Int) y || decide (y = (a + (k : Int)) / 2 * 2)) := by
  rw [Bool.eq_iff_iff]
  simp only [hitW, decide_eq_true_eq, Bool.or_eq_true]
  omega
theorem z1vg (l : List Int) (a : Int) (n : Nat) (hl : Evens l) (hr : Rng a (n : Int)) : zca none l a (n : Int) = some (keepW a (n : Int) l) := by
  obtain ⟨h0, h1, h2, h3⟩ := id hr
  have hc := z4i (f := fun s => (z7c none s).run) (fun i : Nat => ⟨keepW a (i : Int) l, a, (n : Int), (i : Int)⟩) n (fun i hi => by
    have hlen : (keepW a (i : Int) l).length ≤ 100000 := Nat.le_trans (List.length_filter_le _ _) hl.1
    have hw := z1va (keepW a (i : Int) l) ((a + (i : Int)) / 2 * 2) hlen
    have hk : without (keepW a (i : Int) l) ((a + (i : Int)) / 2 * 2) = keepW a ((i + 1 : Nat) : Int) l := by
      unfold without keepW
      rw [List.filter_filter]
      apply List.filter_congr
      intro y hy
      rw [z1zj a y i h0 (hl.2 y hy).2.2]
      cases hitW a (i : Int) y <;> simp
    have hi' : (i : Int) < (n : Int) := by omega
    simp only [z7c, Tree.run, hi', decide_true, if_true, show ¬ (2 : Int) = 0 by omega, decide_false, Bool.false_eq_true, if_false, z19l h0 (show a + (i : Int) ≤ 1000000 by omega), hw, Option.bind_some, hk, zt hi (show n ≤ 9223372036854775807 by omega)]) 0 (Nat.zero_le _)
  have hd : z8o none ⟨keepW a (n : Int) l, a, (n : Int), ((n : Nat) : Int)⟩ = some (keepW a (n : Int) l) := z2q (by simp [z7c, Tree.run])
  have h : z8o none ⟨keepW a ((0 : Nat) : Int) l, a, (n : Int), (0 : Int)⟩ = some (keepW a (n : Int) l) := hc.trans hd
  have hz : keepW a ((0 : Nat) : Int) l = l := by
    unfold keepW
    rw [List.filter_eq_self]
    intro y _
    simp [hitW]
  rw [hz] at h
  simp only [zca, zen, Tree.run, h, Option.bind_some]
theorem z11b (l : List Int) (a : Int) (n : Nat) (hl : Evens l) (hr : Rng a (n : Int)) : zds none l a (n : Int) = some (decide (∃ y ∈ l, hitW a (n : Int) y = true)) := by
  obtain ⟨h0, h1, h2, h3⟩ := id hr
  have hs := zn3 (f := fun s => (z6g none s).run) (fun i : Nat => ⟨l, a, (n : Int), (i : Int)⟩) n (fun i => ¬ (a + (i : Int)) / 2 * 2 ∈ l) (fun i => .inl true) (.inr ())
    (fun i hi hp => by
      have hi' : (i : Int) < (n : Int) := by omega
      have := hl.1
      simp only [z6g, Tree.run, hi', decide_true, if_true, show ¬ (2 : Int) = 0 by omega, decide_false, Bool.false_eq_true, if_false, z19l h0 (show a + (i : Int) ≤ 1000000 by omega), z1wn l _ (show l.length ≤ 9223372036854775807 by omega), Option.bind_some, hp, zt hi (show n ≤ 9223372036854775807 by omega)])
    (fun i hi hp => by
      have hi' : (i : Int) < (n : Int) := by omega
      have := hl.1
      have hp' : (a + (i : Int)) / 2 * 2 ∈ l := Decidable.not_not.1 hp
      simp only [z6g, Tree.run, hi', decide_true, if_true, show ¬ (2 : Int) = 0 by omega, decide_false, Bool.false_eq_true, if_false, z19l h0 (show a + (i : Int) ≤ 1000000 by omega), z1wn l _ (show l.length ≤ 9223372036854775807 by omega), Option.bind_some, hp'])
    (by simp [z6g, Tree.run])
  rcases hs with ⟨h4, h5⟩ | ⟨i, hi, -, h4, h5⟩
  · have h : za6 none ⟨l, a, (n : Int), (0 : Int)⟩ = some (.inr ()) := h5
    have hn : ¬ ∃ y ∈ l, hitW a (n : Int) y = true := by
      rintro ⟨y, hy, hh⟩
      have he := (hl.2 y hy).2.2
      simp only [hitW, decide_eq_true_eq] at hh
      by_cases hya : a ≤ y
      · refine h4 (y - a).toNat (by omega) ?_
        rw [show (a + ((y - a).toNat : Int)) / 2 * 2 = y by omega]; exact hy
      · refine h4 0 (by omega) ?_
        rw [show (a + ((0 : Nat) : Int)) / 2 * 2 = y by omega]; exact hy
    simp only [zds, zc7, Tree.run, h, hn]
    rfl
  · have h : za6 none ⟨l, a, (n : Int), (0 : Int)⟩ = some (.inl true) := h5
    have hm : (a + (i : Int)) / 2 * 2 ∈ l := Decidable.not_not.1 h4
    have hn : ∃ y ∈ l, hitW a (n : Int) y = true := ⟨_, hm, by simp only [hitW, decide_eq_true_eq]; omega⟩
    simp only [zds, zc7, Tree.run, h, hn]
    rfl
def Pos (t : Tape) : Prop := t.records.length ≤ 64 ∧ 0 ≤ t.pos ∧ t.pos ≤ (t.records.length : Int)
def recAt (t : Tape) : List UInt8 := t.records.getD t.pos.toNat []
def passT (t : Tape) : Tape := if t.pos = (t.records.length : Int) then { t with error := true, end_ := true } else { t with pos := t.pos + 1, mark := t.mark || decide (recAt t = []) }
def passR (t : Tape) : List UInt8 × Tape × Bool := if t.pos = (t.records.length : Int) then ([], passT t, false) else (recAt t, passT t, true)
theorem z19r {t : Tape} (h : Pos t) (hn : ¬ t.pos = (t.records.length : Int)) : t.records[t.pos.toNat]? = some (recAt t) := by
  obtain ⟨h1, h2, h3⟩ := h
  have : t.pos.toNat < t.records.length := by omega
  simp [recAt, this]
theorem z1u6 (t : Tape) (h : Pos t) : zng t = some (passR t) := by
  obtain ⟨h1, h2, h3⟩ := id h
  simp only [zng, zp5, Tree.run, passR, passT, decide_eq_true_eq]
  by_cases hn : t.pos = (t.records.length : Int)
  · simp [hn]
  · simp only [hn, if_false, h2, if_true, z19r h hn, Option.bind_some, zh (n := t.pos + 1) (by omega) (by omega)]
    cases hm : t.mark <;> simp
theorem z1io (t : Tape) (h : Pos t) : zdr t = some ((passR t).2.1, (passR t).2.2) := by
  obtain ⟨h1, h2, h3⟩ := id h
  simp only [zdr, zg7, Tree.run, passR, passT, decide_eq_true_eq]
  by_cases hn : t.pos = (t.records.length : Int)
  · simp [hn]
  · have hn' : ¬ (t.records.length : Int) ≤ t.pos := by omega
    simp only [hn, hn', if_false, h2, if_true, z19r h hn, Option.bind_some, zh (n := t.pos + 1) (by omega) (by omega)]
    cases hm : t.mark <;> simp
def addT (t : Tape) (r : List UInt8) : Tape := if t.pos = 64 then { t with error := true, end_ := true } else { t with records := t.records.take t.pos.toNat ++ [r], pos := t.pos + 1 }
theorem z1mb (t : Tape) (r : List UInt8) (h : Pos t) : zk0 t r = some (addT t r) := by
  obtain ⟨h1, h2, h3⟩ := id h
  have hlen : (t.records.take t.pos.toNat).length ≤ 64 := by rw [List.length_take]; omega
  have hc : cloneF 16 (t.records.take t.pos.toNat) = some (t.records.take t.pos.toNat) := by unfold cloneF; rw [if_pos (by omega)]
  have hc2 : ((t.records.take t.pos.toNat).length + [r].length) * 16 ≤ 140737488355328 := by simp only [List.length_cons, List.length_nil]; omega
  simp only [zk0, zm8, Tree.run, addT, decide_eq_true_eq, List.drop_zero, Nat.sub_zero, hc]
  by_cases hn : t.pos = 64
  · simp [hn]
  · simp only [hn, if_false, h2, h3, if_true, Option.bind_some, hc2, zh (n := t.pos + 1) (by omega) (by omega)]
theorem z17u (t : Tape) (r : List UInt8) (h : Pos t) : zbg t r = some (addT t r) := by
  obtain ⟨h1, h2, h3⟩ := id h
  have hlen : (t.records.take t.pos.toNat).length ≤ 64 := by rw [List.length_take]; omega
  have hc1 : (([] : List (List UInt8)).length + (t.records.take t.pos.toNat).length) * 16 ≤ 140737488355328 := by simp only [List.length_nil]; omega
  have hc2 : ((t.records.take t.pos.toNat).length + [r].length) * 16 ≤ 140737488355328 := by simp only [List.length_cons, List.length_nil]; omega
  simp only [zbg, zcz, Tree.run, addT, decide_eq_true_eq, List.drop_zero, Nat.sub_zero, List.nil_append]
  by_cases hn : t.pos = 64
  · simp [hn]
  · have hn' : ¬ 64 ≤ t.pos := by omega
    simp only [hn, hn', if_false, h2, h3, if_true, hc1, hc2, zh (n := t.pos + 1) (by omega) (by omega)]
def cnt (t : Tape) : Nat := min t.count.toNat (recAt t).length
def fetchM (t : Tape) (m bad : List Int) : Tape × List Int × List Int := if t.pos = (t.records.length : Int) then (passT t, m, bad) else if Wn m t.addr (cnt t : Int) then ({ passT t with error := t.error || decide (t.count < ((recAt t).length : Int)), count := t.count - (cnt t : Int) }, storeL m t.addr ((recAt t).take (cnt t)), keepW t.addr (cnt t : Int) bad) else ({ passT t with error := true }, m, bad)
theorem z1wv {t : Tape} (h0 : 0 ≤ t.count) : (if ((recAt t).length : Int) < t.count then ((recAt t).length : Int) else t.count) = ((cnt t : Nat) : Int) := by
  unfold cnt
  split <;> omega
structure Fit (t : Tape) (m bad : List Int) : Prop where
  pos : Pos t
  long : ∀ r ∈ t.records, r.length ≤ 512
  cnt : 0 ≤ t.count ∧ t.count ≤ 65535
  addr : 0 ≤ t.addr ∧ t.addr ≤ 65535
  mem : Words m
  bad : Evens bad
theorem z1ub {t : Tape} (h : Pos t) (hl : ∀ r ∈ t.records, r.length ≤ 512) : (recAt t).length ≤ 512 := by
  by_cases hn : t.pos = (t.records.length : Int)
  · have : recAt t = [] := by
      unfold recAt
      rw [List.getD_eq_getElem?_getD, List.getElem?_eq_none (by omega)]; rfl
    rw [this]; simp
  · exact hl _ (List.mem_of_getElem? (z19r h hn))
theorem z1zb (t : Tape) (m bad : List Int) (h : Fit t m bad) : zpo none t m bad = some (fetchM t m bad) := by
  obtain ⟨hp, hlong, hcnt, haddr, hm, hb⟩ := h
  have hr := z1ub hp hlong
  have hcb : cloneF 8 bad = some bad := by unfold cloneF; rw [if_pos (by have := hb.1; omega)]
  simp only [zpo, zm9, Tree.run, z1u6 t hp, Option.bind_some, passR, fetchM]
  by_cases hn : t.pos = (t.records.length : Int)
  · simp [hn]
  · have e1 : (passT t).count = t.count := by unfold passT; rw [if_neg hn]
    have e2 : (passT t).addr = t.addr := by unfold passT; rw [if_neg hn]
    have e3 : (passT t).error = t.error := by unfold passT; rw [if_neg hn]
    have hk : cnt t ≤ (recAt t).length := Nat.min_le_right _ _
    have hk2 : (cnt t : Int) ≤ t.count := by unfold cnt; omega
    have hlen : ((recAt t).take (cnt t)).length = cnt t := by rw [List.length_take]; omega
    have h0 : (0 : Int) ≤ (cnt t : Int) := by omega
    have hle : (cnt t : Int) ≤ ((recAt t).length : Int) := by omega
    have hrng : Rng t.addr (cnt t : Int) := ⟨haddr.1, haddr.2, by omega, by omega⟩
    have hst := Store_def m t.addr ((recAt t).take (cnt t)) hm
    have hwi : zcg t.addr (cnt t : Int) = some ((cnt t : Int), t.addr) := rfl
    simp only [hn, if_false, e1, e2, e3, z1wv hcnt.1, Bool.not_true, Bool.false_eq_true, h0, hle, decide_true, if_true, List.drop_zero, Nat.sub_zero, Int.toNat_natCast, hst, Option.bind_some, storeM, hlen, hcb, hwi, zh (n := t.count - (cnt t : Int)) (by omega) (by omega)]
    by_cases hw : Wn m t.addr (cnt t : Int)
    · simp only [hw, if_true, decide_true, Bool.not_true, Bool.false_eq_true, if_false]
      rcases z1jf bad t.addr (cnt t : Int) hb hrng with ⟨d1, d2⟩ | ⟨k, b, d1, d2⟩
      · cases he : t.error <;> simp [d1, d2]
      · cases he : t.error <;> simp [d1, d2]
    · simp only [hw, if_false, show ¬ (2 : Int) = 0 by omega, decide_false, Bool.not_false, if_true]
      cases he : t.error <;> simp
theorem z21c (t : Tape) (m bad : List Int) (h : Fit t m bad) : zpk none t m bad = some (fetchM t m bad) := by
  obtain ⟨hp, hlong, hcnt, haddr, hm, hb⟩ := h
  have hr := z1ub hp hlong
  simp only [zpk, zm2, Tree.run, z1io t hp, Option.bind_some, passR, fetchM]
  by_cases hn : t.pos = (t.records.length : Int)
  · simp [hn]
  · have e1 : (passT t).count = t.count := by unfold passT; rw [if_neg hn]
    have e2 : (passT t).addr = t.addr := by unfold passT; rw [if_neg hn]
    have e3 : (passT t).error = t.error := by unfold passT; rw [if_neg hn]
    have e4 : (passT t).pos = t.pos + 1 := by unfold passT; rw [if_neg hn]
    have e5 : (passT t).records = t.records := by unfold passT; rw [if_neg hn]
    have hpos := hp.2.1
    have hp64 := hp.1
    have hp3 := hp.2.2
    have hk : cnt t ≤ (recAt t).length := Nat.min_le_right _ _
    have hk2 : (cnt t : Int) ≤ t.count := by unfold cnt; omega
    have hlen : ((recAt t).take (cnt t)).length = cnt t := by rw [List.length_take]; omega
    have h0 : (0 : Int) ≤ (cnt t : Int) := by omega
    have hle : (cnt t : Int) ≤ ((recAt t).length : Int) := by omega
    have hrng : Rng t.addr (cnt t : Int) := ⟨haddr.1, haddr.2, by omega, by omega⟩
    have hst := z1pp m t.addr ((recAt t).take (cnt t)) hm
    have hcl := z1vg bad t.addr (cnt t) hb hrng
    have e6 : IntKind.wrap .i64 (t.pos + 1 - 1) = t.pos := by rw [zh (by omega) (by omega)]; omega
    simp only [hn, if_false, e1, e2, e3, e4, e5, e6, hpos, z19r hp hn, z1wv hcnt.1, Bool.not_true, Bool.false_eq_true, h0, hle, decide_true, if_true, List.drop_zero, Nat.sub_zero, Int.toNat_natCast, hst, Option.bind_some, storeM, hlen, hcl, zh (n := t.count - (cnt t : Int)) (by omega) (by omega)]
    by_cases hw : Wn m t.addr (cnt t : Int)
    · cases he : t.error <;> simp [hw, passT, hn]
    · cases he : t.error <;> simp [hw, passT, hn]
def storeT (t : Tape) (m bad : List Int) : Tape := if Wn m t.addr t.count ∧ 1 ≤ t.count ∧ t.count ≤ 512 ∧ ¬ ∃ y ∈ bad, hitW t.addr t.count y = true then addT t (outB m t.addr t.count.toNat) else { t with error := true }
theorem z1v3 (s : List UInt8) (hs : s.length ≤ 100000) : zgd s = some s := by
  have : z80 s = some s := by
    show zhe s = some s
    unfold zhe
    rw [if_pos (by omega)]
  simp only [zgd, zeo, Tree.run, this, Option.bind_some]
theorem z207 (t : Tape) (m bad : List Int) (h : Fit t m bad) : zpp none t m bad = some (storeT t m bad) := by
  obtain ⟨hp, hlong, hcnt, haddr, hm, hb⟩ := h
  have hrng : Rng t.addr t.count := ⟨haddr.1, haddr.2, hcnt.1, hcnt.2⟩
  have hwi : zcg t.addr t.count = some (t.count, t.addr) := rfl
  simp only [zpp, zma, Tree.run, Bytes_def m t.addr t.count hm.1, Option.bind_some, bytesM, storeT, z1e1, hwi, z1dn bad t.addr t.count hb hrng]
  by_cases hw : Wn m t.addr t.count
  · have hlen : (outB m t.addr t.count.toNat).length = t.count.toNat := outB_len _ _ _
    simp only [hw, if_true, decide_true, Bool.not_true, Bool.false_eq_true, if_false, true_and]
    by_cases h1 : 1 ≤ t.count
    · have hne : ¬ outB m t.addr t.count.toNat = [] := fun e => by rw [e] at hlen; simp at hlen; omega
      simp only [hne, decide_false, Bool.false_eq_true, if_false, h1, true_and, hlen]
      by_cases h2 : t.count ≤ 512
      · have h2' : ¬ 512 < ((t.count.toNat : Nat) : Int) := by omega
        simp only [h2, h2', decide_false, Bool.false_eq_true, if_false, true_and, z1v3 _ (show (outB m t.addr t.count.toNat).length ≤ 100000 by omega), z1mb t _ hp, Option.bind_some]
        by_cases h3 : ∃ y ∈ bad, hitW t.addr t.count y = true
        · simp only [h3, decide_true, if_true, not_true, if_false]
        · simp only [h3, decide_false, Bool.false_eq_true, if_false, not_false_eq_true, if_true]
      · have h2' : 512 < ((t.count.toNat : Nat) : Int) := by omega
        simp only [h2, h2', decide_true, if_true, false_and, if_false]
    · have he : outB m t.addr t.count.toNat = [] := List.eq_nil_of_length_eq_zero (by omega)
      simp only [he, decide_true, if_true, h1, false_and, if_false]
  · simp [hw]
theorem z20e (t : Tape) (m bad : List Int) (h : Fit t m bad) : zmp none t m bad = some (storeT t m bad) := by
  obtain ⟨hp, hlong, hcnt, haddr, hm, hb⟩ := h
  have hrng : Rng t.addr ((t.count.toNat : Nat) : Int) := ⟨haddr.1, haddr.2, by omega, by omega⟩
  have hsp := z11b bad t.addr t.count.toNat hb hrng
  rw [Int.toNat_of_nonneg hcnt.1] at hsp
  simp only [zmp, zij, Tree.run, z1po m t.addr t.count hm.1, Option.bind_some, bytesM, storeT, hsp, z17u t _ hp]
  by_cases h1 : 1 ≤ t.count
  · have h1' : ¬ t.count < 1 := by omega
    simp only [h1, h1', decide_false, Bool.false_eq_true, if_false, true_and]
    by_cases h2 : t.count ≤ 512
    · have h2' : ¬ 512 < t.count := by omega
      simp only [h2, h2', decide_false, Bool.false_eq_true, if_false, true_and]
      by_cases hw : Wn m t.addr t.count
      · simp only [hw, if_true, decide_true, Bool.not_true, Bool.false_eq_true, if_false, true_and]
        by_cases h3 : ∃ y ∈ bad, hitW t.addr t.count y = true
        · simp only [h3, decide_true, if_true, not_true, if_false]
        · simp only [h3, decide_false, Bool.false_eq_true, if_false, not_false_eq_true, if_true]
      · simp [hw]
    · have h2' : 512 < t.count := by omega
      simp only [h2, h2', decide_true, if_true, false_and, and_false, if_false]
  · have h1' : t.count < 1 := by omega
    simp only [h1, h1', decide_true, if_true, false_and, and_false, if_false]
def backT (t : Tape) : Tape := if t.pos = 0 then { t with end_ := true } else { t with pos := t.pos - 1, mark := t.mark || decide (t.records.getD (t.pos - 1).toNat [] = []) }
theorem z1r1 {t : Tape} (h : Pos t) (hn : ¬ t.pos = 0) : t.records[(t.pos - 1).toNat]? = some (t.records.getD (t.pos - 1).toNat []) := by
  obtain ⟨h1, h2, h3⟩ := h
  have : (t.pos - 1).toNat < t.records.length := by omega
  rw [List.getD_eq_getElem?_getD, List.getElem?_eq_getElem this]; rfl
theorem z20k (t : Tape) (h : Pos t) : zpj t = some (backT t) := by
  obtain ⟨h1, h2, h3⟩ := id h
  simp only [zpj, zm1, Tree.run, backT, decide_eq_true_eq]
  by_cases hn : t.pos = 0
  · simp [hn]
  · have h4 : 0 ≤ t.pos - 1 := by omega
    simp only [hn, if_false, zh (n := t.pos - 1) (by omega) (by omega), h4, if_true, z1r1 h hn, Option.bind_some]
    cases hm : t.mark <;> simp
def tickM (t : Tape) (m bad : List Int) : Tape × List Int × List Int := if t.left = 0 then (t, m, bad) else if 0 < t.left - 1 then ({ t with left := t.left - 1 }, m, bad) else
  if t.command = 1 then fetchM { t with ready := true, left := t.left - 1 } m bad
  else if t.command = 2 then (storeT { t with ready := true, left := t.left - 1 } m bad, m, bad)
  else if t.command = 3 then (passT { t with ready := true, left := t.left - 1 }, m, bad)
  else if t.command = 4 then (backT { t with ready := true, left := t.left - 1 }, m, bad)
  else if t.command = 5 then ({ t with ready := true, left := t.left - 1, pos := 0 }, m, bad)
  else if t.command = 6 then (addT { t with ready := true, left := t.left - 1 } [], m, bad)
  else ({ t with ready := true, left := t.left - 1 }, m, bad)
theorem z1in (t : Tape) : (passR t).2.1 = passT t := by unfold passR; split <;> rfl
theorem Tick_def (t : Tape) (m bad : List Int) (h : Fit t m bad) (hl : 0 ≤ t.left ∧ t.left ≤ 16) : znf none t m bad = some (tickM t m bad) := by
  have h2 : Fit { t with ready := true, left := t.left - 1 } m bad := ⟨h.pos, h.long, h.cnt, h.addr, h.mem, h.bad⟩
  have hp := h2.pos
  simp only [znf, zp4, Tree.run, decide_eq_true_eq, tickM, zh (n := t.left - 1) (by omega) (by omega), z1zb _ m bad h2, z207 _ m bad h2, z1u6 _ hp, z1mb _ _ hp, Option.bind_some, z1in]
  by_cases h0 : t.left = 0
  · simp only [h0, if_true]
  · simp only [h0, if_false]
    by_cases h1 : 0 < t.left - 1
    · simp only [h1, if_true]
    · simp only [h1, if_false]
      by_cases c1 : t.command = 1
      · simp only [c1, if_true]
      · by_cases c2 : t.command = 2
        · simp only [c1, c2, if_true, if_false, show ¬ (2 : Int) = 1 by omega]
        · by_cases c3 : t.command = 3
          · simp only [c3, if_true, if_false, show ¬ (3 : Int) = 1 by omega, show ¬ (3 : Int) = 2 by omega]
          · by_cases c4 : t.command = 4
            · simp only [c4, if_true, if_false, show ¬ (4 : Int) = 1 by omega, show ¬ (4 : Int) = 2 by omega, show ¬ (4 : Int) = 3 by omega, backT]
              have hpos := h.pos
              by_cases hn : t.pos = 0
              · simp [hn]
              · have h4 : 0 ≤ t.pos - 1 := by have := hpos.2.1; omega
                have h5 := hpos.2.2; have h6 := hpos.1
                simp only [hn, if_false, zh (n := t.pos - 1) (by omega) (by omega), h4, if_true, z1r1 hpos hn, Option.bind_some]
                cases hm : t.mark <;> simp
            · simp only [c1, c2, c3, c4, if_false]
              by_cases c5 : t.command = 5
              · simp only [c5, if_true]
              · by_cases c6 : t.command = 6
                · simp only [c6, if_true, if_false, show ¬ (6 : Int) = 5 by omega]
                · simp only [c5, c6, if_false]
theorem ref_Tick_def (t : Tape) (m bad : List Int) (h : Fit t m bad) (hl : 0 ≤ t.left ∧ t.left ≤ 16) : zew none t m bad = some (tickM t m bad) := by
  have h2 : Fit { t with ready := true, left := t.left - 1 } m bad := ⟨h.pos, h.long, h.cnt, h.addr, h.mem, h.bad⟩
  have hp := h2.pos
  simp only [zew, zm0, Tree.run, decide_eq_true_eq, tickM, zh (n := t.left - 1) (by omega) (by omega), z21c _ m bad h2, z20e _ m bad h2, z1io _ hp, z17u _ _ hp, z20k _ hp, Option.bind_some, z1in]
  by_cases h0 : t.left = 0
  · simp only [h0, if_true, Int.le_refl]
  · have h0' : ¬ t.left ≤ 0 := by omega
    simp only [h0, h0', if_false]
    by_cases h1 : 0 < t.left - 1
    · simp only [h1, if_true]
    · simp only [h1, if_false]
      by_cases c1 : t.command = 1
      · simp only [c1, if_true]
      · by_cases c2 : t.command = 2
        · simp only [c2, if_true, if_false, show ¬ (2 : Int) = 1 by omega]
        · by_cases c3 : t.command = 3
          · simp only [c3, if_true, if_false, show ¬ (3 : Int) = 1 by omega, show ¬ (3 : Int) = 2 by omega]
          · by_cases c4 : t.command = 4
            · simp only [c4, if_true, if_false, show ¬ (4 : Int) = 1 by omega, show ¬ (4 : Int) = 2 by omega, show ¬ (4 : Int) = 3 by omega]
            · by_cases c5 : t.command = 5
              · simp only [c5, if_true, if_false, show ¬ (5 : Int) = 1 by omega, show ¬ (5 : Int) = 2 by omega, show ¬ (5 : Int) = 3 by omega, show ¬ (5 : Int) = 4 by omega]
              · by_cases c6 : t.command = 6
                · simp only [c6, if_true, if_false, show ¬ (6 : Int) = 1 by omega, show ¬ (6 : Int) = 2 by omega, show ¬ (6 : Int) = 3 by omega, show ¬ (6 : Int) = 4 by omega, show ¬ (6 : Int) = 5 by omega]
                · simp only [c1, c2, c3, c4, c5, c6, if_false]
def Sm (t : Tape) (s : Store) : Prop := s.mem.length ≤ 2048 ∧ s.bad.length ≤ 2048 ∧ RtT t ∧ Rt s.mem s.bad
theorem z20u {m bad : List Int} (hb : bad.length ≤ 2048) (hm : m.length ≤ 2048) (h : Bads m.length bad) : Evens bad := by
  refine ⟨by omega, fun y hy => ?_⟩
  obtain ⟨i, hi, he⟩ := List.mem_iff_getElem.1 hy
  obtain ⟨h1, h2, h3, _⟩ := h i hi
  rw [he] at h1 h2 h3
  omega
theorem fit_of {t : Tape} {s : Store} (h : Sm t s) : Fit t s.mem s.bad := by
  obtain ⟨h1, h2, h3, h4⟩ := h
  exact ⟨⟨h3.1, h3.2.2.1⟩, h3.2.1, h3.2.2.2.2.1, h3.2.2.2.2.2.1, ⟨by omega, h4.2.1⟩, z20u h2 h1 h4.2.2⟩
theorem z1nx (a n : Int) (l : List Int) : (keepW a n l).length ≤ l.length := List.length_filter_le _ _
theorem z1qy (t : Tape) (r : List UInt8) (h : t.records.length ≤ 64) : (addT t r).records.length ≤ 65 := by
  unfold addT
  split
  · dsimp only; omega
  · dsimp only
    rw [List.length_append, List.length_take, List.length_cons, List.length_nil]; omega
theorem zgb (t : Tape) : (passT t).records = t.records := by unfold passT; split <;> rfl
theorem z1oi (t : Tape) : (backT t).records = t.records := by unfold backT; split <;> rfl
theorem tickM_len (t : Tape) (m bad : List Int) (h : t.records.length ≤ 64) : (tickM t m bad).1.records.length ≤ 65 ∧ (tickM t m bad).2.1.length ≤ m.length ∧ (tickM t m bad).2.2.length ≤ bad.length := by
  have h65 : t.records.length ≤ 65 := by omega
  unfold tickM
  repeat' split
  · exact ⟨h65, Nat.le_refl _, Nat.le_refl _⟩
  · exact ⟨h65, Nat.le_refl _, Nat.le_refl _⟩
  · unfold fetchM
    split
    · exact ⟨by rw [zgb]; exact h65, Nat.le_refl _, Nat.le_refl _⟩
    · split
      · exact ⟨by rw [zgb]; exact h65, by rw [storeL_len]; exact Nat.le_refl _, z1nx _ _ _⟩
      · exact ⟨by rw [zgb]; exact h65, Nat.le_refl _, Nat.le_refl _⟩
  · refine ⟨?_, Nat.le_refl _, Nat.le_refl _⟩
    unfold storeT
    split
    · exact z1qy _ _ h
    · exact h65
  · exact ⟨by rw [zgb]; exact h65, Nat.le_refl _, Nat.le_refl _⟩
  · exact ⟨by rw [z1oi]; exact h65, Nat.le_refl _, Nat.le_refl _⟩
  · exact ⟨h65, Nat.le_refl _, Nat.le_refl _⟩
  · exact ⟨z1qy _ _ h, Nat.le_refl _, Nat.le_refl _⟩
  · exact ⟨h65, Nat.le_refl _, Nat.le_refl _⟩
theorem bads_pair (n : Nat) (bad : List Int) : Bads n bad ↔ bad.Pairwise (· < ·) ∧ ∀ y ∈ bad, 0 ≤ y ∧ y < 2 * (n : Int) ∧ y % 2 = 0 := by
  constructor
  · intro h
    refine ⟨List.pairwise_iff_getElem.2 fun i j hi hj hij => ?_, fun y hy => ?_⟩
    · induction j with
      | zero => omega
      | succ j ih =>
        have h1 := (h (j + 1) hj).2.2.2 (by omega)
        simp only [Nat.add_sub_cancel] at h1
        by_cases he : i = j
        · subst he; exact h1
        · exact Int.lt_trans (ih (by omega) (by omega)) h1
    · obtain ⟨i, hi, he⟩ := List.mem_iff_getElem.1 hy
      obtain ⟨h1, h2, h3, _⟩ := h i hi
      rw [he] at h1 h2 h3
      exact ⟨h1, h2, h3⟩
  · rintro ⟨h1, h2⟩ i hi
    obtain ⟨h3, h4, h5⟩ := h2 _ (List.getElem_mem hi)
    exact ⟨h3, h4, h5, fun h' => List.pairwise_iff_getElem.1 h1 (i - 1) i (by omega) hi (by omega)⟩
theorem zw5 {n : Nat} {bad : List Int} (p : Int → Bool) (h : Bads n bad) : Bads n (bad.filter p) := by
  rw [bads_pair] at h ⊢
  exact ⟨h.1.filter p, fun y hy => h.2 y (List.mem_filter.1 hy).1⟩
def RtD (t : Tape) : Prop := t.records.length ≤ 64 ∧ (∀ r ∈ t.records, r.length ≤ 512) ∧ (0 ≤ t.pos ∧ t.pos ≤ (t.records.length : Int)) ∧ (0 ≤ t.command ∧ t.command ≤ 6) ∧ (0 ≤ t.count ∧ t.count ≤ 65535) ∧ (0 ≤ t.addr ∧ t.addr ≤ 65535) ∧ t.left = 0 ∧ t.ready = true
theorem RtD.rt {t : Tape} (h : RtD t) : RtT t := by
  obtain ⟨h1, h2, h3, h4, h5, h6, h7, h8⟩ := h
  exact ⟨h1, h2, h3, h4, h5, h6, ⟨by omega, by omega⟩, by simp [h7, h8]⟩
theorem z1do {t : Tape} (h : RtD t) : RtD (passT t) := by
  obtain ⟨h1, h2, h3, h4, h5, h6, h7, h8⟩ := h
  unfold passT
  split
  · exact ⟨h1, h2, h3, h4, h5, h6, h7, h8⟩
  · exact ⟨h1, h2, ⟨by dsimp only; omega, by dsimp only; omega⟩, h4, h5, h6, h7, h8⟩
theorem z1wo {t : Tape} {r : List UInt8} (h : RtD t) (hr : r.length ≤ 512) : RtD (addT t r) := by
  obtain ⟨h1, h2, h3, h4, h5, h6, h7, h8⟩ := h
  unfold addT
  split
  · exact ⟨h1, h2, h3, h4, h5, h6, h7, h8⟩
  · have hl : (t.records.take t.pos.toNat ++ [r]).length = t.pos.toNat + 1 := by
      rw [List.length_append, List.length_take, List.length_cons, List.length_nil]; omega
    refine ⟨by dsimp only; rw [hl]; omega, fun x hx => ?_, ⟨by dsimp only; omega, by dsimp only; rw [hl]; omega⟩, h4, h5, h6, h7, h8⟩
    rcases List.mem_append.1 hx with hx | hx
    · exact h2 x (List.mem_of_mem_take hx)
    · rw [List.mem_singleton.1 hx]; exact hr
theorem z20i {t : Tape} (h : RtD t) : RtD (backT t) := by
  obtain ⟨h1, h2, h3, h4, h5, h6, h7, h8⟩ := h
  unfold backT
  split
  · exact ⟨h1, h2, h3, h4, h5, h6, h7, h8⟩
  · exact ⟨h1, h2, ⟨by dsimp only; omega, by dsimp only; omega⟩, h4, h5, h6, h7, h8⟩
theorem tick_sm {t : Tape} {s : Store} (h : Sm t s) : Sm (tickM t s.mem s.bad).1 (Store.mk (tickM t s.mem s.bad).2.1 (tickM t s.mem s.bad).2.2) := by
  obtain ⟨hm, hb, hr, hs⟩ := h
  have hr0 := hr
  obtain ⟨h1, h2, h3, h4, h5, h6, h7, h8⟩ := hr
  unfold tickM
  split
  · exact ⟨hm, hb, hr0, hs⟩
  · rename_i hl
    have hnr : t.ready = false := by
      cases hx : t.ready
      · rfl
      · exact absurd (h8.1 hx) hl
    split
    · refine ⟨hm, hb, ⟨h1, h2, h3, h4, h5, h6, ⟨by dsimp only; omega, by dsimp only; omega⟩, ?_⟩, hs⟩
      simp only [hnr]
      constructor
      · intro h; cases h
      · intro h; omega
    · have hd : RtD { t with ready := true, left := t.left - 1 } := ⟨h1, h2, h3, h4, h5, h6, by dsimp only; omega, rfl⟩
      generalize hT : ({ t with ready := true, left := t.left - 1 } : Tape) = T at hd
      have hmd : ∀ T', RtD T' → Sm T' s := fun T' h => ⟨hm, hb, h.rt, hs⟩
      split
      · unfold fetchM
        split
        · exact hmd _ (z1do hd)
        · have hp := z1do hd
          have e3 : (passT T).count = T.count := by unfold passT; split <;> rfl
          split
          · rename_i hw
            have hk2 : (cnt T : Int) ≤ T.count := by have := hd.2.2.2.2.1; unfold cnt; omega
            obtain ⟨q1, q2, q3, q4, q5, q6, q7, q8⟩ := hp
            have hlen : ((recAt T).take (cnt T)).length = cnt T := by
              have : cnt T ≤ (recAt T).length := Nat.min_le_right _ _
              rw [List.length_take]; omega
            have hww : Words s.mem := ⟨by omega, hs.2.1⟩
            have hst := storeL_words (s := (recAt T).take (cnt T)) hww hw.1 (by rw [hlen]; have := hw.2.2; omega)
            refine ⟨by rw [storeL_len]; exact hm, Nat.le_trans (z1nx _ _ _) hb, RtD.rt ⟨q1, q2, q3, q4, ⟨by dsimp only; omega, by have := hd.2.2.2.2.1; dsimp only; omega⟩, q6, q7, q8⟩, ?_, hst.2, ?_⟩
            · show Sized (2 * ((storeL s.mem T.addr ((recAt T).take (cnt T))).length : Int))
              rw [storeL_len]; exact hs.1
            · show Bads (storeL s.mem T.addr ((recAt T).take (cnt T))).length _
              rw [storeL_len]; exact zw5 _ hs.2.2
          · obtain ⟨q1, q2, q3, q4, q5, q6, q7, q8⟩ := hp
            exact hmd _ ⟨q1, q2, q3, q4, q5, q6, q7, q8⟩
      · split
        · refine hmd _ ?_
          unfold storeT
          split
          · rename_i hw
            exact z1wo hd (by rw [outB_len]; have := hw.2.2.1; omega)
          · obtain ⟨q1, q2, q3, q4, q5, q6, q7, q8⟩ := hd
            exact ⟨q1, q2, q3, q4, q5, q6, q7, q8⟩
        · split
          · exact hmd _ (z1do hd)
          · split
            · exact hmd _ (z20i hd)
            · split
              · refine hmd _ ?_
                exact ⟨h1, h2, ⟨by dsimp only; omega, by dsimp only; omega⟩, h4, h5, h6, by dsimp only; omega, rfl⟩
              · split
                · exact hmd _ (z1wo hd (by simp))
                · exact hmd _ hd
end Go.Proofs.YtfdndagnolbnhaaGreat.C17
end
section
set_option linter.unusedSimpArgs false
set_option linter.unusedVariables false
namespace Go.Proofs.YtfdndagnolbnhaaGreat
open Go Go.Ab
theorem z1xr : z8e none = some true := z1on 300 true (by kernel_rfl)
theorem zt {i n : Nat} (h : i < n) (hn : n ≤ 9223372036854775807) : IntKind.wrap .i64 ((i : Int) + 1) = ((i + 1 : Nat) : Int) := by rw [zh] <;> omega
def SmM (m : Machine) : Prop := m.mem.length ≤ 2048 ∧ m.bad.length ≤ 64 ∧ m.lines.length ≤ 8 ∧ m.disk.drive.sectors.length ≤ 256 ∧ m.disk.drive.bad.length ≤ 256 ∧ m.tape.records.length ≤ 70
theorem small0 (m : Machine) (n : Int) : ∃ k, zeb none ⟨n, (0 : Int), m⟩ = some (k, m) := by
  obtain ⟨r, hr, k, e⟩ := zlc (f := fun s => (zbb s).run) (fun s => ∃ (i : Nat) (n : Int), s = ⟨n, (i : Int), m⟩ ∧ i ≤ 300) (fun r => ∃ k, r = (k, m)) (fun s => 300 - s.t4.toNat)
    (by
      rintro s ⟨i, n, rfl, hi⟩
      by_cases h1 : i < m.disk.drive.sectors.length
      · by_cases h2 : i < 300
        · right
          have h1' : (i : Int) < (m.disk.drive.sectors.length : Int) := by omega
          have h2' : (i : Int) < 300 := by omega
          have h0 : (0 : Int) ≤ (i : Int) := by omega
          refine ⟨⟨IntKind.wrap .i64 (n + (if (100000 : Int) < (m.disk.drive.sectors[i].length : Int) then (100000 : Int) else (m.disk.drive.sectors[i].length : Int))), ((i + 1 : Nat) : Int), m⟩, ?_, ⟨i + 1, _, rfl, h2⟩, ?_⟩
          · simp only [zbb, Tree.run, h1', h2', h0, decide_true, if_true, Int.toNat_natCast, List.getElem?_eq_getElem h1, Option.bind_some, zt h2 (show 300 ≤ 9223372036854775807 by omega)]
          · dsimp only; omega
        · left
          have h1' : (i : Int) < (m.disk.drive.sectors.length : Int) := by omega
          have h2' : ¬ (i : Int) < 300 := by omega
          refine ⟨(n, m), ?_, n, rfl⟩
          show (if decide ((i : Int) < (m.disk.drive.sectors.length : Int)) = true then (if decide ((i : Int) < 300) = true then _ else some (Sum.inr (n, m))) else some (Sum.inr (n, m))) = _
          rw [if_pos (decide_eq_true h1')]
          exact if_neg (fun h => h2' (of_decide_eq_true h))
      · left
        have h1' : ¬ (i : Int) < (m.disk.drive.sectors.length : Int) := by omega
        refine ⟨(n, m), ?_, n, rfl⟩
        show (if decide ((i : Int) < (m.disk.drive.sectors.length : Int)) = true then _ else some (Sum.inr (n, m))) = _
        exact if_neg (fun h => h1' (of_decide_eq_true h)))
    ⟨n, (0 : Int), m⟩ ⟨0, n, rfl, by omega⟩
  subst e
  exact ⟨k, hr⟩
theorem small1 (m : Machine) (n : Int) : ∃ k, zec none ⟨n, (0 : Int), m⟩ = some (k, m) := by
  obtain ⟨r, hr, k, e⟩ := zlc (f := fun s => (zbc s).run) (fun s => ∃ (i : Nat) (n : Int), s = ⟨n, (i : Int), m⟩ ∧ i ≤ 300) (fun r => ∃ k, r = (k, m)) (fun s => 300 - s.t5.toNat)
    (by
      rintro s ⟨i, n, rfl, hi⟩
      by_cases h1 : i < m.tape.records.length
      · by_cases h2 : i < 300
        · right
          have h1' : (i : Int) < (m.tape.records.length : Int) := by omega
          have h2' : (i : Int) < 300 := by omega
          have h0 : (0 : Int) ≤ (i : Int) := by omega
          refine ⟨⟨IntKind.wrap .i64 (n + (if (100000 : Int) < (m.tape.records[i].length : Int) then (100000 : Int) else (m.tape.records[i].length : Int))), ((i + 1 : Nat) : Int), m⟩, ?_, ⟨i + 1, _, rfl, h2⟩, ?_⟩
          · simp only [zbc, Tree.run, h1', h2', h0, decide_true, if_true, Int.toNat_natCast, List.getElem?_eq_getElem h1, Option.bind_some, zt h2 (show 300 ≤ 9223372036854775807 by omega)]
          · dsimp only; omega
        · left
          have h1' : (i : Int) < (m.tape.records.length : Int) := by omega
          have h2' : ¬ (i : Int) < 300 := by omega
          refine ⟨(n, m), ?_, n, rfl⟩
          show (if decide ((i : Int) < (m.tape.records.length : Int)) = true then (if decide ((i : Int) < 300) = true then _ else some (Sum.inr (n, m))) else some (Sum.inr (n, m))) = _
          rw [if_pos (decide_eq_true h1')]
          exact if_neg (fun h => h2' (of_decide_eq_true h))
      · left
        have h1' : ¬ (i : Int) < (m.tape.records.length : Int) := by omega
        refine ⟨(n, m), ?_, n, rfl⟩
        show (if decide ((i : Int) < (m.tape.records.length : Int)) = true then _ else some (Sum.inr (n, m))) = _
        exact if_neg (fun h => h1' (of_decide_eq_true h)))
    ⟨n, (0 : Int), m⟩ ⟨0, n, rfl, by omega⟩
  subst e
  exact ⟨k, hr⟩
theorem small2 (m : Machine) (n : Int) : ∃ k, zed none ⟨n, (0 : Int), m⟩ = some (k, m) := by
  obtain ⟨r, hr, k, e⟩ := zlc (f := fun s => (z76 s).run) (fun s => ∃ (i : Nat) (n : Int), s = ⟨n, (i : Int), m⟩ ∧ i ≤ 9) (fun r => ∃ k, r = (k, m)) (fun s => 9 - s.t6.toNat)
    (by
      rintro s ⟨i, n, rfl, hi⟩
      by_cases h1 : i < m.lines.length
      · by_cases h2 : i < 9
        · right
          have h1' : (i : Int) < (m.lines.length : Int) := by omega
          have h2' : (i : Int) < 9 := by omega
          have h0 : (0 : Int) ≤ (i : Int) := by omega
          refine ⟨⟨IntKind.wrap .i64 (n + (if (100000 : Int) < (m.lines[i].out.length : Int) then (100000 : Int) else (m.lines[i].out.length : Int))), ((i + 1 : Nat) : Int), m⟩, ?_, ⟨i + 1, _, rfl, h2⟩, ?_⟩
          · simp only [z76, Tree.run, h1', h2', h0, decide_true, if_true, Int.toNat_natCast, List.getElem?_eq_getElem h1, Option.bind_some, zt h2 (show 9 ≤ 9223372036854775807 by omega)]
          · dsimp only; omega
        · left
          have h1' : (i : Int) < (m.lines.length : Int) := by omega
          have h2' : ¬ (i : Int) < 9 := by omega
          exact ⟨(n, m), by simp only [z76, Tree.run, h1', h2', decide_true, decide_false, if_true, Bool.false_eq_true, if_false], n, rfl⟩
      · left
        have h1' : ¬ (i : Int) < (m.lines.length : Int) := by omega
        exact ⟨(n, m), by simp only [z76, Tree.run, h1', decide_false, Bool.false_eq_true, if_false], n, rfl⟩)
    ⟨n, (0 : Int), m⟩ ⟨0, n, rfl, by omega⟩
  subst e
  exact ⟨k, hr⟩
theorem z1yy (m : Machine) : ∃ r, zmh none m = some r ∧ (r = true → SmM m) := by
  obtain ⟨k0, e0⟩ := small0 m 0
  obtain ⟨k1, e1⟩ := small1 m k0
  obtain ⟨k2, e2⟩ := small2 m k1
  simp only [zmh, zi4, Tree.run, e0, e1, e2, Option.bind_some]
  by_cases h1 : k2 ≤ 60000
  · by_cases h2 : (m.mem.length : Int) ≤ 2048
    · by_cases h3 : (m.bad.length : Int) ≤ 64
      · by_cases h4 : (m.lines.length : Int) ≤ 8
        · by_cases h5 : (m.disk.drive.sectors.length : Int) ≤ 256
          · by_cases h6 : (m.disk.drive.bad.length : Int) ≤ 256
            · simp only [h1, h2, h3, h4, h5, h6, decide_true, if_true]
              exact ⟨_, rfl, fun h => ⟨by omega, by omega, by omega, by omega, by omega, by have := of_decide_eq_true h; omega⟩⟩
            · exact ⟨false, by simp [h1, h2, h3, h4, h5, h6], fun h => by cases h⟩
          · exact ⟨false, by simp [h1, h2, h3, h4, h5], fun h => by cases h⟩
        · exact ⟨false, by simp [h1, h2, h3, h4], fun h => by cases h⟩
      · exact ⟨false, by simp [h1, h2, h3], fun h => by cases h⟩
    · exact ⟨false, by simp [h1, h2], fun h => by cases h⟩
  · exact ⟨false, by simp [h1], fun h => by cases h⟩
def RtC (c : Clock) : Prop := (1 ≤ c.period ∧ c.period ≤ 65535) ∧ 1 ≤ c.left ∧ c.left ≤ c.period
open Classical in
theorem zta (c : Clock) : zce c = some (decide (RtC c)) := by
  rw [C13.F7_def]
  unfold RtC
  rw [Option.some.injEq, Bool.eq_iff_iff]
  simp only [Bool.and_eq_true, decide_eq_true_eq]
  omega
def RtM (m : Machine) : Prop := m.lines.length ≤ 4 ∧ (∀ l ∈ m.lines, C14.Rt l) ∧ C08.Rt m.mem m.bad ∧ C09.Rt m.mmu ∧ RtC m.clock ∧ C16.RtK m.disk ∧ C17.RtT m.tape
theorem ztp (l : List Line) : (∀ i, i < l.length → ∀ x, l[i]? = some x → C14.Rt x) ↔ ∀ x ∈ l, C14.Rt x := by
  constructor
  · intro h x hx
    obtain ⟨i, hi, he⟩ := List.mem_iff_getElem.1 hx
    exact h i hi x (by rw [List.getElem?_eq_getElem hi, he])
  · intro h i _ x hx
    exact h x (List.mem_of_getElem? hx)
open Classical in
theorem z200 (m : Machine) (hl : m.lines.length ≤ 100) : zej none ⟨(0 : Int), m⟩ = some (if ∀ x ∈ m.lines, C14.Rt x then .inr m else .inl (false, m)) := by
  have hs := z2r (f := fun s => (z7d s).run) (fun i : Nat => ⟨(i : Int), m⟩) m.lines.length (fun i => ∀ x, m.lines[i]? = some x → C14.Rt x) (fun i => .inl (false, m)) (.inr m)
    (fun i hi hp => by
      have hp' := hp m.lines[i] (List.getElem?_eq_getElem hi)
      simp [z7d, Tree.run, hi, zt hi (show m.lines.length ≤ 9223372036854775807 by omega), C14.ref14_Right_def, hp'])
    (fun i hi hp => by
      have hp' : ¬ C14.Rt m.lines[i] := fun he => hp fun s hs => by
        rw [List.getElem?_eq_getElem hi] at hs
        rw [← Option.some.inj hs]; exact he
      simp [z7d, Tree.run, hi, C14.ref14_Right_def, hp'])
    (by simp [z7d, Tree.run])
  rcases hs with ⟨h1, h2⟩ | ⟨i, hi, h1, h2⟩
  · rw [if_pos ((ztp _).1 h1)]; exact h2
  · rw [if_neg (fun h => h1 ((ztp _).2 h i hi))]; exact h2
open Classical in
theorem z1z2 (m : Machine) (hl : m.lines.length ≤ 100) : zhy none ⟨m.lines, (m.lines.length : Int), (0 : Int), m⟩ = some (if ∀ x ∈ m.lines, C14.Rt x then .inr m else .inl (false, m)) := by
  have hs := z2r (f := fun s => (z8q s).run) (fun i : Nat => ⟨m.lines, (m.lines.length : Int), (i : Int), m⟩) m.lines.length (fun i => ∀ x, m.lines[i]? = some x → C14.Rt x) (fun i => .inl (false, m)) (.inr m)
    (fun i hi hp => by
      have hp' := hp m.lines[i] (List.getElem?_eq_getElem hi)
      simp [z8q, Tree.run, hi, zt hi (show m.lines.length ≤ 9223372036854775807 by omega), C14.line_Right_def, hp'])
    (fun i hi hp => by
      have hp' : ¬ C14.Rt m.lines[i] := fun he => hp fun s hs => by
        rw [List.getElem?_eq_getElem hi] at hs
        rw [← Option.some.inj hs]; exact he
      simp [z8q, Tree.run, hi, C14.line_Right_def, hp'])
    (by simp [z8q, Tree.run])
  rcases hs with ⟨h1, h2⟩ | ⟨i, hi, h1, h2⟩
  · rw [if_pos ((ztp _).1 h1)]; exact h2
  · rw [if_neg (fun h => h1 ((ztp _).2 h i hi))]; exact h2
structure Fin (m : Machine) : Prop where
  pages : m.mmu.pages.length = 16
  mem : m.mem.length ≤ 100000
  bad : m.bad.length ≤ 100000
  dbad : m.disk.drive.bad.length ≤ 100000
  recs : m.tape.records.length ≤ 100000
open Classical in
theorem z1ko (m : Machine) (h : Fin m) : zmq none m = some (decide (RtM m)) := by
  simp only [zmq, zik, Tree.run]
  by_cases h1 : 4 < (m.lines.length : Int)
  · have : ¬ RtM m := fun h => by have := h.1; omega
    simp [h1, this]
  simp only [h1, decide_false, Bool.false_eq_true, if_false, z200 m (by omega), Option.bind_some]
  by_cases h2 : ∀ x ∈ m.lines, C14.Rt x
  · rw [if_pos h2]
    have hk := h.dbad
    have hr := h.recs
    simp only [Sum.isLeft_inr, Bool.false_eq_true, if_false, Sum.getRight?_inr, Option.bind_some, C08.ref_Right_def m.mem m.bad h.mem h.bad, C09.ref_Right_def m.mmu h.pages, zta, C16.ref_RightK_def m.disk (by omega), C17.ref_RightT_def m.tape (by omega)]
    by_cases h3 : C08.Rt m.mem m.bad
    · by_cases h4 : C09.Rt m.mmu
      · by_cases h5 : RtC m.clock
        · by_cases h6 : C16.RtK m.disk
          · have : RtM m ↔ C17.RtT m.tape := ⟨fun h => h.2.2.2.2.2.2, fun h => ⟨by omega, h2, h3, h4, h5, h6, h⟩⟩
            simp [h3, h4, h5, h6, this]
          · have : ¬ RtM m := fun h => h6 h.2.2.2.2.2.1
            simp [h3, h4, h5, h6, this]
        · have : ¬ RtM m := fun h => h5 h.2.2.2.2.1
          simp [h3, h4, h5, this]
      · have : ¬ RtM m := fun h => h4 h.2.2.2.1
        simp [h3, h4, this]
    · have : ¬ RtM m := fun h => h3 h.2.2.1
      simp [h3, this]
  · rw [if_neg h2]
    have : ¬ RtM m := fun h => h2 h.2.1
    simp [this]
open Classical in
theorem z1ok (m : Machine) (h : Fin m) : zmz none m = some (decide (RtM m)) := by
  simp only [zmz, zp1, Tree.run]
  by_cases h1 : 4 < (m.lines.length : Int)
  · have : ¬ RtM m := fun h => by have := h.1; omega
    simp [h1, this]
  have hk := h.dbad
  have hr := h.recs
  simp only [h1, decide_false, Bool.false_eq_true, if_false, C08.mem_Right_def m.mem m.bad h.mem h.bad, C09.mmu_Right_def m.mmu h.pages, C13.F20_F7, zta, Option.bind_some, z1z2 m (by omega)]
  by_cases h3 : C08.Rt m.mem m.bad
  · by_cases h4 : C09.Rt m.mmu
    · by_cases h5 : RtC m.clock
      · simp only [h3, h4, h5, decide_true, Bool.not_true, Bool.false_eq_true, if_false]
        by_cases h2 : ∀ x ∈ m.lines, C14.Rt x
        · rw [if_pos h2]
          simp only [Sum.isLeft_inr, Bool.false_eq_true, if_false, Sum.getRight?_inr, Option.bind_some, C16.diskctl_Right_def m.disk (show m.disk.drive.bad.length ≤ 9223372036854775807 by omega), C17.tape_Right_def m.tape (show m.tape.records.length ≤ 9223372036854775807 by omega)]
          by_cases h6 : C16.RtK m.disk
          · have : RtM m ↔ C17.RtT m.tape := ⟨fun h => h.2.2.2.2.2.2, fun h => ⟨by omega, h2, h3, h4, h5, h6, h⟩⟩
            simp [h6, this]
          · have : ¬ RtM m := fun h => h6 h.2.2.2.2.2.1
            simp [h6, this]
        · rw [if_neg h2]
          have : ¬ RtM m := fun h => h2 h.2.1
          simp [this]
      · have : ¬ RtM m := fun h => h5 h.2.2.2.2.1
        simp [h3, h4, h5, this]
    · have : ¬ RtM m := fun h => h4 h.2.2.2.1
      simp [h3, h4, this]
  · have : ¬ RtM m := fun h => h3 h.2.2.1
    simp [h3, this]
theorem z1jh (l : List Line) (hl : l.length ≤ 100000) : zd1 none l l = some true := by
  have hc := z4i (f := fun s => (z5w s).run) (fun i : Nat => ⟨l, l, (i : Int)⟩) l.length (fun i hi => by
    simp [z5w, Tree.run, hi, zt hi (show l.length ≤ 9223372036854775807 by omega)]) 0 (Nat.zero_le _)
  have hd : z7m none ⟨l, l, ((l.length : Nat) : Int)⟩ = some (.inr ()) := z2q (by simp [z5w, Tree.run])
  have h : z7m none ⟨l, l, (0 : Int)⟩ = some (.inr ()) := hc.trans hd
  simp [zd1, zbt, Tree.run, h]
theorem z1oh (k : Disk) (h1 : k.drive.sectors.length ≤ 100000) (h2 : k.drive.bad.length ≤ 100000) : zex none k k = some true := by
  simp [zex, zd0, Tree.run, C17.SameTexts_def k.drive.sectors k.drive.sectors (by omega), C08.Same_def k.drive.bad k.drive.bad (by omega)]
structure Fin2 (m : Machine) : Prop where
  mem : m.mem.length ≤ 100000
  bad : m.bad.length ≤ 100000
  lines : m.lines.length ≤ 100000
  secs : m.disk.drive.sectors.length ≤ 100000
  dbad : m.disk.drive.bad.length ≤ 100000
  recs : m.tape.records.length ≤ 100000
theorem diff13 : z9w none (z35.mk (0 : Int) ([[67, 112, 117], [77, 101, 109], [66, 97, 100], [77, 109, 117], [67, 108, 111, 99, 107], [76, 105, 110, 101, 115], [68, 105, 115, 107], [84, 97, 112, 101], [78, 111, 119], [72, 97, 108, 116, 101, 100], [87, 97, 105, 116, 105, 110, 103], [80, 111, 119, 101, 114], [80, 111, 119, 101, 114, 84, 114, 97, 112]]) ([true, true, true, true, true, true, true, true, true, true, true, true, true]) ([])) = some [] :=
  z1hr 20 _ _ (by kernel_rfl)
theorem Same_self (m : Machine) (h : Fin2 m) : zjq none m m = some true := by
  have e1 := C08.Same_def m.mem m.mem (by have := h.mem; omega)
  have e2 := C08.Same_def m.bad m.bad (by have := h.bad; omega)
  have e3 := z1jh m.lines h.lines
  have e4 := z1oh m.disk h.secs h.dbad
  have e5 := C17.Same_self m.tape (by have := h.recs; omega)
  simp only [zjq, zm6, z10y, zm5, Tree.run, e1, e2, e3, e4, e5, Option.bind_some, decide_true, beq_self_eq_true, Bool.and_true, diff13, List.length_nil]
  rfl
end Go.Proofs.YtfdndagnolbnhaaGreat
end
section
set_option linter.unusedSimpArgs false
set_option linter.unusedVariables false
namespace Go.Proofs.YtfdndagnolbnhaaGreat
open Go Go.Ab
structure OkM (m : Machine) : Prop where
  rt : RtM m
  pages : m.mmu.pages.length = 16
  mem : m.mem.length ≤ 2048
  bad : m.bad.length ≤ 64
  secs : m.disk.drive.sectors.length ≤ 256
  dbad : m.disk.drive.bad.length ≤ 256
theorem OkM.recs {m : Machine} (h : OkM m) : m.tape.records.length ≤ 64 := h.rt.2.2.2.2.2.2.1
theorem OkM.fin {m : Machine} (h : OkM m) : Fin m := ⟨h.pages, by have := h.mem; omega, by have := h.bad; omega, by have := h.dbad; omega, by have := h.recs; omega⟩
theorem OkM.fin2 {m : Machine} (h : OkM m) : Fin2 m := ⟨by have := h.mem; omega, by have := h.bad; omega, by have := h.rt.1; omega, by have := h.secs; omega, by have := h.dbad; omega, by have := h.recs; omega⟩
theorem OkM.right {m : Machine} (h : OkM m) : zmz none m = some true := by
  rw [z1ok m h.fin]
  simp [h.rt]
theorem OkM.same {m : Machine} (h : OkM m) : zjq none m m = some true := Same_self m h.fin2
theorem OkM.withLines {m : Machine} (h : OkM m) {ls : List Line} (hl : ls.length ≤ 4) (hr : ∀ l ∈ ls, C14.Rt l) : OkM { m with lines := ls } :=
  ⟨⟨hl, hr, h.rt.2.2⟩, h.pages, h.mem, h.bad, h.secs, h.dbad⟩
theorem OkM.withClock {m : Machine} (h : OkM m) {c : Clock} (hc : RtC c) : OkM { m with clock := c } :=
  ⟨⟨h.rt.1, h.rt.2.1, h.rt.2.2.1, h.rt.2.2.2.1, hc, h.rt.2.2.2.2.2⟩, h.pages, h.mem, h.bad, h.secs, h.dbad⟩
theorem OkM.withDisk {m : Machine} (h : OkM m) {k : Disk} (hk : C16.RtK k) (h1 : k.drive.sectors.length ≤ 256) (h2 : k.drive.bad.length ≤ 256) : OkM { m with disk := k } :=
  ⟨⟨h.rt.1, h.rt.2.1, h.rt.2.2.1, h.rt.2.2.2.1, h.rt.2.2.2.2.1, hk, h.rt.2.2.2.2.2.2⟩, h.pages, h.mem, h.bad, h1, h2⟩
theorem OkM.withTape {m : Machine} (h : OkM m) {t : Tape} (ht : C17.RtT t) : OkM { m with tape := t } :=
  ⟨⟨h.rt.1, h.rt.2.1, h.rt.2.2.1, h.rt.2.2.2.1, h.rt.2.2.2.2.1, h.rt.2.2.2.2.2.1, ht⟩, h.pages, h.mem, h.bad, h.secs, h.dbad⟩
theorem OkM.withMem {m : Machine} (h : OkM m) {mem bad : List Int} (hr : C08.Rt mem bad) (h1 : mem.length ≤ 2048) (h2 : bad.length ≤ 64) : OkM { m with mem := mem, bad := bad } :=
  ⟨⟨h.rt.1, h.rt.2.1, hr, h.rt.2.2.2⟩, h.pages, h1, h2, h.secs, h.dbad⟩
theorem z231 {ls : List Line} {i : Nat} {l : Line} (h : ∀ x ∈ ls, C14.Rt x) (hl : C14.Rt l) : ∀ x ∈ ls.set i l, C14.Rt x := fun x hx => by
  rcases List.mem_or_eq_of_mem_set hx with hx | rfl
  · exact h x hx
  · exact hl
theorem z1wk (z : Machine) (i : Nat) (l : Line) (hi : i < z.lines.length) (hl : z.lines.length ≤ 4) : zio z (i : Int) l = some { z with lines := z.lines.set i l } := by
  have hc : cloneF 56 z.lines = some z.lines := by unfold cloneF; rw [if_pos (by omega)]
  have h1 : (0 : Int) ≤ (i : Int) := by omega
  have h2 : (i : Int) < (z.lines.length : Int) := by omega
  have h3 := List.getElem?_eq_getElem hi
  simp only [zio, zg3, Tree.run, hc, Option.bind_some, h1, h2, h3, decide_true, if_true, Int.toNat_natCast]
theorem z204 (f : Kind → Machine → Option Machine) (g : Line → Line) (m : Machine)
    (hf : ∀ (ls : List Line) (i : Nat) (hi : i < ls.length) (hj : i < m.lines.length), ls.length = m.lines.length → ls[i] = m.lines[i] → f (.line i) { m with lines := ls } = some { m with lines := ls.set i (g ls[i]) }) :
    ∀ k, k ≤ m.lines.length → runK f ((List.range k).map .line) m = some { m with lines := (m.lines.take k).map g ++ m.lines.drop k } := by
  intro k
  induction k with
  | zero => intro _; rfl
  | succ k ih =>
    intro hk
    have hA : ((m.lines.take k).map g).length = k := by simp; omega
    have e1 : m.lines.drop k = m.lines[k] :: m.lines.drop (k + 1) := List.drop_eq_getElem_cons (by omega)
    rw [List.range_succ, List.map_append, z115, ih (by omega), Option.bind_some, e1]
    simp only [List.map_cons, List.map_nil, runK]
    have hg : ((m.lines.take k).map g ++ m.lines[k] :: m.lines.drop (k + 1))[k]? = some m.lines[k] := by
      rw [List.getElem?_append_right (by omega), hA]; simp
    have hlen : ((m.lines.take k).map g ++ m.lines[k] :: m.lines.drop (k + 1)).length = m.lines.length := by
      rw [List.length_append, hA, List.length_cons, List.length_drop]; omega
    have hg2 : ((m.lines.take k).map g ++ m.lines[k] :: m.lines.drop (k + 1))[k]'(by rw [hlen]; omega) = m.lines[k] := by
      rw [List.getElem?_eq_getElem (by rw [hlen]; omega)] at hg
      exact Option.some.inj hg
    rw [hf _ k (by rw [hlen]; omega) (by omega) hlen hg2, hg2, List.set_append_right _ _ (by omega), hA]
    simp only [Option.bind_some, Nat.sub_self, List.set_cons_zero]
    rw [show m.lines.take (k + 1) = m.lines.take k ++ [m.lines[k]] by rw [List.take_add_one, List.getElem?_eq_getElem (by omega)]; rfl, List.map_append, List.append_assoc]
    rfl
theorem z1pr (f : Kind → Machine → Option Machine) (g : Line → Line) (m : Machine)
    (hf : ∀ (ls : List Line) (i : Nat) (hi : i < ls.length) (hj : i < m.lines.length), ls.length = m.lines.length → ls[i] = m.lines[i] → f (.line i) { m with lines := ls } = some { m with lines := ls.set i (g ls[i]) }) :
    runK f ((List.range m.lines.length).map .line) m = some { m with lines := m.lines.map g } := by
  rw [z204 f g m hf m.lines.length (Nat.le_refl _), List.take_length, List.drop_length, List.append_nil]
theorem z1ho {c : Clock} (h : RtC c) : ∃ c', ziq c = some c' ∧ zjn c = some c' ∧ RtC c' := by
  obtain ⟨⟨p1, p2⟩, l1, l2⟩ := h
  have hw : IntKind.wrap .i64 (c.left - 1) = c.left - 1 := zh (by omega) (by omega)
  have hw0 : IntKind.wrap .i64 (0 : Int) = 0 := by decide
  by_cases h0 : c.left - 1 = 0
  · refine ⟨⟨c.enable, true, c.period, c.period⟩, ?_, ?_, ⟨p1, p2⟩, p1, Int.le_refl _⟩
    · simp only [ziq, zfi, Tree.run, hw, h0, hw0, decide_true, if_true]
    · simp only [zjn, zfj, Tree.run, hw, h0, hw0, decide_true, if_true]
  · refine ⟨⟨c.enable, c.ready, c.period, c.left - 1⟩, ?_, ?_, ⟨p1, p2⟩, by show 1 ≤ c.left - 1; omega, by show c.left - 1 ≤ c.period; omega⟩
    · simp only [ziq, zfi, Tree.run, hw, h0, decide_false, Bool.false_eq_true, if_false]
    · simp only [zjn, zfj, Tree.run, hw, h0, decide_false, Bool.false_eq_true, if_false]
theorem zw5 {n : Nat} {bad : List Int} (p : Int → Bool) (h : C08.Bads n bad) : C08.Bads n (bad.filter p) := by
  have h1 : bad.Pairwise (· < ·) ∧ ∀ y ∈ bad, 0 ≤ y ∧ y < 2 * (n : Int) ∧ y % 2 = 0 := (C17.bads_pair n bad).1 h
  exact (C17.bads_pair n (bad.filter p)).2 ⟨h1.1.filter _, fun y hy => h1.2 y (List.mem_filter.1 hy).1⟩
theorem z22c {m : Machine} (h : OkM m) : C16.Okay m.disk m.mem m.bad := ⟨h.rt.2.2.2.2.2.1, ⟨by have := h.mem; omega, h.rt.2.2.1.2.1⟩, by have := h.bad; omega, by have := h.dbad; omega⟩
theorem z1mh {m : Machine} (h : OkM m) : ∃ k mem bad, zdk none m.disk m.mem m.bad = some (k, mem, bad) ∧ z1h none m.disk m.mem m.bad = some (k, mem, bad) ∧ OkM { m with disk := k, mem := mem, bad := bad } := by
  have ho := z22c h
  have hk := C16.tick_kept m.disk m.mem m.bad ho
  refine ⟨(C16.tickV m.disk m.mem m.bad).1, (C16.tickV m.disk m.mem m.bad).2.1, (C16.tickV m.disk m.mem m.bad).2.2, C16.Tick16_def _ _ _ ho, C16.ref_Tick16_def _ _ _ ho, ?_⟩
  have hbad : C08.Bads m.mem.length (C16.tickV m.disk m.mem m.bad).2.2 := by
    have hb := h.rt.2.2.1.2.2
    unfold C16.tickV
    repeat' split
    all_goals first | exact hb | exact zw5 _ hb
  generalize C16.tickV m.disk m.mem m.bad = r at hk hbad
  obtain ⟨⟨k1, k2, k3, k4⟩, e1, e2, e3, e4⟩ := hk
  have hsz := h.rt.2.2.1.1
  have h1 : OkM { m with disk := r.1 } := h.withDisk k1 (by rw [e3]; exact h.secs) (by rw [e4]; exact h.dbad)
  exact h1.withMem (mem := r.2.1) (bad := r.2.2) ⟨by rw [e1]; exact hsz, k2.2, by rw [e1]; exact hbad⟩ (by rw [e1]; exact h.mem) (Nat.le_trans e2 h.bad)
theorem z1oe {m : Machine} (h : OkM m) : ∃ t mem bad, znf none m.tape m.mem m.bad = some (t, mem, bad) ∧ zew none m.tape m.mem m.bad = some (t, mem, bad) ∧ OkM { m with tape := t, mem := mem, bad := bad } := by
  have hs : C17.Sm m.tape ⟨m.mem, m.bad⟩ := ⟨h.mem, by have := h.bad; show m.bad.length ≤ 2048; omega, h.rt.2.2.2.2.2.2, h.rt.2.2.1⟩
  have hf : C17.Fit m.tape m.mem m.bad := C17.fit_of hs
  have hl := h.rt.2.2.2.2.2.2.2.2.2.2.2.2.1
  have hn := C17.tick_sm hs
  have hlen := (C17.tickM_len m.tape m.mem m.bad h.recs).2
  refine ⟨(C17.tickM m.tape m.mem m.bad).1, (C17.tickM m.tape m.mem m.bad).2.1, (C17.tickM m.tape m.mem m.bad).2.2, C17.Tick_def _ _ _ hf hl, C17.ref_Tick_def _ _ _ hf hl, ?_⟩
  have h1 : OkM { m with tape := (C17.tickM m.tape m.mem m.bad).1 } := h.withTape hn.2.2.1
  exact h1.withMem (mem := (C17.tickM m.tape m.mem m.bad).2.1) (bad := (C17.tickM m.tape m.mem m.bad).2.2) hn.2.2.2 hn.1 (Nat.le_trans hlen.2 h.bad)
theorem z1nz {z : Machine} {i : Nat} (hi : i < z.lines.length) (h4 : z.lines.length ≤ 4) (hr : C14.Rt z.lines[i]) : tickK none (.line i) z = some { z with lines := z.lines.set i (C14.ticked z.lines[i]) } := by
  have h1 : (0 : Int) ≤ (i : Int) := by omega
  show zc8 z (i : Int) = _
  simp only [zc8, zb5, Tree.run, h1, List.getElem?_eq_getElem hi, decide_true, if_true, Int.toNat_natCast, Option.bind_some, C14.Tick_def _ hr, z1wk z i _ hi h4]
theorem z1vl {n : Nat} {d : Kind} (h : d ∈ kindsOf n false) : d = .clock ∨ d = .disk ∨ d = .tape ∨ ∃ i, i < n ∧ d = .line i := by
  simp [kindsOf] at h
  rcases h with rfl | ⟨i, hi, rfl⟩ | rfl | rfl
  · exact .inl rfl
  · exact .inr (.inr (.inr ⟨i, hi, rfl⟩))
  · exact .inr (.inl rfl)
  · exact .inr (.inr (.inl rfl))
theorem z21j {n : Nat} (d : Kind) (hd : d = .clock ∨ d = .disk ∨ d = .tape ∨ ∃ i, i < n ∧ d = .line i) (z : Machine) (h : OkM z ∧ z.lines.length = n) : ∃ z', tickK none d z = some z' ∧ OkM z' ∧ z'.lines.length = n := by
  obtain ⟨h, hn⟩ := h
  rcases hd with rfl | rfl | rfl | ⟨i, hi, rfl⟩
  · obtain ⟨c, e1, e2, e3⟩ := z1ho h.rt.2.2.2.2.1
    refine ⟨{ z with clock := c }, ?_, h.withClock e3, hn⟩
    show z7f z () = _
    simp only [z7f, z7t, Tree.run, e1, Option.bind_some, zeq, zab]
  · obtain ⟨k, mem, bad, e1, e2, e3⟩ := z1mh h
    refine ⟨{ z with disk := k, mem := mem, bad := bad }, ?_, e3, hn⟩
    show z7y none z = _
    simp only [z7y, zb4, Tree.run, e1, Option.bind_some]
  · obtain ⟨t, mem, bad, e1, e2, e3⟩ := z1oe h
    refine ⟨{ z with tape := t, mem := mem, bad := bad }, ?_, e3, hn⟩
    show z7z none z = _
    simp only [z7z, zb6, Tree.run, e1, Option.bind_some]
  · have hi2 : i < z.lines.length := by omega
    have hr := h.rt.2.1 _ (List.getElem_mem hi2)
    exact ⟨_, z1nz hi2 h.rt.1 hr, h.withLines (by rw [List.length_set]; exact h.rt.1) (z231 h.rt.2.1 (C14.ticked_right _ hr).1), by show (z.lines.set i _).length = n; rw [List.length_set]; exact hn⟩
theorem z20c {m : Machine} (h : OkM m) : Sure (tickK none) (kindsOf m.lines.length false) m :=
  ⟨fun z => OkM z ∧ z.lines.length = m.lines.length, ⟨h, rfl⟩, fun d hd z hz => z21j d (z1vl hd) z hz⟩
theorem z1kr (s : z3k) (h4 : s.b0.lines.length ≤ 4) (hr : ∀ l ∈ s.b0.lines, C14.Rt l) : ∃ r, zc0 none { s with t4 := 0, b2 := [] } = some r ∧ r.1 = s.b0 ∧ r.2.2.2.2.2.2.2.2.2.2.2.2.2.2.2.2.2.2.2.2.2.2.2.2.2.2.2.2.2.2.2.2.2.2.2.2.1 = s.b0.lines.map C14.ticked := by
  have hc := z4i (f := fun s => (z6l s).run) (fun i : Nat => { s with t4 := (i : Int), b2 := (s.b0.lines.take i).map C14.ticked }) s.b0.lines.length (fun i hi => by
    have k1 : (i : Int) < (s.b0.lines.length : Int) := by omega
    have k2 : (0 : Int) ≤ (i : Int) := by omega
    have g := List.getElem?_eq_getElem hi
    have hl : ((s.b0.lines.take i).map C14.ticked).length = i := by simp; omega
    have k3 : (((s.b0.lines.take i).map C14.ticked).length + [C14.ticked s.b0.lines[i]].length) * 56 ≤ 140737488355328 := by rw [hl]; simp only [List.length_cons, List.length_nil]; omega
    simp only [z6l, Tree.run, k1, k2, g, k3, decide_true, if_true, Int.toNat_natCast, Option.bind_some, C14.Tick_ref _ (hr _ (List.getElem_mem hi)), zt hi (show s.b0.lines.length ≤ 9223372036854775807 by omega)]
    rw [z3l hi, List.map_append]
    rfl) 0 (Nat.zero_le _)
  have k1 : ¬ (s.b0.lines.length : Int) < (s.b0.lines.length : Int) := by omega
  have hd : ∃ r, (z6l { s with t4 := (s.b0.lines.length : Int), b2 := s.b0.lines.map C14.ticked }).run = some (.inr r) ∧ r.1 = s.b0 ∧ r.2.2.2.2.2.2.2.2.2.2.2.2.2.2.2.2.2.2.2.2.2.2.2.2.2.2.2.2.2.2.2.2.2.2.2.2.1 = s.b0.lines.map C14.ticked := by
    simp only [z6l, Tree.run, k1, decide_false, Bool.false_eq_true, if_false]
    exact ⟨_, rfl, rfl, rfl⟩
  obtain ⟨r, e1, e2, e3⟩ := hd
  rw [List.take_length] at hc
  exact ⟨r, hc.trans (z2q (f := fun s => (z6l s).run) e1), e2, e3⟩
theorem z20a {m : Machine} (h : OkM m) : ∃ y, zl3 none m = some y ∧ zpl none m = some y ∧ OkM y := by
  have h4 := h.rt.1
  obtain ⟨c, c1, c2, c3⟩ := z1ho h.rt.2.2.2.2.1
  have hA : OkM { m with clock := c } := h.withClock c3
  have hB : OkM { m with clock := c, lines := m.lines.map C14.ticked } := hA.withLines (by rw [List.length_map]; exact h4) (fun l hl => by
    obtain ⟨x, hx, rfl⟩ := List.mem_map.1 hl
    exact (C14.ticked_right x (h.rt.2.1 x hx)).1)
  obtain ⟨k, mem, bad, d1, d2, d3⟩ := z1mh hB
  obtain ⟨t, mem', bad', t1, t2, t3⟩ := z1oe d3
  refine ⟨_, ?_, ?_, t3⟩
  · unfold zl3
    rw [if_pos ⟨by omega, z20c h⟩]
    have e1 : tickK none .clock m = some { m with clock := c } := by
      show z7f m () = _
      simp only [z7f, z7t, Tree.run, c1, Option.bind_some, zeq, zab]
    have e2 := z1pr (tickK none) C14.ticked { m with clock := c } (fun ls i hi hj hl he => z1nz (z := { m with clock := c, lines := ls }) hi (by show ls.length ≤ 4; rw [hl]; exact h4) (by show C14.Rt ls[i]; rw [he]; exact h.rt.2.1 _ (List.getElem_mem hj)))
    have e3 : tickK none .disk { m with clock := c, lines := m.lines.map C14.ticked } = some { m with clock := c, lines := m.lines.map C14.ticked, disk := k, mem := mem, bad := bad } := by
      show z7y none _ = _
      simp only [z7y, zb4, Tree.run, d1, Option.bind_some]
    have e4 : tickK none .tape { m with clock := c, lines := m.lines.map C14.ticked, disk := k, mem := mem, bad := bad } = some { m with clock := c, lines := m.lines.map C14.ticked, disk := k, tape := t, mem := mem', bad := bad' } := by
      show z7z none _ = _
      simp only [z7z, zb6, Tree.run, t1, Option.bind_some]
    show runK (tickK none) ([.clock] ++ [] ++ (List.range m.lines.length).map .line ++ [.disk, .tape]) m = _
    rw [List.append_nil, List.append_assoc, z115]
    simp only [runK, e1, Option.bind_some]
    rw [z115, e2]
    simp only [runK, e3, e4, Option.bind_some]
  · obtain ⟨r, r1, r2, r3⟩ := z1kr (z3k.mk (0 : Int) { m with clock := c } (List.replicate 6 (0 : Int)) (List.replicate 2 (0 : Int)) 0 0 false (List.replicate 16 (Page.mk (0 : Int) (0 : Int) (0 : Int) false)) 0 0 false false 0 0 false false false 0 0 0 0 0 0 false false false false false 0 0 0 0 0 false false 0 false ([]) ([]) ([]) ([]) ([]) ([]) ([])) h4 h.rt.2.1
    simp only [zpl, zm4, Tree.run, c2, Option.bind_some]
    rw [show zc0 none _ = some r from r1]
    simp only [Option.bind_some, r2, r3]
    rw [show z1h none m.disk m.mem m.bad = _ from d2]
    simp only [Option.bind_some]
    rw [show zew none m.tape mem bad = _ from t2]
    rfl
end Go.Proofs.YtfdndagnolbnhaaGreat
end
