/- BusRequests: plain. -/
import Derived.Laws.BitsLemmas
import Derived.Test.YtfdndagnolbnhaaGreatXAbLim
import Derived.Test.YtfdndagnolbnhaaGreatXAbRd18x
section
set_option linter.unusedSimpArgs false
namespace Go.Ab
theorem wrap_id {n : Int} (h1 : -9223372036854775808 ≤ n) (h2 : n ≤ 9223372036854775807) : IntKind.wrap .i64 n = n := by
  rw [IntKind.wrap_i64]; omega
theorem nat_and (a b : Int) : ((BitVec.ofInt 64 a &&& BitVec.ofInt 64 b).toNat : Int) = (((a % 18446744073709551616).toNat &&& (b % 18446744073709551616).toNat : Nat) : Int) := by
  rw [BitVec.toNat_and, BitVec.toNat_ofInt, BitVec.toNat_ofInt]
  rfl
/-- a mask of the lowest bits -/
theorem and_mask (j : Nat) (hj : j ≤ 62) (a : Int) : IntKind.wrap .i64 ((BitVec.ofInt 64 a &&& BitVec.ofInt 64 (2 ^ j - 1)).toNat : Int) = a % 2 ^ j := by
  have hp : (2 : Nat) ^ j ≤ 2 ^ 62 := Nat.pow_le_pow_right (by omega) hj
  have hc : ((2 : Int) ^ j) = ((2 ^ j : Nat) : Int) := by simp
  have h0 : 0 < (2 : Nat) ^ j := Nat.pow_pos (by omega)
  have hd : (2 : Nat) ^ j ∣ 18446744073709551616 := by
    have : (18446744073709551616 : Nat) = 2 ^ 64 := rfl
    rw [this]
    exact Nat.pow_dvd_pow 2 (by omega)
  rw [nat_and]
  have e1 : (((2 : Int) ^ j - 1) % 18446744073709551616).toNat = 2 ^ j - 1 := by
    rw [hc, Int.emod_eq_of_lt (by omega) (by omega)]
    omega
  rw [e1, Nat.and_two_pow_sub_one_eq_mod]
  have e2 : ((a % 18446744073709551616).toNat % 2 ^ j : Nat) = (a % 2 ^ j).toNat := by
    have hn : 0 ≤ a % 18446744073709551616 := Int.emod_nonneg _ (by omega)
    have : (((a % 18446744073709551616).toNat % 2 ^ j : Nat) : Int) = a % 2 ^ j := by
      rw [Int.natCast_emod, Int.toNat_of_nonneg hn, hc]
      exact Int.emod_emod_of_dvd a (Int.natCast_dvd_natCast.2 hd)
    omega
  rw [e2]
  have h1 : 0 ≤ a % 2 ^ j := Int.emod_nonneg _ (by rw [hc]; omega)
  have h2 : a % 2 ^ j < 2 ^ j := Int.emod_lt_of_pos _ (by rw [hc]; omega)
  rw [Int.toNat_of_nonneg h1]
  exact wrap_id (by omega) (by rw [hc] at h2; omega)
theorem and255 (a : Int) : IntKind.wrap .i64 ((BitVec.ofInt 64 a &&& BitVec.ofInt 64 (255 : Int)).toNat : Int) = a % 256 := and_mask 8 (by omega) a
theorem and65535 (a : Int) : IntKind.wrap .i64 ((BitVec.ofInt 64 a &&& BitVec.ofInt 64 (65535 : Int)).toNat : Int) = a % 65536 := and_mask 16 (by omega) a
theorem tmod_nn {a : Int} (h : 0 ≤ a) (b : Int) : a.tmod b = a % b := Int.tmod_eq_emod_of_nonneg h
theorem mask_fix (a m : Int) (hm : 0 < m) : (a % m = a) ↔ (0 ≤ a ∧ a < m) := by
  constructor
  · intro h
    have h1 := Int.emod_nonneg a (show m ≠ 0 by omega)
    have h2 := Int.emod_lt_of_pos a hm
    omega
  · rintro ⟨h1, h2⟩
    exact Int.emod_eq_of_lt h1 h2
end Go.Ab
end
section
set_option linter.unusedSimpArgs false
namespace Go.Ab
end Go.Ab
end
section
set_option linter.unusedSimpArgs false
namespace Go.Ab
variable {α β : Type}
theorem take_one_more {α : Type} {l : List α} {i : Nat} (hi : i < l.length) : l.take (i + 1) = l.take i ++ [l[i]] := by
  rw [List.take_add_one, List.getElem?_eq_getElem hi]; rfl
end Go.Ab
end
section
set_option linter.unusedSimpArgs false
set_option linter.unusedVariables false
namespace Go.Proofs.YtfdndagnolbnhaaGreat.C08
open Go Go.Ab
theorem wrap_succ {i n : Nat} (h : i < n) (hn : n ≤ 9223372036854775807) : IntKind.wrap .i64 ((i : Int) + 1) = ((i + 1 : Nat) : Int) := by rw [wrap_id] <;> omega
theorem Same_def (a b : List Int) (hl : a.length ≤ 9223372036854775807) : ref08_Same none a b = some (decide (a = b)) := by
  by_cases hab : a.length = b.length
  · have hs := lim_scan (f := fun s => (Wref08_Same_0 s).run) (fun i : Nat => ⟨a, b, (i : Int)⟩) a.length (fun i => a[i]? = b[i]?) (fun i => .inl false) (.inr ())
      (fun i hi hp => by
        have hi' : i < b.length := by omega
        have hp' : a[i] = b[i] := by
          rw [List.getElem?_eq_getElem hi, List.getElem?_eq_getElem hi'] at hp
          exact Option.some.inj hp
        simp [Wref08_Same_0, Tree.run, hi, hi', wrap_succ hi hl, hp'])
      (fun i hi hp => by
        have hi' : i < b.length := by omega
        have hp' : ¬ a[i] = b[i] := by
          rw [List.getElem?_eq_getElem hi, List.getElem?_eq_getElem hi'] at hp
          exact fun h => hp (by rw [h])
        simp [Wref08_Same_0, Tree.run, hi, hi', hp'])
      (by simp [Wref08_Same_0, Tree.run])
    rcases hs with ⟨h1, h2⟩ | ⟨i, hi, h1, h2⟩
    · have h : Lref08_Same_0 none ⟨a, b, (0 : Int)⟩ = some (.inr ()) := h2
      have he : a = b := List.ext_getElem? fun i => by
        by_cases hi : i < a.length
        · exact h1 i hi
        · rw [List.getElem?_eq_none (by omega), List.getElem?_eq_none (by omega)]
      simp [ref08_Same, Tref08_Same, Tree.run, h, hab]
      exact he
    · have h : Lref08_Same_0 none ⟨a, b, (0 : Int)⟩ = some (.inl false) := h2
      have he : ¬ a = b := fun he => h1 (by rw [he])
      simp [ref08_Same, Tref08_Same, Tree.run, h, hab, he]
  · have he : ¬ a = b := fun h => hab (by rw [h])
    have hab' : ¬ (a.length : Int) = (b.length : Int) := by omega
    simp [ref08_Same, Tref08_Same, Tree.run, hab', he]
def wordAt (m : List Int) (a : Int) : Int := m.getD (a / 2).toNat 0
def byteAt (m : List Int) (a : Int) : Int := if a % 2 = 0 then wordAt m a % 256 else wordAt m a / 256 % 256
theorem wrap2 {m : List Int} (hm : m.length ≤ 100000) : IntKind.wrap .i64 (2 * (m.length : Int)) = 2 * (m.length : Int) := wrap_id (by omega) (by omega)
def Words (m : List Int) : Prop := m.length ≤ 100000 ∧ ∀ w ∈ m, 0 ≤ w ∧ w ≤ 65535
def Bads (n : Nat) (bad : List Int) : Prop := ∀ i, (h : i < bad.length) → 0 ≤ bad[i] ∧ bad[i] < 2 * (n : Int) ∧ bad[i] % 2 = 0 ∧ ∀ h' : 0 < i, bad[i - 1] < bad[i]
def Sized (n : Int) : Prop := 256 ≤ n ∧ n ≤ 32768 ∧ n % 64 = 0
instance (n) : Decidable (Sized n) := by unfold Sized; infer_instance
def Rt (m bad : List Int) : Prop := Sized (2 * (m.length : Int)) ∧ (∀ w ∈ m, 0 ≤ w ∧ w ≤ 65535) ∧ Bads m.length bad
theorem Size_def (n : Int) : ref08_Size n = some (decide (Sized n)) := by
  simp only [ref08_Size, Tref08_Size, Tree.run]
  by_cases h0 : 0 ≤ n
  · rw [tmod_nn h0]
    simp only [decide_eq_true_eq, show ¬ (64 : Int) = 0 by omega, if_false]
    repeat' split
    all_goals (rw [Option.some.injEq]; first | (symm; rw [decide_eq_false_iff_not]; unfold Sized; omega) | (rw [decide_eq_decide]; unfold Sized; omega))
  · have : ¬ Sized n := fun h => h0 (by have := h.1; omega)
    simp [this]; omega
theorem sized_def (n : Int) : memory_sized n = some (decide (Sized n)) := Size_def n
theorem words_iff (m : List Int) : (∀ i, i < m.length → ∀ y, m[i]? = some y → 0 ≤ y ∧ y ≤ 65535) ↔ ∀ w ∈ m, 0 ≤ w ∧ w ≤ 65535 := by
  constructor
  · intro h w hw
    obtain ⟨i, hi, he⟩ := List.mem_iff_getElem.1 hw
    exact h i hi w (by rw [List.getElem?_eq_getElem hi, he])
  · intro h i hi y hy
    exact h y (List.mem_of_getElem? hy)
theorem ref_words (m bad : List Int) (hm : m.length ≤ 100000) : Lref08_Right_0 none ⟨m, bad, (0 : Int)⟩ = some (if ∀ w ∈ m, 0 ≤ w ∧ w ≤ 65535 then .inr (m, bad) else .inl (m, bad, false)) := by
  have hs := lim_scan (f := fun s => (Wref08_Right_0 s).run) (fun i : Nat => ⟨m, bad, (i : Int)⟩) m.length (fun i => ∀ y, m[i]? = some y → 0 ≤ y ∧ y ≤ 65535) (fun i => .inl (m, bad, false)) (.inr (m, bad))
    (fun i hi hp => by
      have hp' := hp m[i] (List.getElem?_eq_getElem hi)
      have h1 : ¬ m[i] < 0 := by omega
      have h2 : ¬ 65535 < m[i] := by omega
      simp [Wref08_Right_0, Tree.run, hi, wrap_succ hi (show m.length ≤ 9223372036854775807 by omega), h1, h2])
    (fun i hi hp => by
      have hp' : ¬ (0 ≤ m[i] ∧ m[i] ≤ 65535) := fun h => hp fun y hy => by
        rw [List.getElem?_eq_getElem hi] at hy
        rw [← Option.some.inj hy]; exact h
      by_cases h1 : m[i] < 0
      · simp [Wref08_Right_0, Tree.run, hi, h1]
      · have h2 : 65535 < m[i] := by omega
        simp [Wref08_Right_0, Tree.run, hi, h1, h2])
    (by simp [Wref08_Right_0, Tree.run])
  rcases hs with ⟨h1, h2⟩ | ⟨i, hi, h1, h2⟩
  · rw [if_pos ((words_iff m).1 h1)]; exact h2
  · rw [if_neg fun h => h1 ((words_iff m).2 h i hi)]; exact h2
theorem mem_words (m bad : List Int) (hm : m.length ≤ 100000) : Lmemory_Right_0 none ⟨m, bad, m, (m.length : Int), (0 : Int)⟩ = some (if ∀ w ∈ m, 0 ≤ w ∧ w ≤ 65535 then .inr (m, bad) else .inl (m, bad, false)) := by
  have hs := lim_scan (f := fun s => (Wmemory_Right_0 s).run) (fun i : Nat => ⟨m, bad, m, (m.length : Int), (i : Int)⟩) m.length (fun i => ∀ y, m[i]? = some y → 0 ≤ y ∧ y ≤ 65535) (fun i => .inl (m, bad, false)) (.inr (m, bad))
    (fun i hi hp => by
      have hp' := hp m[i] (List.getElem?_eq_getElem hi)
      have h1 : m[i] % 65536 = m[i] := (mask_fix _ _ (by omega)).2 ⟨hp'.1, by omega⟩
      simp only [Wmemory_Right_0, Tree.run, and65535]
      simp [hi, wrap_succ hi (show m.length ≤ 9223372036854775807 by omega), h1])
    (fun i hi hp => by
      have hp' : ¬ m[i] % 65536 = m[i] := fun h => hp fun y hy => by
        rw [List.getElem?_eq_getElem hi] at hy
        rw [← Option.some.inj hy]
        have := (mask_fix _ _ (by omega)).1 h
        omega
      simp only [Wmemory_Right_0, Tree.run, and65535]
      simp [hi, hp'])
    (by simp [Wmemory_Right_0, Tree.run])
  rcases hs with ⟨h1, h2⟩ | ⟨i, hi, h1, h2⟩
  · rw [if_pos ((words_iff m).1 h1)]; exact h2
  · rw [if_neg fun h => h1 ((words_iff m).2 h i hi)]; exact h2
/-- a bad address in its place -/
def GoodAt (n : Nat) (bad : List Int) (i : Nat) : Prop := ∀ h : i < bad.length, 0 ≤ bad[i] ∧ bad[i] < 2 * (n : Int) ∧ bad[i] % 2 = 0 ∧ ∀ h' : 0 < i, bad[i - 1] < bad[i]
def lastOf (bad : List Int) (i : Nat) : Int := if i = 0 then -1 else bad.getD (i - 1) 0
def GoodAt' (n : Nat) (bad : List Int) (i : Nat) : Prop := ∀ h : i < bad.length, lastOf bad i < bad[i] ∧ bad[i].tmod 2 = 0 ∧ bad[i] < 2 * (n : Int)
theorem bads_iff (n : Nat) (bad : List Int) : (∀ i, i < bad.length → GoodAt n bad i) ↔ Bads n bad := ⟨fun h i hi => h i hi hi, fun h i _ hi => h i hi⟩
theorem bads_iff' (n : Nat) (bad : List Int) : (∀ i, i < bad.length → GoodAt' n bad i) ↔ Bads n bad := by
  constructor
  · intro h i
    induction i with
    | zero =>
      intro hi
      obtain ⟨h1, h2, h3⟩ := h 0 hi hi
      have h1' : -1 < bad[0] := h1
      rw [tmod_nn (by omega)] at h2
      exact ⟨by omega, h3, h2, fun h' => absurd h' (by omega)⟩
    | succ i ih =>
      intro hi
      have hi' : i < bad.length := by omega
      obtain ⟨h1, h2, h3⟩ := h (i + 1) hi hi
      have hp := ih hi'
      have hl : lastOf bad (i + 1) = bad[i] := by simp [lastOf, hi']
      rw [hl] at h1
      rw [tmod_nn (by omega)] at h2
      exact ⟨by omega, h3, h2, fun _ => h1⟩
  · intro h i hi _
    obtain ⟨h1, h2, h3, h4⟩ := h i hi
    refine ⟨?_, by rw [tmod_nn h1]; exact h3, h2⟩
    by_cases h0 : i = 0
    · subst h0; simp [lastOf]; omega
    · have hlt : i - 1 < bad.length := by omega
      have := h4 (by omega)
      simp [lastOf, h0, hlt]; exact this
theorem ref_bads (m bad : List Int) (hm : m.length ≤ 100000) (hb : bad.length ≤ 100000) : ∃ r, Lref08_Right_1 none ⟨m, bad, (0 : Int)⟩ = some r ∧ (r = .inr () ∧ Bads m.length bad ∨ r = .inl false ∧ ¬ Bads m.length bad) := by
  have hs := lim_scan (f := fun s => (Wref08_Right_1 s).run) (fun i : Nat => ⟨m, bad, (i : Int)⟩) bad.length (GoodAt m.length bad) (fun i => .inl false) (.inr ())
    (fun i hi hp => by
      obtain ⟨h1, h2, h3, h4⟩ := hp hi
      have h5 : ¬ bad[i] < 0 := by omega
      have h6 : ¬ 2 * (m.length : Int) ≤ bad[i] := by omega
      by_cases h0 : 0 < i
      · have h7 := h4 h0
        have h8 : ¬ bad[i] ≤ bad[i - 1] := by omega
        have h9 : IntKind.wrap .i64 ((i : Int) - 1) = ((i - 1 : Nat) : Int) := by rw [wrap_id] <;> omega
        have h10 : i - 1 < bad.length := by omega
        simp [Wref08_Right_1, Tree.run, hi, wrap_succ hi (show bad.length ≤ 9223372036854775807 by omega), h5, wrap2 hm, h6, tmod_nn h1, h3, h0, h9, h10, h8]
      · have h00 : i = 0 := by omega
        subst h00
        simp [Wref08_Right_1, Tree.run, hi, wrap_id (n := 1) (by omega) (by omega), h5, wrap2 hm, h6, tmod_nn h1, h3])
    (fun i hi hp => by
      by_cases h1 : bad[i] < 0
      · simp [Wref08_Right_1, Tree.run, hi, h1]
      by_cases h2 : 2 * (m.length : Int) ≤ bad[i]
      · simp [Wref08_Right_1, Tree.run, hi, h1, wrap2 hm, h2]
      by_cases h3 : bad[i] % 2 = 0
      · by_cases h0 : 0 < i
        · have h10 : i - 1 < bad.length := by omega
          have h9 : IntKind.wrap .i64 ((i : Int) - 1) = ((i - 1 : Nat) : Int) := by rw [wrap_id] <;> omega
          by_cases h4 : bad[i] ≤ bad[i - 1]
          · simp [Wref08_Right_1, Tree.run, hi, h1, wrap2 hm, h2, tmod_nn (show 0 ≤ bad[i] by omega), h3, h0, h9, h10, h4]
          · exact absurd (fun h => ⟨by omega, by omega, h3, fun _ => by omega⟩) hp
        · exact absurd (fun h => ⟨by omega, by omega, h3, fun h' => absurd h' h0⟩) hp
      · simp [Wref08_Right_1, Tree.run, hi, h1, wrap2 hm, h2, tmod_nn (show 0 ≤ bad[i] by omega), h3])
    (by simp [Wref08_Right_1, Tree.run])
  rcases hs with ⟨h1, h2⟩ | ⟨i, hi, h1, h2⟩
  · exact ⟨_, h2, .inl ⟨rfl, (bads_iff _ _).1 h1⟩⟩
  · exact ⟨_, h2, .inr ⟨rfl, fun h => h1 ((bads_iff _ _).2 h i hi)⟩⟩
theorem mem_bads (m bad : List Int) (hm : m.length ≤ 100000) (hb : bad.length ≤ 100000) : ∃ r, Lmemory_Right_1 none ⟨m, (-1 : Int), bad, (bad.length : Int), (0 : Int)⟩ = some r ∧ (r = .inr () ∧ Bads m.length bad ∨ r = .inl false ∧ ¬ Bads m.length bad) := by
  have hs := lim_scan (f := fun s => (Wmemory_Right_1 s).run) (fun i : Nat => ⟨m, lastOf bad i, bad, (bad.length : Int), (i : Int)⟩) bad.length (GoodAt' m.length bad) (fun i => .inl false) (.inr ())
    (fun i hi hp => by
      obtain ⟨h1, h2, h3⟩ := hp hi
      have h4 : ¬ bad[i] ≤ lastOf bad i := by omega
      have h5 : ¬ 2 * (m.length : Int) ≤ bad[i] := by omega
      have h6 : lastOf bad (i + 1) = bad[i] := by simp [lastOf, hi]
      simp [Wmemory_Right_1, Tree.run, hi, wrap_succ hi (show bad.length ≤ 9223372036854775807 by omega), h4, wrap2 hm, h2, h5, h6])
    (fun i hi hp => by
      by_cases h1 : bad[i] ≤ lastOf bad i
      · simp [Wmemory_Right_1, Tree.run, hi, h1]
      by_cases h2 : bad[i].tmod 2 = 0
      · by_cases h3 : 2 * (m.length : Int) ≤ bad[i]
        · simp [Wmemory_Right_1, Tree.run, hi, h1, h2, wrap2 hm, h3]
        · exact absurd (fun h => ⟨by omega, h2, by omega⟩) hp
      · simp [Wmemory_Right_1, Tree.run, hi, h1, h2])
    (by simp [Wmemory_Right_1, Tree.run])
  rcases hs with ⟨h1, h2⟩ | ⟨i, hi, h1, h2⟩
  · exact ⟨_, h2, .inl ⟨rfl, (bads_iff' _ _).1 h1⟩⟩
  · exact ⟨_, h2, .inr ⟨rfl, fun h => h1 ((bads_iff' _ _).2 h i hi)⟩⟩
open Classical in
theorem ref_Right_def (m bad : List Int) (hm : m.length ≤ 100000) (hb : bad.length ≤ 100000) : ref08_Right none m bad = some (decide (Rt m bad)) := by
  obtain ⟨r, hr, hc⟩ := ref_bads m bad hm hb
  simp only [ref08_Right, Tref08_Right, Tree.run, wrap2 hm, Size_def, Option.bind_some, ref_words m bad hm]
  by_cases h1 : Sized (2 * (m.length : Int))
  · by_cases h2 : ∀ w ∈ m, 0 ≤ w ∧ w ≤ 65535
    · rw [if_pos h2]
      rcases hc with ⟨e, h3⟩ | ⟨e, h3⟩
      · simp [h1, hr, e, Rt, h3]; exact h2
      · simp [h1, hr, e, Rt, h3]
    · rw [if_neg h2]
      have : ¬ Rt m bad := fun h => h2 h.2.1
      simp [h1, this]
  · have : ¬ Rt m bad := fun h => h1 h.1
    simp [h1, this]
open Classical in
theorem mem_Right_def (m bad : List Int) (hm : m.length ≤ 100000) (hb : bad.length ≤ 100000) : memory_Right none m bad = some (decide (Rt m bad)) := by
  obtain ⟨r, hr, hc⟩ := mem_bads m bad hm hb
  simp only [memory_Right, Tmemory_Right, Tree.run, wrap2 hm, sized_def, Option.bind_some, mem_words m bad hm]
  by_cases h1 : Sized (2 * (m.length : Int))
  · by_cases h2 : ∀ w ∈ m, 0 ≤ w ∧ w ≤ 65535
    · rw [if_pos h2]
      rcases hc with ⟨e, h3⟩ | ⟨e, h3⟩
      · simp [h1, hr, e, Rt, h3]; exact h2
      · simp [h1, hr, e, Rt, h3]
    · rw [if_neg h2]
      have : ¬ Rt m bad := fun h => h2 h.2.1
      simp [h1, this]
  · have : ¬ Rt m bad := fun h => h1 h.1
    simp [h1, this]
/-- a range within memory -/
def Wn (m : List Int) (a n : Int) : Prop := 0 ≤ a ∧ 0 ≤ n ∧ a ≤ 2 * (m.length : Int) ∧ n ≤ 2 * (m.length : Int) - a
instance (m a n) : Decidable (Wn m a n) := by unfold Wn; infer_instance
def bytesL (m : List Int) (a : Int) (n : Nat) : List Int := (List.range n).map fun i => byteAt m (a + (i : Nat))
def outB (m : List Int) (a : Int) (n : Nat) : List UInt8 := (bytesL m a n).map fun x => UInt8.ofNat x.toNat
end Go.Proofs.YtfdndagnolbnhaaGreat.C08
end
section
set_option linter.unusedSimpArgs false
set_option linter.unusedVariables false
namespace Go.Proofs.YtfdndagnolbnhaaGreat.C09
open Go Go.Ab
theorem from_def (x m : Int) : mmu_from x m = some (decide (0 ≤ x ∧ x ≤ m)) := by
  simp only [mmu_from, Tmmu_from, Tree.run]
  by_cases h : 0 ≤ x <;> simp [h]
def OkPage (p : Page) : Prop := (0 ≤ p.base ∧ p.base ≤ 4095) ∧ (0 ≤ p.length ∧ p.length ≤ 128) ∧ (0 ≤ p.access ∧ p.access ≤ 2)
instance (p : Page) : Decidable (OkPage p) := by unfold OkPage; infer_instance
/-- a valid unit -/
def Rt (u : Mmu) : Prop := (∀ p ∈ u.pages, OkPage p) ∧ (0 ≤ u.status ∧ u.status ≤ 3) ∧ (0 ≤ u.addr ∧ u.addr ≤ 65535)
instance (u : Mmu) : Decidable (Rt u) := by unfold Rt; infer_instance
theorem all_pages {l : List Page} (h : l.length = 16) {Q : Page → Prop} : (∀ p ∈ l, Q p) ↔ ∀ m, m < 2 → ∀ j, j < 8 → ∀ p, l[m * 8 + j]? = some p → Q p := by
  constructor
  · intro hp m hm j hj p hq
    exact hp p (List.mem_of_getElem? hq)
  · intro hp p hq
    obtain ⟨i, hi, rfl⟩ := List.mem_iff_getElem.1 hq
    exact hp (i / 8) (by omega) (i % 8) (by omega) _ (by rw [show i / 8 * 8 + i % 8 = i by omega]; exact List.getElem?_eq_getElem hi)
theorem ref_Right_def (u : Mmu) (h : u.pages.length = 16) : ref09_Right none u = some (decide (Rt u)) := by
  -- the pages of a mode
  have inner : ∀ m : Nat, m < 2 → ((∀ j, j < 8 → ∀ p, u.pages[m * 8 + j]? = some p → OkPage p) ∧ Lref09_Right_1 none ⟨(m : Int), 0, u⟩ = some (.inr ((m : Int), u))) ∨ ∃ j, j < 8 ∧ (¬ ∀ p, u.pages[m * 8 + j]? = some p → OkPage p) ∧ Lref09_Right_1 none ⟨(m : Int), 0, u⟩ = some (.inl (false, (m : Int), u)) := by
    intro m hm
    refine lim_scan (f := fun s => (Wref09_Right_1 s).run) (fun j : Nat => ⟨(m : Int), (j : Int), u⟩) 8 (fun j => ∀ p, u.pages[m * 8 + j]? = some p → OkPage p) (fun _ => .inl (false, (m : Int), u)) (.inr ((m : Int), u)) (fun j hj hp => ?_) (fun j hj hp => ?_) ?_
    · have hlt : m * 8 + j < u.pages.length := by omega
      have hg := List.getElem?_eq_getElem hlt
      obtain ⟨h1, h2, h3⟩ := hp _ hg
      have hw : IntKind.wrap .i64 ((j : Int) + 1) = ((j + 1 : Nat) : Int) := by rw [wrap_id] <;> omega
      simp only [Wref09_Right_1, Tree.run, decide_eq_true_eq, Int.toNat_natCast, Nat.mul_one, hg, Option.bind_some]
      rw [if_pos (by omega), if_pos (by omega), if_pos (by omega), if_pos (by omega), if_pos (by omega), if_neg (by omega), if_neg (by omega), if_neg (by omega), if_neg (by omega), if_neg (by omega), if_neg (by omega), hw]
    · have hlt : m * 8 + j < u.pages.length := by omega
      have hg := List.getElem?_eq_getElem hlt
      have hp : ¬ OkPage u.pages[m * 8 + j] := fun hk => hp fun p hq => by rw [hg] at hq; injection hq with hq; rw [← hq]; exact hk
      simp only [Wref09_Right_1, Tree.run, decide_eq_true_eq, Int.toNat_natCast, Nat.mul_one, hg, Option.bind_some]
      rw [if_pos (by omega), if_pos (by omega), if_pos (by omega), if_pos (by omega), if_pos (by omega)]
      unfold OkPage at hp
      repeat' split
      all_goals first | rfl | (exfalso; omega)
    · simp [Wref09_Right_1, Tree.run]
  have outer := lim_scan (f := fun s => (Wref09_Right_0 none s).run) (fun m : Nat => ⟨(m : Int), u⟩) 2 (fun m => ∀ j, j < 8 → ∀ p, u.pages[m * 8 + j]? = some p → OkPage p) (fun _ => .inl (false, u)) (.inr u) (fun m hm hp => by
      have hw : IntKind.wrap .i64 ((m : Int) + 1) = ((m + 1 : Nat) : Int) := by rw [wrap_id] <;> omega
      rcases inner m hm with ⟨_, e⟩ | ⟨j, hj, hn, _⟩
      · simp only [Wref09_Right_0, Tree.run, decide_eq_true_eq, e, Option.bind_some]
        rw [if_pos (by omega)]
        simp [hw]
      · exact absurd (hp j hj) hn) (fun m hm hp => by
      rcases inner m hm with ⟨h1, _⟩ | ⟨j, hj, _, e⟩
      · exact absurd h1 hp
      · simp only [Wref09_Right_0, Tree.run, decide_eq_true_eq, e, Option.bind_some]
        rw [if_pos (by omega)]
        simp) (by simp [Wref09_Right_0, Tree.run])
  rw [show ((0 : Nat) : Int) = 0 from rfl] at outer
  rcases outer with ⟨hall, e⟩ | ⟨m, hm, hn, e⟩
  · have e : Lref09_Right_0 none ⟨0, u⟩ = some (.inr u) := e
    have hp := (all_pages h).2 hall
    simp only [ref09_Right, Tref09_Right, Tree.run, e, Option.bind_some, decide_eq_true_eq, Sum.isLeft_inr, Sum.getRight?_inr, Bool.false_eq_true, if_false]
    unfold Rt
    simp only [eq_true hp, true_and]
    repeat' split
    all_goals (rw [Option.some.injEq, Bool.eq_iff_iff]; simp; try omega)
  · have e : Lref09_Right_0 none ⟨0, u⟩ = some (.inl (false, u)) := e
    have hp : ¬ Rt u := fun hr => hn ((all_pages h).1 hr.1 m hm)
    simp [ref09_Right, Tref09_Right, Tree.run, e, hp]
theorem mmu_Right_def (u : Mmu) (h : u.pages.length = 16) : mmu_Right none u = some (decide (Rt u)) := by
  have inner : ∀ m : Nat, m < 2 → ((∀ j, j < 8 → ∀ p, u.pages[m * 8 + j]? = some p → OkPage p) ∧ Lmmu_Right_1 none ⟨u.pages, (m : Int), (u.pages.drop (m * 8)).take 8, 0, u⟩ = some (.inr (u.pages, (m : Int), u))) ∨ ∃ j, j < 8 ∧ (¬ ∀ p, u.pages[m * 8 + j]? = some p → OkPage p) ∧ Lmmu_Right_1 none ⟨u.pages, (m : Int), (u.pages.drop (m * 8)).take 8, 0, u⟩ = some (.inl (false, u.pages, (m : Int), u)) := by
    intro m hm
    have hget : ∀ j, j < 8 → ((u.pages.drop (m * 8)).take 8)[j]? = u.pages[m * 8 + j]? := by
      intro j hj
      rw [List.getElem?_take, if_pos hj, List.getElem?_drop]
    refine lim_scan (f := fun s => (Wmmu_Right_1 s).run) (fun j : Nat => ⟨u.pages, (m : Int), (u.pages.drop (m * 8)).take 8, (j : Int), u⟩) 8 (fun j => ∀ p, u.pages[m * 8 + j]? = some p → OkPage p) (fun _ => .inl (false, u.pages, (m : Int), u)) (.inr (u.pages, (m : Int), u)) (fun j hj hp => ?_) (fun j hj hp => ?_) ?_
    · have hlt : m * 8 + j < u.pages.length := by omega
      have hg := List.getElem?_eq_getElem hlt
      obtain ⟨h1, h2, h3⟩ := hp _ hg
      have hw : IntKind.wrap .i64 ((j : Int) + 1) = ((j + 1 : Nat) : Int) := by rw [wrap_id] <;> omega
      simp only [Wmmu_Right_1, Tree.run, decide_eq_true_eq, Int.toNat_natCast, hget j hj, hg, Option.bind_some, from_def]
      rw [if_pos (by omega), if_pos (by omega), if_pos (by omega)]
      simp [h1, h2, h3, hw]
    · have hlt : m * 8 + j < u.pages.length := by omega
      have hg := List.getElem?_eq_getElem hlt
      have hp : ¬ OkPage u.pages[m * 8 + j] := fun hk => hp fun p hq => by rw [hg] at hq; injection hq with hq; rw [← hq]; exact hk
      simp only [Wmmu_Right_1, Tree.run, decide_eq_true_eq, Int.toNat_natCast, hget j hj, hg, Option.bind_some, from_def]
      rw [if_pos (by omega), if_pos (by omega), if_pos (by omega)]
      unfold OkPage at hp
      simp only [Bool.not_eq_true', decide_eq_false_iff_not]
      repeat' split
      all_goals first | rfl | (exfalso; simp_all)
    · simp [Wmmu_Right_1, Tree.run]
  have outer := lim_scan (f := fun s => (Wmmu_Right_0 none s).run) (fun m : Nat => ⟨u.pages, (m : Int), u⟩) 2 (fun m => ∀ j, j < 8 → ∀ p, u.pages[m * 8 + j]? = some p → OkPage p) (fun _ => .inl (false, u)) (.inr u) (fun m hm hp => by
      have hw : IntKind.wrap .i64 ((m : Int) + 1) = ((m + 1 : Nat) : Int) := by rw [wrap_id] <;> omega
      rcases inner m hm with ⟨_, e⟩ | ⟨j, hj, hn, _⟩
      · simp only [Wmmu_Right_0, Tree.run, decide_eq_true_eq, Int.toNat_natCast, e, Option.bind_some]
        rw [if_pos (by omega), if_pos (by omega), if_pos (by omega), if_pos (by omega)]
        simp [hw]
      · exact absurd (hp j hj) hn) (fun m hm hp => by
      rcases inner m hm with ⟨h1, _⟩ | ⟨j, hj, _, e⟩
      · exact absurd h1 hp
      · simp only [Wmmu_Right_0, Tree.run, decide_eq_true_eq, Int.toNat_natCast, e, Option.bind_some]
        rw [if_pos (by omega), if_pos (by omega), if_pos (by omega), if_pos (by omega)]
        simp) (by simp [Wmmu_Right_0, Tree.run])
  rcases outer with ⟨hall, e⟩ | ⟨m, hm, hn, e⟩
  · have e : Lmmu_Right_0 none ⟨u.pages, 0, u⟩ = some (.inr u) := e
    have hp := (all_pages h).2 hall
    simp only [mmu_Right, Tmmu_Right, Tree.run, e, Option.bind_some, decide_eq_true_eq, Sum.isLeft_inr, Sum.getRight?_inr, Bool.false_eq_true, if_false, from_def]
    unfold Rt
    simp only [eq_true hp, true_and]
    repeat' split
    all_goals (rw [Option.some.injEq, Bool.eq_iff_iff]; simp_all; try omega)
  · have e : Lmmu_Right_0 none ⟨u.pages, 0, u⟩ = some (.inl (false, u)) := e
    have hp : ¬ Rt u := fun hr => hn ((all_pages h).1 hr.1 m hm)
    simp [mmu_Right, Tmmu_Right, Tree.run, e, hp]
end Go.Proofs.YtfdndagnolbnhaaGreat.C09
end
section
set_option linter.unusedSimpArgs false
set_option linter.unusedVariables false
namespace Go.Proofs.YtfdndagnolbnhaaGreat.C13
open Go Go.Ab
theorem F7_def (c : Clock) : ref13_Right c = some (decide (1 ≤ c.period) && decide (c.period ≤ 65535) && decide (1 ≤ c.left) && decide (c.left ≤ c.period)) := by
  simp only [ref13_Right, Tref13_Right, Tree.run]
  by_cases h1 : 1 ≤ c.period <;> by_cases h2 : c.period ≤ 65535 <;> by_cases h3 : 1 ≤ c.left <;> simp [h1, h2, h3]
theorem F20_F7 (c : Clock) : clock_Right c = ref13_Right c := rfl
theorem F14_F15 (c : Clock) : clock_Requests c = ref13_Requests c := by
  simp only [clock_Requests, ref13_Requests, Tclock_Requests, Tref13_Requests, Tree.run]
  cases c.enable <;> cases c.ready <;> rfl
theorem F16_F17 (c : Clock) (v : Int) : clock_Accept c v = ref13_Accept c v := by
  obtain ⟨a, b, p, l⟩ := c
  simp only [clock_Accept, ref13_Accept, Tclock_Accept, Tref13_Accept, Tree.run]
  cases b <;> by_cases hv : v = 64 <;> simp [hv]
end Go.Proofs.YtfdndagnolbnhaaGreat.C13
end
section
set_option linter.unusedSimpArgs false
set_option linter.unusedVariables false
namespace Go.Proofs.YtfdndagnolbnhaaGreat.C14
open Go Go.Ab
/-- a valid line -/
def Rt (l : Line) : Prop := (0 ≤ l.rxData ∧ l.rxData ≤ 255) ∧ (0 ≤ l.txData ∧ l.txData ≤ 255) ∧ (0 ≤ l.txLeft ∧ l.txLeft ≤ 4) ∧ (l.txReady = true ↔ l.txLeft = 0) ∧ l.out.length ≤ 4096
instance (l : Line) : Decidable (Rt l) := by unfold Rt; infer_instance
theorem isByte_def (x : Int) : line_isByte x = some (decide (0 ≤ x ∧ x ≤ 255)) := by
  simp only [line_isByte, Tline_isByte, Tree.run, and255, mask_fix x 256 (by omega)]
  rw [Option.some.injEq, Bool.eq_iff_iff]
  simp
  omega
theorem ref14_Right_def (l : Line) : ref14_Right l = some (decide (Rt l)) := by
  obtain ⟨a, b, c, rx, e, tr, tx, tl, out⟩ := l
  simp only [ref14_Right, Tref14_Right, Tree.run, Rt, decide_eq_true_eq]
  cases tr
  all_goals repeat' split
  all_goals (rw [Option.some.injEq, Bool.eq_iff_iff]; simp; try omega)
theorem line_Right_def (l : Line) : line_Right l = some (decide (Rt l)) := by
  obtain ⟨a, b, c, rx, e, tr, tx, tl, out⟩ := l
  simp only [line_Right, Tline_Right, Tree.run, Rt, decide_eq_true_eq, isByte_def, Option.bind_some]
  cases tr
  all_goals repeat' split
  all_goals (rw [Option.some.injEq, Bool.eq_iff_iff]; simp_all; try omega)
theorem Reset_def (l : Line) : line_Reset l = some { l with rxEnable := false, rxReady := false, overrun := false, txEnable := false, txReady := true, txLeft := 0 } := rfl
theorem Accept_def (l : Line) (n v : Int) : line_Accept l n v = some l := rfl
theorem Requests_def (l : Line) (n : Int) : ∃ r, line_Requests l n = some r ∧ ref14_Requests l n = some r ∧ r.length ≤ 2 := by
  simp only [line_Requests, Tline_Requests, ref14_Requests, Tref14_Requests, Tree.run]
  by_cases h1 : n < 0
  · simp [h1]
  · by_cases h2 : 4 ≤ n
    · simp [h1, h2]
    · cases l.rxEnable <;> cases l.rxReady <;> cases l.txEnable <;> cases l.txReady <;> simp [h1, h2]
end Go.Proofs.YtfdndagnolbnhaaGreat.C14
end
section
set_option linter.unusedSimpArgs false
set_option linter.unusedVariables false
namespace Go.Proofs.YtfdndagnolbnhaaGreat.C16
open Go Go.Ab
theorem wrap_succ {i n : Nat} (h : i < n) (hn : n ≤ 9223372036854775807) : IntKind.wrap .i64 ((i : Int) + 1) = ((i + 1 : Nat) : Int) := by rw [wrap_id] <;> omega
/-- the bad sectors: rising, within the drive -/
def BadsD (n : Nat) (bad : List Int) : Prop := ∀ i, (h : i < bad.length) → 0 ≤ bad[i] ∧ bad[i] < (n : Int) ∧ ∀ h' : 0 < i, bad[i - 1] < bad[i]
def GoodD (n : Nat) (bad : List Int) (i : Nat) : Prop := ∀ h : i < bad.length, 0 ≤ bad[i] ∧ bad[i] < (n : Int) ∧ ∀ h' : 0 < i, bad[i - 1] < bad[i]
def lastD (bad : List Int) (i : Nat) : Int := if i = 0 then -1 else bad.getD (i - 1) 0
def GoodD' (n : Nat) (bad : List Int) (i : Nat) : Prop := ∀ h : i < bad.length, lastD bad i < bad[i] ∧ bad[i] < (n : Int)
theorem badsD_iff (n : Nat) (bad : List Int) : (∀ i, i < bad.length → GoodD n bad i) ↔ BadsD n bad := ⟨fun h i hi => h i hi hi, fun h i _ hi => h i hi⟩
theorem badsD_iff' (n : Nat) (bad : List Int) : (∀ i, i < bad.length → GoodD' n bad i) ↔ BadsD n bad := by
  constructor
  · intro h i
    induction i with
    | zero =>
      intro hi
      obtain ⟨h1, h2⟩ := h 0 hi hi
      have h1' : -1 < bad[0] := h1
      exact ⟨by omega, h2, fun h' => absurd h' (by omega)⟩
    | succ i ih =>
      intro hi
      have hi' : i < bad.length := by omega
      obtain ⟨h1, h2⟩ := h (i + 1) hi hi
      have hp := ih hi'
      have hl : lastD bad (i + 1) = bad[i] := by simp [lastD, hi']
      rw [hl] at h1
      exact ⟨by omega, h2, fun _ => h1⟩
  · intro h i hi _
    obtain ⟨h1, h2, h4⟩ := h i hi
    refine ⟨?_, h2⟩
    by_cases h0 : i = 0
    · subst h0; simp [lastD]; omega
    · have hlt : i - 1 < bad.length := by omega
      have := h4 (by omega)
      simp [lastD, h0, hlt]; exact this
def RtV (d : Drive) : Prop := 1 ≤ d.sectors.length ∧ d.sectors.length ≤ 256 ∧ (∀ s ∈ d.sectors, s.length = 128) ∧ BadsD d.sectors.length d.bad
theorem sect_iff (l : List (List UInt8)) : (∀ i, i < l.length → ∀ s, l[i]? = some s → s.length = 128) ↔ ∀ s ∈ l, s.length = 128 := by
  constructor
  · intro h s hs
    obtain ⟨i, hi, he⟩ := List.mem_iff_getElem.1 hs
    exact h i hi s (by rw [List.getElem?_eq_getElem hi, he])
  · intro h i _ s hs
    exact h s (List.mem_of_getElem? hs)
open Classical in
theorem ref_sects (d : Drive) (hl : d.sectors.length ≤ 9223372036854775807) : Lref15_Right_0 none ⟨(0 : Int), d⟩ = some (if ∀ s ∈ d.sectors, s.length = 128 then .inr d else .inl (false, d)) := by
  have hs := lim_scan (f := fun s => (Wref15_Right_0 s).run) (fun i : Nat => ⟨(i : Int), d⟩) d.sectors.length (fun i => ∀ s, d.sectors[i]? = some s → s.length = 128) (fun i => .inl (false, d)) (.inr d)
    (fun i hi hp => by
      have hp' : (d.sectors[i].length : Int) = 128 := by have := hp d.sectors[i] (List.getElem?_eq_getElem hi); omega
      simp [Wref15_Right_0, Tree.run, hi, wrap_succ hi hl, hp'])
    (fun i hi hp => by
      have hp' : ¬ (d.sectors[i].length : Int) = 128 := fun he => hp fun s hs => by
        rw [List.getElem?_eq_getElem hi] at hs
        rw [← Option.some.inj hs]; omega
      simp [Wref15_Right_0, Tree.run, hi, hp'])
    (by simp [Wref15_Right_0, Tree.run])
  rcases hs with ⟨h1, h2⟩ | ⟨i, hi, h1, h2⟩
  · rw [if_pos ((sect_iff _).1 h1)]; exact h2
  · rw [if_neg (fun h => h1 ((sect_iff _).2 h i hi))]; exact h2
open Classical in
theorem drive_sects (d : Drive) (hl : d.sectors.length ≤ 9223372036854775807) : Ldrive_Right_0 none ⟨d.sectors, (d.sectors.length : Int), (0 : Int), d⟩ = some (if ∀ s ∈ d.sectors, s.length = 128 then .inr d else .inl (false, d)) := by
  have hs := lim_scan (f := fun s => (Wdrive_Right_0 s).run) (fun i : Nat => ⟨d.sectors, (d.sectors.length : Int), (i : Int), d⟩) d.sectors.length (fun i => ∀ s, d.sectors[i]? = some s → s.length = 128) (fun i => .inl (false, d)) (.inr d)
    (fun i hi hp => by
      have hp' : (d.sectors[i].length : Int) = 128 := by have := hp d.sectors[i] (List.getElem?_eq_getElem hi); omega
      simp [Wdrive_Right_0, Tree.run, hi, wrap_succ hi hl, hp'])
    (fun i hi hp => by
      have hp' : ¬ (d.sectors[i].length : Int) = 128 := fun he => hp fun s hs => by
        rw [List.getElem?_eq_getElem hi] at hs
        rw [← Option.some.inj hs]; omega
      simp [Wdrive_Right_0, Tree.run, hi, hp'])
    (by simp [Wdrive_Right_0, Tree.run])
  rcases hs with ⟨h1, h2⟩ | ⟨i, hi, h1, h2⟩
  · rw [if_pos ((sect_iff _).1 h1)]; exact h2
  · rw [if_neg (fun h => h1 ((sect_iff _).2 h i hi))]; exact h2
theorem ref_badsD (d : Drive) (hb : d.bad.length ≤ 9223372036854775807) : ∃ r, Lref15_Right_1 none ⟨(0 : Int), d⟩ = some r ∧ (r = .inr () ∧ BadsD d.sectors.length d.bad ∨ r = .inl false ∧ ¬ BadsD d.sectors.length d.bad) := by
  obtain ⟨secs, bad⟩ := d
  dsimp only at hb ⊢
  have hs := lim_scan (f := fun s => (Wref15_Right_1 s).run) (fun i : Nat => ⟨(i : Int), ⟨secs, bad⟩⟩) bad.length (GoodD secs.length bad) (fun i => .inl false) (.inr ())
    (fun i hi hp => by
      obtain ⟨h1, h2, h4⟩ := hp hi
      have h5 : ¬ bad[i] < 0 := by omega
      have h6 : ¬ (secs.length : Int) ≤ bad[i] := by omega
      by_cases h0 : 0 < i
      · have h7 := h4 h0
        have h8 : ¬ bad[i] ≤ bad[i - 1] := by omega
        have h9 : IntKind.wrap .i64 ((i : Int) - 1) = ((i - 1 : Nat) : Int) := by rw [wrap_id] <;> omega
        have h10 : i - 1 < bad.length := by omega
        simp [Wref15_Right_1, Tree.run, hi, wrap_succ hi hb, h5, h6, h0, h9, h10, h8]
      · have h00 : i = 0 := by omega
        subst h00
        simp [Wref15_Right_1, Tree.run, hi, wrap_id (n := 1) (by omega) (by omega), h5, h6])
    (fun i hi hp => by
      by_cases h1 : bad[i] < 0
      · simp [Wref15_Right_1, Tree.run, hi, h1]
      by_cases h2 : (secs.length : Int) ≤ bad[i]
      · simp [Wref15_Right_1, Tree.run, hi, h1, h2]
      by_cases h0 : 0 < i
      · have h10 : i - 1 < bad.length := by omega
        have h9 : IntKind.wrap .i64 ((i : Int) - 1) = ((i - 1 : Nat) : Int) := by rw [wrap_id] <;> omega
        by_cases h4 : bad[i] ≤ bad[i - 1]
        · simp [Wref15_Right_1, Tree.run, hi, h1, h2, h0, h9, h10, h4]
        · exact absurd (fun h => ⟨by omega, by omega, fun _ => by omega⟩) hp
      · exact absurd (fun h => ⟨by omega, by omega, fun h' => absurd h' h0⟩) hp)
    (by simp [Wref15_Right_1, Tree.run])
  rcases hs with ⟨h1, h2⟩ | ⟨i, hi, h1, h2⟩
  · exact ⟨_, h2, .inl ⟨rfl, (badsD_iff _ _).1 h1⟩⟩
  · exact ⟨_, h2, .inr ⟨rfl, fun h => h1 ((badsD_iff _ _).2 h i hi)⟩⟩
theorem drive_badsD (d : Drive) (hb : d.bad.length ≤ 9223372036854775807) : ∃ r, Ldrive_Right_1 none ⟨(-1 : Int), d.bad, (d.bad.length : Int), (0 : Int), d⟩ = some r ∧ (r = .inr () ∧ BadsD d.sectors.length d.bad ∨ r = .inl false ∧ ¬ BadsD d.sectors.length d.bad) := by
  obtain ⟨secs, bad⟩ := d
  dsimp only at hb ⊢
  have hs := lim_scan (f := fun s => (Wdrive_Right_1 s).run) (fun i : Nat => ⟨lastD bad i, bad, (bad.length : Int), (i : Int), ⟨secs, bad⟩⟩) bad.length (GoodD' secs.length bad) (fun i => .inl false) (.inr ())
    (fun i hi hp => by
      obtain ⟨h1, h2⟩ := hp hi
      have h4 : ¬ bad[i] ≤ lastD bad i := by omega
      have h5 : ¬ (secs.length : Int) ≤ bad[i] := by omega
      have h6 : lastD bad (i + 1) = bad[i] := by simp [lastD, hi]
      simp [Wdrive_Right_1, Tree.run, hi, wrap_succ hi hb, h4, h5, h6])
    (fun i hi hp => by
      by_cases h1 : bad[i] ≤ lastD bad i
      · simp [Wdrive_Right_1, Tree.run, hi, h1]
      by_cases h3 : (secs.length : Int) ≤ bad[i]
      · simp [Wdrive_Right_1, Tree.run, hi, h1, h3]
      · exact absurd (fun h => ⟨by omega, by omega⟩) hp)
    (by simp [Wdrive_Right_1, Tree.run])
  rcases hs with ⟨h1, h2⟩ | ⟨i, hi, h1, h2⟩
  · exact ⟨_, h2, .inl ⟨rfl, (badsD_iff' _ _).1 h1⟩⟩
  · exact ⟨_, h2, .inr ⟨rfl, fun h => h1 ((badsD_iff' _ _).2 h i hi)⟩⟩
open Classical in
theorem ref_RightV_def (d : Drive) (hb : d.bad.length ≤ 9223372036854775807) : ref15_Right none d = some (decide (RtV d)) := by
  simp only [ref15_Right, Tref15_Right, Tree.run]
  by_cases h1 : (d.sectors.length : Int) < 1
  · have : ¬ RtV d := fun h => by have := h.1; omega
    simp [h1, this]
  by_cases h2 : 256 < (d.sectors.length : Int)
  · have : ¬ RtV d := fun h => by have := h.2.1; omega
    simp [h1, h2, this]
  simp only [h1, h2, decide_false, Bool.false_eq_true, if_false, ref_sects d (by omega), Option.bind_some]
  by_cases h3 : ∀ s ∈ d.sectors, s.length = 128
  · rw [if_pos h3]
    obtain ⟨r, hr, hc⟩ := ref_badsD d hb
    simp only [Sum.isLeft_inr, Bool.false_eq_true, if_false, Sum.getRight?_inr, Option.bind_some, hr]
    rcases hc with ⟨rfl, h4⟩ | ⟨rfl, h4⟩
    · have : RtV d := ⟨by omega, by omega, h3, h4⟩
      simp [this]
    · have : ¬ RtV d := fun h => h4 h.2.2.2
      simp [this]
  · rw [if_neg h3]
    have : ¬ RtV d := fun h => h3 h.2.2.1
    simp [this]
open Classical in
theorem drive_Right_def (d : Drive) (hb : d.bad.length ≤ 9223372036854775807) : drive_Right none d = some (decide (RtV d)) := by
  simp only [drive_Right, Tdrive_Right, Tree.run]
  by_cases h1 : (d.sectors.length : Int) < 1
  · have : ¬ RtV d := fun h => by have := h.1; omega
    simp [h1, this]
  by_cases h2 : 256 < (d.sectors.length : Int)
  · have : ¬ RtV d := fun h => by have := h.2.1; omega
    simp [h1, h2, this]
  simp only [h1, h2, decide_false, Bool.false_eq_true, if_false, drive_sects d (by omega), Option.bind_some]
  by_cases h3 : ∀ s ∈ d.sectors, s.length = 128
  · rw [if_pos h3]
    obtain ⟨r, hr, hc⟩ := drive_badsD d hb
    simp only [Sum.isLeft_inr, Bool.false_eq_true, if_false, Sum.getRight?_inr, Option.bind_some, hr]
    rcases hc with ⟨rfl, h4⟩ | ⟨rfl, h4⟩
    · have : RtV d := ⟨by omega, by omega, h3, h4⟩
      simp [this]
    · have : ¬ RtV d := fun h => h4 h.2.2.2
      simp [this]
  · rw [if_neg h3]
    have : ¬ RtV d := fun h => h3 h.2.2.1
    simp [this]
def RtK (k : Disk) : Prop := (0 ≤ k.command ∧ k.command ≤ 3) ∧ (0 ≤ k.words ∧ k.words ≤ 65535) ∧ (0 ≤ k.addr ∧ k.addr ≤ 65535 ∧ k.addr % 2 = 0) ∧ (0 ≤ k.start ∧ k.start ≤ 65535) ∧ (0 ≤ k.left ∧ k.left ≤ 8) ∧ (k.ready = true ↔ k.left = 0) ∧ (k.left = 0 ∨ ¬ k.command = 0 ∧ ¬ k.words = 0) ∧ RtV k.drive
theorem word16_def (x : Int) : ref16_word x = some (decide (0 ≤ x ∧ x ≤ 65535)) := by
  simp only [ref16_word, Tref16_word, Tree.run]
  by_cases h : 0 ≤ x <;> simp [h]
theorem isWord16_def (x : Int) : diskctl_isWord x = some (decide (0 ≤ x ∧ x ≤ 65535)) := by
  simp only [diskctl_isWord, Tdiskctl_isWord, Tree.run, and65535, mask_fix x 65536 (by omega)]
  rw [Option.some.injEq, decide_eq_decide]
  omega
theorem beq_iff16 (a : Bool) (p : Prop) [Decidable p] : (a == decide p) = decide (a = true ↔ p) := by
  cases a <;> by_cases h : p <;> simp [h]
open Classical in
theorem ref_RightK_def (k : Disk) (hb : k.drive.bad.length ≤ 9223372036854775807) : ref16_Right none k = some (decide (RtK k)) := by
  simp only [ref16_Right, Tref16_Right, Tree.run, word16_def, Option.bind_some, ref_RightV_def k.drive hb, beq_iff16]
  by_cases h1 : k.command < 0
  · have : ¬ RtK k := fun h => by have := h.1; omega
    simp [h1, this]
  by_cases h2 : 3 < k.command
  · have : ¬ RtK k := fun h => by have := h.1; omega
    simp [h1, h2, this]
  by_cases h3 : 0 ≤ k.words ∧ k.words ≤ 65535
  · by_cases h4 : 0 ≤ k.addr ∧ k.addr ≤ 65535
    · by_cases h5 : 0 ≤ k.start ∧ k.start ≤ 65535
      · by_cases h6 : k.addr % 2 = 0
        · by_cases h7 : k.left < 0
          · have : ¬ RtK k := fun h => by have := h.2.2.2.2.1; omega
            simp [h1, h2, h3, h4, h5, h6, h7, this, tmod_nn h4.1]
          by_cases h8 : 8 < k.left
          · have : ¬ RtK k := fun h => by have := h.2.2.2.2.1; omega
            simp [h1, h2, h3, h4, h5, h6, h7, h8, this, tmod_nn h4.1]
          by_cases h9 : k.ready = true ↔ k.left = 0
          · by_cases h10 : k.left = 0
            · have : RtK k ↔ RtV k.drive := ⟨fun h => h.2.2.2.2.2.2.2, fun h => ⟨by omega, h3, ⟨h4.1, h4.2, h6⟩, h5, by omega, h9, .inl h10, h⟩⟩
              simp [h1, h2, h3, h4, h5, h6, h9, h10, this, tmod_nn h4.1]
            · by_cases h11 : k.command = 0
              · have : ¬ RtK k := fun h => by rcases h.2.2.2.2.2.2.1 with h' | h' <;> omega
                have h9' : ¬ k.ready = true := fun h => h10 (h9.1 h)
                simp [h1, h2, h3, h4, h5, h6, h7, h8, h9', h10, h11, this, tmod_nn h4.1]
              · by_cases h12 : k.words = 0
                · have : ¬ RtK k := fun h => by rcases h.2.2.2.2.2.2.1 with h' | h' <;> omega
                  have h9' : ¬ k.ready = true := fun h => h10 (h9.1 h)
                  simp [h1, h2, h4, h5, h6, h7, h8, h9', h10, h11, h12, this, tmod_nn h4.1]
                · have : RtK k ↔ RtV k.drive := ⟨fun h => h.2.2.2.2.2.2.2, fun h => ⟨by omega, h3, ⟨h4.1, h4.2, h6⟩, h5, by omega, h9, .inr ⟨h11, h12⟩, h⟩⟩
                  have h9' : ¬ k.ready = true := fun h => h10 (h9.1 h)
                  simp [h1, h2, h3, h4, h5, h6, h7, h8, h9', h10, h11, h12, this, tmod_nn h4.1]
          · have : ¬ RtK k := fun h => h9 h.2.2.2.2.2.1
            simp [h1, h2, h3, h4, h5, h6, h7, h8, h9, this, tmod_nn h4.1]
        · have : ¬ RtK k := fun h => h6 h.2.2.1.2.2
          simp [h1, h2, h3, h4, h5, h6, this, tmod_nn h4.1]
      · have : ¬ RtK k := fun h => h5 h.2.2.2.1
        simp [h1, h2, h3, h4, h5, this]
    · have : ¬ RtK k := fun h => h4 ⟨h.2.2.1.1, h.2.2.1.2.1⟩
      simp [h1, h2, h3, h4, this]
  · have : ¬ RtK k := fun h => h3 h.2.1
    simp [h1, h2, h3, this]
open Classical in
theorem diskctl_Right_def (k : Disk) (hb : k.drive.bad.length ≤ 9223372036854775807) : diskctl_Right none k = some (decide (RtK k)) := by
  simp only [diskctl_Right, Tdiskctl_Right, Tree.run, isWord16_def, Option.bind_some, drive_Right_def k.drive hb, beq_iff16]
  by_cases hd : RtV k.drive
  · by_cases h1 : k.command < 0
    · have : ¬ RtK k := fun h => by have := h.1; omega
      simp [hd, h1, this]
    by_cases h2 : 3 < k.command
    · have : ¬ RtK k := fun h => by have := h.1; omega
      simp [hd, h1, h2, this]
    by_cases h3 : 0 ≤ k.words ∧ k.words ≤ 65535
    · by_cases h4 : 0 ≤ k.addr ∧ k.addr ≤ 65535
      · by_cases h5 : 0 ≤ k.start ∧ k.start ≤ 65535
        · by_cases h6 : k.addr % 2 = 0
          · have h6' : ¬ k.addr % 2 = 1 := by omega
            by_cases h7 : k.left < 0
            · have : ¬ RtK k := fun h => by have := h.2.2.2.2.1; omega
              simp [hd, h1, h2, h3, h4, h5, h6, h6', h7, this, tmod_nn h4.1]
            by_cases h8 : 8 < k.left
            · have : ¬ RtK k := fun h => by have := h.2.2.2.2.1; omega
              simp [hd, h1, h2, h3, h4, h5, h6, h6', h7, h8, this, tmod_nn h4.1]
            by_cases h9 : k.ready = true ↔ k.left = 0
            · by_cases h10 : k.left = 0
              · have : RtK k := ⟨by omega, h3, ⟨h4.1, h4.2, h6⟩, h5, by omega, h9, .inl h10, hd⟩
                simp [hd, h1, h2, h3, h4, h5, h6, h6', h9, h10, this, tmod_nn h4.1]
              · have h9' : ¬ k.ready = true := fun h => h10 (h9.1 h)
                by_cases h11 : k.command = 0
                · have : ¬ RtK k := fun h => by rcases h.2.2.2.2.2.2.1 with h' | h' <;> omega
                  simp [hd, h1, h2, h3, h4, h5, h6, h6', h7, h8, h9', h10, h11, this, tmod_nn h4.1]
                · by_cases h12 : k.words = 0
                  · have : ¬ RtK k := fun h => by rcases h.2.2.2.2.2.2.1 with h' | h' <;> omega
                    simp [hd, h1, h2, h4, h5, h6, h6', h7, h8, h9', h10, h11, h12, this, tmod_nn h4.1]
                  · have : RtK k := ⟨by omega, h3, ⟨h4.1, h4.2, h6⟩, h5, by omega, h9, .inr ⟨h11, h12⟩, hd⟩
                    simp [hd, h1, h2, h3, h4, h5, h6, h6', h7, h8, h9', h10, h11, h12, this, tmod_nn h4.1]
            · have : ¬ RtK k := fun h => h9 h.2.2.2.2.2.1
              simp [hd, h1, h2, h3, h4, h5, h6, h6', h7, h8, h9, this, tmod_nn h4.1]
          · have h6' : k.addr % 2 = 1 := by omega
            have : ¬ RtK k := fun h => h6 h.2.2.1.2.2
            simp [hd, h1, h2, h3, h4, h5, h6', this, tmod_nn h4.1]
        · have : ¬ RtK k := fun h => h5 h.2.2.2.1
          simp [hd, h1, h2, h3, h4, h5, this]
      · have : ¬ RtK k := fun h => h4 ⟨h.2.2.1.1, h.2.2.1.2.1⟩
        simp [hd, h1, h2, h3, h4, this]
    · have : ¬ RtK k := fun h => h3 h.2.1
      simp [hd, h1, h2, h3, this]
  · have : ¬ RtK k := fun h => hd h.2.2.2.2.2.2.2
    simp [hd, this]
def reset16 (k : Disk) : Disk := ⟨k.drive, false, true, false, 0, k.words, k.addr, k.start, 0⟩
theorem Reset16_def (k : Disk) : diskctl_Reset k = some (reset16 k) ∧ ref16_Reset k = some (reset16 k) := ⟨rfl, rfl⟩
theorem Requests16_eq (k : Disk) : ∃ r, diskctl_Requests k = some r ∧ ref16_Requests k = some r ∧ r.length ≤ 1 := by
  simp only [diskctl_Requests, Tdiskctl_Requests, ref16_Requests, Tref16_Requests, Tree.run]
  cases k.enable <;> cases k.ready
  · exact ⟨_, rfl, rfl, by simp⟩
  · exact ⟨_, rfl, rfl, by simp⟩
  · exact ⟨_, rfl, rfl, by simp⟩
  · exact ⟨_, rfl, rfl, by simp⟩
def accept16 (k : Disk) (v : Int) : Disk := if v = 160 then { k with enable := false } else k
theorem Accept16_def (k : Disk) (v : Int) : diskctl_Accept k v = some (accept16 k v) ∧ ref16_Accept k v = some (accept16 k v) := by
  obtain ⟨a, e, b, c, d, f, g, h, i⟩ := k
  simp only [diskctl_Accept, Tdiskctl_Accept, ref16_Accept, Tref16_Accept, Tree.run, accept16]
  by_cases c1 : v = 160
  · cases e <;> simp [c1]
  · cases e <;> simp [c1]
def HasD (d : Drive) (i : Int) : Prop := 0 ≤ i ∧ i < (d.sectors.length : Int)
instance (d i) : Decidable (HasD d i) := by unfold HasD; infer_instance
/-- is an address among n bytes from a on -/
def Hit (a n y : Int) : Prop := a ≤ y ∧ y < a + n
instance (a n y) : Decidable (Hit a n y) := by unfold Hit; infer_instance
/-- a controller's address and a number of words -/
structure Rng (k : Disk) (n : Int) : Prop where
  a0 : 0 ≤ k.addr
  a1 : k.addr ≤ 65535
  n0 : 0 ≤ n
  n1 : n ≤ 64
def SpoiltP (l : List Int) (a n : Int) : Prop := ∃ y ∈ l, Hit a n y
noncomputable instance (l a n) : Decidable (SpoiltP l a n) := Classical.propDecidable _
/-- the words from an address on lie within memory -/
structure InM (mem : List Int) (a : Int) (n : Nat) : Prop where
  w : C08.Words mem
  a0 : 0 ≤ a
  ae : a % 2 = 0
  a1 : a + 2 * (n : Int) ≤ 2 * (mem.length : Int)
  n1 : n ≤ 64
/-- what a tick may be asked of -/
structure Okay (k : Disk) (mem bad : List Int) : Prop where
  rt : RtK k
  w : C08.Words mem
  b : bad.length ≤ 100000
  d : k.drive.bad.length ≤ 100000
/-- what stays of a controller and a memory -/
structure Kept (k : Disk) (mem bad : List Int) (r : Disk × List Int × List Int) : Prop where
  ok : Okay r.1 r.2.1 r.2.2
  m : r.2.1.length = mem.length
  b : r.2.2.length ≤ bad.length
  s : r.1.drive.sectors.length = k.drive.sectors.length
  d : r.1.drive.bad = k.drive.bad
theorem reset_right {k : Disk} (h : RtK k) : RtK (reset16 k) := by
  obtain ⟨⟨c0, c1⟩, ⟨w0, w1⟩, ⟨a0, a1, a2⟩, ⟨s0, s1⟩, ⟨l0, l1⟩, hrd, hz, hv⟩ := h
  exact ⟨⟨by simp [reset16], by simp [reset16]⟩, ⟨w0, w1⟩, ⟨a0, a1, a2⟩, ⟨s0, s1⟩, ⟨by simp [reset16], by simp [reset16]⟩, ⟨fun _ => rfl, fun _ => rfl⟩, .inl rfl, hv⟩
theorem accept_right {k : Disk} (h : RtK k) (v : Int) : RtK (accept16 k v) := by
  unfold accept16
  split
  · exact h
  · exact h
end Go.Proofs.YtfdndagnolbnhaaGreat.C16
end
section
set_option linter.unusedSimpArgs false
set_option linter.unusedVariables false
namespace Go.Proofs.YtfdndagnolbnhaaGreat.C17
open Go Go.Ab
structure Store where
  mem : List Int
  bad : List Int
theorem wrap_succ {i n : Nat} (h : i < n) (hn : n ≤ 9223372036854775807) : IntKind.wrap .i64 ((i : Int) + 1) = ((i + 1 : Nat) : Int) := by rw [wrap_id] <;> omega
def wordAt (m : List Int) (a : Int) : Int := m.getD (a / 2).toNat 0
def byteAt (m : List Int) (a : Int) : Int := if a % 2 = 0 then wordAt m a % 256 else wordAt m a / 256 % 256
theorem wrap2 {m : List Int} (hm : m.length ≤ 100000) : IntKind.wrap .i64 (2 * (m.length : Int)) = 2 * (m.length : Int) := wrap_id (by omega) (by omega)
def Words (m : List Int) : Prop := m.length ≤ 100000 ∧ ∀ w ∈ m, 0 ≤ w ∧ w ≤ 65535
/-- the bad addresses without one -/
def without (bad : List Int) (c : Int) : List Int := bad.filter fun y => decide (y ≠ c)
def Bads (n : Nat) (bad : List Int) : Prop := ∀ i, (h : i < bad.length) → 0 ≤ bad[i] ∧ bad[i] < 2 * (n : Int) ∧ bad[i] % 2 = 0 ∧ ∀ h' : 0 < i, bad[i - 1] < bad[i]
def Sized (n : Int) : Prop := 256 ≤ n ∧ n ≤ 32768 ∧ n % 64 = 0
instance (n) : Decidable (Sized n) := by unfold Sized; infer_instance
def Rt (m bad : List Int) : Prop := Sized (2 * (m.length : Int)) ∧ (∀ w ∈ m, 0 ≤ w ∧ w ≤ 65535) ∧ Bads m.length bad
/-- a range within memory -/
def Wn (m : List Int) (a n : Int) : Prop := 0 ≤ a ∧ 0 ≤ n ∧ a ≤ 2 * (m.length : Int) ∧ n ≤ 2 * (m.length : Int) - a
instance (m a n) : Decidable (Wn m a n) := by unfold Wn; infer_instance
def bytesL (m : List Int) (a : Int) (n : Nat) : List Int := (List.range n).map fun i => byteAt m (a + (i : Nat))
def outB (m : List Int) (a : Int) (n : Nat) : List UInt8 := (bytesL m a n).map fun x => UInt8.ofNat x.toNat
theorem long_def (r : List UInt8) : tape_long r = some (decide (512 < (r.length : Int))) := rfl
theorem anyLong_def (l : List (List UInt8)) (hl : l.length ≤ 9223372036854775807) : slices_ContainsFunc_string_string none l = some (decide (∃ r ∈ l, 512 < r.length)) := by
  have hs := lim_scan (f := fun s => (Wslices_IndexFunc_string_string_0 s).run) (fun i : Nat => ⟨l, (l.length : Int), (i : Int)⟩) l.length (fun i => ∀ r, l[i]? = some r → r.length ≤ 512) (fun i => .inl (i : Int)) (.inr ())
    (fun i hi hp => by
      have hp' : ¬ 512 < (l[i].length : Int) := by have := hp l[i] (List.getElem?_eq_getElem hi); omega
      simp [Wslices_IndexFunc_string_string_0, Tree.run, hi, wrap_succ hi hl, long_def, hp'])
    (fun i hi hp => by
      have hp' : 512 < (l[i].length : Int) := by
        apply Classical.byContradiction
        intro hn
        exact hp fun r hr => by
          rw [List.getElem?_eq_getElem hi] at hr
          rw [← Option.some.inj hr]; omega
      simp [Wslices_IndexFunc_string_string_0, Tree.run, hi, long_def, hp'])
    (by simp [Wslices_IndexFunc_string_string_0, Tree.run])
  rcases hs with ⟨h1, h2⟩ | ⟨i, hi, h1, h2⟩
  · have h : Lslices_IndexFunc_string_string_0 none ⟨l, (l.length : Int), (0 : Int)⟩ = some (.inr ()) := h2
    have hn : ¬ ∃ r ∈ l, 512 < r.length := by
      rintro ⟨r, hr, hlt⟩
      obtain ⟨i, hi, he⟩ := List.mem_iff_getElem.1 hr
      have := h1 i hi r (by rw [List.getElem?_eq_getElem hi, he])
      omega
    simp only [slices_ContainsFunc_string_string, Tslices_ContainsFunc_string_string, slices_IndexFunc_string_string, Tslices_IndexFunc_string_string, Tree.run, h, hn]
    rfl
  · have h : Lslices_IndexFunc_string_string_0 none ⟨l, (l.length : Int), (0 : Int)⟩ = some (.inl (i : Int)) := h2
    have hn : ∃ r ∈ l, 512 < r.length := by
      apply Classical.byContradiction
      intro hn
      refine h1 fun r hr => ?_
      apply Classical.byContradiction
      intro hlt
      exact hn ⟨r, List.mem_of_getElem? hr, by omega⟩
    have h0 : (0 : Int) ≤ (i : Int) := by omega
    simp only [slices_ContainsFunc_string_string, Tslices_ContainsFunc_string_string, slices_IndexFunc_string_string, Tslices_IndexFunc_string_string, Tree.run, h, hn]
    simp
theorem SameTexts_def (a b : List (List UInt8)) (hl : a.length ≤ 9223372036854775807) : ref17_SameTexts none a b = some (decide (a = b)) := by
  by_cases hab : a.length = b.length
  · have hs := lim_scan (f := fun s => (Wref17_SameTexts_0 s).run) (fun i : Nat => ⟨a, b, (i : Int)⟩) a.length (fun i => a[i]? = b[i]?) (fun i => .inl false) (.inr ())
      (fun i hi hp => by
        have hi' : i < b.length := by omega
        have hp' : a[i] = b[i] := by
          rw [List.getElem?_eq_getElem hi, List.getElem?_eq_getElem hi'] at hp
          exact Option.some.inj hp
        simp [Wref17_SameTexts_0, Tree.run, hi, hi', wrap_succ hi hl, hp'])
      (fun i hi hp => by
        have hi' : i < b.length := by omega
        have hp' : ¬ a[i] = b[i] := by
          rw [List.getElem?_eq_getElem hi, List.getElem?_eq_getElem hi'] at hp
          exact fun h => hp (by rw [h])
        simp [Wref17_SameTexts_0, Tree.run, hi, hi', hp'])
      (by simp [Wref17_SameTexts_0, Tree.run])
    rcases hs with ⟨h1, h2⟩ | ⟨i, hi, h1, h2⟩
    · have h : Lref17_SameTexts_0 none ⟨a, b, (0 : Int)⟩ = some (.inr ()) := h2
      have he : a = b := List.ext_getElem? fun i => by
        by_cases hi : i < a.length
        · exact h1 i hi
        · rw [List.getElem?_eq_none (by omega), List.getElem?_eq_none (by omega)]
      simp [ref17_SameTexts, Tref17_SameTexts, Tree.run, h, hab]
      exact he
    · have h : Lref17_SameTexts_0 none ⟨a, b, (0 : Int)⟩ = some (.inl false) := h2
      have he : ¬ a = b := fun he => h1 (by rw [he])
      simp [ref17_SameTexts, Tref17_SameTexts, Tree.run, h, hab, he]
  · have he : ¬ a = b := fun h => hab (by rw [h])
    have hab' : ¬ (a.length : Int) = (b.length : Int) := by omega
    simp [ref17_SameTexts, Tref17_SameTexts, Tree.run, hab', he]
theorem Same_self (t : Tape) (hl : t.records.length ≤ 9223372036854775807) : ref17_Same none t t = some true := by
  simp [ref17_Same, Tref17_Same, Tree.run, SameTexts_def _ _ hl]
def RtT (t : Tape) : Prop := t.records.length ≤ 64 ∧ (∀ r ∈ t.records, r.length ≤ 512) ∧ (0 ≤ t.pos ∧ t.pos ≤ (t.records.length : Int)) ∧ (0 ≤ t.command ∧ t.command ≤ 6) ∧ (0 ≤ t.count ∧ t.count ≤ 65535) ∧ (0 ≤ t.addr ∧ t.addr ≤ 65535) ∧ (0 ≤ t.left ∧ t.left ≤ 16) ∧ (t.ready = true ↔ t.left = 0)
instance (t : Tape) : Decidable (RtT t) := by unfold RtT; infer_instance
theorem word_def (x : Int) : ref17_word x = some (decide (0 ≤ x ∧ x ≤ 65535)) := by
  simp only [ref17_word, Tref17_word, Tree.run]
  by_cases h : 0 ≤ x <;> simp [h]
theorem isWord_def (x : Int) : tape_isWord x = some (decide (0 ≤ x ∧ x ≤ 65535)) := by
  simp only [tape_isWord, Ttape_isWord, Tree.run, and65535, mask_fix x 65536 (by omega)]
  rw [Option.some.injEq, decide_eq_decide]
  omega
theorem ref_records (t : Tape) (hl : t.records.length ≤ 9223372036854775807) : Lref17_Right_0 none ⟨(0 : Int), t⟩ = some (if ∀ r ∈ t.records, r.length ≤ 512 then .inr t else .inl (false, t)) := by
  have hs := lim_scan (f := fun s => (Wref17_Right_0 s).run) (fun i : Nat => ⟨(i : Int), t⟩) t.records.length (fun i => ∀ r, t.records[i]? = some r → r.length ≤ 512) (fun i => .inl (false, t)) (.inr t)
    (fun i hi hp => by
      have hp' : ¬ 512 < (t.records[i].length : Int) := by have := hp t.records[i] (List.getElem?_eq_getElem hi); omega
      simp [Wref17_Right_0, Tree.run, hi, wrap_succ hi hl, hp'])
    (fun i hi hp => by
      have hp' : 512 < (t.records[i].length : Int) := by
        apply Classical.byContradiction
        intro hn
        exact hp fun r hr => by
          rw [List.getElem?_eq_getElem hi] at hr
          rw [← Option.some.inj hr]; omega
      simp [Wref17_Right_0, Tree.run, hi, hp'])
    (by simp [Wref17_Right_0, Tree.run])
  rcases hs with ⟨h1, h2⟩ | ⟨i, hi, h1, h2⟩
  · rw [if_pos]
    · exact h2
    · intro r hr
      obtain ⟨i, hi, he⟩ := List.mem_iff_getElem.1 hr
      exact h1 i hi r (by rw [List.getElem?_eq_getElem hi, he])
  · rw [if_neg]
    · exact h2
    · intro h
      exact h1 fun r hr => h r (List.mem_of_getElem? hr)
theorem beq_iff' (a b : Bool) : (a == b) = true ↔ (a = true ↔ b = true) := by cases a <;> cases b <;> simp
theorem ref_RightT_def (t : Tape) (hl : t.records.length ≤ 9223372036854775807) : ref17_Right none t = some (decide (RtT t)) := by
  simp only [ref17_Right, Tref17_Right, Tree.run, word_def, Option.bind_some, ref_records t hl]
  by_cases h1 : 64 < (t.records.length : Int)
  · have : ¬ RtT t := fun h => by have := h.1; omega
    simp [h1, this]
  by_cases h2 : t.pos < 0
  · have : ¬ RtT t := fun h => by have := h.2.2.1; omega
    simp [h1, h2, this]
  by_cases h3 : (t.records.length : Int) < t.pos
  · have : ¬ RtT t := fun h => by have := h.2.2.1; omega
    simp [h1, h2, h3, this]
  by_cases h4 : t.command < 0
  · have : ¬ RtT t := fun h => by have := h.2.2.2.1; omega
    simp [h1, h2, h3, h4, this]
  by_cases h5 : 6 < t.command
  · have : ¬ RtT t := fun h => by have := h.2.2.2.1; omega
    simp [h1, h2, h3, h4, h5, this]
  by_cases h6 : 0 ≤ t.count ∧ t.count ≤ 65535
  · by_cases h7 : 0 ≤ t.addr ∧ t.addr ≤ 65535
    · by_cases h8 : ∀ r ∈ t.records, r.length ≤ 512
      · rw [if_pos h8]
        by_cases h9 : 0 ≤ t.left
        · by_cases h10 : t.left ≤ 16
          · simp only [h1, h2, h3, h4, h5, h6, h7, h9, h10, decide_false, decide_true, Bool.false_eq_true, if_false, if_true, Bool.not_true, and_self, Sum.isLeft_inr, Sum.getRight?_inr, Option.bind_some]
            rw [Option.some.injEq, Bool.eq_iff_iff, beq_iff', decide_eq_true_eq, decide_eq_true_eq]
            unfold RtT
            constructor
            · intro h; exact ⟨by omega, h8, by omega, by omega, h6, h7, by omega, h⟩
            · intro h; exact h.2.2.2.2.2.2.2
          · have : ¬ RtT t := fun h => by have := h.2.2.2.2.2.2.1; omega
            simp [h1, h2, h3, h4, h5, h6, h7, h9, h10, this]
        · have : ¬ RtT t := fun h => by have := h.2.2.2.2.2.2.1; omega
          simp [h1, h2, h3, h4, h5, h6, h7, h9, this]
      · rw [if_neg h8]
        have : ¬ RtT t := fun h => h8 h.2.1
        simp [h1, h2, h3, h4, h5, h6, h7, this]
    · have : ¬ RtT t := fun h => h7 h.2.2.2.2.2.1
      simp [h1, h2, h3, h4, h5, h6, h7, this]
  · have : ¬ RtT t := fun h => h6 h.2.2.2.2.1
    simp [h1, h2, h3, h4, h5, h6, this]
theorem tape_Right_def (t : Tape) (hl : t.records.length ≤ 9223372036854775807) : tape_Right none t = some (decide (RtT t)) := by
  simp only [tape_Right, Ttape_Right, Tree.run, isWord_def, Option.bind_some, anyLong_def _ hl]
  by_cases h1 : 64 < (t.records.length : Int)
  · have : ¬ RtT t := fun h => by have := h.1; omega
    simp [h1, this]
  by_cases h8 : ∃ r ∈ t.records, 512 < r.length
  · have : ¬ RtT t := fun h => by
      obtain ⟨r, hr, hlt⟩ := h8
      have := h.2.1 r hr
      omega
    simp only [h1, h8, this, decide_true, decide_false, if_true, if_false, Bool.false_eq_true]
  have h8' : ∀ r ∈ t.records, r.length ≤ 512 := fun r hr => by
    apply Classical.byContradiction
    intro hn
    exact h8 ⟨r, hr, by omega⟩
  simp only [h1, h8, decide_false, if_false, Bool.false_eq_true]
  by_cases h2 : t.pos < 0
  · have : ¬ RtT t := fun h => by have := h.2.2.1; omega
    simp [h2, this]
  by_cases h3 : (t.records.length : Int) < t.pos
  · have : ¬ RtT t := fun h => by have := h.2.2.1; omega
    simp [h2, h3, this]
  by_cases h4 : 0 ≤ t.command
  · by_cases h5 : t.command ≤ 6
    · by_cases h6 : 0 ≤ t.count ∧ t.count ≤ 65535
      · by_cases h7 : 0 ≤ t.addr ∧ t.addr ≤ 65535
        · by_cases h9 : 0 ≤ t.left
          · by_cases h10 : t.left ≤ 16
            · simp only [h2, h3, h4, h5, h6, h7, h9, h10, decide_false, decide_true, Bool.false_eq_true, if_false, if_true, Bool.not_true, and_self, Option.bind_some]
              rw [Option.some.injEq, Bool.eq_iff_iff, beq_iff', decide_eq_true_eq, decide_eq_true_eq]
              unfold RtT
              constructor
              · intro h; exact ⟨by omega, h8', by omega, by omega, h6, h7, by omega, h⟩
              · intro h; exact h.2.2.2.2.2.2.2
            · have : ¬ RtT t := fun h => by have := h.2.2.2.2.2.2.1; omega
              simp [h2, h3, h4, h5, h6, h7, h9, h10, this]
          · have : ¬ RtT t := fun h => by have := h.2.2.2.2.2.2.1; omega
            simp [h2, h3, h4, h5, h6, h7, h9, this]
        · have : ¬ RtT t := fun h => h7 h.2.2.2.2.2.1
          simp [h2, h3, h4, h5, h6, h7, this]
      · have : ¬ RtT t := fun h => h6 h.2.2.2.2.1
        simp [h2, h3, h4, h5, h6, this]
    · have : ¬ RtT t := fun h => by have := h.2.2.2.1; omega
      simp [h2, h3, h4, h5, this]
  · have : ¬ RtT t := fun h => by have := h.2.2.2.1; omega
    simp [h2, h3, h4, this]
theorem Requests_eq (t : Tape) : tape_Requests t = ref17_Requests t := by
  simp only [tape_Requests, Ttape_Requests, ref17_Requests, Tref17_Requests, Tree.run]
  cases t.enable <;> cases t.ready <;> rfl
def acceptT (t : Tape) (v : Int) : Tape := { t with enable := t.enable && !decide (v = 164) }
theorem Accept_def (t : Tape) (v : Int) : tape_Accept t v = some (acceptT t v) := by
  obtain ⟨a, b, c, d, e, f, g, h, i, j, k⟩ := t
  simp only [tape_Accept, Ttape_Accept, Tree.run, acceptT]
  cases c <;> simp
theorem ref_Accept_def (t : Tape) (v : Int) : ref17_Accept t v = some (acceptT t v) := by
  obtain ⟨a, b, c, d, e, f, g, h, i, j, k⟩ := t
  simp only [ref17_Accept, Tref17_Accept, Tree.run, acceptT]
  by_cases hv : v = 164 <;> simp [hv]
def resetT (t : Tape) : Tape := Tape.mk t.records t.pos false true false false false 0 t.count t.addr 0
theorem Reset_def (t : Tape) : tape_Reset t = some (resetT t) := rfl
theorem ref_Reset_def (t : Tape) : ref17_Reset t = some (resetT t) := rfl
/-- addresses of which some is asked -/
def Evens (l : List Int) : Prop := l.length ≤ 100000 ∧ ∀ y ∈ l, 0 ≤ y ∧ y ≤ 1000000 ∧ y % 2 = 0
def Rng (a n : Int) : Prop := 0 ≤ a ∧ a ≤ 65535 ∧ 0 ≤ n ∧ n ≤ 65535
/-- a head within its tape -/
def Pos (t : Tape) : Prop := t.records.length ≤ 64 ∧ 0 ≤ t.pos ∧ t.pos ≤ (t.records.length : Int)
def recAt (t : Tape) : List UInt8 := t.records.getD t.pos.toNat []
/-- how many bytes are read -/
def cnt (t : Tape) : Nat := min t.count.toNat (recAt t).length
/-- what a unit and a memory must be like for a tick -/
structure Fit (t : Tape) (m bad : List Int) : Prop where
  pos : Pos t
  long : ∀ r ∈ t.records, r.length ≤ 512
  cnt : 0 ≤ t.count ∧ t.count ≤ 65535
  addr : 0 ≤ t.addr ∧ t.addr ≤ 65535
  mem : Words m
  bad : Evens bad
/-- what a tick leaves to do: a unit that is ready -/
def RtD (t : Tape) : Prop := t.records.length ≤ 64 ∧ (∀ r ∈ t.records, r.length ≤ 512) ∧ (0 ≤ t.pos ∧ t.pos ≤ (t.records.length : Int)) ∧ (0 ≤ t.command ∧ t.command ≤ 6) ∧ (0 ≤ t.count ∧ t.count ≤ 65535) ∧ (0 ≤ t.addr ∧ t.addr ≤ 65535) ∧ t.left = 0 ∧ t.ready = true
theorem RtD.rt {t : Tape} (h : RtD t) : RtT t := by
  obtain ⟨h1, h2, h3, h4, h5, h6, h7, h8⟩ := h
  exact ⟨h1, h2, h3, h4, h5, h6, ⟨by omega, by omega⟩, by simp [h7, h8]⟩
end Go.Proofs.YtfdndagnolbnhaaGreat.C17
end
section
set_option linter.unusedSimpArgs false
set_option linter.unusedVariables false
namespace Go.Proofs.YtfdndagnolbnhaaGreat
open Go Go.Ab
theorem alive_true : law18_alive none = some true := lelaw18_alive 300 true (by kernel_rfl)
theorem wrap_succ {i n : Nat} (h : i < n) (hn : n ≤ 9223372036854775807) : IntKind.wrap .i64 ((i : Int) + 1) = ((i + 1 : Nat) : Int) := by rw [wrap_id] <;> omega
def SmM (m : Machine) : Prop := m.mem.length ≤ 2048 ∧ m.bad.length ≤ 64 ∧ m.lines.length ≤ 8 ∧ m.disk.drive.sectors.length ≤ 256 ∧ m.disk.drive.bad.length ≤ 256 ∧ m.tape.records.length ≤ 70
theorem small0 (m : Machine) (n : Int) : ∃ k, Llaw18_Small_0 none ⟨n, (0 : Int), m⟩ = some (k, m) := by
  obtain ⟨r, hr, k, e⟩ := lim_rule (f := fun s => (Wlaw18_Small_0 s).run) (fun s => ∃ (i : Nat) (n : Int), s = ⟨n, (i : Int), m⟩ ∧ i ≤ 300) (fun r => ∃ k, r = (k, m)) (fun s => 300 - s.t4.toNat)
    (by
      rintro s ⟨i, n, rfl, hi⟩
      by_cases h1 : i < m.disk.drive.sectors.length
      · by_cases h2 : i < 300
        · right
          have h1' : (i : Int) < (m.disk.drive.sectors.length : Int) := by omega
          have h2' : (i : Int) < 300 := by omega
          have h0 : (0 : Int) ≤ (i : Int) := by omega
          refine ⟨⟨IntKind.wrap .i64 (n + (if (100000 : Int) < (m.disk.drive.sectors[i].length : Int) then (100000 : Int) else (m.disk.drive.sectors[i].length : Int))), ((i + 1 : Nat) : Int), m⟩, ?_, ⟨i + 1, _, rfl, h2⟩, ?_⟩
          · simp only [Wlaw18_Small_0, Tree.run, h1', h2', h0, decide_true, if_true, Int.toNat_natCast, List.getElem?_eq_getElem h1, Option.bind_some, wrap_succ h2 (show 300 ≤ 9223372036854775807 by omega)]
          · dsimp only; omega
        · left
          have h1' : (i : Int) < (m.disk.drive.sectors.length : Int) := by omega
          have h2' : ¬ (i : Int) < 300 := by omega
          refine ⟨(n, m), ?_, n, rfl⟩
          show (if decide ((i : Int) < (m.disk.drive.sectors.length : Int)) = true then (if decide ((i : Int) < 300) = true then _ else some (Sum.inr (n, m))) else some (Sum.inr (n, m))) = _
          rw [if_pos (decide_eq_true h1')]
          exact if_neg (fun h => h2' (of_decide_eq_true h))
      · left
        have h1' : ¬ (i : Int) < (m.disk.drive.sectors.length : Int) := by omega
        refine ⟨(n, m), ?_, n, rfl⟩
        show (if decide ((i : Int) < (m.disk.drive.sectors.length : Int)) = true then _ else some (Sum.inr (n, m))) = _
        exact if_neg (fun h => h1' (of_decide_eq_true h)))
    ⟨n, (0 : Int), m⟩ ⟨0, n, rfl, by omega⟩
  subst e
  exact ⟨k, hr⟩
theorem small1 (m : Machine) (n : Int) : ∃ k, Llaw18_Small_1 none ⟨n, (0 : Int), m⟩ = some (k, m) := by
  obtain ⟨r, hr, k, e⟩ := lim_rule (f := fun s => (Wlaw18_Small_1 s).run) (fun s => ∃ (i : Nat) (n : Int), s = ⟨n, (i : Int), m⟩ ∧ i ≤ 300) (fun r => ∃ k, r = (k, m)) (fun s => 300 - s.t5.toNat)
    (by
      rintro s ⟨i, n, rfl, hi⟩
      by_cases h1 : i < m.tape.records.length
      · by_cases h2 : i < 300
        · right
          have h1' : (i : Int) < (m.tape.records.length : Int) := by omega
          have h2' : (i : Int) < 300 := by omega
          have h0 : (0 : Int) ≤ (i : Int) := by omega
          refine ⟨⟨IntKind.wrap .i64 (n + (if (100000 : Int) < (m.tape.records[i].length : Int) then (100000 : Int) else (m.tape.records[i].length : Int))), ((i + 1 : Nat) : Int), m⟩, ?_, ⟨i + 1, _, rfl, h2⟩, ?_⟩
          · simp only [Wlaw18_Small_1, Tree.run, h1', h2', h0, decide_true, if_true, Int.toNat_natCast, List.getElem?_eq_getElem h1, Option.bind_some, wrap_succ h2 (show 300 ≤ 9223372036854775807 by omega)]
          · dsimp only; omega
        · left
          have h1' : (i : Int) < (m.tape.records.length : Int) := by omega
          have h2' : ¬ (i : Int) < 300 := by omega
          refine ⟨(n, m), ?_, n, rfl⟩
          show (if decide ((i : Int) < (m.tape.records.length : Int)) = true then (if decide ((i : Int) < 300) = true then _ else some (Sum.inr (n, m))) else some (Sum.inr (n, m))) = _
          rw [if_pos (decide_eq_true h1')]
          exact if_neg (fun h => h2' (of_decide_eq_true h))
      · left
        have h1' : ¬ (i : Int) < (m.tape.records.length : Int) := by omega
        refine ⟨(n, m), ?_, n, rfl⟩
        show (if decide ((i : Int) < (m.tape.records.length : Int)) = true then _ else some (Sum.inr (n, m))) = _
        exact if_neg (fun h => h1' (of_decide_eq_true h)))
    ⟨n, (0 : Int), m⟩ ⟨0, n, rfl, by omega⟩
  subst e
  exact ⟨k, hr⟩
theorem small2 (m : Machine) (n : Int) : ∃ k, Llaw18_Small_2 none ⟨n, (0 : Int), m⟩ = some (k, m) := by
  obtain ⟨r, hr, k, e⟩ := lim_rule (f := fun s => (Wlaw18_Small_2 s).run) (fun s => ∃ (i : Nat) (n : Int), s = ⟨n, (i : Int), m⟩ ∧ i ≤ 9) (fun r => ∃ k, r = (k, m)) (fun s => 9 - s.t6.toNat)
    (by
      rintro s ⟨i, n, rfl, hi⟩
      by_cases h1 : i < m.lines.length
      · by_cases h2 : i < 9
        · right
          have h1' : (i : Int) < (m.lines.length : Int) := by omega
          have h2' : (i : Int) < 9 := by omega
          have h0 : (0 : Int) ≤ (i : Int) := by omega
          refine ⟨⟨IntKind.wrap .i64 (n + (if (100000 : Int) < (m.lines[i].out.length : Int) then (100000 : Int) else (m.lines[i].out.length : Int))), ((i + 1 : Nat) : Int), m⟩, ?_, ⟨i + 1, _, rfl, h2⟩, ?_⟩
          · simp only [Wlaw18_Small_2, Tree.run, h1', h2', h0, decide_true, if_true, Int.toNat_natCast, List.getElem?_eq_getElem h1, Option.bind_some, wrap_succ h2 (show 9 ≤ 9223372036854775807 by omega)]
          · dsimp only; omega
        · left
          have h1' : (i : Int) < (m.lines.length : Int) := by omega
          have h2' : ¬ (i : Int) < 9 := by omega
          exact ⟨(n, m), by simp only [Wlaw18_Small_2, Tree.run, h1', h2', decide_true, decide_false, if_true, Bool.false_eq_true, if_false], n, rfl⟩
      · left
        have h1' : ¬ (i : Int) < (m.lines.length : Int) := by omega
        exact ⟨(n, m), by simp only [Wlaw18_Small_2, Tree.run, h1', decide_false, Bool.false_eq_true, if_false], n, rfl⟩)
    ⟨n, (0 : Int), m⟩ ⟨0, n, rfl, by omega⟩
  subst e
  exact ⟨k, hr⟩
theorem Small_def (m : Machine) : ∃ r, law18_Small none m = some r ∧ (r = true → SmM m) := by
  obtain ⟨k0, e0⟩ := small0 m 0
  obtain ⟨k1, e1⟩ := small1 m k0
  obtain ⟨k2, e2⟩ := small2 m k1
  simp only [law18_Small, Tlaw18_Small, Tree.run, e0, e1, e2, Option.bind_some]
  by_cases h1 : k2 ≤ 60000
  · by_cases h2 : (m.mem.length : Int) ≤ 2048
    · by_cases h3 : (m.bad.length : Int) ≤ 64
      · by_cases h4 : (m.lines.length : Int) ≤ 8
        · by_cases h5 : (m.disk.drive.sectors.length : Int) ≤ 256
          · by_cases h6 : (m.disk.drive.bad.length : Int) ≤ 256
            · simp only [h1, h2, h3, h4, h5, h6, decide_true, if_true]
              exact ⟨_, rfl, fun h => ⟨by omega, by omega, by omega, by omega, by omega, by have := of_decide_eq_true h; omega⟩⟩
            · exact ⟨false, by simp [h1, h2, h3, h4, h5, h6], fun h => by cases h⟩
          · exact ⟨false, by simp [h1, h2, h3, h4, h5], fun h => by cases h⟩
        · exact ⟨false, by simp [h1, h2, h3, h4], fun h => by cases h⟩
      · exact ⟨false, by simp [h1, h2, h3], fun h => by cases h⟩
    · exact ⟨false, by simp [h1, h2], fun h => by cases h⟩
  · exact ⟨false, by simp [h1], fun h => by cases h⟩
def RtC (c : Clock) : Prop := (1 ≤ c.period ∧ c.period ≤ 65535) ∧ 1 ≤ c.left ∧ c.left ≤ c.period
open Classical in
theorem clock_Right_def (c : Clock) : ref13_Right c = some (decide (RtC c)) := by
  rw [C13.F7_def]
  unfold RtC
  rw [Option.some.injEq, Bool.eq_iff_iff]
  simp only [Bool.and_eq_true, decide_eq_true_eq]
  omega
def RtM (m : Machine) : Prop := m.lines.length ≤ 4 ∧ (∀ l ∈ m.lines, C14.Rt l) ∧ C08.Rt m.mem m.bad ∧ C09.Rt m.mmu ∧ RtC m.clock ∧ C16.RtK m.disk ∧ C17.RtT m.tape
theorem lines_iff (l : List Line) : (∀ i, i < l.length → ∀ x, l[i]? = some x → C14.Rt x) ↔ ∀ x ∈ l, C14.Rt x := by
  constructor
  · intro h x hx
    obtain ⟨i, hi, he⟩ := List.mem_iff_getElem.1 hx
    exact h i hi x (by rw [List.getElem?_eq_getElem hi, he])
  · intro h i _ x hx
    exact h x (List.mem_of_getElem? hx)
open Classical in
theorem ref_lines (m : Machine) (hl : m.lines.length ≤ 100) : Lref18_Right_0 none ⟨(0 : Int), m⟩ = some (if ∀ x ∈ m.lines, C14.Rt x then .inr m else .inl (false, m)) := by
  have hs := lim_scan (f := fun s => (Wref18_Right_0 s).run) (fun i : Nat => ⟨(i : Int), m⟩) m.lines.length (fun i => ∀ x, m.lines[i]? = some x → C14.Rt x) (fun i => .inl (false, m)) (.inr m)
    (fun i hi hp => by
      have hp' := hp m.lines[i] (List.getElem?_eq_getElem hi)
      simp [Wref18_Right_0, Tree.run, hi, wrap_succ hi (show m.lines.length ≤ 9223372036854775807 by omega), C14.ref14_Right_def, hp'])
    (fun i hi hp => by
      have hp' : ¬ C14.Rt m.lines[i] := fun he => hp fun s hs => by
        rw [List.getElem?_eq_getElem hi] at hs
        rw [← Option.some.inj hs]; exact he
      simp [Wref18_Right_0, Tree.run, hi, C14.ref14_Right_def, hp'])
    (by simp [Wref18_Right_0, Tree.run])
  rcases hs with ⟨h1, h2⟩ | ⟨i, hi, h1, h2⟩
  · rw [if_pos ((lines_iff _).1 h1)]; exact h2
  · rw [if_neg (fun h => h1 ((lines_iff _).2 h i hi))]; exact h2
open Classical in
theorem bus_lines (m : Machine) (hl : m.lines.length ≤ 100) : Lbus_Right_0 none ⟨m.lines, (m.lines.length : Int), (0 : Int), m⟩ = some (if ∀ x ∈ m.lines, C14.Rt x then .inr m else .inl (false, m)) := by
  have hs := lim_scan (f := fun s => (Wbus_Right_0 s).run) (fun i : Nat => ⟨m.lines, (m.lines.length : Int), (i : Int), m⟩) m.lines.length (fun i => ∀ x, m.lines[i]? = some x → C14.Rt x) (fun i => .inl (false, m)) (.inr m)
    (fun i hi hp => by
      have hp' := hp m.lines[i] (List.getElem?_eq_getElem hi)
      simp [Wbus_Right_0, Tree.run, hi, wrap_succ hi (show m.lines.length ≤ 9223372036854775807 by omega), C14.line_Right_def, hp'])
    (fun i hi hp => by
      have hp' : ¬ C14.Rt m.lines[i] := fun he => hp fun s hs => by
        rw [List.getElem?_eq_getElem hi] at hs
        rw [← Option.some.inj hs]; exact he
      simp [Wbus_Right_0, Tree.run, hi, C14.line_Right_def, hp'])
    (by simp [Wbus_Right_0, Tree.run])
  rcases hs with ⟨h1, h2⟩ | ⟨i, hi, h1, h2⟩
  · rw [if_pos ((lines_iff _).1 h1)]; exact h2
  · rw [if_neg (fun h => h1 ((lines_iff _).2 h i hi))]; exact h2
structure Fin (m : Machine) : Prop where
  pages : m.mmu.pages.length = 16
  mem : m.mem.length ≤ 100000
  bad : m.bad.length ≤ 100000
  dbad : m.disk.drive.bad.length ≤ 100000
  recs : m.tape.records.length ≤ 100000
open Classical in
theorem ref_RightM_def (m : Machine) (h : Fin m) : ref18_Right none m = some (decide (RtM m)) := by
  simp only [ref18_Right, Tref18_Right, Tree.run]
  by_cases h1 : 4 < (m.lines.length : Int)
  · have : ¬ RtM m := fun h => by have := h.1; omega
    simp [h1, this]
  simp only [h1, decide_false, Bool.false_eq_true, if_false, ref_lines m (by omega), Option.bind_some]
  by_cases h2 : ∀ x ∈ m.lines, C14.Rt x
  · rw [if_pos h2]
    have hk := h.dbad
    have hr := h.recs
    simp only [Sum.isLeft_inr, Bool.false_eq_true, if_false, Sum.getRight?_inr, Option.bind_some, C08.ref_Right_def m.mem m.bad h.mem h.bad, C09.ref_Right_def m.mmu h.pages, clock_Right_def, C16.ref_RightK_def m.disk (by omega), C17.ref_RightT_def m.tape (by omega)]
    by_cases h3 : C08.Rt m.mem m.bad
    · by_cases h4 : C09.Rt m.mmu
      · by_cases h5 : RtC m.clock
        · by_cases h6 : C16.RtK m.disk
          · have : RtM m ↔ C17.RtT m.tape := ⟨fun h => h.2.2.2.2.2.2, fun h => ⟨by omega, h2, h3, h4, h5, h6, h⟩⟩
            simp [h3, h4, h5, h6, this]
          · have : ¬ RtM m := fun h => h6 h.2.2.2.2.2.1
            simp [h3, h4, h5, h6, this]
        · have : ¬ RtM m := fun h => h5 h.2.2.2.2.1
          simp [h3, h4, h5, this]
      · have : ¬ RtM m := fun h => h4 h.2.2.2.1
        simp [h3, h4, this]
    · have : ¬ RtM m := fun h => h3 h.2.2.1
      simp [h3, this]
  · rw [if_neg h2]
    have : ¬ RtM m := fun h => h2 h.2.1
    simp [this]
open Classical in
theorem bus_Right_def (m : Machine) (h : Fin m) : bus_Right none m = some (decide (RtM m)) := by
  simp only [bus_Right, Tbus_Right, Tree.run]
  by_cases h1 : 4 < (m.lines.length : Int)
  · have : ¬ RtM m := fun h => by have := h.1; omega
    simp [h1, this]
  have hk := h.dbad
  have hr := h.recs
  simp only [h1, decide_false, Bool.false_eq_true, if_false, C08.mem_Right_def m.mem m.bad h.mem h.bad, C09.mmu_Right_def m.mmu h.pages, C13.F20_F7, clock_Right_def, Option.bind_some, bus_lines m (by omega)]
  by_cases h3 : C08.Rt m.mem m.bad
  · by_cases h4 : C09.Rt m.mmu
    · by_cases h5 : RtC m.clock
      · simp only [h3, h4, h5, decide_true, Bool.not_true, Bool.false_eq_true, if_false]
        by_cases h2 : ∀ x ∈ m.lines, C14.Rt x
        · rw [if_pos h2]
          simp only [Sum.isLeft_inr, Bool.false_eq_true, if_false, Sum.getRight?_inr, Option.bind_some, C16.diskctl_Right_def m.disk (show m.disk.drive.bad.length ≤ 9223372036854775807 by omega), C17.tape_Right_def m.tape (show m.tape.records.length ≤ 9223372036854775807 by omega)]
          by_cases h6 : C16.RtK m.disk
          · have : RtM m ↔ C17.RtT m.tape := ⟨fun h => h.2.2.2.2.2.2, fun h => ⟨by omega, h2, h3, h4, h5, h6, h⟩⟩
            simp [h6, this]
          · have : ¬ RtM m := fun h => h6 h.2.2.2.2.2.1
            simp [h6, this]
        · rw [if_neg h2]
          have : ¬ RtM m := fun h => h2 h.2.1
          simp [this]
      · have : ¬ RtM m := fun h => h5 h.2.2.2.2.1
        simp [h3, h4, h5, this]
    · have : ¬ RtM m := fun h => h4 h.2.2.2.1
      simp [h3, h4, this]
  · have : ¬ RtM m := fun h => h3 h.2.2.1
    simp [h3, this]
theorem SameLines_self (l : List Line) (hl : l.length ≤ 100000) : ref23_SameLines none l l = some true := by
  have hc := lim_count (f := fun s => (Wref23_SameLines_0 s).run) (fun i : Nat => ⟨l, l, (i : Int)⟩) l.length (fun i hi => by
    simp [Wref23_SameLines_0, Tree.run, hi, wrap_succ hi (show l.length ≤ 9223372036854775807 by omega)]) 0 (Nat.zero_le _)
  have hd : Lref23_SameLines_0 none ⟨l, l, ((l.length : Nat) : Int)⟩ = some (.inr ()) := lim_done (by simp [Wref23_SameLines_0, Tree.run])
  have h : Lref23_SameLines_0 none ⟨l, l, (0 : Int)⟩ = some (.inr ()) := hc.trans hd
  simp [ref23_SameLines, Tref23_SameLines, Tree.run, h]
theorem SameDisk_self (k : Disk) (h1 : k.drive.sectors.length ≤ 100000) (h2 : k.drive.bad.length ≤ 100000) : ref23_SameDisk none k k = some true := by
  simp [ref23_SameDisk, Tref23_SameDisk, Tree.run, C17.SameTexts_def k.drive.sectors k.drive.sectors (by omega), C08.Same_def k.drive.bad k.drive.bad (by omega)]
structure Fin2 (m : Machine) : Prop where
  mem : m.mem.length ≤ 100000
  bad : m.bad.length ≤ 100000
  lines : m.lines.length ≤ 100000
  secs : m.disk.drive.sectors.length ≤ 100000
  dbad : m.disk.drive.bad.length ≤ 100000
  recs : m.tape.records.length ≤ 100000
theorem diff13 : Lref23_Diff_0 none (Sref23_Diff_0.mk (0 : Int) ([[67, 112, 117], [77, 101, 109], [66, 97, 100], [77, 109, 117], [67, 108, 111, 99, 107], [76, 105, 110, 101, 115], [68, 105, 115, 107], [84, 97, 112, 101], [78, 111, 119], [72, 97, 108, 116, 101, 100], [87, 97, 105, 116, 105, 110, 103], [80, 111, 119, 101, 114], [80, 111, 119, 101, 114, 84, 114, 97, 112]]) ([true, true, true, true, true, true, true, true, true, true, true, true, true]) ([])) = some [] :=
  leLref23_Diff_0 20 _ _ (by kernel_rfl)
theorem Same_self (m : Machine) (h : Fin2 m) : ref23_Same none m m = some true := by
  have e1 := C08.Same_def m.mem m.mem (by have := h.mem; omega)
  have e2 := C08.Same_def m.bad m.bad (by have := h.bad; omega)
  have e3 := SameLines_self m.lines h.lines
  have e4 := SameDisk_self m.disk h.secs h.dbad
  have e5 := C17.Same_self m.tape (by have := h.recs; omega)
  simp only [ref23_Same, Tref23_Same, ref23_Diff, Tref23_Diff, Tree.run, e1, e2, e3, e4, e5, Option.bind_some, decide_true, beq_self_eq_true, Bool.and_true, diff13, List.length_nil]
  rfl
end Go.Proofs.YtfdndagnolbnhaaGreat
end
section
set_option linter.unusedSimpArgs false
set_option linter.unusedVariables false
namespace Go.Proofs.YtfdndagnolbnhaaGreat
open Go Go.Ab
/-- a machine of which the laws speak -/
structure OkM (m : Machine) : Prop where
  rt : RtM m
  pages : m.mmu.pages.length = 16
  mem : m.mem.length ≤ 2048
  bad : m.bad.length ≤ 64
  secs : m.disk.drive.sectors.length ≤ 256
  dbad : m.disk.drive.bad.length ≤ 256
theorem OkM.recs {m : Machine} (h : OkM m) : m.tape.records.length ≤ 64 := h.rt.2.2.2.2.2.2.1
theorem OkM.fin {m : Machine} (h : OkM m) : Fin m := ⟨h.pages, by have := h.mem; omega, by have := h.bad; omega, by have := h.dbad; omega, by have := h.recs; omega⟩
theorem OkM.fin2 {m : Machine} (h : OkM m) : Fin2 m := ⟨by have := h.mem; omega, by have := h.bad; omega, by have := h.rt.1; omega, by have := h.secs; omega, by have := h.dbad; omega, by have := h.recs; omega⟩
theorem OkM.right {m : Machine} (h : OkM m) : bus_Right none m = some true := by
  rw [bus_Right_def m h.fin]
  simp [h.rt]
theorem OkM.same {m : Machine} (h : OkM m) : ref23_Same none m m = some true := Same_self m h.fin2
theorem OkM.withLines {m : Machine} (h : OkM m) {ls : List Line} (hl : ls.length ≤ 4) (hr : ∀ l ∈ ls, C14.Rt l) : OkM { m with lines := ls } :=
  ⟨⟨hl, hr, h.rt.2.2⟩, h.pages, h.mem, h.bad, h.secs, h.dbad⟩
theorem OkM.withClock {m : Machine} (h : OkM m) {c : Clock} (hc : RtC c) : OkM { m with clock := c } :=
  ⟨⟨h.rt.1, h.rt.2.1, h.rt.2.2.1, h.rt.2.2.2.1, hc, h.rt.2.2.2.2.2⟩, h.pages, h.mem, h.bad, h.secs, h.dbad⟩
theorem OkM.withDisk {m : Machine} (h : OkM m) {k : Disk} (hk : C16.RtK k) (h1 : k.drive.sectors.length ≤ 256) (h2 : k.drive.bad.length ≤ 256) : OkM { m with disk := k } :=
  ⟨⟨h.rt.1, h.rt.2.1, h.rt.2.2.1, h.rt.2.2.2.1, h.rt.2.2.2.2.1, hk, h.rt.2.2.2.2.2.2⟩, h.pages, h.mem, h.bad, h1, h2⟩
theorem OkM.withTape {m : Machine} (h : OkM m) {t : Tape} (ht : C17.RtT t) : OkM { m with tape := t } :=
  ⟨⟨h.rt.1, h.rt.2.1, h.rt.2.2.1, h.rt.2.2.2.1, h.rt.2.2.2.2.1, h.rt.2.2.2.2.2.1, ht⟩, h.pages, h.mem, h.bad, h.secs, h.dbad⟩
theorem OkM.withMmu {m : Machine} (h : OkM m) {u : Mmu} (hr : C09.Rt u) (hp : u.pages.length = 16) : OkM { m with mmu := u } :=
  ⟨⟨h.rt.1, h.rt.2.1, h.rt.2.2.1, hr, h.rt.2.2.2.2⟩, hp, h.mem, h.bad, h.secs, h.dbad⟩
theorem set_rt {ls : List Line} {i : Nat} {l : Line} (h : ∀ x ∈ ls, C14.Rt x) (hl : C14.Rt l) : ∀ x ∈ ls.set i l, C14.Rt x := fun x hx => by
  rcases List.mem_or_eq_of_mem_set hx with hx | rfl
  · exact h x hx
  · exact hl
theorem withLine_at (z : Machine) (i : Nat) (l : Line) (hi : i < z.lines.length) (hl : z.lines.length ≤ 4) : bus_withLine z (i : Int) l = some { z with lines := z.lines.set i l } := by
  have hc : cloneF 56 z.lines = some z.lines := by unfold cloneF; rw [if_pos (by omega)]
  have h1 : (0 : Int) ≤ (i : Int) := by omega
  have h2 : (i : Int) < (z.lines.length : Int) := by omega
  have h3 := List.getElem?_eq_getElem hi
  simp only [bus_withLine, Tbus_withLine, Tree.run, hc, Option.bind_some, h1, h2, h3, decide_true, if_true, Int.toNat_natCast]
/-- all lines, one after the other -/
theorem run_lines (f : Kind → Machine → Option Machine) (g : Line → Line) (m : Machine)
    (hf : ∀ (ls : List Line) (i : Nat) (hi : i < ls.length) (hj : i < m.lines.length), ls.length = m.lines.length → ls[i] = m.lines[i] → f (.line i) { m with lines := ls } = some { m with lines := ls.set i (g ls[i]) }) :
    ∀ k, k ≤ m.lines.length → runK f ((List.range k).map .line) m = some { m with lines := (m.lines.take k).map g ++ m.lines.drop k } := by
  intro k
  induction k with
  | zero => intro _; rfl
  | succ k ih =>
    intro hk
    have hA : ((m.lines.take k).map g).length = k := by simp; omega
    have e1 : m.lines.drop k = m.lines[k] :: m.lines.drop (k + 1) := List.drop_eq_getElem_cons (by omega)
    rw [List.range_succ, List.map_append, runK_app, ih (by omega), Option.bind_some, e1]
    simp only [List.map_cons, List.map_nil, runK]
    have hg : ((m.lines.take k).map g ++ m.lines[k] :: m.lines.drop (k + 1))[k]? = some m.lines[k] := by
      rw [List.getElem?_append_right (by omega), hA]; simp
    have hlen : ((m.lines.take k).map g ++ m.lines[k] :: m.lines.drop (k + 1)).length = m.lines.length := by
      rw [List.length_append, hA, List.length_cons, List.length_drop]; omega
    have hg2 : ((m.lines.take k).map g ++ m.lines[k] :: m.lines.drop (k + 1))[k]'(by rw [hlen]; omega) = m.lines[k] := by
      rw [List.getElem?_eq_getElem (by rw [hlen]; omega)] at hg
      exact Option.some.inj hg
    rw [hf _ k (by rw [hlen]; omega) (by omega) hlen hg2, hg2, List.set_append_right _ _ (by omega), hA]
    simp only [Option.bind_some, Nat.sub_self, List.set_cons_zero]
    rw [show m.lines.take (k + 1) = m.lines.take k ++ [m.lines[k]] by rw [List.take_add_one, List.getElem?_eq_getElem (by omega)]; rfl, List.map_append, List.append_assoc]
    rfl
theorem run_all_lines (f : Kind → Machine → Option Machine) (g : Line → Line) (m : Machine)
    (hf : ∀ (ls : List Line) (i : Nat) (hi : i < ls.length) (hj : i < m.lines.length), ls.length = m.lines.length → ls[i] = m.lines[i] → f (.line i) { m with lines := ls } = some { m with lines := ls.set i (g ls[i]) }) :
    runK f ((List.range m.lines.length).map .line) m = some { m with lines := m.lines.map g } := by
  rw [run_lines f g m hf m.lines.length (Nat.le_refl _), List.take_length, List.drop_length, List.append_nil]
theorem kinds_true {n : Nat} {d : Kind} (h : d ∈ kindsOf n true) : d = .clock ∨ d = .disk ∨ d = .tape ∨ ∃ i, i < n ∧ d = .line i := by
  simp [kindsOf] at h
  rcases h with rfl | rfl | rfl | ⟨i, hi, rfl⟩
  · exact .inl rfl
  · exact .inr (.inl rfl)
  · exact .inr (.inr (.inl rfl))
  · exact .inr (.inr (.inr ⟨i, hi, rfl⟩))
end Go.Proofs.YtfdndagnolbnhaaGreat
end
section
set_option linter.unusedSimpArgs false
set_option linter.unusedVariables false
namespace Go.Proofs.YtfdndagnolbnhaaGreat
open Go Go.Ab
/-- a function of all devices, each of which turns what is its own -/
theorem turn_all (f : Kind → Machine → Option Machine) (g : Line → Line) (m : Machine) (c : Clock) (k : Disk) (t : Tape) (hc : f .clock m = some { m with clock := c }) (hk : f .disk { m with clock := c } = some { m with clock := c, disk := k })
    (ht : f .tape { m with clock := c, disk := k } = some { m with clock := c, disk := k, tape := t })
    (hl : ∀ (ls : List Line) (i : Nat) (hi : i < ls.length) (hj : i < m.lines.length), ls.length = m.lines.length → ls[i] = m.lines[i] → f (.line i) { m with clock := c, disk := k, tape := t, lines := ls } = some { m with clock := c, disk := k, tape := t, lines := ls.set i (g ls[i]) }) :
    runK f (kindsOf m.lines.length true) m = some { m with clock := c, disk := k, tape := t, lines := m.lines.map g } := by
  have e2 := run_all_lines f g { m with clock := c, disk := k, tape := t } hl
  show runK f ([.clock] ++ [.disk, .tape] ++ (List.range m.lines.length).map .line ++ []) m = _
  rw [List.append_nil, runK_app]
  simp only [List.cons_append, List.nil_append, runK, hc, hk, ht, Option.bind_some]
  exact e2
theorem clock_accept {c : Clock} (h : RtC c) (v : Int) : ∃ c', clock_Accept c v = some c' ∧ ref13_Accept c v = some c' ∧ RtC c' := by
  have hr : ∃ c', ref13_Accept c v = some c' ∧ RtC c' := by
    simp only [ref13_Accept, Tref13_Accept, Tree.run]
    by_cases hv : v = 64
    · exact ⟨⟨c.enable, false, c.period, c.left⟩, by simp [hv], h⟩
    · exact ⟨c, by simp [hv], h⟩
  obtain ⟨c', e1, e2⟩ := hr
  exact ⟨c', by rw [C13.F16_F17]; exact e1, e1, e2⟩
theorem accept16_drive (k : Disk) (v : Int) : (C16.accept16 k v).drive = k.drive := by
  unfold C16.accept16
  split <;> rfl
theorem acceptT_right {t : Tape} (h : C17.RtT t) (v : Int) : C17.RtT (C17.acceptT t v) := h
theorem resetT_right {t : Tape} (h : C17.RtT t) : C17.RtT (C17.resetT t) := by
  obtain ⟨h1, h2, h3, h4, h5, h6, h7, h8⟩ := h
  exact ⟨h1, h2, h3, ⟨by simp [C17.resetT], by simp [C17.resetT]⟩, h5, h6, ⟨by simp [C17.resetT], by simp [C17.resetT]⟩, by simp [C17.resetT]⟩
def resetL (l : Line) : Line := { l with rxEnable := false, rxReady := false, overrun := false, txEnable := false, txReady := true, txLeft := 0 }
theorem resetL_right {l : Line} (h : C14.Rt l) : C14.Rt (resetL l) := by
  obtain ⟨h1, h2, h3, h4, h5⟩ := h
  exact ⟨h1, h2, ⟨by simp [resetL], by simp [resetL]⟩, by simp [resetL], h5⟩
def idL (l : Line) : Line := l
theorem line_accept {z : Machine} {i : Nat} (v : Int) (hi : i < z.lines.length) (h4 : z.lines.length ≤ 4) : acceptK v (.line i) z = some { z with lines := z.lines.set i (idL z.lines[i]) } := by
  have h1 : (0 : Int) ≤ (i : Int) := by omega
  show bus_theLine_3 z v (i : Int) = _
  simp only [bus_theLine_3, Tbus_theLine_3, Tree.run, h1, List.getElem?_eq_getElem hi, decide_true, if_true, Int.toNat_natCast, Option.bind_some, C14.Accept_def, withLine_at z i _ hi h4, idL]
theorem line_reset {z : Machine} {i : Nat} (hi : i < z.lines.length) (h4 : z.lines.length ≤ 4) : resetK (.line i) z = some { z with lines := z.lines.set i (resetL z.lines[i]) } := by
  have h1 : (0 : Int) ≤ (i : Int) := by omega
  show bus_theLine_4 z (i : Int) = _
  simp only [bus_theLine_4, Tbus_theLine_4, Tree.run, h1, List.getElem?_eq_getElem hi, decide_true, if_true, Int.toNat_natCast, Option.bind_some, C14.Reset_def, withLine_at z i _ hi h4, resetL]
theorem acc_clock {z : Machine} {v : Int} {c : Clock} (e : clock_Accept z.clock v = some c) : acceptK v .clock z = some { z with clock := c } := by
  show bus_theClock_4 z v () = _
  simp only [bus_theClock_4, Tbus_theClock_4, Tree.run, e, Option.bind_some, bus_theClock_1, Tbus_theClock_1]
theorem acc_disk (z : Machine) (v : Int) : acceptK v .disk z = some { z with disk := C16.accept16 z.disk v } := by
  show bus_theDisk_4 z v () = _
  simp only [bus_theDisk_4, Tbus_theDisk_4, Tree.run, (C16.Accept16_def z.disk v).1, Option.bind_some, bus_theDisk_1, Tbus_theDisk_1]
theorem acc_tape (z : Machine) (v : Int) : acceptK v .tape z = some { z with tape := C17.acceptT z.tape v } := by
  show bus_theTape_4 z v () = _
  simp only [bus_theTape_4, Tbus_theTape_4, Tree.run, C17.Accept_def, Option.bind_some, bus_theTape_1, Tbus_theTape_1]
theorem res_clock (z : Machine) : resetK .clock z = some { z with clock := ⟨false, false, z.clock.period, z.clock.period⟩ } := by
  show bus_theClock_5 z () = _
  simp only [bus_theClock_5, Tbus_theClock_5, Tree.run, clock_Reset, Tclock_Reset, Option.bind_some, bus_theClock_1, Tbus_theClock_1]
theorem res_disk (z : Machine) : resetK .disk z = some { z with disk := C16.reset16 z.disk } := by
  show bus_theDisk_5 z () = _
  simp only [bus_theDisk_5, Tbus_theDisk_5, Tree.run, (C16.Reset16_def z.disk).1, Option.bind_some, bus_theDisk_1, Tbus_theDisk_1]
theorem res_tape (z : Machine) : resetK .tape z = some { z with tape := C17.resetT z.tape } := by
  show bus_theTape_5 z () = _
  simp only [bus_theTape_5, Tbus_theTape_5, Tree.run, C17.Reset_def, Option.bind_some, bus_theTape_1, Tbus_theTape_1]
theorem resC_right {c : Clock} (h : RtC c) : RtC ⟨false, false, c.period, c.period⟩ := ⟨h.1, h.1.1, Int.le_refl _⟩
theorem accept_one {n : Nat} (v : Int) (d : Kind) (hd : d = .clock ∨ d = .disk ∨ d = .tape ∨ ∃ i, i < n ∧ d = .line i) (z : Machine) (h : OkM z ∧ z.lines.length = n) : ∃ z', acceptK v d z = some z' ∧ OkM z' ∧ z'.lines.length = n := by
  obtain ⟨h, hn⟩ := h
  rcases hd with rfl | rfl | rfl | ⟨i, hi, rfl⟩
  · obtain ⟨c, e1, e2, e3⟩ := clock_accept h.rt.2.2.2.2.1 v
    exact ⟨_, acc_clock e1, h.withClock e3, hn⟩
  · exact ⟨_, acc_disk z v, h.withDisk (C16.accept_right h.rt.2.2.2.2.2.1 v) (by rw [accept16_drive]; exact h.secs) (by rw [accept16_drive]; exact h.dbad), hn⟩
  · exact ⟨_, acc_tape z v, h.withTape (acceptT_right h.rt.2.2.2.2.2.2 v), hn⟩
  · have hi2 : i < z.lines.length := by omega
    have hr := h.rt.2.1 _ (List.getElem_mem hi2)
    exact ⟨_, line_accept v hi2 h.rt.1, h.withLines (by rw [List.length_set]; exact h.rt.1) (set_rt h.rt.2.1 hr), by show (z.lines.set i _).length = n; rw [List.length_set]; exact hn⟩
theorem reset_one {n : Nat} (d : Kind) (hd : d = .clock ∨ d = .disk ∨ d = .tape ∨ ∃ i, i < n ∧ d = .line i) (z : Machine) (h : OkM z ∧ z.lines.length = n) : ∃ z', resetK d z = some z' ∧ OkM z' ∧ z'.lines.length = n := by
  obtain ⟨h, hn⟩ := h
  rcases hd with rfl | rfl | rfl | ⟨i, hi, rfl⟩
  · exact ⟨_, res_clock z, h.withClock (resC_right h.rt.2.2.2.2.1), hn⟩
  · exact ⟨_, res_disk z, h.withDisk (C16.reset_right h.rt.2.2.2.2.2.1) h.secs h.dbad, hn⟩
  · exact ⟨_, res_tape z, h.withTape (resetT_right h.rt.2.2.2.2.2.2), hn⟩
  · have hi2 : i < z.lines.length := by omega
    have hr := h.rt.2.1 _ (List.getElem_mem hi2)
    exact ⟨_, line_reset hi2 h.rt.1, h.withLines (by rw [List.length_set]; exact h.rt.1) (set_rt h.rt.2.1 (resetL_right hr)), by show (z.lines.set i _).length = n; rw [List.length_set]; exact hn⟩
theorem accept_sure {m : Machine} (h : OkM m) (v : Int) : Sure (acceptK v) (kindsOf m.lines.length true) m :=
  ⟨fun z => OkM z ∧ z.lines.length = m.lines.length, ⟨h, rfl⟩, fun d hd z hz => accept_one v d (kinds_true hd) z hz⟩
theorem reset_sure {m : Machine} (h : OkM m) : Sure resetK (kindsOf m.lines.length true) m :=
  ⟨fun z => OkM z ∧ z.lines.length = m.lines.length, ⟨h, rfl⟩, fun d hd z hz => reset_one d (kinds_true hd) z hz⟩
theorem ref_accept_lines (s : Sref18_Accept_0) (h4 : s.b0.lines.length ≤ 4) : ∃ r, Lref18_Accept_0 none { s with t6 := 0, b2 := [] } = some r ∧ r.1 = s.b0 ∧ r.2.2.2.2.2.2.2.2.2.2.2.2.2.2.2.2.2.2.2.2.2.2.2.2.2.2.2.2.2.2.2.2.2.2.2.2.1 = s.b0.lines.map idL := by
  have hc := lim_count (f := fun s => (Wref18_Accept_0 s).run) (fun i : Nat => { s with t6 := (i : Int), b2 := (s.b0.lines.take i).map idL }) s.b0.lines.length (fun i hi => by
    have k1 : (i : Int) < (s.b0.lines.length : Int) := by omega
    have k2 : (0 : Int) ≤ (i : Int) := by omega
    have g := List.getElem?_eq_getElem hi
    have hl : ((s.b0.lines.take i).map idL).length = i := by simp; omega
    have k3 : (((s.b0.lines.take i).map idL).length + [idL s.b0.lines[i]].length) * 56 ≤ 140737488355328 := by rw [hl]; simp only [List.length_cons, List.length_nil]; omega
    have k4 : ref14_Accept s.b0.lines[i] (i : Int) s.t1 = some (idL s.b0.lines[i]) := rfl
    simp only [Wref18_Accept_0, Tree.run, k1, k2, g, k3, k4, decide_true, if_true, Int.toNat_natCast, Option.bind_some, wrap_succ hi (show s.b0.lines.length ≤ 9223372036854775807 by omega)]
    rw [take_one_more hi, List.map_append]
    rfl) 0 (Nat.zero_le _)
  have k1 : ¬ (s.b0.lines.length : Int) < (s.b0.lines.length : Int) := by omega
  have hd : ∃ r, (Wref18_Accept_0 { s with t6 := (s.b0.lines.length : Int), b2 := s.b0.lines.map idL }).run = some (.inr r) ∧ r.1 = s.b0 ∧ r.2.2.2.2.2.2.2.2.2.2.2.2.2.2.2.2.2.2.2.2.2.2.2.2.2.2.2.2.2.2.2.2.2.2.2.2.1 = s.b0.lines.map idL := by
    simp only [Wref18_Accept_0, Tree.run, k1, decide_false, Bool.false_eq_true, if_false]
    exact ⟨_, rfl, rfl, rfl⟩
  obtain ⟨r, e1, e2, e3⟩ := hd
  rw [List.take_length] at hc
  exact ⟨r, hc.trans (lim_done (f := fun s => (Wref18_Accept_0 s).run) e1), e2, e3⟩
theorem ref_reset_lines (s : Sref18_Reset_0) (h4 : s.b0.lines.length ≤ 4) : ∃ r, Lref18_Reset_0 none { s with t4 := 0, b2 := [] } = some r ∧ r.1 = s.b0 ∧ r.2.2.2.2.2.2.2.2.2.2.2.2.2.2.2.2.2.2.2.2.2.2.2.2.2.2.2.2.2.2.2.2.2.2.2.2.1 = s.b0.lines.map resetL := by
  have hc := lim_count (f := fun s => (Wref18_Reset_0 s).run) (fun i : Nat => { s with t4 := (i : Int), b2 := (s.b0.lines.take i).map resetL }) s.b0.lines.length (fun i hi => by
    have k1 : (i : Int) < (s.b0.lines.length : Int) := by omega
    have k2 : (0 : Int) ≤ (i : Int) := by omega
    have g := List.getElem?_eq_getElem hi
    have hl : ((s.b0.lines.take i).map resetL).length = i := by simp; omega
    have k3 : (((s.b0.lines.take i).map resetL).length + [resetL s.b0.lines[i]].length) * 56 ≤ 140737488355328 := by rw [hl]; simp only [List.length_cons, List.length_nil]; omega
    have k4 : ref14_Reset s.b0.lines[i] = some (resetL s.b0.lines[i]) := rfl
    simp only [Wref18_Reset_0, Tree.run, k1, k2, g, k3, k4, decide_true, if_true, Int.toNat_natCast, Option.bind_some, wrap_succ hi (show s.b0.lines.length ≤ 9223372036854775807 by omega)]
    rw [take_one_more hi, List.map_append]
    rfl) 0 (Nat.zero_le _)
  have k1 : ¬ (s.b0.lines.length : Int) < (s.b0.lines.length : Int) := by omega
  have hd : ∃ r, (Wref18_Reset_0 { s with t4 := (s.b0.lines.length : Int), b2 := s.b0.lines.map resetL }).run = some (.inr r) ∧ r.1 = s.b0 ∧ r.2.2.2.2.2.2.2.2.2.2.2.2.2.2.2.2.2.2.2.2.2.2.2.2.2.2.2.2.2.2.2.2.2.2.2.2.1 = s.b0.lines.map resetL := by
    simp only [Wref18_Reset_0, Tree.run, k1, decide_false, Bool.false_eq_true, if_false]
    exact ⟨_, rfl, rfl, rfl⟩
  obtain ⟨r, e1, e2, e3⟩ := hd
  rw [List.take_length] at hc
  exact ⟨r, hc.trans (lim_done (f := fun s => (Wref18_Reset_0 s).run) e1), e2, e3⟩
/-- an interrupt accepted, by both -/
theorem accept_both {m : Machine} (h : OkM m) (v : Int) : ∃ y, bus_Accept none m v = some y ∧ ref18_Accept none m v = some y ∧ OkM y := by
  have h4 := h.rt.1
  obtain ⟨c, c1, c2, c3⟩ := clock_accept h.rt.2.2.2.2.1 v
  refine ⟨{ m with clock := c, disk := C16.accept16 m.disk v, tape := C17.acceptT m.tape v, lines := m.lines.map idL }, ?_, ?_, ?_⟩
  · unfold bus_Accept
    rw [if_pos ⟨by omega, accept_sure h v⟩]
    exact turn_all (acceptK v) idL m c _ _ (acc_clock c1) (acc_disk _ v) (acc_tape _ v) (fun ls i hi hj hl he => line_accept (z := { m with clock := c, disk := C16.accept16 m.disk v, tape := C17.acceptT m.tape v, lines := ls }) v hi (by show ls.length ≤ 4; omega))
  · obtain ⟨r, r1, r2, r3⟩ := ref_accept_lines (Sref18_Accept_0.mk v (0 : Int) { m with clock := c, disk := C16.accept16 m.disk v, tape := C17.acceptT m.tape v } (List.replicate 6 (0 : Int)) (List.replicate 2 (0 : Int)) 0 0 false (List.replicate 16 (Page.mk (0 : Int) (0 : Int) (0 : Int) false)) 0 0 false false 0 0 false false false 0 0 0 0 0 0 false false false false false 0 0 0 0 0 false false 0 false ([]) ([]) ([]) ([]) ([]) ([]) ([])) h4
    simp only [ref18_Accept, Tref18_Accept, Tree.run, c2, (C16.Accept16_def m.disk v).2, C17.ref_Accept_def, Option.bind_some]
    rw [show Lref18_Accept_0 none _ = some r from r1]
    simp only [Option.bind_some, r2, r3]
  · have hA := h.withClock c3
    have hB := hA.withDisk (C16.accept_right h.rt.2.2.2.2.2.1 v) (by rw [accept16_drive]; exact h.secs) (by rw [accept16_drive]; exact h.dbad)
    have hC := hB.withTape (acceptT_right h.rt.2.2.2.2.2.2 v)
    exact hC.withLines (ls := m.lines.map idL) (by rw [List.length_map]; exact h4) (fun l hl => by
      obtain ⟨x, hx, rfl⟩ := List.mem_map.1 hl
      exact h.rt.2.1 x hx)
theorem mmu0_right (u : Mmu) : C09.Rt (Mmu.mk false (List.replicate 16 (Page.mk (0 : Int) (0 : Int) (0 : Int) false)) 0 0) := by
  refine ⟨fun p hp => ?_, ⟨by decide, by decide⟩, ⟨by decide, by decide⟩⟩
  rw [List.eq_of_mem_replicate hp]
  unfold C09.OkPage
  decide
/-- a reset, by both -/
theorem reset_both {m : Machine} (h : OkM m) : ∃ y, bus_Reset none m = some y ∧ ref18_Reset none m = some y ∧ OkM y := by
  have h4 := h.rt.1
  refine ⟨{ m with clock := ⟨false, false, m.clock.period, m.clock.period⟩, disk := C16.reset16 m.disk, tape := C17.resetT m.tape, lines := m.lines.map resetL, mmu := Mmu.mk false (List.replicate 16 (Page.mk (0 : Int) (0 : Int) (0 : Int) false)) 0 0 }, ?_, ?_, ?_⟩
  · unfold bus_Reset
    rw [if_pos ⟨by omega, reset_sure h⟩]
    rw [turn_all resetK resetL m _ _ _ (res_clock _) (res_disk _) (res_tape _) (fun ls i hi hj hl he => line_reset (z := { m with clock := ⟨false, false, m.clock.period, m.clock.period⟩, disk := C16.reset16 m.disk, tape := C17.resetT m.tape, lines := ls }) hi (by show ls.length ≤ 4; omega))]
    rfl
  · obtain ⟨r, r1, r2, r3⟩ := ref_reset_lines (Sref18_Reset_0.mk (0 : Int) { m with clock := ⟨false, false, m.clock.period, m.clock.period⟩, disk := C16.reset16 m.disk, tape := C17.resetT m.tape, mmu := Mmu.mk false (List.replicate 16 (Page.mk (0 : Int) (0 : Int) (0 : Int) false)) 0 0 } (List.replicate 6 (0 : Int)) (List.replicate 2 (0 : Int)) 0 0 false (List.replicate 16 (Page.mk (0 : Int) (0 : Int) (0 : Int) false)) 0 0 false false 0 0 false false false 0 0 0 0 0 0 false false false false false 0 0 0 0 0 false false 0 false ([]) ([]) ([]) ([]) ([]) ([]) ([])) h4
    simp only [ref18_Reset, Tref18_Reset, Tree.run, ref13_Reset, Tref13_Reset, ref09_Reset, Tref09_Reset, (C16.Reset16_def m.disk).2, C17.ref_Reset_def, Option.bind_some]
    rw [show Lref18_Reset_0 none _ = some r from r1]
    simp only [Option.bind_some, r2, r3]
  · have hA := h.withClock (resC_right h.rt.2.2.2.2.1)
    have hB := hA.withDisk (C16.reset_right h.rt.2.2.2.2.2.1) h.secs h.dbad
    have hC := hB.withTape (resetT_right h.rt.2.2.2.2.2.2)
    have hD := hC.withLines (ls := m.lines.map resetL) (by rw [List.length_map]; exact h4) (fun l hl => by
      obtain ⟨x, hx, rfl⟩ := List.mem_map.1 hl
      exact resetL_right (h.rt.2.1 x hx))
    exact hD.withMmu (mmu0_right m.mmu) (by simp)
end Go.Proofs.YtfdndagnolbnhaaGreat
end
section
set_option linter.unusedSimpArgs false
set_option linter.unusedVariables false
namespace Go.Proofs.YtfdndagnolbnhaaGreat
open Go Go.Ab
theorem same_requests (l : List Request) (hl : l.length ≤ 100000) : ref18_SameRequests none l l = some true := by
  have hc := lim_count (f := fun s => (Wref18_SameRequests_0 s).run) (fun i : Nat => ⟨l, l, (i : Int)⟩) l.length (fun i hi => by
    have hw : IntKind.wrap .i64 ((i : Int) + 1) = ((i + 1 : Nat) : Int) := by rw [wrap_id] <;> omega
    simp [Wref18_SameRequests_0, Tree.run, hi, hw]) 0 (Nat.zero_le _)
  have hd : Lref18_SameRequests_0 none ⟨l, l, ((l.length : Nat) : Int)⟩ = some (.inr ()) := lim_done (by simp [Wref18_SameRequests_0, Tree.run])
  have h : Lref18_SameRequests_0 none ⟨l, l, (0 : Int)⟩ = some (.inr ()) := hc.trans hd
  simp only [ref18_SameRequests, Tref18_SameRequests, Tree.run, h]
  simp
theorem clock_req (c : Clock) : ∃ r, clock_Requests c = some r ∧ ref13_Requests c = some r ∧ r.length ≤ 2 := by
  rw [C13.F14_F15]
  simp only [ref13_Requests, Tref13_Requests, Tree.run]
  cases c.enable <;> cases c.ready
  · exact ⟨_, rfl, rfl, by simp⟩
  · exact ⟨_, rfl, rfl, by simp⟩
  · exact ⟨_, rfl, rfl, by simp⟩
  · exact ⟨_, rfl, rfl, by simp⟩
theorem tape_req (t : Tape) : ∃ r, tape_Requests t = some r ∧ ref17_Requests t = some r ∧ r.length ≤ 2 := by
  rw [C17.Requests_eq]
  simp only [ref17_Requests, Tref17_Requests, Tree.run]
  cases t.enable <;> cases t.ready
  · exact ⟨_, rfl, rfl, by simp⟩
  · exact ⟨_, rfl, rfl, by simp⟩
  · exact ⟨_, rfl, rfl, by simp⟩
  · exact ⟨_, rfl, rfl, by simp⟩
/-- what line i asks -/
noncomputable def lineR (m : Machine) (i : Nat) : List Request := if h : i < m.lines.length then ((line_Requests m.lines[i] (i : Int)).getD []) else []
theorem line_req (m : Machine) (i : Nat) (h : i < m.lines.length) : line_Requests m.lines[i] (i : Int) = some (lineR m i) ∧ ref14_Requests m.lines[i] (i : Int) = some (lineR m i) ∧ (lineR m i).length ≤ 2 := by
  obtain ⟨r, e1, e2, e3⟩ := C14.Requests_def m.lines[i] (i : Int)
  have hl : lineR m i = r := by unfold lineR; rw [dif_pos h, e1]; rfl
  rw [hl]
  exact ⟨e1, e2, e3⟩
theorem reqK_line (m : Machine) (i : Nat) (h : i < m.lines.length) : reqK (.line i) m = some (lineR m i) := by
  have h1 : (0 : Int) ≤ (i : Int) := by omega
  show bus_theLine_2 m (i : Int) = _
  simp only [bus_theLine_2, Tbus_theLine_2, Tree.run, h1, List.getElem?_eq_getElem h, decide_true, if_true, Int.toNat_natCast, Option.bind_some, (line_req m i h).1]
theorem runR_lines (m : Machine) : ∀ k, k ≤ m.lines.length → runR (fun d => reqK d m) ((List.range k).map .line) = some ((List.range k).flatMap (lineR m)) := by
  intro k
  induction k with
  | zero => intro _; rfl
  | succ k ih =>
    intro hk
    rw [List.range_succ, List.map_append, List.flatMap_append]
    refine runR_app _ _ _ (ih (by omega)) ?_
    simp [runR, reqK_line m k (by omega)]
theorem lines_len (m : Machine) : ∀ k, k ≤ m.lines.length → ((List.range k).flatMap (lineR m)).length ≤ 2 * k := by
  intro k
  induction k with
  | zero => intro _; simp
  | succ k ih =>
    intro hk
    have := ih (by omega)
    have h2 := (line_req m k (by omega)).2.2
    rw [List.range_succ, List.flatMap_append, List.length_append]
    simp only [List.flatMap_cons, List.flatMap_nil, List.append_nil]
    omega
theorem ref_req_lines (m : Machine) (b : List Request) (hb : b.length ≤ 100) (h4 : m.lines.length ≤ 4) : Lref18_Requests_0 none ⟨(0 : Int), m, b⟩ = some (b ++ (List.range m.lines.length).flatMap (lineR m)) := by
  have hc := lim_count (f := fun s => (Wref18_Requests_0 s).run) (fun i : Nat => ⟨(i : Int), m, b ++ (List.range i).flatMap (lineR m)⟩) m.lines.length (fun i hi => by
    have k1 : (i : Int) < (m.lines.length : Int) := by omega
    have k2 : (0 : Int) ≤ (i : Int) := by omega
    have g := List.getElem?_eq_getElem hi
    have hl := lines_len m i (by omega)
    have h2 := (line_req m i hi).2.2
    have k3 : ((b ++ (List.range i).flatMap (lineR m)).length + (lineR m i).length) * 16 ≤ 140737488355328 := by rw [List.length_append]; omega
    simp only [Wref18_Requests_0, Tree.run, k1, k2, g, k3, decide_true, if_true, Int.toNat_natCast, Option.bind_some, (line_req m i hi).2.1, wrap_succ hi (show m.lines.length ≤ 9223372036854775807 by omega)]
    rw [List.range_succ, List.flatMap_append, ← List.append_assoc]
    simp) 0 (Nat.zero_le _)
  have k1 : ¬ (m.lines.length : Int) < (m.lines.length : Int) := by omega
  have hd : Lref18_Requests_0 none ⟨(m.lines.length : Int), m, b ++ (List.range m.lines.length).flatMap (lineR m)⟩ = some (b ++ (List.range m.lines.length).flatMap (lineR m)) := lim_done (by
    simp only [Wref18_Requests_0, Tree.run, k1, decide_false, Bool.false_eq_true, if_false])
  have h : Lref18_Requests_0 none ⟨(0 : Int), m, b ++ (List.range 0).flatMap (lineR m)⟩ = some (b ++ (List.range m.lines.length).flatMap (lineR m)) := hc.trans hd
  rw [List.range_zero, List.flatMap_nil, List.append_nil] at h
  exact h
/-- the requests, by both -/
theorem requests_both {m : Machine} (h : OkM m) : ∃ r, bus_Requests none m = some r ∧ ref18_Requests none m = some r ∧ r.length ≤ 100 := by
  have h4 := h.rt.1
  obtain ⟨r1, c1, c2, c3⟩ := clock_req m.clock
  obtain ⟨r2, d1, d2, d3⟩ := C16.Requests16_eq m.disk
  obtain ⟨r3, t1, t2, t3⟩ := tape_req m.tape
  have hl := lines_len m m.lines.length (Nat.le_refl _)
  have e1 : reqK .clock m = some r1 := by
    show bus_theClock_3 m = _
    simp only [bus_theClock_3, Tbus_theClock_3, Tree.run, c1, Option.bind_some]
  have e2 : reqK .disk m = some r2 := by
    show bus_theDisk_3 m = _
    simp only [bus_theDisk_3, Tbus_theDisk_3, Tree.run, d1, Option.bind_some]
  have e3 : reqK .tape m = some r3 := by
    show bus_theTape_3 m = _
    simp only [bus_theTape_3, Tbus_theTape_3, Tree.run, t1, Option.bind_some]
  refine ⟨r1 ++ r2 ++ r3 ++ (List.range m.lines.length).flatMap (lineR m), ?_, ?_, by simp only [List.length_append]; omega⟩
  · unfold bus_Requests
    rw [if_pos]
    · show runR (fun d => reqK d m) ([.clock] ++ [.disk, .tape] ++ (List.range m.lines.length).map .line ++ []) = _
      rw [List.append_nil]
      refine runR_app _ _ _ ?_ (runR_lines m _ (Nat.le_refl _))
      simp [runR, e1, e2, e3]
    · refine ⟨by omega, fun d hd => ?_⟩
      rcases kinds_true hd with rfl | rfl | rfl | ⟨i, hi, rfl⟩
      · exact ⟨r1, e1, by omega⟩
      · exact ⟨r2, e2, by omega⟩
      · exact ⟨r3, e3, by omega⟩
      · exact ⟨_, reqK_line m i hi, by have := (line_req m i hi).2.2; omega⟩
  · have k1 : (([] : List Request).length + r1.length) * 16 ≤ 140737488355328 := by simp only [List.length_nil]; omega
    have k2 : ((([] : List Request) ++ r1).length + r2.length) * 16 ≤ 140737488355328 := by simp only [List.length_append, List.length_nil]; omega
    have k3 : (((([] : List Request) ++ r1) ++ r2).length + r3.length) * 16 ≤ 140737488355328 := by simp only [List.length_append, List.length_nil]; omega
    have hr := ref_req_lines m (((([] : List Request) ++ r1) ++ r2) ++ r3) (by simp only [List.length_append, List.length_nil]; omega) h4
    simp only [ref18_Requests, Tref18_Requests, Tree.run, c2, d2, t2, k1, k2, k3, decide_true, if_true, Option.bind_some]
    rw [show Lref18_Requests_0 none _ = _ from hr]
    simp
end Go.Proofs.YtfdndagnolbnhaaGreat
end
section
set_option linter.unusedSimpArgs false
set_option linter.unusedVariables false
namespace Go.Proofs.YtfdndagnolbnhaaGreat
open Go Go.Ab
theorem fin_of4 {m : Machine} (h : SmM m) (hp : m.mmu.pages.length = 16) : Fin m := by
  obtain ⟨h1, h2, h3, h4, h5, h6⟩ := h
  exact ⟨hp, by omega, by omega, by omega, by omega⟩
theorem okm_of4 {m : Machine} (h : SmM m) (hp : m.mmu.pages.length = 16) (hr : RtM m) : OkM m := by
  obtain ⟨h1, h2, h3, h4, h5, h6⟩ := h
  exact ⟨hr, hp, h1, h2, h4, h5⟩
theorem pf_law18_BusRequests (x : Machine × Int × Unit) (h : Glaw18_BusRequests x) : law18_BusRequests none x.1 x.2.1 = some true := by
  obtain ⟨m, v, u⟩ := x
  obtain ⟨r, hr, hs⟩ := Small_def m
  have hp : m.mmu.pages.length = 16 := h.1.2.2.2.1.2.1.1
  simp only [law18_BusRequests, Tlaw18_BusRequests, Tree.run, alive_true, hr, Option.bind_some]
  cases r with
  | false => rfl
  | true =>
    have hS := hs rfl
    simp only [Bool.not_true, Bool.false_eq_true, if_false, ref_RightM_def m (fin_of4 hS hp), Option.bind_some]
    by_cases hR : RtM m
    · have ho := okm_of4 hS hp hR
      obtain ⟨y, a1, a2, a3⟩ := accept_both ho v
      obtain ⟨z, r1, r2, r3⟩ := reset_both ho
      obtain ⟨l, q1, q2, q3⟩ := requests_both ho
      simp [hR, a1, a2, a3.same, a3.right, r1, r2, r3.same, r3.right, q1, q2, same_requests l (by omega)]
    · simp [hR]
end Go.Proofs.YtfdndagnolbnhaaGreat
end
