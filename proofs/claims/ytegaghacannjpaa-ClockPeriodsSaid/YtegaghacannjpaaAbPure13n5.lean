/- Clock periods: the law of the typed functions holds. -/
import Derived.Test.YtegaghacannjpaaAbPure13
import Derived.Test.YtegaghacannjpaaAbRd13
import Derived.Test.YtegaghacannjpaaAbLim
set_option linter.unusedSimpArgs false
namespace Go.Proofs.Ytegaghacannjpaa
open Go Go.Ab
theorem F21_at (b r : Bool) (p l : Int) (h : 1 ≤ l) (h2 : l ≤ 65535) : clock_Tick ⟨b, r, p, l⟩ = some (if l = 1 then ⟨b, true, p, p⟩ else ⟨b, r, p, l - 1⟩) := by
  have hw : IntKind.wrap .i64 (l - 1) = l - 1 := wrap_id (by omega) (by omega)
  simp only [clock_Tick, Tclock_Tick, Tree.run, hw]
  by_cases h5 : l = 1
  · subst h5; rfl
  · have : ¬ (l - 1 = 0) := by omega
    simp [h5, this]
theorem step5 (p most i : Int) (hp : 1 ≤ p) (hp2 : p ≤ 300) (hi : 1 ≤ i) (hm : i ≤ most) (hm2 : most ≤ 300) :
    (Wlaw13_ClockPeriods_0 ⟨p, most, i, true, false, p, p - (i - 1) % p⟩).run = some (.inl ⟨p, most, i + 1, true, false, p, p - i % p⟩) := by
  have hlo := Int.emod_nonneg (i - 1) (show p ≠ 0 by omega)
  have hhi := Int.emod_lt_of_pos (i - 1) (show 0 < p by omega)
  have hlo' := Int.emod_nonneg i (show p ≠ 0 by omega)
  have hhi' := Int.emod_lt_of_pos i (show 0 < p by omega)
  have htm : i.tmod p = i % p := Int.tmod_eq_emod_of_nonneg (by omega)
  have hw1 : IntKind.wrap .i64 (i + 1) = i + 1 := wrap_id (by omega) (by omega)
  have hw2 : IntKind.wrap .i64 (p - i % p) = p - i % p := wrap_id (by omega) (by omega)
  have hrel : i % p = if (i - 1) % p + 1 = p then 0 else (i - 1) % p + 1 := by
    have e : i = (i - 1) % p + 1 + p * ((i - 1) / p) := by have := Int.emod_add_mul_ediv (i - 1) p; omega
    have e2 : i % p = ((i - 1) % p + 1) % p := by
      conv => lhs; rw [e]
      exact Int.add_mul_emod_self_left _ _ _
    rw [e2]
    split
    · rename_i hq; rw [hq]; exact Int.emod_self
    · exact Int.emod_eq_of_lt (by omega) (by omega)
  simp only [Wlaw13_ClockPeriods_0, Tree.run, F21_at true false p (p - (i - 1) % p) (by omega) (by omega), Option.bind_some, htm, hw1, hw2]
  rw [if_pos (by simpa using hm)]
  by_cases hz : (i - 1) % p + 1 = p
  · rw [if_pos hz] at hrel
    have e1 : p - (i - 1) % p = 1 := by omega
    have h14 : clock_Requests ⟨true, true, p, p⟩ = some [⟨6, 64⟩] := rfl
    have h20 : clock_Right ⟨true, true, p, p⟩ = some true := by rw [F20_F7, F7_def]; simp; omega
    have h16a : clock_Accept ⟨true, true, p, p⟩ 60 = some ⟨true, true, p, p⟩ := rfl
    have h16b : clock_Accept ⟨true, true, p, p⟩ 64 = some ⟨true, false, p, p⟩ := rfl
    have hp0 : ¬ p = 0 := by omega
    simp [e1, h14, h20, h16a, h16b, hrel, hp0]
  · rw [if_neg hz] at hrel
    have e1 : ¬ p - (i - 1) % p = 1 := by omega
    have h14 : ∀ l, clock_Requests ⟨true, false, p, l⟩ = some [] := fun _ => rfl
    have h20 : clock_Right ⟨true, false, p, p - (i - 1) % p - 1⟩ = some true := by rw [F20_F7, F7_def]; simp; omega
    have hp0 : ¬ p = 0 := by omega
    have hne : ¬ i % p = 0 := by omega
    have hl : p - (i - 1) % p - 1 = p - i % p := by omega
    rw [hl] at h20
    simp [e1, h14, hl, h20, hne, hp0]
theorem loop5 (p most : Int) (hp : 1 ≤ p) (hp2 : p ≤ 300) (hm0 : 0 ≤ most) (hm2 : most ≤ 300) :
    Llaw13_ClockPeriods_0 ⟨p, most, 1, true, false, p, p⟩ = some (.inr ()) := by
  have h := lim_count (f := fun s => (Wlaw13_ClockPeriods_0 s).run) (fun k : Nat => ⟨p, most, (k : Int) + 1, true, false, p, p - (k : Int) % p⟩) most.toNat (fun k hk => by
    have := step5 p most (k + 1) hp hp2 (by omega) (by omega) hm2
    rw [show (k : Int) + 1 - 1 = k by omega] at this
    rw [this]
    simp) 0 (Nat.zero_le _)
  have e0 : p - ((0 : Nat) : Int) % p = p := by simp
  unfold Llaw13_ClockPeriods_0
  rw [e0] at h
  refine Eq.trans ?_ (h.trans ?_)
  · rfl
  · apply lim_done
    simp only [Wlaw13_ClockPeriods_0, Tree.run]
    rw [if_neg (by simp; omega)]
theorem pf_law13_ClockPeriods (x : Int × Int × Unit) (h : Glaw13_ClockPeriods x) : law13_ClockPeriods x.1 x.2.1 = some true := by
  obtain ⟨a, b, u⟩ := x
  obtain ⟨⟨h1, h2⟩, ⟨h3, h4⟩, _⟩ := h
  have hmin : IntKind.min .u16 = 0 := rfl
  have hmax : IntKind.max .u16 = 65535 := rfl
  simp only [hmin, hmax] at h1 h2 h3 h4
  have ha : a.tmod 300 = a % 300 := Int.tmod_eq_emod_of_nonneg h1
  have hb : b.tmod 300 = b % 300 := Int.tmod_eq_emod_of_nonneg h3
  have w1 : IntKind.wrap .i64 (a % 300) = a % 300 := wrap_id (by omega) (by omega)
  have w2 : IntKind.wrap .i64 (a % 300 + 1) = a % 300 + 1 := wrap_id (by omega) (by omega)
  have w3 : IntKind.wrap .i64 (b % 300) = b % 300 := wrap_id (by omega) (by omega)
  have h18 : clock_New (a % 300 + 1) = some (⟨false, false, a % 300 + 1, a % 300 + 1⟩, 0) := by
    simp only [clock_New, Tclock_New, Tree.run]
    rw [if_neg (by simp; omega), if_neg (by simp; omega)]
  have h11 : ∀ p, clock_Write ⟨false, false, p, p⟩ 64 = some ⟨true, false, p, p⟩ := fun _ => rfl
  simp only [law13_ClockPeriods, Tlaw13_ClockPeriods, Tree.run, ha, hb, w1, w2, w3, h18, h11, Option.bind_some, loop5 _ _ (show 1 ≤ a % 300 + 1 by omega) (by omega) (show 0 ≤ b % 300 by omega) (by omega), F8_true]
  simp
end Go.Proofs.Ytegaghacannjpaa
