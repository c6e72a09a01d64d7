/- Chapter 13: the laws hold of the typed functions. -/
import Derived.Test.YtegaghacannjpaaAb13
import Derived.Test.YtegaghacannjpaaAbLim
import Derived.Laws.BitsLemmas
set_option linter.unusedSimpArgs false
namespace Go.Proofs.Ytegaghacannjpaa
open Go Go.Ab
theorem F8_true : law13_alive = some true := by kernel_rfl
theorem F7_def (c : Clock) : ref13_Right c = some (decide (1 ≤ c.period) && decide (c.period ≤ 65535) && decide (1 ≤ c.left) && decide (c.left ≤ c.period)) := by
  simp only [ref13_Right, Tref13_Right, Tree.run]
  by_cases h1 : 1 ≤ c.period <;> by_cases h2 : c.period ≤ 65535 <;> by_cases h3 : 1 ≤ c.left <;> simp [h1, h2, h3]
theorem F20_F7 (c : Clock) : clock_Right c = ref13_Right c := rfl
theorem F9_F10 (c : Clock) : clock_Read c = ref13_Read c := rfl
theorem F11_F12 (c : Clock) (v : Int) : clock_Write c v = ref13_Write c v := rfl
theorem F18_F19 (n : Int) : clock_New n = ref13_New n := rfl
theorem F21_F22 (c : Clock) : clock_Tick c = ref13_Tick c := rfl
theorem F14_F15 (c : Clock) : clock_Requests c = ref13_Requests c := by
  simp only [clock_Requests, ref13_Requests, Tclock_Requests, Tref13_Requests, Tree.run]
  cases c.enable <;> cases c.ready <;> rfl
theorem F16_F17 (c : Clock) (v : Int) : clock_Accept c v = ref13_Accept c v := by
  obtain ⟨a, b, p, l⟩ := c
  simp only [clock_Accept, ref13_Accept, Tclock_Accept, Tref13_Accept, Tree.run]
  cases b <;> by_cases hv : v = 64 <;> simp [hv]
theorem F9_some (c : Clock) : ∃ n, clock_Read c = some n := by
  simp only [clock_Read, Tclock_Read, Tree.run]
  cases c.enable <;> cases c.ready <;> exact ⟨_, rfl⟩
theorem F11_some (c : Clock) (v : Int) : ∃ d, clock_Write c v = some d := by
  simp only [clock_Write, Tclock_Write, Tree.run]
  cases c.ready <;> exact ⟨_, rfl⟩
theorem F14_some (c : Clock) : ∃ l, clock_Requests c = some l ∧ (l = [] ∨ l = [⟨6, 64⟩]) := by
  simp only [clock_Requests, Tclock_Requests, Tree.run]
  cases c.enable <;> cases c.ready <;> first | exact ⟨_, rfl, .inl rfl⟩ | exact ⟨_, rfl, .inr rfl⟩
theorem F16_some (c : Clock) (v : Int) : ∃ d, clock_Accept c v = some d := by
  simp only [clock_Accept, Tclock_Accept, Tree.run]
  cases c.ready <;> exact ⟨_, rfl⟩
theorem same_self (l : List Request) (hl : l.length ≤ 100) : law13_same l l = some true := by
  have hc := lim_count (f := fun s => (Wlaw13_same_0 s).run) (fun i : Nat => ⟨l, l, (l.length : Int), (i : Int)⟩) l.length (fun i hi => by
    have hw : IntKind.wrap .i64 ((i : Int) + 1) = ((i + 1 : Nat) : Int) := by rw [IntKind.wrap_i64]; omega
    simp [Wlaw13_same_0, Tree.run, hi, hw]) 0 (Nat.zero_le _)
  have hd : Llaw13_same_0 ⟨l, l, (l.length : Int), ((l.length : Nat) : Int)⟩ = some (.inr ()) := lim_done (by simp [Wlaw13_same_0, Tree.run])
  have h : Llaw13_same_0 ⟨l, l, (l.length : Int), (0 : Int)⟩ = some (.inr ()) := hc.trans hd
  simp only [law13_same, Tlaw13_same, Tree.run, h]
  simp
theorem F13_same (l : List Request) (h : l = [] ∨ l = [⟨6, 64⟩]) : law13_same l l = some true := same_self l (by rcases h with rfl | rfl <;> simp)
theorem law3p (c : Clock) (v : Int) : law13_ClockRegisters c v = some true := by
  obtain ⟨n, hn⟩ := F9_some c
  obtain ⟨d, hd⟩ := F11_some c v
  obtain ⟨l, hl, hll⟩ := F14_some c
  obtain ⟨e, he⟩ := F16_some c v
  simp only [law13_ClockRegisters, Tlaw13_ClockRegisters, Tree.run, F7_def, F8_true, ← F9_F10, ← F11_F12, ← F14_F15, ← F16_F17, hn, hd, hl, he, F13_same l hll, Option.bind_some]
  simp
theorem law4p (c : Clock) (n : Int) : law13_ClockNews c n = some true := by
  have : ∃ p, clock_New n = some p := by
    simp only [clock_New, Tclock_New, Tree.run]
    split
    · exact ⟨_, rfl⟩
    · split <;> exact ⟨_, rfl⟩
  obtain ⟨p, hp⟩ := this
  simp only [law13_ClockNews, Tlaw13_ClockNews, Tree.run, ← F18_F19, hp, F20_F7, F7_def, F8_true, Option.bind_some]
  simp
theorem wrap_id {n : Int} (h1 : -9223372036854775808 ≤ n) (h2 : n ≤ 9223372036854775807) : IntKind.wrap .i64 n = n := by
  rw [IntKind.wrap_i64]; omega
theorem law6p (c : Clock) : law13_ClockTicks c = some true := by
  simp only [law13_ClockTicks, Tlaw13_ClockTicks, Tree.run, F7_def, F8_true, Option.bind_some]
  by_cases hr : (decide (1 ≤ c.period) && decide (c.period ≤ 65535) && decide (1 ≤ c.left) && decide (c.left ≤ c.period)) = true
  · rw [if_neg (by simp [hr])]
    simp only [Bool.and_eq_true, decide_eq_true_eq] at hr
    obtain ⟨⟨⟨h1, h2⟩, h3⟩, h4⟩ := hr
    have hw : IntKind.wrap .i64 (c.left - 1) = c.left - 1 := wrap_id (by omega) (by omega)
    have ht : ∃ d, clock_Tick c = some d ∧ ref13_Right d = some true := by
      simp only [clock_Tick, Tclock_Tick, Tree.run, hw]
      by_cases h5 : c.left - 1 = 0
      · refine ⟨_, by rw [if_pos (by simp [h5])], ?_⟩
        rw [F7_def]; simp; omega
      · refine ⟨_, by rw [if_neg (by simp [h5])], ?_⟩
        rw [F7_def]; simp; omega
    obtain ⟨d, hd, hd7⟩ := ht
    have h23 : clock_Reset c = some ⟨false, false, c.period, c.period⟩ := rfl
    have h24 : ref13_Reset c = some ⟨false, false, c.period, c.period⟩ := rfl
    have h7 : ref13_Right ⟨false, false, c.period, c.period⟩ = some true := by rw [F7_def]; simp; omega
    simp only [← F21_F22, hd, h23, h24, F20_F7, hd7, h7, Option.bind_some]
    simp
  · rw [if_pos (by rw [Bool.not_eq_true] at hr; rw [hr]; rfl)]
end Go.Proofs.Ytegaghacannjpaa
