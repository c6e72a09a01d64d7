/- Chapter 17: commands carried out. -/
import Derived.Test.YtjhibcebipjbcaaAbPure17n8
set_option linter.unusedSimpArgs false
set_option linter.unusedVariables false
namespace Go.Proofs.Ytjhibcebipjbcaa
open Go Go.Ab
/-- a unit on which a command was begun, with so many ticks to go -/
def begT (t : Tape) (n k : Int) : Tape := { t with enable := en (2 * n + 1), ready := false, error := false, mark := false, end_ := false, command := n, left := k }
/-- the unit when the command is carried out -/
def doneT (t : Tape) (n : Int) : Tape := { t with enable := en (2 * n + 1), ready := true, error := false, mark := false, end_ := false, command := n, left := 0 }
theorem begT_sm {t : Tape} {s : Store} {n k : Int} (h : Sm t s) (hn : 1 ≤ n ∧ n ≤ 6) (hk : 1 ≤ k ∧ k ≤ 16) : Sm (begT t n k) s := by
  obtain ⟨hm, hb, ⟨h1, h2, h3, h4, h5, h6, h7, h8⟩, hs⟩ := h
  refine ⟨hm, hb, ⟨h1, h2, h3, ⟨by dsimp only [begT]; omega, by dsimp only [begT]; omega⟩, h5, h6, ⟨by dsimp only [begT]; omega, by dsimp only [begT]; omega⟩, ?_⟩, hs⟩
  simp only [begT]
  constructor
  · intro h; cases h
  · intro h; omega
theorem cmdT_beg (t : Tape) (n : Int) (hr : t.ready = true) (hn : 1 ≤ n ∧ n ≤ 6) : cmdT t (2 * n + 1) = begT t n 16 := by
  unfold cmdT begT
  have h1 : ¬ (2 * n + 1) % 2 = 0 := by omega
  have h2 : (2 * n + 1) / 2 % 8 = n := by omega
  have h3 : ¬ (n = 0 ∨ n = 7) := by omega
  rw [if_pos ⟨hr, h1⟩, h2, if_neg h3]
theorem tick_beg (t : Tape) (n k : Int) (m bad : List Int) (hk : 2 ≤ k) : tickM (begT t n k) m bad = (begT t n (k - 1), m, bad) := by
  unfold tickM
  have h1 : ¬ (begT t n k).left = 0 := by show ¬ k = 0; omega
  have h2 : 0 < (begT t n k).left - 1 := by show 0 < k - 1; omega
  rw [if_neg h1, if_pos h2]
  rfl
theorem cmd16_def (t : Tape) (s : Store) (n : Int) (h : Sm t s) (hr : t.ready = true) (hn : 1 ≤ n ∧ n ≤ 6) : law17_command none t s n = some ((tickM (begT t n 1) s.mem s.bad).1, Store.mk (tickM (begT t n 1) s.mem s.bad).2.1 (tickM (begT t n 1) s.mem s.bad).2.2) ∧ Sm (tickM (begT t n 1) s.mem s.bad).1 (Store.mk (tickM (begT t n 1) s.mem s.bad).2.1 (tickM (begT t n 1) s.mem s.bad).2.2) := by
  refine ⟨?_, tick_sm (begT_sm h hn (by omega))⟩
  have hw : IntKind.wrap .i64 ((IntKind.wrap .i64 ((2 : Int) * n)) + (1 : Int)) = 2 * n + 1 := by rw [wrap_id (n := 2 * n) (by omega) (by omega), wrap_id (by omega) (by omega)]
  have hwr : tape_Write t (0 : Int) (2 * n + 1) = some (begT t n 16, true) := by
    rw [tape_Write_def]; unfold writeT; rw [if_pos rfl, cmdT_beg t n hr hn]
  generalize hd1 : Tape.mk ([]) 0 false false false false false 0 0 0 0 = d1
  generalize hd2 : Store.mk ([]) ([]) = d2
  have hc := lim_count (f := fun s => (Wlaw17_command_0 none s).run) (fun i : Nat => ⟨(i : Int), begT t n (16 - (i : Int)), s, d1, d2⟩) 15 (fun i hi => by
    have hs := begT_sm (k := 16 - (i : Int)) h hn (by omega)
    have hlt : (i : Int) < 16 := by omega
    have e : (16 : Int) - (i : Int) - 1 = 16 - ((i + 1 : Nat) : Int) := by omega
    simp only [Wlaw17_command_0, Tree.run, hlt, decide_true, if_true, Tick_def _ s.mem s.bad (fit_of hs) hs.2.2.1.2.2.2.2.2.2.1, tick_beg t n (16 - (i : Int)) s.mem s.bad (by omega), Option.bind_some, wrap_succ (show i < 16 by omega) (show 16 ≤ 9223372036854775807 by omega), e]) 0 (by omega)
  have hs := begT_sm (k := 1) h hn (by omega)
  have hl : Llaw17_command_0 none ⟨((15 : Nat) : Int), begT t n (16 - ((15 : Nat) : Int)), s, d1, d2⟩ = Llaw17_command_0 none ⟨(16 : Int), (tickM (begT t n 1) s.mem s.bad).1, Store.mk (tickM (begT t n 1) s.mem s.bad).2.1 (tickM (begT t n 1) s.mem s.bad).2.2, d1, d2⟩ := by
    refine lim_next ?_
    have e0 : ((15 : Nat) : Int) = 15 := rfl
    have e1 : (16 : Int) - 15 = 1 := rfl
    have e2 : IntKind.wrap .i64 ((15 : Int) + 1) = 16 := by rw [wrap_id (by omega) (by omega)]; rfl
    simp only [Wlaw17_command_0, Tree.run, e0, e1, e2, show (15 : Int) < 16 by omega, decide_true, if_true, Tick_def _ s.mem s.bad (fit_of hs) hs.2.2.1.2.2.2.2.2.2.1, Option.bind_some]
  have hd : Llaw17_command_0 none ⟨(16 : Int), (tickM (begT t n 1) s.mem s.bad).1, Store.mk (tickM (begT t n 1) s.mem s.bad).2.1 (tickM (begT t n 1) s.mem s.bad).2.2, d1, d2⟩ = some ((tickM (begT t n 1) s.mem s.bad).1, Store.mk (tickM (begT t n 1) s.mem s.bad).2.1 (tickM (begT t n 1) s.mem s.bad).2.2, d1, d2) := lim_done (by simp [Wlaw17_command_0, Tree.run])
  have hall : Llaw17_command_0 none ⟨(0 : Int), begT t n 16, s, d1, d2⟩ = some ((tickM (begT t n 1) s.mem s.bad).1, Store.mk (tickM (begT t n 1) s.mem s.bad).2.1 (tickM (begT t n 1) s.mem s.bad).2.2, d1, d2) := (hc.trans hl).trans hd
  simp only [law17_command, Tlaw17_command, Tree.run, hw, hwr, Option.bind_some, hd1, hd2, hall]
theorem beg_done (t : Tape) (n : Int) : ({ begT t n 1 with ready := true, left := (begT t n 1).left - 1 } : Tape) = doneT t n := rfl
theorem tick1 (t : Tape) (m bad : List Int) : tickM (begT t 1 1) m bad = fetchM (doneT t 1) m bad := by
  unfold tickM
  rw [if_neg (show ¬ (begT t 1 1).left = 0 by show ¬ (1 : Int) = 0; omega), if_neg (show ¬ 0 < (begT t 1 1).left - 1 by show ¬ (0 : Int) < 1 - 1; omega), beg_done]
  rfl
theorem tick2 (t : Tape) (m bad : List Int) : tickM (begT t 2 1) m bad = (storeT (doneT t 2) m bad, m, bad) := by
  unfold tickM
  rw [if_neg (show ¬ (begT t 2 1).left = 0 by show ¬ (1 : Int) = 0; omega), if_neg (show ¬ 0 < (begT t 2 1).left - 1 by show ¬ (0 : Int) < 1 - 1; omega), beg_done]
  rfl
theorem tick3 (t : Tape) (m bad : List Int) : tickM (begT t 3 1) m bad = (passT (doneT t 3), m, bad) := by
  unfold tickM
  rw [if_neg (show ¬ (begT t 3 1).left = 0 by show ¬ (1 : Int) = 0; omega), if_neg (show ¬ 0 < (begT t 3 1).left - 1 by show ¬ (0 : Int) < 1 - 1; omega), beg_done]
  rfl
theorem tick4 (t : Tape) (m bad : List Int) : tickM (begT t 4 1) m bad = (backT (doneT t 4), m, bad) := by
  unfold tickM
  rw [if_neg (show ¬ (begT t 4 1).left = 0 by show ¬ (1 : Int) = 0; omega), if_neg (show ¬ 0 < (begT t 4 1).left - 1 by show ¬ (0 : Int) < 1 - 1; omega), beg_done]
  rfl
end Go.Proofs.Ytjhibcebipjbcaa
