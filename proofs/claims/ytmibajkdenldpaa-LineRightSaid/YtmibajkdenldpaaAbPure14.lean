/- Chapter 14: what the typed functions of lines come to. -/
import Derived.Test.YtmibajkdenldpaaAb14
import Derived.Test.YtmibajkdenldpaaAbRd14
import Derived.Test.YtmibajkdenldpaaAbLim
import Derived.Test.YtmibajkdenldpaaAbBits
set_option linter.unusedSimpArgs false
namespace Go.Proofs.Ytmibajkdenldpaa
open Go Go.Ab
/-- a valid line -/
def Rt (l : Line) : Prop := (0 ≤ l.rxData ∧ l.rxData ≤ 255) ∧ (0 ≤ l.txData ∧ l.txData ≤ 255) ∧ (0 ≤ l.txLeft ∧ l.txLeft ≤ 4) ∧ (l.txReady = true ↔ l.txLeft = 0) ∧ l.out.length ≤ 4096
instance (l : Line) : Decidable (Rt l) := by unfold Rt; infer_instance
theorem alive_true : law14_alive none = some true := lelaw14_alive 10 true (by kernel_rfl)
theorem isByte_def (x : Int) : line_isByte x = some (decide (0 ≤ x ∧ x ≤ 255)) := by
  simp only [line_isByte, Tline_isByte, Tree.run, and255, mask_fix x 256 (by omega)]
  rw [Option.some.injEq, Bool.eq_iff_iff]
  simp
  omega
theorem ref14_Right_def (l : Line) : ref14_Right l = some (decide (Rt l)) := by
  obtain ⟨a, b, c, rx, e, tr, tx, tl, out⟩ := l
  simp only [ref14_Right, Tref14_Right, Tree.run, Rt, decide_eq_true_eq]
  cases tr
  all_goals repeat' split
  all_goals (rw [Option.some.injEq, Bool.eq_iff_iff]; simp; try omega)
theorem line_Right_def (l : Line) : line_Right l = some (decide (Rt l)) := by
  obtain ⟨a, b, c, rx, e, tr, tx, tl, out⟩ := l
  simp only [line_Right, Tline_Right, Tree.run, Rt, decide_eq_true_eq, isByte_def, Option.bind_some]
  cases tr
  all_goals repeat' split
  all_goals (rw [Option.some.injEq, Bool.eq_iff_iff]; simp_all; try omega)
theorem same_self (l : List Request) (hl : l.length ≤ 100) : ref14_SameRequests none l l = some true := by
  have hc := lim_count (f := fun s => (Wref14_SameRequests_0 s).run) (fun i : Nat => ⟨l, l, (i : Int)⟩) l.length (fun i hi => by
    have hw : IntKind.wrap .i64 ((i : Int) + 1) = ((i + 1 : Nat) : Int) := by rw [wrap_id] <;> omega
    simp [Wref14_SameRequests_0, Tree.run, hi, hw]) 0 (Nat.zero_le _)
  have hd : Lref14_SameRequests_0 none ⟨l, l, ((l.length : Nat) : Int)⟩ = some (.inr ()) := lim_done (by simp [Wref14_SameRequests_0, Tree.run])
  have h : Lref14_SameRequests_0 none ⟨l, l, (0 : Int)⟩ = some (.inr ()) := hc.trans hd
  simp only [ref14_SameRequests, Tref14_SameRequests, Tree.run, h]
  simp
theorem status_eq (a b : Bool) : line_status a b = ref14_bits a b := by cases a <;> cases b <;> kernel_rfl
theorem bits_def (a b : Bool) : ref14_bits a b = some ((if a then 64 else 0) + (if b then 128 else 0)) := by cases a <;> cases b <;> kernel_rfl
theorem status_some (a b : Bool) : ∃ n, ref14_bits a b = some n := ⟨_, bits_def a b⟩
theorem Type_eq (l : Line) (b : Int) : line_Type l b = ref14_Type l b := rfl
theorem Type_some (l : Line) (b : Int) : ref14_Type l b = some { l with overrun := l.overrun || l.rxReady, rxData := b % 256, rxReady := true } := by
  simp only [ref14_Type, Tref14_Type, Tree.run, and255]
  cases l.overrun <;> simp
theorem Read_def (l : Line) (r : Int) : ∃ v, ref14_Read l r = some (if r = 2 then { l with rxReady := false, overrun := false } else l, v) ∧ line_Read l r = ref14_Read l r ∧ (r = 2 → v = IntKind.wrap .i64 (l.rxData + (if l.overrun then 32768 else 0)) ∨ (l.overrun = false ∧ v = l.rxData)) := by
  obtain ⟨n, hn⟩ := status_some l.rxEnable l.rxReady
  obtain ⟨m, hm⟩ := status_some l.txEnable l.txReady
  simp only [ref14_Read, Tref14_Read, line_Read, Tline_Read, Tree.run, status_eq, hn, hm, Option.bind_some, decide_eq_true_eq]
  by_cases h0 : r = 0
  · subst h0; simp
  · by_cases h4 : r = 4
    · subst h4; simp
    · by_cases h2 : r = 2
      · subst h2
        cases l.overrun <;> simp
      · simp [h0, h4, h2]
theorem Write_def (l : Line) (r v : Int) : line_Write l r v = some (if r = 0 then { l with rxEnable := !decide (IntKind.wrap .i64 ((BitVec.ofInt 64 v &&& BitVec.ofInt 64 (64 : Int)).toNat : Int) = 0) } else if r = 4 then { l with txEnable := !decide (IntKind.wrap .i64 ((BitVec.ofInt 64 v &&& BitVec.ofInt 64 (64 : Int)).toNat : Int) = 0) } else if r = 6 ∧ l.txReady = true then { l with txData := v % 256, txLeft := 4, txReady := false } else l) := by
  simp only [line_Write, Tline_Write, Tree.run, and255, decide_eq_true_eq]
  by_cases h0 : r = 0
  · simp [h0]
  · by_cases h4 : r = 4
    · simp [h4]
    · by_cases h6 : r = 6
      · cases hr : l.txReady <;> simp [h6]
      · simp [h0, h4, h6]
theorem Write_eq (l : Line) (r v : Int) : line_Write l r v = ref14_Write l r v := by
  rw [Write_def]
  simp only [ref14_Write, Tref14_Write, Tree.run, and255, decide_eq_true_eq]
  by_cases h0 : r = 0
  · simp [h0]
  · by_cases h4 : r = 4
    · simp [h4]
    · by_cases h6 : r = 6
      · cases hr : l.txReady <;> simp [h6]
      · simp [h0, h4, h6]
/-- the output with a byte more -/
def sent (l : Line) : List UInt8 := let o := l.out ++ [UInt8.ofNat (l.txData % 256).toNat]; o.drop (o.length - 4096)
/-- the line after a tick -/
def ticked (l : Line) : Line := if l.txLeft = 0 then l else if l.txLeft = 1 then { l with txLeft := 0, txReady := true, out := sent l } else { l with txLeft := l.txLeft - 1 }
theorem Tick_def (l : Line) (h : Rt l) : line_Tick l = some (ticked l) := by
  obtain ⟨h1, h2, h3, h4, h5⟩ := h
  have hw : IntKind.wrap .i64 (l.txLeft - 1) = l.txLeft - 1 := wrap_id (by omega) (by omega)
  have hb : IntKind.wrap .u8 l.txData = l.txData % 256 := IntKind.wrap_u8 _
  simp only [line_Tick, Tline_Tick, Tree.run, hw, hb, ticked, decide_eq_true_eq]
  by_cases hz : l.txLeft = 0
  · simp [hz]
  · by_cases h1' : l.txLeft = 1
    · have hl : (l.out ++ [UInt8.ofNat (l.txData % 256).toNat]).length = l.out.length + 1 := by simp
      have hw2 : IntKind.wrap .i64 (((l.out.length + 1 : Nat) : Int) - 4096) = ((l.out.length + 1 : Nat) : Int) - 4096 := wrap_id (by omega) (by omega)
      simp only [h1', List.map_cons, List.map_nil, hl, List.length_cons, List.length_nil, hw2]
      generalize hm : (if (((l.out.length + 1 : Nat) : Int) - 4096) > 0 then (((l.out.length + 1 : Nat) : Int) - 4096) else (0 : Int)) = m
      have hm' : 0 ≤ m ∧ m ≤ ((l.out.length + 1 : Nat) : Int) ∧ m.toNat = l.out.length + 1 - 4096 := by rw [← hm]; split <;> omega
      rw [if_neg (show ¬ (1 : Int) = 0 by omega), if_pos (show (1 : Int) - 1 = 0 by omega), if_pos (by omega), if_pos hm'.1, if_pos hm'.2.1, if_neg (show ¬ (1 : Int) = 0 by omega), if_pos trivial]
      simp only [sent, hl, hm'.2.2]
      rw [List.take_of_length_le (by rw [List.length_drop, hl]; omega)]
      rfl
    · have : ¬ l.txLeft - 1 = 0 := by omega
      simp [hz, h1', this]
theorem Tick_ref (l : Line) (h : Rt l) : ref14_Tick l = some (ticked l) := by
  obtain ⟨h1, h2, h3, h4, h5⟩ := h
  have hw : IntKind.wrap .i64 (l.txLeft - 1) = l.txLeft - 1 := wrap_id (by omega) (by omega)
  have hb : IntKind.wrap .u8 l.txData = l.txData % 256 := IntKind.wrap_u8 _
  simp only [ref14_Tick, Tref14_Tick, Tree.run, hw, hb, ticked, decide_eq_true_eq]
  by_cases hz : l.txLeft = 0
  · rw [if_pos (by omega), if_pos hz]
  · rw [if_neg (by omega), if_neg hz]
    by_cases h1' : l.txLeft = 1
    · have hl : (l.out ++ [UInt8.ofNat (l.txData % 256).toNat]).length = l.out.length + 1 := by simp
      rw [if_neg (by omega), if_pos h1']
      simp only [h1', List.map_cons, List.map_nil, hl, List.length_cons, List.length_nil]
      rw [if_pos (by omega)]
      by_cases h6 : (4096 : Int) < ((l.out.length + 1 : Nat) : Int)
      · have hw2 : IntKind.wrap .i64 (((l.out.length + 1 : Nat) : Int) - 4096) = ((l.out.length + 1 : Nat) : Int) - 4096 := wrap_id (by omega) (by omega)
        rw [if_pos h6, hw2, if_pos (by omega), if_pos (by omega)]
        simp only [sent, hl, Option.some.injEq]
        rw [show (((l.out.length + 1 : Nat) : Int) - 4096).toNat = l.out.length + 1 - 4096 by omega, List.take_of_length_le (by rw [List.length_drop, hl]; omega)]
        rfl
      · rw [if_neg h6]
        simp only [sent, hl, Option.some.injEq]
        rw [show l.out.length + 1 - 4096 = 0 by omega, List.drop_zero]
        rfl
    · rw [if_pos (by omega), if_neg h1']
theorem Reset_def (l : Line) : line_Reset l = some { l with rxEnable := false, rxReady := false, overrun := false, txEnable := false, txReady := true, txLeft := 0 } := rfl
theorem Reset_ref (l : Line) : ref14_Reset l = line_Reset l := rfl
theorem Accept_def (l : Line) (n v : Int) : line_Accept l n v = some l := rfl
theorem Requests_def (l : Line) (n : Int) : ∃ r, line_Requests l n = some r ∧ ref14_Requests l n = some r ∧ r.length ≤ 2 := by
  simp only [line_Requests, Tline_Requests, ref14_Requests, Tref14_Requests, Tree.run]
  by_cases h1 : n < 0
  · simp [h1]
  · by_cases h2 : 4 ≤ n
    · simp [h1, h2]
    · cases l.rxEnable <;> cases l.rxReady <;> cases l.txEnable <;> cases l.txReady <;> simp [h1, h2]
end Go.Proofs.Ytmibajkdenldpaa
