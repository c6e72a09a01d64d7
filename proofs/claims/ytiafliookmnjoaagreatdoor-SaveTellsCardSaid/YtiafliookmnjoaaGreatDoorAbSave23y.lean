/- Chapter 23: what is encoded is decoded unchanged; encodings tell machines apart. -/
import Derived.Test.YtiafliookmnjoaaGreatDoorAbC17x23y
section
set_option linter.unusedSimpArgs false
set_option linter.unusedVariables false
namespace Go.Proofs.YtiafliookmnjoaaGreatDoor.C18
open Go Go.Ab
theorem wrap_succ {i n : Nat} (h : i < n) (hn : n ≤ 9223372036854775807) : IntKind.wrap .i64 ((i : Int) + 1) = ((i + 1 : Nat) : Int) := by rw [wrap_id] <;> omega
def RtC (c : Clock) : Prop := (1 ≤ c.period ∧ c.period ≤ 65535) ∧ 1 ≤ c.left ∧ c.left ≤ c.period
open Classical in
theorem clock_Right_def (c : Clock) : ref13_Right c = some (decide (RtC c)) := by
  rw [C13.F7_def]
  unfold RtC
  rw [Option.some.injEq, Bool.eq_iff_iff]
  simp only [Bool.and_eq_true, decide_eq_true_eq]
  omega
def RtM (m : Machine) : Prop := m.lines.length ≤ 4 ∧ (∀ l ∈ m.lines, C14.Rt l) ∧ C08.Rt m.mem m.bad ∧ C09.Rt m.mmu ∧ RtC m.clock ∧ C16.RtK m.disk ∧ C17.RtT m.tape
theorem lines_iff (l : List Line) : (∀ i, i < l.length → ∀ x, l[i]? = some x → C14.Rt x) ↔ ∀ x ∈ l, C14.Rt x := by
  constructor
  · intro h x hx
    obtain ⟨i, hi, he⟩ := List.mem_iff_getElem.1 hx
    exact h i hi x (by rw [List.getElem?_eq_getElem hi, he])
  · intro h i _ x hx
    exact h x (List.mem_of_getElem? hx)
open Classical in
theorem ref_lines (m : Machine) (hl : m.lines.length ≤ 100) : Lref18_Right_0 none ⟨(0 : Int), m⟩ = some (if ∀ x ∈ m.lines, C14.Rt x then .inr m else .inl (false, m)) := by
  have hs := lim_scan (f := fun s => (Wref18_Right_0 s).run) (fun i : Nat => ⟨(i : Int), m⟩) m.lines.length (fun i => ∀ x, m.lines[i]? = some x → C14.Rt x) (fun i => .inl (false, m)) (.inr m)
    (fun i hi hp => by
      have hp' := hp m.lines[i] (List.getElem?_eq_getElem hi)
      simp [Wref18_Right_0, Tree.run, hi, wrap_succ hi (show m.lines.length ≤ 9223372036854775807 by omega), C14.ref14_Right_def, hp'])
    (fun i hi hp => by
      have hp' : ¬ C14.Rt m.lines[i] := fun he => hp fun s hs => by
        rw [List.getElem?_eq_getElem hi] at hs
        rw [← Option.some.inj hs]; exact he
      simp [Wref18_Right_0, Tree.run, hi, C14.ref14_Right_def, hp'])
    (by simp [Wref18_Right_0, Tree.run])
  rcases hs with ⟨h1, h2⟩ | ⟨i, hi, h1, h2⟩
  · rw [if_pos ((lines_iff _).1 h1)]; exact h2
  · rw [if_neg (fun h => h1 ((lines_iff _).2 h i hi))]; exact h2
open Classical in
theorem bus_lines (m : Machine) (hl : m.lines.length ≤ 100) : Lbus_Right_0 none ⟨m.lines, (m.lines.length : Int), (0 : Int), m⟩ = some (if ∀ x ∈ m.lines, C14.Rt x then .inr m else .inl (false, m)) := by
  have hs := lim_scan (f := fun s => (Wbus_Right_0 s).run) (fun i : Nat => ⟨m.lines, (m.lines.length : Int), (i : Int), m⟩) m.lines.length (fun i => ∀ x, m.lines[i]? = some x → C14.Rt x) (fun i => .inl (false, m)) (.inr m)
    (fun i hi hp => by
      have hp' := hp m.lines[i] (List.getElem?_eq_getElem hi)
      simp [Wbus_Right_0, Tree.run, hi, wrap_succ hi (show m.lines.length ≤ 9223372036854775807 by omega), C14.line_Right_def, hp'])
    (fun i hi hp => by
      have hp' : ¬ C14.Rt m.lines[i] := fun he => hp fun s hs => by
        rw [List.getElem?_eq_getElem hi] at hs
        rw [← Option.some.inj hs]; exact he
      simp [Wbus_Right_0, Tree.run, hi, C14.line_Right_def, hp'])
    (by simp [Wbus_Right_0, Tree.run])
  rcases hs with ⟨h1, h2⟩ | ⟨i, hi, h1, h2⟩
  · rw [if_pos ((lines_iff _).1 h1)]; exact h2
  · rw [if_neg (fun h => h1 ((lines_iff _).2 h i hi))]; exact h2
structure Fin (m : Machine) : Prop where
  pages : m.mmu.pages.length = 16
  mem : m.mem.length ≤ 100000
  bad : m.bad.length ≤ 100000
  dbad : m.disk.drive.bad.length ≤ 100000
  recs : m.tape.records.length ≤ 100000
open Classical in
theorem ref_RightM_def (m : Machine) (h : Fin m) : ref18_Right none m = some (decide (RtM m)) := by
  simp only [ref18_Right, Tref18_Right, Tree.run]
  by_cases h1 : 4 < (m.lines.length : Int)
  · have : ¬ RtM m := fun h => by have := h.1; omega
    simp [h1, this]
  simp only [h1, decide_false, Bool.false_eq_true, if_false, ref_lines m (by omega), Option.bind_some]
  by_cases h2 : ∀ x ∈ m.lines, C14.Rt x
  · rw [if_pos h2]
    have hk := h.dbad
    have hr := h.recs
    simp only [Sum.isLeft_inr, Bool.false_eq_true, if_false, Sum.getRight?_inr, Option.bind_some, C08.ref_Right_def m.mem m.bad h.mem h.bad, C09.ref_Right_def m.mmu h.pages, clock_Right_def, C16.ref_RightK_def m.disk (by omega), C17.ref_RightT_def m.tape (by omega)]
    by_cases h3 : C08.Rt m.mem m.bad
    · by_cases h4 : C09.Rt m.mmu
      · by_cases h5 : RtC m.clock
        · by_cases h6 : C16.RtK m.disk
          · have : RtM m ↔ C17.RtT m.tape := ⟨fun h => h.2.2.2.2.2.2, fun h => ⟨by omega, h2, h3, h4, h5, h6, h⟩⟩
            simp [h3, h4, h5, h6, this]
          · have : ¬ RtM m := fun h => h6 h.2.2.2.2.2.1
            simp [h3, h4, h5, h6, this]
        · have : ¬ RtM m := fun h => h5 h.2.2.2.2.1
          simp [h3, h4, h5, this]
      · have : ¬ RtM m := fun h => h4 h.2.2.2.1
        simp [h3, h4, this]
    · have : ¬ RtM m := fun h => h3 h.2.2.1
      simp [h3, this]
  · rw [if_neg h2]
    have : ¬ RtM m := fun h => h2 h.2.1
    simp [this]
open Classical in
theorem bus_Right_def (m : Machine) (h : Fin m) : bus_Right none m = some (decide (RtM m)) := by
  simp only [bus_Right, Tbus_Right, Tree.run]
  by_cases h1 : 4 < (m.lines.length : Int)
  · have : ¬ RtM m := fun h => by have := h.1; omega
    simp [h1, this]
  have hk := h.dbad
  have hr := h.recs
  simp only [h1, decide_false, Bool.false_eq_true, if_false, C08.mem_Right_def m.mem m.bad h.mem h.bad, C09.mmu_Right_def m.mmu h.pages, C13.F20_F7, clock_Right_def, Option.bind_some, bus_lines m (by omega)]
  by_cases h3 : C08.Rt m.mem m.bad
  · by_cases h4 : C09.Rt m.mmu
    · by_cases h5 : RtC m.clock
      · simp only [h3, h4, h5, decide_true, Bool.not_true, Bool.false_eq_true, if_false]
        by_cases h2 : ∀ x ∈ m.lines, C14.Rt x
        · rw [if_pos h2]
          simp only [Sum.isLeft_inr, Bool.false_eq_true, if_false, Sum.getRight?_inr, Option.bind_some, C16.diskctl_Right_def m.disk (show m.disk.drive.bad.length ≤ 9223372036854775807 by omega), C17.tape_Right_def m.tape (show m.tape.records.length ≤ 9223372036854775807 by omega)]
          by_cases h6 : C16.RtK m.disk
          · have : RtM m ↔ C17.RtT m.tape := ⟨fun h => h.2.2.2.2.2.2, fun h => ⟨by omega, h2, h3, h4, h5, h6, h⟩⟩
            simp [h6, this]
          · have : ¬ RtM m := fun h => h6 h.2.2.2.2.2.1
            simp [h6, this]
        · rw [if_neg h2]
          have : ¬ RtM m := fun h => h2 h.2.1
          simp [this]
      · have : ¬ RtM m := fun h => h5 h.2.2.2.2.1
        simp [h3, h4, h5, this]
    · have : ¬ RtM m := fun h => h4 h.2.2.2.1
      simp [h3, h4, this]
  · have : ¬ RtM m := fun h => h3 h.2.2.1
    simp [h3, this]
end Go.Proofs.YtiafliookmnjoaaGreatDoor.C18
end
section
set_option linter.unusedSimpArgs false
set_option linter.unusedVariables false
namespace Go.Proofs.YtiafliookmnjoaaGreatDoor
open Go Go.Ab C31
def pswW (w : Int) : Int := IntKind.wrap .i64 (((BitVec.ofInt 64 w &&& BitVec.ofInt 64 (49407 : Int)).toNat : Int))
theorem pswW_in (w : Int) : 0 ≤ pswW w ∧ pswW w ≤ 49407 := by
  have h : (BitVec.ofInt 64 w &&& BitVec.ofInt 64 (49407 : Int)).toNat ≤ 49407 := by
    rw [BitVec.toNat_and, show (BitVec.ofInt 64 (49407 : Int)).toNat = 49407 by decide]
    exact Nat.and_le_right
  unfold pswW
  rw [wrap_id] <;> omega
theorem psw_def (w : Int) : psw_Valid w = some (decide (pswW w = w)) := rfl
theorem ref04_def (w : Int) : ref04_Valid w = some (decide (pswW w = w)) := by
  have hb := pswW_in w
  simp only [ref04_Valid, Tref04_Valid, Tree.run]
  by_cases h0 : 0 ≤ w
  · by_cases h1 : w ≤ 65535
    · have h2 := andNot_sub w 49407 h0 (by omega)
      have h3 : IntKind.wrap .i64 (((BitVec.ofInt 64 w &&& ~~~BitVec.ofInt 64 (49407 : Int)).toNat : Int)) = w - pswW w := h2
      simp only [h0, h1, decide_true, if_true, h3]
      exact congrArg some (decide_eq_decide.2 ⟨fun h => by omega, fun h => by omega⟩)
    · have : ¬ pswW w = w := by omega
      simp only [h0, h1, this, decide_true, decide_false, if_true, Bool.false_eq_true, if_false]
  · have : ¬ pswW w = w := by omega
    simp only [h0, this, decide_false, Bool.false_eq_true, if_false]
def W16 (x : Int) : Prop := 0 ≤ x ∧ x ≤ 65535
instance (x : Int) : Decidable (W16 x) := by unfold W16; infer_instance
theorem isWord_def (x : Int) : cpu_isWord x = some (decide (W16 x)) := by
  simp only [cpu_isWord, Tcpu_isWord, Tree.run, W16]
  by_cases h0 : 0 ≤ x
  · by_cases h1 : x ≤ 65535 <;> simp [h0, h1]
  · simp [h0]
theorem word19_def (x : Int) : ref19_word x = some (decide (W16 x)) := by
  simp only [ref19_word, Tref19_word, Tree.run, W16]
  by_cases h0 : 0 ≤ x
  · by_cases h1 : x ≤ 65535
    · have : x < 65536 := by omega
      simp [h0, h1, this]
    · have : ¬ x < 65536 := by omega
      simp [h0, h1, this]
  · simp [h0]
theorem regs_iff (l : List Int) : (∀ i, i < l.length → ∀ x, l[i]? = some x → W16 x) ↔ ∀ x ∈ l, W16 x := by
  constructor
  · intro h x hx
    obtain ⟨i, hi, he⟩ := List.mem_iff_getElem.1 hx
    exact h i hi x (by rw [List.getElem?_eq_getElem hi, he])
  · intro h i _ x hx
    exact h x (List.mem_of_getElem? hx)
theorem cpu_regs (c : Cpu) (h6 : c.r.length = 6) : Lcpu_Right_0 none ⟨c.r, (0 : Int), c⟩ = some (if ∀ x ∈ c.r, W16 x then .inr c else .inl (false, c)) := by
  have hs := lim_scan (f := fun s => (Wcpu_Right_0 s).run) (fun i : Nat => ⟨c.r, (i : Int), c⟩) 6 (fun i => ∀ x, c.r[i]? = some x → W16 x) (fun i => .inl (false, c)) (.inr c)
    (fun i hi hp => by
      have hi' : i < c.r.length := by omega
      have hp' := hp c.r[i] (List.getElem?_eq_getElem hi')
      have k1 : (i : Int) < 6 := by omega
      have k2 : (0 : Int) ≤ (i : Int) := by omega
      simp only [Wcpu_Right_0, Tree.run, k1, k2, Int.toNat_natCast, List.getElem?_eq_getElem hi', Option.bind_some, isWord_def, hp', decide_true, if_true, Bool.not_true, Bool.false_eq_true, if_false, wrap_succ hi (show 6 ≤ 9223372036854775807 by omega)])
    (fun i hi hp => by
      have hi' : i < c.r.length := by omega
      have hp' : ¬ W16 c.r[i] := fun he => hp fun s hs => by
        rw [List.getElem?_eq_getElem hi'] at hs
        rw [← Option.some.inj hs]; exact he
      have k1 : (i : Int) < 6 := by omega
      have k2 : (0 : Int) ≤ (i : Int) := by omega
      simp only [Wcpu_Right_0, Tree.run, k1, k2, Int.toNat_natCast, List.getElem?_eq_getElem hi', Option.bind_some, isWord_def, hp', decide_true, decide_false, if_true, Bool.not_false])
    (by
      have k1 : ¬ ((6 : Nat) : Int) < 6 := by omega
      simp only [Wcpu_Right_0, Tree.run, k1, decide_false, Bool.false_eq_true, if_false])
  rw [← h6] at hs
  rcases hs with ⟨h1, h2⟩ | ⟨i, hi, h1, h2⟩
  · rw [if_pos ((regs_iff _).1 h1)]; exact h2
  · rw [if_neg (fun h => h1 ((regs_iff _).2 h i hi))]; exact h2
theorem ref_regs (c : Cpu) (h6 : c.r.length = 6) : Lref19_Right_0 none ⟨(0 : Int), c⟩ = some (if ∀ x ∈ c.r, W16 x then .inr c else .inl (false, c)) := by
  have hs := lim_scan (f := fun s => (Wref19_Right_0 s).run) (fun i : Nat => ⟨(i : Int), c⟩) 6 (fun i => ∀ x, c.r[i]? = some x → W16 x) (fun i => .inl (false, c)) (.inr c)
    (fun i hi hp => by
      have hi' : i < c.r.length := by omega
      have hp' := hp c.r[i] (List.getElem?_eq_getElem hi')
      have k1 : (i : Int) < 6 := by omega
      have k2 : (0 : Int) ≤ (i : Int) := by omega
      simp only [Wref19_Right_0, Tree.run, k1, k2, Int.toNat_natCast, Nat.mul_one, List.getElem?_eq_getElem hi', Option.bind_some, word19_def, hp', decide_true, if_true, Bool.not_true, Bool.false_eq_true, if_false, wrap_succ hi (show 6 ≤ 9223372036854775807 by omega)])
    (fun i hi hp => by
      have hi' : i < c.r.length := by omega
      have hp' : ¬ W16 c.r[i] := fun he => hp fun s hs => by
        rw [List.getElem?_eq_getElem hi'] at hs
        rw [← Option.some.inj hs]; exact he
      have k1 : (i : Int) < 6 := by omega
      have k2 : (0 : Int) ≤ (i : Int) := by omega
      simp only [Wref19_Right_0, Tree.run, k1, k2, Int.toNat_natCast, Nat.mul_one, List.getElem?_eq_getElem hi', Option.bind_some, word19_def, hp', decide_true, decide_false, if_true, Bool.not_false])
    (by
      have k1 : ¬ ((6 : Nat) : Int) < 6 := by omega
      simp only [Wref19_Right_0, Tree.run, k1, decide_false, Bool.false_eq_true, if_false])
  rw [← h6] at hs
  rcases hs with ⟨h1, h2⟩ | ⟨i, hi, h1, h2⟩
  · rw [if_pos ((regs_iff _).1 h1)]; exact h2
  · rw [if_neg (fun h => h1 ((regs_iff _).2 h i hi))]; exact h2
def RtCpu (c : Cpu) : Prop := (∀ x ∈ c.r, W16 x) ∧ W16 (c.sP.getD 0 0) ∧ W16 (c.sP.getD 1 0) ∧ W16 c.pC ∧ pswW c.pSW = c.pSW
instance (c : Cpu) : Decidable (RtCpu c) := by unfold RtCpu; infer_instance
theorem cpu_right (c : Cpu) (h6 : c.r.length = 6) (h2 : c.sP.length = 2) : cpu_Right none c = some (decide (RtCpu c)) ∧ ref19_Right none c = some (decide (RtCpu c)) := by
  have g0 : c.sP[((0 : Int)).toNat * 1]? = some (c.sP.getD 0 0) := by
    show c.sP[0]? = _
    simp [List.getD, h2]
  have g1 : c.sP[((1 : Int)).toNat * 1]? = some (c.sP.getD 1 0) := by
    show c.sP[1]? = _
    simp [List.getD, h2]
  have hd : decide (RtCpu c) = decide ((∀ x ∈ c.r, W16 x) ∧ W16 (c.sP.getD 0 0) ∧ W16 (c.sP.getD 1 0) ∧ W16 c.pC ∧ pswW c.pSW = c.pSW) := decide_eq_decide.2 Iff.rfl
  rw [hd]
  simp only [cpu_Right, Tcpu_Right, ref19_Right, Tref19_Right, Tree.run, cpu_regs c h6, ref_regs c h6, Option.bind_some]
  rcases Classical.em (∀ x ∈ c.r, W16 x) with q | q
  rotate_left
  · simp only [q, if_false, Sum.isLeft_inl, if_true, Sum.getLeft?_inl, Option.bind_some, false_and, decide_false, and_self]
  simp only [if_pos q, Sum.isLeft_inr, Bool.false_eq_true, if_false, Sum.getRight?_inr, Option.bind_some, show (0 : Int) ≤ 0 by omega, show (0 : Int) < 2 by omega, show (0 : Int) ≤ 1 by omega, show (1 : Int) < 2 by omega, decide_true, if_true, g0, g1, isWord_def, word19_def, psw_def, ref04_def]
  clear hd g0 g1
  generalize c.sP.getD 0 0 = sp0
  generalize c.sP.getD 1 0 = sp1
  by_cases q0 : W16 sp0
  rotate_left
  · simp [q0]
  by_cases q1 : W16 sp1
  rotate_left
  · simp [q0, q1]
  by_cases q2 : W16 c.pC
  rotate_left
  · simp [q0, q1, q2]
  simp only [q0, q1, q2, decide_true, if_true, true_and]
  have : (decide (pswW c.pSW = c.pSW)) = decide ((∀ x ∈ c.r, W16 x) ∧ pswW c.pSW = c.pSW) := decide_eq_decide.2 ⟨fun h => ⟨q, h⟩, fun h => h.2⟩
  rw [this]
  exact ⟨rfl, rfl⟩
def RtMac (m : Machine) : Prop := C18.RtM m ∧ RtCpu m.cpu ∧ (0 ≤ m.now ∧ m.now ≤ 1099511627776) ∧ (0 ≤ m.power ∧ m.power ≤ 10000) ∧ (m.halted = true → m.waiting = false ∧ m.power = 0 ∧ m.powerTrap = false)
open Classical in
theorem machine_right (m : Machine) (hA : ArrM m) (hF : C18.Fin m) : machine_Right none m = some (decide (RtMac m)) := by
  have h1 := C18.bus_Right_def m hF
  have h2 := (cpu_right m.cpu hA.r hA.sp).1
  have hd : decide (RtMac m) = decide (C18.RtM m ∧ RtCpu m.cpu ∧ (0 ≤ m.now ∧ m.now ≤ 1099511627776) ∧ (0 ≤ m.power ∧ m.power ≤ 10000) ∧ (m.halted = true → m.waiting = false ∧ m.power = 0 ∧ m.powerTrap = false)) := decide_eq_decide.2 Iff.rfl
  rw [hd]
  simp only [machine_Right, Tmachine_Right, machine_conditionOf, Tmachine_conditionOf, Tree.run, h1, h2, Option.bind_some]
  by_cases q1 : C18.RtM m
  rotate_left
  · simp [q1]
  by_cases q2 : RtCpu m.cpu
  rotate_left
  · simp [q1, q2]
  by_cases q3 : 0 ≤ m.now
  rotate_left
  · simp [q1, q2, q3]
  by_cases q4 : m.now ≤ 1099511627776
  rotate_left
  · simp [q1, q2, q3, q4]
  by_cases q5 : 0 ≤ m.power
  rotate_left
  · simp [q1, q2, q3, q4, q5]
  by_cases q6 : m.power ≤ 10000
  rotate_left
  · simp [q1, q2, q3, q4, q5, q6]
  cases q7 : m.halted with
  | false => simp [q1, q2, q3, q4, q5, q6]
  | true =>
    cases q8 : m.waiting with
    | true => simp [q1, q2, q3, q4, q5, q6]
    | false =>
      cases q9 : m.powerTrap with
      | true => simp [q1, q2, q3, q4, q5, q6]
      | false => by_cases q10 : m.power = 0 <;> simp [q1, q2, q3, q4, q5, q6, q10]
open Classical in
theorem ref_right (m : Machine) (hA : ArrM m) (hF : C18.Fin m) : ref20_Right none m = some (decide (RtMac m)) := by
  have h1 := C18.ref_RightM_def m hF
  have h2 := (cpu_right m.cpu hA.r hA.sp).2
  have hd : decide (RtMac m) = decide (C18.RtM m ∧ RtCpu m.cpu ∧ (0 ≤ m.now ∧ m.now ≤ 1099511627776) ∧ (0 ≤ m.power ∧ m.power ≤ 10000) ∧ (m.halted = true → m.waiting = false ∧ m.power = 0 ∧ m.powerTrap = false)) := decide_eq_decide.2 Iff.rfl
  rw [hd]
  simp only [ref20_Right, Tref20_Right, Tree.run, h1, h2, Option.bind_some]
  by_cases q3 : m.now < 0
  · have : ¬ 0 ≤ m.now := by omega
    simp [q3, this]
  by_cases q4 : 1099511627776 < m.now
  · have : ¬ m.now ≤ 1099511627776 := by omega
    simp [q3, q4, this]
  by_cases q5 : m.power < 0
  · have : ¬ 0 ≤ m.power := by omega
    simp [q3, q4, q5, this]
  by_cases q6 : 10000 < m.power
  · have : ¬ m.power ≤ 10000 := by omega
    simp [q3, q4, q5, q6, this]
  have p3 : 0 ≤ m.now := by omega
  have p4 : m.now ≤ 1099511627776 := by omega
  have p5 : 0 ≤ m.power := by omega
  have p6 : m.power ≤ 10000 := by omega
  simp only [q3, q4, q5, q6, p3, p4, p5, p6, decide_false, Bool.false_eq_true, if_false, true_and]
  have key : ∀ b c : Prop, (if decide (C18.RtM m) = true then some (decide (RtCpu m.cpu)) else some false) = some (decide (C18.RtM m ∧ RtCpu m.cpu)) := fun _ _ => by
    by_cases q1 : C18.RtM m <;> simp [q1]
  cases q7 : m.halted with
  | false =>
    by_cases q1 : C18.RtM m <;> by_cases q2 : RtCpu m.cpu <;> simp [q1, q2]
  | true =>
    cases q8 : m.waiting with
    | true => simp
    | false =>
      cases q9 : m.powerTrap with
      | true => by_cases q10 : m.power = 0 <;> simp [q10]
      | false => by_cases q10 : m.power = 0 <;> by_cases q1 : C18.RtM m <;> by_cases q2 : RtCpu m.cpu <;> simp [q10, q1, q2]
/-- valid machines can be written -/
theorem right_good {m : Machine} (hA : ArrM m) (h : RtMac m) : GMachine m := by
  obtain ⟨⟨hl, hls, ⟨hm1, hm2, hm3⟩, ⟨hu1, hu2, hu3⟩, ⟨hc1, hc2, hc3⟩, ⟨hk1, hk2, hk3, hk4, hk5, _, _, hv1, hv2, hv3, hv4⟩, ⟨ht1, ht2, ht3, ht4, ht5, ht6, ht7, _⟩⟩, ⟨hp1, hp2, hp3, hp4, hp5⟩, hn, hw, _⟩ := h
  have w2 : ∀ {x : Int}, 0 ≤ x ∧ x ≤ 65535 → GNum 2 x := fun {x} h => ⟨h.1, show x < 65536 by omega⟩
  have w1 : ∀ {x : Int}, 0 ≤ x ∧ x ≤ 255 → GNum 1 x := fun {x} h => ⟨h.1, show x < 256 by omega⟩
  have hsz : 2 * (m.mem.length : Int) ≤ 32768 := hm1.2.1
  have hbad : ∀ x ∈ m.bad, 0 ≤ x ∧ x ≤ 65535 := fun x hx => by
    obtain ⟨i, hi, rfl⟩ := List.mem_iff_getElem.1 hx
    have := hm3 i hi
    omega
  have hbl : m.bad.length ≤ 65535 := by
    have := rise_len m.bad (fun i hi h' => (hm3 i hi).2.2.2 h') (fun i hi => (hm3 i hi).1) (2 * (m.mem.length : Int)) (fun i hi => (hm3 i hi).2.1)
    omega
  have hdb : ∀ x ∈ m.disk.drive.bad, 0 ≤ x ∧ x ≤ 65535 := fun x hx => by
    obtain ⟨i, hi, rfl⟩ := List.mem_iff_getElem.1 hx
    have := hv4 i hi
    omega
  have hdl : m.disk.drive.bad.length ≤ 65535 := by
    have := rise_len m.disk.drive.bad (fun i hi h' => (hv4 i hi).2.2 h') (fun i hi => (hv4 i hi).1) (m.disk.drive.sectors.length : Int) (fun i hi => (hv4 i hi).2.1)
    omega
  have hpsw := pswW_in m.cpu.pSW
  rw [hp5] at hpsw
  refine ⟨⟨⟨hA.r, fun y hy => w2 (hp1 y hy)⟩, ⟨hA.sp, ?_⟩, w2 hp4, w2 ⟨hpsw.1, by omega⟩⟩, ⟨by omega, fun y hy => w2 (hm2 y hy)⟩, ⟨hbl, fun y hy => w2 (hbad y hy)⟩,
    ⟨⟨hA.pages, fun p hp => ?_⟩, w1 ⟨hu2.1, by omega⟩, w2 hu3⟩, w2 ⟨by omega, by omega⟩, w2 ⟨by omega, by omega⟩, ⟨by omega, fun l hl' => ?_⟩,
    ⟨⟨by omega, fun s hs => by rw [hv3 s hs]; omega⟩, ⟨hdl, fun y hy => w2 (hdb y hy)⟩, w1 ⟨hk1.1, by omega⟩, w2 hk2, w2 ⟨hk3.1, hk3.2.1⟩, w2 hk4, w1 ⟨hk5.1, by omega⟩⟩,
    ⟨⟨by omega, fun s hs => by have := ht2 s hs; omega⟩, w1 ⟨ht3.1, by omega⟩, w1 ⟨ht4.1, by omega⟩, w2 ht5, w2 ht6, w1 ⟨ht7.1, by omega⟩⟩, ⟨hn.1, show m.now < 281474976710656 by omega⟩, w2 ⟨hw.1, by omega⟩⟩
  · have hsp := hA.sp
    match hq : m.cpu.sP, hsp with
    | [a, b], _ =>
      rw [hq] at hp2 hp3
      intro y hy
      simp only [List.mem_cons, List.not_mem_nil, or_false] at hy
      rcases hy with rfl | rfl
      · exact w2 hp2
      · exact w2 hp3
  · obtain ⟨a1, a2, a3⟩ := hu1 p hp
    exact ⟨w2 ⟨a1.1, by omega⟩, w1 ⟨a2.1, by omega⟩, w1 ⟨a3.1, by omega⟩⟩
  · obtain ⟨a1, a2, a3, a4, a5⟩ := hls l hl'
    exact ⟨w1 a1, w1 a2, w1 ⟨a3.1, by omega⟩, by omega⟩
where
  rise_len (l : List Int) (h : ∀ i, (hi : i < l.length) → ∀ h' : 0 < i, l[i - 1] < l[i]) (h0 : ∀ i, (hi : i < l.length) → 0 ≤ l[i]) (n : Int) (hn : ∀ i, (hi : i < l.length) → l[i] < n) : (l.length : Int) ≤ n ∨ l.length = 0 := by
    have key : ∀ i, (hi : i < l.length) → (i : Int) ≤ l[i] := by
      intro i
      induction i with
      | zero => intro hi; exact h0 0 hi
      | succ k ih =>
        intro hi
        have h1 := ih (by omega)
        have h2 := h (k + 1) hi (by omega)
        have e : l[k + 1 - 1] = l[k] := rfl
        omega
    rcases Nat.eq_zero_or_pos l.length with h1 | h1
    · exact .inr h1
    · have h2 := key (l.length - 1) (by omega)
      have h3 := hn (l.length - 1) (by omega)
      exact .inl (by omega)
end Go.Proofs.YtiafliookmnjoaaGreatDoor
end
section
set_option linter.unusedSimpArgs false
set_option linter.unusedVariables false
namespace Go.Proofs.YtiafliookmnjoaaGreatDoor
open Go Go.Ab C31
theorem arr_of {m : Machine} (h : gMachine m) : ArrM m := ⟨h.1.1.1, h.1.2.1.1, h.2.2.2.1.2.1.1⟩
theorem Modest.fin {m : Machine} (h : Modest m) (hA : ArrM m) : C18.Fin m := ⟨hA.pages, by have := h.mem; omega, by have := h.bad; omega, by have := h.dbad; omega, by have := h.recs; omega⟩
theorem crc_def (l : List UInt8) (hl : l.length ≤ 9223372036854775807) : octet_Crc none l = some (crcV l) := by
  simp only [octet_Crc, Toctet_Crc, Tree.run, sum_def l hl, Option.bind_some]
theorem cut_seal (t : List UInt8) (h : t.length ≤ 1000000) : (0 ≤ IntKind.wrap .i64 (((sealL t).length : Int) - 4)) ∧ IntKind.wrap .i64 (((sealL t).length : Int) - 4) ≤ (((sealL t).length : Nat) : Int) ∧ ((sealL t).drop 0).take ((IntKind.wrap .i64 (((sealL t).length : Int) - 4)).toNat - 0) = t := by
  have e : IntKind.wrap .i64 (((sealL t).length : Int) - 4) = (t.length : Int) := by rw [sealL_len, wrap_id] <;> omega
  rw [e]
  refine ⟨by omega, by rw [sealL_len]; omega, ?_⟩
  rw [List.drop_zero, Int.toNat_natCast, Nat.sub_zero, sealL, List.take_left]
theorem digest_def {m : Machine} (h : Modest m) (hA : ArrM m) (hR : machine_Right none m = some true) : save_Digest none m = some (crcV (bodyL m)) := by
  obtain ⟨hb, hl⟩ := body_def m h hA
  obtain ⟨k1, k2, k3⟩ := cut_seal (bodyL m) (by omega)
  simp only [save_Digest, Tsave_Digest, Tree.run, Encode_def m h hA hR, Option.bind_some, decide_true, Bool.not_true, Bool.false_eq_true, if_false, if_true, k1, k2, k3, crc_def (bodyL m) (by omega)]
open Classical in
theorem right_both {m : Machine} (h : Modest m) (hA : ArrM m) : ∃ b, machine_Right none m = some b ∧ ref20_Right none m = some b ∧ (b = true → GMachine m) :=
  ⟨decide (RtMac m), machine_right m hA (h.fin hA), ref_right m hA (h.fin hA), fun e => right_good hA (of_decide_eq_true e)⟩
theorem pf_law23_SaveReturns (x : Machine × Unit) (h : Glaw23_SaveReturns x) : law23_SaveReturns none x.1 = some true := by
  obtain ⟨m, _⟩ := x
  have hA : ArrM m := arr_of h.1
  show law23_SaveReturns none m = some true
  obtain ⟨r, hr, hm⟩ := great_def m
  cases r with
  | true => simp only [law23_SaveReturns, Tlaw23_SaveReturns, Tree.run, hr, Option.bind_some, if_true]
  | false =>
    have hM := hm rfl
    obtain ⟨b, h1, h2, h3⟩ := right_both hM hA
    cases b with
    | false => simp only [law23_SaveReturns, Tlaw23_SaveReturns, Tree.run, hr, h2, Option.bind_some, Bool.false_eq_true, if_false, Bool.not_false, if_true]
    | true =>
      have hE := Encode_def m hM hA h1
      have hl := (body_def m hM hA).2
      have hD := decode_back (b := true) (h3 rfl) (by omega) h1
      rw [if_pos rfl] at hD
      have hS := Same_def m m hM.sm
      rw [diff_self] at hS
      simp only [law23_SaveReturns, Tlaw23_SaveReturns, Tree.run, hr, h2, hE, hD, hS, digest_def hM hA h1, alive_true, Option.bind_some, Bool.false_eq_true, if_false, Bool.not_true, decide_true, if_true, List.length_nil]
theorem diffD_mono : ∀ (ns : List (List UInt8)) (bs : List Bool) (g : List (List UInt8)), g.length ≤ (diffD ns bs g).length
  | [], _, g => by simp [diffD]
  | _ :: _, [], g => by simp [diffD]
  | n :: ns, b :: bs, g => by
    have h := diffD_mono ns bs (stepD n b g)
    have h2 : g.length ≤ (stepD n b g).length := by
      unfold stepD
      split
      · exact Nat.le_refl _
      · rw [List.length_append]; omega
    simp only [diffD]
    omega
theorem diffD_all : ∀ (ns : List (List UInt8)) (bs : List Bool), ns.length = bs.length → (diffD ns bs []).length = 0 → ∀ b ∈ bs, b = true
  | [], [], _, _ => by simp
  | n :: ns, b :: bs, hl, h => by
    simp only [diffD] at h
    cases b with
    | true =>
      have h' : (diffD ns bs []).length = 0 := h
      intro c hc
      rcases List.mem_cons.1 hc with rfl | hc
      · rfl
      · exact diffD_all ns bs (by simpa using hl) h' c hc
    | false =>
      have := diffD_mono ns bs (stepD n false [])
      have h2 : (stepD n false []).length = 1 := rfl
      omega
theorem same_eq {a b : Machine} (h : (diffD parts (sames a b) []).length = 0) : a = b := by
  have hall := diffD_all parts (sames a b) rfl h
  have q : ∀ i x, (sames a b)[i]? = some x → x = true := fun i x hx => hall x (List.mem_of_getElem? hx)
  have q0 := q 0 _ rfl; have q1 := q 1 _ rfl; have q2 := q 2 _ rfl; have q3 := q 3 _ rfl; have q4 := q 4 _ rfl; have q5 := q 5 _ rfl; have q6 := q 6 _ rfl
  have q7 := q 7 _ rfl; have q8 := q 8 _ rfl; have q9 := q 9 _ rfl; have q10 := q 10 _ rfl; have q11 := q 11 _ rfl; have q12 := q 12 _ rfl
  clear hall q h
  obtain ⟨⟨a1, a2, a3, a4⟩, a5, a6, ⟨a7, a8, a9, a10⟩, ⟨a11, a12, a13, a14⟩, a15, a16, a17, a18, a19, a20, a21, a22⟩ := a
  obtain ⟨⟨b1, b2, b3, b4⟩, b5, b6, ⟨b7, b8, b9, b10⟩, ⟨b11, b12, b13, b14⟩, b15, b16, b17, b18, b19, b20, b21, b22⟩ := b
  simp only [Bool.and_eq_true, decide_eq_true_eq, beq_iff_eq] at q0 q1 q2 q3 q4 q5 q6 q7 q8 q9 q10 q11 q12
  obtain ⟨rfl, rfl, rfl, rfl⟩ := q0
  obtain ⟨rfl, rfl, rfl, rfl⟩ := q3
  obtain ⟨rfl, rfl, rfl, rfl⟩ := q4
  subst q1 q2 q5 q6 q7 q8 q9 q10 q11 q12
  rfl
theorem same_iff (a b : Machine) : (diffD parts (sames a b) []).length = 0 ↔ a = b := ⟨same_eq, fun h => by rw [h, diff_self]; rfl⟩
theorem body_inj {a b : Machine} (ha : GMachine a) (hb : GMachine b) (h : bodyL a = bodyL b) : a = b := by
  have h1 := machine_inv.back a [] ha
  have h2 := machine_inv.back b [] hb
  have h3 : partsB a = partsB b := List.append_cancel_left h
  rw [h3, h2] at h1
  exact (Prod.mk.inj (Option.some.inj h1)).1.symm
theorem pf_law23_SaveTells (x : Machine × Machine × Unit) (h : Glaw23_SaveTells x) : law23_SaveTells none x.1 x.2.1 = some true := by
  obtain ⟨a, b, _⟩ := x
  have hA : ArrM a := arr_of h.1
  have hB : ArrM b := arr_of h.2.1
  show law23_SaveTells none a b = some true
  obtain ⟨r, hr, hm⟩ := great_def a
  cases r with
  | true => simp only [law23_SaveTells, Tlaw23_SaveTells, Tree.run, hr, Option.bind_some, if_true]
  | false =>
    obtain ⟨r2, hr2, hm2⟩ := great_def b
    cases r2 with
    | true => simp only [law23_SaveTells, Tlaw23_SaveTells, Tree.run, hr, hr2, Option.bind_some, if_true, Bool.false_eq_true, if_false]
    | false =>
      have hMa := hm rfl
      have hMb := hm2 rfl
      obtain ⟨u, h1, h2, h3⟩ := right_both hMa hA
      obtain ⟨v, k1, k2, k3⟩ := right_both hMb hB
      cases u with
      | false => simp only [law23_SaveTells, Tlaw23_SaveTells, Tree.run, hr, hr2, h2, Option.bind_some, Bool.false_eq_true, if_false, Bool.not_false, if_true]
      | true =>
        cases v with
        | false => simp only [law23_SaveTells, Tlaw23_SaveTells, Tree.run, hr, hr2, h2, k2, Option.bind_some, Bool.false_eq_true, if_false, Bool.not_false, Bool.not_true, if_true]
        | true =>
          have hE := Encode_def a hMa hA h1
          have hF := Encode_def b hMb hB k1
          have hS := Same_def a b hMa.sm
          have hiff : (sealL (bodyL a) = sealL (bodyL b)) ↔ (diffD parts (sames a b) []).length = 0 := by
            rw [same_iff]
            exact ⟨fun e => body_inj (h3 rfl) (k3 rfl) (sealL_inj e), fun e => by rw [e]⟩
          simp only [law23_SaveTells, Tlaw23_SaveTells, Tree.run, hr, hr2, h2, k2, hE, hF, hS, digest_def hMa hA h1, digest_def hMb hB k1, alive_true, Option.bind_some, Bool.false_eq_true, if_false, Bool.not_true, decide_true, if_true]
          have hde : decide (sealL (bodyL a) = sealL (bodyL b)) = decide ((diffD parts (sames a b) []).length = 0) := decide_eq_decide.2 hiff
          rw [hde]
          simp only [BEq.rfl, if_true]
          by_cases c : (diffD parts (sames a b) []).length = 0
          · have e := same_eq c
            subst e
            simp only [c, decide_true, Bool.not_true, Bool.false_eq_true, if_false, if_true]
          · simp only [c, decide_false, Bool.not_false, if_true]
end Go.Proofs.YtiafliookmnjoaaGreatDoor
end
