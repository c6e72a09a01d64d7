/- Chapter 17: ticks. -/
import Derived.Test.YtjhibcebipjbcaaAbPure17c
set_option linter.unusedSimpArgs false
set_option linter.unusedVariables false
namespace Go.Proofs.Ytjhibcebipjbcaa
open Go Go.Ab
/-- a head within its tape -/
def Pos (t : Tape) : Prop := t.records.length ≤ 64 ∧ 0 ≤ t.pos ∧ t.pos ≤ (t.records.length : Int)
def recAt (t : Tape) : List UInt8 := t.records.getD t.pos.toNat []
def passT (t : Tape) : Tape := if t.pos = (t.records.length : Int) then { t with error := true, end_ := true } else { t with pos := t.pos + 1, mark := t.mark || decide (recAt t = []) }
def passR (t : Tape) : List UInt8 × Tape × Bool := if t.pos = (t.records.length : Int) then ([], passT t, false) else (recAt t, passT t, true)
theorem rec_get {t : Tape} (h : Pos t) (hn : ¬ t.pos = (t.records.length : Int)) : t.records[t.pos.toNat]? = some (recAt t) := by
  obtain ⟨h1, h2, h3⟩ := h
  have : t.pos.toNat < t.records.length := by omega
  simp [recAt, this]
theorem pass_def (t : Tape) (h : Pos t) : tape_pass t = some (passR t) := by
  obtain ⟨h1, h2, h3⟩ := id h
  simp only [tape_pass, Ttape_pass, Tree.run, passR, passT, decide_eq_true_eq]
  by_cases hn : t.pos = (t.records.length : Int)
  · simp [hn]
  · simp only [hn, if_false, h2, if_true, rec_get h hn, Option.bind_some, wrap_id (n := t.pos + 1) (by omega) (by omega)]
    cases hm : t.mark <;> simp
theorem passed_def (t : Tape) (h : Pos t) : ref17_passed t = some ((passR t).2.1, (passR t).2.2) := by
  obtain ⟨h1, h2, h3⟩ := id h
  simp only [ref17_passed, Tref17_passed, Tree.run, passR, passT, decide_eq_true_eq]
  by_cases hn : t.pos = (t.records.length : Int)
  · simp [hn]
  · have hn' : ¬ (t.records.length : Int) ≤ t.pos := by omega
    simp only [hn, hn', if_false, h2, if_true, rec_get h hn, Option.bind_some, wrap_id (n := t.pos + 1) (by omega) (by omega)]
    cases hm : t.mark <;> simp
def addT (t : Tape) (r : List UInt8) : Tape := if t.pos = 64 then { t with error := true, end_ := true } else { t with records := t.records.take t.pos.toNat ++ [r], pos := t.pos + 1 }
theorem added_def (t : Tape) (r : List UInt8) (h : Pos t) : tape_added t r = some (addT t r) := by
  obtain ⟨h1, h2, h3⟩ := id h
  have hlen : (t.records.take t.pos.toNat).length ≤ 64 := by rw [List.length_take]; omega
  have hc : cloneF 16 (t.records.take t.pos.toNat) = some (t.records.take t.pos.toNat) := by unfold cloneF; rw [if_pos (by omega)]
  have hc2 : ((t.records.take t.pos.toNat).length + [r].length) * 16 ≤ 140737488355328 := by simp only [List.length_cons, List.length_nil]; omega
  simp only [tape_added, Ttape_added, Tree.run, addT, decide_eq_true_eq, List.drop_zero, Nat.sub_zero, hc]
  by_cases hn : t.pos = 64
  · simp [hn]
  · simp only [hn, if_false, h2, h3, if_true, Option.bind_some, hc2, wrap_id (n := t.pos + 1) (by omega) (by omega)]
theorem appended_def (t : Tape) (r : List UInt8) (h : Pos t) : ref17_appended t r = some (addT t r) := by
  obtain ⟨h1, h2, h3⟩ := id h
  have hlen : (t.records.take t.pos.toNat).length ≤ 64 := by rw [List.length_take]; omega
  have hc1 : (([] : List (List UInt8)).length + (t.records.take t.pos.toNat).length) * 16 ≤ 140737488355328 := by simp only [List.length_nil]; omega
  have hc2 : ((t.records.take t.pos.toNat).length + [r].length) * 16 ≤ 140737488355328 := by simp only [List.length_cons, List.length_nil]; omega
  simp only [ref17_appended, Tref17_appended, Tree.run, addT, decide_eq_true_eq, List.drop_zero, Nat.sub_zero, List.nil_append]
  by_cases hn : t.pos = 64
  · simp [hn]
  · have hn' : ¬ 64 ≤ t.pos := by omega
    simp only [hn, hn', if_false, h2, h3, if_true, hc1, hc2, wrap_id (n := t.pos + 1) (by omega) (by omega)]
/-! ### reading and writing records -/
/-- how many bytes are read -/
def cnt (t : Tape) : Nat := min t.count.toNat (recAt t).length
def fetchM (t : Tape) (m bad : List Int) : Tape × List Int × List Int := if t.pos = (t.records.length : Int) then (passT t, m, bad) else if Wn m t.addr (cnt t : Int) then ({ passT t with error := t.error || decide (t.count < ((recAt t).length : Int)), count := t.count - (cnt t : Int) }, storeL m t.addr ((recAt t).take (cnt t)), keepW t.addr (cnt t : Int) bad) else ({ passT t with error := true }, m, bad)
theorem cnt_min {t : Tape} (h0 : 0 ≤ t.count) : (if ((recAt t).length : Int) < t.count then ((recAt t).length : Int) else t.count) = ((cnt t : Nat) : Int) := by
  unfold cnt
  split <;> omega
/-- what a unit and a memory must be like for a tick -/
structure Fit (t : Tape) (m bad : List Int) : Prop where
  pos : Pos t
  long : ∀ r ∈ t.records, r.length ≤ 512
  cnt : 0 ≤ t.count ∧ t.count ≤ 65535
  addr : 0 ≤ t.addr ∧ t.addr ≤ 65535
  mem : Words m
  bad : Evens bad
theorem rec_long {t : Tape} (h : Pos t) (hl : ∀ r ∈ t.records, r.length ≤ 512) : (recAt t).length ≤ 512 := by
  by_cases hn : t.pos = (t.records.length : Int)
  · have : recAt t = [] := by
      unfold recAt
      rw [List.getD_eq_getElem?_getD, List.getElem?_eq_none (by omega)]; rfl
    rw [this]; simp
  · exact hl _ (List.mem_of_getElem? (rec_get h hn))
theorem fetch_def (t : Tape) (m bad : List Int) (h : Fit t m bad) : tape_fetch none t m bad = some (fetchM t m bad) := by
  obtain ⟨hp, hlong, hcnt, haddr, hm, hb⟩ := h
  have hr := rec_long hp hlong
  have hcb : cloneF 8 bad = some bad := by unfold cloneF; rw [if_pos (by have := hb.1; omega)]
  simp only [tape_fetch, Ttape_fetch, Tree.run, pass_def t hp, Option.bind_some, passR, fetchM]
  by_cases hn : t.pos = (t.records.length : Int)
  · simp [hn]
  · have e1 : (passT t).count = t.count := by unfold passT; rw [if_neg hn]
    have e2 : (passT t).addr = t.addr := by unfold passT; rw [if_neg hn]
    have e3 : (passT t).error = t.error := by unfold passT; rw [if_neg hn]
    have hk : cnt t ≤ (recAt t).length := Nat.min_le_right _ _
    have hk2 : (cnt t : Int) ≤ t.count := by unfold cnt; omega
    have hlen : ((recAt t).take (cnt t)).length = cnt t := by rw [List.length_take]; omega
    have h0 : (0 : Int) ≤ (cnt t : Int) := by omega
    have hle : (cnt t : Int) ≤ ((recAt t).length : Int) := by omega
    have hrng : Rng t.addr (cnt t : Int) := ⟨haddr.1, haddr.2, by omega, by omega⟩
    have hst := Store_def m t.addr ((recAt t).take (cnt t)) hm
    have hwi : tape_within t.addr (cnt t : Int) = some ((cnt t : Int), t.addr) := rfl
    simp only [hn, if_false, e1, e2, e3, cnt_min hcnt.1, Bool.not_true, Bool.false_eq_true, h0, hle, decide_true, if_true, List.drop_zero, Nat.sub_zero, Int.toNat_natCast, hst, Option.bind_some, storeM, hlen, hcb, hwi, wrap_id (n := t.count - (cnt t : Int)) (by omega) (by omega)]
    by_cases hw : Wn m t.addr (cnt t : Int)
    · simp only [hw, if_true, decide_true, Bool.not_true, Bool.false_eq_true, if_false]
      rcases DeleteFunc_def bad t.addr (cnt t : Int) hb hrng with ⟨d1, d2⟩ | ⟨k, b, d1, d2⟩
      · cases he : t.error <;> simp [d1, d2]
      · cases he : t.error <;> simp [d1, d2]
    · simp only [hw, if_false, show ¬ (2 : Int) = 0 by omega, decide_false, Bool.not_false, if_true]
      cases he : t.error <;> simp
theorem read_def (t : Tape) (m bad : List Int) (h : Fit t m bad) : ref17_read none t m bad = some (fetchM t m bad) := by
  obtain ⟨hp, hlong, hcnt, haddr, hm, hb⟩ := h
  have hr := rec_long hp hlong
  simp only [ref17_read, Tref17_read, Tree.run, passed_def t hp, Option.bind_some, passR, fetchM]
  by_cases hn : t.pos = (t.records.length : Int)
  · simp [hn]
  · have e1 : (passT t).count = t.count := by unfold passT; rw [if_neg hn]
    have e2 : (passT t).addr = t.addr := by unfold passT; rw [if_neg hn]
    have e3 : (passT t).error = t.error := by unfold passT; rw [if_neg hn]
    have e4 : (passT t).pos = t.pos + 1 := by unfold passT; rw [if_neg hn]
    have e5 : (passT t).records = t.records := by unfold passT; rw [if_neg hn]
    have hpos := hp.2.1
    have hp64 := hp.1
    have hp3 := hp.2.2
    have hk : cnt t ≤ (recAt t).length := Nat.min_le_right _ _
    have hk2 : (cnt t : Int) ≤ t.count := by unfold cnt; omega
    have hlen : ((recAt t).take (cnt t)).length = cnt t := by rw [List.length_take]; omega
    have h0 : (0 : Int) ≤ (cnt t : Int) := by omega
    have hle : (cnt t : Int) ≤ ((recAt t).length : Int) := by omega
    have hrng : Rng t.addr (cnt t : Int) := ⟨haddr.1, haddr.2, by omega, by omega⟩
    have hst := ref_Store_def m t.addr ((recAt t).take (cnt t)) hm
    have hcl := cleared_def bad t.addr (cnt t) hb hrng
    have e6 : IntKind.wrap .i64 (t.pos + 1 - 1) = t.pos := by rw [wrap_id (by omega) (by omega)]; omega
    simp only [hn, if_false, e1, e2, e3, e4, e5, e6, hpos, rec_get hp hn, cnt_min hcnt.1, Bool.not_true, Bool.false_eq_true, h0, hle, decide_true, if_true, List.drop_zero, Nat.sub_zero, Int.toNat_natCast, hst, Option.bind_some, storeM, hlen, hcl, wrap_id (n := t.count - (cnt t : Int)) (by omega) (by omega)]
    by_cases hw : Wn m t.addr (cnt t : Int)
    · cases he : t.error <;> simp [hw, passT, hn]
    · cases he : t.error <;> simp [hw, passT, hn]
def storeT (t : Tape) (m bad : List Int) : Tape := if Wn m t.addr t.count ∧ 1 ≤ t.count ∧ t.count ≤ 512 ∧ ¬ ∃ y ∈ bad, hitW t.addr t.count y = true then addT t (outB m t.addr t.count.toNat) else { t with error := true }
theorem strClone_def (s : List UInt8) (hs : s.length ≤ 100000) : strings_Clone s = some s := by
  have : internal_stringslite_Clone s = some s := by
    show strCloneF s = some s
    unfold strCloneF
    rw [if_pos (by omega)]
  simp only [strings_Clone, Tstrings_Clone, Tree.run, this, Option.bind_some]
theorem store_def (t : Tape) (m bad : List Int) (h : Fit t m bad) : tape_store none t m bad = some (storeT t m bad) := by
  obtain ⟨hp, hlong, hcnt, haddr, hm, hb⟩ := h
  have hrng : Rng t.addr t.count := ⟨haddr.1, haddr.2, hcnt.1, hcnt.2⟩
  have hwi : tape_within t.addr t.count = some (t.count, t.addr) := rfl
  simp only [tape_store, Ttape_store, Tree.run, Bytes_def m t.addr t.count hm.1, Option.bind_some, bytesM, storeT, long_def, hwi, ContainsFunc_def bad t.addr t.count hb hrng]
  by_cases hw : Wn m t.addr t.count
  · have hlen : (outB m t.addr t.count.toNat).length = t.count.toNat := outB_len _ _ _
    simp only [hw, if_true, decide_true, Bool.not_true, Bool.false_eq_true, if_false, true_and]
    by_cases h1 : 1 ≤ t.count
    · have hne : ¬ outB m t.addr t.count.toNat = [] := fun e => by rw [e] at hlen; simp at hlen; omega
      simp only [hne, decide_false, Bool.false_eq_true, if_false, h1, true_and, hlen]
      by_cases h2 : t.count ≤ 512
      · have h2' : ¬ 512 < ((t.count.toNat : Nat) : Int) := by omega
        simp only [h2, h2', decide_false, Bool.false_eq_true, if_false, true_and, strClone_def _ (show (outB m t.addr t.count.toNat).length ≤ 100000 by omega), added_def t _ hp, Option.bind_some]
        by_cases h3 : ∃ y ∈ bad, hitW t.addr t.count y = true
        · simp only [h3, decide_true, if_true, not_true, if_false]
        · simp only [h3, decide_false, Bool.false_eq_true, if_false, not_false_eq_true, if_true]
      · have h2' : 512 < ((t.count.toNat : Nat) : Int) := by omega
        simp only [h2, h2', decide_true, if_true, false_and, if_false]
    · have he : outB m t.addr t.count.toNat = [] := List.eq_nil_of_length_eq_zero (by omega)
      simp only [he, decide_true, if_true, h1, false_and, if_false]
  · simp [hw]
theorem write_def (t : Tape) (m bad : List Int) (h : Fit t m bad) : ref17_write none t m bad = some (storeT t m bad) := by
  obtain ⟨hp, hlong, hcnt, haddr, hm, hb⟩ := h
  have hrng : Rng t.addr ((t.count.toNat : Nat) : Int) := ⟨haddr.1, haddr.2, by omega, by omega⟩
  have hsp := spoilt_def bad t.addr t.count.toNat hb hrng
  rw [Int.toNat_of_nonneg hcnt.1] at hsp
  simp only [ref17_write, Tref17_write, Tree.run, ref_Bytes_def m t.addr t.count hm.1, Option.bind_some, bytesM, storeT, hsp, appended_def t _ hp]
  by_cases h1 : 1 ≤ t.count
  · have h1' : ¬ t.count < 1 := by omega
    simp only [h1, h1', decide_false, Bool.false_eq_true, if_false, true_and]
    by_cases h2 : t.count ≤ 512
    · have h2' : ¬ 512 < t.count := by omega
      simp only [h2, h2', decide_false, Bool.false_eq_true, if_false, true_and]
      by_cases hw : Wn m t.addr t.count
      · simp only [hw, if_true, decide_true, Bool.not_true, Bool.false_eq_true, if_false, true_and]
        by_cases h3 : ∃ y ∈ bad, hitW t.addr t.count y = true
        · simp only [h3, decide_true, if_true, not_true, if_false]
        · simp only [h3, decide_false, Bool.false_eq_true, if_false, not_false_eq_true, if_true]
      · simp [hw]
    · have h2' : 512 < t.count := by omega
      simp only [h2, h2', decide_true, if_true, false_and, and_false, if_false]
  · have h1' : t.count < 1 := by omega
    simp only [h1, h1', decide_true, if_true, false_and, and_false, if_false]
def backT (t : Tape) : Tape := if t.pos = 0 then { t with end_ := true } else { t with pos := t.pos - 1, mark := t.mark || decide (t.records.getD (t.pos - 1).toNat [] = []) }
theorem back_get {t : Tape} (h : Pos t) (hn : ¬ t.pos = 0) : t.records[(t.pos - 1).toNat]? = some (t.records.getD (t.pos - 1).toNat []) := by
  obtain ⟨h1, h2, h3⟩ := h
  have : (t.pos - 1).toNat < t.records.length := by omega
  rw [List.getD_eq_getElem?_getD, List.getElem?_eq_getElem this]; rfl
theorem back_def (t : Tape) (h : Pos t) : ref17_back t = some (backT t) := by
  obtain ⟨h1, h2, h3⟩ := id h
  simp only [ref17_back, Tref17_back, Tree.run, backT, decide_eq_true_eq]
  by_cases hn : t.pos = 0
  · simp [hn]
  · have h4 : 0 ≤ t.pos - 1 := by omega
    simp only [hn, if_false, wrap_id (n := t.pos - 1) (by omega) (by omega), h4, if_true, back_get h hn, Option.bind_some]
    cases hm : t.mark <;> simp
/-- a tick -/
def tickM (t : Tape) (m bad : List Int) : Tape × List Int × List Int := if t.left = 0 then (t, m, bad) else if 0 < t.left - 1 then ({ t with left := t.left - 1 }, m, bad) else
  if t.command = 1 then fetchM { t with ready := true, left := t.left - 1 } m bad
  else if t.command = 2 then (storeT { t with ready := true, left := t.left - 1 } m bad, m, bad)
  else if t.command = 3 then (passT { t with ready := true, left := t.left - 1 }, m, bad)
  else if t.command = 4 then (backT { t with ready := true, left := t.left - 1 }, m, bad)
  else if t.command = 5 then ({ t with ready := true, left := t.left - 1, pos := 0 }, m, bad)
  else if t.command = 6 then (addT { t with ready := true, left := t.left - 1 } [], m, bad)
  else ({ t with ready := true, left := t.left - 1 }, m, bad)
theorem passR_tape (t : Tape) : (passR t).2.1 = passT t := by unfold passR; split <;> rfl
theorem Tick_def (t : Tape) (m bad : List Int) (h : Fit t m bad) (hl : 0 ≤ t.left ∧ t.left ≤ 16) : tape_Tick none t m bad = some (tickM t m bad) := by
  have h2 : Fit { t with ready := true, left := t.left - 1 } m bad := ⟨h.pos, h.long, h.cnt, h.addr, h.mem, h.bad⟩
  have hp := h2.pos
  simp only [tape_Tick, Ttape_Tick, Tree.run, decide_eq_true_eq, tickM, wrap_id (n := t.left - 1) (by omega) (by omega), fetch_def _ m bad h2, store_def _ m bad h2, pass_def _ hp, added_def _ _ hp, Option.bind_some, passR_tape]
  by_cases h0 : t.left = 0
  · simp only [h0, if_true]
  · simp only [h0, if_false]
    by_cases h1 : 0 < t.left - 1
    · simp only [h1, if_true]
    · simp only [h1, if_false]
      by_cases c1 : t.command = 1
      · simp only [c1, if_true]
      · by_cases c2 : t.command = 2
        · simp only [c1, c2, if_true, if_false, show ¬ (2 : Int) = 1 by omega]
        · by_cases c3 : t.command = 3
          · simp only [c3, if_true, if_false, show ¬ (3 : Int) = 1 by omega, show ¬ (3 : Int) = 2 by omega]
          · by_cases c4 : t.command = 4
            · simp only [c4, if_true, if_false, show ¬ (4 : Int) = 1 by omega, show ¬ (4 : Int) = 2 by omega, show ¬ (4 : Int) = 3 by omega, backT]
              have hpos := h.pos
              by_cases hn : t.pos = 0
              · simp [hn]
              · have h4 : 0 ≤ t.pos - 1 := by have := hpos.2.1; omega
                have h5 := hpos.2.2; have h6 := hpos.1
                simp only [hn, if_false, wrap_id (n := t.pos - 1) (by omega) (by omega), h4, if_true, back_get hpos hn, Option.bind_some]
                cases hm : t.mark <;> simp
            · simp only [c1, c2, c3, c4, if_false]
              by_cases c5 : t.command = 5
              · simp only [c5, if_true]
              · by_cases c6 : t.command = 6
                · simp only [c6, if_true, if_false, show ¬ (6 : Int) = 5 by omega]
                · simp only [c5, c6, if_false]
theorem ref_Tick_def (t : Tape) (m bad : List Int) (h : Fit t m bad) (hl : 0 ≤ t.left ∧ t.left ≤ 16) : ref17_Tick none t m bad = some (tickM t m bad) := by
  have h2 : Fit { t with ready := true, left := t.left - 1 } m bad := ⟨h.pos, h.long, h.cnt, h.addr, h.mem, h.bad⟩
  have hp := h2.pos
  simp only [ref17_Tick, Tref17_Tick, Tree.run, decide_eq_true_eq, tickM, wrap_id (n := t.left - 1) (by omega) (by omega), read_def _ m bad h2, write_def _ m bad h2, passed_def _ hp, appended_def _ _ hp, back_def _ hp, Option.bind_some, passR_tape]
  by_cases h0 : t.left = 0
  · simp only [h0, if_true, Int.le_refl]
  · have h0' : ¬ t.left ≤ 0 := by omega
    simp only [h0, h0', if_false]
    by_cases h1 : 0 < t.left - 1
    · simp only [h1, if_true]
    · simp only [h1, if_false]
      by_cases c1 : t.command = 1
      · simp only [c1, if_true]
      · by_cases c2 : t.command = 2
        · simp only [c2, if_true, if_false, show ¬ (2 : Int) = 1 by omega]
        · by_cases c3 : t.command = 3
          · simp only [c3, if_true, if_false, show ¬ (3 : Int) = 1 by omega, show ¬ (3 : Int) = 2 by omega]
          · by_cases c4 : t.command = 4
            · simp only [c4, if_true, if_false, show ¬ (4 : Int) = 1 by omega, show ¬ (4 : Int) = 2 by omega, show ¬ (4 : Int) = 3 by omega]
            · by_cases c5 : t.command = 5
              · simp only [c5, if_true, if_false, show ¬ (5 : Int) = 1 by omega, show ¬ (5 : Int) = 2 by omega, show ¬ (5 : Int) = 3 by omega, show ¬ (5 : Int) = 4 by omega]
              · by_cases c6 : t.command = 6
                · simp only [c6, if_true, if_false, show ¬ (6 : Int) = 1 by omega, show ¬ (6 : Int) = 2 by omega, show ¬ (6 : Int) = 3 by omega, show ¬ (6 : Int) = 4 by omega, show ¬ (6 : Int) = 5 by omega]
                · simp only [c1, c2, c3, c4, c5, c6, if_false]
end Go.Proofs.Ytjhibcebipjbcaa
