/- TapeReturns: plain. -/
import Derived.Test.YtjhibcebipjbcaaAbPure17e
set_option linter.unusedSimpArgs false
set_option linter.unusedVariables false
namespace Go.Proofs.Ytjhibcebipjbcaa
open Go Go.Ab
theorem at_def (t : Tape) (s : Store) (c a : Int) (h : Sm t s) (hr : t.ready = true) (hc : 0 ≤ c ∧ c ≤ 65535) (ha : 0 ≤ a ∧ a ≤ 65535) : law17_at t c a = some { t with count := c, addr := a } ∧ Sm { t with count := c, addr := a } s := by
  obtain ⟨hm, hb, ⟨h1, h2, h3, h4, h5, h6, h7, h8⟩, hs⟩ := h
  refine ⟨?_, hm, hb, ⟨h1, h2, h3, h4, hc, ha, h7, h8⟩, hs⟩
  have e1 : c % 65536 = c := by omega
  have e2 : a % 65536 = a := by omega
  simp only [law17_at, Tlaw17_at, Tree.run, tape_Write_def, Option.bind_some, writeT, show ¬ (2 : Int) = 0 by omega, show ¬ (4 : Int) = 0 by omega, show ¬ (4 : Int) = 2 by omega, if_false, if_true, hr, e1, e2]
theorem pf_law17_TapeReturns (x : Tape × (List Int) × Copy × Unit) (h : Glaw17_TapeReturns x) : law17_TapeReturns none x.1 x.2.1 x.2.2.1 = some true := by
  obtain ⟨t, m, c, u⟩ := x
  obtain ⟨r, hr, hs⟩ := small_def t (Store.mk m [])
  simp only [law17_TapeReturns, Tlaw17_TapeReturns, Tree.run, hr, Option.bind_some, decide_eq_true_eq]
  cases r with
  | false => rfl
  | true =>
    have hS := hs rfl
    simp only [Bool.not_true, Bool.false_eq_true, if_false]
    cases hrd : t.ready with
    | false => rfl
    | true =>
      have hlen : m.length ≤ 2048 := hS.1
      have hwm : IntKind.wrap .i64 ((2 : Int) * (m.length : Int)) = 2 * (m.length : Int) := wrap_id (by omega) (by omega)
      simp only [Bool.not_true, Bool.false_eq_true, if_false, hwm]
      by_cases q1 : 64 ≤ t.pos
      · simp only [q1, if_true]
      by_cases q2 : c.count < 1
      · simp only [q1, q2, if_true, if_false]
      by_cases q3 : 512 < c.count
      · simp only [q1, q2, q3, if_true, if_false]
      by_cases q4 : c.from_ < 0
      · simp only [q1, q2, q3, q4, if_true, if_false]
      by_cases q5 : c.to < 0
      · simp only [q1, q2, q3, q4, q5, if_true, if_false]
      have hw2 : IntKind.wrap .i64 (2 * (m.length : Int) - c.count) = 2 * (m.length : Int) - c.count := wrap_id (by omega) (by omega)
      simp only [hw2]
      by_cases q6 : 2 * (m.length : Int) - c.count < c.from_
      · simp only [q1, q2, q3, q4, q5, q6, if_true, if_false]
      by_cases q7 : 2 * (m.length : Int) - c.count < c.to
      · simp only [q1, q2, q3, q4, q5, q6, q7, if_true, if_false]
      simp only [q1, q2, q3, q4, q5, q6, q7, if_false]
      have hW : Words m := ⟨by omega, hS.2.2.2.2.1⟩
      have hwF : Wn m c.from_ c.count := ⟨by omega, by omega, by omega, by omega⟩
      have hwT : Wn m c.to c.count := ⟨by omega, by omega, by omega, by omega⟩
      have hpos := hS.2.2.1.2.2.1
      have h64 := hS.2.2.1.1
      have hB : memory_Bytes none m c.from_ c.count = some (outB m c.from_ c.count.toNat, 0) := by rw [Bytes_def m _ _ hW.1]; unfold bytesM; rw [if_pos hwF]
      generalize hrec : outB m c.from_ c.count.toNat = rec at *
      have hrl : rec.length = c.count.toNat := by rw [← hrec]; exact outB_len _ _ _
      obtain ⟨a1, s1⟩ := at_def t (Store.mk m []) c.count c.from_ hS hrd (by omega) (by omega)
      obtain ⟨a2, s2⟩ := cmd16_def _ _ 2 s1 hrd (by omega)
      rw [tick2] at a2 s2
      -- the record is written
      have hst : storeT (doneT { t with count := c.count, addr := c.from_ } 2) m [] = { doneT { t with count := c.count, addr := c.from_ } 2 with records := t.records.take t.pos.toNat ++ [rec], pos := t.pos + 1 } := by
        unfold storeT
        refine Eq.trans (if_pos (show Wn m c.from_ c.count ∧ 1 ≤ c.count ∧ c.count ≤ 512 ∧ ¬ ∃ y ∈ ([] : List Int), hitW c.from_ c.count y = true from ⟨hwF, by omega, by omega, by simp⟩)) ?_
        unfold addT
        refine Eq.trans (if_neg (show ¬ t.pos = 64 by omega)) ?_
        rw [← hrec]; rfl
      rw [hst] at a2 s2
      dsimp only at a2 s2
      generalize hA : ({ doneT { t with count := c.count, addr := c.from_ } 2 with records := t.records.take t.pos.toNat ++ [rec], pos := t.pos + 1 } : Tape) = A at a2 s2
      have A1 : A.records = t.records.take t.pos.toNat ++ [rec] := by rw [← hA]
      have A2 : A.pos = t.pos + 1 := by rw [← hA]
      have A3 : A.ready = true := by rw [← hA]; rfl
      have A4 : A.error = false := by rw [← hA]; rfl
      have A5 : (A.records.length : Int) = A.pos := by rw [A1, A2, List.length_append, List.length_take, List.length_cons, List.length_nil]; omega
      -- one back
      obtain ⟨a3, s3⟩ := cmd16_def _ _ 4 s2 A3 (by omega)
      rw [tick4] at a3 s3
      dsimp only at a3 s3
      generalize hBk : backT (doneT A 4) = B at a3 s3
      have hBk' : B = { doneT A 4 with pos := A.pos - 1, mark := (doneT A 4).mark || decide ((doneT A 4).records.getD ((doneT A 4).pos - 1).toNat [] = []) } := by
        rw [← hBk]; unfold backT; exact if_neg (show ¬ A.pos = 0 by omega)
      have B1 : B.records = A.records := by rw [hBk']; rfl
      have B2 : B.pos = t.pos := by rw [hBk']; show A.pos - 1 = t.pos; omega
      have B3 : B.ready = true := by rw [hBk']; rfl
      -- the record is read
      obtain ⟨a4, s4⟩ := at_def B (Store.mk m []) c.count c.to s3 B3 (by omega) (by omega)
      obtain ⟨a5, s5⟩ := cmd16_def _ _ 1 s4 B3 (by omega)
      rw [tick1] at a5
      have hrecB : recAt (doneT { B with count := c.count, addr := c.to } 1) = rec := by
        show B.records.getD B.pos.toNat [] = rec
        rw [B1, B2, A1, List.getD_eq_getElem?_getD, List.getElem?_append_right (by rw [List.length_take]; omega), List.length_take, show t.pos.toNat - min t.pos.toNat t.records.length = 0 by omega]; rfl
      have hcnt : cnt (doneT { B with count := c.count, addr := c.to } 1) = c.count.toNat := by
        unfold cnt; rw [hrecB, hrl]; show min c.count.toNat c.count.toNat = _; omega
      have hnp : ¬ B.pos = (B.records.length : Int) := by rw [B1, B2]; omega
      have hcN : ((c.count.toNat : Nat) : Int) = c.count := by omega
      have hfe : fetchM (doneT { B with count := c.count, addr := c.to } 1) m [] = ({ passT (doneT { B with count := c.count, addr := c.to } 1) with error := false, count := 0 }, storeL m c.to rec, []) := by
        unfold fetchM
        rw [if_neg (show ¬ (doneT { B with count := c.count, addr := c.to } 1).pos = ((doneT { B with count := c.count, addr := c.to } 1).records.length : Int) from hnp), hcnt, hrecB, hcN]
        refine Eq.trans (if_pos (show Wn m c.to c.count from hwT)) ?_
        have e1 : ((doneT { B with count := c.count, addr := c.to } 1).error || decide ((doneT { B with count := c.count, addr := c.to } 1).count < (rec.length : Int))) = false := by
          show (false || decide (c.count < (rec.length : Int))) = false
          rw [hrl, hcN]; simp
        have e2 : (doneT { B with count := c.count, addr := c.to } 1).count - c.count = 0 := by show c.count - c.count = 0; omega
        have e3 : rec.take c.count.toNat = rec := by rw [← hrl, List.take_length]
        rw [e1, e2, e3]; rfl
      rw [hfe] at a5
      have hpp : (passT (doneT { B with count := c.count, addr := c.to } 1)).pos = t.pos + 1 := by
        unfold passT
        rw [if_neg (show ¬ (doneT { B with count := c.count, addr := c.to } 1).pos = ((doneT { B with count := c.count, addr := c.to } 1).records.length : Int) from hnp)]
        show B.pos + 1 = _
        rw [B2]
      have hB2 : memory_Bytes none (storeL m c.to rec) c.to c.count = some (rec, 0) := by
        rw [Bytes_def _ _ _ (by rw [storeL_len]; exact hW.1)]
        unfold bytesM
        rw [if_pos (show Wn (storeL m c.to rec) c.to c.count by obtain ⟨w1, w2, w3, w4⟩ := hwT; exact ⟨w1, w2, by rw [storeL_len]; exact w3, by rw [storeL_len]; exact w4⟩)]
        have := outB_store m c.to rec hW (by omega) (by rw [hrl]; omega)
        rw [hrl] at this
        rw [this]
      clear hfe
      generalize passT (doneT { B with count := c.count, addr := c.to } 1) = PT at a5 hpp
      have hw3 : IntKind.wrap .i64 (t.pos + 1) = t.pos + 1 := wrap_id (by omega) (by omega)
      dsimp only at a5
      simp only [hB, Option.bind_some, a1, a2, a3, a4, a5, hB2]
      simp only [decide_true, if_true, A4, A2, A5, B2, hpp, hw3, Bool.not_false, alive_true, Option.bind_some]
end Go.Proofs.Ytjhibcebipjbcaa
