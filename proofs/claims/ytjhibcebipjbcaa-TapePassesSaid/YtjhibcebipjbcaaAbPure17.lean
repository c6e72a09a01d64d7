/- Chapter 17: what the typed functions of the tape come to. -/
import Derived.Test.YtjhibcebipjbcaaAbMem17
set_option linter.unusedSimpArgs false
set_option linter.unusedVariables false
namespace Go.Proofs.Ytjhibcebipjbcaa
open Go Go.Ab
theorem alive_true : law17_alive none = some true := lelaw17_alive 2000 true (by kernel_rfl)
/-! ### lists of texts -/
theorem long_def (r : List UInt8) : tape_long r = some (decide (512 < (r.length : Int))) := rfl
theorem anyLong_def (l : List (List UInt8)) (hl : l.length ≤ 9223372036854775807) : slices_ContainsFunc_string_string none l = some (decide (∃ r ∈ l, 512 < r.length)) := by
  have hs := lim_scan (f := fun s => (Wslices_IndexFunc_string_string_0 s).run) (fun i : Nat => ⟨l, (l.length : Int), (i : Int)⟩) l.length (fun i => ∀ r, l[i]? = some r → r.length ≤ 512) (fun i => .inl (i : Int)) (.inr ())
    (fun i hi hp => by
      have hp' : ¬ 512 < (l[i].length : Int) := by have := hp l[i] (List.getElem?_eq_getElem hi); omega
      simp [Wslices_IndexFunc_string_string_0, Tree.run, hi, wrap_succ hi hl, long_def, hp'])
    (fun i hi hp => by
      have hp' : 512 < (l[i].length : Int) := by
        apply Classical.byContradiction
        intro hn
        exact hp fun r hr => by
          rw [List.getElem?_eq_getElem hi] at hr
          rw [← Option.some.inj hr]; omega
      simp [Wslices_IndexFunc_string_string_0, Tree.run, hi, long_def, hp'])
    (by simp [Wslices_IndexFunc_string_string_0, Tree.run])
  rcases hs with ⟨h1, h2⟩ | ⟨i, hi, h1, h2⟩
  · have h : Lslices_IndexFunc_string_string_0 none ⟨l, (l.length : Int), (0 : Int)⟩ = some (.inr ()) := h2
    have hn : ¬ ∃ r ∈ l, 512 < r.length := by
      rintro ⟨r, hr, hlt⟩
      obtain ⟨i, hi, he⟩ := List.mem_iff_getElem.1 hr
      have := h1 i hi r (by rw [List.getElem?_eq_getElem hi, he])
      omega
    simp only [slices_ContainsFunc_string_string, Tslices_ContainsFunc_string_string, slices_IndexFunc_string_string, Tslices_IndexFunc_string_string, Tree.run, h, hn]
    rfl
  · have h : Lslices_IndexFunc_string_string_0 none ⟨l, (l.length : Int), (0 : Int)⟩ = some (.inl (i : Int)) := h2
    have hn : ∃ r ∈ l, 512 < r.length := by
      apply Classical.byContradiction
      intro hn
      refine h1 fun r hr => ?_
      apply Classical.byContradiction
      intro hlt
      exact hn ⟨r, List.mem_of_getElem? hr, by omega⟩
    have h0 : (0 : Int) ≤ (i : Int) := by omega
    simp only [slices_ContainsFunc_string_string, Tslices_ContainsFunc_string_string, slices_IndexFunc_string_string, Tslices_IndexFunc_string_string, Tree.run, h, hn]
    simp
theorem SameTexts_def (a b : List (List UInt8)) (hl : a.length ≤ 9223372036854775807) : ref17_SameTexts none a b = some (decide (a = b)) := by
  by_cases hab : a.length = b.length
  · have hs := lim_scan (f := fun s => (Wref17_SameTexts_0 s).run) (fun i : Nat => ⟨a, b, (i : Int)⟩) a.length (fun i => a[i]? = b[i]?) (fun i => .inl false) (.inr ())
      (fun i hi hp => by
        have hi' : i < b.length := by omega
        have hp' : a[i] = b[i] := by
          rw [List.getElem?_eq_getElem hi, List.getElem?_eq_getElem hi'] at hp
          exact Option.some.inj hp
        simp [Wref17_SameTexts_0, Tree.run, hi, hi', wrap_succ hi hl, hp'])
      (fun i hi hp => by
        have hi' : i < b.length := by omega
        have hp' : ¬ a[i] = b[i] := by
          rw [List.getElem?_eq_getElem hi, List.getElem?_eq_getElem hi'] at hp
          exact fun h => hp (by rw [h])
        simp [Wref17_SameTexts_0, Tree.run, hi, hi', hp'])
      (by simp [Wref17_SameTexts_0, Tree.run])
    rcases hs with ⟨h1, h2⟩ | ⟨i, hi, h1, h2⟩
    · have h : Lref17_SameTexts_0 none ⟨a, b, (0 : Int)⟩ = some (.inr ()) := h2
      have he : a = b := List.ext_getElem? fun i => by
        by_cases hi : i < a.length
        · exact h1 i hi
        · rw [List.getElem?_eq_none (by omega), List.getElem?_eq_none (by omega)]
      simp [ref17_SameTexts, Tref17_SameTexts, Tree.run, h, hab]
      exact he
    · have h : Lref17_SameTexts_0 none ⟨a, b, (0 : Int)⟩ = some (.inl false) := h2
      have he : ¬ a = b := fun he => h1 (by rw [he])
      simp [ref17_SameTexts, Tref17_SameTexts, Tree.run, h, hab, he]
  · have he : ¬ a = b := fun h => hab (by rw [h])
    have hab' : ¬ (a.length : Int) = (b.length : Int) := by omega
    simp [ref17_SameTexts, Tref17_SameTexts, Tree.run, hab', he]
theorem Same_self (t : Tape) (hl : t.records.length ≤ 9223372036854775807) : ref17_Same none t t = some true := by
  simp [ref17_Same, Tref17_Same, Tree.run, SameTexts_def _ _ hl]
theorem SameReq_self (l : List Request) (hl : l.length ≤ 100) : ref14_SameRequests none l l = some true := by
  have hc := lim_count (f := fun s => (Wref14_SameRequests_0 s).run) (fun i : Nat => ⟨l, l, (i : Int)⟩) l.length (fun i hi => by
    have hw : IntKind.wrap .i64 ((i : Int) + 1) = ((i + 1 : Nat) : Int) := by rw [wrap_id] <;> omega
    simp [Wref14_SameRequests_0, Tree.run, hi, hw]) 0 (Nat.zero_le _)
  have hd : Lref14_SameRequests_0 none ⟨l, l, ((l.length : Nat) : Int)⟩ = some (.inr ()) := lim_done (by simp [Wref14_SameRequests_0, Tree.run])
  have h : Lref14_SameRequests_0 none ⟨l, l, (0 : Int)⟩ = some (.inr ()) := hc.trans hd
  simp only [ref14_SameRequests, Tref14_SameRequests, Tree.run, h]
  simp
/-! ### valid units -/
def RtT (t : Tape) : Prop := t.records.length ≤ 64 ∧ (∀ r ∈ t.records, r.length ≤ 512) ∧ (0 ≤ t.pos ∧ t.pos ≤ (t.records.length : Int)) ∧ (0 ≤ t.command ∧ t.command ≤ 6) ∧ (0 ≤ t.count ∧ t.count ≤ 65535) ∧ (0 ≤ t.addr ∧ t.addr ≤ 65535) ∧ (0 ≤ t.left ∧ t.left ≤ 16) ∧ (t.ready = true ↔ t.left = 0)
instance (t : Tape) : Decidable (RtT t) := by unfold RtT; infer_instance
theorem word_def (x : Int) : ref17_word x = some (decide (0 ≤ x ∧ x ≤ 65535)) := by
  simp only [ref17_word, Tref17_word, Tree.run]
  by_cases h : 0 ≤ x <;> simp [h]
theorem isWord_def (x : Int) : tape_isWord x = some (decide (0 ≤ x ∧ x ≤ 65535)) := by
  simp only [tape_isWord, Ttape_isWord, Tree.run, and65535, mask_fix x 65536 (by omega)]
  rw [Option.some.injEq, decide_eq_decide]
  omega
theorem ref_records (t : Tape) (hl : t.records.length ≤ 9223372036854775807) : Lref17_Right_0 none ⟨(0 : Int), t⟩ = some (if ∀ r ∈ t.records, r.length ≤ 512 then .inr t else .inl (false, t)) := by
  have hs := lim_scan (f := fun s => (Wref17_Right_0 s).run) (fun i : Nat => ⟨(i : Int), t⟩) t.records.length (fun i => ∀ r, t.records[i]? = some r → r.length ≤ 512) (fun i => .inl (false, t)) (.inr t)
    (fun i hi hp => by
      have hp' : ¬ 512 < (t.records[i].length : Int) := by have := hp t.records[i] (List.getElem?_eq_getElem hi); omega
      simp [Wref17_Right_0, Tree.run, hi, wrap_succ hi hl, hp'])
    (fun i hi hp => by
      have hp' : 512 < (t.records[i].length : Int) := by
        apply Classical.byContradiction
        intro hn
        exact hp fun r hr => by
          rw [List.getElem?_eq_getElem hi] at hr
          rw [← Option.some.inj hr]; omega
      simp [Wref17_Right_0, Tree.run, hi, hp'])
    (by simp [Wref17_Right_0, Tree.run])
  rcases hs with ⟨h1, h2⟩ | ⟨i, hi, h1, h2⟩
  · rw [if_pos]
    · exact h2
    · intro r hr
      obtain ⟨i, hi, he⟩ := List.mem_iff_getElem.1 hr
      exact h1 i hi r (by rw [List.getElem?_eq_getElem hi, he])
  · rw [if_neg]
    · exact h2
    · intro h
      exact h1 fun r hr => h r (List.mem_of_getElem? hr)
theorem beq_iff' (a b : Bool) : (a == b) = true ↔ (a = true ↔ b = true) := by cases a <;> cases b <;> simp
theorem ref_RightT_def (t : Tape) (hl : t.records.length ≤ 9223372036854775807) : ref17_Right none t = some (decide (RtT t)) := by
  simp only [ref17_Right, Tref17_Right, Tree.run, word_def, Option.bind_some, ref_records t hl]
  by_cases h1 : 64 < (t.records.length : Int)
  · have : ¬ RtT t := fun h => by have := h.1; omega
    simp [h1, this]
  by_cases h2 : t.pos < 0
  · have : ¬ RtT t := fun h => by have := h.2.2.1; omega
    simp [h1, h2, this]
  by_cases h3 : (t.records.length : Int) < t.pos
  · have : ¬ RtT t := fun h => by have := h.2.2.1; omega
    simp [h1, h2, h3, this]
  by_cases h4 : t.command < 0
  · have : ¬ RtT t := fun h => by have := h.2.2.2.1; omega
    simp [h1, h2, h3, h4, this]
  by_cases h5 : 6 < t.command
  · have : ¬ RtT t := fun h => by have := h.2.2.2.1; omega
    simp [h1, h2, h3, h4, h5, this]
  by_cases h6 : 0 ≤ t.count ∧ t.count ≤ 65535
  · by_cases h7 : 0 ≤ t.addr ∧ t.addr ≤ 65535
    · by_cases h8 : ∀ r ∈ t.records, r.length ≤ 512
      · rw [if_pos h8]
        by_cases h9 : 0 ≤ t.left
        · by_cases h10 : t.left ≤ 16
          · simp only [h1, h2, h3, h4, h5, h6, h7, h9, h10, decide_false, decide_true, Bool.false_eq_true, if_false, if_true, Bool.not_true, and_self, Sum.isLeft_inr, Sum.getRight?_inr, Option.bind_some]
            rw [Option.some.injEq, Bool.eq_iff_iff, beq_iff', decide_eq_true_eq, decide_eq_true_eq]
            unfold RtT
            constructor
            · intro h; exact ⟨by omega, h8, by omega, by omega, h6, h7, by omega, h⟩
            · intro h; exact h.2.2.2.2.2.2.2
          · have : ¬ RtT t := fun h => by have := h.2.2.2.2.2.2.1; omega
            simp [h1, h2, h3, h4, h5, h6, h7, h9, h10, this]
        · have : ¬ RtT t := fun h => by have := h.2.2.2.2.2.2.1; omega
          simp [h1, h2, h3, h4, h5, h6, h7, h9, this]
      · rw [if_neg h8]
        have : ¬ RtT t := fun h => h8 h.2.1
        simp [h1, h2, h3, h4, h5, h6, h7, this]
    · have : ¬ RtT t := fun h => h7 h.2.2.2.2.2.1
      simp [h1, h2, h3, h4, h5, h6, h7, this]
  · have : ¬ RtT t := fun h => h6 h.2.2.2.2.1
    simp [h1, h2, h3, h4, h5, h6, this]
theorem tape_Right_def (t : Tape) (hl : t.records.length ≤ 9223372036854775807) : tape_Right none t = some (decide (RtT t)) := by
  simp only [tape_Right, Ttape_Right, Tree.run, isWord_def, Option.bind_some, anyLong_def _ hl]
  by_cases h1 : 64 < (t.records.length : Int)
  · have : ¬ RtT t := fun h => by have := h.1; omega
    simp [h1, this]
  by_cases h8 : ∃ r ∈ t.records, 512 < r.length
  · have : ¬ RtT t := fun h => by
      obtain ⟨r, hr, hlt⟩ := h8
      have := h.2.1 r hr
      omega
    simp only [h1, h8, this, decide_true, decide_false, if_true, if_false, Bool.false_eq_true]
  have h8' : ∀ r ∈ t.records, r.length ≤ 512 := fun r hr => by
    apply Classical.byContradiction
    intro hn
    exact h8 ⟨r, hr, by omega⟩
  simp only [h1, h8, decide_false, if_false, Bool.false_eq_true]
  by_cases h2 : t.pos < 0
  · have : ¬ RtT t := fun h => by have := h.2.2.1; omega
    simp [h2, this]
  by_cases h3 : (t.records.length : Int) < t.pos
  · have : ¬ RtT t := fun h => by have := h.2.2.1; omega
    simp [h2, h3, this]
  by_cases h4 : 0 ≤ t.command
  · by_cases h5 : t.command ≤ 6
    · by_cases h6 : 0 ≤ t.count ∧ t.count ≤ 65535
      · by_cases h7 : 0 ≤ t.addr ∧ t.addr ≤ 65535
        · by_cases h9 : 0 ≤ t.left
          · by_cases h10 : t.left ≤ 16
            · simp only [h2, h3, h4, h5, h6, h7, h9, h10, decide_false, decide_true, Bool.false_eq_true, if_false, if_true, Bool.not_true, and_self, Option.bind_some]
              rw [Option.some.injEq, Bool.eq_iff_iff, beq_iff', decide_eq_true_eq, decide_eq_true_eq]
              unfold RtT
              constructor
              · intro h; exact ⟨by omega, h8', by omega, by omega, h6, h7, by omega, h⟩
              · intro h; exact h.2.2.2.2.2.2.2
            · have : ¬ RtT t := fun h => by have := h.2.2.2.2.2.2.1; omega
              simp [h2, h3, h4, h5, h6, h7, h9, h10, this]
          · have : ¬ RtT t := fun h => by have := h.2.2.2.2.2.2.1; omega
            simp [h2, h3, h4, h5, h6, h7, h9, this]
        · have : ¬ RtT t := fun h => h7 h.2.2.2.2.2.1
          simp [h2, h3, h4, h5, h6, h7, this]
      · have : ¬ RtT t := fun h => h6 h.2.2.2.2.1
        simp [h2, h3, h4, h5, h6, this]
    · have : ¬ RtT t := fun h => by have := h.2.2.2.1; omega
      simp [h2, h3, h4, h5, this]
  · have : ¬ RtT t := fun h => by have := h.2.2.2.1; omega
    simp [h2, h3, h4, this]
/-! ### New -/
def blank : Tape := Tape.mk [] 0 false false false false false 0 0 0 0
def newT (l : List (List UInt8)) : Tape × Int := if 64 < l.length then (blank, 12) else if ∃ r ∈ l, 512 < r.length then (blank, 7) else (Tape.mk l 0 false true false false false 0 0 0 0, 0)
theorem New_def (l : List (List UInt8)) (hl : l.length ≤ 100) : tape_New none l = some (newT l) := by
  simp only [tape_New, Ttape_New, Tree.run, anyLong_def l (by omega), Option.bind_some, newT]
  by_cases h : 64 < l.length
  · have h' : 64 < (l.length : Int) := by omega
    simp [h, h', blank]
  · have h' : ¬ 64 < (l.length : Int) := by omega
    have hc : cloneF 16 l = some l := by unfold cloneF; rw [if_pos (by omega)]
    simp only [h, h', decide_false, Bool.false_eq_true, if_false, hc, Option.bind_some, decide_eq_true_eq]
    by_cases h8 : ∃ r ∈ l, 512 < r.length
    · simp only [h8, if_true, blank]
    · simp only [h8, if_false]
theorem ref_New_def (l : List (List UInt8)) (hl : l.length ≤ 100) : ref17_New none l = some (newT l) := by
  have hs := lim_scan (f := fun s => (Wref17_New_0 s).run) (fun i : Nat => ⟨l, (i : Int), blank⟩) l.length (fun i => ∀ r, l[i]? = some r → r.length ≤ 512) (fun i => .inl (l, (7 : Int), blank)) (.inr (l, blank))
    (fun i hi hp => by
      have hp' : ¬ 512 < (l[i].length : Int) := by have := hp l[i] (List.getElem?_eq_getElem hi); omega
      simp [Wref17_New_0, Tree.run, hi, wrap_succ hi (show l.length ≤ 9223372036854775807 by omega), hp'])
    (fun i hi hp => by
      have hp' : 512 < (l[i].length : Int) := by
        apply Classical.byContradiction
        intro hn
        exact hp fun r hr => by
          rw [List.getElem?_eq_getElem hi] at hr
          rw [← Option.some.inj hr]; omega
      simp [Wref17_New_0, Tree.run, hi, hp', blank])
    (by simp [Wref17_New_0, Tree.run])
  simp only [ref17_New, Tref17_New, Tree.run, newT]
  by_cases h : 64 < l.length
  · have h' : 64 < (l.length : Int) := by omega
    simp [h, h', blank]
  · have h' : ¬ 64 < (l.length : Int) := by omega
    have hc : (([] : List (List UInt8)).length + l.length) * 16 ≤ 140737488355328 := by simp; omega
    simp only [h, h', decide_false, Bool.false_eq_true, if_false]
    rcases hs with ⟨h1, h2⟩ | ⟨i, hi, h1, h2⟩
    · have h3 : Lref17_New_0 none ⟨l, (0 : Int), Tape.mk [] 0 false false false false false 0 0 0 0⟩ = some (.inr (l, blank)) := h2
      have hn : ¬ ∃ r ∈ l, 512 < r.length := by
        rintro ⟨r, hr, hlt⟩
        obtain ⟨i, hi, he⟩ := List.mem_iff_getElem.1 hr
        have := h1 i hi r (by rw [List.getElem?_eq_getElem hi, he])
        omega
      simp only [h3, hn, if_false, Option.bind_some, Sum.isLeft_inr, Sum.getRight?_inr, Bool.false_eq_true, hc, decide_true, if_true, List.nil_append]
    · have h3 : Lref17_New_0 none ⟨l, (0 : Int), Tape.mk [] 0 false false false false false 0 0 0 0⟩ = some (.inl (l, (7 : Int), blank)) := h2
      have hn : ∃ r ∈ l, 512 < r.length := by
        apply Classical.byContradiction
        intro hn
        refine h1 fun r hr => ?_
        apply Classical.byContradiction
        intro hlt
        exact hn ⟨r, List.mem_of_getElem? hr, by omega⟩
      simp only [h3, hn, if_true, Option.bind_some, Sum.isLeft_inl, Sum.getLeft?_inl]
theorem newT_len (l : List (List UInt8)) (hl : l.length ≤ 100) : (newT l).1.records.length ≤ 100 := by
  unfold newT
  split
  · simp [blank]
  · split
    · simp [blank]
    · exact hl
/-! ### registers -/
theorem Requests_eq (t : Tape) : tape_Requests t = ref17_Requests t := by
  simp only [tape_Requests, Ttape_Requests, ref17_Requests, Tref17_Requests, Tree.run]
  cases t.enable <;> cases t.ready <;> rfl
theorem Requests_some (t : Tape) : ∃ l, ref17_Requests t = some l ∧ l.length ≤ 1 := by
  simp only [ref17_Requests, Tref17_Requests, Tree.run]
  cases t.enable <;> cases t.ready <;> exact ⟨_, rfl, by simp⟩
def acceptT (t : Tape) (v : Int) : Tape := { t with enable := t.enable && !decide (v = 164) }
theorem Accept_def (t : Tape) (v : Int) : tape_Accept t v = some (acceptT t v) := by
  obtain ⟨a, b, c, d, e, f, g, h, i, j, k⟩ := t
  simp only [tape_Accept, Ttape_Accept, Tree.run, acceptT]
  cases c <;> simp
theorem ref_Accept_def (t : Tape) (v : Int) : ref17_Accept t v = some (acceptT t v) := by
  obtain ⟨a, b, c, d, e, f, g, h, i, j, k⟩ := t
  simp only [ref17_Accept, Tref17_Accept, Tree.run, acceptT]
  by_cases hv : v = 164 <;> simp [hv]
def resetT (t : Tape) : Tape := Tape.mk t.records t.pos false true false false false 0 t.count t.addr 0
theorem Reset_def (t : Tape) : tape_Reset t = some (resetT t) := rfl
theorem ref_Reset_def (t : Tape) : ref17_Reset t = some (resetT t) := rfl
def mountT (t : Tape) : Tape := if t.left = 0 then { t with pos := 0 } else { t with pos := 0, left := 0, ready := true, error := true }
theorem Mount_def (t : Tape) : tape_Mount t = some (mountT t) := by
  simp only [tape_Mount, Ttape_Mount, Tree.run, mountT]
  by_cases h : t.left = 0 <;> simp [h]
theorem ref_Mount_def (t : Tape) : ref17_Mount t = some (mountT t) := Mount_def t
theorem bit_eq (b : Bool) (n : Int) : tape_bit b n = ref17_bit b n := rfl
theorem bit_def (b : Bool) (n : Int) : ref17_bit b n = some (if b then n else 0) := by cases b <;> rfl
end Go.Proofs.Ytjhibcebipjbcaa
