/- TapeStays: plain. -/
import Derived.Test.YtjhibcebipjbcaaAbPure17n3
set_option linter.unusedSimpArgs false
set_option linter.unusedVariables false
namespace Go.Proofs.Ytjhibcebipjbcaa
open Go Go.Ab
theorem bads_pair (n : Nat) (bad : List Int) : Bads n bad ↔ bad.Pairwise (· < ·) ∧ ∀ y ∈ bad, 0 ≤ y ∧ y < 2 * (n : Int) ∧ y % 2 = 0 := by
  constructor
  · intro h
    refine ⟨List.pairwise_iff_getElem.2 fun i j hi hj hij => ?_, fun y hy => ?_⟩
    · induction j with
      | zero => omega
      | succ j ih =>
        have h1 := (h (j + 1) hj).2.2.2 (by omega)
        simp only [Nat.add_sub_cancel] at h1
        by_cases he : i = j
        · subst he; exact h1
        · exact Int.lt_trans (ih (by omega) (by omega)) h1
    · obtain ⟨i, hi, he⟩ := List.mem_iff_getElem.1 hy
      obtain ⟨h1, h2, h3, _⟩ := h i hi
      rw [he] at h1 h2 h3
      exact ⟨h1, h2, h3⟩
  · rintro ⟨h1, h2⟩ i hi
    obtain ⟨h3, h4, h5⟩ := h2 _ (List.getElem_mem hi)
    exact ⟨h3, h4, h5, fun h' => List.pairwise_iff_getElem.1 h1 (i - 1) i (by omega) hi (by omega)⟩
theorem bads_filter {n : Nat} {bad : List Int} (p : Int → Bool) (h : Bads n bad) : Bads n (bad.filter p) := by
  rw [bads_pair] at h ⊢
  exact ⟨h.1.filter p, fun y hy => h.2 y (List.mem_filter.1 hy).1⟩
theorem RtT_cmd (t : Tape) (v : Int) (h : RtT t) : RtT (cmdT t v) := by
  obtain ⟨h1, h2, h3, h4, h5, h6, h7, h8⟩ := h
  unfold cmdT
  split
  · rename_i hc
    split
    · exact ⟨h1, h2, h3, ⟨by dsimp only; omega, by dsimp only; omega⟩, h5, h6, h7, h8⟩
    · exact ⟨h1, h2, h3, ⟨by dsimp only; omega, by dsimp only; omega⟩, h5, h6, ⟨by dsimp only; omega, by dsimp only; omega⟩, by simp⟩
  · exact ⟨h1, h2, h3, h4, h5, h6, h7, h8⟩
theorem RtT_write (t : Tape) (r v : Int) (h : RtT t) : RtT (writeT t r v).1 := by
  have h0 := h
  obtain ⟨h1, h2, h3, h4, h5, h6, h7, h8⟩ := h
  unfold writeT
  split
  · exact RtT_cmd t v h0
  · split
    · dsimp only
      split
      · exact ⟨h1, h2, h3, h4, ⟨by dsimp only; omega, by dsimp only; omega⟩, h6, h7, h8⟩
      · exact h0
    · split
      · dsimp only
        split
        · exact ⟨h1, h2, h3, h4, h5, ⟨by dsimp only; omega, by dsimp only; omega⟩, h7, h8⟩
        · exact h0
      · exact h0
theorem RtT_accept (t : Tape) (v : Int) (h : RtT t) : RtT (acceptT t v) := h
theorem RtT_reset (t : Tape) (h : RtT t) : RtT (resetT t) := by
  obtain ⟨h1, h2, h3, h4, h5, h6, h7, h8⟩ := h
  exact ⟨h1, h2, h3, ⟨by simp [resetT], by simp [resetT]⟩, h5, h6, ⟨by simp [resetT], by simp [resetT]⟩, by simp [resetT]⟩
theorem RtT_mount (t : Tape) (h : RtT t) : RtT (mountT t) := by
  obtain ⟨h1, h2, h3, h4, h5, h6, h7, h8⟩ := h
  unfold mountT
  split
  · exact ⟨h1, h2, ⟨by dsimp only; omega, by dsimp only; omega⟩, h4, h5, h6, h7, h8⟩
  · exact ⟨h1, h2, ⟨by dsimp only; omega, by dsimp only; omega⟩, h4, h5, h6, ⟨by dsimp only; omega, by dsimp only; omega⟩, by simp⟩
/-- what a tick leaves to do: a unit that is ready -/
def RtD (t : Tape) : Prop := t.records.length ≤ 64 ∧ (∀ r ∈ t.records, r.length ≤ 512) ∧ (0 ≤ t.pos ∧ t.pos ≤ (t.records.length : Int)) ∧ (0 ≤ t.command ∧ t.command ≤ 6) ∧ (0 ≤ t.count ∧ t.count ≤ 65535) ∧ (0 ≤ t.addr ∧ t.addr ≤ 65535) ∧ t.left = 0 ∧ t.ready = true
theorem RtD.rt {t : Tape} (h : RtD t) : RtT t := by
  obtain ⟨h1, h2, h3, h4, h5, h6, h7, h8⟩ := h
  exact ⟨h1, h2, h3, h4, h5, h6, ⟨by omega, by omega⟩, by simp [h7, h8]⟩
theorem RtD_pass {t : Tape} (h : RtD t) : RtD (passT t) := by
  obtain ⟨h1, h2, h3, h4, h5, h6, h7, h8⟩ := h
  unfold passT
  split
  · exact ⟨h1, h2, h3, h4, h5, h6, h7, h8⟩
  · exact ⟨h1, h2, ⟨by dsimp only; omega, by dsimp only; omega⟩, h4, h5, h6, h7, h8⟩
theorem RtD_add {t : Tape} {r : List UInt8} (h : RtD t) (hr : r.length ≤ 512) : RtD (addT t r) := by
  obtain ⟨h1, h2, h3, h4, h5, h6, h7, h8⟩ := h
  unfold addT
  split
  · exact ⟨h1, h2, h3, h4, h5, h6, h7, h8⟩
  · have hl : (t.records.take t.pos.toNat ++ [r]).length = t.pos.toNat + 1 := by
      rw [List.length_append, List.length_take, List.length_cons, List.length_nil]; omega
    refine ⟨by dsimp only; rw [hl]; omega, fun x hx => ?_, ⟨by dsimp only; omega, by dsimp only; rw [hl]; omega⟩, h4, h5, h6, h7, h8⟩
    rcases List.mem_append.1 hx with hx | hx
    · exact h2 x (List.mem_of_mem_take hx)
    · rw [List.mem_singleton.1 hx]; exact hr
theorem RtD_back {t : Tape} (h : RtD t) : RtD (backT t) := by
  obtain ⟨h1, h2, h3, h4, h5, h6, h7, h8⟩ := h
  unfold backT
  split
  · exact ⟨h1, h2, h3, h4, h5, h6, h7, h8⟩
  · exact ⟨h1, h2, ⟨by dsimp only; omega, by dsimp only; omega⟩, h4, h5, h6, h7, h8⟩
theorem tick_sm {t : Tape} {s : Store} (h : Sm t s) : Sm (tickM t s.mem s.bad).1 (Store.mk (tickM t s.mem s.bad).2.1 (tickM t s.mem s.bad).2.2) := by
  obtain ⟨hm, hb, hr, hs⟩ := h
  have hr0 := hr
  obtain ⟨h1, h2, h3, h4, h5, h6, h7, h8⟩ := hr
  unfold tickM
  split
  · exact ⟨hm, hb, hr0, hs⟩
  · rename_i hl
    have hnr : t.ready = false := by
      cases hx : t.ready
      · rfl
      · exact absurd (h8.1 hx) hl
    split
    · refine ⟨hm, hb, ⟨h1, h2, h3, h4, h5, h6, ⟨by dsimp only; omega, by dsimp only; omega⟩, ?_⟩, hs⟩
      simp only [hnr]
      constructor
      · intro h; cases h
      · intro h; omega
    · have hd : RtD { t with ready := true, left := t.left - 1 } := ⟨h1, h2, h3, h4, h5, h6, by dsimp only; omega, rfl⟩
      generalize hT : ({ t with ready := true, left := t.left - 1 } : Tape) = T at hd
      have hmd : ∀ T', RtD T' → Sm T' s := fun T' h => ⟨hm, hb, h.rt, hs⟩
      split
      · unfold fetchM
        split
        · exact hmd _ (RtD_pass hd)
        · have hp := RtD_pass hd
          have e3 : (passT T).count = T.count := by unfold passT; split <;> rfl
          split
          · rename_i hw
            have hk2 : (cnt T : Int) ≤ T.count := by have := hd.2.2.2.2.1; unfold cnt; omega
            obtain ⟨q1, q2, q3, q4, q5, q6, q7, q8⟩ := hp
            have hlen : ((recAt T).take (cnt T)).length = cnt T := by
              have : cnt T ≤ (recAt T).length := Nat.min_le_right _ _
              rw [List.length_take]; omega
            have hww : Words s.mem := ⟨by omega, hs.2.1⟩
            have hst := storeL_words (s := (recAt T).take (cnt T)) hww hw.1 (by rw [hlen]; have := hw.2.2; omega)
            refine ⟨by rw [storeL_len]; exact hm, Nat.le_trans (keepW_len _ _ _) hb, RtD.rt ⟨q1, q2, q3, q4, ⟨by dsimp only; omega, by have := hd.2.2.2.2.1; dsimp only; omega⟩, q6, q7, q8⟩, ?_, hst.2, ?_⟩
            · show Sized (2 * ((storeL s.mem T.addr ((recAt T).take (cnt T))).length : Int))
              rw [storeL_len]; exact hs.1
            · show Bads (storeL s.mem T.addr ((recAt T).take (cnt T))).length _
              rw [storeL_len]; exact bads_filter _ hs.2.2
          · obtain ⟨q1, q2, q3, q4, q5, q6, q7, q8⟩ := hp
            exact hmd _ ⟨q1, q2, q3, q4, q5, q6, q7, q8⟩
      · split
        · refine hmd _ ?_
          unfold storeT
          split
          · rename_i hw
            exact RtD_add hd (by rw [outB_len]; have := hw.2.2.1; omega)
          · obtain ⟨q1, q2, q3, q4, q5, q6, q7, q8⟩ := hd
            exact ⟨q1, q2, q3, q4, q5, q6, q7, q8⟩
        · split
          · exact hmd _ (RtD_pass hd)
          · split
            · exact hmd _ (RtD_back hd)
            · split
              · refine hmd _ ?_
                exact ⟨h1, h2, ⟨by dsimp only; omega, by dsimp only; omega⟩, h4, h5, h6, by dsimp only; omega, rfl⟩
              · split
                · exact hmd _ (RtD_add hd (by simp))
                · exact hmd _ hd
theorem ticks16 (ds : List Deed) (i : Int) (t : Tape) (s : Store) (h : Sm t s) : ∃ t' s', Llaw17_TapeStays_1 none ⟨ds, i, (0 : Int), t, s⟩ = some (ds, i, t', s') ∧ Sm t' s' := by
  obtain ⟨r, hr, t', s', e, h'⟩ := lim_rule (f := fun st => (Wlaw17_TapeStays_1 none st).run)
    (fun st => ∃ (k : Nat) (t : Tape) (s : Store), st = ⟨ds, i, (k : Int), t, s⟩ ∧ k ≤ 16 ∧ Sm t s)
    (fun r => ∃ t' s', r = (ds, i, t', s') ∧ Sm t' s') (fun st => 16 - st.t9.toNat)
    (by
      rintro st ⟨k, t, s, rfl, hk, hs⟩
      by_cases hlt : k < 16
      · right
        have hlt' : (k : Int) < 16 := by omega
        refine ⟨⟨ds, i, ((k + 1 : Nat) : Int), (tickM t s.mem s.bad).1, Store.mk (tickM t s.mem s.bad).2.1 (tickM t s.mem s.bad).2.2⟩, ?_, ⟨k + 1, _, _, rfl, by omega, tick_sm hs⟩, ?_⟩
        · simp only [Wlaw17_TapeStays_1, Tree.run, hlt', decide_true, if_true, Tick_def t s.mem s.bad (fit_of hs) hs.2.2.1.2.2.2.2.2.2.1, Option.bind_some, wrap_succ hlt (show 16 ≤ 9223372036854775807 by omega)]
        · dsimp only; omega
      · left
        have hlt' : ¬ (k : Int) < 16 := by omega
        exact ⟨(ds, i, t, s), by simp only [Wlaw17_TapeStays_1, Tree.run, hlt', decide_false, Bool.false_eq_true, if_false], t, s, rfl, hs⟩)
    ⟨ds, i, (0 : Int), t, s⟩ ⟨0, t, s, rfl, by omega, h⟩
  exact ⟨t', s', by rw [← e]; exact hr, h'⟩
theorem right_sm {t : Tape} {s : Store} (h : Sm t s) : tape_Right none t = some true ∧ memory_Right none s.mem s.bad = some true := by
  obtain ⟨h1, h2, h3, h4⟩ := h
  exact ⟨by rw [tape_Right_def t (by have := h3.1; omega)]; simp [h3], by rw [mem_Right_def _ _ (by omega) (by omega)]; simp [h4]⟩
theorem stays (ds : List Deed) (hd : ds.length ≤ 40) (t : Tape) (s : Store) (h : Sm t s) : Llaw17_TapeStays_0 none ⟨ds, (0 : Int), t, s⟩ = some (.inr ()) := by
  obtain ⟨r, hr, e⟩ := lim_rule (f := fun st => (Wlaw17_TapeStays_0 none st).run)
    (fun st => ∃ (i : Nat) (t : Tape) (s : Store), st = ⟨ds, (i : Int), t, s⟩ ∧ i ≤ ds.length ∧ Sm t s)
    (fun r => r = .inr ()) (fun st => ds.length - st.t7.toNat)
    (by
      rintro st ⟨i, t, s, rfl, hi, hs⟩
      by_cases hlt : i < ds.length
      · right
        have hlt' : (i : Int) < (ds.length : Int) := by omega
        have h0 : (0 : Int) ≤ (i : Int) := by omega
        have hw := wrap_succ hlt (show ds.length ≤ 9223372036854775807 by omega)
        obtain ⟨hm, hb, hr, hR⟩ := id hs
        have fin : ∀ t' s', Sm t' s' → ∃ a', (some (.inl (⟨ds, ((i + 1 : Nat) : Int), t', s'⟩ : Slaw17_TapeStays_0)) : Option (Slaw17_TapeStays_0 ⊕ (Bool ⊕ Unit))) = some (.inl a') ∧ (∃ (i : Nat) (t : Tape) (s : Store), a' = ⟨ds, (i : Int), t, s⟩ ∧ i ≤ ds.length ∧ Sm t s) ∧ ds.length - a'.t7.toNat < ds.length - ((i : Nat) : Int).toNat := fun t' s' h' => ⟨_, rfl, ⟨i + 1, t', s', rfl, by omega, h'⟩, by dsimp only; omega⟩
        simp only [Wlaw17_TapeStays_0, Tree.run, hlt', h0, decide_true, if_true, Int.toNat_natCast, List.getElem?_eq_getElem hlt, Option.bind_some, decide_eq_true_eq, hw]
        generalize ds[i] = d
        have same : ∀ t', RtT t' → Sm t' s := fun t' h' => ⟨hm, hb, h', hR⟩
        split
        · have h' := same _ (RtT_write t d.reg d.n hr)
          obtain ⟨r1, r2⟩ := right_sm h'
          simp only [tape_Write_def, Option.bind_some, r1, r2, Bool.not_true, Bool.false_eq_true, if_false]
          exact fin _ _ h'
        · split
          · have h' := tick_sm hs
            obtain ⟨r1, r2⟩ := right_sm h'
            simp only [Tick_def t s.mem s.bad (fit_of hs) hr.2.2.2.2.2.2.1, Option.bind_some, r1, r2, Bool.not_true, Bool.false_eq_true, if_false]
            exact fin _ _ h'
          · split
            · obtain ⟨t', s', q1, h'⟩ := ticks16 ds (i : Int) t s hs
              obtain ⟨r1, r2⟩ := right_sm h'
              simp only [q1, Option.bind_some, r1, r2, Bool.not_true, Bool.false_eq_true, if_false, hw]
              exact fin _ _ h'
            · split
              · have h' := same _ (RtT_reset t hr)
                obtain ⟨r1, r2⟩ := right_sm h'
                simp only [Reset_def, Option.bind_some, r1, r2, Bool.not_true, Bool.false_eq_true, if_false]
                exact fin _ _ h'
              · split
                · have h' := same _ (RtT_mount t hr)
                  obtain ⟨r1, r2⟩ := right_sm h'
                  simp only [Mount_def, Option.bind_some, r1, r2, Bool.not_true, Bool.false_eq_true, if_false]
                  exact fin _ _ h'
                · split
                  · have h' := same _ (RtT_accept t d.n hr)
                    obtain ⟨r1, r2⟩ := right_sm h'
                    simp only [Accept_def, Option.bind_some, r1, r2, Bool.not_true, Bool.false_eq_true, if_false]
                    exact fin _ _ h'
                  · obtain ⟨r1, r2⟩ := right_sm hs
                    simp only [Option.bind_some, r1, r2, Bool.not_true, Bool.false_eq_true, if_false]
                    exact fin _ _ hs
      · left
        have hlt' : ¬ (i : Int) < (ds.length : Int) := by omega
        exact ⟨.inr (), by simp only [Wlaw17_TapeStays_0, Tree.run, hlt', decide_false, Bool.false_eq_true, if_false], rfl⟩)
    ⟨ds, (0 : Int), t, s⟩ ⟨0, t, s, rfl, by omega, h⟩
  subst e
  exact hr
theorem pf_law17_TapeStays (x : Tape × Store × (List Deed) × Unit) (h : Glaw17_TapeStays x) : law17_TapeStays none x.1 x.2.1 x.2.2.1 = some true := by
  obtain ⟨t, s, ds, u⟩ := x
  obtain ⟨r, hr, hs⟩ := small_def t s
  simp only [law17_TapeStays, Tlaw17_TapeStays, Tree.run, hr, Option.bind_some]
  cases r with
  | false => rfl
  | true =>
    by_cases hl : 40 < (ds.length : Int)
    · simp [hl]
    · have := stays ds (by omega) t s (hs rfl)
      simp only [hl, decide_false, Bool.not_true, Bool.false_eq_true, if_false, this, Option.bind_some, Sum.isLeft_inr, Sum.getRight?_inr, alive_true]
end Go.Proofs.Ytjhibcebipjbcaa
