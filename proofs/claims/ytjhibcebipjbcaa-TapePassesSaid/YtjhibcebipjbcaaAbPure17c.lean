/- Chapter 17: ticks. -/
import Derived.Test.YtjhibcebipjbcaaAbPure17b
set_option linter.unusedSimpArgs false
set_option linter.unusedVariables false
namespace Go.Proofs.Ytjhibcebipjbcaa
open Go Go.Ab
/-! ### the bad words of a range -/
def hitW (a n y : Int) : Bool := decide (0 < n ∧ a ≤ y + 1 ∧ y < a + n)
/-- addresses of which some is asked -/
def Evens (l : List Int) : Prop := l.length ≤ 100000 ∧ ∀ y ∈ l, 0 ≤ y ∧ y ≤ 1000000 ∧ y % 2 = 0
def Rng (a n : Int) : Prop := 0 ≤ a ∧ a ≤ 65535 ∧ 0 ≤ n ∧ n ≤ 65535
theorem within1_def {a n y : Int} (hr : Rng a n) (hy : 0 ≤ y ∧ y ≤ 1000000) : tape_within_1 y n a = some (hitW a n y) := by
  obtain ⟨h0, h1, h2, h3⟩ := hr
  simp only [tape_within_1, Ttape_within_1, Tree.run, wrap_id (n := y + 1) (by omega) (by omega), wrap_id (n := a + n) (by omega) (by omega), hitW]
  by_cases h4 : 0 < n
  · by_cases h5 : a ≤ y + 1
    · simp [h4, h5]
    · simp [h4, h5]
  · simp [h4]
theorem mem_get {l : List Int} {i : Nat} (hi : i < l.length) : l[i] ∈ l := List.getElem_mem hi
theorem IndexFunc_def (l : List Int) (a n : Int) (hl : Evens l) (hr : Rng a n) : ((∀ i, (h : i < l.length) → hitW a n l[i] = false) ∧ slices_IndexFunc_int_int none l n a = some (-1, l, n, a)) ∨ ∃ k, ∃ h : k < l.length, (∀ i, (h : i < k) → (h' : i < l.length) → hitW a n l[i] = false) ∧ hitW a n l[k] = true ∧ slices_IndexFunc_int_int none l n a = some ((k : Int), l, n, a) := by
  have hs := lim_scan1 (f := fun s => (Wslices_IndexFunc_int_int_0 s).run) (fun i : Nat => ⟨(l.length : Int), (i : Int), l, n, a⟩) l.length (fun i => ∀ h : i < l.length, hitW a n l[i] = false) (fun i => .inl ((i : Int), l, n, a)) (.inr (l, n, a))
    (fun i hi hp => by
      have := hl.1; have h2 := hl.2 _ (mem_get hi)
      simp [Wslices_IndexFunc_int_int_0, Tree.run, hi, wrap_succ hi (show l.length ≤ 9223372036854775807 by omega), within1_def hr ⟨h2.1, h2.2.1⟩, hp hi])
    (fun i hi hp => by
      have h2 := hl.2 _ (mem_get hi)
      have hp' : hitW a n l[i] = true := by
        cases h : hitW a n l[i]
        · exact absurd (fun _ => h) hp
        · rfl
      simp [Wslices_IndexFunc_int_int_0, Tree.run, hi, within1_def hr ⟨h2.1, h2.2.1⟩, hp'])
    (by simp [Wslices_IndexFunc_int_int_0, Tree.run])
  rcases hs with ⟨h2, h3⟩ | ⟨i, hi, h2, h3, h4⟩
  · have h : Lslices_IndexFunc_int_int_0 none ⟨(l.length : Int), (0 : Int), l, n, a⟩ = some (.inr (l, n, a)) := h3
    exact .inl ⟨fun i hi => h2 i hi hi, by simp [slices_IndexFunc_int_int, Tslices_IndexFunc_int_int, Tree.run, h]⟩
  · have h : Lslices_IndexFunc_int_int_0 none ⟨(l.length : Int), (0 : Int), l, n, a⟩ = some (.inl ((i : Int), l, n, a)) := h4
    refine .inr ⟨i, hi, fun j hj hjl => h2 j hj hjl, ?_, by simp [slices_IndexFunc_int_int, Tslices_IndexFunc_int_int, Tree.run, h]⟩
    cases hh : hitW a n l[i]
    · exact absurd (fun _ => hh) h3
    · rfl
def keepW (a n : Int) (l : List Int) : List Int := l.filter fun y => !hitW a n y
theorem keepW_take_eq {l : List Int} {a n : Int} {k : Nat} (h : ∀ i, i < k → (h' : i < l.length) → hitW a n l[i] = false) : keepW a n (l.take k) = l.take k := by
  unfold keepW
  rw [List.filter_eq_self]
  intro y hy
  obtain ⟨i, hi, he⟩ := List.mem_iff_getElem.1 hy
  rw [List.getElem_take] at he
  have hlt : i < k := by rw [List.length_take] at hi; omega
  have := h i hlt (by rw [List.length_take] at hi; omega)
  rw [he] at this
  simp [this]
theorem keepW_more {l : List Int} {a n : Int} {i : Nat} (hi : i < l.length) : keepW a n (l.take (i + 1)) = keepW a n (l.take i) ++ (if hitW a n l[i] = true then [] else [l[i]]) := by
  rw [take_one_more hi]
  unfold keepW
  rw [List.filter_append]
  cases he : hitW a n l[i] <;> simp [he]
theorem delete_loop (l : List Int) (a n : Int) (hl : Evens l) (hr : Rng a n) (i j : Nat) (b : List Int) (hb : b.length = l.length) (hd : b.drop i = l.drop i) (ht : b.take j = keepW a n (l.take i)) (hji : j ≤ i) (hi : i ≤ l.length) :
    ∃ (k : Nat) (b' : List Int), Lslices_DeleteFunc_int_int_0 none ⟨(j : Int), (i : Int), b, n, a⟩ = some ((k : Int), b', n, a) ∧ k ≤ l.length ∧ b'.length = l.length ∧ b'.take k = keepW a n l := by
  obtain ⟨r, hr', k, b', e1, e2, e3, e4⟩ := lim_rule (f := fun s => (Wslices_DeleteFunc_int_int_0 s).run)
    (fun s => ∃ (i j : Nat) (b : List Int), s = ⟨(j : Int), (i : Int), b, n, a⟩ ∧ b.length = l.length ∧ b.drop i = l.drop i ∧ b.take j = keepW a n (l.take i) ∧ j ≤ i ∧ i ≤ l.length)
    (fun r => ∃ (k : Nat) (b' : List Int), r = ((k : Int), b', n, a) ∧ k ≤ l.length ∧ b'.length = l.length ∧ b'.take k = keepW a n l)
    (fun s => l.length - s.t6.toNat)
    (by
      rintro s ⟨i, j, b, rfl, hb, hd, ht, hji, hi⟩
      have hlen := hl.1
      by_cases hlt : i < l.length
      · have hib : i < b.length := by omega
        have he : b[i] = l[i] := by
          have h2 := congrArg (fun x => x[0]?) hd
          simp only [List.getElem?_drop, Nat.add_zero] at h2
          rw [List.getElem?_eq_getElem hib, List.getElem?_eq_getElem hlt] at h2
          exact Option.some.inj h2
        have hd' : b.drop (i + 1) = l.drop (i + 1) := by
          have h2 := congrArg (List.drop 1) hd
          rwa [List.drop_drop, List.drop_drop] at h2
        have h2 := hl.2 _ (mem_get hlt)
        have hw := within1_def hr (y := l[i]) ⟨h2.1, h2.2.1⟩
        right
        cases hp : hitW a n l[i]
        · have hjb : j < b.length := by omega
          have hjl : j < l.length := by omega
          refine ⟨⟨((j + 1 : Nat) : Int), ((i + 1 : Nat) : Int), b.set j l[i], n, a⟩, ?_, ⟨i + 1, j + 1, b.set j l[i], rfl, by rw [List.length_set]; exact hb, ?_, ?_, by omega, hlt⟩, ?_⟩
          · simp [Wslices_DeleteFunc_int_int_0, Tree.run, hb, hlt, hjl, hib, hjb, he, wrap_succ hlt (show l.length ≤ 9223372036854775807 by omega), wrap_succ hjl (show l.length ≤ 9223372036854775807 by omega), hw, hp]
          · rw [List.drop_set_of_lt (by omega)]; exact hd'
          · rw [keepW_more hlt, hp, if_neg (by simp), ← ht, take_one_more (by rw [List.length_set]; exact hjb), List.take_set_of_le (Nat.le_refl _)]
            simp
          · simp; omega
        · refine ⟨⟨(j : Int), ((i + 1 : Nat) : Int), b, n, a⟩, ?_, ⟨i + 1, j, b, rfl, hb, hd', ?_, by omega, hlt⟩, ?_⟩
          · simp [Wslices_DeleteFunc_int_int_0, Tree.run, hb, hlt, hib, he, wrap_succ hlt (show l.length ≤ 9223372036854775807 by omega), hw, hp]
          · rw [keepW_more hlt, hp, if_pos rfl, List.append_nil]; exact ht
          · simp; omega
      · left
        have hil : i = l.length := by omega
        refine ⟨((j : Int), b, n, a), ?_, j, b, rfl, by omega, hb, ?_⟩
        · simp [Wslices_DeleteFunc_int_int_0, Tree.run, hb, hil]
        · rw [ht, hil, List.take_length])
    ⟨(j : Int), (i : Int), b, n, a⟩ ⟨i, j, b, rfl, hb, hd, ht, hji, hi⟩
  subst e1
  exact ⟨k, b', hr', e2, e3, e4⟩
theorem DeleteFunc_def (l : List Int) (a n : Int) (hl : Evens l) (hr : Rng a n) : slices_DeleteFunc_int_int none l n a = some (.inl (l, n, a)) ∧ keepW a n l = l ∨ ∃ k b, slices_DeleteFunc_int_int none l n a = some (.inr ((0, k), b, n, a)) ∧ b.take k = keepW a n l := by
  rcases IndexFunc_def l a n hl hr with ⟨h2, h3⟩ | ⟨k, hk, h2, h3, h4⟩
  · left
    have := keepW_take_eq (k := l.length) fun i _ h => h2 i h
    rw [List.take_length] at this
    exact ⟨by simp [slices_DeleteFunc_int_int, Tslices_DeleteFunc_int_int, Tree.run, h3], this⟩
  · right
    have hlen := hl.1
    obtain ⟨m, b, e1, e2, e3, e4⟩ := delete_loop l a n hl hr (k + 1) k l rfl rfl (by rw [keepW_more hk, if_pos h3, List.append_nil, keepW_take_eq h2]) (by omega) hk
    have e1' : Lslices_DeleteFunc_int_int_0 none ⟨(k : Int), IntKind.wrap .i64 ((k : Int) + 1), l, n, a⟩ = some ((m : Int), b, n, a) := by
      rw [wrap_succ hk (by omega)]; exact e1
    refine ⟨m, b.take m ++ List.replicate (b.length - m) 0, ?_, ?_⟩
    · have hne : ¬ (k : Int) = -1 := by omega
      have hdrop : b.drop (m + (b.length - m)) = [] := List.drop_eq_nil_of_le (by omega)
      simp [slices_DeleteFunc_int_int, Tslices_DeleteFunc_int_int, Tree.run, h4, e1', hne, hdrop]
      omega
    · rw [List.take_append_of_le_length (by rw [List.length_take]; omega), List.take_take, Nat.min_self]
      exact e4
theorem IndexFunc2_def (l : List Int) (a n : Int) (hl : Evens l) (hr : Rng a n) : ∃ r, slices_IndexFunc_int_int_V2 none l n a = some (r, n, a) ∧ (0 ≤ r ↔ ∃ y ∈ l, hitW a n y = true) := by
  have hs := lim_scan1 (f := fun s => (Wslices_IndexFunc_int_int_V2_0 s).run) (fun i : Nat => ⟨l, (l.length : Int), (i : Int), n, a⟩) l.length (fun i => ∀ h : i < l.length, hitW a n l[i] = false) (fun i => .inl ((i : Int), n, a)) (.inr (n, a))
    (fun i hi hp => by
      have := hl.1; have h2 := hl.2 _ (mem_get hi)
      simp [Wslices_IndexFunc_int_int_V2_0, Tree.run, hi, wrap_succ hi (show l.length ≤ 9223372036854775807 by omega), within1_def hr ⟨h2.1, h2.2.1⟩, hp hi])
    (fun i hi hp => by
      have h2 := hl.2 _ (mem_get hi)
      have hp' : hitW a n l[i] = true := by
        cases h : hitW a n l[i]
        · exact absurd (fun _ => h) hp
        · rfl
      simp [Wslices_IndexFunc_int_int_V2_0, Tree.run, hi, within1_def hr ⟨h2.1, h2.2.1⟩, hp'])
    (by simp [Wslices_IndexFunc_int_int_V2_0, Tree.run])
  rcases hs with ⟨h2, h3⟩ | ⟨i, hi, h2, h3, h4⟩
  · have h : Lslices_IndexFunc_int_int_V2_0 none ⟨l, (l.length : Int), (0 : Int), n, a⟩ = some (.inr (n, a)) := h3
    refine ⟨-1, by simp [slices_IndexFunc_int_int_V2, Tslices_IndexFunc_int_int_V2, Tree.run, h], by omega, ?_⟩
    rintro ⟨y, hy, hh⟩
    obtain ⟨i, hi, he⟩ := List.mem_iff_getElem.1 hy
    have := h2 i hi hi
    rw [he, hh] at this
    cases this
  · have h : Lslices_IndexFunc_int_int_V2_0 none ⟨l, (l.length : Int), (0 : Int), n, a⟩ = some (.inl ((i : Int), n, a)) := h4
    refine ⟨i, by simp [slices_IndexFunc_int_int_V2, Tslices_IndexFunc_int_int_V2, Tree.run, h], fun _ => ⟨l[i], mem_get hi, ?_⟩, fun _ => by omega⟩
    cases hh : hitW a n l[i]
    · exact absurd (fun _ => hh) h3
    · rfl
theorem ContainsFunc_def (l : List Int) (a n : Int) (hl : Evens l) (hr : Rng a n) : slices_ContainsFunc_int_int none l n a = some (decide (∃ y ∈ l, hitW a n y = true), n, a) := by
  obtain ⟨r, h1, h2⟩ := IndexFunc2_def l a n hl hr
  simp only [slices_ContainsFunc_int_int, Tslices_ContainsFunc_int_int, Tree.run, h1, Option.bind_some, h2]
/-! ### the reference's way: one byte after the other -/
theorem word_addr {a : Int} {i : Nat} (h0 : 0 ≤ a) (h1 : a + (i : Int) ≤ 1000000) : IntKind.wrap .i64 ((IntKind.wrap .i64 ((IntKind.wrap .i64 (a + (i : Int))).tdiv 2)) * 2) = (a + (i : Int)) / 2 * 2 := by
  rw [wrap_id (n := a + (i : Int)) (by omega) (by omega), half (by omega) (by omega), wrap_id (by omega) (by omega)]
theorem hitW_zero (a y : Int) : hitW a 0 y = false := by simp [hitW]
theorem hitW_succ (a y : Int) (k : Nat) (h0 : 0 ≤ a) (hy : y % 2 = 0) : hitW a ((k + 1 : Nat) : Int) y = (hitW a (k : Int) y || decide (y = (a + (k : Int)) / 2 * 2)) := by
  rw [Bool.eq_iff_iff]
  simp only [hitW, decide_eq_true_eq, Bool.or_eq_true]
  omega
theorem cleared_def (l : List Int) (a : Int) (n : Nat) (hl : Evens l) (hr : Rng a (n : Int)) : ref17_cleared none l a (n : Int) = some (keepW a (n : Int) l) := by
  obtain ⟨h0, h1, h2, h3⟩ := id hr
  have hc := lim_count (f := fun s => (Wref17_cleared_0 none s).run) (fun i : Nat => ⟨keepW a (i : Int) l, a, (n : Int), (i : Int)⟩) n (fun i hi => by
    have hlen : (keepW a (i : Int) l).length ≤ 100000 := Nat.le_trans (List.length_filter_le _ _) hl.1
    have hw := Without_def (keepW a (i : Int) l) ((a + (i : Int)) / 2 * 2) hlen
    have hk : without (keepW a (i : Int) l) ((a + (i : Int)) / 2 * 2) = keepW a ((i + 1 : Nat) : Int) l := by
      unfold without keepW
      rw [List.filter_filter]
      apply List.filter_congr
      intro y hy
      rw [hitW_succ a y i h0 (hl.2 y hy).2.2]
      cases hitW a (i : Int) y <;> simp
    have hi' : (i : Int) < (n : Int) := by omega
    simp only [Wref17_cleared_0, Tree.run, hi', decide_true, if_true, show ¬ (2 : Int) = 0 by omega, decide_false, Bool.false_eq_true, if_false, word_addr h0 (show a + (i : Int) ≤ 1000000 by omega), hw, Option.bind_some, hk, wrap_succ hi (show n ≤ 9223372036854775807 by omega)]) 0 (Nat.zero_le _)
  have hd : Lref17_cleared_0 none ⟨keepW a (n : Int) l, a, (n : Int), ((n : Nat) : Int)⟩ = some (keepW a (n : Int) l) := lim_done (by simp [Wref17_cleared_0, Tree.run])
  have h : Lref17_cleared_0 none ⟨keepW a ((0 : Nat) : Int) l, a, (n : Int), (0 : Int)⟩ = some (keepW a (n : Int) l) := hc.trans hd
  have hz : keepW a ((0 : Nat) : Int) l = l := by
    unfold keepW
    rw [List.filter_eq_self]
    intro y _
    simp [hitW]
  rw [hz] at h
  simp only [ref17_cleared, Tref17_cleared, Tree.run, h, Option.bind_some]
theorem spoilt_def (l : List Int) (a : Int) (n : Nat) (hl : Evens l) (hr : Rng a (n : Int)) : ref17_spoilt none l a (n : Int) = some (decide (∃ y ∈ l, hitW a (n : Int) y = true)) := by
  obtain ⟨h0, h1, h2, h3⟩ := id hr
  have hs := lim_scan1 (f := fun s => (Wref17_spoilt_0 none s).run) (fun i : Nat => ⟨l, a, (n : Int), (i : Int)⟩) n (fun i => ¬ (a + (i : Int)) / 2 * 2 ∈ l) (fun i => .inl true) (.inr ())
    (fun i hi hp => by
      have hi' : (i : Int) < (n : Int) := by omega
      have := hl.1
      simp only [Wref17_spoilt_0, Tree.run, hi', decide_true, if_true, show ¬ (2 : Int) = 0 by omega, decide_false, Bool.false_eq_true, if_false, word_addr h0 (show a + (i : Int) ≤ 1000000 by omega), Has_def l _ (show l.length ≤ 9223372036854775807 by omega), Option.bind_some, hp, wrap_succ hi (show n ≤ 9223372036854775807 by omega)])
    (fun i hi hp => by
      have hi' : (i : Int) < (n : Int) := by omega
      have := hl.1
      have hp' : (a + (i : Int)) / 2 * 2 ∈ l := Decidable.not_not.1 hp
      simp only [Wref17_spoilt_0, Tree.run, hi', decide_true, if_true, show ¬ (2 : Int) = 0 by omega, decide_false, Bool.false_eq_true, if_false, word_addr h0 (show a + (i : Int) ≤ 1000000 by omega), Has_def l _ (show l.length ≤ 9223372036854775807 by omega), Option.bind_some, hp'])
    (by simp [Wref17_spoilt_0, Tree.run])
  rcases hs with ⟨h4, h5⟩ | ⟨i, hi, -, h4, h5⟩
  · have h : Lref17_spoilt_0 none ⟨l, a, (n : Int), (0 : Int)⟩ = some (.inr ()) := h5
    have hn : ¬ ∃ y ∈ l, hitW a (n : Int) y = true := by
      rintro ⟨y, hy, hh⟩
      have he := (hl.2 y hy).2.2
      simp only [hitW, decide_eq_true_eq] at hh
      by_cases hya : a ≤ y
      · refine h4 (y - a).toNat (by omega) ?_
        rw [show (a + ((y - a).toNat : Int)) / 2 * 2 = y by omega]; exact hy
      · refine h4 0 (by omega) ?_
        rw [show (a + ((0 : Nat) : Int)) / 2 * 2 = y by omega]; exact hy
    simp only [ref17_spoilt, Tref17_spoilt, Tree.run, h, hn]
    rfl
  · have h : Lref17_spoilt_0 none ⟨l, a, (n : Int), (0 : Int)⟩ = some (.inl true) := h5
    have hm : (a + (i : Int)) / 2 * 2 ∈ l := Decidable.not_not.1 h4
    have hn : ∃ y ∈ l, hitW a (n : Int) y = true := ⟨_, hm, by simp only [hitW, decide_eq_true_eq]; omega⟩
    simp only [ref17_spoilt, Tref17_spoilt, Tree.run, h, hn]
    rfl
end Go.Proofs.Ytjhibcebipjbcaa
