/- MemoryMoves: plain. -/
import Derived.Test.YtnhhimlienefkaaAbPure08n4
set_option linter.unusedSimpArgs false
namespace Go.Proofs.Ytnhhimlienefkaa
open Go Go.Ab
theorem wordAt_set (m : List Int) (a w c : Int) (h0 : 0 ≤ a) (h1 : a < 2 * (m.length : Int)) (hc : 0 ≤ c) : wordAt (m.set (a / 2).toNat w) c = if a / 2 = c / 2 then w else wordAt m c := by
  unfold wordAt
  have hlt : (a / 2).toNat < m.length := by omega
  rw [List.getD_eq_getElem?_getD, List.getD_eq_getElem?_getD, List.getElem?_set]
  by_cases h : a / 2 = c / 2
  · rw [if_pos (by rw [h]), if_pos h, if_pos hlt]; rfl
  · rw [if_neg (by omega), if_neg h]
theorem byteAt_setB (m : List Int) (a b c : Int) (hm : Words m) (h0 : 0 ≤ a) (h1 : a < 2 * (m.length : Int)) (hb : 0 ≤ b ∧ b ≤ 255) (hc : 0 ≤ c) : byteAt (setB m a b) c = if c = a then b else byteAt m c := by
  have hw := word_in hm h0 h1
  unfold byteAt setB
  rw [wordAt_set m a _ c h0 h1 hc]
  by_cases h : a / 2 = c / 2
  · have he : wordAt m c = wordAt m a := by unfold wordAt; rw [h]
    rw [if_pos h, he]
    unfold putB
    by_cases h2 : c = a
    · subst h2
      rw [if_pos rfl]
      split <;> omega
    · rw [if_neg h2]
      by_cases h3 : a % 2 = 0
      · rw [if_pos h3, if_neg (show ¬ c % 2 = 0 by omega), if_neg (show ¬ c % 2 = 0 by omega)]
        omega
      · rw [if_neg h3, if_pos (show c % 2 = 0 by omega), if_pos (show c % 2 = 0 by omega)]
        omega
  · have hne : ¬ c = a := fun he => h (by rw [he])
    rw [if_neg h, if_neg hne]
theorem byteAt_storeL (m : List Int) (a : Int) (s : List UInt8) (hm : Words m) (h0 : 0 ≤ a) (h1 : a + (s.length : Int) ≤ 2 * (m.length : Int)) (c : Int) (hc : 0 ≤ c) : byteAt (storeL m a s) c = if a ≤ c ∧ c < a + (s.length : Int) then ((s.getD (c - a).toNat 0).toNat : Int) else byteAt m c := by
  induction s generalizing m a with
  | nil =>
    have : ¬ (a ≤ c ∧ c < a + (([] : List UInt8).length : Int)) := by simp
    rw [storeL, if_neg this]
  | cons d s ih =>
    simp only [List.length_cons] at h1
    have hd := byte_lt d
    rw [storeL, ih (setB m a d.toNat) (a + 1) (setB_words hm h0 (by omega) hd) (by omega) (by rw [setB_len]; omega), byteAt_setB m a _ c hm h0 (by omega) hd hc]
    simp only [List.length_cons]
    by_cases h2 : a + 1 ≤ c ∧ c < a + 1 + (s.length : Int)
    · rw [if_pos h2, if_pos (by omega), show (c - a).toNat = (c - (a + 1)).toNat + 1 by omega, List.getD_cons_succ]
    · rw [if_neg h2]
      by_cases h3 : c = a
      · rw [if_pos h3, if_pos (by omega), show (c - a).toNat = 0 by omega]; rfl
      · rw [if_neg h3, if_neg (by omega)]
theorem outB_get (m : List Int) (a : Int) (n i : Nat) (h : i < (outB m a n).length) : (outB m a n)[i] = UInt8.ofNat (byteAt m (a + (i : Nat))).toNat := by
  simp [outB, bytesL]
theorem u8_back (c : UInt8) : UInt8.ofNat ((c.toNat : Int)).toNat = c := by simp
/-- what is stored is read -/
theorem outB_store (m : List Int) (a : Int) (s : List UInt8) (hm : Words m) (h0 : 0 ≤ a) (h1 : a + (s.length : Int) ≤ 2 * (m.length : Int)) : outB (storeL m a s) a s.length = s := by
  apply List.ext_getElem
  · rw [outB_len]
  · intro i h2 h3
    rw [outB_get, byteAt_storeL m a s hm h0 h1 _ (by omega), if_pos (by omega), show (a + (i : Int) - a).toNat = i by omega]
    simp [h3]
/-- all bytes after a store -/
theorem outB_all (m : List Int) (a : Int) (s : List UInt8) (hm : Words m) (h0 : 0 ≤ a) (h1 : a + (s.length : Int) ≤ 2 * (m.length : Int)) : outB (storeL m a s) 0 (2 * m.length) = (outB m 0 (2 * m.length)).take a.toNat ++ s ++ (outB m 0 (2 * m.length)).drop (a + (s.length : Int)).toNat := by
  have hlen : (outB m 0 (2 * m.length)).length = 2 * m.length := outB_len _ _ _
  have ht : ((outB m 0 (2 * m.length)).take a.toNat).length = a.toNat := by rw [List.length_take]; omega
  apply List.ext_getElem
  · simp [outB_len]; omega
  · intro i h2 h3
    rw [outB_len] at h2
    rw [outB_get, Int.zero_add, byteAt_storeL m a s hm h0 h1 _ (by omega)]
    by_cases h4 : i < a.toNat
    · rw [if_neg (by omega), List.getElem_append_left (by simp [outB_len]; omega), List.getElem_append_left (by rw [ht]; exact h4), List.getElem_take, outB_get, Int.zero_add]
    · by_cases h5 : i < a.toNat + s.length
      · rw [if_pos (by omega), List.getElem_append_left (by simp [outB_len]; omega), List.getElem_append_right (by rw [ht]; omega)]
        simp only [ht]
        have h6 : ((i : Int) - a).toNat = i - a.toNat := by omega
        have h7 : i - a.toNat < s.length := by omega
        simp [h6, h7]
      · rw [if_neg (by omega), List.getElem_append_right (by simp [outB_len]; omega)]
        have h6 : ((outB m 0 (2 * m.length)).take a.toNat ++ s).length = a.toNat + s.length := by rw [List.length_append, ht]
        simp only [h6, List.getElem_drop, outB_get, Int.zero_add]
        congr 3
        omega
noncomputable def tailT (q : Option Nat) (m : List Int) (s : List UInt8) (t : Int) : Tree Bool :=
  (.opt ((List Int) × Int) (memory_Store q m t s) fun r191 =>
                .ite (!decide (r191.2 = (0 : Int)))
                  (.ite (decide ((r191.1.length : Int) = (0 : Int)))
                    (.opt Bool (law08_alive q) fun r192 =>
                      .leaf (r192))
                    (.leaf (false)))
                  (.opt ((List UInt8) × Int) (memory_Bytes q m (0 : Int) (IntKind.wrap .i64 ((2 : Int) * (m.length : Int)))) fun r193 =>
                    .ite (!decide ((r193.1.length : Int) = (IntKind.wrap .i64 ((2 : Int) * (m.length : Int)))))
                      (.leaf (false))
                      (.ite (decide (t < (0 : Int)))
                        (.leaf (false))
                        (.ite (decide ((IntKind.wrap .i64 ((r193.1.length : Int) - (s.length : Int))) < t))
                          (.leaf (false))
                          (.opt ((List UInt8) × Int) (memory_Bytes q r191.1 (0 : Int) (IntKind.wrap .i64 ((2 : Int) * (r191.1.length : Int)))) fun r194 =>
                            .ite (decide (r194.2 = (0 : Int)))
                              (.ite (decide (0 ≤ t))
                                (.ite (decide (t ≤ ((r193.1.length : Nat) : Int)))
                                  (.ite (decide (((r193.1.drop (0)).take ((t).toNat - 0)).length + s.length ≤ 9223372036854775807))
                                    (.ite (decide (0 ≤ IntKind.wrap .i64 (t + (s.length : Int))))
                                      (.ite (decide (IntKind.wrap .i64 (t + (s.length : Int)) ≤ ((r193.1.length : Nat) : Int)))
                                        (.ite (decide ((((r193.1.drop (0)).take ((t).toNat - 0)) ++ s).length + ((r193.1.drop ((IntKind.wrap .i64 (t + (s.length : Int))).toNat)).take (r193.1.length - (IntKind.wrap .i64 (t + (s.length : Int))).toNat)).length ≤ 9223372036854775807))
                                          (.ite (decide (r194.1 = ((((r193.1.drop (0)).take ((t).toNat - 0)) ++ s) ++ ((r193.1.drop ((IntKind.wrap .i64 (t + (s.length : Int))).toNat)).take (r193.1.length - (IntKind.wrap .i64 (t + (s.length : Int))).toNat)))))
                                            (.opt Bool (law08_alive q) fun r195 =>
                                              .leaf (r195))
                                            (.leaf (false)))
                                          .fail)
                                        .fail)
                                      .fail)
                                    .fail)
                                  .fail)
                                .fail)
                              (.leaf (false)))))))
theorem tail_true (m : List Int) (s : List UInt8) (t : Int) (hw : Words m) (hs : s.length ≤ 5000) : (tailT none m s t).run = some true := by
  have hl := hw.1
  simp only [tailT, Tree.run, Store_def m t s hw, Option.bind_some]
  by_cases h : Wn m t (s.length : Int)
  · obtain ⟨h0, h1, h2, h3⟩ := id h
    have hA : (outB m 0 (2 * m.length)).length = 2 * m.length := outB_len _ _ _
    have hn : (2 * (m.length : Int)).toNat = 2 * m.length := by omega
    have hb1 : memory_Bytes none m 0 (2 * (m.length : Int)) = some (outB m 0 (2 * m.length), 0) := by
      rw [Bytes_def m 0 _ hl, bytesM, if_pos ⟨by omega, by omega, by omega, by omega⟩, hn]
    have hb2 : memory_Bytes none (storeL m t s) 0 (2 * (m.length : Int)) = some ((outB m 0 (2 * m.length)).take t.toNat ++ s ++ (outB m 0 (2 * m.length)).drop (t + (s.length : Int)).toNat, 0) := by
      rw [Bytes_def _ 0 _ (by rw [storeL_len]; exact hl), bytesM, if_pos ⟨by omega, by omega, by rw [storeL_len]; omega, by rw [storeL_len]; omega⟩, hn, outB_all m t s hw h0 (by omega)]
    simp only [storeM, h, if_true, decide_true, Bool.not_true, Bool.false_eq_true, if_false, wrap2 hl, hb1, Option.bind_some, storeL_len, hb2]
    generalize hAA : outB m 0 (2 * m.length) = A at hA ⊢
    have e1 : ((A.length : Nat) : Int) = 2 * (m.length : Int) := by omega
    have e2 : IntKind.wrap .i64 (t + (s.length : Int)) = t + (s.length : Int) := wrap_id (by omega) (by omega)
    have e3 : IntKind.wrap .i64 (2 * (m.length : Int) - (s.length : Int)) = 2 * (m.length : Int) - (s.length : Int) := wrap_id (by omega) (by omega)
    simp only [e1, e2, e3, List.drop_zero, Nat.sub_zero]
    have l1 : (A.take t.toNat).length + s.length ≤ 9223372036854775807 := by rw [List.length_take]; omega
    have l2 : (A.take t.toNat ++ s).length + ((A.drop (t + (s.length : Int)).toNat).take (A.length - (t + (s.length : Int)).toNat)).length ≤ 9223372036854775807 := by
      rw [List.length_append, List.length_take, List.length_take, List.length_drop]; omega
    have l3 : (A.drop (t + (s.length : Int)).toNat).take (A.length - (t + (s.length : Int)).toNat) = A.drop (t + (s.length : Int)).toNat := List.take_of_length_le (by rw [List.length_drop]; omega)
    have c1 : ¬ t < 0 := by omega
    have c2 : ¬ 2 * (m.length : Int) - (s.length : Int) < t := by omega
    have c3 : t ≤ 2 * (m.length : Int) := by omega
    have c4 : 0 ≤ t + (s.length : Int) := by omega
    have c5 : t + (s.length : Int) ≤ 2 * (m.length : Int) := by omega
    simp only [l1, l2, c1, c2, c3, c4, c5, h0, decide_true, decide_false, Bool.not_true, Bool.false_eq_true, if_true, if_false]
    simp only [l3, decide_true, if_true, alive_true, Option.bind_some]
  · simp only [storeM, h, if_false, List.length_nil, alive_true, Option.bind_some]
    rfl
theorem pf_law08_MemoryMoves (x : (List Int) × (List UInt8) × Span × Unit) (h : Glaw08_MemoryMoves x) : law08_MemoryMoves none x.1 x.2.1 x.2.2.1 = some true := by
  obtain ⟨m, s, ⟨t, f, n⟩, u⟩ := x
  obtain ⟨r, hr⟩ := small_some m []
  simp only [law08_MemoryMoves, Tlaw08_MemoryMoves, Tree.run, hr, Option.bind_some]
  cases r with
  | false => rfl
  | true =>
    obtain ⟨h1, h2, h3⟩ := small_def m [] true hr rfl
    have hw : Words m := ⟨by omega, h3.2.1⟩
    by_cases h5 : (5000 : Int) < (s.length : Int)
    · simp [h5]
    · have ht := tail_true m s t hw (by omega)
      simp only [tailT, Tree.run] at ht
      simp only [h5, decide_false, Bool.not_true, Bool.false_eq_true, if_false, Bytes_def m f n hw.1, Move_def m t f n hw, Option.bind_some]
      by_cases hM : Wn m t n ∧ Wn m f n
      · have hn := hM.1.2.1
        have e1 : moveM m t f n = (storeL m t (outB m f n.toNat), 0) := by rw [moveM, if_pos hM]
        have e2 : bytesM m f n = (outB m f n.toNat, 0) := by rw [bytesM, if_pos hM.2]
        have h6 : t + ((outB m f n.toNat).length : Int) ≤ 2 * (m.length : Int) := by
          obtain ⟨a0, a1, a2, a3⟩ := hM.1
          rw [outB_len]; omega
        have e3 : memory_Bytes none (storeL m t (outB m f n.toNat)) t n = some (outB m f n.toNat, 0) := by
          obtain ⟨a0, a1, a2, a3⟩ := id hM.1
          have := outB_store m t (outB m f n.toNat) hw a0 h6
          rw [outB_len] at this
          rw [Bytes_def _ t n (by rw [storeL_len]; exact hw.1), bytesM, if_pos ⟨a0, a1, by rw [storeL_len]; exact a2, by rw [storeL_len]; exact a3⟩, this]
        simp only [e1, e2, e3, decide_true, Bool.not_true, Bool.false_eq_true, if_true, if_false, Option.bind_some]
        exact ht
      · have e1 : moveM m t f n = ([], 2) := by rw [moveM, if_neg hM]
        simp only [e1, show ¬ (2 : Int) = 0 by omega, decide_false, Bool.false_eq_true, if_false]
        exact ht
end Go.Proofs.Ytnhhimlienefkaa
