/- Chapter 8: ranges of bytes, plain. -/
import Derived.Test.YtnhhimlienefkaaAbPure08n3
set_option linter.unusedSimpArgs false
set_option linter.unusedVariables false
namespace Go.Proofs.Ytnhhimlienefkaa
open Go Go.Ab
/-- a range within memory -/
def Wn (m : List Int) (a n : Int) : Prop := 0 ≤ a ∧ 0 ≤ n ∧ a ≤ 2 * (m.length : Int) ∧ n ≤ 2 * (m.length : Int) - a
instance (m a n) : Decidable (Wn m a n) := by unfold Wn; infer_instance
theorem within_def (m : List Int) (a n : Int) (hm : m.length ≤ 100000) : memory_within m a n = some (decide (Wn m a n)) := by
  simp only [memory_within, Tmemory_within, Tree.run, wrap2 hm, decide_eq_true_eq]
  by_cases h0 : 0 ≤ a
  · by_cases h1 : 0 ≤ n
    · by_cases h2 : a ≤ 2 * (m.length : Int)
      · rw [if_pos h0, if_pos h1, if_pos h2, wrap_id (by omega) (by omega), Option.some.injEq, decide_eq_decide]
        unfold Wn; omega
      · have : ¬ Wn m a n := fun h => h2 h.2.2.1
        simp [h0, h1, h2, this]
    · have : ¬ Wn m a n := fun h => h1 h.2.1
      simp [h0, h1, this]
  · have : ¬ Wn m a n := fun h => h0 h.1
    simp [h0, this]
theorem Within_eq (m : List Int) (a n : Int) : ref08_Within m a n = memory_within m a n := rfl
theorem up_def {a : Int} (h0 : 0 ≤ a) : IntKind.wrap .i64 (a.tmod 2 * 8) = if a % 2 = 0 then 0 else 8 := by
  rw [tmod_nn h0, wrap_id (by omega) (by omega)]
  split <;> omega
theorem shr_byte (m : List Int) {a : Int} (h0 : 0 ≤ a) : IntKind.wrap .u8 ((wordAt m a).fdiv (2 ^ (min (IntKind.wrap .i64 (a.tmod 2 * 8)).toNat 64))) = byteAt m a := by
  rw [IntKind.wrap_u8, up_def h0, byteAt]
  split
  · rw [show (2 : Int) ^ (min ((0 : Int)).toNat 64) = 1 by decide, fdiv_pos _ (by omega), Int.ediv_one]
  · rw [show (2 : Int) ^ (min ((8 : Int)).toNat 64) = 256 by decide, fdiv_pos _ (by omega)]
theorem byteAt_in (m : List Int) (a : Int) : 0 ≤ byteAt m a ∧ byteAt m a ≤ 255 := by
  unfold byteAt
  split <;> omega
def bytesL (m : List Int) (a : Int) (n : Nat) : List Int := (List.range n).map fun i => byteAt m (a + (i : Nat))
theorem bytesL_succ (m : List Int) (a : Int) (n : Nat) : bytesL m a (n + 1) = bytesL m a n ++ [byteAt m (a + (n : Nat))] := by
  simp [bytesL, List.range_succ]
theorem bytesL_len (m : List Int) (a : Int) (n : Nat) : (bytesL m a n).length = n := by simp [bytesL]
def outB (m : List Int) (a : Int) (n : Nat) : List UInt8 := (bytesL m a n).map fun x => UInt8.ofNat x.toNat
theorem outB_len (m : List Int) (a : Int) (n : Nat) : (outB m a n).length = n := by simp [outB, bytesL]
def bytesM (m : List Int) (a n : Int) : List UInt8 × Int := if Wn m a n then (outB m a n.toNat, 0) else ([], 2)
theorem Bytes_loop (m : List Int) (a : Int) (n : Nat) (hm : m.length ≤ 100000) (h : Wn m a n) : Lmemory_Bytes_0 none ⟨m, a, (n : Int), (0 : Int), List.replicate n (0 : Int)⟩ = some (bytesL m a n) := by
  obtain ⟨h0, h1, h2, h3⟩ := h
  have hc := lim_count (f := fun s => (Wmemory_Bytes_0 s).run) (fun i : Nat => ⟨m, a, (n : Int), (i : Int), bytesL m a i ++ List.replicate (n - i) (0 : Int)⟩) n (fun i hi => by
    have e1 : IntKind.wrap .i64 (a + (i : Int)) = a + (i : Int) := wrap_id (by omega) (by omega)
    have h4 : 0 ≤ a + (i : Int) := by omega
    have h5 : 0 ≤ (a + (i : Int)) / 2 := by omega
    have h6 : 0 ≤ IntKind.wrap .i64 ((a + (i : Int)).tmod 2 * 8) := by rw [up_def h4]; split <;> omega
    have h7 : (i : Int) < ((bytesL m a i ++ List.replicate (n - i) (0 : Int)).length : Int) := by
      simp [bytesL_len]; omega
    have h8 : (bytesL m a i ++ List.replicate (n - i) (0 : Int))[((i : Int)).toNat]? = some 0 := by
      rw [Int.toNat_natCast, List.getElem?_append_right (by rw [bytesL_len]; omega), bytesL_len, Nat.sub_self, List.getElem?_replicate]
      simp; omega
    have h8' : (bytesL m a i ++ List.replicate (n - i) (0 : Int))[i]? = some 0 := h8
    have h9 : (bytesL m a i ++ List.replicate (n - i) (0 : Int)).set i (byteAt m (a + (i : Int))) = bytesL m a (i + 1) ++ List.replicate (n - (i + 1)) (0 : Int) := by
      rw [List.set_append_right (h := by rw [bytesL_len]; omega), bytesL_len, Nat.sub_self, bytesL_succ, show n - i = (n - (i + 1)) + 1 by omega, List.replicate_succ]
      simp
    have hi' : (i : Int) < (n : Int) := by omega
    have h10 : (0 : Int) ≤ (i : Int) := by omega
    simp only [Wmemory_Bytes_0, Tree.run, e1, half h4 (by omega), get_word h4 (show a + (i : Int) < 2 * (m.length : Int) by omega), shr_byte m h4, wrap_succ hi (show n ≤ 9223372036854775807 by omega), hi', h10, h5, h6, h7, h8, decide_true, if_true, show ¬ (2 : Int) = 0 by omega, decide_false, Bool.false_eq_true, if_false, Option.bind_some, Int.toNat_natCast, h8', h9]) 0 (Nat.zero_le _)
  have hd : Lmemory_Bytes_0 none ⟨m, a, (n : Int), ((n : Nat) : Int), bytesL m a n ++ List.replicate (n - n) (0 : Int)⟩ = some (bytesL m a n ++ List.replicate (n - n) (0 : Int)) := lim_done (by simp [Wmemory_Bytes_0, Tree.run])
  have he : Lmemory_Bytes_0 none ⟨m, a, (n : Int), (0 : Int), bytesL m a 0 ++ List.replicate (n - 0) (0 : Int)⟩ = some (bytesL m a n ++ List.replicate (n - n) (0 : Int)) := hc.trans hd
  simpa [bytesL] using he
theorem Bytes_def (m : List Int) (a n : Int) (hm : m.length ≤ 100000) : memory_Bytes none m a n = some (bytesM m a n) := by
  simp only [memory_Bytes, Tmemory_Bytes, Tree.run, within_def m a n hm, Option.bind_some, bytesM]
  by_cases h : Wn m a n
  · obtain ⟨h0, h1, h2, h3⟩ := id h
    have hl := Bytes_loop m a n.toNat hm (by rw [Int.toNat_of_nonneg h1]; exact h)
    have h4 : (1 : Int) * n ≤ 281474976710656 := by omega
    simp only [h, decide_true, Bool.not_true, Bool.false_eq_true, if_false, if_true, h1, h4, List.length_replicate, hl, Option.bind_some, outB]
  · simp [h]
theorem ref_Bytes_loop (m : List Int) (a : Int) (n : Nat) (hm : m.length ≤ 100000) (h : Wn m a n) : Lref08_Bytes_0 none ⟨m, a, (n : Int), (0 : Int), []⟩ = some (bytesL m a n) := by
  obtain ⟨h0, h1, h2, h3⟩ := h
  have hc := lim_count (f := fun s => (Wref08_Bytes_0 s).run) (fun i : Nat => ⟨m, a, (n : Int), (i : Int), bytesL m a i⟩) n (fun i hi => by
    have e1 : IntKind.wrap .i64 (a + (i : Int)) = a + (i : Int) := wrap_id (by omega) (by omega)
    have h4 : 0 ≤ a + (i : Int) := by omega
    have hb := byteAt_in m (a + (i : Int))
    have e2 : IntKind.wrap .u8 (byteAt m (a + (i : Int))) = byteAt m (a + (i : Int)) := by rw [IntKind.wrap_u8]; omega
    have hi' : (i : Int) < (n : Int) := by omega
    have h7 : ((bytesL m a i).length + 1) * 1 ≤ 140737488355328 := by rw [bytesL_len]; omega
    simp only [Wref08_Bytes_0, Tree.run, e1, Byte_def m _ h4 (show a + (i : Int) < 2 * (m.length : Int) by omega) hm, e2, wrap_succ hi (show n ≤ 9223372036854775807 by omega), hi', decide_true, if_true, Option.bind_some, List.length_cons, List.length_nil, Nat.zero_add, h7, bytesL_succ]) 0 (Nat.zero_le _)
  have hd : Lref08_Bytes_0 none ⟨m, a, (n : Int), ((n : Nat) : Int), bytesL m a n⟩ = some (bytesL m a n) := lim_done (by simp [Wref08_Bytes_0, Tree.run])
  have he : Lref08_Bytes_0 none ⟨m, a, (n : Int), (0 : Int), bytesL m a 0⟩ = some (bytesL m a n) := hc.trans hd
  simpa [bytesL] using he
theorem ref_Bytes_def (m : List Int) (a n : Int) (hm : m.length ≤ 100000) : ref08_Bytes none m a n = some (bytesM m a n) := by
  simp only [ref08_Bytes, Tref08_Bytes, Tree.run, Within_eq, within_def m a n hm, Option.bind_some, bytesM]
  by_cases h : Wn m a n
  · obtain ⟨h0, h1, h2, h3⟩ := id h
    have hl := ref_Bytes_loop m a n.toNat hm (by rw [Int.toNat_of_nonneg h1]; exact h)
    rw [Int.toNat_of_nonneg h1] at hl
    simp only [h, decide_true, Bool.not_true, Bool.false_eq_true, if_false, if_true, hl, Option.bind_some, outB]
  · simp [h]
/-! ### storing -/
def storeL : List Int → Int → List UInt8 → List Int
  | m, _, [] => m
  | m, a, c :: s => storeL (setB m a (c.toNat : Int)) (a + 1) s
theorem storeL_more (m : List Int) (a : Int) (s : List UInt8) (c : UInt8) : storeL m a (s ++ [c]) = setB (storeL m a s) (a + (s.length : Int)) (c.toNat : Int) := by
  induction s generalizing m a with
  | nil => simp [storeL]
  | cons d s ih =>
    simp only [List.cons_append, storeL, ih, List.length_cons]
    congr 1
    omega
theorem setB_len (m : List Int) (a b : Int) : (setB m a b).length = m.length := by simp [setB]
theorem storeL_len (m : List Int) (a : Int) (s : List UInt8) : (storeL m a s).length = m.length := by
  induction s generalizing m a with
  | nil => rfl
  | cons d s ih => rw [storeL, ih, setB_len]
theorem setB_words {m : List Int} {a b : Int} (hm : Words m) (h0 : 0 ≤ a) (h1 : a < 2 * (m.length : Int)) (hb : 0 ≤ b ∧ b ≤ 255) : Words (setB m a b) := by
  refine ⟨by rw [setB_len]; exact hm.1, fun w hw => ?_⟩
  rcases List.mem_or_eq_of_mem_set hw with h | h
  · exact hm.2 w h
  · have := word_in hm h0 h1
    rw [h]; unfold putB; split <;> omega
theorem byte_lt (c : UInt8) : 0 ≤ (c.toNat : Int) ∧ (c.toNat : Int) ≤ 255 := by have := c.toNat_lt; omega
theorem storeL_words {m : List Int} {a : Int} {s : List UInt8} (hm : Words m) (h0 : 0 ≤ a) (h1 : a + (s.length : Int) ≤ 2 * (m.length : Int)) : Words (storeL m a s) := by
  induction s generalizing m a with
  | nil => exact hm
  | cons d s ih =>
    simp only [List.length_cons] at h1
    exact ih (setB_words hm h0 (by omega) (byte_lt d)) (by omega) (by rw [setB_len]; omega)
def storeM (m : List Int) (a : Int) (s : List UInt8) : List Int × Int := if Wn m a (s.length : Int) then (storeL m a s, 0) else ([], 2)
theorem u8_nat (c : UInt8) : IntKind.wrap .i64 (c.toNat : Int) = (c.toNat : Int) := by have := c.toNat_lt; exact wrap_id (by omega) (by omega)
theorem put_eq (b : List Int) (a : Int) (c : UInt8) (hw : Words b) (h0 : 0 ≤ a) (h1 : a < 2 * (b.length : Int)) : IntKind.wrap .i64 ((BitVec.ofInt 64 (IntKind.wrap .i64 ((BitVec.ofInt 64 (wordAt b a) &&& ~~~BitVec.ofInt 64 (IntKind.wrap .i64 ((255 : Int) * 2 ^ (min (IntKind.wrap .i64 (a.tmod 2 * 8)).toNat 64)))).toNat : Int)) ||| BitVec.ofInt 64 (IntKind.wrap .i64 ((IntKind.wrap .i64 (c.toNat : Int)) * 2 ^ (min (IntKind.wrap .i64 (a.tmod 2 * 8)).toNat 64)))).toNat : Int) = putB (wordAt b a) a (c.toNat : Int) := by
  have hb := byte_lt c
  have hi := word_in hw h0 h1
  rw [up_def h0, u8_nat]
  unfold putB
  split
  · rw [show (2 : Int) ^ (min ((0 : Int)).toNat 64) = 1 by decide, Int.mul_one, Int.mul_one, wrap_id (n := 255) (by omega) (by omega), wrap_id (n := (c.toNat : Int)) (by omega) (by omega), bits_lo _ _ hi.1 hi.2 hb]
  · rw [show (2 : Int) ^ (min ((8 : Int)).toNat 64) = 256 by decide, wrap_id (n := 255 * 256) (by omega) (by omega), wrap_id (n := (c.toNat : Int) * 256) (by omega) (by omega), show (255 : Int) * 256 = 65280 by omega, bits_hi _ _ hi.1 hi.2 hb]
theorem Store_loop (m : List Int) (a : Int) (s : List UInt8) (hm : Words m) (h : Wn m a (s.length : Int)) : Lmemory_Store_0 none ⟨a, s, (s.length : Int), (0 : Int), m⟩ = some (storeL m a s) := by
  obtain ⟨h0, h1, h2, h3⟩ := h
  have hl := hm.1
  have hc := lim_count (f := fun s => (Wmemory_Store_0 s).run) (fun i : Nat => ⟨a, s, (s.length : Int), (i : Int), storeL m a (s.take i)⟩) s.length (fun i hi => by
    have e1 : IntKind.wrap .i64 (a + (i : Int)) = a + (i : Int) := wrap_id (by omega) (by omega)
    have h4 : 0 ≤ a + (i : Int) := by omega
    have h5 : 0 ≤ (a + (i : Int)) / 2 := by omega
    have h6 : 0 ≤ IntKind.wrap .i64 ((a + (i : Int)).tmod 2 * 8) := by rw [up_def h4]; split <;> omega
    have hlen : (storeL m a (s.take i)).length = m.length := storeL_len _ _ _
    have hlt : (s.take i).length = i := by rw [List.length_take]; omega
    have hw : Words (storeL m a (s.take i)) := storeL_words hm h0 (by rw [hlt]; omega)
    have h7 : (a + (i : Int)) / 2 < ((storeL m a (s.take i)).length : Int) := by rw [hlen]; omega
    have h8 : a + (i : Int) < 2 * ((storeL m a (s.take i)).length : Int) := by rw [hlen]; omega
    have hi' : (i : Int) < (s.length : Int) := by omega
    have h10 : (0 : Int) ≤ (i : Int) := by omega
    have h9 : storeL m a (s.take (i + 1)) = (storeL m a (s.take i)).set ((a + (i : Int)) / 2).toNat (putB (wordAt (storeL m a (s.take i)) (a + (i : Int))) (a + (i : Int)) (s[i].toNat : Int)) := by
      rw [take_one_more hi, storeL_more, hlt]; rfl
    simp only [Wmemory_Store_0, Tree.run, e1, half h4 (by omega), get_word h4 h8, wrap_succ hi (show s.length ≤ 9223372036854775807 by omega), hi', h10, h5, h6, h7, decide_true, if_true, show ¬ (2 : Int) = 0 by omega, decide_false, Bool.false_eq_true, if_false, Option.bind_some, Int.toNat_natCast, List.getElem?_eq_getElem hi, put_eq _ _ _ hw h4 h8, h9]) 0 (Nat.zero_le _)
  have hd : Lmemory_Store_0 none ⟨a, s, (s.length : Int), ((s.length : Nat) : Int), storeL m a (s.take s.length)⟩ = some (storeL m a (s.take s.length)) := lim_done (by simp [Wmemory_Store_0, Tree.run])
  have he : Lmemory_Store_0 none ⟨a, s, (s.length : Int), (0 : Int), storeL m a (s.take 0)⟩ = some (storeL m a (s.take s.length)) := hc.trans hd
  simpa [storeL] using he
theorem Store_def (m : List Int) (a : Int) (s : List UInt8) (hm : Words m) : memory_Store none m a s = some (storeM m a s) := by
  simp only [memory_Store, Tmemory_Store, Tree.run, within_def m a _ hm.1, copied_def m hm.1, Option.bind_some, storeM]
  by_cases h : Wn m a (s.length : Int)
  · simp only [h, decide_true, Bool.not_true, Bool.false_eq_true, if_false, if_true, Store_loop m a s hm h, Option.bind_some]
  · simp [h]
theorem ref_Store_loop (m : List Int) (a : Int) (s : List UInt8) (hm : Words m) (h : Wn m a (s.length : Int)) : Lref08_Store_0 none ⟨a, s, (0 : Int), m⟩ = some (storeL m a s) := by
  obtain ⟨h0, h1, h2, h3⟩ := h
  have hl := hm.1
  have hc := lim_count (f := fun s => (Wref08_Store_0 s).run) (fun i : Nat => ⟨a, s, (i : Int), storeL m a (s.take i)⟩) s.length (fun i hi => by
    have e1 : IntKind.wrap .i64 (a + (i : Int)) = a + (i : Int) := wrap_id (by omega) (by omega)
    have h4 : 0 ≤ a + (i : Int) := by omega
    have hlen : (storeL m a (s.take i)).length = m.length := storeL_len _ _ _
    have hlt : (s.take i).length = i := by rw [List.length_take]; omega
    have hw : Words (storeL m a (s.take i)) := storeL_words hm h0 (by rw [hlt]; omega)
    have h8 : a + (i : Int) < 2 * ((storeL m a (s.take i)).length : Int) := by rw [hlen]; omega
    have hi' : (i : Int) < (s.length : Int) := by omega
    have h10 : (0 : Int) ≤ (i : Int) := by omega
    have h9 : storeL m a (s.take (i + 1)) = setB (storeL m a (s.take i)) (a + (i : Int)) (s[i].toNat : Int) := by
      rw [take_one_more hi, storeL_more, hlt]
    simp only [Wref08_Store_0, Tree.run, e1, wrap_succ hi (show s.length ≤ 9223372036854775807 by omega), hi', h10, decide_true, if_true, Option.bind_some, Int.toNat_natCast, List.getElem?_eq_getElem hi, u8_nat, set_def _ _ _ hw h4 h8 (byte_lt s[i]), h9]) 0 (Nat.zero_le _)
  have hd : Lref08_Store_0 none ⟨a, s, ((s.length : Nat) : Int), storeL m a (s.take s.length)⟩ = some (storeL m a (s.take s.length)) := lim_done (by simp [Wref08_Store_0, Tree.run])
  have he : Lref08_Store_0 none ⟨a, s, (0 : Int), storeL m a (s.take 0)⟩ = some (storeL m a (s.take s.length)) := hc.trans hd
  simpa [storeL] using he
theorem ref_Store_def (m : List Int) (a : Int) (s : List UInt8) (hm : Words m) : ref08_Store none m a s = some (storeM m a s) := by
  have hl := hm.1
  have h5 : (([] : List Int).length + m.length) * 8 ≤ 140737488355328 := by simp; omega
  simp only [ref08_Store, Tref08_Store, Tree.run, Within_eq, within_def m a _ hm.1, Option.bind_some, storeM, h5, decide_true, if_true, List.nil_append]
  by_cases h : Wn m a (s.length : Int)
  · simp only [h, decide_true, Bool.not_true, Bool.false_eq_true, if_false, if_true, ref_Store_loop m a s hm h, Option.bind_some]
  · simp [h]
def moveM (m : List Int) (to from_ n : Int) : List Int × Int := if Wn m to n ∧ Wn m from_ n then (storeL m to (outB m from_ n.toNat), 0) else ([], 2)
theorem Move_def (m : List Int) (to from_ n : Int) (hm : Words m) : memory_Move none m to from_ n = some (moveM m to from_ n) := by
  simp only [memory_Move, Tmemory_Move, Tree.run, within_def m _ _ hm.1, Bytes_def m _ _ hm.1, Store_def m _ _ hm, Option.bind_some, moveM]
  by_cases h : Wn m to n
  · by_cases h' : Wn m from_ n
    · have h1 := h.2.1
      have h2 : Wn m to ((outB m from_ n.toNat).length : Int) := by rw [outB_len, Int.toNat_of_nonneg h1]; exact h
      simp [h, h', bytesM, storeM, h2]
    · simp [h, h', bytesM, storeM]
  · simp [h]
theorem ref_Move_def (m : List Int) (to from_ n : Int) (hm : Words m) : ref08_Move none m to from_ n = some (moveM m to from_ n) := by
  simp only [ref08_Move, Tref08_Move, Tree.run, ref_Bytes_def m _ _ hm.1, ref_Store_def m _ _ hm, Option.bind_some, moveM]
  by_cases h' : Wn m from_ n
  · have h1 := h'.2.1
    by_cases h : Wn m to n
    · have h2 : Wn m to ((outB m from_ n.toNat).length : Int) := by rw [outB_len, Int.toNat_of_nonneg h1]; exact h
      simp [h, h', bytesM, storeM, h2]
    · have h2 : ¬ Wn m to ((outB m from_ n.toNat).length : Int) := by rw [outB_len, Int.toNat_of_nonneg h1]; exact h
      simp [h, h', bytesM, storeM, h2]
  · simp [h', bytesM]
end Go.Proofs.Ytnhhimlienefkaa
