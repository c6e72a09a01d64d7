/- Chapter 8: what the typed functions of memory come to. -/
import Derived.Test.YtnhhimlienefkaaAb08
import Derived.Test.YtnhhimlienefkaaAbRd08
import Derived.Test.YtnhhimlienefkaaAbLim2
import Derived.Test.YtnhhimlienefkaaAbBits2
set_option linter.unusedSimpArgs false
set_option linter.unusedVariables false
namespace Go.Proofs.Ytnhhimlienefkaa
open Go Go.Ab
/-! ### lists of numbers -/
theorem wrap_succ {i n : Nat} (h : i < n) (hn : n ≤ 9223372036854775807) : IntKind.wrap .i64 ((i : Int) + 1) = ((i + 1 : Nat) : Int) := by rw [wrap_id] <;> omega
theorem Index_def (l : List Int) (x : Int) (hl : l.length ≤ 9223372036854775807) : ∃ r, slices_Index_int_int none l x = some r ∧ (0 ≤ r ↔ x ∈ l) := by
  have hs := lim_scan (f := fun s => (Wslices_Index_int_int_0 s).run) (fun i : Nat => ⟨l, x, (l.length : Int), (i : Int)⟩) l.length (fun i => l[i]? ≠ some x) (fun i => .inl (i : Int)) (.inr ())
    (fun i hi hp => by
      have hp' : ¬ x = l[i] := fun he => hp (by rw [List.getElem?_eq_getElem hi, he])
      simp [Wslices_Index_int_int_0, Tree.run, hi, wrap_succ hi hl, hp'])
    (fun i hi hp => by
      have hp' : x = l[i] := by
        rw [List.getElem?_eq_getElem hi] at hp
        simp at hp; exact hp.symm
      simp [Wslices_Index_int_int_0, Tree.run, hi, ← hp'])
    (by simp [Wslices_Index_int_int_0, Tree.run])
  rcases hs with ⟨h1, h2⟩ | ⟨i, hi, h1, h2⟩
  · have h : Lslices_Index_int_int_0 none ⟨l, x, (l.length : Int), (0 : Int)⟩ = some (.inr ()) := h2
    refine ⟨-1, by simp [slices_Index_int_int, Tslices_Index_int_int, Tree.run, h], by omega, fun hm => ?_⟩
    obtain ⟨i, hi, he⟩ := List.mem_iff_getElem.1 hm
    exact absurd (by rw [List.getElem?_eq_getElem hi, he]) (h1 i hi)
  · have h : Lslices_Index_int_int_0 none ⟨l, x, (l.length : Int), (0 : Int)⟩ = some (.inl (i : Int)) := h2
    refine ⟨i, by simp [slices_Index_int_int, Tslices_Index_int_int, Tree.run, h], fun _ => ?_, fun _ => by omega⟩
    rw [List.getElem?_eq_getElem hi] at h1
    simp at h1
    rw [← h1]; exact List.getElem_mem hi
theorem Contains_def (l : List Int) (x : Int) (hl : l.length ≤ 9223372036854775807) : slices_Contains_int_int none l x = some (decide (x ∈ l)) := by
  obtain ⟨r, h1, h2⟩ := Index_def l x hl
  simp only [slices_Contains_int_int, Tslices_Contains_int_int, Tree.run, h1, Option.bind_some, h2]
theorem Has_def (l : List Int) (x : Int) (hl : l.length ≤ 9223372036854775807) : ref08_Has none l x = some (decide (x ∈ l)) := by
  have hs := lim_scan (f := fun s => (Wref08_Has_0 s).run) (fun i : Nat => ⟨l, x, (i : Int)⟩) l.length (fun i => l[i]? ≠ some x) (fun i => .inl true) (.inr ())
    (fun i hi hp => by
      have hp' : ¬ l[i] = x := fun he => hp (by rw [List.getElem?_eq_getElem hi, he])
      simp [Wref08_Has_0, Tree.run, hi, wrap_succ hi hl, hp'])
    (fun i hi hp => by
      have hp' : l[i] = x := by
        rw [List.getElem?_eq_getElem hi] at hp
        simp at hp; exact hp
      simp [Wref08_Has_0, Tree.run, hi, hp'])
    (by simp [Wref08_Has_0, Tree.run])
  rcases hs with ⟨h1, h2⟩ | ⟨i, hi, h1, h2⟩
  · have h : Lref08_Has_0 none ⟨l, x, (0 : Int)⟩ = some (.inr ()) := h2
    have hn : ¬ x ∈ l := fun hm => by
      obtain ⟨i, hi, he⟩ := List.mem_iff_getElem.1 hm
      exact absurd (by rw [List.getElem?_eq_getElem hi, he]) (h1 i hi)
    simp [ref08_Has, Tref08_Has, Tree.run, h, hn]
  · have h : Lref08_Has_0 none ⟨l, x, (0 : Int)⟩ = some (.inl true) := h2
    have hm : x ∈ l := by
      rw [List.getElem?_eq_getElem hi] at h1
      simp at h1
      rw [← h1]; exact List.getElem_mem hi
    simp [ref08_Has, Tref08_Has, Tree.run, h, hm]
theorem Same_def (a b : List Int) (hl : a.length ≤ 9223372036854775807) : ref08_Same none a b = some (decide (a = b)) := by
  by_cases hab : a.length = b.length
  · have hs := lim_scan (f := fun s => (Wref08_Same_0 s).run) (fun i : Nat => ⟨a, b, (i : Int)⟩) a.length (fun i => a[i]? = b[i]?) (fun i => .inl false) (.inr ())
      (fun i hi hp => by
        have hi' : i < b.length := by omega
        have hp' : a[i] = b[i] := by
          rw [List.getElem?_eq_getElem hi, List.getElem?_eq_getElem hi'] at hp
          exact Option.some.inj hp
        simp [Wref08_Same_0, Tree.run, hi, hi', wrap_succ hi hl, hp'])
      (fun i hi hp => by
        have hi' : i < b.length := by omega
        have hp' : ¬ a[i] = b[i] := by
          rw [List.getElem?_eq_getElem hi, List.getElem?_eq_getElem hi'] at hp
          exact fun h => hp (by rw [h])
        simp [Wref08_Same_0, Tree.run, hi, hi', hp'])
      (by simp [Wref08_Same_0, Tree.run])
    rcases hs with ⟨h1, h2⟩ | ⟨i, hi, h1, h2⟩
    · have h : Lref08_Same_0 none ⟨a, b, (0 : Int)⟩ = some (.inr ()) := h2
      have he : a = b := List.ext_getElem? fun i => by
        by_cases hi : i < a.length
        · exact h1 i hi
        · rw [List.getElem?_eq_none (by omega), List.getElem?_eq_none (by omega)]
      simp [ref08_Same, Tref08_Same, Tree.run, h, hab]
      exact he
    · have h : Lref08_Same_0 none ⟨a, b, (0 : Int)⟩ = some (.inl false) := h2
      have he : ¬ a = b := fun he => h1 (by rw [he])
      simp [ref08_Same, Tref08_Same, Tree.run, h, hab, he]
  · have he : ¬ a = b := fun h => hab (by rw [h])
    have hab' : ¬ (a.length : Int) = (b.length : Int) := by omega
    simp [ref08_Same, Tref08_Same, Tree.run, hab', he]
/-! ### a single access -/
def okA (m : List Int) (a : Int) (b : Bool) : Prop := 0 ≤ a ∧ a < 2 * (m.length : Int) ∧ (b = true ∨ a % 2 = 0)
instance (m a b) : Decidable (okA m a b) := by unfold okA; infer_instance
def wordAt (m : List Int) (a : Int) : Int := m.getD (a / 2).toNat 0
def byteAt (m : List Int) (a : Int) : Int := if a % 2 = 0 then wordAt m a % 256 else wordAt m a / 256 % 256
theorem get_word {m : List Int} {a : Int} (h0 : 0 ≤ a) (h1 : a < 2 * (m.length : Int)) : m[(a / 2).toNat]? = some (wordAt m a) := by
  have : (a / 2).toNat < m.length := by omega
  simp [wordAt, this]
theorem wrap2 {m : List Int} (hm : m.length ≤ 100000) : IntKind.wrap .i64 (2 * (m.length : Int)) = 2 * (m.length : Int) := wrap_id (by omega) (by omega)
theorem half {a : Int} (h0 : 0 ≤ a) (h1 : a ≤ 9223372036854775807) : IntKind.wrap .i64 (a.tdiv 2) = a / 2 := by rw [tdiv_nn h0, wrap_id (by omega) (by omega)]
theorem misses_def (m : List Int) (a : Int) (b : Bool) (hm : m.length ≤ 100000) : memory_misses m a b = some (!decide (okA m a b)) := by
  simp only [memory_misses, Tmemory_misses, Tree.run, wrap2 hm]
  by_cases h0 : 0 ≤ a
  · rw [tmod_nn h0]
    cases b
    all_goals simp [okA]
    all_goals repeat' split
    all_goals (rw [Option.some.injEq, Bool.eq_iff_iff]; simp; try omega)
  · have hn : ¬ okA m a b := fun h => h0 h.1
    have hlt : a < 0 := by omega
    cases b
    all_goals simp [hn, hlt]
theorem access_def (m : List Int) (a : Int) (b : Bool) (hm : m.length ≤ 100000) : ref08_access m a b = some (if okA m a b then 0 else 1) := by
  simp only [ref08_access, Tref08_access, Tree.run, wrap2 hm]
  by_cases h0 : 0 ≤ a
  · rw [tmod_nn h0]
    cases b
    all_goals simp [okA]
    all_goals repeat' split
    all_goals first | rfl | omega
  · have hn : ¬ okA m a b := fun h => h0 h.1
    have hlt : a < 0 := by omega
    simp [hn, hlt]
theorem Byte_def (m : List Int) (a : Int) (h0 : 0 ≤ a) (h1 : a < 2 * (m.length : Int)) (hm : m.length ≤ 100000) : ref08_Byte m a = some (byteAt m a) := by
  have e8 : (2 : Int) ^ (min ((8 : Int)).toNat 64) = 256 := by decide
  simp only [ref08_Byte, Tref08_Byte, Tree.run, tmod_nn h0, half h0 (by omega), get_word h0 h1, and255, e8, fdiv_pos _ (show (0 : Int) ≤ 256 by omega), byteAt]
  have hd : 0 ≤ a / 2 := by omega
  by_cases hp : a % 2 = 0 <;> simp [hp, hd]
def readM (m bad : List Int) (a : Int) (b : Bool) : Int × Int := if okA m a b then (if a - a % 2 ∈ bad then (0, 9) else (if b then byteAt m a else wordAt m a, 0)) else (0, 1)
theorem Read_def (m bad : List Int) (a : Int) (b : Bool) (hm : m.length ≤ 100000) (hb : bad.length ≤ 9223372036854775807) : memory_Read none m bad a b = some (readM m bad a b) := by
  simp only [memory_Read, Tmemory_Read, Tree.run, misses_def m a b hm, Option.bind_some, Contains_def _ _ hb, readM]
  by_cases ho : okA m a b
  · obtain ⟨h0, h1, h2⟩ := id ho
    simp only [ho, decide_true, Bool.not_true, Bool.false_eq_true, if_false, if_true, andNot1 a h0 (by omega), decide_eq_true_eq, tmod_nn h0, half h0 (by omega), get_word h0 h1, and255, Option.bind_some]
    by_cases hi : a - a % 2 ∈ bad
    · simp only [hi, if_true]
    · have hd : 0 ≤ a / 2 := by omega
      simp only [hi, if_false, hd, if_true, show ¬ (2 : Int) = 0 by omega]
      cases b
      · simp
      · simp only [if_true, byteAt]
        by_cases hp : a % 2 = 0
        · have e : IntKind.wrap .i64 (a % 2 * 8) = 0 := by rw [hp]; rfl
          rw [e, if_pos (by omega), if_pos hp, show (2 : Int) ^ (min ((0 : Int)).toNat 64) = 1 by decide, fdiv_pos _ (by omega), Int.ediv_one]
        · have hp1 : a % 2 = 1 := by omega
          have e : IntKind.wrap .i64 (a % 2 * 8) = 8 := by rw [hp1]; rfl
          rw [e, if_pos (by omega), if_neg hp, show (2 : Int) ^ (min ((8 : Int)).toNat 64) = 256 by decide, fdiv_pos _ (by omega)]
  · simp [ho]
theorem ref_Read_def (m bad : List Int) (a : Int) (b : Bool) (hm : m.length ≤ 100000) (hb : bad.length ≤ 9223372036854775807) : ref08_Read none m bad a b = some (readM m bad a b) := by
  simp only [ref08_Read, Tref08_Read, Tree.run, access_def m a b hm, Option.bind_some, readM, Has_def _ _ hb]
  by_cases ho : okA m a b
  · obtain ⟨h0, h1, h2⟩ := id ho
    have hd : 0 ≤ a / 2 := by omega
    simp only [ho, if_true, tmod_nn h0, half h0 (by omega), wrap_id (n := a - a % 2) (by omega) (by omega), get_word h0 h1, Byte_def m a h0 h1 hm, Option.bind_some, decide_eq_true_eq]
    by_cases hi : a - a % 2 ∈ bad
    · simp [hi]
    · cases b <;> simp [hi, hd]
  · simp [ho]
/-! ### writing -/
/-- the word after a byte is written -/
def putB (w a b : Int) : Int := if a % 2 = 0 then w / 256 * 256 + b else w % 256 + b * 256
def putW (w a : Int) (b : Bool) (v : Int) : Int := if b then putB w a (v % 256) else v % 65536
theorem bits_lo (w b : Int) (h0 : 0 ≤ w) (h1 : w ≤ 65535) (hb : 0 ≤ b ∧ b ≤ 255) : IntKind.wrap .i64 ((BitVec.ofInt 64 (IntKind.wrap .i64 ((BitVec.ofInt 64 w &&& ~~~BitVec.ofInt 64 (255 : Int)).toNat : Int)) ||| BitVec.ofInt 64 b).toNat : Int) = w / 256 * 256 + b := by
  rw [andNot255 w h0 (by omega), or_add 8 _ _ hb.1 (by omega) (by omega) (by omega) (by omega)]
  omega
theorem bits_lo' (w b : Int) (h0 : 0 ≤ w) (h1 : w ≤ 65535) (hb : 0 ≤ b ∧ b ≤ 255) : IntKind.wrap .i64 ((BitVec.ofInt 64 (IntKind.wrap .i64 ((BitVec.ofInt 64 w &&& BitVec.ofInt 64 (65280 : Int)).toNat : Int)) ||| BitVec.ofInt 64 b).toNat : Int) = w / 256 * 256 + b := by
  rw [and65280 w h0 (by omega), or_add 8 _ _ hb.1 (by omega) (by omega) (by omega) (by omega)]
  omega
theorem bits_hi (w b : Int) (h0 : 0 ≤ w) (h1 : w ≤ 65535) (hb : 0 ≤ b ∧ b ≤ 255) : IntKind.wrap .i64 ((BitVec.ofInt 64 (IntKind.wrap .i64 ((BitVec.ofInt 64 w &&& ~~~BitVec.ofInt 64 (65280 : Int)).toNat : Int)) ||| BitVec.ofInt 64 (b * 256)).toNat : Int) = w % 256 + b * 256 := by
  rw [andNot65280 w h0 (by omega), show w - w / 256 % 256 * 256 = w % 256 by omega, or_add' 8 _ _ (by omega) (by omega) (by omega) (by omega) (by omega)]
theorem bits_hi' (w b : Int) (h0 : 0 ≤ w) (h1 : w ≤ 65535) (hb : 0 ≤ b ∧ b ≤ 255) : IntKind.wrap .i64 ((BitVec.ofInt 64 (IntKind.wrap .i64 ((BitVec.ofInt 64 w &&& BitVec.ofInt 64 (255 : Int)).toNat : Int)) ||| BitVec.ofInt 64 (b * 256)).toNat : Int) = w % 256 + b * 256 := by
  rw [and255, or_add' 8 _ _ (by omega) (by omega) (by omega) (by omega) (by omega)]
theorem bits_w (w v : Int) (h0 : 0 ≤ w) (h1 : w ≤ 65535) (hv : 0 ≤ v ∧ v ≤ 65535) : IntKind.wrap .i64 ((BitVec.ofInt 64 (IntKind.wrap .i64 ((BitVec.ofInt 64 w &&& ~~~BitVec.ofInt 64 (65535 : Int)).toNat : Int)) ||| BitVec.ofInt 64 v).toNat : Int) = v := by
  rw [andNot65535 w h0 (by omega), show w - w % 65536 = 0 by omega, or_add 16 _ _ hv.1 (by omega) (by omega) (by omega) (by omega)]
  omega
/-- a byte is put into memory -/
def setB (m : List Int) (a b : Int) : List Int := m.set (a / 2).toNat (putB (wordAt m a) a b)
def Words (m : List Int) : Prop := m.length ≤ 100000 ∧ ∀ w ∈ m, 0 ≤ w ∧ w ≤ 65535
theorem word_in {m : List Int} (hm : Words m) {a : Int} (h0 : 0 ≤ a) (h1 : a < 2 * (m.length : Int)) : 0 ≤ wordAt m a ∧ wordAt m a ≤ 65535 := hm.2 _ (List.mem_of_getElem? (get_word h0 h1))
theorem set_def (m : List Int) (a b : Int) (hm : Words m) (h0 : 0 ≤ a) (h1 : a < 2 * (m.length : Int)) (hb : 0 ≤ b ∧ b ≤ 255) : ref08_set a b m = some (setB m a b) := by
  have hw := word_in hm h0 h1
  have hl := hm.1
  have hd : 0 ≤ a / 2 := by omega
  have hd2 : a / 2 < (m.length : Int) := by omega
  have e8 : (2 : Int) ^ (min ((8 : Int)).toNat 64) = 256 := by decide
  simp only [ref08_set, Tref08_set, Tree.run, tmod_nn h0, half h0 (by omega), get_word h0 h1, e8, Option.bind_some, hd, hd2, decide_true, if_true, wrap_id (n := b * 256) (by omega) (by omega), bits_lo' _ b hw.1 hw.2 hb, bits_hi' _ b hw.1 hw.2 hb, setB, putB, show ¬ (2 : Int) = 0 by omega, decide_false, Bool.false_eq_true, if_false, decide_eq_true_eq, show (0 : Int) ≤ 8 by omega]
  by_cases hp : a % 2 = 0 <;> simp [hp]
theorem copied_def (m : List Int) (hm : m.length ≤ 100000) : memory_copied m = some m := by
  simp [memory_copied, Tmemory_copied, Tree.run]
  omega
/-- the bad addresses without one -/
def without (bad : List Int) (c : Int) : List Int := bad.filter fun y => decide (y ≠ c)
theorem without_more {l : List Int} {c : Int} {i : Nat} (hi : i < l.length) : without (l.take (i + 1)) c = without (l.take i) c ++ (if l[i] = c then [] else [l[i]]) := by
  rw [take_one_more hi]
  unfold without
  rw [List.filter_append]
  by_cases he : l[i] = c <;> simp [he]
theorem Without_def (l : List Int) (c : Int) (hl : l.length ≤ 100000) : ref08_Without none l c = some (without l c) := by
  have hc := lim_count (f := fun s => (Wref08_Without_0 s).run) (fun i : Nat => ⟨l, c, (i : Int), without (l.take i) c⟩) l.length (fun i hi => by
    have hle : (without (l.take i) c).length ≤ i := by
      refine Nat.le_trans (List.length_filter_le _ _) ?_
      rw [List.length_take]; omega
    have hm := without_more (c := c) hi
    by_cases he : l[i] = c
    · rw [if_pos he, List.append_nil] at hm
      simp [Wref08_Without_0, Tree.run, hi, wrap_succ hi (show l.length ≤ 9223372036854775807 by omega), he, hm]
    · rw [if_neg he] at hm
      have hlt : ((without (l.take i) c).length + 1) * 8 ≤ 140737488355328 := by omega
      simp [Wref08_Without_0, Tree.run, hi, wrap_succ hi (show l.length ≤ 9223372036854775807 by omega), he, hm, hlt]) 0 (Nat.zero_le _)
  have hd : Lref08_Without_0 none ⟨l, c, ((l.length : Nat) : Int), without (l.take l.length) c⟩ = some (without (l.take l.length) c) := lim_done (by simp [Wref08_Without_0, Tree.run])
  have h : Lref08_Without_0 none ⟨l, c, (0 : Int), []⟩ = some (without (l.take l.length) c) := hc.trans hd
  rw [List.take_length] at h
  simp [ref08_Without, Tref08_Without, Tree.run, h]
theorem hit_def (y a : Int) (h0 : 0 ≤ a) (h1 : a ≤ 9223372036854775807) : memory_Write_1 y a = some (decide (y = a - a % 2)) := by
  simp only [memory_Write_1, Tmemory_Write_1, Tree.run, andNot1 a h0 h1]
theorem IndexFunc_def (l : List Int) (a : Int) (hl : l.length ≤ 100000) (h0 : 0 ≤ a) (h1 : a ≤ 9223372036854775807) : ((∀ i, i < l.length → l[i]? ≠ some (a - a % 2)) ∧ slices_IndexFunc_int_int none l a = some (-1, l, a)) ∨ ∃ k, k < l.length ∧ (∀ i, i < k → l[i]? ≠ some (a - a % 2)) ∧ l[k]? = some (a - a % 2) ∧ slices_IndexFunc_int_int none l a = some ((k : Int), l, a) := by
  have hs := lim_scan1 (f := fun s => (Wslices_IndexFunc_int_int_0 s).run) (fun i : Nat => ⟨(l.length : Int), (i : Int), l, a⟩) l.length (fun i => l[i]? ≠ some (a - a % 2)) (fun i => .inl ((i : Int), l, a)) (.inr (l, a))
    (fun i hi hp => by
      have hp' : ¬ l[i] = a - a % 2 := fun he => hp (by rw [List.getElem?_eq_getElem hi, he])
      simp [Wslices_IndexFunc_int_int_0, Tree.run, hi, wrap_succ hi (show l.length ≤ 9223372036854775807 by omega), hit_def _ a h0 h1, hp'])
    (fun i hi hp => by
      have hp' : l[i] = a - a % 2 := by
        rw [List.getElem?_eq_getElem hi] at hp
        simp at hp; exact hp
      simp [Wslices_IndexFunc_int_int_0, Tree.run, hi, hit_def _ a h0 h1, hp'])
    (by simp [Wslices_IndexFunc_int_int_0, Tree.run])
  rcases hs with ⟨h2, h3⟩ | ⟨i, hi, h2, h3, h4⟩
  · have h : Lslices_IndexFunc_int_int_0 none ⟨(l.length : Int), (0 : Int), l, a⟩ = some (.inr (l, a)) := h3
    exact .inl ⟨h2, by simp [slices_IndexFunc_int_int, Tslices_IndexFunc_int_int, Tree.run, h]⟩
  · have h : Lslices_IndexFunc_int_int_0 none ⟨(l.length : Int), (0 : Int), l, a⟩ = some (.inl ((i : Int), l, a)) := h4
    exact .inr ⟨i, hi, h2, by rw [Decidable.not_not] at h3; exact h3, by simp [slices_IndexFunc_int_int, Tslices_IndexFunc_int_int, Tree.run, h]⟩
theorem without_take_eq {l : List Int} {c : Int} {k : Nat} (h : ∀ i, i < k → l[i]? ≠ some c) : without (l.take k) c = l.take k := by
  unfold without
  rw [List.filter_eq_self]
  intro y hy
  obtain ⟨i, hi, he⟩ := List.mem_iff_getElem.1 hy
  rw [List.getElem_take] at he
  have hlt : i < k := by rw [List.length_take] at hi; omega
  have := h i hlt
  rw [List.getElem?_eq_getElem (by rw [List.length_take] at hi; omega), he] at this
  simp at this ⊢
  exact this
theorem delete_loop (l : List Int) (a : Int) (hl : l.length ≤ 100000) (h0 : 0 ≤ a) (h1 : a ≤ 9223372036854775807) (i j : Nat) (b : List Int) (hb : b.length = l.length) (hd : b.drop i = l.drop i) (ht : b.take j = without (l.take i) (a - a % 2)) (hji : j ≤ i) (hi : i ≤ l.length) :
    ∃ (k : Nat) (b' : List Int), Lslices_DeleteFunc_int_int_0 none ⟨(j : Int), (i : Int), b, a⟩ = some ((k : Int), b', a) ∧ k ≤ l.length ∧ b'.length = l.length ∧ b'.take k = without l (a - a % 2) := by
  obtain ⟨r, hr, k, b', e1, e2, e3, e4⟩ := lim_rule (f := fun s => (Wslices_DeleteFunc_int_int_0 s).run)
    (fun s => ∃ (i j : Nat) (b : List Int), s = ⟨(j : Int), (i : Int), b, a⟩ ∧ b.length = l.length ∧ b.drop i = l.drop i ∧ b.take j = without (l.take i) (a - a % 2) ∧ j ≤ i ∧ i ≤ l.length)
    (fun r => ∃ (k : Nat) (b' : List Int), r = ((k : Int), b', a) ∧ k ≤ l.length ∧ b'.length = l.length ∧ b'.take k = without l (a - a % 2))
    (fun s => l.length - s.t6.toNat)
    (by
      rintro s ⟨i, j, b, rfl, hb, hd, ht, hji, hi⟩
      by_cases hlt : i < l.length
      · have hib : i < b.length := by omega
        have he : b[i] = l[i] := by
          have h2 := congrArg (fun x => x[0]?) hd
          simp only [List.getElem?_drop, Nat.add_zero] at h2
          rw [List.getElem?_eq_getElem hib, List.getElem?_eq_getElem hlt] at h2
          exact Option.some.inj h2
        have hd' : b.drop (i + 1) = l.drop (i + 1) := by
          have h2 := congrArg (List.drop 1) hd
          rwa [List.drop_drop, List.drop_drop] at h2
        right
        by_cases hp : l[i] = a - a % 2
        · refine ⟨⟨(j : Int), ((i + 1 : Nat) : Int), b, a⟩, ?_, ⟨i + 1, j, b, rfl, hb, hd', ?_, by omega, hlt⟩, ?_⟩
          · simp [Wslices_DeleteFunc_int_int_0, Tree.run, hb, hlt, hib, he, wrap_succ hlt (show l.length ≤ 9223372036854775807 by omega), hit_def _ a h0 h1, hp]
          · rw [without_more hlt, if_pos hp, List.append_nil]; exact ht
          · simp; omega
        · have hjb : j < b.length := by omega
          have hjl : j < l.length := by omega
          refine ⟨⟨((j + 1 : Nat) : Int), ((i + 1 : Nat) : Int), b.set j l[i], a⟩, ?_, ⟨i + 1, j + 1, b.set j l[i], rfl, by rw [List.length_set]; exact hb, ?_, ?_, by omega, hlt⟩, ?_⟩
          · simp [Wslices_DeleteFunc_int_int_0, Tree.run, hb, hlt, hjl, hib, hjb, he, wrap_succ hlt (show l.length ≤ 9223372036854775807 by omega), wrap_succ hjl (show l.length ≤ 9223372036854775807 by omega), hit_def _ a h0 h1, hp]
          · rw [List.drop_set_of_lt (by omega)]; exact hd'
          · rw [without_more hlt, if_neg hp, ← ht, take_one_more (by rw [List.length_set]; exact hjb), List.take_set_of_le (Nat.le_refl _)]
            simp
          · simp; omega
      · left
        have hil : i = l.length := by omega
        refine ⟨((j : Int), b, a), ?_, j, b, rfl, by omega, hb, ?_⟩
        · simp [Wslices_DeleteFunc_int_int_0, Tree.run, hb, hil]
        · rw [ht, hil, List.take_length])
    ⟨(j : Int), (i : Int), b, a⟩ ⟨i, j, b, rfl, hb, hd, ht, hji, hi⟩
  subst e1
  exact ⟨k, b', hr, e2, e3, e4⟩
theorem DeleteFunc_def (l : List Int) (a : Int) (hl : l.length ≤ 100000) (h0 : 0 ≤ a) (h1 : a ≤ 9223372036854775807) : slices_DeleteFunc_int_int none l a = some (.inl (l, a)) ∧ without l (a - a % 2) = l ∨ ∃ k b, slices_DeleteFunc_int_int none l a = some (.inr ((0, k), b, a)) ∧ b.take k = without l (a - a % 2) := by
  rcases IndexFunc_def l a hl h0 h1 with ⟨h2, h3⟩ | ⟨k, hk, h2, h3, h4⟩
  · left
    have := without_take_eq (k := l.length) h2
    rw [List.take_length] at this
    exact ⟨by simp [slices_DeleteFunc_int_int, Tslices_DeleteFunc_int_int, Tree.run, h3], this⟩
  · right
    have he : l[k] = a - a % 2 := by rw [List.getElem?_eq_getElem hk] at h3; exact Option.some.inj h3
    obtain ⟨n, b, e1, e2, e3, e4⟩ := delete_loop l a hl h0 h1 (k + 1) k l rfl rfl (by rw [without_more hk, if_pos he, List.append_nil, without_take_eq h2]) (by omega) hk
    have e1' : Lslices_DeleteFunc_int_int_0 none ⟨(k : Int), IntKind.wrap .i64 ((k : Int) + 1), l, a⟩ = some ((n : Int), b, a) := by
      rw [wrap_succ hk (by omega)]; exact e1
    have hlen : (b.take n ++ List.replicate (b.length - n) (0 : Int)).length = b.length := by
      simp; omega
    refine ⟨n, b.take n ++ List.replicate (b.length - n) 0, ?_, ?_⟩
    · have hne : ¬ (k : Int) = -1 := by omega
      have hdrop : b.drop (n + (b.length - n)) = [] := List.drop_eq_nil_of_le (by omega)
      simp [slices_DeleteFunc_int_int, Tslices_DeleteFunc_int_int, Tree.run, h4, e1', hne, hdrop]
      omega
    · rw [List.take_append_of_le_length (by rw [List.length_take]; omega), List.take_take, Nat.min_self]
      exact e4
/-- memory after an access that writes -/
def writeM (m bad : List Int) (a : Int) (b : Bool) (v : Int) : List Int × List Int × Int := if okA m a b then (m.set (a / 2).toNat (putW (wordAt m a) a b v), without bad (a - a % 2), 0) else ([], [], 1)
theorem Write_def (m bad : List Int) (a : Int) (b : Bool) (v : Int) (hm : Words m) (hb : bad.length ≤ 100000) : memory_Write none m bad a b v = some (writeM m bad a b v) := by
  have hl := hm.1
  simp only [memory_Write, Tmemory_Write, Tree.run, misses_def m a b hl, copied_def m hl, Option.bind_some, writeM]
  by_cases ho : okA m a b
  · obtain ⟨h0, h1, h2⟩ := id ho
    have hw := word_in hm h0 h1
    have hd : 0 ≤ a / 2 := by omega
    have hd2 : a / 2 < (m.length : Int) := by omega
    have hcl : cloneF 8 bad = some bad := by unfold cloneF; rw [if_pos (by omega)]
    simp only [ho, decide_true, Bool.not_true, Bool.false_eq_true, if_false, if_true, decide_eq_true_eq, tmod_nn h0, half h0 (by omega), get_word h0 h1, Option.bind_some, hd, hd2, hcl, show ¬ (2 : Int) = 0 by omega, and255, and65535]
    have hv1 : 0 ≤ v % 256 ∧ v % 256 ≤ 255 := by omega
    have hv2 : 0 ≤ v % 65536 ∧ v % 65536 ≤ 65535 := by omega
    have hne : ¬ b = true → a % 2 = 0 := fun hb => h2.resolve_left hb
    cases b
    · have hp : a % 2 = 0 := hne (by decide)
      simp only [Bool.false_eq_true, if_false, show (2 : Int) ^ (min ((0 : Int)).toNat 64) = 1 by decide, Int.mul_one, wrap_id (n := 65535) (by omega) (by omega), wrap_id (n := v % 65536) (by omega) (by omega), bits_w _ _ hw.1 hw.2 hv2, putW, Int.le_refl, if_true]
      rcases DeleteFunc_def bad a hb h0 (by omega) with ⟨e1, e2⟩ | ⟨k, b', e1, e2⟩
      · simp [e1, e2]
      · simp [e1, e2]
    · by_cases hp : a % 2 = 0
      · simp only [if_true, hp, Int.zero_mul, wrap_id (n := 0) (by omega) (by omega), show (2 : Int) ^ (min ((0 : Int)).toNat 64) = 1 by decide, Int.mul_one, wrap_id (n := 255) (by omega) (by omega), wrap_id (n := v % 256) (by omega) (by omega), bits_lo _ _ hw.1 hw.2 hv1, putW, putB, Int.le_refl]
        rcases DeleteFunc_def bad a hb h0 (by omega) with ⟨e1, e2⟩ | ⟨k, b', e1, e2⟩
        · rw [hp, Int.sub_zero] at e2; simp [e1, e2]
        · rw [hp, Int.sub_zero] at e2; simp [e1, e2]
      · have hp1 : a % 2 = 1 := by omega
        simp only [if_true, hp1, Int.one_mul, wrap_id (n := 8) (by omega) (by omega), show (2 : Int) ^ (min ((8 : Int)).toNat 64) = 256 by decide, show (255 : Int) * 256 = 65280 by omega, wrap_id (n := 65280) (by omega) (by omega), wrap_id (n := v % 256 * 256) (by omega) (by omega), wrap_id (n := v % 256) (by omega) (by omega), bits_hi _ _ hw.1 hw.2 hv1, putW, putB, show (0 : Int) ≤ 8 by omega, show ¬ (1 : Int) = 0 by omega, if_false]
        rcases DeleteFunc_def bad a hb h0 (by omega) with ⟨e1, e2⟩ | ⟨k, b', e1, e2⟩
        · rw [hp1] at e2; simp [e1, e2]
        · rw [hp1] at e2; simp [e1, e2]
  · simp [ho]
theorem ref_Write_def (m bad : List Int) (a : Int) (b : Bool) (v : Int) (hm : Words m) (hb : bad.length ≤ 100000) : ref08_Write none m bad a b v = some (writeM m bad a b v) := by
  have hl := hm.1
  simp only [ref08_Write, Tref08_Write, Tree.run, access_def m a b hl, Option.bind_some, writeM]
  by_cases ho : okA m a b
  · obtain ⟨h0, h1, h2⟩ := id ho
    have hd : 0 ≤ a / 2 := by omega
    have hd2 : a / 2 < (m.length : Int) := by omega
    have hv1 : 0 ≤ v % 256 ∧ v % 256 ≤ 255 := by omega
    simp only [ho, if_true, tmod_nn h0, half h0 (by omega), wrap_id (n := a - a % 2) (by omega) (by omega), List.nil_append, get_word h0 h1, Option.bind_some, decide_eq_true_eq, hd, hd2, and255, and65535, set_def m a _ hm h0 h1 hv1, Without_def _ _ hb, setB]
    cases b <;> simp [putW] <;> omega
  · simp [ho]
/-! ### valid memories -/
def Bads (n : Nat) (bad : List Int) : Prop := ∀ i, (h : i < bad.length) → 0 ≤ bad[i] ∧ bad[i] < 2 * (n : Int) ∧ bad[i] % 2 = 0 ∧ ∀ h' : 0 < i, bad[i - 1] < bad[i]
def Sized (n : Int) : Prop := 256 ≤ n ∧ n ≤ 32768 ∧ n % 64 = 0
instance (n) : Decidable (Sized n) := by unfold Sized; infer_instance
def Rt (m bad : List Int) : Prop := Sized (2 * (m.length : Int)) ∧ (∀ w ∈ m, 0 ≤ w ∧ w ≤ 65535) ∧ Bads m.length bad
theorem Size_def (n : Int) : ref08_Size n = some (decide (Sized n)) := by
  simp only [ref08_Size, Tref08_Size, Tree.run]
  by_cases h0 : 0 ≤ n
  · rw [tmod_nn h0]
    simp only [decide_eq_true_eq, show ¬ (64 : Int) = 0 by omega, if_false]
    repeat' split
    all_goals (rw [Option.some.injEq]; first | (symm; rw [decide_eq_false_iff_not]; unfold Sized; omega) | (rw [decide_eq_decide]; unfold Sized; omega))
  · have : ¬ Sized n := fun h => h0 (by have := h.1; omega)
    simp [this]; omega
theorem sized_def (n : Int) : memory_sized n = some (decide (Sized n)) := Size_def n
theorem words_iff (m : List Int) : (∀ i, i < m.length → ∀ y, m[i]? = some y → 0 ≤ y ∧ y ≤ 65535) ↔ ∀ w ∈ m, 0 ≤ w ∧ w ≤ 65535 := by
  constructor
  · intro h w hw
    obtain ⟨i, hi, he⟩ := List.mem_iff_getElem.1 hw
    exact h i hi w (by rw [List.getElem?_eq_getElem hi, he])
  · intro h i hi y hy
    exact h y (List.mem_of_getElem? hy)
theorem ref_words (m bad : List Int) (hm : m.length ≤ 100000) : Lref08_Right_0 none ⟨m, bad, (0 : Int)⟩ = some (if ∀ w ∈ m, 0 ≤ w ∧ w ≤ 65535 then .inr (m, bad) else .inl (m, bad, false)) := by
  have hs := lim_scan (f := fun s => (Wref08_Right_0 s).run) (fun i : Nat => ⟨m, bad, (i : Int)⟩) m.length (fun i => ∀ y, m[i]? = some y → 0 ≤ y ∧ y ≤ 65535) (fun i => .inl (m, bad, false)) (.inr (m, bad))
    (fun i hi hp => by
      have hp' := hp m[i] (List.getElem?_eq_getElem hi)
      have h1 : ¬ m[i] < 0 := by omega
      have h2 : ¬ 65535 < m[i] := by omega
      simp [Wref08_Right_0, Tree.run, hi, wrap_succ hi (show m.length ≤ 9223372036854775807 by omega), h1, h2])
    (fun i hi hp => by
      have hp' : ¬ (0 ≤ m[i] ∧ m[i] ≤ 65535) := fun h => hp fun y hy => by
        rw [List.getElem?_eq_getElem hi] at hy
        rw [← Option.some.inj hy]; exact h
      by_cases h1 : m[i] < 0
      · simp [Wref08_Right_0, Tree.run, hi, h1]
      · have h2 : 65535 < m[i] := by omega
        simp [Wref08_Right_0, Tree.run, hi, h1, h2])
    (by simp [Wref08_Right_0, Tree.run])
  rcases hs with ⟨h1, h2⟩ | ⟨i, hi, h1, h2⟩
  · rw [if_pos ((words_iff m).1 h1)]; exact h2
  · rw [if_neg fun h => h1 ((words_iff m).2 h i hi)]; exact h2
theorem mem_words (m bad : List Int) (hm : m.length ≤ 100000) : Lmemory_Right_0 none ⟨m, bad, m, (m.length : Int), (0 : Int)⟩ = some (if ∀ w ∈ m, 0 ≤ w ∧ w ≤ 65535 then .inr (m, bad) else .inl (m, bad, false)) := by
  have hs := lim_scan (f := fun s => (Wmemory_Right_0 s).run) (fun i : Nat => ⟨m, bad, m, (m.length : Int), (i : Int)⟩) m.length (fun i => ∀ y, m[i]? = some y → 0 ≤ y ∧ y ≤ 65535) (fun i => .inl (m, bad, false)) (.inr (m, bad))
    (fun i hi hp => by
      have hp' := hp m[i] (List.getElem?_eq_getElem hi)
      have h1 : m[i] % 65536 = m[i] := (mask_fix _ _ (by omega)).2 ⟨hp'.1, by omega⟩
      simp only [Wmemory_Right_0, Tree.run, and65535]
      simp [hi, wrap_succ hi (show m.length ≤ 9223372036854775807 by omega), h1])
    (fun i hi hp => by
      have hp' : ¬ m[i] % 65536 = m[i] := fun h => hp fun y hy => by
        rw [List.getElem?_eq_getElem hi] at hy
        rw [← Option.some.inj hy]
        have := (mask_fix _ _ (by omega)).1 h
        omega
      simp only [Wmemory_Right_0, Tree.run, and65535]
      simp [hi, hp'])
    (by simp [Wmemory_Right_0, Tree.run])
  rcases hs with ⟨h1, h2⟩ | ⟨i, hi, h1, h2⟩
  · rw [if_pos ((words_iff m).1 h1)]; exact h2
  · rw [if_neg fun h => h1 ((words_iff m).2 h i hi)]; exact h2
/-- a bad address in its place -/
def GoodAt (n : Nat) (bad : List Int) (i : Nat) : Prop := ∀ h : i < bad.length, 0 ≤ bad[i] ∧ bad[i] < 2 * (n : Int) ∧ bad[i] % 2 = 0 ∧ ∀ h' : 0 < i, bad[i - 1] < bad[i]
def lastOf (bad : List Int) (i : Nat) : Int := if i = 0 then -1 else bad.getD (i - 1) 0
def GoodAt' (n : Nat) (bad : List Int) (i : Nat) : Prop := ∀ h : i < bad.length, lastOf bad i < bad[i] ∧ bad[i].tmod 2 = 0 ∧ bad[i] < 2 * (n : Int)
theorem bads_iff (n : Nat) (bad : List Int) : (∀ i, i < bad.length → GoodAt n bad i) ↔ Bads n bad := ⟨fun h i hi => h i hi hi, fun h i _ hi => h i hi⟩
theorem bads_iff' (n : Nat) (bad : List Int) : (∀ i, i < bad.length → GoodAt' n bad i) ↔ Bads n bad := by
  constructor
  · intro h i
    induction i with
    | zero =>
      intro hi
      obtain ⟨h1, h2, h3⟩ := h 0 hi hi
      have h1' : -1 < bad[0] := h1
      rw [tmod_nn (by omega)] at h2
      exact ⟨by omega, h3, h2, fun h' => absurd h' (by omega)⟩
    | succ i ih =>
      intro hi
      have hi' : i < bad.length := by omega
      obtain ⟨h1, h2, h3⟩ := h (i + 1) hi hi
      have hp := ih hi'
      have hl : lastOf bad (i + 1) = bad[i] := by simp [lastOf, hi']
      rw [hl] at h1
      rw [tmod_nn (by omega)] at h2
      exact ⟨by omega, h3, h2, fun _ => h1⟩
  · intro h i hi _
    obtain ⟨h1, h2, h3, h4⟩ := h i hi
    refine ⟨?_, by rw [tmod_nn h1]; exact h3, h2⟩
    by_cases h0 : i = 0
    · subst h0; simp [lastOf]; omega
    · have hlt : i - 1 < bad.length := by omega
      have := h4 (by omega)
      simp [lastOf, h0, hlt]; exact this
theorem ref_bads (m bad : List Int) (hm : m.length ≤ 100000) (hb : bad.length ≤ 100000) : ∃ r, Lref08_Right_1 none ⟨m, bad, (0 : Int)⟩ = some r ∧ (r = .inr () ∧ Bads m.length bad ∨ r = .inl false ∧ ¬ Bads m.length bad) := by
  have hs := lim_scan (f := fun s => (Wref08_Right_1 s).run) (fun i : Nat => ⟨m, bad, (i : Int)⟩) bad.length (GoodAt m.length bad) (fun i => .inl false) (.inr ())
    (fun i hi hp => by
      obtain ⟨h1, h2, h3, h4⟩ := hp hi
      have h5 : ¬ bad[i] < 0 := by omega
      have h6 : ¬ 2 * (m.length : Int) ≤ bad[i] := by omega
      by_cases h0 : 0 < i
      · have h7 := h4 h0
        have h8 : ¬ bad[i] ≤ bad[i - 1] := by omega
        have h9 : IntKind.wrap .i64 ((i : Int) - 1) = ((i - 1 : Nat) : Int) := by rw [wrap_id] <;> omega
        have h10 : i - 1 < bad.length := by omega
        simp [Wref08_Right_1, Tree.run, hi, wrap_succ hi (show bad.length ≤ 9223372036854775807 by omega), h5, wrap2 hm, h6, tmod_nn h1, h3, h0, h9, h10, h8]
      · have h00 : i = 0 := by omega
        subst h00
        simp [Wref08_Right_1, Tree.run, hi, wrap_id (n := 1) (by omega) (by omega), h5, wrap2 hm, h6, tmod_nn h1, h3])
    (fun i hi hp => by
      by_cases h1 : bad[i] < 0
      · simp [Wref08_Right_1, Tree.run, hi, h1]
      by_cases h2 : 2 * (m.length : Int) ≤ bad[i]
      · simp [Wref08_Right_1, Tree.run, hi, h1, wrap2 hm, h2]
      by_cases h3 : bad[i] % 2 = 0
      · by_cases h0 : 0 < i
        · have h10 : i - 1 < bad.length := by omega
          have h9 : IntKind.wrap .i64 ((i : Int) - 1) = ((i - 1 : Nat) : Int) := by rw [wrap_id] <;> omega
          by_cases h4 : bad[i] ≤ bad[i - 1]
          · simp [Wref08_Right_1, Tree.run, hi, h1, wrap2 hm, h2, tmod_nn (show 0 ≤ bad[i] by omega), h3, h0, h9, h10, h4]
          · exact absurd (fun h => ⟨by omega, by omega, h3, fun _ => by omega⟩) hp
        · exact absurd (fun h => ⟨by omega, by omega, h3, fun h' => absurd h' h0⟩) hp
      · simp [Wref08_Right_1, Tree.run, hi, h1, wrap2 hm, h2, tmod_nn (show 0 ≤ bad[i] by omega), h3])
    (by simp [Wref08_Right_1, Tree.run])
  rcases hs with ⟨h1, h2⟩ | ⟨i, hi, h1, h2⟩
  · exact ⟨_, h2, .inl ⟨rfl, (bads_iff _ _).1 h1⟩⟩
  · exact ⟨_, h2, .inr ⟨rfl, fun h => h1 ((bads_iff _ _).2 h i hi)⟩⟩
theorem mem_bads (m bad : List Int) (hm : m.length ≤ 100000) (hb : bad.length ≤ 100000) : ∃ r, Lmemory_Right_1 none ⟨m, (-1 : Int), bad, (bad.length : Int), (0 : Int)⟩ = some r ∧ (r = .inr () ∧ Bads m.length bad ∨ r = .inl false ∧ ¬ Bads m.length bad) := by
  have hs := lim_scan (f := fun s => (Wmemory_Right_1 s).run) (fun i : Nat => ⟨m, lastOf bad i, bad, (bad.length : Int), (i : Int)⟩) bad.length (GoodAt' m.length bad) (fun i => .inl false) (.inr ())
    (fun i hi hp => by
      obtain ⟨h1, h2, h3⟩ := hp hi
      have h4 : ¬ bad[i] ≤ lastOf bad i := by omega
      have h5 : ¬ 2 * (m.length : Int) ≤ bad[i] := by omega
      have h6 : lastOf bad (i + 1) = bad[i] := by simp [lastOf, hi]
      simp [Wmemory_Right_1, Tree.run, hi, wrap_succ hi (show bad.length ≤ 9223372036854775807 by omega), h4, wrap2 hm, h2, h5, h6])
    (fun i hi hp => by
      by_cases h1 : bad[i] ≤ lastOf bad i
      · simp [Wmemory_Right_1, Tree.run, hi, h1]
      by_cases h2 : bad[i].tmod 2 = 0
      · by_cases h3 : 2 * (m.length : Int) ≤ bad[i]
        · simp [Wmemory_Right_1, Tree.run, hi, h1, h2, wrap2 hm, h3]
        · exact absurd (fun h => ⟨by omega, h2, by omega⟩) hp
      · simp [Wmemory_Right_1, Tree.run, hi, h1, h2])
    (by simp [Wmemory_Right_1, Tree.run])
  rcases hs with ⟨h1, h2⟩ | ⟨i, hi, h1, h2⟩
  · exact ⟨_, h2, .inl ⟨rfl, (bads_iff' _ _).1 h1⟩⟩
  · exact ⟨_, h2, .inr ⟨rfl, fun h => h1 ((bads_iff' _ _).2 h i hi)⟩⟩
open Classical in
theorem ref_Right_def (m bad : List Int) (hm : m.length ≤ 100000) (hb : bad.length ≤ 100000) : ref08_Right none m bad = some (decide (Rt m bad)) := by
  obtain ⟨r, hr, hc⟩ := ref_bads m bad hm hb
  simp only [ref08_Right, Tref08_Right, Tree.run, wrap2 hm, Size_def, Option.bind_some, ref_words m bad hm]
  by_cases h1 : Sized (2 * (m.length : Int))
  · by_cases h2 : ∀ w ∈ m, 0 ≤ w ∧ w ≤ 65535
    · rw [if_pos h2]
      rcases hc with ⟨e, h3⟩ | ⟨e, h3⟩
      · simp [h1, hr, e, Rt, h3]; exact h2
      · simp [h1, hr, e, Rt, h3]
    · rw [if_neg h2]
      have : ¬ Rt m bad := fun h => h2 h.2.1
      simp [h1, this]
  · have : ¬ Rt m bad := fun h => h1 h.1
    simp [h1, this]
open Classical in
theorem mem_Right_def (m bad : List Int) (hm : m.length ≤ 100000) (hb : bad.length ≤ 100000) : memory_Right none m bad = some (decide (Rt m bad)) := by
  obtain ⟨r, hr, hc⟩ := mem_bads m bad hm hb
  simp only [memory_Right, Tmemory_Right, Tree.run, wrap2 hm, sized_def, Option.bind_some, mem_words m bad hm]
  by_cases h1 : Sized (2 * (m.length : Int))
  · by_cases h2 : ∀ w ∈ m, 0 ≤ w ∧ w ≤ 65535
    · rw [if_pos h2]
      rcases hc with ⟨e, h3⟩ | ⟨e, h3⟩
      · simp [h1, hr, e, Rt, h3]; exact h2
      · simp [h1, hr, e, Rt, h3]
    · rw [if_neg h2]
      have : ¬ Rt m bad := fun h => h2 h.2.1
      simp [h1, this]
  · have : ¬ Rt m bad := fun h => h1 h.1
    simp [h1, this]
theorem New_eq (n : Int) : memory_New n = ref08_New n := rfl
theorem New_some (n : Int) : ∃ r, memory_New n = some r ∧ r.1.length ≤ 100000 := by
  simp only [memory_New, Tmemory_New, Tree.run, sized_def, Option.bind_some]
  by_cases h : Sized n
  · obtain ⟨h1, h2, h3⟩ := id h
    have hd : 0 ≤ n / 2 := by omega
    have hd2 : 8 * (n / 2) ≤ 281474976710656 := by omega
    simp [h, half (show 0 ≤ n by omega) (by omega), hd, hd2]
    omega
  · simp [h]
end Go.Proofs.Ytnhhimlienefkaa
