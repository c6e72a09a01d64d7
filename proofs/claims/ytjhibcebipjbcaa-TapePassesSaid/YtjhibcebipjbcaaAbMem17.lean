/- Memory's functions, plain (as in chapter 8). -/
import Derived.Test.YtjhibcebipjbcaaAb17
import Derived.Test.YtjhibcebipjbcaaAbRd17
import Derived.Test.YtjhibcebipjbcaaAbLim2
import Derived.Test.YtjhibcebipjbcaaAbBits2
set_option linter.unusedSimpArgs false
set_option linter.unusedVariables false
namespace Go.Proofs.Ytjhibcebipjbcaa
open Go Go.Ab
theorem wrap_succ {i n : Nat} (h : i < n) (hn : n ≤ 9223372036854775807) : IntKind.wrap .i64 ((i : Int) + 1) = ((i + 1 : Nat) : Int) := by rw [wrap_id] <;> omega
theorem Has_def (l : List Int) (x : Int) (hl : l.length ≤ 9223372036854775807) : ref08_Has none l x = some (decide (x ∈ l)) := by
  have hs := lim_scan (f := fun s => (Wref08_Has_0 s).run) (fun i : Nat => ⟨l, x, (i : Int)⟩) l.length (fun i => l[i]? ≠ some x) (fun i => .inl true) (.inr ())
    (fun i hi hp => by
      have hp' : ¬ l[i] = x := fun he => hp (by rw [List.getElem?_eq_getElem hi, he])
      simp [Wref08_Has_0, Tree.run, hi, wrap_succ hi hl, hp'])
    (fun i hi hp => by
      have hp' : l[i] = x := by
        rw [List.getElem?_eq_getElem hi] at hp
        simp at hp; exact hp
      simp [Wref08_Has_0, Tree.run, hi, hp'])
    (by simp [Wref08_Has_0, Tree.run])
  rcases hs with ⟨h1, h2⟩ | ⟨i, hi, h1, h2⟩
  · have h : Lref08_Has_0 none ⟨l, x, (0 : Int)⟩ = some (.inr ()) := h2
    have hn : ¬ x ∈ l := fun hm => by
      obtain ⟨i, hi, he⟩ := List.mem_iff_getElem.1 hm
      exact absurd (by rw [List.getElem?_eq_getElem hi, he]) (h1 i hi)
    simp [ref08_Has, Tref08_Has, Tree.run, h, hn]
  · have h : Lref08_Has_0 none ⟨l, x, (0 : Int)⟩ = some (.inl true) := h2
    have hm : x ∈ l := by
      rw [List.getElem?_eq_getElem hi] at h1
      simp at h1
      rw [← h1]; exact List.getElem_mem hi
    simp [ref08_Has, Tref08_Has, Tree.run, h, hm]
theorem Same_def (a b : List Int) (hl : a.length ≤ 9223372036854775807) : ref08_Same none a b = some (decide (a = b)) := by
  by_cases hab : a.length = b.length
  · have hs := lim_scan (f := fun s => (Wref08_Same_0 s).run) (fun i : Nat => ⟨a, b, (i : Int)⟩) a.length (fun i => a[i]? = b[i]?) (fun i => .inl false) (.inr ())
      (fun i hi hp => by
        have hi' : i < b.length := by omega
        have hp' : a[i] = b[i] := by
          rw [List.getElem?_eq_getElem hi, List.getElem?_eq_getElem hi'] at hp
          exact Option.some.inj hp
        simp [Wref08_Same_0, Tree.run, hi, hi', wrap_succ hi hl, hp'])
      (fun i hi hp => by
        have hi' : i < b.length := by omega
        have hp' : ¬ a[i] = b[i] := by
          rw [List.getElem?_eq_getElem hi, List.getElem?_eq_getElem hi'] at hp
          exact fun h => hp (by rw [h])
        simp [Wref08_Same_0, Tree.run, hi, hi', hp'])
      (by simp [Wref08_Same_0, Tree.run])
    rcases hs with ⟨h1, h2⟩ | ⟨i, hi, h1, h2⟩
    · have h : Lref08_Same_0 none ⟨a, b, (0 : Int)⟩ = some (.inr ()) := h2
      have he : a = b := List.ext_getElem? fun i => by
        by_cases hi : i < a.length
        · exact h1 i hi
        · rw [List.getElem?_eq_none (by omega), List.getElem?_eq_none (by omega)]
      simp [ref08_Same, Tref08_Same, Tree.run, h, hab]
      exact he
    · have h : Lref08_Same_0 none ⟨a, b, (0 : Int)⟩ = some (.inl false) := h2
      have he : ¬ a = b := fun he => h1 (by rw [he])
      simp [ref08_Same, Tref08_Same, Tree.run, h, hab, he]
  · have he : ¬ a = b := fun h => hab (by rw [h])
    have hab' : ¬ (a.length : Int) = (b.length : Int) := by omega
    simp [ref08_Same, Tref08_Same, Tree.run, hab', he]
def okA (m : List Int) (a : Int) (b : Bool) : Prop := 0 ≤ a ∧ a < 2 * (m.length : Int) ∧ (b = true ∨ a % 2 = 0)
instance (m a b) : Decidable (okA m a b) := by unfold okA; infer_instance
def wordAt (m : List Int) (a : Int) : Int := m.getD (a / 2).toNat 0
def byteAt (m : List Int) (a : Int) : Int := if a % 2 = 0 then wordAt m a % 256 else wordAt m a / 256 % 256
theorem get_word {m : List Int} {a : Int} (h0 : 0 ≤ a) (h1 : a < 2 * (m.length : Int)) : m[(a / 2).toNat]? = some (wordAt m a) := by
  have : (a / 2).toNat < m.length := by omega
  simp [wordAt, this]
theorem wrap2 {m : List Int} (hm : m.length ≤ 100000) : IntKind.wrap .i64 (2 * (m.length : Int)) = 2 * (m.length : Int) := wrap_id (by omega) (by omega)
theorem half {a : Int} (h0 : 0 ≤ a) (h1 : a ≤ 9223372036854775807) : IntKind.wrap .i64 (a.tdiv 2) = a / 2 := by rw [tdiv_nn h0, wrap_id (by omega) (by omega)]
theorem Byte_def (m : List Int) (a : Int) (h0 : 0 ≤ a) (h1 : a < 2 * (m.length : Int)) (hm : m.length ≤ 100000) : ref08_Byte m a = some (byteAt m a) := by
  have e8 : (2 : Int) ^ (min ((8 : Int)).toNat 64) = 256 := by decide
  simp only [ref08_Byte, Tref08_Byte, Tree.run, tmod_nn h0, half h0 (by omega), get_word h0 h1, and255, e8, fdiv_pos _ (show (0 : Int) ≤ 256 by omega), byteAt]
  have hd : 0 ≤ a / 2 := by omega
  by_cases hp : a % 2 = 0 <;> simp [hp, hd]
def readM (m bad : List Int) (a : Int) (b : Bool) : Int × Int := if okA m a b then (if a - a % 2 ∈ bad then (0, 9) else (if b then byteAt m a else wordAt m a, 0)) else (0, 1)
/-- the word after a byte is written -/
def putB (w a b : Int) : Int := if a % 2 = 0 then w / 256 * 256 + b else w % 256 + b * 256
def putW (w a : Int) (b : Bool) (v : Int) : Int := if b then putB w a (v % 256) else v % 65536
theorem bits_lo (w b : Int) (h0 : 0 ≤ w) (h1 : w ≤ 65535) (hb : 0 ≤ b ∧ b ≤ 255) : IntKind.wrap .i64 ((BitVec.ofInt 64 (IntKind.wrap .i64 ((BitVec.ofInt 64 w &&& ~~~BitVec.ofInt 64 (255 : Int)).toNat : Int)) ||| BitVec.ofInt 64 b).toNat : Int) = w / 256 * 256 + b := by
  rw [andNot255 w h0 (by omega), or_add 8 _ _ hb.1 (by omega) (by omega) (by omega) (by omega)]
  omega
theorem bits_lo' (w b : Int) (h0 : 0 ≤ w) (h1 : w ≤ 65535) (hb : 0 ≤ b ∧ b ≤ 255) : IntKind.wrap .i64 ((BitVec.ofInt 64 (IntKind.wrap .i64 ((BitVec.ofInt 64 w &&& BitVec.ofInt 64 (65280 : Int)).toNat : Int)) ||| BitVec.ofInt 64 b).toNat : Int) = w / 256 * 256 + b := by
  rw [and65280 w h0 (by omega), or_add 8 _ _ hb.1 (by omega) (by omega) (by omega) (by omega)]
  omega
theorem bits_hi (w b : Int) (h0 : 0 ≤ w) (h1 : w ≤ 65535) (hb : 0 ≤ b ∧ b ≤ 255) : IntKind.wrap .i64 ((BitVec.ofInt 64 (IntKind.wrap .i64 ((BitVec.ofInt 64 w &&& ~~~BitVec.ofInt 64 (65280 : Int)).toNat : Int)) ||| BitVec.ofInt 64 (b * 256)).toNat : Int) = w % 256 + b * 256 := by
  rw [andNot65280 w h0 (by omega), show w - w / 256 % 256 * 256 = w % 256 by omega, or_add' 8 _ _ (by omega) (by omega) (by omega) (by omega) (by omega)]
theorem bits_hi' (w b : Int) (h0 : 0 ≤ w) (h1 : w ≤ 65535) (hb : 0 ≤ b ∧ b ≤ 255) : IntKind.wrap .i64 ((BitVec.ofInt 64 (IntKind.wrap .i64 ((BitVec.ofInt 64 w &&& BitVec.ofInt 64 (255 : Int)).toNat : Int)) ||| BitVec.ofInt 64 (b * 256)).toNat : Int) = w % 256 + b * 256 := by
  rw [and255, or_add' 8 _ _ (by omega) (by omega) (by omega) (by omega) (by omega)]
theorem bits_w (w v : Int) (h0 : 0 ≤ w) (h1 : w ≤ 65535) (hv : 0 ≤ v ∧ v ≤ 65535) : IntKind.wrap .i64 ((BitVec.ofInt 64 (IntKind.wrap .i64 ((BitVec.ofInt 64 w &&& ~~~BitVec.ofInt 64 (65535 : Int)).toNat : Int)) ||| BitVec.ofInt 64 v).toNat : Int) = v := by
  rw [andNot65535 w h0 (by omega), show w - w % 65536 = 0 by omega, or_add 16 _ _ hv.1 (by omega) (by omega) (by omega) (by omega)]
  omega
/-- a byte is put into memory -/
def setB (m : List Int) (a b : Int) : List Int := m.set (a / 2).toNat (putB (wordAt m a) a b)
def Words (m : List Int) : Prop := m.length ≤ 100000 ∧ ∀ w ∈ m, 0 ≤ w ∧ w ≤ 65535
theorem word_in {m : List Int} (hm : Words m) {a : Int} (h0 : 0 ≤ a) (h1 : a < 2 * (m.length : Int)) : 0 ≤ wordAt m a ∧ wordAt m a ≤ 65535 := hm.2 _ (List.mem_of_getElem? (get_word h0 h1))
theorem set_def (m : List Int) (a b : Int) (hm : Words m) (h0 : 0 ≤ a) (h1 : a < 2 * (m.length : Int)) (hb : 0 ≤ b ∧ b ≤ 255) : ref08_set a b m = some (setB m a b) := by
  have hw := word_in hm h0 h1
  have hl := hm.1
  have hd : 0 ≤ a / 2 := by omega
  have hd2 : a / 2 < (m.length : Int) := by omega
  have e8 : (2 : Int) ^ (min ((8 : Int)).toNat 64) = 256 := by decide
  simp only [ref08_set, Tref08_set, Tree.run, tmod_nn h0, half h0 (by omega), get_word h0 h1, e8, Option.bind_some, hd, hd2, decide_true, if_true, wrap_id (n := b * 256) (by omega) (by omega), bits_lo' _ b hw.1 hw.2 hb, bits_hi' _ b hw.1 hw.2 hb, setB, putB, show ¬ (2 : Int) = 0 by omega, decide_false, Bool.false_eq_true, if_false, decide_eq_true_eq, show (0 : Int) ≤ 8 by omega]
  by_cases hp : a % 2 = 0 <;> simp [hp]
theorem copied_def (m : List Int) (hm : m.length ≤ 100000) : memory_copied m = some m := by
  simp [memory_copied, Tmemory_copied, Tree.run]
  omega
/-- the bad addresses without one -/
def without (bad : List Int) (c : Int) : List Int := bad.filter fun y => decide (y ≠ c)
theorem without_more {l : List Int} {c : Int} {i : Nat} (hi : i < l.length) : without (l.take (i + 1)) c = without (l.take i) c ++ (if l[i] = c then [] else [l[i]]) := by
  rw [take_one_more hi]
  unfold without
  rw [List.filter_append]
  by_cases he : l[i] = c <;> simp [he]
theorem Without_def (l : List Int) (c : Int) (hl : l.length ≤ 100000) : ref08_Without none l c = some (without l c) := by
  have hc := lim_count (f := fun s => (Wref08_Without_0 s).run) (fun i : Nat => ⟨l, c, (i : Int), without (l.take i) c⟩) l.length (fun i hi => by
    have hle : (without (l.take i) c).length ≤ i := by
      refine Nat.le_trans (List.length_filter_le _ _) ?_
      rw [List.length_take]; omega
    have hm := without_more (c := c) hi
    by_cases he : l[i] = c
    · rw [if_pos he, List.append_nil] at hm
      simp [Wref08_Without_0, Tree.run, hi, wrap_succ hi (show l.length ≤ 9223372036854775807 by omega), he, hm]
    · rw [if_neg he] at hm
      have hlt : ((without (l.take i) c).length + 1) * 8 ≤ 140737488355328 := by omega
      simp [Wref08_Without_0, Tree.run, hi, wrap_succ hi (show l.length ≤ 9223372036854775807 by omega), he, hm, hlt]) 0 (Nat.zero_le _)
  have hd : Lref08_Without_0 none ⟨l, c, ((l.length : Nat) : Int), without (l.take l.length) c⟩ = some (without (l.take l.length) c) := lim_done (by simp [Wref08_Without_0, Tree.run])
  have h : Lref08_Without_0 none ⟨l, c, (0 : Int), []⟩ = some (without (l.take l.length) c) := hc.trans hd
  rw [List.take_length] at h
  simp [ref08_Without, Tref08_Without, Tree.run, h]
theorem without_take_eq {l : List Int} {c : Int} {k : Nat} (h : ∀ i, i < k → l[i]? ≠ some c) : without (l.take k) c = l.take k := by
  unfold without
  rw [List.filter_eq_self]
  intro y hy
  obtain ⟨i, hi, he⟩ := List.mem_iff_getElem.1 hy
  rw [List.getElem_take] at he
  have hlt : i < k := by rw [List.length_take] at hi; omega
  have := h i hlt
  rw [List.getElem?_eq_getElem (by rw [List.length_take] at hi; omega), he] at this
  simp at this ⊢
  exact this
/-- memory after an access that writes -/
def writeM (m bad : List Int) (a : Int) (b : Bool) (v : Int) : List Int × List Int × Int := if okA m a b then (m.set (a / 2).toNat (putW (wordAt m a) a b v), without bad (a - a % 2), 0) else ([], [], 1)
def Bads (n : Nat) (bad : List Int) : Prop := ∀ i, (h : i < bad.length) → 0 ≤ bad[i] ∧ bad[i] < 2 * (n : Int) ∧ bad[i] % 2 = 0 ∧ ∀ h' : 0 < i, bad[i - 1] < bad[i]
def Sized (n : Int) : Prop := 256 ≤ n ∧ n ≤ 32768 ∧ n % 64 = 0
instance (n) : Decidable (Sized n) := by unfold Sized; infer_instance
def Rt (m bad : List Int) : Prop := Sized (2 * (m.length : Int)) ∧ (∀ w ∈ m, 0 ≤ w ∧ w ≤ 65535) ∧ Bads m.length bad
theorem Size_def (n : Int) : ref08_Size n = some (decide (Sized n)) := by
  simp only [ref08_Size, Tref08_Size, Tree.run]
  by_cases h0 : 0 ≤ n
  · rw [tmod_nn h0]
    simp only [decide_eq_true_eq, show ¬ (64 : Int) = 0 by omega, if_false]
    repeat' split
    all_goals (rw [Option.some.injEq]; first | (symm; rw [decide_eq_false_iff_not]; unfold Sized; omega) | (rw [decide_eq_decide]; unfold Sized; omega))
  · have : ¬ Sized n := fun h => h0 (by have := h.1; omega)
    simp [this]; omega
theorem sized_def (n : Int) : memory_sized n = some (decide (Sized n)) := Size_def n
theorem words_iff (m : List Int) : (∀ i, i < m.length → ∀ y, m[i]? = some y → 0 ≤ y ∧ y ≤ 65535) ↔ ∀ w ∈ m, 0 ≤ w ∧ w ≤ 65535 := by
  constructor
  · intro h w hw
    obtain ⟨i, hi, he⟩ := List.mem_iff_getElem.1 hw
    exact h i hi w (by rw [List.getElem?_eq_getElem hi, he])
  · intro h i hi y hy
    exact h y (List.mem_of_getElem? hy)
theorem ref_words (m bad : List Int) (hm : m.length ≤ 100000) : Lref08_Right_0 none ⟨m, bad, (0 : Int)⟩ = some (if ∀ w ∈ m, 0 ≤ w ∧ w ≤ 65535 then .inr (m, bad) else .inl (m, bad, false)) := by
  have hs := lim_scan (f := fun s => (Wref08_Right_0 s).run) (fun i : Nat => ⟨m, bad, (i : Int)⟩) m.length (fun i => ∀ y, m[i]? = some y → 0 ≤ y ∧ y ≤ 65535) (fun i => .inl (m, bad, false)) (.inr (m, bad))
    (fun i hi hp => by
      have hp' := hp m[i] (List.getElem?_eq_getElem hi)
      have h1 : ¬ m[i] < 0 := by omega
      have h2 : ¬ 65535 < m[i] := by omega
      simp [Wref08_Right_0, Tree.run, hi, wrap_succ hi (show m.length ≤ 9223372036854775807 by omega), h1, h2])
    (fun i hi hp => by
      have hp' : ¬ (0 ≤ m[i] ∧ m[i] ≤ 65535) := fun h => hp fun y hy => by
        rw [List.getElem?_eq_getElem hi] at hy
        rw [← Option.some.inj hy]; exact h
      by_cases h1 : m[i] < 0
      · simp [Wref08_Right_0, Tree.run, hi, h1]
      · have h2 : 65535 < m[i] := by omega
        simp [Wref08_Right_0, Tree.run, hi, h1, h2])
    (by simp [Wref08_Right_0, Tree.run])
  rcases hs with ⟨h1, h2⟩ | ⟨i, hi, h1, h2⟩
  · rw [if_pos ((words_iff m).1 h1)]; exact h2
  · rw [if_neg fun h => h1 ((words_iff m).2 h i hi)]; exact h2
theorem mem_words (m bad : List Int) (hm : m.length ≤ 100000) : Lmemory_Right_0 none ⟨m, bad, m, (m.length : Int), (0 : Int)⟩ = some (if ∀ w ∈ m, 0 ≤ w ∧ w ≤ 65535 then .inr (m, bad) else .inl (m, bad, false)) := by
  have hs := lim_scan (f := fun s => (Wmemory_Right_0 s).run) (fun i : Nat => ⟨m, bad, m, (m.length : Int), (i : Int)⟩) m.length (fun i => ∀ y, m[i]? = some y → 0 ≤ y ∧ y ≤ 65535) (fun i => .inl (m, bad, false)) (.inr (m, bad))
    (fun i hi hp => by
      have hp' := hp m[i] (List.getElem?_eq_getElem hi)
      have h1 : m[i] % 65536 = m[i] := (mask_fix _ _ (by omega)).2 ⟨hp'.1, by omega⟩
      simp only [Wmemory_Right_0, Tree.run, and65535]
      simp [hi, wrap_succ hi (show m.length ≤ 9223372036854775807 by omega), h1])
    (fun i hi hp => by
      have hp' : ¬ m[i] % 65536 = m[i] := fun h => hp fun y hy => by
        rw [List.getElem?_eq_getElem hi] at hy
        rw [← Option.some.inj hy]
        have := (mask_fix _ _ (by omega)).1 h
        omega
      simp only [Wmemory_Right_0, Tree.run, and65535]
      simp [hi, hp'])
    (by simp [Wmemory_Right_0, Tree.run])
  rcases hs with ⟨h1, h2⟩ | ⟨i, hi, h1, h2⟩
  · rw [if_pos ((words_iff m).1 h1)]; exact h2
  · rw [if_neg fun h => h1 ((words_iff m).2 h i hi)]; exact h2
/-- a bad address in its place -/
def GoodAt (n : Nat) (bad : List Int) (i : Nat) : Prop := ∀ h : i < bad.length, 0 ≤ bad[i] ∧ bad[i] < 2 * (n : Int) ∧ bad[i] % 2 = 0 ∧ ∀ h' : 0 < i, bad[i - 1] < bad[i]
def lastOf (bad : List Int) (i : Nat) : Int := if i = 0 then -1 else bad.getD (i - 1) 0
def GoodAt' (n : Nat) (bad : List Int) (i : Nat) : Prop := ∀ h : i < bad.length, lastOf bad i < bad[i] ∧ bad[i].tmod 2 = 0 ∧ bad[i] < 2 * (n : Int)
theorem bads_iff (n : Nat) (bad : List Int) : (∀ i, i < bad.length → GoodAt n bad i) ↔ Bads n bad := ⟨fun h i hi => h i hi hi, fun h i _ hi => h i hi⟩
theorem bads_iff' (n : Nat) (bad : List Int) : (∀ i, i < bad.length → GoodAt' n bad i) ↔ Bads n bad := by
  constructor
  · intro h i
    induction i with
    | zero =>
      intro hi
      obtain ⟨h1, h2, h3⟩ := h 0 hi hi
      have h1' : -1 < bad[0] := h1
      rw [tmod_nn (by omega)] at h2
      exact ⟨by omega, h3, h2, fun h' => absurd h' (by omega)⟩
    | succ i ih =>
      intro hi
      have hi' : i < bad.length := by omega
      obtain ⟨h1, h2, h3⟩ := h (i + 1) hi hi
      have hp := ih hi'
      have hl : lastOf bad (i + 1) = bad[i] := by simp [lastOf, hi']
      rw [hl] at h1
      rw [tmod_nn (by omega)] at h2
      exact ⟨by omega, h3, h2, fun _ => h1⟩
  · intro h i hi _
    obtain ⟨h1, h2, h3, h4⟩ := h i hi
    refine ⟨?_, by rw [tmod_nn h1]; exact h3, h2⟩
    by_cases h0 : i = 0
    · subst h0; simp [lastOf]; omega
    · have hlt : i - 1 < bad.length := by omega
      have := h4 (by omega)
      simp [lastOf, h0, hlt]; exact this
theorem ref_bads (m bad : List Int) (hm : m.length ≤ 100000) (hb : bad.length ≤ 100000) : ∃ r, Lref08_Right_1 none ⟨m, bad, (0 : Int)⟩ = some r ∧ (r = .inr () ∧ Bads m.length bad ∨ r = .inl false ∧ ¬ Bads m.length bad) := by
  have hs := lim_scan (f := fun s => (Wref08_Right_1 s).run) (fun i : Nat => ⟨m, bad, (i : Int)⟩) bad.length (GoodAt m.length bad) (fun i => .inl false) (.inr ())
    (fun i hi hp => by
      obtain ⟨h1, h2, h3, h4⟩ := hp hi
      have h5 : ¬ bad[i] < 0 := by omega
      have h6 : ¬ 2 * (m.length : Int) ≤ bad[i] := by omega
      by_cases h0 : 0 < i
      · have h7 := h4 h0
        have h8 : ¬ bad[i] ≤ bad[i - 1] := by omega
        have h9 : IntKind.wrap .i64 ((i : Int) - 1) = ((i - 1 : Nat) : Int) := by rw [wrap_id] <;> omega
        have h10 : i - 1 < bad.length := by omega
        simp [Wref08_Right_1, Tree.run, hi, wrap_succ hi (show bad.length ≤ 9223372036854775807 by omega), h5, wrap2 hm, h6, tmod_nn h1, h3, h0, h9, h10, h8]
      · have h00 : i = 0 := by omega
        subst h00
        simp [Wref08_Right_1, Tree.run, hi, wrap_id (n := 1) (by omega) (by omega), h5, wrap2 hm, h6, tmod_nn h1, h3])
    (fun i hi hp => by
      by_cases h1 : bad[i] < 0
      · simp [Wref08_Right_1, Tree.run, hi, h1]
      by_cases h2 : 2 * (m.length : Int) ≤ bad[i]
      · simp [Wref08_Right_1, Tree.run, hi, h1, wrap2 hm, h2]
      by_cases h3 : bad[i] % 2 = 0
      · by_cases h0 : 0 < i
        · have h10 : i - 1 < bad.length := by omega
          have h9 : IntKind.wrap .i64 ((i : Int) - 1) = ((i - 1 : Nat) : Int) := by rw [wrap_id] <;> omega
          by_cases h4 : bad[i] ≤ bad[i - 1]
          · simp [Wref08_Right_1, Tree.run, hi, h1, wrap2 hm, h2, tmod_nn (show 0 ≤ bad[i] by omega), h3, h0, h9, h10, h4]
          · exact absurd (fun h => ⟨by omega, by omega, h3, fun _ => by omega⟩) hp
        · exact absurd (fun h => ⟨by omega, by omega, h3, fun h' => absurd h' h0⟩) hp
      · simp [Wref08_Right_1, Tree.run, hi, h1, wrap2 hm, h2, tmod_nn (show 0 ≤ bad[i] by omega), h3])
    (by simp [Wref08_Right_1, Tree.run])
  rcases hs with ⟨h1, h2⟩ | ⟨i, hi, h1, h2⟩
  · exact ⟨_, h2, .inl ⟨rfl, (bads_iff _ _).1 h1⟩⟩
  · exact ⟨_, h2, .inr ⟨rfl, fun h => h1 ((bads_iff _ _).2 h i hi)⟩⟩
theorem mem_bads (m bad : List Int) (hm : m.length ≤ 100000) (hb : bad.length ≤ 100000) : ∃ r, Lmemory_Right_1 none ⟨m, (-1 : Int), bad, (bad.length : Int), (0 : Int)⟩ = some r ∧ (r = .inr () ∧ Bads m.length bad ∨ r = .inl false ∧ ¬ Bads m.length bad) := by
  have hs := lim_scan (f := fun s => (Wmemory_Right_1 s).run) (fun i : Nat => ⟨m, lastOf bad i, bad, (bad.length : Int), (i : Int)⟩) bad.length (GoodAt' m.length bad) (fun i => .inl false) (.inr ())
    (fun i hi hp => by
      obtain ⟨h1, h2, h3⟩ := hp hi
      have h4 : ¬ bad[i] ≤ lastOf bad i := by omega
      have h5 : ¬ 2 * (m.length : Int) ≤ bad[i] := by omega
      have h6 : lastOf bad (i + 1) = bad[i] := by simp [lastOf, hi]
      simp [Wmemory_Right_1, Tree.run, hi, wrap_succ hi (show bad.length ≤ 9223372036854775807 by omega), h4, wrap2 hm, h2, h5, h6])
    (fun i hi hp => by
      by_cases h1 : bad[i] ≤ lastOf bad i
      · simp [Wmemory_Right_1, Tree.run, hi, h1]
      by_cases h2 : bad[i].tmod 2 = 0
      · by_cases h3 : 2 * (m.length : Int) ≤ bad[i]
        · simp [Wmemory_Right_1, Tree.run, hi, h1, h2, wrap2 hm, h3]
        · exact absurd (fun h => ⟨by omega, h2, by omega⟩) hp
      · simp [Wmemory_Right_1, Tree.run, hi, h1, h2])
    (by simp [Wmemory_Right_1, Tree.run])
  rcases hs with ⟨h1, h2⟩ | ⟨i, hi, h1, h2⟩
  · exact ⟨_, h2, .inl ⟨rfl, (bads_iff' _ _).1 h1⟩⟩
  · exact ⟨_, h2, .inr ⟨rfl, fun h => h1 ((bads_iff' _ _).2 h i hi)⟩⟩
open Classical in
theorem ref_Right_def (m bad : List Int) (hm : m.length ≤ 100000) (hb : bad.length ≤ 100000) : ref08_Right none m bad = some (decide (Rt m bad)) := by
  obtain ⟨r, hr, hc⟩ := ref_bads m bad hm hb
  simp only [ref08_Right, Tref08_Right, Tree.run, wrap2 hm, Size_def, Option.bind_some, ref_words m bad hm]
  by_cases h1 : Sized (2 * (m.length : Int))
  · by_cases h2 : ∀ w ∈ m, 0 ≤ w ∧ w ≤ 65535
    · rw [if_pos h2]
      rcases hc with ⟨e, h3⟩ | ⟨e, h3⟩
      · simp [h1, hr, e, Rt, h3]; exact h2
      · simp [h1, hr, e, Rt, h3]
    · rw [if_neg h2]
      have : ¬ Rt m bad := fun h => h2 h.2.1
      simp [h1, this]
  · have : ¬ Rt m bad := fun h => h1 h.1
    simp [h1, this]
open Classical in
theorem mem_Right_def (m bad : List Int) (hm : m.length ≤ 100000) (hb : bad.length ≤ 100000) : memory_Right none m bad = some (decide (Rt m bad)) := by
  obtain ⟨r, hr, hc⟩ := mem_bads m bad hm hb
  simp only [memory_Right, Tmemory_Right, Tree.run, wrap2 hm, sized_def, Option.bind_some, mem_words m bad hm]
  by_cases h1 : Sized (2 * (m.length : Int))
  · by_cases h2 : ∀ w ∈ m, 0 ≤ w ∧ w ≤ 65535
    · rw [if_pos h2]
      rcases hc with ⟨e, h3⟩ | ⟨e, h3⟩
      · simp [h1, hr, e, Rt, h3]; exact h2
      · simp [h1, hr, e, Rt, h3]
    · rw [if_neg h2]
      have : ¬ Rt m bad := fun h => h2 h.2.1
      simp [h1, this]
  · have : ¬ Rt m bad := fun h => h1 h.1
    simp [h1, this]
theorem New_some (n : Int) : ∃ r, memory_New n = some r ∧ r.1.length ≤ 100000 := by
  simp only [memory_New, Tmemory_New, Tree.run, sized_def, Option.bind_some]
  by_cases h : Sized n
  · obtain ⟨h1, h2, h3⟩ := id h
    have hd : 0 ≤ n / 2 := by omega
    have hd2 : 8 * (n / 2) ≤ 281474976710656 := by omega
    simp [h, half (show 0 ≤ n by omega) (by omega), hd, hd2]
    omega
  · simp [h]
theorem writeM_len (m bad : List Int) (a : Int) (b : Bool) (v : Int) : (writeM m bad a b v).1.length ≤ m.length ∧ (writeM m bad a b v).2.1.length ≤ bad.length := by
  unfold writeM
  split
  · exact ⟨by simp, List.length_filter_le _ _⟩
  · simp
/-- a range within memory -/
def Wn (m : List Int) (a n : Int) : Prop := 0 ≤ a ∧ 0 ≤ n ∧ a ≤ 2 * (m.length : Int) ∧ n ≤ 2 * (m.length : Int) - a
instance (m a n) : Decidable (Wn m a n) := by unfold Wn; infer_instance
theorem within_def (m : List Int) (a n : Int) (hm : m.length ≤ 100000) : memory_within m a n = some (decide (Wn m a n)) := by
  simp only [memory_within, Tmemory_within, Tree.run, wrap2 hm, decide_eq_true_eq]
  by_cases h0 : 0 ≤ a
  · by_cases h1 : 0 ≤ n
    · by_cases h2 : a ≤ 2 * (m.length : Int)
      · rw [if_pos h0, if_pos h1, if_pos h2, wrap_id (by omega) (by omega), Option.some.injEq, decide_eq_decide]
        unfold Wn; omega
      · have : ¬ Wn m a n := fun h => h2 h.2.2.1
        simp [h0, h1, h2, this]
    · have : ¬ Wn m a n := fun h => h1 h.2.1
      simp [h0, h1, this]
  · have : ¬ Wn m a n := fun h => h0 h.1
    simp [h0, this]
theorem Within_eq (m : List Int) (a n : Int) : ref08_Within m a n = memory_within m a n := rfl
theorem up_def {a : Int} (h0 : 0 ≤ a) : IntKind.wrap .i64 (a.tmod 2 * 8) = if a % 2 = 0 then 0 else 8 := by
  rw [tmod_nn h0, wrap_id (by omega) (by omega)]
  split <;> omega
theorem shr_byte (m : List Int) {a : Int} (h0 : 0 ≤ a) : IntKind.wrap .u8 ((wordAt m a).fdiv (2 ^ (min (IntKind.wrap .i64 (a.tmod 2 * 8)).toNat 64))) = byteAt m a := by
  rw [IntKind.wrap_u8, up_def h0, byteAt]
  split
  · rw [show (2 : Int) ^ (min ((0 : Int)).toNat 64) = 1 by decide, fdiv_pos _ (by omega), Int.ediv_one]
  · rw [show (2 : Int) ^ (min ((8 : Int)).toNat 64) = 256 by decide, fdiv_pos _ (by omega)]
theorem byteAt_in (m : List Int) (a : Int) : 0 ≤ byteAt m a ∧ byteAt m a ≤ 255 := by
  unfold byteAt
  split <;> omega
def bytesL (m : List Int) (a : Int) (n : Nat) : List Int := (List.range n).map fun i => byteAt m (a + (i : Nat))
theorem bytesL_succ (m : List Int) (a : Int) (n : Nat) : bytesL m a (n + 1) = bytesL m a n ++ [byteAt m (a + (n : Nat))] := by
  simp [bytesL, List.range_succ]
theorem bytesL_len (m : List Int) (a : Int) (n : Nat) : (bytesL m a n).length = n := by simp [bytesL]
def outB (m : List Int) (a : Int) (n : Nat) : List UInt8 := (bytesL m a n).map fun x => UInt8.ofNat x.toNat
theorem outB_len (m : List Int) (a : Int) (n : Nat) : (outB m a n).length = n := by simp [outB, bytesL]
def bytesM (m : List Int) (a n : Int) : List UInt8 × Int := if Wn m a n then (outB m a n.toNat, 0) else ([], 2)
theorem Bytes_loop (m : List Int) (a : Int) (n : Nat) (hm : m.length ≤ 100000) (h : Wn m a n) : Lmemory_Bytes_0 none ⟨m, a, (n : Int), (0 : Int), List.replicate n (0 : Int)⟩ = some (bytesL m a n) := by
  obtain ⟨h0, h1, h2, h3⟩ := h
  have hc := lim_count (f := fun s => (Wmemory_Bytes_0 s).run) (fun i : Nat => ⟨m, a, (n : Int), (i : Int), bytesL m a i ++ List.replicate (n - i) (0 : Int)⟩) n (fun i hi => by
    have e1 : IntKind.wrap .i64 (a + (i : Int)) = a + (i : Int) := wrap_id (by omega) (by omega)
    have h4 : 0 ≤ a + (i : Int) := by omega
    have h5 : 0 ≤ (a + (i : Int)) / 2 := by omega
    have h6 : 0 ≤ IntKind.wrap .i64 ((a + (i : Int)).tmod 2 * 8) := by rw [up_def h4]; split <;> omega
    have h7 : (i : Int) < ((bytesL m a i ++ List.replicate (n - i) (0 : Int)).length : Int) := by
      simp [bytesL_len]; omega
    have h8 : (bytesL m a i ++ List.replicate (n - i) (0 : Int))[((i : Int)).toNat]? = some 0 := by
      rw [Int.toNat_natCast, List.getElem?_append_right (by rw [bytesL_len]; omega), bytesL_len, Nat.sub_self, List.getElem?_replicate]
      simp; omega
    have h8' : (bytesL m a i ++ List.replicate (n - i) (0 : Int))[i]? = some 0 := h8
    have h9 : (bytesL m a i ++ List.replicate (n - i) (0 : Int)).set i (byteAt m (a + (i : Int))) = bytesL m a (i + 1) ++ List.replicate (n - (i + 1)) (0 : Int) := by
      rw [List.set_append_right (h := by rw [bytesL_len]; omega), bytesL_len, Nat.sub_self, bytesL_succ, show n - i = (n - (i + 1)) + 1 by omega, List.replicate_succ]
      simp
    have hi' : (i : Int) < (n : Int) := by omega
    have h10 : (0 : Int) ≤ (i : Int) := by omega
    simp only [Wmemory_Bytes_0, Tree.run, e1, half h4 (by omega), get_word h4 (show a + (i : Int) < 2 * (m.length : Int) by omega), shr_byte m h4, wrap_succ hi (show n ≤ 9223372036854775807 by omega), hi', h10, h5, h6, h7, h8, decide_true, if_true, show ¬ (2 : Int) = 0 by omega, decide_false, Bool.false_eq_true, if_false, Option.bind_some, Int.toNat_natCast, h8', h9]) 0 (Nat.zero_le _)
  have hd : Lmemory_Bytes_0 none ⟨m, a, (n : Int), ((n : Nat) : Int), bytesL m a n ++ List.replicate (n - n) (0 : Int)⟩ = some (bytesL m a n ++ List.replicate (n - n) (0 : Int)) := lim_done (by simp [Wmemory_Bytes_0, Tree.run])
  have he : Lmemory_Bytes_0 none ⟨m, a, (n : Int), (0 : Int), bytesL m a 0 ++ List.replicate (n - 0) (0 : Int)⟩ = some (bytesL m a n ++ List.replicate (n - n) (0 : Int)) := hc.trans hd
  simpa [bytesL] using he
theorem Bytes_def (m : List Int) (a n : Int) (hm : m.length ≤ 100000) : memory_Bytes none m a n = some (bytesM m a n) := by
  simp only [memory_Bytes, Tmemory_Bytes, Tree.run, within_def m a n hm, Option.bind_some, bytesM]
  by_cases h : Wn m a n
  · obtain ⟨h0, h1, h2, h3⟩ := id h
    have hl := Bytes_loop m a n.toNat hm (by rw [Int.toNat_of_nonneg h1]; exact h)
    have h4 : (1 : Int) * n ≤ 281474976710656 := by omega
    simp only [h, decide_true, Bool.not_true, Bool.false_eq_true, if_false, if_true, h1, h4, List.length_replicate, hl, Option.bind_some, outB]
  · simp [h]
theorem ref_Bytes_loop (m : List Int) (a : Int) (n : Nat) (hm : m.length ≤ 100000) (h : Wn m a n) : Lref08_Bytes_0 none ⟨m, a, (n : Int), (0 : Int), []⟩ = some (bytesL m a n) := by
  obtain ⟨h0, h1, h2, h3⟩ := h
  have hc := lim_count (f := fun s => (Wref08_Bytes_0 s).run) (fun i : Nat => ⟨m, a, (n : Int), (i : Int), bytesL m a i⟩) n (fun i hi => by
    have e1 : IntKind.wrap .i64 (a + (i : Int)) = a + (i : Int) := wrap_id (by omega) (by omega)
    have h4 : 0 ≤ a + (i : Int) := by omega
    have hb := byteAt_in m (a + (i : Int))
    have e2 : IntKind.wrap .u8 (byteAt m (a + (i : Int))) = byteAt m (a + (i : Int)) := by rw [IntKind.wrap_u8]; omega
    have hi' : (i : Int) < (n : Int) := by omega
    have h7 : ((bytesL m a i).length + 1) * 1 ≤ 140737488355328 := by rw [bytesL_len]; omega
    simp only [Wref08_Bytes_0, Tree.run, e1, Byte_def m _ h4 (show a + (i : Int) < 2 * (m.length : Int) by omega) hm, e2, wrap_succ hi (show n ≤ 9223372036854775807 by omega), hi', decide_true, if_true, Option.bind_some, List.length_cons, List.length_nil, Nat.zero_add, h7, bytesL_succ]) 0 (Nat.zero_le _)
  have hd : Lref08_Bytes_0 none ⟨m, a, (n : Int), ((n : Nat) : Int), bytesL m a n⟩ = some (bytesL m a n) := lim_done (by simp [Wref08_Bytes_0, Tree.run])
  have he : Lref08_Bytes_0 none ⟨m, a, (n : Int), (0 : Int), bytesL m a 0⟩ = some (bytesL m a n) := hc.trans hd
  simpa [bytesL] using he
theorem ref_Bytes_def (m : List Int) (a n : Int) (hm : m.length ≤ 100000) : ref08_Bytes none m a n = some (bytesM m a n) := by
  simp only [ref08_Bytes, Tref08_Bytes, Tree.run, Within_eq, within_def m a n hm, Option.bind_some, bytesM]
  by_cases h : Wn m a n
  · obtain ⟨h0, h1, h2, h3⟩ := id h
    have hl := ref_Bytes_loop m a n.toNat hm (by rw [Int.toNat_of_nonneg h1]; exact h)
    rw [Int.toNat_of_nonneg h1] at hl
    simp only [h, decide_true, Bool.not_true, Bool.false_eq_true, if_false, if_true, hl, Option.bind_some, outB]
  · simp [h]
def storeL : List Int → Int → List UInt8 → List Int
  | m, _, [] => m
  | m, a, c :: s => storeL (setB m a (c.toNat : Int)) (a + 1) s
theorem storeL_more (m : List Int) (a : Int) (s : List UInt8) (c : UInt8) : storeL m a (s ++ [c]) = setB (storeL m a s) (a + (s.length : Int)) (c.toNat : Int) := by
  induction s generalizing m a with
  | nil => simp [storeL]
  | cons d s ih =>
    simp only [List.cons_append, storeL, ih, List.length_cons]
    congr 1
    omega
theorem setB_len (m : List Int) (a b : Int) : (setB m a b).length = m.length := by simp [setB]
theorem storeL_len (m : List Int) (a : Int) (s : List UInt8) : (storeL m a s).length = m.length := by
  induction s generalizing m a with
  | nil => rfl
  | cons d s ih => rw [storeL, ih, setB_len]
theorem setB_words {m : List Int} {a b : Int} (hm : Words m) (h0 : 0 ≤ a) (h1 : a < 2 * (m.length : Int)) (hb : 0 ≤ b ∧ b ≤ 255) : Words (setB m a b) := by
  refine ⟨by rw [setB_len]; exact hm.1, fun w hw => ?_⟩
  rcases List.mem_or_eq_of_mem_set hw with h | h
  · exact hm.2 w h
  · have := word_in hm h0 h1
    rw [h]; unfold putB; split <;> omega
theorem byte_lt (c : UInt8) : 0 ≤ (c.toNat : Int) ∧ (c.toNat : Int) ≤ 255 := by have := c.toNat_lt; omega
theorem storeL_words {m : List Int} {a : Int} {s : List UInt8} (hm : Words m) (h0 : 0 ≤ a) (h1 : a + (s.length : Int) ≤ 2 * (m.length : Int)) : Words (storeL m a s) := by
  induction s generalizing m a with
  | nil => exact hm
  | cons d s ih =>
    simp only [List.length_cons] at h1
    exact ih (setB_words hm h0 (by omega) (byte_lt d)) (by omega) (by rw [setB_len]; omega)
def storeM (m : List Int) (a : Int) (s : List UInt8) : List Int × Int := if Wn m a (s.length : Int) then (storeL m a s, 0) else ([], 2)
theorem u8_nat (c : UInt8) : IntKind.wrap .i64 (c.toNat : Int) = (c.toNat : Int) := by have := c.toNat_lt; exact wrap_id (by omega) (by omega)
theorem put_eq (b : List Int) (a : Int) (c : UInt8) (hw : Words b) (h0 : 0 ≤ a) (h1 : a < 2 * (b.length : Int)) : IntKind.wrap .i64 ((BitVec.ofInt 64 (IntKind.wrap .i64 ((BitVec.ofInt 64 (wordAt b a) &&& ~~~BitVec.ofInt 64 (IntKind.wrap .i64 ((255 : Int) * 2 ^ (min (IntKind.wrap .i64 (a.tmod 2 * 8)).toNat 64)))).toNat : Int)) ||| BitVec.ofInt 64 (IntKind.wrap .i64 ((IntKind.wrap .i64 (c.toNat : Int)) * 2 ^ (min (IntKind.wrap .i64 (a.tmod 2 * 8)).toNat 64)))).toNat : Int) = putB (wordAt b a) a (c.toNat : Int) := by
  have hb := byte_lt c
  have hi := word_in hw h0 h1
  rw [up_def h0, u8_nat]
  unfold putB
  split
  · rw [show (2 : Int) ^ (min ((0 : Int)).toNat 64) = 1 by decide, Int.mul_one, Int.mul_one, wrap_id (n := 255) (by omega) (by omega), wrap_id (n := (c.toNat : Int)) (by omega) (by omega), bits_lo _ _ hi.1 hi.2 hb]
  · rw [show (2 : Int) ^ (min ((8 : Int)).toNat 64) = 256 by decide, wrap_id (n := 255 * 256) (by omega) (by omega), wrap_id (n := (c.toNat : Int) * 256) (by omega) (by omega), show (255 : Int) * 256 = 65280 by omega, bits_hi _ _ hi.1 hi.2 hb]
theorem Store_loop (m : List Int) (a : Int) (s : List UInt8) (hm : Words m) (h : Wn m a (s.length : Int)) : Lmemory_Store_0 none ⟨a, s, (s.length : Int), (0 : Int), m⟩ = some (storeL m a s) := by
  obtain ⟨h0, h1, h2, h3⟩ := h
  have hl := hm.1
  have hc := lim_count (f := fun s => (Wmemory_Store_0 s).run) (fun i : Nat => ⟨a, s, (s.length : Int), (i : Int), storeL m a (s.take i)⟩) s.length (fun i hi => by
    have e1 : IntKind.wrap .i64 (a + (i : Int)) = a + (i : Int) := wrap_id (by omega) (by omega)
    have h4 : 0 ≤ a + (i : Int) := by omega
    have h5 : 0 ≤ (a + (i : Int)) / 2 := by omega
    have h6 : 0 ≤ IntKind.wrap .i64 ((a + (i : Int)).tmod 2 * 8) := by rw [up_def h4]; split <;> omega
    have hlen : (storeL m a (s.take i)).length = m.length := storeL_len _ _ _
    have hlt : (s.take i).length = i := by rw [List.length_take]; omega
    have hw : Words (storeL m a (s.take i)) := storeL_words hm h0 (by rw [hlt]; omega)
    have h7 : (a + (i : Int)) / 2 < ((storeL m a (s.take i)).length : Int) := by rw [hlen]; omega
    have h8 : a + (i : Int) < 2 * ((storeL m a (s.take i)).length : Int) := by rw [hlen]; omega
    have hi' : (i : Int) < (s.length : Int) := by omega
    have h10 : (0 : Int) ≤ (i : Int) := by omega
    have h9 : storeL m a (s.take (i + 1)) = (storeL m a (s.take i)).set ((a + (i : Int)) / 2).toNat (putB (wordAt (storeL m a (s.take i)) (a + (i : Int))) (a + (i : Int)) (s[i].toNat : Int)) := by
      rw [take_one_more hi, storeL_more, hlt]; rfl
    simp only [Wmemory_Store_0, Tree.run, e1, half h4 (by omega), get_word h4 h8, wrap_succ hi (show s.length ≤ 9223372036854775807 by omega), hi', h10, h5, h6, h7, decide_true, if_true, show ¬ (2 : Int) = 0 by omega, decide_false, Bool.false_eq_true, if_false, Option.bind_some, Int.toNat_natCast, List.getElem?_eq_getElem hi, put_eq _ _ _ hw h4 h8, h9]) 0 (Nat.zero_le _)
  have hd : Lmemory_Store_0 none ⟨a, s, (s.length : Int), ((s.length : Nat) : Int), storeL m a (s.take s.length)⟩ = some (storeL m a (s.take s.length)) := lim_done (by simp [Wmemory_Store_0, Tree.run])
  have he : Lmemory_Store_0 none ⟨a, s, (s.length : Int), (0 : Int), storeL m a (s.take 0)⟩ = some (storeL m a (s.take s.length)) := hc.trans hd
  simpa [storeL] using he
theorem Store_def (m : List Int) (a : Int) (s : List UInt8) (hm : Words m) : memory_Store none m a s = some (storeM m a s) := by
  simp only [memory_Store, Tmemory_Store, Tree.run, within_def m a _ hm.1, copied_def m hm.1, Option.bind_some, storeM]
  by_cases h : Wn m a (s.length : Int)
  · simp only [h, decide_true, Bool.not_true, Bool.false_eq_true, if_false, if_true, Store_loop m a s hm h, Option.bind_some]
  · simp [h]
theorem ref_Store_loop (m : List Int) (a : Int) (s : List UInt8) (hm : Words m) (h : Wn m a (s.length : Int)) : Lref08_Store_0 none ⟨a, s, (0 : Int), m⟩ = some (storeL m a s) := by
  obtain ⟨h0, h1, h2, h3⟩ := h
  have hl := hm.1
  have hc := lim_count (f := fun s => (Wref08_Store_0 s).run) (fun i : Nat => ⟨a, s, (i : Int), storeL m a (s.take i)⟩) s.length (fun i hi => by
    have e1 : IntKind.wrap .i64 (a + (i : Int)) = a + (i : Int) := wrap_id (by omega) (by omega)
    have h4 : 0 ≤ a + (i : Int) := by omega
    have hlen : (storeL m a (s.take i)).length = m.length := storeL_len _ _ _
    have hlt : (s.take i).length = i := by rw [List.length_take]; omega
    have hw : Words (storeL m a (s.take i)) := storeL_words hm h0 (by rw [hlt]; omega)
    have h8 : a + (i : Int) < 2 * ((storeL m a (s.take i)).length : Int) := by rw [hlen]; omega
    have hi' : (i : Int) < (s.length : Int) := by omega
    have h10 : (0 : Int) ≤ (i : Int) := by omega
    have h9 : storeL m a (s.take (i + 1)) = setB (storeL m a (s.take i)) (a + (i : Int)) (s[i].toNat : Int) := by
      rw [take_one_more hi, storeL_more, hlt]
    simp only [Wref08_Store_0, Tree.run, e1, wrap_succ hi (show s.length ≤ 9223372036854775807 by omega), hi', h10, decide_true, if_true, Option.bind_some, Int.toNat_natCast, List.getElem?_eq_getElem hi, u8_nat, set_def _ _ _ hw h4 h8 (byte_lt s[i]), h9]) 0 (Nat.zero_le _)
  have hd : Lref08_Store_0 none ⟨a, s, ((s.length : Nat) : Int), storeL m a (s.take s.length)⟩ = some (storeL m a (s.take s.length)) := lim_done (by simp [Wref08_Store_0, Tree.run])
  have he : Lref08_Store_0 none ⟨a, s, (0 : Int), storeL m a (s.take 0)⟩ = some (storeL m a (s.take s.length)) := hc.trans hd
  simpa [storeL] using he
theorem ref_Store_def (m : List Int) (a : Int) (s : List UInt8) (hm : Words m) : ref08_Store none m a s = some (storeM m a s) := by
  have hl := hm.1
  have h5 : (([] : List Int).length + m.length) * 8 ≤ 140737488355328 := by simp; omega
  simp only [ref08_Store, Tref08_Store, Tree.run, Within_eq, within_def m a _ hm.1, Option.bind_some, storeM, h5, decide_true, if_true, List.nil_append]
  by_cases h : Wn m a (s.length : Int)
  · simp only [h, decide_true, Bool.not_true, Bool.false_eq_true, if_false, if_true, ref_Store_loop m a s hm h, Option.bind_some]
  · simp [h]
def moveM (m : List Int) (to from_ n : Int) : List Int × Int := if Wn m to n ∧ Wn m from_ n then (storeL m to (outB m from_ n.toNat), 0) else ([], 2)
theorem wordAt_set (m : List Int) (a w c : Int) (h0 : 0 ≤ a) (h1 : a < 2 * (m.length : Int)) (hc : 0 ≤ c) : wordAt (m.set (a / 2).toNat w) c = if a / 2 = c / 2 then w else wordAt m c := by
  unfold wordAt
  have hlt : (a / 2).toNat < m.length := by omega
  rw [List.getD_eq_getElem?_getD, List.getD_eq_getElem?_getD, List.getElem?_set]
  by_cases h : a / 2 = c / 2
  · rw [if_pos (by rw [h]), if_pos h, if_pos hlt]; rfl
  · rw [if_neg (by omega), if_neg h]
theorem byteAt_setB (m : List Int) (a b c : Int) (hm : Words m) (h0 : 0 ≤ a) (h1 : a < 2 * (m.length : Int)) (hb : 0 ≤ b ∧ b ≤ 255) (hc : 0 ≤ c) : byteAt (setB m a b) c = if c = a then b else byteAt m c := by
  have hw := word_in hm h0 h1
  unfold byteAt setB
  rw [wordAt_set m a _ c h0 h1 hc]
  by_cases h : a / 2 = c / 2
  · have he : wordAt m c = wordAt m a := by unfold wordAt; rw [h]
    rw [if_pos h, he]
    unfold putB
    by_cases h2 : c = a
    · subst h2
      rw [if_pos rfl]
      split <;> omega
    · rw [if_neg h2]
      by_cases h3 : a % 2 = 0
      · rw [if_pos h3, if_neg (show ¬ c % 2 = 0 by omega), if_neg (show ¬ c % 2 = 0 by omega)]
        omega
      · rw [if_neg h3, if_pos (show c % 2 = 0 by omega), if_pos (show c % 2 = 0 by omega)]
        omega
  · have hne : ¬ c = a := fun he => h (by rw [he])
    rw [if_neg h, if_neg hne]
theorem byteAt_storeL (m : List Int) (a : Int) (s : List UInt8) (hm : Words m) (h0 : 0 ≤ a) (h1 : a + (s.length : Int) ≤ 2 * (m.length : Int)) (c : Int) (hc : 0 ≤ c) : byteAt (storeL m a s) c = if a ≤ c ∧ c < a + (s.length : Int) then ((s.getD (c - a).toNat 0).toNat : Int) else byteAt m c := by
  induction s generalizing m a with
  | nil =>
    have : ¬ (a ≤ c ∧ c < a + (([] : List UInt8).length : Int)) := by simp
    rw [storeL, if_neg this]
  | cons d s ih =>
    simp only [List.length_cons] at h1
    have hd := byte_lt d
    rw [storeL, ih (setB m a d.toNat) (a + 1) (setB_words hm h0 (by omega) hd) (by omega) (by rw [setB_len]; omega), byteAt_setB m a _ c hm h0 (by omega) hd hc]
    simp only [List.length_cons]
    by_cases h2 : a + 1 ≤ c ∧ c < a + 1 + (s.length : Int)
    · rw [if_pos h2, if_pos (by omega), show (c - a).toNat = (c - (a + 1)).toNat + 1 by omega, List.getD_cons_succ]
    · rw [if_neg h2]
      by_cases h3 : c = a
      · rw [if_pos h3, if_pos (by omega), show (c - a).toNat = 0 by omega]; rfl
      · rw [if_neg h3, if_neg (by omega)]
theorem outB_get (m : List Int) (a : Int) (n i : Nat) (h : i < (outB m a n).length) : (outB m a n)[i] = UInt8.ofNat (byteAt m (a + (i : Nat))).toNat := by
  simp [outB, bytesL]
theorem u8_back (c : UInt8) : UInt8.ofNat ((c.toNat : Int)).toNat = c := by simp
/-- what is stored is read -/
theorem outB_store (m : List Int) (a : Int) (s : List UInt8) (hm : Words m) (h0 : 0 ≤ a) (h1 : a + (s.length : Int) ≤ 2 * (m.length : Int)) : outB (storeL m a s) a s.length = s := by
  apply List.ext_getElem
  · rw [outB_len]
  · intro i h2 h3
    rw [outB_get, byteAt_storeL m a s hm h0 h1 _ (by omega), if_pos (by omega), show (a + (i : Int) - a).toNat = i by omega]
    simp [h3]
/-- all bytes after a store -/
theorem outB_all (m : List Int) (a : Int) (s : List UInt8) (hm : Words m) (h0 : 0 ≤ a) (h1 : a + (s.length : Int) ≤ 2 * (m.length : Int)) : outB (storeL m a s) 0 (2 * m.length) = (outB m 0 (2 * m.length)).take a.toNat ++ s ++ (outB m 0 (2 * m.length)).drop (a + (s.length : Int)).toNat := by
  have hlen : (outB m 0 (2 * m.length)).length = 2 * m.length := outB_len _ _ _
  have ht : ((outB m 0 (2 * m.length)).take a.toNat).length = a.toNat := by rw [List.length_take]; omega
  apply List.ext_getElem
  · simp [outB_len]; omega
  · intro i h2 h3
    rw [outB_len] at h2
    rw [outB_get, Int.zero_add, byteAt_storeL m a s hm h0 h1 _ (by omega)]
    by_cases h4 : i < a.toNat
    · rw [if_neg (by omega), List.getElem_append_left (by simp [outB_len]; omega), List.getElem_append_left (by rw [ht]; exact h4), List.getElem_take, outB_get, Int.zero_add]
    · by_cases h5 : i < a.toNat + s.length
      · rw [if_pos (by omega), List.getElem_append_left (by simp [outB_len]; omega), List.getElem_append_right (by rw [ht]; omega)]
        simp only [ht]
        have h6 : ((i : Int) - a).toNat = i - a.toNat := by omega
        have h7 : i - a.toNat < s.length := by omega
        simp [h6, h7]
      · rw [if_neg (by omega), List.getElem_append_right (by simp [outB_len]; omega)]
        have h6 : ((outB m 0 (2 * m.length)).take a.toNat ++ s).length = a.toNat + s.length := by rw [List.length_append, ht]
        simp only [h6, List.getElem_drop, outB_get, Int.zero_add]
        congr 3
        omega
end Go.Proofs.Ytjhibcebipjbcaa
