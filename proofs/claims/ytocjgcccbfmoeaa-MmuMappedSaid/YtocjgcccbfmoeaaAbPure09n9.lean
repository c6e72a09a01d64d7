/- The law MmuMapped holds of the typed functions. -/
import Derived.Test.YtocjgcccbfmoeaaAbPure09c
set_option linter.unusedSimpArgs false
namespace Go.Proofs.Ytocjgcccbfmoeaa
open Go Go.Ab
theorem mp_ok (base blocks access : Int) (i : Nat) (ha : 1 ≤ access) (ha2 : access ≤ 2) (h0 : 0 ≤ base) (h1 : base ≤ 4096 - blocks) : OkPage (mp base blocks access i) := by
  unfold mp
  split
  · refine ⟨?_, ?_, ?_⟩
    · show 0 ≤ base + 128 * (i : Int) ∧ base + 128 * (i : Int) ≤ 4095
      omega
    · show 0 ≤ (if 128 < blocks - 128 * (i : Int) then 128 else blocks - 128 * (i : Int)) ∧ (if 128 < blocks - 128 * (i : Int) then 128 else blocks - 128 * (i : Int)) ≤ 128
      split <;> omega
    · show 0 ≤ access ∧ access ≤ 2
      omega
  · exact ⟨⟨by decide, by decide⟩, ⟨by decide, by decide⟩, ⟨by decide, by decide⟩⟩
theorem mapped_right (u : Mmu) (m : Nat) (base blocks access : Int) (hr : Rt u) (ha : 1 ≤ access) (ha2 : access ≤ 2) (h0 : 0 ≤ base) (h1 : base ≤ 4096 - blocks) : Rt { mapped u m base blocks access with on := true } := by
  refine ⟨fun p hp => ?_, hr.2.1, hr.2.2⟩
  have hp : p ∈ u.pages.take (m * 8) ++ (List.range 8).map (mp base blocks access) ++ u.pages.drop (m * 8 + 8) := hp
  rcases List.mem_append.1 hp with hp | hp
  · rcases List.mem_append.1 hp with hp | hp
    · exact hr.1 p (List.mem_of_mem_take hp)
    · obtain ⟨i, _, rfl⟩ := List.mem_map.1 hp
      exact mp_ok base blocks access i ha ha2 h0 h1
  · exact hr.1 p (List.mem_of_mem_drop hp)
/-- the pages of a mode behind Map -/
theorem mapped_get (u : Mmu) (m : Nat) (hm : m < 2) (base blocks access : Int) (hl : u.pages.length = 16) (j : Nat) (hj : j < 8) : (mapped u m base blocks access).pages[m * 8 + j]? = some (mp base blocks access j) := by
  show (u.pages.take (m * 8) ++ (List.range 8).map (mp base blocks access) ++ u.pages.drop (m * 8 + 8))[m * 8 + j]? = _
  have ht : (u.pages.take (m * 8)).length = m * 8 := by simp; omega
  rw [List.append_assoc, List.getElem?_append_right (by omega), ht, show m * 8 + j - m * 8 = j by omega, List.getElem?_append_left (by simpa using hj)]
  simp [hj]
theorem mapped_other (u : Mmu) (m : Nat) (hm : m < 2) (base blocks access : Int) (hl : u.pages.length = 16) : ((mapped u m base blocks access).pages.drop ((1 - m) * 8)).take 8 = (u.pages.drop ((1 - m) * 8)).take 8 := by
  show ((u.pages.take (m * 8) ++ (List.range 8).map (mp base blocks access) ++ u.pages.drop (m * 8 + 8)).drop ((1 - m) * 8)).take 8 = _
  rcases (show m = 0 ∨ m = 1 by omega) with rfl | rfl
  · have e : (u.pages.take (0 * 8) ++ (List.range 8).map (mp base blocks access) ++ u.pages.drop (0 * 8 + 8)) = (List.range 8).map (mp base blocks access) ++ u.pages.drop 8 := by simp
    have e2 : ((List.range 8).map (mp base blocks access)).drop 8 = [] := List.drop_eq_nil_of_le (by simp)
    rw [e, List.drop_append_of_le_length (by simp), show (1 - 0) * 8 = 8 from rfl, e2]
    simp
  · have e : (u.pages.take (1 * 8) ++ (List.range 8).map (mp base blocks access) ++ u.pages.drop (1 * 8 + 8)) = u.pages.take 8 ++ ((List.range 8).map (mp base blocks access) ++ u.pages.drop 16) := by simp
    rw [e]
    simp [List.take_append_of_le_length, hl]
theorem pf_law09_MmuMapped (x : Mmu × Range × Int × Unit) (hg : Glaw09_MmuMapped x) : law09_MmuMapped none x.1 x.2.1 x.2.2.1 = some true := by
  obtain ⟨u, ⟨mode, base, blocks, access⟩, a, z⟩ := x
  have hl : u.pages.length = 16 := hg.1.2.1.1
  have ha : IntKind.min .u16 ≤ a ∧ a ≤ IntKind.max .u16 := hg.2.2.1
  have hmin : IntKind.min .u16 = 0 := rfl
  have hmax : IntKind.max .u16 = 65535 := rfl
  rw [hmin, hmax] at ha
  obtain ⟨a0, a1⟩ := ha
  have wa : IntKind.wrap .i64 a = a := wrap_id (by omega) (by omega)
  simp only [law09_MmuMapped, Tlaw09_MmuMapped, Tree.run, mmu_Right_def u hl, Option.bind_some, alive_true, mmu_Map_def u mode base blocks access hl, wa]
  by_cases hr : Rt u
  · by_cases hm1 : mode < 0
    · simp [hr, hm1]
    by_cases hm2 : 1 < mode
    · simp [hr, hm1, hm2]
    by_cases hv : Valid mode base blocks access
    · obtain ⟨_, ⟨b1, b2⟩, ⟨c1, c2⟩, d1, d2⟩ := hv
      have hv : Valid mode base blocks access := ⟨⟨by omega, by omega⟩, ⟨b1, b2⟩, ⟨c1, c2⟩, d1, d2⟩
      have hmn : mode.toNat < 2 := by omega
      have hml := mapped_len u mode.toNat hmn base blocks access hl
      have hR := mapped_right u mode.toNat base blocks access hr b1 b2 d1 d2
      have hL : ({ mapped u mode.toNat base blocks access with on := true } : Mmu).pages.length = 16 := hml
      have w1 : IntKind.wrap .i64 (64 * blocks) = 64 * blocks := wrap_id (by omega) (by omega)
      have w2 : IntKind.wrap .i64 (1 - mode) = 1 - mode := wrap_id (by omega) (by omega)
      have w3 : IntKind.wrap .i64 (64 * base) = 64 * base := wrap_id (by omega) (by omega)
      have w4 : IntKind.wrap .i64 (64 * base + a) = 64 * base + a := wrap_id (by omega) (by omega)
      have hm3 : mode ≤ 1 := by omega
      have o1 : 0 ≤ 1 - mode := by omega
      have o2 : 1 - mode < 2 := by omega
      have o3 : (1 - mode).toNat = 1 - mode.toNat := by omega
      have o4 : (1 - mode.toNat) * 8 + 8 ≤ (mapped u mode.toNat base blocks access).pages.length := by omega
      have o5 : (1 - mode.toNat) * 8 + 8 ≤ u.pages.length := by omega
      have hoth := mapped_other u mode.toNat hmn base blocks access hl
      have hkx : kx mode a = mode.toNat * 8 + (a / 8192).toNat := by unfold kx; omega
      have hmod : a % 65536 = a := by omega
      have hg := mapped_get u mode.toNat hmn base blocks access hl (a / 8192).toNat (by omega)
      have hT : ∀ w, mmu_Translate { mapped u mode.toNat base blocks access with on := true } mode a w = some (translated { mapped u mode.toNat base blocks access with on := true } mode a w) := fun w => mmu_Translate_def _ mode a w hL hR
      -- the access
      have hf : ∀ w, faultOf (mp base blocks access (a / 8192).toNat) (a % 8192) w = if 64 * blocks ≤ a then (if 128 * (a / 8192) < blocks then 2 else 1) else if w = true ∧ access ≠ 2 then 3 else 0 := by
        intro w
        have hn : (((a / 8192).toNat : Nat) : Int) = a / 8192 := by omega
        unfold mp faultOf
        rw [hn]
        by_cases hb : 128 * (a / 8192) < blocks
        · simp only [hb, if_true]
          rw [if_neg (by omega)]
          by_cases hc : 64 * blocks ≤ a
          · rw [if_pos (show (if 128 < blocks - 128 * (a / 8192) then 128 else blocks - 128 * (a / 8192)) ≤ a % 8192 / 64 by split <;> omega), if_pos hc]
          · rw [if_neg (show ¬ (if 128 < blocks - 128 * (a / 8192) then 128 else blocks - 128 * (a / 8192)) ≤ a % 8192 / 64 by split <;> omega), if_neg hc]
        · have hc : 64 * blocks ≤ a := by omega
          simp [hb, hc, zeroP]
      have hbase : ¬ 64 * blocks ≤ a → (mp base blocks access (a / 8192).toNat).base = base + 128 * (a / 8192) := by
        intro hc
        have hn : (((a / 8192).toNat : Nat) : Int) = a / 8192 := by omega
        unfold mp
        rw [hn, if_pos (by omega)]
      have hE : (mapped u mode.toNat base blocks access).pages[kx mode a]? = some (mp base blocks access (a / 8192).toNat) := by rw [hkx]; exact hg
      simp only [hr, hv, hm1, hm2, if_true, decide_true, Bool.not_true, Bool.false_eq_true, if_false, decide_false, hT, Option.bind_some, w1, w2, w3, w4, o3]
      have ht : ∀ w, translated { mapped u mode.toNat base blocks access with on := true } mode a w = if faultOf (mp base blocks access (a / 8192).toNat) (a % 8192) w ≠ 0 then (0, { mapped u mode.toNat base blocks access with on := true, status := faultOf (mp base blocks access (a / 8192).toNat) (a % 8192) w, addr := a }, 8) else ((64 * (mp base blocks access (a / 8192).toNat).base + a % 8192) % 262144, if w then { mapped u mode.toNat base blocks access with on := true, pages := (mapped u mode.toNat base blocks access).pages.set (kx mode a) { mp base blocks access (a / 8192).toNat with written := true } } else { mapped u mode.toNat base blocks access with on := true }, 0) := by
        intro w
        unfold translated
        simp only [hmod, hE, Bool.true_eq_false, if_false]
      simp only [ht, hf]
      by_cases hc : 64 * blocks ≤ a
      · have f0 : ¬ ((if 128 * (a / 8192) < blocks then (2 : Int) else 1) = 0) := by split <;> omega
        simp [hc, f0, o1, o2, hm3, o4, o5, hoth]
      · have e1 : (64 * (base + 128 * (a / 8192)) + a % 8192) % 262144 = 64 * base + a := by omega
        by_cases h2 : access = 2
        · subst h2
          simp [hc, hbase hc, e1, o1, o2, hm3, o4, o5, hoth]
        · simp [hc, h2, hbase hc, e1, o1, o2, hm3, o4, o5, hoth]
    · have hv2 := hv
      simp [hr, hm1, hm2, hv, nilU, zeroP]
  · simp [hr]
end Go.Proofs.Ytocjgcccbfmoeaa
