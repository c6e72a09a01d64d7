/- Chapter 9: what Map comes to. -/
import Derived.Test.YtocjgcccbfmoeaaAbPure09
set_option linter.unusedSimpArgs false
namespace Go.Proofs.Ytocjgcccbfmoeaa
open Go Go.Ab
def zeroP : Page := ⟨0, 0, 0, false⟩
/-- page i of a range -/
def mp (base blocks access : Int) (i : Nat) : Page := if 128 * (i : Int) < blocks then ⟨base + 128 * i, if 128 < blocks - 128 * i then 128 else blocks - 128 * i, access, false⟩ else zeroP
def mapped (u : Mmu) (m : Nat) (base blocks access : Int) : Mmu := { u with pages := u.pages.take (m * 8) ++ (List.range 8).map (mp base blocks access) ++ u.pages.drop (m * 8 + 8) }
def Valid (mode base blocks access : Int) : Prop := (0 ≤ mode ∧ mode ≤ 1) ∧ (1 ≤ access ∧ access ≤ 2) ∧ (0 ≤ blocks ∧ blocks ≤ 1024) ∧ (0 ≤ base ∧ base ≤ 4096 - blocks)
instance (a b c d : Int) : Decidable (Valid a b c d) := by unfold Valid; infer_instance
/-- the pages where a place is set behind others -/
theorem set_mid {α : Type} (a b : List α) (x y : α) (c : List α) (k : Nat) (hk : k = a.length + b.length) : (a ++ b ++ x :: c).set k y = a ++ (b ++ [y]) ++ c := by
  subst hk
  rw [List.set_append_right _ _ (by simp)]
  simp
theorem get_mid {α : Type} (a b : List α) (x : α) (c : List α) (k : Nat) (hk : k = a.length + b.length) : (a ++ b ++ x :: c)[k]? = some x := by
  subst hk
  rw [List.getElem?_append_right (by simp)]
  simp
def at1 (base blocks : Int) (i : Nat) : Int := base + (if 128 * (i : Int) < blocks then 128 * (i : Int) else blocks)
def left1 (blocks : Int) (i : Nat) : Int := blocks - (if 128 * (i : Int) < blocks then 128 * (i : Int) else blocks)
theorem ref_loop (u v : Mmu) (m : Nat) (hm : m < 2) (base blocks access : Int) (hl : u.pages.length = 16) (h1 : 0 ≤ blocks) (h2 : blocks ≤ 1024) (h3 : 0 ≤ base) (h4 : base ≤ 4096) :
    Lref09_Map_0 none ⟨(m : Int), base, blocks, access, 0, u, v⟩ = some (mapped u m base blocks access, v) := by
  have hc := lim_count (f := fun s => (Wref09_Map_0 s).run) (fun i : Nat => ⟨(m : Int), at1 base blocks i, left1 blocks i, access, (i : Int), { u with pages := u.pages.take (m * 8) ++ (List.range i).map (mp base blocks access) ++ u.pages.drop (m * 8 + i) }, v⟩) 8 (fun i hi => by
    have hlt : m * 8 + i < u.pages.length := by omega
    have hd := List.drop_eq_getElem_cons hlt
    have htl : (u.pages.take (m * 8)).length = m * 8 := by simp; omega
    have hk : m * 8 + i = (u.pages.take (m * 8)).length + ((List.range i).map (mp base blocks access)).length := by simp; omega
    have hget : (u.pages.take (m * 8) ++ (List.range i).map (mp base blocks access) ++ u.pages.drop (m * 8 + i))[m * 8 + i]? = some u.pages[m * 8 + i] := by
      rw [hd]
      exact get_mid _ _ _ _ _ hk
    have hset : ∀ y, (u.pages.take (m * 8) ++ (List.range i).map (mp base blocks access) ++ u.pages.drop (m * 8 + i)).set (m * 8 + i) y = u.pages.take (m * 8) ++ ((List.range i).map (mp base blocks access) ++ [y]) ++ u.pages.drop (m * 8 + (i + 1)) := by
      intro y
      rw [hd, set_mid _ _ _ _ _ _ hk]
      rfl
    have hget2 : ∀ y, (u.pages.take (m * 8) ++ ((List.range i).map (mp base blocks access) ++ [y]) ++ u.pages.drop (m * 8 + (i + 1)))[m * 8 + i]? = some y := by
      intro y
      rw [← hset y]
      exact List.getElem?_set_self (by simp; omega)
    have hset2 : ∀ y z, (u.pages.take (m * 8) ++ ((List.range i).map (mp base blocks access) ++ [y]) ++ u.pages.drop (m * 8 + (i + 1))).set (m * 8 + i) z = u.pages.take (m * 8) ++ ((List.range i).map (mp base blocks access) ++ [z]) ++ u.pages.drop (m * 8 + (i + 1)) := by
      intro y z
      rw [← hset y, List.set_set, hset z]
    have hw : IntKind.wrap .i64 ((i : Int) + 1) = ((i + 1 : Nat) : Int) := by rw [wrap_id] <;> omega
    have hm0 : (m : Int) < 2 := by omega
    have hm1 : (0 : Int) ≤ m := by omega
    have hi0 : (i : Int) < 8 := by omega
    have hi1 : (0 : Int) ≤ i := by omega
    simp only [Wref09_Map_0, Tree.run, decide_eq_true_eq, Int.toNat_natCast, Nat.mul_one, hget, hset, hget2, hset2, Option.bind_some, hw, List.range_succ, List.map_append, List.map_cons, List.map_nil]
    simp only [hm0, hm1, hi0, hi1, if_true]
    unfold at1 left1 mp
    by_cases hb : 128 * (i : Int) < blocks
    · have hb' : 0 < blocks - 128 * (i : Int) := by omega
      simp only [hb, if_true, hb']
      have w1 : IntKind.wrap .i64 (base + 128 * (i : Int) + (if 128 < blocks - 128 * (i : Int) then 128 else blocks - 128 * (i : Int))) = base + (if 128 * ((i + 1 : Nat) : Int) < blocks then 128 * ((i + 1 : Nat) : Int) else blocks) := by
        rw [wrap_id (by split <;> omega) (by split <;> omega)]
        split <;> split <;> omega
      have w2 : IntKind.wrap .i64 (blocks - 128 * (i : Int) - (if 128 < blocks - 128 * (i : Int) then 128 else blocks - 128 * (i : Int))) = blocks - (if 128 * ((i + 1 : Nat) : Int) < blocks then 128 * ((i + 1 : Nat) : Int) else blocks) := by
        rw [wrap_id (by split <;> omega) (by split <;> omega)]
        split <;> split <;> omega
      rw [w1, w2]
    · have hb' : ¬ 0 < blocks - blocks := by omega
      have hb2 : ¬ 128 * ((i + 1 : Nat) : Int) < blocks := by omega
      simp only [hb, if_false, hb', hb2]
      rfl) 0 (by omega)
  have hz1 : at1 base blocks 0 = base := by unfold at1; split <;> omega
  have hz2 : left1 blocks 0 = blocks := by unfold left1; split <;> omega
  simp only [hz1, hz2, List.range_zero, List.map_nil, List.append_nil, Nat.add_zero, List.take_append_drop] at hc
  refine Eq.trans ?_ (hc.trans ?_)
  · rfl
  · exact lim_done (by simp [Wref09_Map_0, Tree.run, mapped])
theorem mmu_loop (u v : Mmu) (m : Nat) (base blocks access : Int) (h1 : 0 ≤ blocks) (h2 : blocks ≤ 1024) (h3 : 0 ≤ base) (h4 : base ≤ 4096) :
    Lmmu_Map_0 none ⟨(m : Int), base, blocks, access, 0, u, v, List.replicate 8 zeroP⟩ = some ((m : Int), u, v, (List.range 8).map (mp base blocks access)) := by
  have hc := lim_count (f := fun s => (Wmmu_Map_0 s).run) (fun i : Nat => ⟨(m : Int), at1 base blocks i, left1 blocks i, access, (i : Int), u, v, (List.range i).map (mp base blocks access) ++ List.replicate (8 - i) zeroP⟩) 8 (fun i hi => by
    have hd : List.replicate (8 - i) zeroP = zeroP :: List.replicate (8 - (i + 1)) zeroP := by rw [show 8 - i = (8 - (i + 1)) + 1 by omega]; rfl
    have hget : ((List.range i).map (mp base blocks access) ++ List.replicate (8 - i) zeroP)[i]? = some zeroP := by
      rw [hd, List.getElem?_append_right (by simp)]
      simp
    have hset : ∀ y, ((List.range i).map (mp base blocks access) ++ List.replicate (8 - i) zeroP).set i y = (List.range i).map (mp base blocks access) ++ [y] ++ List.replicate (8 - (i + 1)) zeroP := by
      intro y
      rw [hd]
      have := set_mid [] ((List.range i).map (mp base blocks access)) zeroP y (List.replicate (8 - (i + 1)) zeroP) i (by simp)
      simp at this
      simp [this]
    have hw : IntKind.wrap .i64 ((i : Int) + 1) = ((i + 1 : Nat) : Int) := by rw [wrap_id] <;> omega
    have hi0 : (i : Int) < 8 := by omega
    have hi1 : (0 : Int) ≤ i := by omega
    simp only [Wmmu_Map_0, Tree.run, decide_eq_true_eq, Int.toNat_natCast, Nat.mul_one, hget, hset, Option.bind_some, hw, List.range_succ, List.map_append, List.map_cons, List.map_nil]
    simp only [hi0, hi1, if_true]
    unfold at1 left1 mp
    by_cases hb : 128 * (i : Int) < blocks
    · have hb' : (0 : Int) < (if 128 < blocks - 128 * (i : Int) then 128 else blocks - 128 * (i : Int)) := by split <;> omega
      simp only [hb, if_true, hb']
      have w1 : IntKind.wrap .i64 (base + 128 * (i : Int) + (if 128 < blocks - 128 * (i : Int) then 128 else blocks - 128 * (i : Int))) = base + (if 128 * ((i + 1 : Nat) : Int) < blocks then 128 * ((i + 1 : Nat) : Int) else blocks) := by
        rw [wrap_id (by split <;> omega) (by split <;> omega)]
        split <;> split <;> omega
      have w2 : IntKind.wrap .i64 (blocks - 128 * (i : Int) - (if 128 < blocks - 128 * (i : Int) then 128 else blocks - 128 * (i : Int))) = blocks - (if 128 * ((i + 1 : Nat) : Int) < blocks then 128 * ((i + 1 : Nat) : Int) else blocks) := by
        rw [wrap_id (by split <;> omega) (by split <;> omega)]
        split <;> split <;> omega
      rw [w1, w2]
    · have hb' : ¬ (0 : Int) < (if 128 < blocks - blocks then 128 else blocks - blocks) := by split <;> omega
      have hb2 : ¬ 128 * ((i + 1 : Nat) : Int) < blocks := by omega
      simp only [hb, if_false, hb', hb2, hd]
      simp) 0 (by omega)
  have hz1 : at1 base blocks 0 = base := by unfold at1; split <;> omega
  have hz2 : left1 blocks 0 = blocks := by unfold left1; split <;> omega
  simp only [hz1, hz2, List.range_zero, List.map_nil, List.nil_append, Nat.sub_zero] at hc
  refine Eq.trans ?_ (hc.trans ?_)
  · rfl
  · exact lim_done (by simp [Wmmu_Map_0, Tree.run])
def nilU : Mmu := ⟨false, List.replicate 16 zeroP, 0, 0⟩
theorem ref_Map_def (u : Mmu) (mode base blocks access : Int) (hl : u.pages.length = 16) : ref09_Map none u mode base blocks access = some (if Valid mode base blocks access then (mapped u mode.toNat base blocks access, 0) else (nilU, 1)) := by
  by_cases hv : Valid mode base blocks access
  · rw [if_pos hv]
    obtain ⟨⟨a1, a2⟩, ⟨b1, b2⟩, ⟨c1, c2⟩, d1, d2⟩ := hv
    have hw : IntKind.wrap .i64 (4096 - blocks) = 4096 - blocks := wrap_id (by omega) (by omega)
    have hL := ref_loop u nilU mode.toNat (by omega) base blocks access hl c1 c2 d1 (by omega)
    rw [Int.toNat_of_nonneg a1] at hL
    simp only [ref09_Map, Tref09_Map, Tree.run, decide_eq_true_eq, hw]
    rw [if_neg (by omega), if_neg (by omega), if_neg (by omega), if_neg (by omega), if_neg (by omega), if_neg (by omega), if_neg (by omega), if_neg (by omega)]
    rw [show (Mmu.mk false (List.replicate 16 (Page.mk 0 0 0 false)) 0 0) = nilU from rfl, hL]
    rfl
  · rw [if_neg hv]
    simp only [ref09_Map, Tref09_Map, Tree.run, decide_eq_true_eq]
    unfold Valid at hv
    have hw : 0 ≤ blocks → blocks ≤ 1024 → IntKind.wrap .i64 (4096 - blocks) = 4096 - blocks := fun _ _ => wrap_id (by omega) (by omega)
    repeat' split
    all_goals first | rfl | skip
    exfalso
    have := hw (by omega) (by omega)
    omega
theorem mmu_Map_def (u : Mmu) (mode base blocks access : Int) (hl : u.pages.length = 16) : mmu_Map none u mode base blocks access = some (if Valid mode base blocks access then (mapped u mode.toNat base blocks access, 0) else (nilU, 1)) := by
  by_cases hv : Valid mode base blocks access
  · rw [if_pos hv]
    obtain ⟨⟨a1, a2⟩, ⟨b1, b2⟩, ⟨c1, c2⟩, d1, d2⟩ := hv
    have hw : IntKind.wrap .i64 (4096 - blocks) = 4096 - blocks := wrap_id (by omega) (by omega)
    have hL := mmu_loop u nilU mode.toNat base blocks access c1 c2 d1 (by omega)
    rw [Int.toNat_of_nonneg a1] at hL
    have e1 : decide (0 ≤ mode ∧ mode ≤ 1) = true := by simp; omega
    have e2 : decide (0 ≤ blocks ∧ blocks ≤ 1024) = true := by simp; omega
    have e3 : ¬ base < 0 := by omega
    have e4 : ¬ 4096 - blocks < base := by omega
    have e5 : 0 ≤ mode := a1
    have e6 : mode < 2 := by omega
    have e7 : mode.toNat * 8 + 8 ≤ u.pages.length := by omega
    simp only [mmu_Map, Tmmu_Map, Tree.run, from_def, Option.bind_some, e1, e2, hw, decide_eq_true_eq, Bool.not_true, Bool.false_eq_true, if_false, Bool.not_eq_true', decide_eq_false_iff_not, e3, e4]
    rw [show (Mmu.mk false (List.replicate 16 (Page.mk 0 0 0 false)) 0 0) = nilU from rfl, show List.replicate 8 (Page.mk 0 0 0 false) = List.replicate 8 zeroP from rfl, hL]
    simp only [Option.bind_some, e5, e6, e7, if_true]
    rcases (show access = 1 ∨ access = 2 by omega) with rfl | rfl
    · rfl
    · rfl
  · rw [if_neg hv]
    simp only [mmu_Map, Tmmu_Map, Tree.run, from_def, Option.bind_some, decide_eq_true_eq, Bool.not_eq_true', decide_eq_false_iff_not]
    unfold Valid at hv
    have hw : 0 ≤ blocks → blocks ≤ 1024 → IntKind.wrap .i64 (4096 - blocks) = 4096 - blocks := fun _ _ => wrap_id (by omega) (by omega)
    repeat' split
    all_goals first | rfl | skip
    all_goals exfalso
    all_goals have := hw (by omega) (by omega)
    all_goals omega
theorem mapped_len (u : Mmu) (m : Nat) (hm : m < 2) (base blocks access : Int) (hl : u.pages.length = 16) : (mapped u m base blocks access).pages.length = 16 := by
  simp [mapped, hl]
  omega
end Go.Proofs.Ytocjgcccbfmoeaa
