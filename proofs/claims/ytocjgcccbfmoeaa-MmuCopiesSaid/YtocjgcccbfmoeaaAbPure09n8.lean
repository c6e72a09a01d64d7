/- The law MmuCopies holds of the typed functions. -/
import Derived.Test.YtocjgcccbfmoeaaAbPure09b
set_option linter.unusedSimpArgs false
namespace Go.Proofs.Ytocjgcccbfmoeaa
open Go Go.Ab
theorem set_range {α : Type} (n k : Nat) (f : Nat → α) (y : α) : ((List.range n).map f).set k y = (List.range n).map fun j => if j = k then y else f j := by
  apply List.ext_getElem
  · simp
  · intro j h1 h2
    rw [List.getElem_set]
    simp only [List.getElem_map, List.getElem_range]
    by_cases h : k = j
    · subst h; simp
    · rw [if_neg h, if_neg (fun e => h e.symm)]
theorem get_range {α : Type} (n k : Nat) (hk : k < n) (f : Nat → α) : ((List.range n).map f)[k]? = some (f k) := by
  rw [List.getElem?_map, List.getElem?_range hk]
  rfl
def zP : Page := ⟨0, 0, 0, false⟩
def pgs (u : Mmu) (j : Nat) : Page := u.pages[j]?.getD zP
theorem pages_range (u : Mmu) (hl : u.pages.length = 16) : (List.range 16).map (pgs u) = u.pages := by
  apply List.ext_getElem
  · simp [hl]
  · intro j h1 h2
    simp [pgs, h2]
def strip (p : Page) : Page := { p with written := false }
/-- page j when so many registers have been written -/
def q (u : Mmu) (i j : Nat) : Page := if 2 * j + 1 < i then strip (pgs u j) else if 2 * j < i then ⟨(pgs u j).base, 0, 0, false⟩ else zP
def cAt (u : Mmu) (i : Nat) : Mmu := ⟨false, (List.range 16).map (q u i), 0, 0⟩
theorem copies_loop (u : Mmu) (hl : u.pages.length = 16) (hr : Rt u) : Llaw09_MmuCopies_0 none ⟨16, u, cAt u 0⟩ = some (.inr (u, cAt u 32)) := by
  have hc := lim_count (f := fun s => (Wlaw09_MmuCopies_0 s).run) (fun i : Nat => ⟨16 + 2 * (i : Int), u, cAt u i⟩) 32 (fun i hi => by
    have hR : isReg (16 + 2 * (i : Int)) := by unfold isReg; omega
    have hkr : kr (16 + 2 * (i : Int)) = i / 2 := by unfold kr; omega
    have hw : IntKind.wrap .i64 (16 + 2 * (i : Int) + 2) = 16 + 2 * ((i + 1 : Nat) : Int) := by rw [wrap_id (by omega) (by omega)]; omega
    have hk : i / 2 < 16 := by omega
    have hp : u.pages[i / 2]? = some (pgs u (i / 2)) := by
      have : i / 2 < u.pages.length := by omega
      simp [pgs, this]
    have hok : OkPage (pgs u (i / 2)) := hr.1 _ (List.mem_of_getElem? hp)
    have hcl : (cAt u i).pages.length = 16 := by simp [cAt]
    have hcp : (cAt u i).pages[i / 2]? = some (q u i (i / 2)) := get_range 16 (i / 2) hk _
    simp only [Wlaw09_MmuCopies_0, Tree.run, decide_eq_true_eq, mmu_Read_def u _ hl hr (show -9223372036854775808 ≤ 16 + 2 * (i : Int) by omega) (by omega), mmu_Write_def _ _ _ hcl (show -9223372036854775808 ≤ 16 + 2 * (i : Int) by omega) (by omega), Option.bind_some]
    rw [if_pos (by omega)]
    have n0 : ¬ 16 + 2 * (i : Int) = 0 := by omega
    have n2 : ¬ 16 + 2 * (i : Int) = 2 := by omega
    simp only [got, wrote, n0, n2, if_false, if_pos hR, hkr, hp, hcp, Bool.not_true, Bool.false_eq_true, hw]
    have hset : (cAt u i).pages.set (i / 2) (newPage (q u i (i / 2)) (16 + 2 * (i : Int)) (if (16 + 2 * (i : Int) - 16) % 4 = 2 then (pgs u (i / 2)).length + 256 * (pgs u (i / 2)).access + (if (pgs u (i / 2)).written then 32768 else 0) else (pgs u (i / 2)).base)) = (cAt u (i + 1)).pages := by
      show ((List.range 16).map (q u i)).set _ _ = (List.range 16).map (q u (i + 1))
      rw [set_range 16 (i / 2)]
      apply List.map_congr_left
      intro j hj
      obtain ⟨⟨b0, b1⟩, ⟨l0, l1⟩, ⟨a0, a1⟩⟩ := hok
      by_cases hji : j = i / 2
      · subst hji
        rw [if_pos rfl]
        unfold newPage
        by_cases hd : (16 + 2 * (i : Int) - 16) % 4 = 2
        · have e1 : ¬ 2 * (i / 2) + 1 < i := by omega
          have e2 : 2 * (i / 2) < i := by omega
          have e3 : 2 * (i / 2) + 1 < i + 1 := by omega
          have v1 : ((pgs u (i / 2)).length + 256 * (pgs u (i / 2)).access + (if (pgs u (i / 2)).written then 32768 else 0)) % 256 = (pgs u (i / 2)).length := by split <;> omega
          have v2 : ((pgs u (i / 2)).length + 256 * (pgs u (i / 2)).access + (if (pgs u (i / 2)).written then 32768 else 0)) / 256 % 4 = (pgs u (i / 2)).access := by split <;> omega
          have v3 : ¬ 128 < (pgs u (i / 2)).length := by omega
          have v4 : ¬ 2 < (pgs u (i / 2)).access := by omega
          simp only [hd, if_true, q, e1, e2, e3, if_false, v1, v2, v3, v4, strip]
        · have e1 : ¬ 2 * (i / 2) + 1 < i := by omega
          have e2 : ¬ 2 * (i / 2) < i := by omega
          have e3 : ¬ 2 * (i / 2) + 1 < i + 1 := by omega
          have e4 : 2 * (i / 2) < i + 1 := by omega
          have v1 : (pgs u (i / 2)).base % 4096 = (pgs u (i / 2)).base := by omega
          simp only [hd, if_false, q, e1, e2, e3, e4, if_true, v1, zP]
      · rw [if_neg hji]
        unfold q
        have e1 : 2 * j + 1 < i ↔ 2 * j + 1 < i + 1 := by omega
        have e2 : 2 * j < i ↔ 2 * j < i + 1 := by omega
        simp only [e1, e2]
    rw [hset]
    rfl) 0 (by omega)
  refine Eq.trans ?_ (hc.trans ?_)
  · rfl
  · exact lim_done (by simp [Wlaw09_MmuCopies_0, Tree.run])
/-- a unit of which the first pages are not written -/
def w (u : Mmu) (i j : Nat) : Page := if j < i then strip (pgs u j) else pgs u j
def uAt (u : Mmu) (i : Nat) : Mmu := { u with pages := (List.range 16).map (w u i) }
theorem uAt_pages (u : Mmu) (i : Nat) : (uAt u i).pages = (List.range 16).map (w u i) := rfl
theorem strip_loop (u v : Mmu) (m : Nat) (hm : m < 2) : Llaw09_MmuCopies_2 none ⟨(m : Int), 0, uAt u (m * 8), v⟩ = some ((m : Int), uAt u (m * 8 + 8), v) := by
  have hc := lim_count (f := fun s => (Wlaw09_MmuCopies_2 s).run) (fun i : Nat => ⟨(m : Int), (i : Int), uAt u (m * 8 + i), v⟩) 8 (fun i hi => by
    have hk : m * 8 + i < 16 := by omega
    have hw : IntKind.wrap .i64 ((i : Int) + 1) = ((i + 1 : Nat) : Int) := by rw [wrap_id] <;> omega
    have hg : (uAt u (m * 8 + i)).pages[m * 8 + i]? = some (pgs u (m * 8 + i)) := by
      rw [uAt_pages, get_range 16 _ hk]
      simp [w]
    have hs : (uAt u (m * 8 + i)).pages.set (m * 8 + i) (strip (pgs u (m * 8 + i))) = (uAt u (m * 8 + (i + 1))).pages := by
      rw [uAt_pages, uAt_pages, set_range 16]
      apply List.map_congr_left
      intro j _
      by_cases hj : j = m * 8 + i
      · rw [if_pos hj, w, if_pos (by omega), hj]
      · have e : j < m * 8 + i ↔ j < m * 8 + (i + 1) := by omega
        simp only [hj, if_false, w, e]
    simp only [Wlaw09_MmuCopies_2, Tree.run, decide_eq_true_eq, Int.toNat_natCast, Nat.mul_one, hg, Option.bind_some, hw]
    rw [if_pos (by omega), if_pos (by omega), if_pos (by omega), if_pos (by omega), if_pos (by omega)]
    have hs' : (uAt u (m * 8 + i)).pages.set (m * 8 + i) { base := (pgs u (m * 8 + i)).base, length := (pgs u (m * 8 + i)).length, access := (pgs u (m * 8 + i)).access, written := false } = (uAt u (m * 8 + (i + 1))).pages := hs
    rw [hs']
    rfl) 0 (by omega)
  refine Eq.trans ?_ (hc.trans ?_)
  · rfl
  · exact lim_done (by simp [Wlaw09_MmuCopies_2, Tree.run])
theorem strips_loop (u v : Mmu) : Llaw09_MmuCopies_1 none ⟨0, uAt u 0, v⟩ = some (uAt u 16, v) := by
  have hc := lim_count (f := fun s => (Wlaw09_MmuCopies_1 none s).run) (fun m : Nat => ⟨(m : Int), uAt u (m * 8), v⟩) 2 (fun m hm => by
    have hw : IntKind.wrap .i64 ((m : Int) + 1) = ((m + 1 : Nat) : Int) := by rw [wrap_id] <;> omega
    have h2 : (m : Int) < 2 := by omega
    simp only [Wlaw09_MmuCopies_1, Tree.run, decide_eq_true_eq, strip_loop u v m hm, Option.bind_some, hw]
    rw [if_pos h2, show m * 8 + 8 = (m + 1) * 8 by omega]) 0 (by omega)
  refine Eq.trans ?_ (hc.trans ?_)
  · rfl
  · exact lim_done (by simp [Wlaw09_MmuCopies_1, Tree.run])
theorem pf_law09_MmuCopies (x : Mmu × Unit) (hg : Glaw09_MmuCopies x) : law09_MmuCopies none x.1 = some true := by
  obtain ⟨u, z⟩ := x
  have hl : u.pages.length = 16 := hg.1.2.1.1
  simp only [law09_MmuCopies, Tlaw09_MmuCopies, Tree.run, mmu_Right_def u hl, Option.bind_some, alive_true]
  by_cases hr : Rt u
  · have h0 : (Mmu.mk false (List.replicate 16 (Page.mk 0 0 0 false)) 0 0) = cAt u 0 := by
      have : (List.range 16).map (q u 0) = List.replicate 16 (Page.mk 0 0 0 false) := rfl
      simp only [cAt, this]
    have hu : uAt u 0 = u := by
      have := pages_range u hl
      have e : (List.range 16).map (w u 0) = (List.range 16).map (pgs u) := List.map_congr_left fun j _ => by simp [w]
      simp [uAt, e, this]
    have h32 : (cAt u 32).pages = (uAt u 16).pages := by
      show (List.range 16).map (q u 32) = (List.range 16).map (w u 16)
      apply List.map_congr_left
      intro j hj
      have hj : j < 16 := by simpa using hj
      simp only [q, w]
      rw [if_pos (by omega), if_pos hj]
    have hL := strips_loop u (cAt u 32)
    rw [hu] at hL
    rw [h0, copies_loop u hl hr]
    simp [hr, hL, h32]
  · simp [hr]
end Go.Proofs.Ytocjgcccbfmoeaa
