/- The law MmuQuiet holds of the typed functions. -/
import Derived.Test.YtocjgcccbfmoeaaAbPure09
set_option linter.unusedSimpArgs false
namespace Go.Proofs.Ytocjgcccbfmoeaa
open Go Go.Ab
theorem fault_pos (x : Page) (o : Int) (w : Bool) : 0 ≤ faultOf x o w ∧ faultOf x o w ≤ 3 := by
  unfold faultOf
  repeat' split
  all_goals omega
theorem pf_law09_MmuQuiet (x : Access × Unit) (hg : Glaw09_MmuQuiet x) : law09_MmuQuiet none x.1 = some true := by
  obtain ⟨⟨u, mode, addr, w⟩, z⟩ := x
  have hl : u.pages.length = 16 := hg.1.1.2.1.1
  simp only [law09_MmuQuiet, Tlaw09_MmuQuiet, Tree.run, mmu_Right_def u hl, Option.bind_some, alive_true]
  by_cases hr : Rt u
  · simp only [mmu_Translate_def u mode addr w hl hr, Option.bind_some]
    have h0 := Int.emod_nonneg addr (show (65536 : Int) ≠ 0 by omega)
    have h1 := Int.emod_lt_of_pos addr (show (0 : Int) < 65536 by omega)
    have hk := kx_lt (mode := mode) h0 h1
    unfold translated
    generalize addr % 65536 = a at h0 h1 hk
    have hlt : kx mode a < u.pages.length := by omega
    have hg := List.getElem?_eq_getElem hlt
    have hx := hr.1 _ (List.getElem_mem hlt)
    have hx' := hx
    generalize u.pages[kx mode a] = x at hg hx hx'
    obtain ⟨⟨b0, b1⟩, _, _⟩ := hx'
    cases hon : u.on
    · by_cases hc : a < 57344
      · have c1 : ¬ a < 0 := by omega
        have c2 : ¬ 262144 ≤ a := by omega
        simp [hc, hr, hon, mmu_Right_def u hl, c1, c2]
      · have c1 : ¬ a + 196608 < 0 := by omega
        have c2 : ¬ 262144 ≤ a + 196608 := by omega
        simp [hc, hr, hon, mmu_Right_def u hl, c1, c2]
    · simp only [hg]
      obtain ⟨f0, f3⟩ := fault_pos x (a % 8192) w
      by_cases hz : faultOf x (a % 8192) w = 0
      · have c1 : ¬ (64 * x.base + a % 8192) % 262144 < 0 := by omega
        have c2 : ¬ 262144 ≤ (64 * x.base + a % 8192) % 262144 := by omega
        cases w
        · simp [hz, hr, hon, mmu_Right_def u hl, c1, c2]
        · have hl2 : ({ on := true, pages := u.pages.set (kx mode a) { base := x.base, length := x.length, access := x.access, written := true }, status := u.status, addr := u.addr } : Mmu).pages.length = 16 := by
            show (u.pages.set _ _).length = 16
            rw [List.length_set]; exact hl
          have hr2 : Rt ({ on := true, pages := u.pages.set (kx mode a) { base := x.base, length := x.length, access := x.access, written := true }, status := u.status, addr := u.addr } : Mmu) := by
            refine ⟨fun p hp => ?_, hr.2.1, hr.2.2⟩
            rcases List.mem_or_eq_of_mem_set hp with h' | rfl
            · exact hr.1 p h'
            · exact hx
          simp [hz, hr, hon, mmu_Right_def _ hl2, hr2, c1, c2]
      · have hl2 : ({ on := true, pages := u.pages, status := faultOf x (a % 8192) w, addr := a } : Mmu).pages.length = 16 := hl
        have hr2 : Rt ({ on := true, pages := u.pages, status := faultOf x (a % 8192) w, addr := a } : Mmu) := ⟨hr.1, ⟨f0, f3⟩, by show 0 ≤ a ∧ a ≤ 65535; omega⟩
        have f1 : 0 < faultOf x (a % 8192) w := by omega
        simp [hz, hr, hon, mmu_Right_def _ hl2, hr2, f1]
  · simp [hr]
end Go.Proofs.Ytocjgcccbfmoeaa
