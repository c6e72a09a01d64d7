/- BusTicks: plain. -/
import Derived.Test.YtfdndagnolbnhaaGreatYAbDevP18y
import Derived.Test.YtfdndagnolbnhaaGreatYAbRd18y
set_option linter.unusedSimpArgs false
set_option linter.unusedVariables false
namespace Go.Proofs.YtfdndagnolbnhaaGreat
open Go Go.Ab
theorem fin_of' {m : Machine} (h : SmM m) (hp : m.mmu.pages.length = 16) : Fin m := by
  obtain ⟨h1, h2, h3, h4, h5, h6⟩ := h
  exact ⟨hp, by omega, by omega, by omega, by omega⟩
theorem z22y {m : Machine} (h : SmM m) (hp : m.mmu.pages.length = 16) (hr : RtM m) : OkM m := by
  obtain ⟨h1, h2, h3, h4, h5, h6⟩ := h
  exact ⟨hr, hp, h1, h2, h4, h5⟩
theorem z1ys (n : Int) (hn : n ≤ 60) (m : Machine) (h : OkM m) : zao none ⟨n, (0 : Int), m, m⟩ = some (.inr ()) := by
  obtain ⟨r, hr, rfl⟩ := zlc (f := fun s => (z6j none s).run) (fun s => ∃ (i : Nat) (m : Machine), s = ⟨n, (i : Int), m, m⟩ ∧ OkM m) (fun r => r = .inr ()) (fun s => (n - s.t6).toNat)
    (by
      rintro s ⟨i, m, rfl, h⟩
      by_cases h1 : (i : Int) < n
      · right
        obtain ⟨y, e1, e2, e3⟩ := z20a h
        have w : IntKind.wrap .i64 ((i : Int) + 1) = ((i + 1 : Nat) : Int) := by rw [zh] <;> omega
        refine ⟨⟨n, ((i + 1 : Nat) : Int), y, y⟩, ?_, ⟨i + 1, y, rfl, e3⟩, by show (n - ((i + 1 : Nat) : Int)).toNat < (n - (i : Int)).toNat; omega⟩
        simp only [z6j, Tree.run, h1, e1, e2, e3.same, e3.right, w, decide_true, if_true, Bool.not_true, Bool.false_eq_true, if_false, Option.bind_some]
      · left
        refine ⟨.inr (), ?_, rfl⟩
        simp only [z6j, Tree.run, h1, decide_false, Bool.false_eq_true, if_false])
    ⟨n, (0 : Int), m, m⟩ ⟨0, m, rfl, h⟩
  exact hr
theorem z1a1 (x : Machine × Int × Unit) (h : zsn x) : zet none x.1 x.2.1 = some true := by
  obtain ⟨m, n, u⟩ := x
  obtain ⟨r, hr, hs⟩ := z1yy m
  have hp : m.mmu.pages.length = 16 := h.1.2.2.2.1.2.1.1
  simp only [zet, zcx, Tree.run, z1xr, hr, Option.bind_some]
  cases r with
  | false => rfl
  | true =>
    have hS := hs rfl
    simp only [Bool.not_true, Bool.false_eq_true, if_false, z1ko m (fin_of' hS hp), Option.bind_some]
    by_cases hR : RtM m
    · have ho := z22y hS hp hR
      by_cases h60 : (60 : Int) < n
      · simp [hR, h60]
      · simp [hR, h60, z1ys n (by omega) m ho]
    · simp [hR]
end Go.Proofs.YtfdndagnolbnhaaGreat
