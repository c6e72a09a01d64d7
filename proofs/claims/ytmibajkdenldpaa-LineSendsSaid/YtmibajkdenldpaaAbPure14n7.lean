/- The law LineStays holds of the typed functions. -/
import Derived.Test.YtmibajkdenldpaaAbPure14
set_option linter.unusedSimpArgs false
namespace Go.Proofs.Ytmibajkdenldpaa
open Go Go.Ab
theorem sent_len (l : Line) (h : l.out.length ≤ 4096) : l.out.length ≤ (sent l).length ∧ (sent l).length ≤ 4096 := by
  simp only [sent, List.length_drop, List.length_append, List.length_cons, List.length_nil]
  omega
theorem ticked_right (l : Line) (h : Rt l) : Rt (ticked l) ∧ l.out.length ≤ (ticked l).out.length := by
  have hs := sent_len l h.2.2.2.2
  obtain ⟨h1, h2, h3, h4, h5⟩ := h
  unfold ticked
  split
  · exact ⟨⟨h1, h2, h3, h4, h5⟩, Nat.le_refl _⟩
  · split
    · obtain ⟨hs1, hs2⟩ := hs
      generalize sent l = o at hs1 hs2
      refine ⟨⟨h1, h2, ?_, ?_, hs2⟩, hs1⟩
      · show (0 : Int) ≤ 0 ∧ (0 : Int) ≤ 4
        omega
      · show true = true ↔ (0 : Int) = 0
        simp
    · rename_i a b
      refine ⟨⟨h1, h2, ⟨by simp; omega, by simp; omega⟩, ?_, h5⟩, Nat.le_refl _⟩
      simp only
      constructor
      · intro h; have := h4.1 h; omega
      · intro h; omega
/-- what a deed leaves of a valid line -/
theorem next_right (l : Line) (d : Deed) (h : Rt l) : ∃ x, law14_next l d = some x ∧ Rt x ∧ l.out.length ≤ x.out.length ∧ (d.kind ≠ 3 → x.out = l.out) := by
  have hb0 : ∀ n : Int, 0 ≤ n % 256 := fun n => Int.emod_nonneg _ (by omega)
  have hb1 : ∀ n : Int, n % 256 ≤ 255 := fun n => by have := Int.emod_lt_of_pos n (show (0 : Int) < 256 by omega); omega
  obtain ⟨v, r1, r2, _⟩ := Read_def l d.reg
  have hl := h
  obtain ⟨h1, h2, h3, h4, h5⟩ := h
  simp only [law14_next, Tlaw14_next, Tree.run, r2, r1, Type_eq, Type_some, Write_def, Tick_def l hl, Reset_def, Accept_def, Option.bind_some, decide_eq_true_eq]
  by_cases k0 : d.kind = 0
  · rw [if_pos k0]; exact ⟨_, rfl, ⟨⟨hb0 _, hb1 _⟩, h2, h3, h4, h5⟩, Nat.le_refl _, fun _ => rfl⟩
  rw [if_neg k0]
  by_cases k1 : d.kind = 1
  · rw [if_pos k1]
    refine ⟨_, rfl, ?_⟩
    split
    · exact ⟨⟨h1, h2, h3, h4, h5⟩, Nat.le_refl _, fun _ => rfl⟩
    · exact ⟨hl, Nat.le_refl _, fun _ => rfl⟩
  rw [if_neg k1]
  by_cases k2 : d.kind = 2
  · rw [if_pos k2]
    refine ⟨_, rfl, ?_⟩
    split
    · exact ⟨⟨h1, h2, h3, h4, h5⟩, Nat.le_refl _, fun _ => rfl⟩
    · split
      · exact ⟨⟨h1, h2, h3, h4, h5⟩, Nat.le_refl _, fun _ => rfl⟩
      · split
        · exact ⟨⟨h1, ⟨hb0 _, hb1 _⟩, ⟨by simp, by simp⟩, by simp, h5⟩, Nat.le_refl _, fun _ => rfl⟩
        · exact ⟨hl, Nat.le_refl _, fun _ => rfl⟩
  rw [if_neg k2]
  by_cases k3 : d.kind = 3
  · rw [if_pos k3]
    exact ⟨_, rfl, (ticked_right l hl).1, (ticked_right l hl).2, fun h => absurd k3 h⟩
  rw [if_neg k3]
  by_cases k4 : d.kind = 4
  · rw [if_pos k4]; exact ⟨_, rfl, ⟨h1, h2, ⟨by simp, by simp⟩, by simp, h5⟩, Nat.le_refl _, fun _ => rfl⟩
  rw [if_neg k4]
  by_cases k5 : d.kind = 5
  · rw [if_pos k5]; exact ⟨_, rfl, hl, Nat.le_refl _, fun _ => rfl⟩
  rw [if_neg k5]
  exact ⟨_, rfl, hl, Nat.le_refl _, fun _ => rfl⟩
theorem stays_loop (ds : List Deed) (hd : ds.length ≤ 100) (l : Line) (h : Rt l) : Llaw14_LineStays_0 none ⟨ds, 0, l⟩ = some (.inr ()) := by
  obtain ⟨b, hb, rfl⟩ := lim_rule (f := fun s => (Wlaw14_LineStays_0 s).run) (fun s => s.t1 = ds ∧ 0 ≤ s.t5 ∧ s.t5 ≤ ds.length ∧ Rt s.b0) (fun b => b = .inr ()) (fun s => (ds.length - s.t5).toNat) (by
    rintro ⟨t1, i, l⟩ ⟨rfl, h0, h1, hr⟩
    have h0 : 0 ≤ i := h0
    have h1 : i ≤ t1.length := h1
    have hr : Rt l := hr
    have hd : t1.length ≤ 100 := hd
    by_cases hi : i < t1.length
    · right
      have hlt : i.toNat < t1.length := by omega
      obtain ⟨x, n1, n2, n3, n4⟩ := next_right l t1[i.toNat] hr
      have hw : IntKind.wrap .i64 (i + 1) = i + 1 := wrap_id (by omega) (by omega)
      refine ⟨⟨t1, i + 1, x⟩, ?_, ⟨rfl, by simp; omega, by simp; omega, n2⟩, by simp; omega⟩
      simp only [Wlaw14_LineStays_0, Tree.run, decide_eq_true_eq, List.getElem?_eq_getElem hlt, Option.bind_some, n1, line_Right_def, n2, decide_true]
      rw [if_pos hi, if_pos h0, if_neg (by simp), if_neg (by omega), if_pos h0]
      by_cases k3 : t1[i.toNat].kind = 3
      · simp [k3, hw]
      · simp [k3, n4 k3, hw]
    · left
      exact ⟨_, by simp [Wlaw14_LineStays_0, Tree.run, hi], rfl⟩) ⟨ds, 0, l⟩ ⟨rfl, by simp, by simp, h⟩
  exact hb
theorem pf_law14_LineStays (x : Line × List Deed × Unit) (_ : Glaw14_LineStays x) : law14_LineStays none x.1 x.2.1 = some true := by
  obtain ⟨l, ds, u⟩ := x
  simp only [law14_LineStays, Tlaw14_LineStays, Tree.run, ref14_Right_def, line_Right_def, Option.bind_some, alive_true]
  by_cases hr : Rt l
  · by_cases hd : (100 : Int) < ds.length
    · simp [hr, hd]
    · simp [hr, hd, stays_loop ds (by omega) l hr]
  · simp [hr]
end Go.Proofs.Ytmibajkdenldpaa
