/- The operations of the abstract machine are those of Go: values, loads, stores. -/
import Derived.Test.YtjhibcebipjbcaaAbState
import Derived.Laws.Entries
set_option linter.unusedSimpArgs false
namespace Go.Ab
variable {U : Nat → Type}
section
variable {P : Program} {cd : Cd U} {M M' : Mp} {Fz Fz' : Nat → Prop} {w w' : World}

/-! ### trees -/
theorem Tree.run_map {α β : Type} (f : α → β) : ∀ t : Tree α, (t.map f).run = t.run.map f
  | .leaf a => rfl
  | .fail => rfl
  | .ite b t e => by simp only [Tree.map, Tree.run]; split <;> exact Tree.run_map f _
  | .opt γ o g => by
    simp only [Tree.map, Tree.run]
    cases o with
    | none => rfl
    | some x => exact Tree.run_map f (g x)
theorem Tree.run_bind {α β : Type} (f : α → Tree β) : ∀ t : Tree α, (t.bind f).run = t.run.bind fun a => (f a).run
  | .leaf a => rfl
  | .fail => rfl
  | .ite b t e => by simp only [Tree.bind, Tree.run]; split <;> exact Tree.run_bind f _
  | .opt γ o g => by
    simp only [Tree.bind, Tree.run]
    cases o with
    | none => rfl
    | some x => exact Tree.run_bind f (g x)

/-! ### types -/
theorem info_of_underlying {t : Nat} {d : TypeDesc} (h : P.underlying t = some d) : ∃ i, P.info? t = some i := by
  unfold Program.underlying at h
  cases hi : P.info? t with
  | none => simp [hi] at h
  | some i => exact ⟨i, rfl⟩
theorem run_size {t : Nat} {d : TypeDesc} (h : P.underlying t = some d) (w : World) : (sizeOf t).run P w = .ok (P.cellsOf t) w := by
  obtain ⟨i, hi⟩ := info_of_underlying h
  simp [sizeOf, typeInfo, hi, Result.andThen, Program.cellsOf]
theorem run_agg {t : Nat} {d : TypeDesc} (h : P.underlying t = some d) (w : World) : (isAgg t).run P w = .ok (isAggB P t) w := by
  simp only [isAgg, Sem.run_bind, run_underlying h, Result.andThen, isAggB, h]
  cases d <;> rfl

theorem add0 (k o j : Nat) : (at0 k o).add j = at0 k (o + j) := by
  unfold Addr.add at0
  split <;> simp_all

theorem cell_at {k o : Nat} {arr : Array Value} {e : Nat} {fr : Nat × Nat} (h : w.heap[k]? = some (.cells arr e fr)) : w.cell? (at0 k o) = arr[o]? := by
  simp [World.cell?, at0, h]
/-- cells that stand together are loaded -/
theorem load_cells {k o n : Nat} (vs : List Value) (hl : vs.length = n) (h : ∀ (j : Nat) v, vs[j]? = some v → w.cell? (at0 k (o + j)) = some v) :
    (loadCells (at0 k o) n).run P w = .ok vs.toArray w := by
  subst hl
  exact run_loadCells_list w (at0 k o) vs fun j v hj => by rw [add0]; exact h j v hj
theorem mkV_ok {t : Nat} {cs : List (C U)} {v : V U} (h : mkV P t cs = some v) : ∃ d, P.underlying t = some d ∧ ((isAggB P t = true ∧ v = .agg cs) ∨ (isAggB P t = false ∧ ∃ c, cs = [c] ∧ v = .one c ∧ ∀ a b l, c ≠ .arr a b l)) := by
  unfold mkV at h
  split at h
  · cases h
  · rename_i d hd
    refine ⟨d, hd, ?_⟩
    rw [cond_eq_ite] at h
    split at h
    · rename_i ha
      injection h with h
      exact .inl ⟨ha, h.symm⟩
    · rename_i ha
      refine .inr ⟨by simpa using ha, ?_⟩
      split at h
      · cases h
      · rename_i c hc
        injection h with h
        exact ⟨c, rfl, h.symm, fun a b l e => hc a b l e⟩
      · cases h
theorem RL.single {c : C U} {vs : List Value} (h : RL P cd M Fz w [c] vs) (hc : ∀ a b l, c ≠ .arr a b l) : ∃ v, vs = [v] ∧ R1 P cd M Fz w c v := by
  have hl : leaves cd [c] = [c] := by cases c <;> first | rfl | exact absurd rfl (hc _ _ _)
  have h2 := h.2.1
  rw [hl] at h2
  match vs, h2 with
  | [v], _ => exact ⟨v, rfl, h.2.2 0 c v (by rw [hl]; rfl) rfl⟩
/-- a variable is loaded -/
theorem load_var {t k o : Nat} {cs : List (C U)} {v : V U} {vs : List Value} (hm : mkV P t cs = some v) (hn : vs.length = P.cellsOf t) (hr : RL P cd M Fz w cs vs)
    (h : ∀ (j : Nat) x, vs[j]? = some x → w.cell? (at0 k (o + j)) = some x) : ∃ x, (loadVar t (at0 k o)).run P w = .ok x w ∧ RV P cd M Fz w v x := by
  obtain ⟨d, hd, ⟨ha, rfl⟩ | ⟨ha, c, rfl, rfl, hc⟩⟩ := mkV_ok hm
  · refine ⟨.agg vs.toArray, ?_, vs.toArray, rfl, by simpa using hr⟩
    simp only [loadVar, Sem.run_bind, run_agg hd, Result.andThen, ha, if_true, run_size hd, load_cells vs hn h]
    rfl
  · obtain ⟨x, rfl, hx⟩ := RL.single hr hc
    refine ⟨x, ?_, hx⟩
    have hcell := h 0 x rfl
    rw [Nat.add_zero] at hcell
    simp only [loadVar, Sem.run_bind, run_agg hd, Result.andThen, ha, run_load]
    simp [hcell]
/-- a part of a struct's or an array's value -/
theorem part_ok (ok : CdOk P cd) {t o : Nat} {cs r : List (C U)} {v : V U} {a : Array Value} (hr : RL P cd M Fz w cs a.toList) (hc : cutC P cs o (P.cellsOf t) = some r) (hm : mkV P t r = some v) :
    ∃ x, (part t a o).run P w = .ok x w ∧ RV P cd M Fz w v x := by
  obtain ⟨h1, h2⟩ := hr.cut ok hc
  have hl : ((a.toList.drop o).take (P.cellsOf t)).length = P.cellsOf t := by simp; simp at h2; omega
  obtain ⟨d, hd, ⟨ha, rfl⟩ | ⟨ha, c, rfl, rfl, hk⟩⟩ := mkV_ok hm
  · refine ⟨.agg (a.extract o (o + P.cellsOf t)), ?_, _, rfl, ?_⟩
    · simp only [part, Sem.run_bind, run_agg hd, Result.andThen, ha, if_true, run_size hd]
      rfl
    · have : (a.extract o (o + P.cellsOf t)).toList = (a.toList.drop o).take (P.cellsOf t) := by simp [Array.toList_extract, List.extract_eq_take_drop]
      rw [this]
      exact h1
  · obtain ⟨x, hx, hx'⟩ := RL.single h1 hk
    refine ⟨x, ?_, hx'⟩
    have hcell : a[o]? = some x := by
      have : ((a.toList.drop o).take (P.cellsOf t))[0]? = some x := by rw [hx]; rfl
      rw [List.getElem?_take] at this
      split at this
      · simpa using this
      · cases this
    simp only [part, Sem.run_bind, run_agg hd, Result.andThen, ha]
    simp [hcell]
end
end Go.Ab
