/- Looking a number up in a map that is taken for good. -/
import Derived.Test.YtjhibcebipjbcaaAbOps12
import Derived.MapKept
set_option linter.unusedSimpArgs false
namespace Go.Ab
variable {U : Nat → Type}
section
variable {P : Program} {cd : Cd U} {M M' M2 : Mp} {Fz Fz' : Nat → Prop} {w w' : World}
theorem memI_iff (l : List Int) (n : Int) : memI l n = true ↔ n ∈ l := by
  induction l with
  | nil => simp [memI]
  | cons x l ih =>
    simp only [memI, cond_eq_ite, List.mem_cons]
    by_cases h : x = n
    · simp [h]
    · have h' : ¬ n = x := fun e => h e.symm
      simp [h, h', ih]
theorem mapIB_ok {t : Nat} (h : mapIB P t = true) : ∃ k e i, P.underlying t = some (.map k e) ∧ P.underlying k = some (.int .i64) ∧ P.info? e = some i ∧ i.zero = some (.bool false) := by
  unfold mapIB at h
  split at h
  · rename_i k e ht
    split at h
    · rename_i i hk hi
      split at h
      · rename_i hz
        exact ⟨k, e, i, ht, hk, hi, hz⟩
      · cases h
    · cases h
  · cases h
theorem look_ok (t : Nat) {x y : V U} {vx vy : Value} (hx : RV P cd M Fz w x vx) (hy : RV P cd M Fz w y vy) {k : K U} (hk : lookK P t x y = k) : ∃ tr, k = .pur tr ∧ PurOk P cd M Fz w (Instr.lookup t vx vy false) tr := by
  subst hk
  unfold lookK
  split
  · rename_i l n
    rw [cond_eq_ite]
    split
    · rename_i hm
      obtain ⟨kt, et, i, ht, hkt, hi, hz⟩ := mapIB_ok hm
      refine ⟨_, rfl, ?_⟩
      have hx : R1 P cd M Fz w (.mp l) vx := hx
      have hy : R1 P cd M Fz w (.int .i64 n) vy := hy
      cases hy
      cases hx with
      | mp _ r es ck h1 h2 h3 h4 =>
        have hik : MapKept.IsKey (.int .i64) (.int .i64 n) := rfl
        have hks : ∀ e ∈ es.toList, MapKept.IsKey (.int .i64) e.key := fun e he => by
          obtain ⟨m, hm, _⟩ := h3 e (by simpa using he)
          rw [hm]
          exact rfl
        have hzv : ∀ w, (zeroValue et).run P w = .ok (.bool false) w := fun w => by simp [zeroValue, typeInfo, hi, hz]
        refine .one (v := .bool (memI l n)) ?_ (.bool _)
        rcases MapKept.findNow_spec hik es.toList 0 hks with ⟨k1, k2⟩ | ⟨j, e, k1, k2, k3⟩
        · have hn : memI l n = false := by
            rw [Bool.eq_false_iff]
            intro hh
            obtain ⟨e, he, hek⟩ := (h4 n).1 ((memI_iff l n).1 hh)
            exact k2 e (by simpa using he) hek
          simp [Instr.lookup, run_underlying ht, MapKept.run_getObj_map h2, MapKept.run_checkKey hkt hik, MapKept.run_findKey hkt k1, hzv, Result.andThen, hn]
        · have hmem : e ∈ es := by
            have := List.mem_of_getElem? k2
            simpa using this
          have hn : memI l n = true := (memI_iff l n).2 ((h4 n).2 ⟨e, hmem, k3⟩)
          obtain ⟨m, _, hv⟩ := h3 e hmem
          simp [Instr.lookup, run_underlying ht, MapKept.run_getObj_map h2, MapKept.run_checkKey hkt hik, MapKept.run_findKey hkt k1, Result.andThen, hn, hv]
    · exact ⟨_, rfl, fun d hd => by cases hd⟩
  · exact ⟨_, rfl, fun d hd => by cases hd⟩
end
end Go.Ab
