/- Clearing a part of a row. -/
import Derived.Test.YtjhibcebipjbcaaAbOps10
set_option linter.unusedSimpArgs false
namespace Go.Ab
variable {U : Nat → Type}
section
variable {P : Program} {cd : Cd U} {M M' : Mp} {Fz Fz' : Nat → Prop} {w w' : World}
theorem zero_cells (ok : CdOk P cd) {e : Nat} {x : U e} {z : Value} (hzs : z.cells.size = P.cellsOf e) (hz : ∀ M Fz w (j : Nat) c v, (cd.enc e x)[j]? = some c → z.cells[j]? = some v → R1 P cd M Fz w c v) (n : Nat) :
    (Builtin.zeroCells z.cells n).toList.length = n * P.cellsOf e ∧ ∀ (j : Nat) c, ((List.replicate n x).flatMap (cd.enc e))[j]? = some c → ∃ v, (Builtin.zeroCells z.cells n).toList[j]? = some v ∧ R1 P cd M Fz w c v := by
  refine ⟨by simp [Builtin.zeroCells, hzs], fun j c hj => ?_⟩
  have hl : (List.replicate n x).length = n := by simp
  have hjl := (List.getElem?_eq_some_iff.1 hj).1
  rw [flat_len ok, hl] at hjl
  have hpos : 0 < P.cellsOf e := by
    rcases Nat.eq_zero_or_pos (P.cellsOf e) with h0 | h0
    · rw [h0] at hjl; omega
    · exact h0
  have hmod : j % P.cellsOf e < z.cells.size := by rw [hzs]; exact Nat.mod_lt _ hpos
  refine ⟨z.cells[j % P.cellsOf e]'hmod, ?_, ?_⟩
  · rw [Array.getElem?_toList]
    simp only [Builtin.zeroCells]
    rw [Array.getElem?_map, Array.getElem?_range, hzs, if_pos hjl]
    simp only [Option.map_some]
    rw [getElem!_pos z.cells (j % P.cellsOf e) hmod]
  · refine hz M Fz w (j % P.cellsOf e) c _ ?_ (Array.getElem?_eq_getElem hmod)
    have hq : j / P.cellsOf e < n := by
      rw [Nat.div_lt_iff_lt_mul hpos]; exact hjl
    have he := elem_at (cd := cd) ok (l := List.replicate n x) (i := j / P.cellsOf e) (x := x) (by simp [hq]) (j % P.cellsOf e)
    have hsome : j % P.cellsOf e < (cd.enc e x).length := by rw [ok.len]; exact Nat.mod_lt _ hpos
    have h5 := he _ (List.getElem?_eq_getElem hsome)
    rw [show j / P.cellsOf e * P.cellsOf e + j % P.cellsOf e = j by rw [Nat.mul_comm]; exact Nat.div_add_mod j _] at h5
    rw [List.getElem?_eq_getElem hsome]
    rw [hj] at h5
    exact h5.symm
theorem clear_ok (ok : CdOk P cd) {hp : List (Blk U)} (h : HR P cd M Fz hp w) {id : Nat} (t ty : Nat) {x : V U} {vx : Value} (hx : RV P cd M Fz w x vx) :
    ValOk P cd M Fz w hp id (Builtin.clear_ #[t] ty #[vx]) (clearK P cd t x) := by
  unfold clearK
  split
  case h_2 => exact .fail
  rename_i e ht
  split
  case h_2 => exact .fail
  rename_i z hz
  obtain ⟨i, zv, hi, hzi, hzs, hzr⟩ := zeroE_ok ok hz
  intro d hp' hd
  simp only [K.sem] at hd
  split at hd
  · rename_i b v lo n
    rw [nth_eq] at hd
    split at hd
    · rename_i t' v' l hbb
      split at hd
      · rename_i hte
        subst hte
        rw [cond_eq_ite] at hd
        split at hd
        · rename_i hc
          obtain rfl := Nat.eq_of_beq_eq_true hc
          simp only [Tree.run, Option.some.injEq, Prod.mk.injEq] at hd
          obtain ⟨rfl, rfl⟩ := hd
          rw [setN_eq]
          cases hx with
          | own _ _ _ _ pos t'' ver len cap _ hmm hle hsc hval =>
            obtain ⟨rfl, rfl, rfl, hpos⟩ := h.row_at hbb hmm
            obtain ⟨hln, a, c, rfl, hnc, ha⟩ := hval rfl
            have hzv : ∀ w, (zeroValue t'').run P w = .ok zv w := fun w => by simp [zeroValue, typeInfo, hi, hzi]
            by_cases hn : n = 0
            · subst hn
              have hself : hp.set b (.row t'' ver (l.take lo ++ List.replicate 0 z ++ l.drop (lo + 0))) = hp := List.ext_getElem? fun j => by
                rw [List.getElem?_set]
                split
                · rename_i e; subst e
                  rw [if_pos (List.getElem?_eq_some_iff.1 hbb).1, hbb]
                  simp
                · rfl
              refine ⟨.tuple #[], w, ?_, ?_⟩
              · cases a <;> simp [Builtin.clear_, run_underlying ht]
              · rw [hself]; exact .same h (R1.unk _)
            · obtain ⟨k, rfl, rfl⟩ := ha (by omega)
              obtain ⟨cur, r⟩ := hpos
              obtain ⟨zl, zc⟩ := zero_cells (M := M) (Fz := Fz) (w := w) ok hzs hzr n
              have hone : ∀ u ∈ (Builtin.zeroCells zv.cells n).toList, u.oneCell' = true := by
                intro u hu
                obtain ⟨j, hj⟩ := List.mem_iff_getElem?.1 hu
                have hjl := (List.getElem?_eq_some_iff.1 hj).1
                rw [zl] at hjl
                have hlen : j < ((List.replicate n z).flatMap (cd.enc t'')).length := by rw [flat_len ok]; simpa using hjl
                have hcj := List.getElem?_eq_getElem hlen
                obtain ⟨u', e1, e2⟩ := zc j _ hcj
                rw [hj] at e1
                injection e1 with e1
                subst e1
                refine e2.scal ?_
                have : plainC (((List.replicate n z).flatMap (cd.enc t''))[j]) = true := by
                  obtain ⟨y, _, hy⟩ := List.mem_flatMap.1 (List.mem_of_getElem? hcj)
                  exact ok.plain _ _ _ hy
                revert this
                generalize ((List.replicate n z).flatMap (cd.enc t''))[j] = cc
                intro hp
                cases cc <;> first | rfl | (simp [plainC] at hp)
              have hfit : lo * P.cellsOf t'' + (Builtin.zeroCells zv.cells n).toList.length ≤ cur.size := by
                rw [zl, r.size, ← Nat.add_mul]
                exact Nat.mul_le_mul_right _ (Nat.le_trans hln r.le)
              have hst := run_storeCells_at P k (lo * P.cellsOf t'') t'' (Builtin.zeroCells zv.cells n).toList 0 cur w r.heap (by simpa using hfit) hone
              rw [Nat.add_zero] at hst
              obtain ⟨m, rfl⟩ : ∃ m, n = m + 1 := ⟨n - 1, by omega⟩
              refine ⟨.tuple #[], w.setRow k (cur.toList.take (lo * P.cellsOf t'') ++ (Builtin.zeroCells zv.cells (m + 1)).toList ++ cur.toList.drop (lo * P.cellsOf t'' + (Builtin.zeroCells zv.cells (m + 1)).toList.length)).toArray, ?_, ?_⟩
              · simp only [Builtin.clear_, run_underlying ht, hzv, Sem.run_bind, Sem.run_pure, Result.andThen, List.getElem?_toArray, List.getElem?_cons_zero]
                have hst2 : (storeCells (at0 k (lo * P.cellsOf t'')) (Builtin.zeroCells zv.cells (m + 1)).toList).run P w = _ := hst
                rw [hst2]
              have hll : (l.take lo ++ List.replicate (m + 1) z ++ l.drop (lo + (m + 1))).length = l.length := by simp; omega
              refine h.inPlace (i := .row (some k) t'' ver l.length cap) (i' := .row (some k) t'' ver l.length cap) hmm rfl rfl (.refl _) (by simp) (fun k' hk' => setRow_other w k k' _ hk') rfl rfl rfl (fun he hf => ?_) (fun he hf => .unk _)
              refine ⟨some k, cap, by rw [hll]; exact upd_same .., _, ⟨setRow_heap w k cur _ t'' _ r.heap, by rw [hll]; exact r.le, r.max, ?_, fun j c hj => ?_⟩⟩
              · have hlo : (cur.toList.take (lo * P.cellsOf t'')).length = lo * P.cellsOf t'' := by
                  rw [List.length_take, Array.length_toList]
                  exact Nat.min_eq_left (by omega)
                have hct : cur.toList.length = cur.size := Array.length_toList
                rw [List.size_toArray, List.length_append, List.length_append, hlo, List.length_drop, hct, r.size]
                have := r.size
                omega
              · rw [List.getElem?_toArray]
                have hlo : (cur.toList.take (lo * P.cellsOf t'')).length = lo * P.cellsOf t'' := by
                  rw [List.length_take, Array.length_toList]
                  exact Nat.min_eq_left (by omega)
                have hzl2 : ((List.replicate (m + 1) z).flatMap (cd.enc t'')).length = (m + 1) * P.cellsOf t'' := by rw [flat_len ok]; simp
                have htl : ((l.take lo).flatMap (cd.enc t'')).length = lo * P.cellsOf t'' := by rw [flat_len ok, List.length_take, Nat.min_eq_left (by omega)]
                suffices hget : ∃ u, (cur.toList.take (lo * P.cellsOf t'') ++ (Builtin.zeroCells zv.cells (m + 1)).toList ++ cur.toList.drop (lo * P.cellsOf t'' + (Builtin.zeroCells zv.cells (m + 1)).toList.length))[j]? = some u ∧ R1 P cd M Fz w c u by
                  obtain ⟨u, e1, e2⟩ := hget
                  exact ⟨u, e1, e2.mono he hf⟩
                rw [List.flatMap_append, List.flatMap_append] at hj
                rcases Nat.lt_or_ge j (lo * P.cellsOf t'') with h1 | h1
                · rw [List.append_assoc, List.getElem?_append_left (by omega), flat_take ok, List.getElem?_take] at hj
                  rw [List.append_assoc, List.getElem?_append_left (by omega), List.getElem?_take, if_pos h1]
                  rw [if_pos h1] at hj
                  obtain ⟨u, e1, e2⟩ := r.cells j c hj
                  exact ⟨u, by simpa using e1, e2⟩
                · rcases Nat.lt_or_ge j (lo * P.cellsOf t'' + (m + 1) * P.cellsOf t'') with h2 | h2
                  · rw [List.append_assoc, List.getElem?_append_right (by omega), htl, List.getElem?_append_left (by omega)] at hj
                    obtain ⟨u, e1, e2⟩ := zc _ c hj
                    exact ⟨u, by rw [List.append_assoc, List.getElem?_append_right (by omega), hlo, List.getElem?_append_left (by rw [zl]; omega)]; exact e1, e2⟩
                  · rw [List.getElem?_append_right (by rw [List.length_append]; omega), List.length_append, htl, hzl2, flat_drop ok, List.getElem?_drop, show (lo + (m + 1)) * P.cellsOf t'' + (j - (lo * P.cellsOf t'' + (m + 1) * P.cellsOf t'')) = j by rw [Nat.add_mul]; omega] at hj
                    obtain ⟨u, e1, e2⟩ := r.cells j c hj
                    refine ⟨u, ?_, e2⟩
                    rw [List.getElem?_append_right (by rw [List.length_append, zl]; omega), List.length_append, hlo, zl, List.getElem?_drop, show lo * P.cellsOf t'' + (m + 1) * P.cellsOf t'' + (j - (lo * P.cellsOf t'' + (m + 1) * P.cellsOf t'')) = j by omega]
                    simpa using e1
        · cases hd
      · cases hd
    · cases hd
  · cases hd
end
end Go.Ab
