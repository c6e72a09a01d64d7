/- Loads, fields' addresses, slices of slices, conversions, lengths. -/
import Derived.Test.YtjhibcebipjbcaaAbOps4
set_option linter.unusedSimpArgs false
namespace Go.Ab
variable {U : Nat → Type}
section
variable {P : Program} {cd : Cd U} {M M' : Mp} {Fz Fz' : Nat → Prop} {w w' : World}

theorem fieldAt_run {t f : Nat} {fs : Array Field} {f' : Field} {td : TypeDesc} (hu : P.underlying t = some (.struct fs)) (hf : fs[f]? = some f') (ht : P.underlying f'.type = some td) (hz : P.cellsOf f'.type ≠ 0) (k o : Nat) :
    (Instr.fieldAt t (.pointer (some (at0 k o))) f).run P w = .ok (.pointer (some (at0 k (o + f'.offset)))) w := by
  simp only [Instr.fieldAt, Sem.run_bind, run_underlying hu, Result.andThen, hf, Instr.sureAddr, Sem.run_pure, fieldPlace, run_size ht, if_neg hz, add0]
theorem field_addr {t f q : Nat} (h : fieldAd P t f = some q) : ∃ fs f', P.underlying t = some (.struct fs) ∧ fs[f]? = some f' ∧ (∃ td, P.underlying f'.type = some td) ∧ P.cellsOf f'.type ≠ 0 ∧ f'.offset = q := by
  unfold fieldAd at h
  split at h
  · rename_i q' tf hq
    obtain ⟨fs, f', hu, hf, rfl, rfl⟩ := field_off hq
    rw [cond_eq_ite] at h
    split at h
    · rename_i hc
      simp only [Bool.and_eq_true, Bool.not_eq_true'] at hc
      injection h with h
      exact ⟨fs, f', hu, hf, Option.isSome_iff_exists.1 hc.1, fun e => by rw [e] at hc; simp at hc, h⟩
    · cases h
  · cases h
theorem fieldAddr_ok {hp : List (Blk U)} {id : Nat} (h : HR P cd M Fz hp w) (t f : Nat) {x : V U} {vx : Value} (hx : RV P cd M Fz w x vx) : ValOk P cd M Fz w hp id (Instr.fieldAt t vx f) (fieldAddrK P t f x) := by
  unfold fieldAddrK
  split
  · split
    · rename_i b o _ q hq
      obtain ⟨fs, f', hu, hf, ⟨td, htd⟩, hz, rfl⟩ := field_addr hq
      cases hx with
      | ptr _ _ k hm => exact .pur h (.one (fieldAt_run hu hf htd hz k o) (.ptr b _ k hm))
    · exact .fail
  · split
    · rename_i b v i s _ q hq
      obtain ⟨fs, f', hu, hf, ⟨td, htd⟩, hz, rfl⟩ := field_addr hq
      refine .lod h fun blk hb => ?_
      cases blk with
      | dead => exact .fail
      | cells cs => exact .fail
      | row te v' l =>
        simp only [cond_eq_ite]
        split
        · rename_i hc
          obtain rfl := Nat.eq_of_beq_eq_true hc
          cases hx with
          | elp _ _ _ _ pos t' ver len cap _ hm hle hsc hv =>
            obtain ⟨rfl, rfl, rfl, hpos⟩ := h.row_at hb hm
            obtain ⟨hi, k, rfl, rfl⟩ := hv rfl
            refine .one (fieldAt_run hu hf htd hz k _) ?_
            exact .elp b _ i (s + f'.offset) _ _ _ _ cap _ hm (Nat.le_refl _) rfl fun _ => ⟨hi, k, rfl, by rw [Nat.add_assoc]⟩
        · exact .fail
    · exact .fail
  · split
    · rename_i te x s _ q hq
      obtain ⟨fs, f', hu, hf, ⟨td, htd⟩, hz, rfl⟩ := field_addr hq
      cases hx with
      | xp _ _ _ k o g h1 h2 h3 =>
        refine .pur h (.one (fieldAt_run hu hf htd hz k _) ?_)
        rw [Nat.add_assoc]
        exact .xp te x (s + f'.offset) k o g h1 h2 h3
    · exact .fail
  · split
    · rename_i b o te i s _ q hq
      obtain ⟨fs, f', hu, hf, ⟨td, htd⟩, hz, rfl⟩ := field_addr hq
      cases hx with
      | ap _ _ _ _ _ k hm =>
        refine .pur h (.one (fieldAt_run hu hf htd hz k _) ?_)
        rw [Nat.add_assoc]
        exact .ap b o te i (s + f'.offset) k hm
    · exact .fail
  · exact .fail

/-! ### loads -/
/-- an element's cells -/
theorem enc_plain_leaves (ok : CdOk P cd) (t : Nat) (x : U t) : leaves cd (cd.enc t x) = cd.enc t x :=
  leaves_plain fun c hc a b l e => by
    subst e
    have := ok.plain t x _ hc
    simp [plainC] at this
theorem enc_okA (ok : CdOk P cd) (t : Nat) (x : U t) : okA (cd.enc t x) := fun a n l hm => by
  have := ok.plain t x _ hm
  simp [plainC] at this
/-- a part of an element is loaded -/
theorem partE_ok (ok : CdOk P cd) {t te sub k o : Nat} {x : U te} (f : Nat → Value) (hc : ∀ (j : Nat) c, (cd.enc te x)[j]? = some c → w.cell? (at0 k (o + j)) = some (f j))
    (hr : ∀ (j : Nat) c, (cd.enc te x)[j]? = some c → R1 P cd M Fz w c (f j)) : PurOk P cd M Fz w (loadVar t (at0 k (o + sub))) (partE P cd t te x sub) := by
  unfold partE
  split
  · rename_i cs hcs
    split
    · rename_i v hv
      have hl := cutC_ok ok (enc_okA ok te x) hcs
      rw [enc_plain_leaves ok] at hl
      have hlen := ok.len te x
      have hvs : ((List.range (P.cellsOf t)).map fun j => f (sub + j)).length = P.cellsOf t := by simp
      have hrl : RL P cd M Fz w cs ((List.range (P.cellsOf t)).map fun j => f (sub + j)) := by
        refine ⟨hl.2.1, ?_, ?_⟩
        · rw [hl.1]; simp; omega
        · intro j c v h1 h2
          rw [hl.1, List.getElem?_take] at h1
          split at h1
          · rename_i hj
            rw [List.getElem?_drop] at h1
            rw [List.getElem?_map, List.getElem?_range hj] at h2
            simp only [Option.map_some, Option.some.injEq] at h2
            subst h2
            exact hr _ c h1
          · cases h1
      have hce : ∀ (j : Nat) v, ((List.range (P.cellsOf t)).map fun j => f (sub + j))[j]? = some v → w.cell? (at0 k (o + sub + j)) = some v := by
        intro j v hj
        rw [List.getElem?_map] at hj
        by_cases hlt : j < P.cellsOf t
        · rw [List.getElem?_range hlt] at hj
          simp only [Option.map_some, Option.some.injEq] at hj
          subst hj
          have hlt2 : sub + j < (cd.enc te x).length := by omega
          have := hc (sub + j) _ (List.getElem?_eq_getElem hlt2)
          rwa [← Nat.add_assoc] at this
        · rw [List.getElem?_eq_none (by simp; omega)] at hj
          cases hj
      obtain ⟨y, h1, h2⟩ := load_var hv hvs hrl hce
      exact .leaf h1 h2
    · exact .fail
  · exact .fail
theorem RowOk.elem (ok : CdOk P cd) {t k cap : Nat} {l : List (U t)} {cur : Array Value} (r : RowOk P cd M Fz w t l cap k cur) {i : Nat} {x : U t} (hx : l[i]? = some x) :
    ∃ f : Nat → Value, (∀ (j : Nat) c, (cd.enc t x)[j]? = some c → w.cell? (at0 k (i * P.cellsOf t + j)) = some (f j)) ∧ (∀ (j : Nat) c, (cd.enc t x)[j]? = some c → R1 P cd M Fz w c (f j)) := by
  refine ⟨fun j => cur.getD (i * P.cellsOf t + j) undef, fun j c hj => ?_, fun j c hj => ?_⟩
  · obtain ⟨v, h1, h2⟩ := r.cells _ c (elem_at ok hx j c hj)
    simp only [cell_at r.heap, h1, Array.getD_eq_getD_getElem?, Option.getD_some]
  · obtain ⟨v, h1, h2⟩ := r.cells _ c (elem_at ok hx j c hj)
    simp only [Array.getD_eq_getD_getElem?, h1, Option.getD_some]
    exact h2
theorem manyOf_ok {t te m : Nat} (h : manyOf P t te = some m) : ∃ n e, P.underlying t = some (.array n e) ∧ leafOf P 9 t = (te, m) ∧ P.cellsOf t = m * P.cellsOf te := by
  unfold manyOf at h
  split at h
  · rename_i n e hu
    rw [cond_eq_ite] at h
    split at h
    · rename_i hc
      simp only [Bool.and_eq_true] at hc
      injection h with h
      have h1 := Nat.eq_of_beq_eq_true hc.2
      have h2 := leaf_cells 9 t hc.1
      rw [h1, h] at h2
      exact ⟨n, e, hu, by rw [← h1, ← h], h2⟩
    · cases h
  · cases h
/-- the cells of a packed array within a variable -/
theorem packed_at (ok : CdOk P cd) {cs : List (C U)} {arr : Array Value} (hr : RL P cd M Fz w cs arr.toList) {o te n : Nat} {l : List (U te)} (ha : atC P cs o = some (.arr te n l)) :
    RL P cd M Fz w [.arr te n l] (arr.extract o (o + n * P.cellsOf te)).toList ∧ l.length = n ∧ o + n * P.cellsOf te ≤ arr.size := by
  obtain ⟨h1, h2, h3⟩ := atC_ok ok hr.1 ha
  refine ⟨?_, h2 te n l (by simp), ?_⟩
  · refine hr.of_leaves o (n * P.cellsOf te) h2 ?_ (extract_toList ..)
    rw [show szC P (C.arr te n l) = n * P.cellsOf te from rfl] at h1
    rw [h1]
    simp [leaves]
  · rw [← hr.2.1] at h3
    simpa [szC] using h3
theorem RL.sub (ok : CdOk P cd) {te m n : Nat} {a : List (U te)} {vs : Array Value} (h : RL P cd M Fz w [.arr te n a] vs.toList) (i : Nat) (hi : i + m ≤ a.length) :
    RL P cd M Fz w [.arr te m ((a.drop i).take m)] (vs.extract (i * P.cellsOf te) (i * P.cellsOf te + m * P.cellsOf te)).toList := by
  refine h.of_leaves (i * P.cellsOf te) (m * P.cellsOf te) ?_ ?_ (extract_toList ..)
  · intro t k l hm
    simp at hm
    obtain ⟨rfl, rfl, hm⟩ := hm
    have := eq_of_heq hm
    subst this
    simp
    omega
  · rw [leaves_arr, leaves_arr, flat_chunk ok]
theorem load_run {t k o : Nat} : (Instr.loadAt t (.pointer (some (at0 k o)))).run P w = (loadVar t (at0 k o)).run P w := by
  simp only [Instr.loadAt, Instr.sureAddr, Sem.run_bind, Sem.run_pure, Result.andThen]
theorem load_ok (ok : CdOk P cd) {hp : List (Blk U)} {id : Nat} (h : HR P cd M Fz hp w) (t : Nat) {x : V U} {vx : Value} (hx : RV P cd M Fz w x vx) : ValOk P cd M Fz w hp id (Instr.loadAt t vx) (loadK P cd t x) := by
  unfold loadK
  split
  · rename_i b o
    refine .lod h fun blk hb => ?_
    cases blk with
    | dead => exact .fail
    | row te v' l => exact .fail
    | cells cs =>
      simp only []
      split
      · rename_i r hr
        split
        · rename_i v hv
          cases hx with
          | ptr _ _ k hm =>
            obtain ⟨arr, e, hh, hrl⟩ := h.cells_at hb hm
            obtain ⟨h1, h2⟩ := hrl.cut ok hr
            have hl : ((arr.toList.drop o).take (P.cellsOf t)).length = P.cellsOf t := by simp; simp at h2; omega
            have hce : ∀ (j : Nat) y, ((arr.toList.drop o).take (P.cellsOf t))[j]? = some y → w.cell? (at0 k (o + j)) = some y := by
              intro j y hj
              rw [cell_at hh]
              rw [List.getElem?_take] at hj
              split at hj
              · rw [List.getElem?_drop] at hj
                simpa using hj
              · cases hj
            obtain ⟨y, h3, h4⟩ := load_var hv hl h1 hce
            refine .leaf (v := y) ?_ h4
            rw [load_run]
            exact h3
        · exact .fail
      · exact .fail
  · rename_i b v i sub
    refine .lod h fun blk hb => ?_
    cases blk with
    | dead => exact .fail
    | cells cs => exact .fail
    | row te v' l =>
      simp only [cond_eq_ite]
      split
      · rename_i hc
        obtain rfl := Nat.eq_of_beq_eq_true hc
        refine .opt fun y hy => ?_
        cases hx with
        | elp _ _ _ _ pos t' ver len cap _ hm hle hsc hv =>
          obtain ⟨rfl, rfl, rfl, hpos⟩ := h.row_at hb hm
          obtain ⟨hi, k, rfl, rfl⟩ := hv rfl
          obtain ⟨cur, r⟩ := hpos
          obtain ⟨f, h1, h2⟩ := r.elem ok hy
          have := partE_ok ok (t := t) (sub := sub) (k := k) f h1 h2
          intro d hd
          obtain ⟨z, hz⟩ := this d hd
          refine ⟨z, ?_, hz.2⟩
          simp only [Instr.loadAt, Instr.sureAddr, Sem.run_bind, Sem.run_pure, Result.andThen]
          exact hz.1
      · exact .fail
  · rename_i te x sub
    refine .pur h ?_
    cases hx with
    | xp _ _ _ k o f h1 h2 h3 =>
      have := partE_ok ok (t := t) (sub := sub) (k := k) f h2 h3
      intro d hd
      obtain ⟨z, hz⟩ := this d hd
      refine ⟨z, ?_, hz.2⟩
      simp only [Instr.loadAt, Instr.sureAddr, Sem.run_bind, Sem.run_pure, Result.andThen]
      exact hz.1
  · rename_i b o te i sub
    refine .lod h fun blk hb => ?_
    cases blk with
    | dead => exact .fail
    | row te v' l => exact .fail
    | cells cs =>
      simp only []
      split
      · rename_i t' n l hat
        rw [cond_eq_ite]
        split
        · rename_i hc
          obtain rfl := Nat.eq_of_beq_eq_true hc
          cases hx with
          | ap _ _ _ _ _ k hm =>
            obtain ⟨arr, e, hh, hrl⟩ := h.cells_at hb hm
            obtain ⟨hp1, hp2, hp3⟩ := packed_at ok hrl hat
            split
            · rename_i m hmo
              rw [cond_eq_ite]
              split
              · rename_i hs0
                obtain rfl := Nat.eq_of_beq_eq_true hs0
                obtain ⟨n', e', hu, hlf, hce⟩ := manyOf_ok hmo
                refine .ite (fun hle => ?_) fun _ => .fail
                have hle := of_decide_eq_true hle
                have hs := hp1.sub ok i hle
                have hag : isAggB P t = true := by simp [isAggB, hu]
                have hsz : ((arr.extract o (o + n * P.cellsOf t')).extract (i * P.cellsOf t') (i * P.cellsOf t' + m * P.cellsOf t')).toList.length = P.cellsOf t := by
                  have := hs.2.1
                  rw [leaves_arr, flat_len ok] at this
                  rw [this, hce, List.length_take, List.length_drop, Nat.min_eq_left (by omega)]
                have hcell : ∀ (j : Nat) y, ((arr.extract o (o + n * P.cellsOf t')).extract (i * P.cellsOf t') (i * P.cellsOf t' + m * P.cellsOf t')).toList[j]? = some y → w.cell? (at0 k (o + i * P.cellsOf t' + j)) = some y := by
                  intro j y hj
                  rw [cell_at hh]
                  simp only [Array.getElem?_toList, Array.getElem?_extract] at hj
                  split at hj
                  · split at hj
                    · rw [← Nat.add_assoc] at hj; exact hj
                    · cases hj
                  · cases hj
                obtain ⟨y, h3, h4⟩ := load_var (v := .agg [.arr t' m ((l.drop i).take m)]) (by simp [mkV, hu, hag]) hsz hs hcell
                refine .leaf (v := y) ?_ h4
                rw [Nat.add_zero, load_run]
                exact h3
              · exact .fail
            · refine .opt fun y hy => ?_
              have := partE_ok (w := w) (M := M) (Fz := Fz) ok (t := t) (sub := sub) (k := k) (o := o + i * P.cellsOf t') (x := y) (fun j => arr.getD (o + i * P.cellsOf t' + j) undef) ?_ ?_
              · intro d hd
                obtain ⟨z, hz⟩ := this d hd
                exact ⟨z, by rw [load_run]; exact hz.1, hz.2⟩
              · intro j c hj
                rw [cell_at hh]
                have hlt : o + i * P.cellsOf t' + j < arr.size := by
                  have h1 := (List.getElem?_eq_some_iff.1 (elem_at ok hy j c hj)).1
                  rw [flat_len ok, hp2] at h1
                  omega
                simp [hlt]
              · intro j c hj
                have he := elem_at ok hy j c hj
                have h1 := (List.getElem?_eq_some_iff.1 he).1
                rw [flat_len ok, hp2] at h1
                have hlt : o + (i * P.cellsOf t' + j) < arr.size := by omega
                refine hp1.2.2 (i * P.cellsOf t' + j) c _ (by rw [leaves_arr]; exact he) ?_
                simp only [Array.getElem?_toList, Array.getElem?_extract]
                rw [if_pos (by omega)]
                have hlt' : o + i * P.cellsOf t' + j < arr.size := by omega
                simp [hlt', ← Nat.add_assoc]
        · exact .fail
      · exact .fail
  · exact .fail

/-! ### elements of strings and of arrays' values -/
theorem toList_get (s : List UInt8) (i : Nat) : (⟨s.toArray⟩ : ByteArray)[i]? = s[i]? := by
  have h1 : (⟨s.toArray⟩ : ByteArray).size = s.length := by simp [ByteArray.size]
  by_cases h : i < s.length
  · rw [List.getElem?_eq_getElem h, getElem?_pos _ i (by rw [h1]; exact h)]
    rfl
  · rw [List.getElem?_eq_none (by omega), getElem?_neg _ i (by rw [h1]; omega)]
theorem part_sub {t o : Nat} {cs : List (C U)} {v : V U} {a : Array Value} (hm : mkV P t cs = some v) (hr : RL P cd M Fz w cs (a.extract o (o + P.cellsOf t)).toList) :
    ∃ x, (part t a o).run P w = .ok x w ∧ RV P cd M Fz w v x := by
  obtain ⟨d, hd, ⟨ha, rfl⟩ | ⟨ha, c, rfl, rfl, hk⟩⟩ := mkV_ok hm
  · refine ⟨.agg (a.extract o (o + P.cellsOf t)), ?_, _, rfl, hr⟩
    simp only [part, Sem.run_bind, run_agg hd, Result.andThen, ha, if_true, run_size hd]
    rfl
  · obtain ⟨x, hx, hx'⟩ := RL.single hr hk
    refine ⟨x, ?_, hx'⟩
    have hcell : a[o]? = some x := by
      have : (a.extract o (o + P.cellsOf t)).toList[0]? = some x := by rw [hx]; rfl
      simp only [Array.getElem?_toList, Array.getElem?_extract] at this
      split at this
      · simpa using this
      · cases this
    simp only [part, Sem.run_bind, run_agg hd, Result.andThen, ha]
    simp [hcell]
theorem index_ok (ok : CdOk P cd) (t : Nat) {x i : V U} {vx vi : Value} (hx : RV P cd M Fz w x vx) (hi : RV P cd M Fz w i vi) : ∃ tr, indexK P cd t x i = .pur tr ∧ PurOk P cd M Fz w (Instr.index t vx vi) tr := by
  unfold indexK
  split
  · rename_i s k i
    obtain rfl := R1.int_inv hi
    obtain rfl := R1.str_inv hx
    refine ⟨_, rfl, ?_⟩
    split
    · rename_i hu
      refine elemT_ok fun h0 y hy => .one (v := .int .u8 y.toNat) ?_ (.int _ _)
      simp only [Instr.index, asIntOf, Sem.run_bind, Sem.run_pure, Result.andThen, run_underlying hu, if_pos h0, toList_get, hy]
    · exact .fail
  · rename_i te m l k i
    obtain rfl := R1.int_inv hi
    obtain ⟨a, rfl, ra⟩ := hx
    split
    · rename_i n e hu
      have hm : l.length = m := ra.1 te m l (by simp)
      have hsz : a.size = l.length * P.cellsOf te := by
        have := ra.2.1
        rw [leaves_arr, flat_len ok] at this
        simpa using this
      rw [cond_eq_ite]
      split
      · rename_i hok
        obtain ⟨⟨td, htd⟩, hce, hae⟩ := arrOk_elem hok hu
        refine ⟨_, rfl, ?_⟩
        split
        · rename_i m' hmo
          obtain ⟨n', e', hu', hlf, hce'⟩ := manyOf_ok hmo
          refine .ite (fun h0 => .ite (fun h1 => .ite (fun h2 => ?_) fun _ => .fail) fun _ => .fail) fun _ => .fail
          have h0 := of_decide_eq_true h0
          have h1 := of_decide_eq_true h1
          have h2 := of_decide_eq_true h2
          have hs := ra.sub ok (m := m') (i.toNat * m') h2
          have hag : isAggB P e = true := by simp [isAggB, hu']
          refine .leaf (v := .agg (a.extract (i.toNat * m' * P.cellsOf te) (i.toNat * m' * P.cellsOf te + m' * P.cellsOf te))) ?_ ⟨_, rfl, hs⟩
          simp only [Instr.index, asIntOf, Sem.run_bind, Sem.run_pure, Result.andThen, run_underlying hu, if_pos (And.intro h0 h1), part, run_agg htd, run_size htd, hag, if_true, hce', Nat.mul_assoc]
        · refine .ite (fun h0 => .ite (fun h1 => ?_) fun _ => .fail) fun _ => .fail
          have h0 := of_decide_eq_true h0
          have h1 := of_decide_eq_true h1
          rw [cond_eq_ite]
          split
          · rename_i hsz'
            have hsz' := Nat.eq_of_beq_eq_true hsz'
            refine .opt fun y hy => ?_
            have hcut : ∀ (j : Nat) c, (cd.enc te y)[j]? = some c → ∃ v, a[i.toNat * P.cellsOf te + j]? = some v ∧ R1 P cd M Fz w c v := by
              intro j c hj
              have he := elem_at ok hy j c hj
              have hlt := (List.getElem?_eq_some_iff.1 he).1
              rw [flat_len ok] at hlt
              have hlt' : i.toNat * P.cellsOf te + j < a.size := by omega
              exact ⟨_, Array.getElem?_eq_getElem hlt', ra.2.2 _ c _ (by rw [leaves_arr]; exact he) (by simp [hlt'])⟩
            have hlt : i.toNat < l.length := (List.getElem?_eq_some_iff.1 hy).1
            have hbound : i.toNat * P.cellsOf te + P.cellsOf te ≤ a.size := by
              rw [hsz, ← Nat.succ_mul]
              exact Nat.mul_le_mul_right _ hlt
            have hrl : RL P cd M Fz w (cd.enc te y) (a.extract (i.toNat * P.cellsOf te) (i.toNat * P.cellsOf te + P.cellsOf te)).toList := by
              refine ⟨enc_okA ok te y, ?_, ?_⟩
              · rw [enc_plain_leaves ok, ok.len]; simp; omega
              · intro j c v h1 h2
                rw [enc_plain_leaves ok] at h1
                obtain ⟨v', h3, h4⟩ := hcut j c h1
                simp only [Array.getElem?_toList, Array.getElem?_extract] at h2
                split at h2
                · rw [h3] at h2; injection h2 with h2; subst h2; exact h4
                · cases h2
            unfold partE
            split
            · rename_i cs hcs
              split
              · rename_i v hv
                have hcc := (hrl.cut ok hcs).1
                rw [List.drop_zero, List.take_of_length_le (by simp; omega)] at hcc
                rw [hsz'] at hcc
                obtain ⟨z, h3, h4⟩ := part_sub hv hcc
                refine .leaf (v := z) ?_ h4
                simp only [Instr.index, asIntOf, Sem.run_bind, Sem.run_pure, Result.andThen, run_underlying hu, if_pos (And.intro h0 h1), run_size htd]
                exact h3
              · exact .fail
            · exact .fail
          · exact .fail
      · exact ⟨_, rfl, .fail⟩
    · exact ⟨_, rfl, .fail⟩
  · exact ⟨_, rfl, .fail⟩
end
end Go.Ab
