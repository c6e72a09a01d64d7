/- Appending and copying. -/
import Derived.Test.YtjhibcebipjbcaaAbOps9
import Derived.Lib.AppendStr
set_option linter.unusedSimpArgs false
namespace Go.Ab
variable {U : Nat → Type}
section
variable {P : Program} {cd : Cd U} {M M' : Mp} {Fz Fz' : Nat → Prop} {w w' : World}

/-- What is appended or copied: its values. -/
structure Src (P : Program) (cd : Cd U) (M : Mp) (Fz : Nat → Prop) (w : World) (e : Nat) (m : List (U e)) (y : Value) (news : List Value) : Prop where
  len : (Builtin.lenOf y).run P w = .ok m.length w
  size : news.length = m.length * P.cellsOf e
  one : ∀ u ∈ news, u.oneCell' = true
  cells : ∀ (j : Nat) c, (m.flatMap (cd.enc e))[j]? = some c → ∃ v, news[j]? = some v ∧ R1 P cd M Fz w c v
  first : ∀ n w1, n ≤ m.length → w1.heap = w.heap → (Builtin.firstCells (P.cellsOf e) n y).run P w1 = .ok (news.take (n * P.cellsOf e)).toArray w1
theorem flat_scal (ok : CdOk P cd) {e : Nat} {m : List (U e)} {j : Nat} {c : C U} {v : Value} (h : (m.flatMap (cd.enc e))[j]? = some c) (hr : R1 P cd M Fz w c v) : v.oneCell' = true := by
  refine hr.scal ?_
  obtain ⟨x, _, hx⟩ := List.mem_flatMap.1 (List.mem_of_getElem? h)
  have := ok.plain _ x _ hx
  revert this
  cases c <;> simp [plainC, solid]
/-- from cells in a block -/
theorem Src.of_cells (ok : CdOk P cd) {e : Nat} {m : List (U e)} {k o cap : Nat} {f : Nat → Value} (hc : m ≠ [] → ∀ j c, (m.flatMap (cd.enc e))[j]? = some c → w.cell? (at0 k (o + j)) = some (f j))
    (hr : ∀ j c, (m.flatMap (cd.enc e))[j]? = some c → R1 P cd M Fz w c (f j)) (a : Option Addr) (ha : m ≠ [] → a = some (at0 k o)) : Src P cd M Fz w e m (.slice a m.length cap) ((List.range (m.length * P.cellsOf e)).map f) := by
  have hget : ∀ j, j < m.length * P.cellsOf e → ∃ c, (m.flatMap (cd.enc e))[j]? = some c := fun j hj =>
    ⟨_, List.getElem?_eq_getElem (by rw [flat_len ok]; exact hj)⟩
  have hnews : ∀ j, j < m.length * P.cellsOf e → ((List.range (m.length * P.cellsOf e)).map f)[j]? = some (f j) := fun j hj => by simp [hj]
  refine ⟨rfl, by simp, fun u hu => ?_, fun j c hj => ?_, fun n w1 hn hw => ?_⟩
  · obtain ⟨j, hj, rfl⟩ := List.mem_map.1 hu
    obtain ⟨c, hcj⟩ := hget j (List.mem_range.1 hj)
    exact flat_scal ok hcj (hr j c hcj)
  · have hlt : j < m.length * P.cellsOf e := by
      have := (List.getElem?_eq_some_iff.1 hj).1
      rwa [flat_len ok] at this
    exact ⟨f j, hnews j hlt, hr j c hj⟩
  · by_cases hm : m = []
    · subst hm
      simp at hn
      subst hn
      cases a <;> simp [Builtin.firstCells, loadCells, loadCellsFrom]
    · obtain rfl := ha hm
      refine run_firstCells_some w1 (P.cellsOf e) n _ _ _ _ ?_ ?_
      · rw [List.length_take]
        simp [Nat.min_eq_left hn]
      · intro j v hj
        rw [List.getElem?_take] at hj
        split at hj
        · rename_i hlt
          have h2 : j < m.length * P.cellsOf e := Nat.lt_of_lt_of_le hlt (Nat.mul_le_mul_right _ hn)
          rw [hnews j h2] at hj
          injection hj with hj
          subst hj
          obtain ⟨c, hcj⟩ := hget j h2
          have := hc hm j c hcj
          rw [show (at0 k o).add j = at0 k (o + j) by unfold Addr.add at0; split <;> simp_all]
          rw [← this]
          simp [World.cell?, at0, hw]
        · cases hj
theorem src_ok (ok : CdOk P cd) {hp : List (Blk U)} (h : HR P cd M Fz hp w) {e : Nat} {m : List (U e)} {y : V U} {vy : Value} (hy : RV P cd M Fz w y vy) (he : elemsOf cd e hp y = some m) : ∃ news, Src P cd M Fz w e m vy news := by
  unfold elemsOf at he
  split at he
  · rename_i t l full
    split at he
    · rename_i ht
      subst ht
      injection he with he
      subst he
      cases hy with
      | sl _ _ _ a cap f h1 h2 h3 h4 =>
        by_cases hm : l = []
        · subst hm
          exact ⟨_, Src.of_cells ok (k := 0) (o := 0) (f := f) (fun h => absurd rfl h) h4 a (fun h => absurd rfl h)⟩
        · obtain ⟨k, o, rfl, hk, hc⟩ := h3 hm
          exact ⟨_, Src.of_cells ok (fun _ => hc) h4 _ fun _ => rfl⟩
    · cases he
  · injection he with he
    subst he
    cases hy
    exact ⟨_, Src.of_cells ok (m := ([] : List (U e))) (cap := 0) (k := 0) (o := 0) (f := fun _ => undef) (fun h => absurd rfl h) (fun j c h => by simp at h) none (fun h => absurd rfl h)⟩
  · rename_i s
    obtain ⟨h1, h2⟩ := ok.ofBytes e s m he
    cases hy
    have hl := flat_len ok e m
    rw [h2, h1] at hl
    simp only [List.length_map] at hl
    refine ⟨s.map fun b => Value.int .u8 (b.toNat : Int), ⟨?_, by rw [h1]; simpa using hl, ?_, ?_, ?_⟩⟩
    · rw [h1]
      simp [Builtin.lenOf, ByteArray.size]
    · intro u hu
      obtain ⟨b, _, rfl⟩ := List.mem_map.1 hu
      rfl
    · intro j c hj
      rw [h2, List.getElem?_map] at hj
      obtain ⟨b, hb, rfl⟩ := Option.map_eq_some_iff.1 hj
      exact ⟨_, by rw [List.getElem?_map, hb]; rfl, .int _ _⟩
    · intro n w1 hn _
      have hn1 : n * P.cellsOf e = n := by
        rcases Nat.eq_zero_or_pos s.length with h0 | h0
        · have : n = 0 := by omega
          subst this; simp
        · have : P.cellsOf e = 1 := by
            have : s.length * P.cellsOf e = s.length * 1 := by omega
            exact Nat.eq_of_mul_eq_mul_left h0 this
          rw [this, Nat.mul_one]
      rw [hn1]
      simp only [Builtin.firstCells, Sem.run_pure]
      congr 1
      apply Array.ext'
      simp [ByteArray.extract, ByteArray.copySlice, List.map_take]
  · rename_i b v
    rw [nth_eq] at he
    split at he
    · rename_i t v' l hb
      split at he
      · rename_i ht
        subst ht
        rw [cond_eq_ite] at he
        split at he
        · rename_i hv
          obtain rfl := Nat.eq_of_beq_eq_true hv
          injection he with he
          subst he
          cases hy with
          | row _ _ pos t' ver len cap _ hm hle hsc hval =>
            obtain ⟨rfl, rfl, rfl, hpos⟩ := h.row_at hb hm
            have hval := hval rfl
            cases pos with
            | none =>
              obtain ⟨a, rfl⟩ := hval
              have : l = [] := hpos
              subst this
              exact ⟨_, Src.of_cells ok (m := ([] : List (U t'))) (cap := 0) (k := 0) (o := 0) (f := fun _ => undef) (fun h => absurd rfl h) (fun j c h => by simp at h) a (fun h => absurd rfl h)⟩
            | some k =>
              obtain ⟨cur, r⟩ := hpos
              simp only [RowV] at hval
              subst hval
              refine ⟨_, Src.of_cells ok (k := k) (o := 0) (f := fun j => cur.getD j undef) (fun _ j c hj => ?_) (fun j c hj => ?_) _ (fun _ => rfl)⟩
              · obtain ⟨v, h1, h2⟩ := r.cells j c hj
                rw [Nat.zero_add]
                simp [World.cell?, at0, r.heap, h1, Array.getD_eq_getD_getElem?]
              · obtain ⟨v, h1, h2⟩ := r.cells j c hj
                simp only [Array.getD_eq_getD_getElem?, h1, Option.getD_some]
                exact h2
        · cases he
      · cases he
    · cases he
  · rename_i b v lo n
    rw [nth_eq] at he
    split at he
    · rename_i t v' l hb
      split at he
      · rename_i ht
        subst ht
        rw [cond_eq_ite] at he
        split at he
        · rename_i hv
          obtain rfl := Nat.eq_of_beq_eq_true hv
          injection he with he
          subst he
          cases hy with
          | own _ _ _ _ pos t' ver len cap _ hm hle hsc hval =>
            obtain ⟨rfl, rfl, rfl, hpos⟩ := h.row_at hb hm
            obtain ⟨h1, a, c, rfl, h2, h3⟩ := hval rfl
            have hl : ((l.drop lo).take n).length = n := by simp; omega
            rcases Nat.eq_zero_or_pos n with hn | hn
            · subst hn
              have := Src.of_cells (M := M) (Fz := Fz) (w := w) ok (e := t') (m := ([] : List (U t'))) (cap := c) (k := 0) (o := 0) (f := fun _ => undef) (fun h => absurd rfl h) (fun j c h => by simp at h) a (fun h => absurd rfl h)
              exact ⟨_, by simpa using this⟩
            · obtain ⟨k, rfl, rfl⟩ := h3 hn
              obtain ⟨cur, r⟩ := hpos
              have hg : ∀ j c', ((((l.drop lo).take n).flatMap (cd.enc t')))[j]? = some c' → ∃ v, cur[lo * P.cellsOf t' + j]? = some v ∧ R1 P cd M Fz w c' v := by
                intro j c' hj
                rw [flat_take ok, flat_drop ok, List.getElem?_take] at hj
                split at hj
                · rw [List.getElem?_drop] at hj
                  exact r.cells _ _ hj
                · cases hj
              have := Src.of_cells (M := M) (Fz := Fz) (w := w) ok (e := t') (m := (l.drop lo).take n) (cap := c) (k := k) (o := lo * P.cellsOf t') (f := fun j => cur.getD (lo * P.cellsOf t' + j) undef) (fun _ j c hj => by
                obtain ⟨v, h1, h2⟩ := hg j c hj
                simp [World.cell?, at0, r.heap, h1, Array.getD_eq_getD_getElem?]) (fun j c hj => by
                obtain ⟨v, h1, h2⟩ := hg j c hj
                simp only [Array.getD_eq_getD_getElem?, h1, Option.getD_some]
                exact h2) (some (at0 k (lo * P.cellsOf t'))) (fun _ => rfl)
              rw [hl] at this
              exact ⟨_, this⟩
        · cases he
      · cases he
    · cases he
  · cases he
theorem Src.take_all {e : Nat} {m : List (U e)} {y : Value} {news : List Value} (s : Src P cd M Fz w e m y news) : news.take (m.length * P.cellsOf e) = news := List.take_of_length_le (by rw [s.size]; exact Nat.le_refl _)

/-- is the second argument no number -/
theorem srcT_ok {t : Nat} (h : srcT P t = true) : ∃ d, P.underlying t = some d ∧ (∀ k, d ≠ .int k) := by
  unfold srcT at h
  split at h
  · rename_i e he; exact ⟨_, he, fun k hk => by cases hk⟩
  · rename_i he; exact ⟨_, he, fun k hk => by cases hk⟩
  · cases h
theorem run_room {t t2 ty e : Nat} {i : TypeInfo} (ht : P.underlying t = some (.slice e)) (h2 : srcT P t2 = true) (hi : P.info? e = some i) {m : List (U e)} {y : Value} {news : List Value} (s : Src P cd M Fz w e m y news)
    {base : Option Addr} {n cap : Nat} (hroom : n + m.length ≤ cap) {w' : World} (hst : ∀ a, base = some a → (storeCells (a.add (n * i.size)) news).run P w = .ok () w') (hno : base = none → w' = w) :
    (Builtin.append_ #[t, t2] ty #[.slice base n cap, y]).run P w = .ok (.slice base (n + m.length) cap) w' := by
  obtain ⟨d, hd, hk⟩ := srcT_ok h2
  have hc : P.cellsOf e = i.size := by simp [Program.cellsOf, hi]
  have hf := s.first m.length w (Nat.le_refl _) rfl
  rw [s.take_all, hc] at hf
  have hz : (match d with | .int _ => true | _ => false) = false := by
    cases d <;> first | rfl | exact absurd rfl (hk _)
  simp only [Builtin.append_, run_underlying ht, run_underlying hd, sizeOf, typeInfo, hi, run_program, Sem.run_bind, Sem.run_pure, Result.andThen, List.getElem?_toArray, List.getElem?_cons_zero, List.getElem?_cons_succ, hz, s.len, Bool.false_eq_true, if_false, if_true, Bool.not_false, hroom, hf]
  cases base with
  | none => simp [hno rfl, hf]
  | some a =>
    have := hst a rfl
    simp [hf, this]
theorem run_grow {t t2 ty e : Nat} {i : TypeInfo} {z : Value} (ht : P.underlying t = some (.slice e)) (h2 : srcT P t2 = true) (hi : P.info? e = some i) (hz : i.zero = some z) {m : List (U e)} {y : Value} {news : List Value} (s : Src P cd M Fz w e m y news)
    {base : Option Addr} {n cap : Nat} (hgr : cap < n + m.length) {olds : List Value} (ho : (Builtin.firstCells i.size n (.slice base n cap)).run P w.drew = .ok olds.toArray w.drew) (hb : 0 < i.bytes) (hfit : Builtin.nextslicecap (n + m.length) cap * i.bytes ≤ 281474976710656) :
    (Builtin.append_ #[t, t2] ty #[.slice base n cap, y]).run P w = .ok (.slice (some (at0 w.heap.size 0)) (n + m.length) (grownCap w (n + m.length) cap e))
      (w.drew.alloc (.cells (olds ++ news ++ (Builtin.zeroCells z.cells (grownCap w (n + m.length) cap e - (n + m.length))).toList).toArray e)) := by
  obtain ⟨d, hd, hk⟩ := srcT_ok h2
  have hc : P.cellsOf e = i.size := by simp [Program.cellsOf, hi]
  have hf := s.first m.length w.drew (Nat.le_refl _) rfl
  rw [s.take_all, hc] at hf
  have hzz : (match d with | .int _ => true | _ => false) = false := by
    cases d <;> first | rfl | exact absurd rfl (hk _)
  have h48' : ¬ (281474976710656 < Builtin.nextslicecap (n + m.length) cap * i.bytes) := by omega
  simp only [Builtin.append_, run_underlying ht, run_underlying hd, sizeOf, typeInfo, zeroValue, hi, hz, run_program, Sem.run_bind, Sem.run_pure, Result.andThen, List.getElem?_toArray, List.getElem?_cons_zero, List.getElem?_cons_succ, hzz, s.len, Bool.false_eq_true, if_false, if_true, Bool.not_false, show ¬ n + m.length ≤ cap by omega]
  simp [hi, hz, h48', show ¬ i.bytes = 0 by omega, Question.forced, ho, hf, newRow, grownCap, typeInfo, at0]
  congr 2
  apply Array.ext'
  simp [List.append_assoc]
/-- a block is laid anew, or taken as nothing -/
theorem HR.moved {hp : List (Blk U)} (h : HR P cd M Fz hp w) {b : Nat} {i' : Inf} {x' : Blk U} (hlt : b < hp.length) (hle : ∀ j, M b = some j → Inf.Le j i') (hsz : w.heap.size ≤ w'.heap.size)
    (hold : ∀ k, k < w.heap.size → w'.heap[k]? = w.heap[k]?) (hk : ∀ k, i'.blk = some k → k < w'.heap.size ∧ w.heap.size ≤ k) (hos : w'.os = w.os) (htape : w'.tape = w.tape) (hout : w'.output = w.output)
    (hx : Ext M (upd M b (some i')) → Frz Fz w Fz w' → RB P cd (upd M b (some i')) Fz w' b x') {d : D U} {v : Value} (hd : Ext M (upd M b (some i')) → Frz Fz w Fz w' → RD P cd (upd M b (some i')) Fz w' d v) :
    Post P cd M Fz w d (hp.set b x') v w' := by
  have he : Ext M (upd M b (some i')) := ext_upd hle
  have hf : Frz Fz w Fz w' := fun k hk'' => ⟨hk'', hold k (h.frz k hk'')⟩
  obtain ⟨h1, h2, h3⟩ := h.update (w' := w') b x' i' hlt hle hsz (fun k hk'' _ => hold k hk'') (fun k e => ⟨(hk k e).1, .inr (hk k e).2⟩) (hx he hf)
  refine ⟨_, Fz, hd he hf, h1, h2, h3, ⟨hos, htape, hout, hsz, fun k hk'' _ => hold k hk''⟩, ?_, fun k hk => .inl hk⟩
  rintro k' ⟨b', j, hb', hk''⟩
  by_cases e : b' = b
  · subst e
    rw [upd_same] at hb'
    injection hb' with hb'
    subst hb'
    exact .inr (hk k' hk'').2
  · rw [upd_other _ _ e] at hb'
    exact .inl ⟨b', j, hb', hk''⟩
theorem drew_alloc_old (w : World) (o : Obj) {k : Nat} (h : k < w.heap.size) : (w.drew.alloc o).heap[k]? = w.heap[k]? := heap_alloc_old w.drew o k h
/-- cells side by side -/
theorem flat_cells_append (ok : CdOk P cd) {e : Nat} {l m : List (U e)} {olds news rest : List Value} (hl : olds.length = l.length * P.cellsOf e)
    (h1 : ∀ (j : Nat) c, (l.flatMap (cd.enc e))[j]? = some c → ∃ v, olds[j]? = some v ∧ R1 P cd M Fz w c v) (hm : news.length = m.length * P.cellsOf e)
    (h2 : ∀ (j : Nat) c, (m.flatMap (cd.enc e))[j]? = some c → ∃ v, news[j]? = some v ∧ R1 P cd M Fz w c v) :
    ∀ (j : Nat) c, ((l ++ m).flatMap (cd.enc e))[j]? = some c → ∃ v, (olds ++ news ++ rest)[j]? = some v ∧ R1 P cd M Fz w c v := by
  intro j c hj
  rw [List.flatMap_append] at hj
  have e1 := flat_len ok e l
  have e2 := flat_len ok e m
  rw [List.append_assoc]
  by_cases hjl : j < olds.length
  · rw [List.getElem?_append_left (by omega)] at hj
    rw [List.getElem?_append_left hjl]
    exact h1 j c hj
  · rw [List.getElem?_append_right (by omega), e1] at hj
    have := (List.getElem?_eq_some_iff.1 hj).1
    rw [List.getElem?_append_right (by omega), hl, List.getElem?_append_left (by omega)]
    exact h2 _ c hj
/-- a row laid anew -/
theorem grown_row (ok : CdOk P cd) {hp : List (Blk U)} (h : HR P cd M Fz hp w) {b e ver need cap0 : Nat} {l m : List (U e)} {olds news : List Value} {z : Value} (hlt : b < hp.length) (hle : ∀ j, M b = some j → Inf.Le j (.row (some w.heap.size) e ver need (grownCap w need cap0 e)))
    (hn : need = l.length + m.length) (hmax : need ≤ maxLen) (hl : olds.length = l.length * P.cellsOf e) (hz : z.cells.size = P.cellsOf e)
    (h1 : ∀ (j : Nat) c, (l.flatMap (cd.enc e))[j]? = some c → ∃ v, olds[j]? = some v ∧ R1 P cd M Fz w c v) (hm : news.length = m.length * P.cellsOf e)
    (h2 : ∀ (j : Nat) c, (m.flatMap (cd.enc e))[j]? = some c → ∃ v, news[j]? = some v ∧ R1 P cd M Fz w c v) :
    Post P cd M Fz w (.v (.one (.row b ver))) (hp.set b (.row e ver (l ++ m))) (.slice (some (at0 w.heap.size 0)) need (grownCap w need cap0 e))
      (w.drew.alloc (.cells (olds ++ news ++ (Builtin.zeroCells z.cells (grownCap w need cap0 e - need)).toList).toArray e)) := by
  have hge := grownCap_ge w need cap0 e
  have hcm := grownCap_le_maxLen w need cap0 e hmax
  refine h.moved (i' := .row (some w.heap.size) e ver need (grownCap w need cap0 e)) hlt hle (by simp) (fun k hk => drew_alloc_old w _ hk) (fun k hk => ?_) rfl rfl rfl (fun he hf => ?_) (fun he hf => ?_)
  · simp only [Inf.blk, Option.some.injEq] at hk
    subst hk
    exact ⟨by simp, Nat.le_refl _⟩
  · refine ⟨some w.heap.size, grownCap w need cap0 e, by rw [upd_same, List.length_append, ← hn], _, heap_alloc_new w.drew _, by rw [List.length_append, ← hn]; exact hge, hcm, ?_, fun j c hj => ?_⟩
    · have hzl : (Builtin.zeroCells z.cells (grownCap w need cap0 e - need)).toList.length = (grownCap w need cap0 e - need) * P.cellsOf e := by rw [Array.length_toList, size_zeroCells, hz]
      rw [List.size_toArray, List.length_append, List.length_append, hl, hm, hzl, ← Nat.add_mul, ← Nat.add_mul, ← hn]
      congr 1
      omega
    · obtain ⟨v, k1, k2⟩ := flat_cells_append ok hl h1 hm h2 (rest := (Builtin.zeroCells z.cells (grownCap w need cap0 e - need)).toList) j c hj
      exact ⟨v, by rw [List.getElem?_toArray]; exact k1, k2.mono he hf⟩
  · exact .row b ver _ _ _ _ _ _ (upd_same ..) (Nat.le_refl _) rfl fun _ => rfl
theorem none_firstCells (a : Option Addr) (size cap : Nat) : (Builtin.firstCells size 0 (.slice a 0 cap)).run P w = .ok ([] : List Value).toArray w := by
  cases a <;> simp [Builtin.firstCells, loadCells, loadCellsFrom]
/-- onto a slice that holds nothing and has no room -/
theorem onto_nothing (ok : CdOk P cd) {hp : List (Blk U)} (h : HR P cd M Fz hp w) {t t2 ty e b ver : Nat} {i : TypeInfo} {z : Value} (ht : P.underlying t = some (.slice e)) (h2 : srcT P t2 = true) (hi : P.info? e = some i) (hz : i.zero = some z) (hzs : z.cells.size = P.cellsOf e)
    (hb : 0 < i.bytes) {m : List (U e)} {y : Value} {news : List Value} (s : Src P cd M Fz w e m y news) (hfit : m.length * i.bytes ≤ 140737488355328) (a : Option Addr) (hlt : b < hp.length)
    (hle : ∀ j, M b = some j → ∀ pos n c, Inf.Le j (.row pos e ver n c)) :
    ∃ v w', (Builtin.append_ #[t, t2] ty #[.slice a 0 0, y]).run P w = .ok v w' ∧ Post P cd M Fz w (.v (.one (.row b ver))) (hp.set b (.row e ver m)) v w' := by
  by_cases hm : m.length = 0
  · have hm' : m = [] := List.eq_nil_of_length_eq_zero hm
    subst hm'
    have hnews : news = [] := List.eq_nil_of_length_eq_zero (by rw [s.size]; simp)
    subst hnews
    have hr := run_room (w' := w) (ty := ty) ht h2 hi s (base := a) (n := 0) (cap := 0) (by simp) (fun a _ => by simp [storeCells]) (fun _ => rfl)
    refine ⟨_, _, hr, ?_⟩
    refine h.moved (i' := .row none e ver 0 0) hlt (fun j hj => hle j hj _ _ _) (Nat.le_refl _) (fun _ _ => rfl) (fun k hk => by cases hk) rfl rfl rfl (fun he hf => ?_) (fun he hf => ?_)
    · exact ⟨none, 0, upd_same .., rfl⟩
    · exact .row b ver none e ver 0 0 _ (upd_same ..) (Nat.le_refl _) rfl fun _ => ⟨a, rfl⟩
  · have hmx : m.length ≤ 140737488355328 := Nat.le_trans (Nat.le_mul_of_pos_right _ hb) hfit
    have hr := run_grow (ty := ty) ht h2 hi hz s (base := a) (n := 0) (cap := 0) (olds := []) (by omega) (none_firstCells a _ _) hb (by rw [Nat.zero_add, nextslicecap_zero (by omega)]; omega)
    refine ⟨_, _, hr, ?_⟩
    have := grown_row ok h (b := b) (e := e) (ver := ver) (need := 0 + m.length) (cap0 := 0) (l := []) (m := m) (olds := []) (news := news) (z := z) hlt (fun j hj => hle j hj _ _ _) (by simp) (by simp only [maxLen]; omega) (by simp) hzs (fun j c hj => by simp at hj) s.size s.cells
    simpa using this
theorem append_ok (ok : CdOk P cd) {hp : List (Blk U)} (h : HR P cd M Fz hp w) {id : Nat} (hid : hp[id]? = some .dead) (t t2 ty : Nat) {x y : V U} {vx vy : Value} (hx : RV P cd M Fz w x vx) (hy : RV P cd M Fz w y vy) :
    ValOk P cd M Fz w hp id (Builtin.append_ #[t, t2] ty #[vx, vy]) (appendK P cd t t2 x y) := by
  unfold appendK
  split
  case h_2 => exact .fail
  rename_i e ht
  rw [cond_eq_ite]
  split
  case isFalse => exact .fail
  rename_i hcond
  simp only [Bool.and_eq_true] at hcond
  obtain ⟨⟨h2, hzx⟩, hby⟩ := hcond
  obtain ⟨zx, hzx⟩ := Option.isSome_iff_exists.1 hzx
  obtain ⟨i, z, hi, hz, hzs, _⟩ := zeroE_ok ok hzx
  have hib : i.bytes = P.bytesOf e := by simp [Program.bytesOf, hi]
  have hb : 0 < i.bytes := by rw [hib]; exact of_decide_eq_true (by simpa using hby)
  have hsz : P.cellsOf e = i.size := by simp [Program.cellsOf, hi]
  have hidlt : id < hp.length := (List.getElem?_eq_some_iff.1 hid).1
  have hidM : M id = none := h.blk id _ hid
  have fresh : ∀ a, vx = .slice a 0 0 → ∀ d hp', (appendK.fresh P cd y e hp id).run = some (d, hp') → ∃ v w', (Builtin.append_ #[t, t2] ty #[vx, vy]).run P w = .ok v w' ∧ Post P cd M Fz w d hp' v w' := by
    intro a hva d hp' hd
    subst hva
    unfold appendK.fresh at hd
    split at hd
    · rename_i m hm
      simp only [Tree.run] at hd
      split at hd
      · rename_i hfit
        have hfit := of_decide_eq_true hfit
        simp only [Tree.run, Option.some.injEq, Prod.mk.injEq] at hd
        obtain ⟨rfl, rfl⟩ := hd
        rw [setN_eq]
        obtain ⟨news, s⟩ := src_ok ok h hy hm
        exact onto_nothing ok h ht h2 hi hz hzs hb s (by rw [hib]; exact hfit) a hidlt (fun j hj => by rw [hidM] at hj; cases hj)
      · cases hd
    · cases hd
  intro d hp' hd
  simp only [K.sem] at hd
  unfold appendK.go at hd
  split at hd
  · cases hx
    exact fresh none rfl d hp' hd
  · split at hd
    · cases hx with
      | sl _ _ _ a cap f h1 h0 h3 h4 =>
        have : cap = 0 := h1 rfl
        subst this
        exact fresh a rfl d hp' hd
    · cases hd
  · rename_i b v
    rw [nth_eq] at hd
    split at hd
    · rename_i t' v' l hbb
      rw [cond_eq_ite] at hd
      split at hd
      · rename_i hc
        simp only [Bool.and_eq_true] at hc
        obtain rfl := Nat.eq_of_beq_eq_true hc.1.1
        obtain rfl := Nat.eq_of_beq_eq_true hc.1.2
        split at hd
        · rename_i m hm
          simp only [Tree.run] at hd
          split at hd
          · rename_i hfit
            have hfit := of_decide_eq_true hfit
            simp only [Tree.run, Option.some.injEq, Prod.mk.injEq] at hd
            obtain ⟨rfl, rfl⟩ := hd
            rw [setN_eq]
            obtain ⟨news, s⟩ := src_ok ok h hy hm
            have hblt : b < hp.length := (List.getElem?_eq_some_iff.1 hbb).1
            cases hx with
            | row _ _ pos t'' ver len cap _ hmm hle hsc hval =>
              obtain ⟨rfl, rfl, rfl, hpos⟩ := h.row_at hbb hmm
              have hval := hval rfl
              cases pos with
              | none =>
                obtain ⟨a, rfl⟩ := hval
                have : l = [] := hpos
                subst this
                refine onto_nothing ok h ht h2 hi hz hzs hb s (by rw [hib]; simpa using hfit) a hblt (fun j hj pos n c => ?_)
                rw [hmm] at hj
                injection hj with hj
                subst hj
                exact .later _ _ _ _ _ _ _ _ _ _ (Nat.lt_succ_self _)
              | some k =>
                obtain ⟨cur, r⟩ := hpos
                simp only [RowV] at hval
                subst hval
                by_cases hroom : l.length + m.length ≤ cap
                · have hcs : l.length * P.cellsOf t'' + news.length ≤ cur.size := by
                    rw [s.size, r.size, ← Nat.add_mul]; exact Nat.mul_le_mul_right _ hroom
                  have hst := run_storeCells_at P k (l.length * P.cellsOf t'') t'' news 0 cur w r.heap (by simpa using hcs) s.one
                  rw [Nat.add_zero] at hst
                  have hr := run_room (ty := ty) ht h2 hi s (base := some (at0 k 0)) (n := l.length) (cap := cap) hroom (fun a ha => by
                    injection ha with ha
                    subst ha
                    rw [show (at0 k 0).add (l.length * i.size) = at0 k (l.length * P.cellsOf t'') by rw [hsz]; unfold Addr.add at0; split <;> simp_all]
                    exact hst) (fun hn => by cases hn)
                  refine ⟨_, _, hr, ?_⟩
                  have hlo : (cur.toList.take (l.length * P.cellsOf t'')).length = l.length * P.cellsOf t'' := by simp; omega
                  refine h.inPlace (i := .row (some k) t'' ver l.length cap) (i' := .row (some k) t'' (ver + 1) (l.length + m.length) cap) hmm rfl rfl (.later _ _ _ _ _ _ _ _ _ _ (Nat.lt_succ_self _)) (by simp) (fun k' hk' => setRow_other w k k' _ hk') rfl rfl rfl (fun he hf => ?_) (fun he hf => ?_)
                  · refine ⟨some k, cap, by rw [List.length_append]; exact upd_same .., _, ⟨setRow_heap w k cur _ t'' _ r.heap, by rw [List.length_append]; exact hroom, r.max, ?_, fun j c hj => ?_⟩⟩
                    · have := r.size
                      simp
                      omega
                    · obtain ⟨v, k1, k2⟩ := flat_cells_append ok hlo (fun j c hj => by
                        obtain ⟨v, e1, e2⟩ := r.cells j c hj
                        have hjl := (List.getElem?_eq_some_iff.1 hj).1
                        rw [flat_len ok] at hjl
                        exact ⟨v, by rw [List.getElem?_take, if_pos hjl]; simpa using e1, e2⟩) s.size s.cells (rest := cur.toList.drop (l.length * P.cellsOf t'' + news.length)) j c hj
                      exact ⟨v, by rw [List.getElem?_toArray]; exact k1, k2.mono he hf⟩
                  · exact .row b (ver + 1) _ _ _ _ _ _ (upd_same ..) (Nat.le_refl _) rfl fun _ => rfl
                · have hneed : l.length + m.length ≤ 140737488355328 := Nat.le_trans (Nat.le_mul_of_pos_right _ (by rw [← hib]; exact hb)) hfit
                  have hlo : (cur.toList.take (l.length * P.cellsOf t'')).length = l.length * P.cellsOf t'' := by
                    have := Nat.mul_le_mul_right (P.cellsOf t'') r.le
                    have := r.size
                    simp; omega
                  have hfo := run_firstCells_some (P := P) w.drew i.size l.length (at0 k 0) l.length cap (cur.toList.take (l.length * P.cellsOf t'')) (by rw [hlo, hsz]) (fun j v hj => by
                    rw [List.getElem?_take] at hj
                    split at hj
                    · rw [show (at0 k 0).add j = at0 k j by unfold Addr.add at0; split <;> simp_all]
                      have hk' : w.drew.heap[k]? = some (.cells cur t'' (0, 0)) := r.heap
                      simp only [World.cell?, at0, hk']
                      simpa using hj
                    · cases hj)
                  have hr := run_grow (ty := ty) ht h2 hi hz s (base := some (at0 k 0)) (n := l.length) (cap := cap) (by omega) hfo hb (growslice_fits (by omega) (by rw [hib]; exact hfit))
                  refine ⟨_, _, hr, ?_⟩
                  exact grown_row ok h (b := b) (ver := ver + 1) (need := l.length + m.length) (cap0 := cap) (l := l) (m := m) hblt (fun j hj => by
                    rw [hmm] at hj
                    injection hj with hj
                    subst hj
                    exact .later _ _ _ _ _ _ _ _ _ _ (Nat.lt_succ_self _)) rfl (by simp only [maxLen]; omega) hlo hzs (fun j c hj => by
                      obtain ⟨v, e1, e2⟩ := r.cells j c hj
                      have hjl := (List.getElem?_eq_some_iff.1 hj).1
                      rw [flat_len ok] at hjl
                      exact ⟨v, by rw [List.getElem?_take, if_pos hjl]; simpa using e1, e2⟩) s.size s.cells
          · cases hd
        · cases hd
      · cases hd
    · cases hd
  · cases hd
theorem copy_ok (ok : CdOk P cd) {hp : List (Blk U)} (h : HR P cd M Fz hp w) {id : Nat} (t t2 ty : Nat) {x y : V U} {vx vy : Value} (hx : RV P cd M Fz w x vx) (hy : RV P cd M Fz w y vy) :
    ValOk P cd M Fz w hp id (Builtin.copy_ #[t, t2] ty #[vx, vy]) (copyK P cd t x y) := by
  unfold copyK
  split
  case h_2 => exact .fail
  rename_i e ht
  rw [cond_eq_ite]
  split
  case isFalse => exact .fail
  rename_i hinf
  obtain ⟨i, hi, hsz⟩ := cells_of_info hinf
  intro d hp' hd
  simp only [K.sem] at hd
  split at hd
  · rename_i b v
    rw [nth_eq] at hd
    split at hd
    · rename_i t' v' l hbb
      rw [cond_eq_ite] at hd
      split at hd
      · rename_i hc
        simp only [Bool.and_eq_true] at hc
        obtain rfl := Nat.eq_of_beq_eq_true hc.1.1
        obtain rfl := Nat.eq_of_beq_eq_true hc.1.2
        split at hd
        · rename_i m hm
          simp only [Tree.run, Option.some.injEq, Prod.mk.injEq] at hd
          obtain ⟨rfl, rfl⟩ := hd
          rw [setN_eq]
          obtain ⟨news, s⟩ := src_ok ok h hy hm
          cases hx with
          | row _ _ pos t'' ver len cap _ hmm hle hsc hval =>
            obtain ⟨rfl, rfl, rfl, hpos⟩ := h.row_at hbb hmm
            have hval := hval rfl
            have hf := s.first (min m.length l.length) w (Nat.min_le_left _ _) rfl
            rw [hsz] at hf
            cases pos with
            | none =>
              obtain ⟨a, rfl⟩ := hval
              have : l = [] := hpos
              subst this
              have hself : hp.set b (.row t'' ver []) = hp := List.ext_getElem? fun j => by
                rw [List.getElem?_set]
                split
                · rename_i e; subst e
                  rw [if_pos (List.getElem?_eq_some_iff.1 hbb).1, hbb]
                · rfl
              have hmin : Nat.min m.length ([] : List (U t'')).length = 0 := Nat.min_zero _
              simp only [List.length_nil, Nat.min_zero] at hf
              simp only [List.length_nil, List.take_zero, List.drop_nil, List.append_nil, hself, Nat.min_zero]
              refine ⟨.int .i64 0, w, ?_, .same h (R1.int .i64 0)⟩
              have hz : Nat.min m.length 0 = 0 := Nat.min_zero _
              simp at hf
              cases a <;> simp [Builtin.copy_, run_underlying ht, s.len, hz, sizeOf, typeInfo, hi, hf, storeCells, goInt, Result.andThen]
            | some k =>
              obtain ⟨cur, r⟩ := hpos
              simp only [RowV] at hval
              subst hval
              have hnl : (news.take (min m.length l.length * i.size)).length = min m.length l.length * P.cellsOf t'' := by
                rw [List.length_take, s.size, hsz]
                exact Nat.min_eq_left (Nat.mul_le_mul_right _ (Nat.min_le_left _ _))
              have hfit : min m.length l.length * P.cellsOf t'' ≤ cur.size := by
                rw [r.size]; exact Nat.mul_le_mul_right _ (Nat.le_trans (Nat.min_le_right _ _) r.le)
              have hst := run_storeCells_at P k 0 t'' (news.take (min m.length l.length * i.size)) 0 cur w r.heap (by omega) (fun u hu => s.one u (List.mem_of_mem_take hu))
              refine ⟨.int .i64 (min m.length l.length : Nat), w.setRow k (cur.toList.take (0 + 0) ++ news.take (min m.length l.length * i.size) ++ cur.toList.drop (0 + 0 + (news.take (min m.length l.length * i.size)).length)).toArray, ?_, ?_⟩
              · simp only [Builtin.copy_, run_underlying ht, sizeOf, typeInfo, hi, run_program, Sem.run_bind, Sem.run_pure, Result.andThen, List.getElem?_toArray, List.getElem?_cons_zero, List.getElem?_cons_succ, s.len]
                rw [show Nat.min m.length l.length = min m.length l.length from rfl]
                simp only [hf]
                simp only [at0] at hst ⊢
                simp only [hst]
                rfl
              · refine h.inPlace (i := .row (some k) t'' ver l.length cap) (i' := .row (some k) t'' ver l.length cap) hmm rfl rfl (.refl _) (by simp) (fun k' hk' => setRow_other w k k' _ hk') rfl rfl rfl (fun he hf => ?_) (fun he hf => .int _ _)
                have hll : (m.take l.length ++ l.drop m.length).length = l.length := by simp; omega
                refine ⟨some k, cap, by rw [hll]; exact upd_same .., _, ⟨setRow_heap w k cur _ t'' _ r.heap, by rw [hll]; exact r.le, r.max, ?_, fun j c hj => ?_⟩⟩
                · have := r.size
                  simp only [List.size_toArray, List.length_append, hnl, List.length_take, List.length_drop, Array.length_toList]
                  omega
                · rw [List.flatMap_append, flat_take ok, flat_drop ok] at hj
                  rw [List.getElem?_toArray]
                  suffices hget : ∃ v, (news.take (min m.length l.length * i.size) ++ cur.toList.drop (min m.length l.length * P.cellsOf t''))[j]? = some v ∧ R1 P cd M Fz w c v by
                    obtain ⟨v, e1, e2⟩ := hget
                    refine ⟨v, ?_, e2.mono he hf⟩
                    simp only [Nat.zero_add, List.take_zero, List.nil_append, hnl]
                    exact e1
                  have hml : ((m.flatMap (cd.enc t'')).take (l.length * P.cellsOf t'')).length = min m.length l.length * P.cellsOf t'' := by
                    rw [List.length_take, flat_len ok, Nat.min_comm, Nat.mul_min_mul_right]
                  by_cases hjl : j < min m.length l.length * P.cellsOf t''
                  · rw [List.getElem?_append_left (by omega), List.getElem?_take] at hj
                    split at hj
                    · rw [List.getElem?_append_left (by omega), List.getElem?_take, if_pos (by rw [← hsz]; exact hjl)]
                      exact s.cells j c hj
                    · cases hj
                  · rw [List.getElem?_append_right (by omega), hml, List.getElem?_drop] at hj
                    have hlt := (List.getElem?_eq_some_iff.1 hj).1
                    rw [flat_len ok] at hlt
                    have hmn : min m.length l.length = m.length := by
                      rcases Nat.le_total m.length l.length with h' | h'
                      · exact Nat.min_eq_left h'
                      · have := Nat.mul_le_mul_right (P.cellsOf t'') h'
                        omega
                    rw [hmn] at hj hjl hnl ⊢
                    rw [show m.length * P.cellsOf t'' + (j - m.length * P.cellsOf t'') = j by omega] at hj
                    rw [List.getElem?_append_right (by rw [hnl]; omega), List.getElem?_drop]
                    obtain ⟨v, e1, e2⟩ := r.cells j c hj
                    refine ⟨v, ?_, e2⟩
                    rw [hnl, show m.length * P.cellsOf t'' + (j - m.length * P.cellsOf t'') = j by omega]
                    simpa using e1
        · cases hd
      · cases hd
    · cases hd
  · cases hd
end
end Go.Ab
