/- Stores. -/
import Derived.Test.YtjhibcebipjbcaaAbOps8
set_option linter.unusedSimpArgs false
namespace Go.Ab
variable {U : Nat → Type}
section
variable {P : Program} {cd : Cd U} {M M' : Mp} {Fz Fz' : Nat → Prop} {w w' : World}

/-- a block is changed where it lies -/
theorem HR.inPlace {hp : List (Blk U)} (h : HR P cd M Fz hp w) {b k : Nat} {i i' : Inf} {x' : Blk U} (hb : M b = some i) (hk : i.blk = some k) (hk' : i'.blk = some k) (hle : Inf.Le i i') (hsz : w'.heap.size = w.heap.size)
    (hold : ∀ k', k' ≠ k → w'.heap[k']? = w.heap[k']?) (hos : w'.os = w.os) (htape : w'.tape = w.tape) (hout : w'.output = w.output)
    (hx : Ext M (upd M b (some i')) → Frz Fz w Fz w' → RB P cd (upd M b (some i')) Fz w' b x') {d : D U} {v : Value} (hd : Ext M (upd M b (some i')) → Frz Fz w Fz w' → RD P cd (upd M b (some i')) Fz w' d v) :
    Post P cd M Fz w d (hp.set b x') v w' := by
  have hlt : b < hp.length := by
    rcases Nat.lt_or_ge b hp.length with h' | h'
    · exact h'
    · rw [h.out b h'] at hb; cases hb
  have hle' : ∀ j, M b = some j → Inf.Le j i' := fun j hj => by rw [hb] at hj; injection hj with hj; subst hj; exact hle
  have he : Ext M (upd M b (some i')) := ext_upd hle'
  have hf : Frz Fz w Fz w' := fun k' hk'' => ⟨hk'', hold k' fun e => h.apart b i k hb hk (e ▸ hk'')⟩
  obtain ⟨h1, h2, h3⟩ := h.update (w' := w') b x' i' hlt hle' (by omega) (fun k' hk'' hne => hold k' fun e => hne i hb (e ▸ hk)) (fun k' e => by
    rw [hk'] at e; injection e with e; subst e
    exact ⟨by rw [hsz]; exact h.lt b i k hb hk, .inl ⟨i, hb, hk⟩⟩) (hx he hf)
  refine ⟨_, Fz, hd he hf, h1, h2, h3, ⟨hos, htape, hout, by omega, fun k' _ hk'' => hold k' fun e => hk'' ⟨b, i, hb, e ▸ hk⟩⟩, ?_, fun k hk => .inl hk⟩
  rintro k' ⟨b', j, hb', hk''⟩
  by_cases e : b' = b
  · subst e
    rw [upd_same] at hb'
    injection hb' with hb'
    subst hb'
    rw [hk'] at hk''
    injection hk'' with hk''
    subst hk''
    exact .inl ⟨b', i, hb, hk⟩
  · rw [upd_other _ _ e] at hb'
    exact .inl ⟨b', j, hb', hk''⟩

/-- cells are stored -/
theorem store_cells {t k o : Nat} {e : Nat} {arr : Array Value} {v : Value} (hi : (P.info? t).isSome = true) (hh : w.heap[k]? = some (.cells arr e (0, 0))) (hsz : v.cells.size = P.cellsOf t) (h1 : ∀ u ∈ v.cells.toList, u.oneCell' = true) (ho : o + P.cellsOf t ≤ arr.size) :
    (Instr.storeAt t (.pointer (some (at0 k o))) v).run P w = .ok () (w.setRow k (arr.toList.take o ++ v.cells.toList ++ arr.toList.drop (o + P.cellsOf t)).toArray) := by
  obtain ⟨i, hi, hc⟩ := cells_of_info hi
  have hl : v.cells.toList.length = P.cellsOf t := by simpa using hsz
  have := run_storeCells_at P k o e v.cells.toList 0 arr w hh (by rw [hl]; exact ho) h1
  rw [Nat.add_zero, hl] at this
  simp only [Instr.storeAt, Instr.sureAddr, Sem.run_bind, Sem.run_pure, Result.andThen, storeVar, sizeOf, typeInfo, run_program, hi, ← hc]
  rw [if_neg (by simp [hsz])]
  exact this

/-- a store within a variable's cells -/
theorem store_in {hp : List (Blk U)} (h : HR P cd M Fz hp w) {b k o n e : Nat} {cs' : List (C U)} {arr : Array Value} {us : List Value} (hm : M b = some (.cells k)) (hh : w.heap[k]? = some (.cells arr e (0, 0)))
    (hr : RL P cd M Fz w cs' (arr.toList.take o ++ us ++ arr.toList.drop (o + n))) :
    Post P cd M Fz w (.v (.one .skp)) (hp.set b (.cells cs')) undef (w.setRow k (arr.toList.take o ++ us ++ arr.toList.drop (o + n)).toArray) := by
  refine h.inPlace (i := .cells k) (i' := .cells k) hm rfl rfl (.refl _) (by simp) (fun k' hk' => setRow_other w k k' _ hk') rfl rfl rfl (fun he hf => ?_) (fun _ _ => .skp)
  exact ⟨k, _, e, upd_same .., setRow_heap w k arr _ e _ hh, (by simpa using hr.mono he hf)⟩
theorem splice_get {α : Type} (l us : List α) (o q : Nat) (ho : o + us.length ≤ l.length) : (l.take o ++ us ++ l.drop (o + us.length))[q]? = if q < o then l[q]? else if q < o + us.length then us[q - o]? else l[q]? := by
  have e2 : (l.take o).length = o := by simp; omega
  rw [List.append_assoc]
  by_cases hj : q < o
  · rw [List.getElem?_append_left (by omega), List.getElem?_take, if_pos hj, if_pos hj]
  · rw [List.getElem?_append_right (by omega), e2, if_neg hj]
    by_cases hk : q - o < us.length
    · rw [List.getElem?_append_left (by omega), if_pos (by omega)]
    · rw [List.getElem?_append_right (by omega), List.getElem?_drop, if_neg (by omega), show o + us.length + (q - o - us.length) = q by omega]
theorem splice_shift {α : Type} (l us : List α) (a s o q : Nat) (hq : q < s) (ho : o + us.length ≤ s) (ha : a + s ≤ l.length) :
    (l.take (a + o) ++ us ++ l.drop (a + o + us.length))[a + q]? = (((l.drop a).take s).take o ++ us ++ ((l.drop a).take s).drop (o + us.length))[q]? := by
  have hc : ((l.drop a).take s).length = s := by simp; omega
  have hg : ((l.drop a).take s)[q]? = l[a + q]? := by rw [List.getElem?_take, if_pos hq, List.getElem?_drop]
  rw [splice_get l us (a + o) (a + q) (by omega), splice_get _ us o q (by rw [hc]; exact ho), hg]
  by_cases h1 : q < o
  · rw [if_pos (by omega), if_pos h1]
  · rw [if_neg (by omega), if_neg h1]
    by_cases h2 : q < o + us.length
    · rw [if_pos (by omega), if_pos h2, show a + q - (a + o) = q - o by omega]
    · rw [if_neg (by omega), if_neg h2]

theorem splice_nest {α : Type} (l us : List α) (a s q : Nat) (hq : q + us.length ≤ s) (ha : a + s ≤ l.length) :
    l.take a ++ (((l.drop a).take s).take q ++ us ++ ((l.drop a).take s).drop (q + us.length)) ++ l.drop (a + s) = l.take (a + q) ++ us ++ l.drop (a + q + us.length) := by
  have hc : ((l.drop a).take s).length = s := by simp; omega
  have hc2 : (((l.drop a).take s).take q ++ us ++ ((l.drop a).take s).drop (q + us.length)).length = s := by
    simp only [List.length_append, List.length_take, List.length_drop, hc]
    simp at hc
    omega
  apply List.ext_getElem?
  intro j
  have h1 := splice_get l (((l.drop a).take s).take q ++ us ++ ((l.drop a).take s).drop (q + us.length)) a j (by rw [hc2]; exact ha)
  rw [hc2] at h1
  rw [h1, splice_get l us (a + q) j (by omega)]
  by_cases h2 : j < a
  · rw [if_pos h2, if_pos (show j < a + q by omega)]
  · rw [if_neg h2]
    by_cases h3 : j < a + s
    · rw [if_pos h3, splice_get _ us q (j - a) (by rw [hc]; exact hq)]
      have hg : ((l.drop a).take s)[j - a]? = l[j]? := by rw [List.getElem?_take, if_pos (show j - a < s by omega), List.getElem?_drop, show a + (j - a) = j by omega]
      rw [hg]
      by_cases h4 : j - a < q
      · rw [if_pos h4, if_pos (show j < a + q by omega)]
      · rw [if_neg h4, if_neg (show ¬ j < a + q by omega)]
        by_cases h5 : j - a < q + us.length
        · rw [if_pos h5, if_pos (show j < a + q + us.length by omega), show j - a - q = j - (a + q) by omega]
        · rw [if_neg h5, if_neg (show ¬ j < a + q + us.length by omega)]
    · rw [if_neg h3, if_neg (show ¬ j < a + q by omega), if_neg (show ¬ j < a + q + us.length by omega)]
/-- an element whose part is changed -/
theorem setE_ok (ok : CdOk P cd) {te : Nat} {x z : U te} {sub n : Nat} {new : List (C U)} {vs us : List Value} (hx : RL P cd M Fz w (cd.enc te x) vs) (hn : RL P cd M Fz w new us) (hl : us.length = n) (h : setE P cd te x sub n new = some z) :
    RL P cd M Fz w (cd.enc te z) (vs.take sub ++ us ++ vs.drop (sub + n)) ∧ sub + n ≤ vs.length := by
  unfold setE at h
  split at h
  · rename_i cs hcs
    obtain ⟨h1, h2⟩ := hx.put ok hn hl hcs
    exact ⟨ok.dec te cs z h M Fz w _ h1, h2⟩
  · cases h
/-- a row's element as cells -/
theorem RowOk.elemL (ok : CdOk P cd) {t k cap : Nat} {l : List (U t)} {cur : Array Value} (r : RowOk P cd M Fz w t l cap k cur) {i : Nat} {x : U t} (hx : l[i]? = some x) :
    RL P cd M Fz w (cd.enc t x) ((cur.toList.drop (i * P.cellsOf t)).take (P.cellsOf t)) ∧ i * P.cellsOf t + P.cellsOf t ≤ cur.size := by
  have hlt : i < l.length := (List.getElem?_eq_some_iff.1 hx).1
  have hb : i * P.cellsOf t + P.cellsOf t ≤ cur.size := by
    rw [r.size, ← Nat.succ_mul]
    exact Nat.mul_le_mul_right _ (Nat.le_trans hlt r.le)
  refine ⟨⟨enc_okA ok t x, ?_, ?_⟩, hb⟩
  · rw [enc_plain_leaves ok, ok.len]; simp; omega
  · intro j c v h1 h2
    rw [enc_plain_leaves ok] at h1
    obtain ⟨v', h3, h4⟩ := r.cells _ c (elem_at ok hx j c h1)
    rw [List.getElem?_take] at h2
    split at h2
    · rw [List.getElem?_drop] at h2
      rw [Array.getElem?_toList, h3] at h2
      injection h2 with h2
      subst h2
      exact h4
    · cases h2
theorem store_row (ok : CdOk P cd) {hp : List (Blk U)} (h : HR P cd M Fz hp w) {b k i t ver cap : Nat} {l : List (U t)} {y z : U t} {cur : Array Value} {us : List Value} {o n : Nat} (hm : M b = some (.row (some k) t ver l.length cap)) (r : RowOk P cd M Fz w t l cap k cur) (hy : l[i]? = some y)
    (hl : us.length = n) (ho : i * P.cellsOf t + o + n ≤ cur.size) (hon : o + n ≤ P.cellsOf t)
    (hz : RL P cd M Fz w (cd.enc t z) (((cur.toList.drop (i * P.cellsOf t)).take (P.cellsOf t)).take o ++ us ++ ((cur.toList.drop (i * P.cellsOf t)).take (P.cellsOf t)).drop (o + n))) :
    Post P cd M Fz w (.v (.one .skp)) (hp.set b (.row t ver (l.set i z))) undef (w.setRow k (cur.toList.take (i * P.cellsOf t + o) ++ us ++ cur.toList.drop (i * P.cellsOf t + o + n)).toArray) := by
  have hlt : i < l.length := (List.getElem?_eq_some_iff.1 hy).1
  refine h.inPlace (i := .row (some k) t ver l.length cap) (i' := .row (some k) t ver l.length cap) hm rfl rfl (.refl _) (by simp) (fun k' hk' => setRow_other w k k' _ hk') rfl rfl rfl (fun he hf => ?_) (fun _ _ => .skp)
  refine ⟨some k, cap, by rw [List.length_set]; exact upd_same .., _, ⟨setRow_heap w k cur _ t _ r.heap, by rw [List.length_set]; exact r.le, r.max, ?_, ?_⟩⟩
  · have := r.size
    simp [hl]
    omega
  · intro j c hj
    have hlen : (cur.toList.take (i * P.cellsOf t + o)).length = i * P.cellsOf t + o := by simp; omega
    rw [flat_set ok t l i z hlt] at hj
    have e1 : ((l.flatMap (cd.enc t)).take (i * P.cellsOf t)).length = i * P.cellsOf t := by
      rw [List.length_take, flat_len ok]
      exact Nat.min_eq_left (Nat.mul_le_mul_right _ (by omega))
    have e3 : (cd.enc t z).length = P.cellsOf t := ok.len t z
    have keep : ∀ q c', (l.flatMap (cd.enc t))[q]? = some c' → (q < i * P.cellsOf t ∨ i * P.cellsOf t + P.cellsOf t ≤ q) → ∃ v, (cur.toList.take (i * P.cellsOf t + o) ++ us ++ cur.toList.drop (i * P.cellsOf t + o + n)).toArray[q]? = some v ∧ R1 P cd (upd M b (some (.row (some k) t ver l.length cap))) Fz (w.setRow k (cur.toList.take (i * P.cellsOf t + o) ++ us ++ cur.toList.drop (i * P.cellsOf t + o + n)).toArray) c' v := by
      intro q c' hq hc
      obtain ⟨v, h1, h2⟩ := r.cells q c' hq
      refine ⟨v, ?_, h2.mono he hf⟩
      rw [List.getElem?_toArray, List.append_assoc]
      rcases hc with hc | hc
      · rw [List.getElem?_append_left (by omega), List.getElem?_take, if_pos (by omega)]
        simpa using h1
      · rw [List.getElem?_append_right (by omega), hlen, List.getElem?_append_right (by omega), List.getElem?_drop, hl, show i * P.cellsOf t + o + n + (q - (i * P.cellsOf t + o) - n) = q by omega]
        simpa using h1
    rw [List.append_assoc] at hj
    by_cases hj1 : j < i * P.cellsOf t
    · rw [List.getElem?_append_left (by omega), List.getElem?_take, if_pos hj1] at hj
      exact keep j c hj (.inl hj1)
    · rw [List.getElem?_append_right (by omega), e1] at hj
      by_cases hj2 : j - i * P.cellsOf t < P.cellsOf t
      · rw [List.getElem?_append_left (by omega)] at hj
        have hlz := hz.2.1
        rw [enc_plain_leaves ok, e3] at hlz
        have hlt2 : j - i * P.cellsOf t < (((cur.toList.drop (i * P.cellsOf t)).take (P.cellsOf t)).take o ++ us ++ ((cur.toList.drop (i * P.cellsOf t)).take (P.cellsOf t)).drop (o + n)).length := by rw [hlz]; exact hj2
        have hv := List.getElem?_eq_getElem hlt2
        refine ⟨_, ?_, (hz.2.2 _ c _ (by rw [enc_plain_leaves ok]; exact hj) hv).mono he hf⟩
        rw [← hv, List.getElem?_toArray]
        subst hl
        have := splice_shift cur.toList us (i * P.cellsOf t) (P.cellsOf t) o (j - i * P.cellsOf t) hj2 hon (by simpa using (r.elemL ok hy).2)
        rw [show i * P.cellsOf t + (j - i * P.cellsOf t) = j by omega] at this
        exact this
      · rw [List.getElem?_append_right (by omega), e3, List.getElem?_drop] at hj
        rw [show i * P.cellsOf t + P.cellsOf t + (j - i * P.cellsOf t - P.cellsOf t) = j by omega] at hj
        exact keep j c hj (.inr (by omega))

theorem undef_run {x : Sem Unit} (h : x.run P w = .ok () w') : (do x; pure Next.skip : Sem Next).run P w = .ok .skip w' := by
  simp only [Sem.run_bind, h, Result.andThen]; rfl
theorem store_ok (ok : CdOk P cd) {hp : List (Blk U)} (h : HR P cd M Fz hp w) (t : Nat) {a x : V U} {va vx : Value} (ha : RV P cd M Fz w a va) (hx : RV P cd M Fz w x vx) {d : D U} {hp' : List (Blk U)}
    (hd : (storeF P cd t a x hp).run = some (d, hp')) : ∃ w', (Instr.storeAt t va vx).run P w = .ok () w' ∧ Post P cd M Fz w d hp' undef w' := by
  unfold storeF at hd
  rw [cond_eq_ite] at hd
  split at hd
  case isFalse => cases hd
  rename_i hinf
  split at hd
  · rename_i b o
    rw [nth_eq] at hd
    split at hd
    · rename_i cs hb
      split at hd
      · rename_i r hr
        rw [cond_eq_ite] at hr
        split at hr
        · rename_i hf
          simp only [Tree.run, Option.some.injEq, Prod.mk.injEq] at hd
          obtain ⟨rfl, rfl⟩ := hd
          rw [setN_eq]
          obtain ⟨hcl, hn, h1⟩ := fitL_ok ok hf hx
          cases ha with
          | ptr _ _ k hm =>
            obtain ⟨arr, e, hh, hrl⟩ := h.cells_at hb hm
            obtain ⟨k1, k2⟩ := hrl.put ok hcl (by simpa using hn) hr
            exact ⟨_, store_cells hinf hh hn h1 (by simpa using k2), store_in h hm hh k1⟩
        · cases hr
      · cases hd
    · cases hd
  · rename_i b v i sub
    rw [nth_eq] at hd
    split at hd
    · rename_i te v' l hb
      rw [cond_eq_ite] at hd
      split at hd
      · rename_i hv
        obtain rfl := Nat.eq_of_beq_eq_true hv
        simp only [Tree.run] at hd
        obtain ⟨y, hy, hd⟩ := Option.bind_eq_some_iff.1 hd
        split at hd
        · rename_i z hz
          rw [cond_eq_ite] at hz
          split at hz
          · rename_i hf
            simp only [Tree.run, Option.some.injEq, Prod.mk.injEq] at hd
            obtain ⟨rfl, rfl⟩ := hd
            rw [setN_eq]
            obtain ⟨hcl, hn, h1⟩ := fitL_ok ok hf hx
            have hn2 : vx.cells.toList.length = P.cellsOf t := by simpa using hn
            cases ha with
            | elp _ _ _ _ pos t' ver len cap _ hm hle hsc hv =>
              obtain ⟨rfl, rfl, rfl, hpos⟩ := h.row_at hb hm
              obtain ⟨hi, k, rfl, rfl⟩ := hv rfl
              obtain ⟨cur, r⟩ := hpos
              obtain ⟨e1, e2⟩ := r.elemL ok hy
              obtain ⟨s1, s2⟩ := setE_ok ok e1 hcl hn2 hz
              have s3 : sub + P.cellsOf t ≤ P.cellsOf t' := by simpa [Nat.min_def] using Nat.le_trans s2 (by simp; exact Nat.min_le_left _ _)
              exact ⟨_, store_cells hinf r.heap hn h1 (by omega), store_row ok h hm r hy hn2 (by omega) s3 s1⟩
          · cases hz
        · cases hd
      · cases hd
    · cases hd
  · rename_i b o te i sub
    rw [nth_eq] at hd
    split at hd
    · rename_i cs hb
      split at hd
      · rename_i t' n l hat
        rw [cond_eq_ite] at hd
        split at hd
        · rename_i hte
          obtain rfl := Nat.eq_of_beq_eq_true hte
          cases ha with
          | ap _ _ _ _ _ k hm =>
            obtain ⟨arr, e, hh, hrl⟩ := h.cells_at hb hm
            obtain ⟨hp1, hp2, hp3⟩ := packed_at ok hrl hat
            have hcl : ((arr.toList.drop o).take (n * P.cellsOf t')).length = n * P.cellsOf t' := by simp; omega
            rw [extract_toList] at hp1
            split at hd
            · rename_i m hmo
              obtain ⟨n', e', hu, hlf, hce⟩ := manyOf_ok hmo
              split at hd
              · rename_i t'' m' l'
                split at hd
                · rename_i ht''
                  subst ht''
                  rw [cond_eq_ite] at hd
                  split at hd
                  · rename_i hc
                    simp only [Bool.and_eq_true] at hc
                    obtain rfl := Nat.eq_of_beq_eq_true hc.1
                    obtain rfl := Nat.eq_of_beq_eq_true hc.2
                    simp only [Tree.run] at hd
                    split at hd
                    · rename_i him
                      have him := of_decide_eq_true him
                      split at hd
                      · rename_i r hr
                        simp only [Tree.run, Option.some.injEq, Prod.mk.injEq] at hd
                        obtain ⟨rfl, rfl⟩ := hd
                        rw [setN_eq]
                        obtain ⟨av, rfl, rav⟩ := hx
                        have hl' : l'.length = m := rav.1 _ m l' (by simp)
                        have hal : av.toList.length = m * P.cellsOf t'' := by
                          have := rav.2.1
                          rw [leaves_arr, flat_len ok, hl'] at this
                          exact this
                        have hval : (Value.agg av).cells.toList = av.toList := rfl
                        have hone : ∀ u ∈ (Value.agg av).cells.toList, u.oneCell' = true := by
                          rw [hval]; exact rav.scal ok rfl
                        have hq : i * P.cellsOf t'' + av.toList.length ≤ n * P.cellsOf t'' := by
                          rw [hal, ← Nat.add_mul]; exact Nat.mul_le_mul_right _ (by omega)
                        have hnew := hp1.splice (cs' := [.arr t'' n (l.take i ++ l' ++ l.drop (i + m))]) (o := i * P.cellsOf t'') rav (by
                          intro tt nn ll hmm
                          simp at hmm
                          obtain ⟨rfl, rfl, hmm⟩ := hmm
                          have := eq_of_heq hmm
                          subst this
                          simp; omega) (by rw [hcl]; exact hq) (by
                          rw [leaves_arr, leaves_arr, leaves_arr, List.flatMap_append, List.flatMap_append, flat_take ok, flat_drop ok, hal, Nat.add_mul])
                        have hput := hrl.put ok hnew (by
                          simp only [List.length_append, List.length_take, List.length_drop, hcl]
                          simp at hcl
                          omega) hr
                        rw [splice_nest arr.toList av.toList o (n * P.cellsOf t'') (i * P.cellsOf t'') hq (by simpa using hp3)] at hput
                        have hst := store_cells (t := t) (v := .agg av) (o := o + i * P.cellsOf t'') hinf hh (by rw [hce, ← hal]; simp [Value.cells]) hone (by rw [hce, ← hal]; omega)
                        rw [hval, hce, ← hal] at hst
                        refine ⟨_, hst, store_in h hm hh hput.1⟩
                      · cases hd
                    · cases hd
                  · cases hd
                · cases hd
              · cases hd
            · simp only [Tree.run] at hd
              obtain ⟨y, hy, hd⟩ := Option.bind_eq_some_iff.1 hd
              split at hd
              · rename_i z hz
                rw [cond_eq_ite] at hz
                split at hz
                · rename_i hf
                  split at hd
                  · rename_i r hr
                    simp only [Tree.run, Option.some.injEq, Prod.mk.injEq] at hd
                    obtain ⟨rfl, rfl⟩ := hd
                    rw [setN_eq]
                    obtain ⟨hcv, hn, h1⟩ := fitL_ok ok hf hx
                    have hn2 : vx.cells.toList.length = P.cellsOf t := by simpa using hn
                    have hlt : i < l.length := (List.getElem?_eq_some_iff.1 hy).1
                    have hisz : i * P.cellsOf t' + P.cellsOf t' ≤ n * P.cellsOf t' := by
                      rw [← Nat.succ_mul]; exact Nat.mul_le_mul_right _ (by omega)
                    have hel : RL P cd M Fz w (cd.enc t' y) ((((arr.toList.drop o).take (n * P.cellsOf t')).drop (i * P.cellsOf t')).take (P.cellsOf t')) := by
                      refine ⟨enc_okA ok t' y, ?_, ?_⟩
                      · rw [enc_plain_leaves ok, ok.len, List.length_take, List.length_drop, hcl]; omega
                      · intro j c v e1 e2
                        rw [enc_plain_leaves ok] at e1
                        rw [List.getElem?_take] at e2
                        split at e2
                        · rw [List.getElem?_drop] at e2
                          exact hp1.2.2 _ c v (by rw [leaves_arr]; exact elem_at ok hy j c e1) e2
                        · cases e2
                    obtain ⟨s1, s2⟩ := setE_ok ok hel hcv hn2 hz
                    have hell : (((((arr.toList.drop o).take (n * P.cellsOf t')).drop (i * P.cellsOf t')).take (P.cellsOf t'))).length = P.cellsOf t' := by
                      rw [List.length_take, List.length_drop, hcl]; omega
                    rw [hell] at s2
                    rw [← hn2] at s1 s2
                    have hnl : ((((((arr.toList.drop o).take (n * P.cellsOf t')).drop (i * P.cellsOf t')).take (P.cellsOf t')).take sub) ++ vx.cells.toList ++ (((((arr.toList.drop o).take (n * P.cellsOf t')).drop (i * P.cellsOf t')).take (P.cellsOf t')).drop (sub + vx.cells.toList.length))).length = P.cellsOf t' := by
                      have := s1.2.1
                      rw [enc_plain_leaves ok, ok.len] at this
                      exact this
                    have hnew := hp1.splice (cs' := [.arr t' n (l.set i z)]) (o := i * P.cellsOf t') s1 (by
                      intro tt nn ll hmm
                      simp at hmm
                      obtain ⟨rfl, rfl, hmm⟩ := hmm
                      have := eq_of_heq hmm
                      subst this
                      simpa using hp2) (by rw [hnl, hcl]; exact hisz) (by
                      rw [leaves_arr, leaves_arr, enc_plain_leaves ok, hnl, flat_set ok t' l i z hlt])
                    rw [hnl, splice_nest _ vx.cells.toList (i * P.cellsOf t') (P.cellsOf t') sub s2 (by rw [hcl]; exact hisz)] at hnew
                    have hq : i * P.cellsOf t' + sub + vx.cells.toList.length ≤ n * P.cellsOf t' := by omega
                    have hput := hrl.put ok hnew (by
                      simp only [List.length_append, List.length_take, List.length_drop, hcl]
                      simp at hcl
                      omega) hr
                    rw [splice_nest arr.toList vx.cells.toList o (n * P.cellsOf t') (i * P.cellsOf t' + sub) hq (by simpa using hp3)] at hput
                    have hst := store_cells (t := t) (v := vx) (o := o + i * P.cellsOf t' + sub) hinf hh hn h1 (by rw [← hn2]; omega)
                    rw [← hn2] at hst
                    rw [← Nat.add_assoc] at hput
                    refine ⟨_, hst, store_in h hm hh hput.1⟩
                  · cases hd
                · cases hz
              · cases hd
        · cases hd
      · cases hd
    · cases hd
  · cases hd
end
end Go.Ab
