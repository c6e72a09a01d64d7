/- Conversions, struct values, new blocks. -/
import Derived.Test.YtjhibcebipjbcaaAbOps6
import Derived.Great.BuildSlice
import Derived.Great.FillDense
set_option linter.unusedSimpArgs false
namespace Go.Ab
variable {U : Nat → Type}
section
variable {P : Program} {cd : Cd U} {M M' : Mp} {Fz Fz' : Nat → Prop} {w w' : World}

theorem byteSl_ok {t te : Nat} (h : byteSl P t te = true) : P.underlying te = some (.int .u8) ∧ P.underlying t = some (.slice te) := by
  unfold byteSl at h
  split at h
  · rename_i hu; exact ⟨hu, (slOf_ok h).1⟩
  · cases h
theorem bytes_run {src dst te : Nat} (hb : byteSl P src te = true) (hd : P.underlying dst = some .string) (ns : List Int) (a : Option Addr) (n c : Nat) (hn : ns.length = n)
    (h : 0 < n → ∃ k o, a = some (at0 k o) ∧ ∀ i, i < n → w.cell? (at0 k (o + i)) = some (.int .u8 (ns.getD i 0))) :
    (convert src dst (.slice a n c)).run P w = .ok (.string ⟨(ns.map fun n => UInt8.ofNat n.toNat).toArray⟩) w := by
  obtain ⟨he, hs⟩ := byteSl_ok hb
  rcases Nat.eq_zero_or_pos n with h0 | h0
  · subst h0
    have : ns = [] := List.length_eq_zero_iff.1 hn
    subst this
    cases a with
    | none => exact run_convert_bytes_nil w src te hs he 0 c dst hd
    | some ad =>
      obtain ⟨k, o, sp⟩ := ad
      cases sp with
      | none => exact run_convert_bytes_arg w src te hs he k o 0 c [] rfl (fun i hi => by omega) dst hd
      | some s =>
        rw [run_convert_bytes_string w src dst te _ 0 c hs he hd]
        simp [Conv.bytesToString, loadCells, loadCellsFrom, Result.andThen]
        rfl
  · obtain ⟨k, o, rfl, hc⟩ := h h0
    exact run_convert_bytes_arg w src te hs he k o n c ns hn hc dst hd
theorem bytes_cells (ok : CdOk P cd) {t : Nat} {l : List (U t)} {s : List UInt8} (h : cd.bytes t l = some s) : ∃ ns : List Int, ns.length = l.length ∧ s = ns.map (fun n => UInt8.ofNat n.toNat) ∧
    ∀ i, i < l.length → (l.flatMap (cd.enc t))[i]? = some (.int .u8 (ns.getD i 0)) := by
  obtain ⟨h1, ns, h2, h3⟩ := ok.bytes t l s h
  have hl : ns.length = l.length := by
    have := flat_len ok t l
    rw [h2, h1] at this
    simpa using this
  refine ⟨ns, hl, h3, fun i hi => ?_⟩
  rw [h2, List.getElem?_map, List.getD_eq_getElem?_getD, List.getElem?_eq_getElem (by omega : i < ns.length)]
  rfl
theorem conv_ok (ok : CdOk P cd) {hp : List (Blk U)} {id : Nat} (h : HR P cd M Fz hp w) (src dst : Nat) {x : V U} {vx : Value} (hx : RV P cd M Fz w x vx) : ValOk P cd M Fz w hp id (convert src dst vx) (convK P cd src dst x) := by
  unfold convK
  split
  · rename_i ts k hs hd
    split
    · obtain rfl := R1.int_inv hx
      refine .pur h (.one (v := .int k (k.wrap _)) ?_ (.int _ _))
      simp only [convert, Sem.run_bind, run_underlying hs, run_underlying hd, Result.andThen]
      rfl
    · exact .fail
  · rename_i hs hd
    split
    · obtain rfl := R1.str_inv hx
      refine .pur h (.one (v := .string _) ?_ (.str _))
      simp only [convert, Sem.run_bind, run_underlying hs, run_underlying hd, Result.andThen]
      rfl
    · exact .fail
  · rename_i e hs hd
    split
    · rename_i t l full
      refine .pur h ?_
      rw [cond_eq_ite]
      split
      · rename_i hb
        split
        · rename_i s hbs
          obtain ⟨ns, hnl, rfl, hns⟩ := bytes_cells ok hbs
          cases hx with
          | sl _ _ _ a cap f h1 h0 h2 h3 =>
            refine .one (v := .string _) (bytes_run hb hd ns a l.length cap hnl fun hpos => ?_) (.str _)
            obtain ⟨k, o, rfl, hk, hc⟩ := h2 (by intro e; subst e; simp at hpos)
            refine ⟨k, o, rfl, fun i hi => ?_⟩
            rw [hc i _ (hns i hi)]
            have := R1.int_inv (h3 i _ (hns i hi))
            rw [this]
        · exact .fail
      · exact .fail
    · rename_i b v
      refine .lod h fun blk hbk => ?_
      cases blk with
      | dead => exact .fail
      | cells cs => exact .fail
      | row t v' l =>
        simp only [cond_eq_ite]
        split
        · rename_i hc
          simp only [Bool.and_eq_true] at hc
          obtain rfl := Nat.eq_of_beq_eq_true hc.2
          split
          · rename_i s hbs
            obtain ⟨ns, hnl, rfl, hns⟩ := bytes_cells ok hbs
            cases hx with
            | row _ _ pos t' ver len cap _ hm hle hsc hv =>
              obtain ⟨rfl, rfl, rfl, hpos⟩ := h.row_at hbk hm
              have hv := hv rfl
              cases pos with
              | none =>
                obtain ⟨ad, rfl⟩ := hv
                have hpos : l = [] := hpos
                subst hpos
                exact .one (v := .string _) (bytes_run hc.1 hd ns ad 0 0 hnl fun hp => by omega) (.str _)
              | some k =>
                have hv : _ = _ := hv
                subst hv
                obtain ⟨cur, r⟩ := hpos
                refine .one (v := .string _) (bytes_run hc.1 hd ns _ l.length cap hnl fun hp => ⟨k, 0, rfl, fun i hi => ?_⟩) (.str _)
                obtain ⟨y, h1, h2⟩ := r.cells i _ (hns i hi)
                rw [cell_at r.heap, Nat.zero_add, h1, R1.int_inv h2]
          · exact .fail
        · exact .fail
    · rename_i b v lo n
      refine .lod h fun blk hbk => ?_
      cases blk with
      | dead => exact .fail
      | cells cs => exact .fail
      | row t v' l =>
        simp only [cond_eq_ite]
        split
        · rename_i hc
          simp only [Bool.and_eq_true] at hc
          obtain rfl := Nat.eq_of_beq_eq_true hc.2
          split
          · rename_i s hbs
            obtain ⟨ns, hnl, rfl, hns⟩ := bytes_cells ok hbs
            have h1s : P.cellsOf t = 1 := (ok.bytes t _ _ hbs).1
            cases hx with
            | own _ _ _ _ pos t' ver len cap _ hm hle hsc hv =>
              obtain ⟨rfl, rfl, rfl, hpos⟩ := h.row_at hbk hm
              obtain ⟨hlo, a, c, rfl, hnc, ha⟩ := hv rfl
              have hlen : ((l.drop lo).take n).length = n := by simp; omega
              refine .one (v := .string _) (bytes_run hc.1 hd ns a n c (by rw [hnl, hlen]) fun hp => ?_) (.str _)
              obtain ⟨k, rfl, rfl⟩ := ha hp
              obtain ⟨cur, r⟩ := hpos
              refine ⟨k, lo * P.cellsOf t', rfl, fun i hi => ?_⟩
              have := hns i (by rw [hlen]; exact hi)
              rw [flat_chunk ok, List.getElem?_take] at this
              split at this
              · rw [List.getElem?_drop] at this
                obtain ⟨y, h1, h2⟩ := r.cells _ _ this
                rw [cell_at r.heap, h1, R1.int_inv h2]
              · cases this
          · exact .fail
        · exact .fail
    · exact .fail
  · exact .fail

/-! ### new blocks -/
theorem HR.fresh {hp : List (Blk U)} (h : HR P cd M Fz hp w) {id : Nat} (hid : hp[id]? = some .dead) {x' : Blk U} {i' : Inf} {w' : World} (hsz : w.heap.size ≤ w'.heap.size) (hold : ∀ k, k < w.heap.size → w'.heap[k]? = w.heap[k]?)
    (hnew : ∀ k, i'.blk = some k → k < w'.heap.size ∧ w.heap.size ≤ k) (hx : Ext M (upd M id (some i')) → Frz Fz w Fz w' → RB P cd (upd M id (some i')) Fz w' id x') (hos : w'.os = w.os) (htape : w'.tape = w.tape) (hout : w'.output = w.output) {d : D U} {v : Value}
    (hd : Ext M (upd M id (some i')) → Frz Fz w Fz w' → RD P cd (upd M id (some i')) Fz w' d v) : Post P cd M Fz w d (hp.set id x') v w' := by
  have hM : M id = none := h.blk id _ hid
  have hlt : id < hp.length := (List.getElem?_eq_some_iff.1 hid).1
  have hle : ∀ i, M id = some i → Inf.Le i i' := fun i hi => by rw [hM] at hi; cases hi
  have he : Ext M (upd M id (some i')) := ext_upd hle
  have hf : Frz Fz w Fz w' := fun k hk => ⟨hk, hold k (h.frz k hk)⟩
  obtain ⟨h1, h2, h3⟩ := h.update (w' := w') id x' i' hlt hle hsz (fun k hk _ => hold k hk) (fun k hk => ⟨(hnew k hk).1, .inr (hnew k hk).2⟩) (hx he hf)
  refine ⟨_, Fz, hd he hf, h1, h2, h3, ⟨hos, htape, hout, hsz, fun k hk _ => hold k hk⟩, ?_, fun k hk => .inl hk⟩
  rintro k ⟨b, i, hb, hk⟩
  by_cases e : b = id
  · subst e
    rw [upd_same] at hb
    injection hb with hb
    subst hb
    exact .inr (hnew k hk).2
  · rw [upd_other _ _ e] at hb
    exact .inl ⟨b, i, hb, hk⟩
theorem alloc_old (w : World) (o : Obj) (k : Nat) (hk : k < w.heap.size) : (w.alloc o).heap[k]? = w.heap[k]? := heap_alloc_old w o k hk
theorem alloc_new (w : World) (o : Obj) : (w.alloc o).heap[w.heap.size]? = some o := heap_alloc_new w o
/-- a new variable -/
theorem new_cells {hp : List (Blk U)} {id : Nat} (h : HR P cd M Fz hp w) (hid : hp[id]? = some .dead) {cs : List (C U)} {arr : Array Value} {e : Nat} (hr : RL P cd M Fz w cs arr.toList) :
    Post P cd M Fz w (.v (.one (.ptr id 0))) (hp.set id (.cells cs)) (.pointer (some (at0 w.heap.size 0))) (w.alloc (.cells arr e)) := by
  refine h.fresh hid (i' := .cells w.heap.size) (by simp) (fun k hk => alloc_old w _ k hk) (fun k hk => ?_) (fun he hf => ?_) rfl rfl rfl (fun he hf => ?_)
  · simp only [Inf.blk, Option.some.injEq] at hk
    subst hk
    exact ⟨by simp, Nat.le_refl _⟩
  · exact ⟨w.heap.size, arr, e, upd_same .., alloc_new w _, hr.mono he hf⟩
  · exact .ptr id 0 w.heap.size (upd_same ..)
theorem box_ok {hp : List (Blk U)} {id : Nat} (h : HR P cd M Fz hp w) (hid : hp[id]? = some .dead) (t : Nat) {x : V U} {vx : Value} (hx : RV P cd M Fz w x vx) :
    ValOk P cd M Fz w hp id (Instr.box t vx) (.alo (boxB P t x) fun id => .ptr id 0) := by
  intro d hp' hd
  simp only [K.sem, boxB, cond_eq_ite] at hd
  split at hd
  · rename_i hf
    simp only [Tree.run, Option.map_some, Option.some.injEq, Prod.mk.injEq] at hd
    obtain ⟨rfl, rfl⟩ := hd
    rw [setN_eq]
    have hsol : solidL x.cells = true := by
      unfold fitL at hf
      rw [cond_eq_ite] at hf
      split at hf
      · exact hf
      · cases hf
    have hc : RL P cd M Fz w x.cells vx.cells.toList := hx.cells fun c e => by
      subst e
      exact R1.scal hx (solidL_mem hsol c (by simp [V.cells]))
    refine ⟨_, _, ?_, new_cells (e := t) h hid hc⟩
    simp [Instr.box, newVar, newRow, Result.andThen, at0]
  · cases hd

/-! ### zero values -/
theorem match1_ok {c : C U} {v : Value} (h : match1 c v = true) : R1 P cd M Fz w c v := by
  unfold match1 at h
  split at h
  · have := eq_of_beq h; subst this; exact .bool _
  · simp only [Bool.and_eq_true, decide_eq_true_eq] at h
    obtain ⟨rfl, rfl⟩ := h
    exact .int _ _
  · have := of_decide_eq_true h
    subst this
    rename_i t
    have : t = ⟨t.data.toList.toArray⟩ := by cases t; simp
    rw [this]
    exact .str _
  · rename_i full
    exact .sl _ [] full none 0 (fun _ => undef) (fun _ => rfl) (Nat.le_refl _) (fun e => absurd rfl e) (fun j c hj => by simp at hj)
  · exact .nilp
  · cases h
theorem matchL_ok : ∀ {cs : List (C U)} {vs : List Value}, matchL cs vs = true → vs.length = cs.length ∧ ∀ (j : Nat) c v, cs[j]? = some c → vs[j]? = some v → R1 P cd M Fz w c v
  | [], [], _ => ⟨rfl, fun j c v h => by simp at h⟩
  | [], _ :: _, h => by simp [matchL] at h
  | _ :: _, [], h => by simp [matchL] at h
  | c :: cs, v :: vs, h => by
    simp only [matchL, cond_eq_ite] at h
    split at h
    · rename_i h1
      obtain ⟨h2, h3⟩ := matchL_ok h
      refine ⟨by simp [h2], fun j c' v' e1 e2 => ?_⟩
      cases j with
      | zero => simp at e1 e2; subst e1; subst e2; exact match1_ok h1
      | succ j => exact h3 j c' v' (by simpa using e1) (by simpa using e2)
    · cases h
theorem okAB_ok : ∀ {cs : List (C U)}, okAB cs = true → okA cs
  | [], _ => fun _ _ _ h => by simp at h
  | c :: cs, h => by
    intro t n l hm
    cases c <;> simp only [okAB, cond_eq_ite] at h <;> first
      | (rcases List.mem_cons.1 hm with e | e
         · cases e
         · exact okAB_ok h t n l e)
      | skip
    split at h
    · rename_i h1
      rcases List.mem_cons.1 hm with e | e
      · cases e
        exact Nat.eq_of_beq_eq_true h1
      · exact okAB_ok h t n l e
    · cases h
theorem zeroC_ok {t : Nat} {cs : List (C U)} (h : zeroC P cd t = some cs) : ∃ i z, P.info? t = some i ∧ i.zero = some z ∧ ∀ M Fz w, RL P cd M Fz w cs z.cells.toList := by
  unfold zeroC at h
  split at h
  · rename_i cs' i h1 h2
    split at h
    · rename_i z hz
      rw [cond_eq_ite] at h
      split at h
      · rename_i hc
        simp only [Bool.and_eq_true] at hc
        injection h with h
        subst h
        refine ⟨i, z, h2, hz, fun M Fz w => ⟨okAB_ok hc.1, ?_, ?_⟩⟩
        · exact (matchL_ok (P := P) (cd := cd) (M := M) (Fz := Fz) (w := w) hc.2).1
        · exact (matchL_ok hc.2).2
      · cases h
    · cases h
  · cases h
theorem zeroE_ok (ok : CdOk P cd) {t : Nat} {x : U t} (h : zeroE P cd t = some x) : ∃ i z, P.info? t = some i ∧ i.zero = some z ∧ z.cells.size = P.cellsOf t ∧ ∀ M Fz w (j : Nat) c v, (cd.enc t x)[j]? = some c → z.cells[j]? = some v → R1 P cd M Fz w c v := by
  unfold zeroE at h
  split at h
  · rename_i x' i h1 h2
    split at h
    · rename_i z hz
      rw [cond_eq_ite] at h
      split at h
      · rename_i hc
        injection h with h
        subst h
        refine ⟨i, z, h2, hz, ?_, fun M Fz w j c v e1 e2 => ?_⟩
        · have := (matchL_ok (P := P) (cd := cd) (M := fun _ => none) (Fz := fun _ => False) (w := default) hc).1
          rw [ok.len] at this
          simpa using this
        · exact (matchL_ok hc).2 j c v e1 (by simpa using e2)
      · cases h
    · cases h
  · cases h
theorem alloc_ok {hp : List (Blk U)} {id : Nat} (h : HR P cd M Fz hp w) (hid : hp[id]? = some .dead) (t : Nat) (old : Value) :
    ValOk P cd M Fz w hp id (Instr.alloc t true old) (.alo (match zeroC P cd t with | some cs => .leaf (.cells cs) | none => .fail) fun id => .ptr id 0) := by
  intro d hp' hd
  simp only [K.sem] at hd
  split at hd
  · rename_i cs hz
    simp only [Tree.run, Option.map_some, Option.some.injEq, Prod.mk.injEq] at hd
    obtain ⟨rfl, rfl⟩ := hd
    rw [setN_eq]
    obtain ⟨i, z, hi, hz, hr⟩ := zeroC_ok hz
    refine ⟨_, _, ?_, new_cells (e := t) h hid (hr M Fz w)⟩
    simp [Instr.alloc, zeroValue, typeInfo, hi, hz, newVar, newRow, Result.andThen, at0]
  · cases hd

/-! ### struct values -/
theorem flat_set (ok : CdOk P cd) (t : Nat) : ∀ (l : List (U t)) (i : Nat) (y : U t), i < l.length →
    (l.set i y).flatMap (cd.enc t) = (l.flatMap (cd.enc t)).take (i * P.cellsOf t) ++ cd.enc t y ++ (l.flatMap (cd.enc t)).drop (i * P.cellsOf t + P.cellsOf t)
  | [], i, y, h => by simp at h
  | x :: l, 0, y, _ => by
    simp only [List.set_cons_zero, List.flatMap_cons, Nat.zero_mul, List.take_zero, List.nil_append, Nat.zero_add]
    rw [List.drop_append, ok.len, Nat.sub_self, (List.drop_of_length_le (by rw [ok.len]; exact Nat.le_refl _) : List.drop (P.cellsOf t) (cd.enc t x) = [])]
    simp
  | x :: l, i + 1, y, h => by
    have ih := flat_set ok t l i y (by simpa using h)
    simp only [List.set_cons_succ, List.flatMap_cons, ih]
    have e1 : (i + 1) * P.cellsOf t = P.cellsOf t + i * P.cellsOf t := by rw [Nat.add_mul, Nat.one_mul, Nat.add_comm]
    rw [e1, List.take_append, List.drop_append, ok.len]
    rw [(List.take_of_length_le (by rw [ok.len]; omega) : List.take (P.cellsOf t + i * P.cellsOf t) (cd.enc t x) = cd.enc t x)]
    rw [(List.drop_of_length_le (by rw [ok.len]; omega) : List.drop (P.cellsOf t + i * P.cellsOf t + P.cellsOf t) (cd.enc t x) = [])]
    simp only [Nat.add_sub_cancel_left, List.nil_append, List.append_assoc]
    rw [show P.cellsOf t + i * P.cellsOf t + P.cellsOf t - P.cellsOf t = i * P.cellsOf t + P.cellsOf t by omega]
theorem RL.splice {cs cs' new : List (C U)} {vs us : List Value} {o : Nat} (h : RL P cd M Fz w cs vs) (hn : RL P cd M Fz w new us) (hok : okA cs') (ho : o + us.length ≤ vs.length)
    (e : leaves cd cs' = (leaves cd cs).take o ++ leaves cd new ++ (leaves cd cs).drop (o + us.length)) : RL P cd M Fz w cs' (vs.take o ++ us ++ vs.drop (o + us.length)) := by
  refine ⟨hok, ?_, ?_⟩
  · rw [e]; simp [h.2.1, hn.2.1]
  · intro j c v h1 h2
    rw [e] at h1
    have e1 : ((leaves cd cs).take o).length = o := by simp; rw [← h.2.1]; omega
    have e2 : (vs.take o).length = o := by simp; omega
    rw [List.append_assoc] at h1 h2
    by_cases hj : j < o
    · rw [List.getElem?_append_left (by omega)] at h1 h2
      rw [List.getElem?_take, if_pos hj] at h1 h2
      exact h.2.2 j c v h1 h2
    · rw [List.getElem?_append_right (by omega)] at h1 h2
      rw [e1] at h1; rw [e2] at h2
      by_cases hk : j - o < us.length
      · rw [List.getElem?_append_left (by rw [← hn.2.1]; omega)] at h1
        rw [List.getElem?_append_left (by omega)] at h2
        exact hn.2.2 _ c v h1 h2
      · rw [List.getElem?_append_right (by rw [← hn.2.1]; omega)] at h1
        rw [List.getElem?_append_right (by omega)] at h2
        rw [← hn.2.1] at h1
        rw [List.getElem?_drop] at h1 h2
        exact h.2.2 _ c v h1 h2
theorem fold_splice (off : Nat) (vs : List Value) (cells : Array Value) (h : off + vs.length ≤ cells.size) :
    ((vs.zipIdx 0).foldl (fun cs (x : Value × Nat) => cs.setIfInBounds (off + x.2) x.1) cells).toList = cells.toList.take off ++ vs ++ cells.toList.drop (off + vs.length) := by
  obtain ⟨h1, h2⟩ := Go.Great.foldl_set off vs 0 cells
  apply List.ext_getElem?
  intro k
  rw [Array.getElem?_toList, h2 k, Nat.add_zero]
  have e2 : (cells.toList.take off).length = off := by simp; omega
  rw [List.append_assoc]
  by_cases hk : k < off
  · rw [if_neg (by omega), List.getElem?_append_left (by omega), List.getElem?_take, if_pos hk]
    simp
  · rw [List.getElem?_append_right (by omega), e2]
    by_cases hk2 : k - off < vs.length
    · rw [if_pos (by omega), List.getElem?_append_left hk2]
    · rw [if_neg (by omega), List.getElem?_append_right (by omega), List.getElem?_drop, show off + vs.length + (k - off - vs.length) = k by omega]
      simp
def RPs (P : Program) (cd : Cd U) (M : Mp) (Fz : Nat → Prop) (w : World) : List (Nat × V U) → List (Nat × Value) → Prop
  | [], [] => True
  | (i, x) :: r, (j, v) :: s => i = j ∧ RV P cd M Fz w x v ∧ RPs P cd M Fz w r s
  | _, _ => False
theorem fitL_ok (ok : CdOk P cd) {x : V U} {v : Value} {n : Nat} (h : fitL P x.cells n = true) (hx : RV P cd M Fz w x v) : RL P cd M Fz w x.cells v.cells.toList ∧ v.cells.size = n ∧ ∀ u ∈ v.cells.toList, u.oneCell' = true := by
  unfold fitL at h
  rw [cond_eq_ite] at h
  split at h
  · rename_i h1
    have h1 := Nat.eq_of_beq_eq_true h1
    have hc : RL P cd M Fz w x.cells v.cells.toList := hx.cells fun c e => by
      subst e
      exact R1.scal hx (solidL_mem h c (by simp [V.cells]))
    refine ⟨hc, ?_, hc.scal ok h⟩
    have := hc.2.1
    rw [leaves_len ok hc.1, h1] at this
    simpa using this
  · cases h
theorem fillC_ok (ok : CdOk P cd) {place : Nat → Option (Nat × Nat)} : ∀ {ps : List (Nat × V U)} {vs : List (Nat × Value)} {cs cs' : List (C U)} {cells : Array Value}, RL P cd M Fz w cs cells.toList → RPs P cd M Fz w ps vs → fillC P place cs ps = some cs' →
    ∃ r, Instr.fill place cells vs = some r ∧ RL P cd M Fz w cs' r.toList
  | [], [], cs, cs', cells, h, _, e => by
    simp only [fillC, Option.some.injEq] at e
    subst e
    exact ⟨cells, rfl, h⟩
  | [], _ :: _, _, _, _, _, h, _ => h.elim
  | _ :: _, [], _, _, _, _, h, _ => h.elim
  | (i, x) :: ps, (j, v) :: vs, cs, cs', cells, h, hp, e => by
    obtain ⟨rfl, hx, hr⟩ := hp
    simp only [fillC] at e
    split at e
    · rename_i o n hpl
      rw [cond_eq_ite] at e
      split at e
      · rename_i hf
        split at e
        · rename_i cs2 hput
          obtain ⟨hc, hn, _⟩ := fitL_ok ok hf hx
          obtain ⟨h1, h2⟩ := h.put ok hc (by simpa using hn) hput
          have hn2 : v.cells.toList.length = n := by simpa using hn
          have hsp := fold_splice o v.cells.toList cells (by rw [hn2]; simpa using h2)
          have h1' : RL P cd M Fz w cs2 ((v.cells.toList.zipIdx 0).foldl (fun cs (x : Value × Nat) => cs.setIfInBounds (o + x.2) x.1) cells).toList := by
            rw [hsp, hn2]
            exact h1
          obtain ⟨r, h3, h4⟩ := fillC_ok ok h1' hr e
          refine ⟨r, ?_, h4⟩
          unfold Instr.fill
          simp only [hpl]
          rw [if_neg (by simp [hn]; simpa using h2)]
          rw [← h3]
          congr 1
          rw [← Array.foldl_toList]
          simp [Array.toList_zipIdx]
        · cases e
      · cases e
    · cases e
end
end Go.Ab
