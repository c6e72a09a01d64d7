/- Struct and slice literals, make, stores. -/
import Derived.Test.YtjhibcebipjbcaaAbOps7
set_option linter.unusedSimpArgs false
namespace Go.Ab
variable {U : Nat → Type}
section
variable {P : Program} {cd : Cd U} {M M' : Mp} {Fz Fz' : Nat → Prop} {w w' : World}

/-- parts as they are evaluated -/
def RDs (P : Program) (cd : Cd U) (M : Mp) (Fz : Nat → Prop) (w : World) : List (Nat × D U) → List (Nat × Value) → Prop
  | [], [] => True
  | (i, x) :: r, (j, v) :: s => i = j ∧ RD P cd M Fz w x v ∧ RDs P cd M Fz w r s
  | _, _ => False
theorem typParts_ok {ft : Nat → Nat} : ∀ {ps : List (Nat × D U)} {vs : List (Nat × Value)} {qs : List (Nat × V U)}, RDs P cd M Fz w ps vs → typParts P ft ps = some qs → RPs P cd M Fz w qs vs
  | [], [], qs, _, e => by simp [typParts] at e; subst e; trivial
  | [], _ :: _, _, h, _ => h.elim
  | _ :: _, [], _, h, _ => h.elim
  | (i, x) :: ps, (j, v) :: vs, qs, h, e => by
    obtain ⟨rfl, hx, hr⟩ := h
    cases x with
    | tup xs => simp [typParts] at e
    | v x =>
      simp only [typParts] at e
      split at e
      · rename_i r he
        injection e with e
        subst e
        exact ⟨rfl, typV_ok hx, typParts_ok hr he⟩
      · cases e
theorem cells_of_info {t : Nat} (h : (P.info? t).isSome = true) : ∃ i, P.info? t = some i ∧ P.cellsOf t = i.size := by
  obtain ⟨i, hi⟩ := Option.isSome_iff_exists.1 h
  exact ⟨i, hi, by simp [Program.cellsOf, hi]⟩
theorem places_map : ∀ (fs : List Field), fs.all (fun f => (P.info? f.type).isSome) = true → fs.mapM (fun f => (P.info? f.type).map fun i => (f.offset, i.size)) = some (fs.map fun f => (f.offset, P.cellsOf f.type))
  | [], _ => rfl
  | f :: fs, h => by
    simp only [List.all_cons, Bool.and_eq_true] at h
    obtain ⟨i, hi, hc⟩ := cells_of_info h.1
    simp [List.mapM_cons, hi, places_map fs h.2, hc]
theorem arrFill_ok (ok : CdOk P cd) {te : Nat} : ∀ {ps : List (Nat × V U)} {vs : List (Nat × Value)} {l l' : List (U te)} {n : Nat} {cells : Array Value}, RL P cd M Fz w [.arr te n l] cells.toList → RPs P cd M Fz w ps vs → buildT.arrFill P cd te l ps = some l' →
    ∃ r, Instr.fill (fun i => some (i * P.cellsOf te, P.cellsOf te)) cells vs = some r ∧ RL P cd M Fz w [.arr te n l'] r.toList
  | [], [], l, l', n, cells, h, _, e => by
    simp only [buildT.arrFill, Option.some.injEq] at e
    subst e
    exact ⟨cells, rfl, h⟩
  | [], _ :: _, _, _, _, _, _, h, _ => h.elim
  | _ :: _, [], _, _, _, _, _, h, _ => h.elim
  | (i, x) :: ps, (j, v) :: vs, l, l', n, cells, h, hp, e => by
    obtain ⟨rfl, hx, hr⟩ := hp
    simp only [buildT.arrFill, cond_eq_ite] at e
    split at e
    · rename_i hc
      simp only [Bool.and_eq_true] at hc
      split at e
      · rename_i y hy
        rw [setN_eq] at e
        have hi : i < l.length := by simpa [Nat.blt_eq] using hc.1
        obtain ⟨hcl, hn, _⟩ := fitL_ok ok hc.2 hx
        have hl : l.length = n := h.1 te n l (by simp)
        have hcs : cells.size = l.length * P.cellsOf te := by
          have := h.2.1
          rw [leaves_arr, flat_len ok] at this
          simpa using this
        have hb : i * P.cellsOf te + P.cellsOf te ≤ cells.size := by
          rw [hcs, ← Nat.succ_mul]; exact Nat.mul_le_mul_right _ hi
        have hn2 : v.cells.toList.length = P.cellsOf te := by simpa using hn
        have hsp := fold_splice (i * P.cellsOf te) v.cells.toList cells (by rw [hn2]; exact hb)
        have hd := ok.dec te x.cells y hy M Fz w _ hcl
        have h1 : RL P cd M Fz w [.arr te n (l.set i y)] ((v.cells.toList.zipIdx 0).foldl (fun cs (x : Value × Nat) => cs.setIfInBounds (i * P.cellsOf te + x.2) x.1) cells).toList := by
          rw [hsp]
          refine h.splice hd ?_ (by rw [hn2]; simpa using hb) ?_
          · intro t k q hm
            simp at hm
            obtain ⟨rfl, rfl, hm⟩ := hm
            have := eq_of_heq hm
            subst this
            simpa using hl
          · rw [leaves_arr, leaves_arr, enc_plain_leaves ok, hn2, flat_set ok te l i y hi]
        obtain ⟨r, h3, h4⟩ := arrFill_ok ok h1 hr e
        refine ⟨r, ?_, h4⟩
        unfold Instr.fill
        simp only []
        rw [if_neg (by simp [hn]; exact hb)]
        rw [← h3]
        congr 1
        rw [← Array.foldl_toList]
        simp [Array.toList_zipIdx]
      · cases e
    · cases e
theorem build_ok (ok : CdOk P cd) (t : Nat) {parts : List (Nat × D U)} {vs : Array (Nat × Value)} (h : RDs P cd M Fz w parts vs.toList) : PurOk P cd M Fz w (Instr.build t vs) (buildT P cd t parts) := by
  unfold buildT
  split
  · rename_i z fs hz hu
    rw [cond_eq_ite]
    split
    · rename_i hall
      split
      · rename_i ps hps
        split
        · rename_i cs hcs
          obtain ⟨i, zv, hi, hzv, hr⟩ := zeroC_ok hz
          obtain ⟨r, h1, h2⟩ := fillC_ok ok (hr M Fz w) (typParts_ok h hps) hcs
          refine .leaf (v := .agg r) (run_build w t vs r ?_) ⟨r, rfl, h2⟩
          unfold Program.built
          simp only [hi, hu, hzv, places_map _ hall]
          rw [← h1]
          congr 1
          funext k
          simp only [fieldOff, hu]
          cases hk : fs[k]? with
          | none => simp [hk]
          | some f => simp [hk]
        · exact .fail
      · exact .fail
    · exact .fail
  · rename_i z n e hz hu
    rw [cond_eq_ite]
    split
    · rename_i hinf
      obtain ⟨ie, hie, hce⟩ := cells_of_info hinf
      split
      · rename_i ps hps
        unfold buildT.arrT
        split
        · rename_i te m l
          rw [cond_eq_ite]
          split
          · rename_i hte
            obtain rfl := Nat.eq_of_beq_eq_true hte
            split
            · rename_i l' hl'
              obtain ⟨i, zv, hi, hzv, hr⟩ := zeroC_ok hz
              obtain ⟨r, h1, h2⟩ := arrFill_ok ok (hr M Fz w) (typParts_ok h hps) hl'
              refine .leaf (v := .agg r) (run_build w t vs r ?_) ⟨r, rfl, h2⟩
              unfold Program.built
              simp only [hi, hu, hzv, hie, ← hce]
              exact h1
            · exact .fail
          · exact .fail
        · exact .fail
      · exact .fail
    · exact .fail
  · exact .fail

/-! ### rows that are made -/
theorem new_row {hp : List (Blk U)} {id : Nat} (h : HR P cd M Fz hp w) (hid : hp[id]? = some .dead) {t : Nat} {l : List (U t)} {arr : Array Value} {cap : Nat} (hle : l.length ≤ cap) (hmax : cap ≤ maxLen) (hsz : arr.size = cap * P.cellsOf t)
    (hc : ∀ (j : Nat) c, (l.flatMap (cd.enc t))[j]? = some c → ∃ v, arr[j]? = some v ∧ R1 P cd M Fz w c v) (w1 : World) (hw : w1.heap = w.heap) (hos : w1.os = w.os) (htape : w1.tape = w.tape) (hout : w1.output = w.output) :
    Post P cd M Fz w (.v (.one (.row id 0))) (hp.set id (.row t 0 l)) (.slice (some (at0 w.heap.size 0)) l.length cap) (w1.alloc (.cells arr t)) := by
  have hold : ∀ k, k < w.heap.size → (w1.alloc (.cells arr t)).heap[k]? = w.heap[k]? := fun k hk => by rw [alloc_old w1 _ k (by rw [hw]; exact hk), hw]
  refine h.fresh hid (i' := .row (some w.heap.size) t 0 l.length cap) (by simp [hw]) hold (fun k hk => ?_) (fun he hf => ?_) hos htape hout (fun he hf => ?_)
  · simp only [Inf.blk, Option.some.injEq] at hk
    subst hk
    exact ⟨by simp [hw], Nat.le_refl _⟩
  · refine ⟨some w.heap.size, cap, upd_same .., arr, ?_, hle, hmax, hsz, fun j c hj => ?_⟩
    · rw [← hw]; exact alloc_new w1 _
    · obtain ⟨v, h1, h2⟩ := hc j c hj
      exact ⟨v, h1, h2.mono he hf⟩
  · exact .row id 0 _ _ _ _ _ _ (upd_same ..) (Nat.le_refl _) rfl fun _ => rfl
theorem decParts_ok (ok : CdOk P cd) {e : Nat} : ∀ {ps : List (Nat × D U)} {vs : List (Nat × Value)} {l : List (U e)} {j : Nat}, RDs P cd M Fz w ps vs → decParts P cd e j ps = some l →
    l.length = ps.length ∧ vs = ((vs.map (·.2)).zipIdx j).map (fun x => (x.2, x.1)) ∧ (∀ v ∈ vs.map (·.2), v.cells.size = P.cellsOf e) ∧
    ∀ (k : Nat) c, (l.flatMap (cd.enc e))[k]? = some c → ∃ v, ((vs.map (·.2)).flatMap fun v => v.cells.toList)[k]? = some v ∧ R1 P cd M Fz w c v
  | [], [], l, j, _, e => by
    simp only [decParts, Option.some.injEq] at e
    subst e
    exact ⟨rfl, rfl, by simp, fun k c h => by simp at h⟩
  | [], _ :: _, _, _, h, _ => h.elim
  | _ :: _, [], _, _, h, _ => h.elim
  | (i, x) :: ps, (i', v) :: vs, l, j, h, he => by
    obtain ⟨rfl, hx, hr⟩ := h
    cases x with
    | tup xs => simp [decParts] at he
    | v x =>
      simp only [decParts, cond_eq_ite] at he
      split at he
      · rename_i hij
        simp only [Bool.and_eq_true] at hij
        obtain rfl := Nat.eq_of_beq_eq_true hij.1
        split at he
        · rename_i y l' hy hl'
          injection he with he
          subst he
          obtain ⟨h1, h2, h3, h4⟩ := decParts_ok ok hr hl'
          obtain ⟨hcl, hn, _⟩ := fitL_ok ok hij.2 (typV_ok (t := e) hx)
          have hd := ok.dec e _ y hy M Fz w _ hcl
          refine ⟨by simp [h1], ?_, ?_, ?_⟩
          · simp only [List.map_cons, List.zipIdx_cons]
            rw [← h2]
          · intro u hu
            simp only [List.map_cons, List.mem_cons] at hu
            rcases hu with rfl | hu
            · exact hn
            · exact h3 u hu
          · intro k c hk
            simp only [List.flatMap_cons] at hk
            simp only [List.map_cons, List.flatMap_cons]
            have hl1 : (cd.enc e y).length = v.cells.toList.length := by rw [ok.len]; simpa using hn.symm
            by_cases hlt : k < (cd.enc e y).length
            · rw [List.getElem?_append_left hlt] at hk
              rw [List.getElem?_append_left (by omega)]
              have hlt2 : k < v.cells.toList.length := by omega
              exact ⟨_, List.getElem?_eq_getElem hlt2, hd.2.2 k c _ (by rw [enc_plain_leaves ok]; exact hk) (List.getElem?_eq_getElem hlt2)⟩
            · rw [List.getElem?_append_right (by omega)] at hk
              rw [List.getElem?_append_right (by omega), ← hl1]
              exact h4 _ c hk
        · cases he
      · cases he
theorem buildSlice_ok (ok : CdOk P cd) {hp : List (Blk U)} {id : Nat} (h : HR P cd M Fz hp w) (hid : hp[id]? = some .dead) (t len : Nat) {parts : List (Nat × D U)} {vs : Array (Nat × Value)} (hv : RDs P cd M Fz w parts vs.toList) :
    ValOk P cd M Fz w hp id (Instr.buildSlice t len vs) (.alo (buildSliceT P cd t len parts) fun id => .row id 0) := by
  intro d hp' hd
  simp only [K.sem, buildSliceT] at hd
  split at hd
  · rename_i e hu
    rw [cond_eq_ite] at hd
    split at hd
    · rename_i hc
      simp only [Bool.and_eq_true] at hc
      obtain ⟨⟨⟨hze, hlen⟩, hsm⟩, hpos⟩ := hc
      have hlen := Nat.eq_of_beq_eq_true hlen
      have hsm := Nat.le_of_ble_eq_true hsm
      have hpos : 0 < P.cellsOf e := by simpa [Nat.blt_eq] using hpos
      split at hd
      · rename_i l hl
        simp only [Tree.run, Option.map_some, Option.some.injEq, Prod.mk.injEq] at hd
        obtain ⟨rfl, rfl⟩ := hd
        rw [setN_eq]
        obtain ⟨h1, h2, h3, h4⟩ := decParts_ok ok hv hl
        have hll : l.length = len := by rw [h1, hlen]
        obtain ⟨zx, hzx⟩ := Option.isSome_iff_exists.1 hze
        obtain ⟨ie, z, hie, hz, hzs, _⟩ := zeroE_ok ok hzx
        have hsz : ie.size = P.cellsOf e := by simp [Program.cellsOf, hie]
        have hvl : (vs.toList.map (·.2)).length = len := by
          have : vs.toList.length = parts.length := by
            clear h1 h2 h3 h4 hl hlen
            have : ∀ (ps : List (Nat × D U)) (us : List (Nat × Value)), RDs P cd M Fz w ps us → us.length = ps.length := by
              intro ps
              induction ps with
              | nil => intro us hu; cases us with | nil => rfl | cons _ _ => exact hu.elim
              | cons p ps ih =>
                intro us hu
                cases us with
                | nil => exact hu.elim
                | cons q us => simp [ih us hu.2.2]
            exact this _ _ hv
          rw [List.length_map, this, hlen]
        have hfill := Go.Great.fill_whole (s := P.cellsOf e) hpos (vs.toList.map (·.2)) ((Array.range (len * P.cellsOf e)).map (z.cells[· % z.cells.size]!)) h3 (by rw [hvl]; simp)
        rw [← h2] at hfill
        rcases Nat.eq_zero_or_pos len with h0 | h0
        · subst h0
          have hl0 : l = [] := List.length_eq_zero_iff.1 hll
          subst hl0
          have hv0 : vs.toList = [] := by
            have : (vs.toList.map (·.2)).length = 0 := hvl
            simpa using this
          refine ⟨.slice (some (at0 w.heap.size 0)) 0 0, w.alloc (.cells #[] e), ?_, ?_⟩
          · simp [Instr.buildSlice, run_underlying hu, sizeOf, typeInfo, hie, Result.andThen, hv0, Instr.fill, newRow, at0, Array.range_zero']
          · exact new_row h hid (l := []) (arr := #[]) (cap := 0) (Nat.le_refl _) (by simp [maxLen]) (by simp) (fun j c hj => by simp at hj) w rfl rfl rfl rfl
        · refine ⟨_, _, run_buildSlice w t e len vs _ ie z hu hie hz (by rw [hsz]; omega) (by rw [hsz]; exact Nat.ne_of_gt (Nat.mul_pos h0 hpos)) (by rw [hsz]; exact hfill), ?_⟩
          rw [← hll]
          refine new_row h hid (Nat.le_refl _) ?_ ?_ (fun j c hj => ?_) w rfl rfl rfl rfl
          · have : l.length * 1 ≤ l.length * P.cellsOf e := Nat.mul_le_mul_left _ hpos
            rw [hll] at this ⊢
            simp only [maxLen]
            omega
          · have : ∀ us : List Value, (∀ v ∈ us, v.cells.size = P.cellsOf e) → (us.flatMap fun v => v.cells.toList).length = us.length * P.cellsOf e := by
              intro us
              induction us with
              | nil => simp
              | cons u us ih =>
                intro hu
                simp only [List.flatMap_cons, List.length_append, List.length_cons, ih fun v hv => hu v (by simp [hv]), Nat.add_mul, Nat.one_mul]
                have := hu u (by simp)
                simp [this, Nat.add_comm]
            have := this _ h3
            rw [hvl] at this
            simpa [hll] using this
          · obtain ⟨v, k1, k2⟩ := h4 j c hj
            exact ⟨v, by simpa using k1, k2⟩
      · cases hd
    · cases hd
  · cases hd
theorem makeSlice_ok (ok : CdOk P cd) {hp : List (Blk U)} {id : Nat} (h : HR P cd M Fz hp w) (hid : hp[id]? = some .dead) (t : Nat) {x y : V U} {vx vy : Value} (hx : RV P cd M Fz w x vx) (hy : RV P cd M Fz w y vy) :
    ValOk P cd M Fz w hp id (Instr.makeSlice t vx vy) (.alo (makeSliceT P cd t x y) fun id => .row id 0) := by
  intro d hp' hd
  simp only [K.sem, makeSliceT] at hd
  split at hd
  · rename_i n m
    obtain rfl := R1.int_inv hx
    obtain rfl := R1.int_inv hy
    split at hd
    · rename_i e hu
      rw [cond_eq_ite] at hd
      split at hd
      case isFalse => cases hd
      rename_i hbp
      have hbp : 0 < P.bytesOf e := by simpa [Nat.blt_eq] using hbp
      split at hd
      · rename_i z hz
        simp only [Tree.run] at hd
        split at hd
        · rename_i c1
          split at hd
          · rename_i c2
            split at hd
            · rename_i c3
              have c1 := of_decide_eq_true c1
              have c2 := of_decide_eq_true c2
              have c3 := of_decide_eq_true c3
              subst c1
              simp only [Option.map_some, Option.some.injEq, Prod.mk.injEq] at hd
              obtain ⟨rfl, rfl⟩ := hd
              rw [setN_eq]
              obtain ⟨ie, zv, hie, hzv, hzs, hzr⟩ := zeroE_ok ok hz
              have hsz : ie.size = P.cellsOf e := by simp [Program.cellsOf, hie]
              have hby : ie.bytes = P.bytesOf e := by simp [Program.bytesOf, hie]
              have h63 : n ≤ 9223372036854775807 := by
                have h1 : (1 : Int) * n ≤ (P.bytesOf e : Int) * n := Int.mul_le_mul_of_nonneg_right (by omega) c2
                omega
              · refine ⟨_, _, run_make w t e ie zv hu hie hzv .i64 .i64 n n c2 (Int.le_refl _) (by rw [hby]; exact c3) h63, ?_⟩
                have hl : (List.replicate n.toNat z).length = n.toNat := by simp
                have := new_row h hid (l := List.replicate n.toNat z) (arr := madeCells zv.cells (n.toNat * ie.size)) (cap := n.toNat) (by simp) (by simp only [maxLen]; omega) (by rw [size_madeCells, hsz]) ?_ w rfl rfl rfl rfl
                · rw [hl] at this
                  exact this
                · intro j c hj
                  have hjl := (List.getElem?_eq_some_iff.1 hj).1
                  rw [flat_len ok, hl] at hjl
                  have hpos : 0 < P.cellsOf e := by
                    rcases Nat.eq_zero_or_pos (P.cellsOf e) with h0 | h0
                    · rw [h0] at hjl; omega
                    · exact h0
                  have hmod : j % P.cellsOf e < zv.cells.size := by rw [hzs]; exact Nat.mod_lt _ hpos
                  refine ⟨zv.cells[j % P.cellsOf e]'hmod, ?_, ?_⟩
                  · simp only [madeCells, hsz]
                    rw [Array.getElem?_map, Array.getElem?_range]
                    rw [if_pos (by simpa using hjl)]
                    simp only [Option.map_some, hzs]
                    rw [getElem!_pos zv.cells (j % P.cellsOf e) hmod]
                  · refine hzr M Fz w (j % P.cellsOf e) c _ ?_ (Array.getElem?_eq_getElem hmod)
                    have hq : j / P.cellsOf e < n.toNat := by
                      rw [Nat.div_lt_iff_lt_mul hpos]; exact hjl
                    have he := elem_at (cd := cd) ok (l := List.replicate n.toNat z) (i := j / P.cellsOf e) (x := z) (by simp [hq]) (j % P.cellsOf e)
                    have hsome : j % P.cellsOf e < (cd.enc e z).length := by rw [ok.len]; exact Nat.mod_lt _ hpos
                    have h5 := he _ (List.getElem?_eq_getElem hsome)
                    rw [show j / P.cellsOf e * P.cellsOf e + j % P.cellsOf e = j by rw [Nat.mul_comm]; exact Nat.div_add_mod j _] at h5
                    rw [List.getElem?_eq_getElem hsome]
                    rw [hj] at h5
                    exact h5.symm
            · cases hd
          · cases hd
        · cases hd
      · cases hd
    · cases hd
  · cases hd
end
end Go.Ab
