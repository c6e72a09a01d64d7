/- A region's operation in memory. -/
import Derived.Test.YtfdndagnolbnhaaGreatYAbOps7
import Derived.Lib.AppendStr
import Derived.MapKept
section
set_option linter.unusedSimpArgs false
namespace Go.Ab
variable {U : Nat → Type}
section
variable {P : Program} {cd : Cd U} {M M' : Mp} {Fz Fz' : Nat → Prop} {w w' : World}

def RDs (P : Program) (cd : Cd U) (M : Mp) (Fz : Nat → Prop) (w : World) : List (Nat × D U) → List (Nat × Value) → Prop
  | [], [] => True
  | (i, x) :: r, (j, v) :: s => i = j ∧ RD P cd M Fz w x v ∧ RDs P cd M Fz w r s
  | _, _ => False
theorem zms {ft : Nat → Nat} : ∀ {ps : List (Nat × D U)} {vs : List (Nat × Value)} {qs : List (Nat × V U)}, RDs P cd M Fz w ps vs → zh0 P ft ps = some qs → RPs P cd M Fz w qs vs
  | [], [], qs, _, e => by simp [zh0] at e; subst e; trivial
  | [], _ :: _, _, h, _ => h.elim
  | _ :: _, [], _, h, _ => h.elim
  | (i, x) :: ps, (j, v) :: vs, qs, h, e => by
    obtain ⟨rfl, hx, hr⟩ := h
    cases x with
    | tup xs => simp [zh0] at e
    | v x =>
      simp only [zh0] at e
      split at e
      · rename_i r he
        injection e with e
        subst e
        exact ⟨rfl, zlk hx, zms hr he⟩
      · cases e
theorem zg9 {t : Nat} (h : (P.info? t).isSome = true) : ∃ i, P.info? t = some i ∧ P.cellsOf t = i.size := by
  obtain ⟨i, hi⟩ := Option.isSome_iff_exists.1 h
  exact ⟨i, hi, by simp [Program.cellsOf, hi]⟩
theorem z1ip : ∀ (fs : List Field), fs.all (fun f => (P.info? f.type).isSome) = true → fs.mapM (fun f => (P.info? f.type).map fun i => (f.offset, i.size)) = some (fs.map fun f => (f.offset, P.cellsOf f.type))
  | [], _ => rfl
  | f :: fs, h => by
    simp only [List.all_cons, Bool.and_eq_true] at h
    obtain ⟨i, hi, hc⟩ := zg9 h.1
    simp [List.mapM_cons, hi, z1ip fs h.2, hc]
theorem z1hl (ok : CdOk P cd) {te : Nat} : ∀ {ps : List (Nat × V U)} {vs : List (Nat × Value)} {l l' : List (U te)} {n : Nat} {cells : Array Value}, RL P cd M Fz w [.arr te n l] cells.toList → RPs P cd M Fz w ps vs → buildT.arrFill P cd te l ps = some l' →
    ∃ r, Instr.fill (fun i => some (i * P.cellsOf te, P.cellsOf te)) cells vs = some r ∧ RL P cd M Fz w [.arr te n l'] r.toList
  | [], [], l, l', n, cells, h, _, e => by
    simp only [buildT.arrFill, Option.some.injEq] at e
    subst e
    exact ⟨cells, rfl, h⟩
  | [], _ :: _, _, _, _, _, _, h, _ => h.elim
  | _ :: _, [], _, _, _, _, _, h, _ => h.elim
  | (i, x) :: ps, (j, v) :: vs, l, l', n, cells, h, hp, e => by
    obtain ⟨rfl, hx, hr⟩ := hp
    simp only [buildT.arrFill, cond_eq_ite] at e
    split at e
    · rename_i hc
      simp only [Bool.and_eq_true] at hc
      split at e
      · rename_i y hy
        rw [z3g] at e
        have hi : i < l.length := by simpa [Nat.blt_eq] using hc.1
        obtain ⟨hcl, hn, _⟩ := zla ok hc.2 hx
        have hl : l.length = n := h.1 te n l (by simp)
        have hcs : cells.size = l.length * P.cellsOf te := by
          have := h.2.1
          rw [z1x, z1p ok] at this
          simpa using this
        have hb : i * P.cellsOf te + P.cellsOf te ≤ cells.size := by
          rw [hcs, ← Nat.succ_mul]; exact Nat.mul_le_mul_right _ hi
        have hn2 : v.cells.toList.length = P.cellsOf te := by simpa using hn
        have hsp := z1dh (i * P.cellsOf te) v.cells.toList cells (by rw [hn2]; exact hb)
        have hd := ok.dec te x.cells y hy M Fz w _ hcl
        have h1 : RL P cd M Fz w [.arr te n (l.set i y)] ((v.cells.toList.zipIdx 0).foldl (fun cs (x : Value × Nat) => cs.setIfInBounds (i * P.cellsOf te + x.2) x.1) cells).toList := by
          rw [hsp]
          refine h.splice hd ?_ (by rw [hn2]; simpa using hb) ?_
          · intro t k q hm
            simp at hm
            obtain ⟨rfl, rfl, hm⟩ := hm
            have := eq_of_heq hm
            subst this
            simpa using hl
          · rw [z1x, z1x, z1i ok, hn2, zqu ok te l i y hi]
        obtain ⟨r, h3, h4⟩ := z1hl ok h1 hr e
        refine ⟨r, ?_, h4⟩
        unfold Instr.fill
        simp only []
        rw [if_neg (by simp [hn]; exact hb)]
        rw [← h3]
        congr 1
        rw [← Array.foldl_toList]
        simp [Array.toList_zipIdx]
      · cases e
    · cases e
theorem z20m (ok : CdOk P cd) (t : Nat) {parts : List (Nat × D U)} {vs : Array (Nat × Value)} (h : RDs P cd M Fz w parts vs.toList) : PurOk P cd M Fz w (Instr.build t vs) (buildT P cd t parts) := by
  unfold buildT
  split
  · rename_i z fs hz hu
    rw [cond_eq_ite]
    split
    · rename_i hall
      split
      · rename_i ps hps
        split
        · rename_i cs hcs
          obtain ⟨i, zv, hi, hzv, hr⟩ := z11d hz
          obtain ⟨r, h1, h2⟩ := z1dv ok (hr M Fz w) (zms h hps) hcs
          refine .leaf (v := .agg r) (run_build w t vs r ?_) ⟨r, rfl, h2⟩
          unfold Program.built
          simp only [hi, hu, hzv, z1ip _ hall]
          rw [← h1]
          congr 1
          funext k
          simp only [zgp, hu]
          cases hk : fs[k]? with
          | none => simp [hk]
          | some f => simp [hk]
        · exact .fail
      · exact .fail
    · exact .fail
  · rename_i z n e hz hu
    rw [cond_eq_ite]
    split
    · rename_i hinf
      obtain ⟨ie, hie, hce⟩ := zg9 hinf
      split
      · rename_i ps hps
        unfold buildT.arrT
        split
        · rename_i te m l
          rw [cond_eq_ite]
          split
          · rename_i hte
            obtain rfl := Nat.eq_of_beq_eq_true hte
            split
            · rename_i l' hl'
              obtain ⟨i, zv, hi, hzv, hr⟩ := z11d hz
              obtain ⟨r, h1, h2⟩ := z1hl ok (hr M Fz w) (zms h hps) hl'
              refine .leaf (v := .agg r) (run_build w t vs r ?_) ⟨r, rfl, h2⟩
              unfold Program.built
              simp only [hi, hu, hzv, hie, ← hce]
              exact h1
            · exact .fail
          · exact .fail
        · split
          · rename_i cs hcs
            obtain ⟨i, zv, hi, hzv, hr⟩ := z11d hz
            obtain ⟨r, h1, h2⟩ := z1dv ok (hr M Fz w) (zms h hps) hcs
            refine .leaf (v := .agg r) (run_build w t vs r ?_) ⟨r, rfl, h2⟩
            unfold Program.built
            simp only [hi, hu, hzv, hie, ← hce]
            exact h1
          · exact .fail
      · exact .fail
    · exact .fail
  · exact .fail

/-! ### rows that are made -/
theorem z217 {hp : List (Blk U)} {id : Nat} (h : HR P cd M Fz hp w) (hid : hp[id]? = some .dead) {t : Nat} {l : List (U t)} {arr : Array Value} {cap : Nat} (hle : l.length ≤ cap) (hmax : cap ≤ maxLen) (hsz : arr.size = cap * P.cellsOf t)
    (hc : ∀ (j : Nat) c, (l.flatMap (cd.enc t))[j]? = some c → ∃ v, arr[j]? = some v ∧ R1 P cd M Fz w c v) (w1 : World) (hw : w1.heap = w.heap) (hos : w1.os = w.os) (htape : w1.tape = w.tape) (hout : w1.output = w.output) :
    Post P cd M Fz w (.v (.one (.row id 0))) (hp.set id (.row t 0 l)) (.slice (some (at0 w.heap.size 0)) l.length cap) (w1.alloc (.cells arr t)) := by
  have hold : ∀ k, k < w.heap.size → (w1.alloc (.cells arr t)).heap[k]? = w.heap[k]? := fun k hk => by rw [alloc_old w1 _ k (by rw [hw]; exact hk), hw]
  refine h.fresh hid (i' := .row (some w.heap.size) t 0 l.length cap) (by simp [hw]) hold (fun k hk => ?_) (fun he hf => ?_) hos htape hout (fun he hf => ?_)
  · simp only [Inf.blk, Option.some.injEq] at hk
    subst hk
    exact ⟨by simp [hw], Nat.le_refl _⟩
  · refine ⟨some w.heap.size, cap, z1w .., arr, ?_, hle, hmax, hsz, fun j c hj => ?_⟩
    · rw [← hw]; exact z17t w1 _
    · obtain ⟨v, h1, h2⟩ := hc j c hj
      exact ⟨v, h1, h2.mono he hf⟩
  · exact .row id 0 _ _ _ _ _ _ (z1w ..) (Nat.le_refl _) rfl fun _ => rfl
theorem z22x (ok : CdOk P cd) {hp : List (Blk U)} (h : HR P cd M Fz hp w) {t : Nat} {l : List (U t)} {arr : Array Value} {cap : Nat} (hle : l.length ≤ cap)
    (hc : ∀ (j : Nat) c, (l.flatMap (cd.enc t))[j]? = some c → ∃ v, arr[j]? = some v ∧ R1 P cd M Fz w c v) (w1 : World) (hw : w1.heap = w.heap) (hos : w1.os = w.os) (htape : w1.tape = w.tape) (hout : w1.output = w.output) :
    Post P cd M Fz w (.v (.one (.sl t l false))) hp (.slice (some (at0 w.heap.size 0)) l.length cap) (w1.alloc (.cells arr t)) := by
  have hold : ∀ k, k < w.heap.size → (w1.alloc (.cells arr t)).heap[k]? = w.heap[k]? := fun k hk => by rw [alloc_old w1 _ k (by rw [hw]; exact hk), hw]
  have hnew : (w1.alloc (.cells arr t)).heap[w.heap.size]? = some (.cells arr t) := by rw [← hw]; exact z17t w1 _
  have hsz : (w1.alloc (.cells arr t)).heap.size = w.heap.size + 1 := by simp [hw]
  have hf : Frz Fz w (fun k => Fz k ∨ k = w.heap.size) (w1.alloc (.cells arr t)) := fun k hk => ⟨.inl hk, hold k (h.frz k hk)⟩
  refine ⟨M, fun k => Fz k ∨ k = w.heap.size, ?_, ?_, .refl _, hf, ⟨hos, htape, hout, by omega, fun k hk _ => hold k hk⟩, fun k hk => .inl hk, fun k hk => ?_⟩
  · refine R1.sl t l false _ _ (fun j => arr.getD j undef) (fun h => by cases h) hle (fun _ => ⟨w.heap.size, 0, rfl, .inr rfl, fun j c hj => ?_⟩) (fun j c hj => ?_)
    · obtain ⟨v, h1, _⟩ := hc j c hj
      have hlt := (Array.getElem?_eq_some_iff.1 h1).1
      rw [zha hnew, Nat.zero_add, Array.getElem?_eq_getElem hlt]
      simp [Array.getD, hlt]
    · obtain ⟨v, h1, h2⟩ := hc j c hj
      have hlt := (Array.getElem?_eq_some_iff.1 h1).1
      have : arr.getD j undef = v := by
        rw [Array.getElem?_eq_getElem hlt] at h1
        simp [Array.getD, hlt]
        exact Option.some.inj h1
      rw [this]
      exact h2.mono (.refl _) hf
  · refine ⟨fun b x hx => RB.grow (h.blk b x hx) hf (fun k i h3 h4 => hold k (h.lt b i k h3 h4)), h.out, h.inj, fun b i k h3 h4 h5 => ?_, h.fz.mono hf fun k hk => ?_, fun b i k h3 h4 => by have := h.lt b i k h3 h4; omega⟩
    · rcases h5 with h5 | h5
      · exact h.apart b i k h3 h4 h5
      · have := h.lt b i k h3 h4; omega
    · rcases hk with hk | hk
      · have := h.frz k hk; omega
      · omega
  · rcases hk with hk | hk
    · exact .inl hk
    · exact .inr (.inr (by omega))
def Both (P : Program) (cd : Cd U) (M : Mp) (Fz : Nat → Prop) (w : World) (hp : List (Blk U)) (id : Nat) (d : D U) (hp' : List (Blk U)) (v : Value) (w' : World) : Prop :=
  Post P cd M Fz w d hp' v w' ∧ ∀ e n l, hp' = hp.set id (.row e n l) → Post P cd M Fz w (.v (.one (.sl e l false))) hp v w'
theorem z1k1 (ok : CdOk P cd) {hp : List (Blk U)} {id : Nat} (h : HR P cd M Fz hp w) (hid : hp[id]? = some .dead) {t : Nat} {l : List (U t)} {arr : Array Value} {cap : Nat} (hle : l.length ≤ cap) (hmax : cap ≤ maxLen) (hsz : arr.size = cap * P.cellsOf t)
    (hc : ∀ (j : Nat) c, (l.flatMap (cd.enc t))[j]? = some c → ∃ v, arr[j]? = some v ∧ R1 P cd M Fz w c v) (w1 : World) (hw : w1.heap = w.heap) (hos : w1.os = w.os) (htape : w1.tape = w.tape) (hout : w1.output = w.output) :
    Both P cd M Fz w hp id (.v (.one (.row id 0))) (hp.set id (.row t 0 l)) (.slice (some (at0 w.heap.size 0)) l.length cap) (w1.alloc (.cells arr t)) := by
  refine ⟨z217 h hid hle hmax hsz hc w1 hw hos htape hout, fun e n l' he => ?_⟩
  have hlt : id < hp.length := (List.getElem?_eq_some_iff.1 hid).1
  have := congrArg (fun x => x[id]?) he
  simp only [List.getElem?_set_self hlt, Option.some.injEq, Blk.row.injEq] at this
  obtain ⟨rfl, rfl, h3⟩ := this
  obtain rfl := eq_of_heq h3
  exact z22x ok h hle hc w1 hw hos htape hout
theorem z1df (ok : CdOk P cd) {e : Nat} : ∀ {ps : List (Nat × D U)} {vs : List (Nat × Value)} {l : List (U e)} {j : Nat}, RDs P cd M Fz w ps vs → zl4 P cd e j ps = some l →
    l.length = ps.length ∧ vs = ((vs.map (·.2)).zipIdx j).map (fun x => (x.2, x.1)) ∧ (∀ v ∈ vs.map (·.2), v.cells.size = P.cellsOf e) ∧
    ∀ (k : Nat) c, (l.flatMap (cd.enc e))[k]? = some c → ∃ v, ((vs.map (·.2)).flatMap fun v => v.cells.toList)[k]? = some v ∧ R1 P cd M Fz w c v
  | [], [], l, j, _, e => by
    simp only [zl4, Option.some.injEq] at e
    subst e
    exact ⟨rfl, rfl, by simp, fun k c h => by simp at h⟩
  | [], _ :: _, _, _, h, _ => h.elim
  | _ :: _, [], _, _, h, _ => h.elim
  | (i, x) :: ps, (i', v) :: vs, l, j, h, he => by
    obtain ⟨rfl, hx, hr⟩ := h
    cases x with
    | tup xs => simp [zl4] at he
    | v x =>
      simp only [zl4, cond_eq_ite] at he
      split at he
      · rename_i hij
        simp only [Bool.and_eq_true] at hij
        obtain rfl := Nat.eq_of_beq_eq_true hij.1
        split at he
        · rename_i y l' hy hl'
          injection he with he
          subst he
          obtain ⟨h1, h2, h3, h4⟩ := z1df ok hr hl'
          obtain ⟨hcl, hn, _⟩ := zla ok hij.2 (zlk (t := e) hx)
          have hd := ok.dec e _ y hy M Fz w _ hcl
          refine ⟨by simp [h1], ?_, ?_, ?_⟩
          · simp only [List.map_cons, List.zipIdx_cons]
            rw [← h2]
          · intro u hu
            simp only [List.map_cons, List.mem_cons] at hu
            rcases hu with rfl | hu
            · exact hn
            · exact h3 u hu
          · intro k c hk
            simp only [List.flatMap_cons] at hk
            simp only [List.map_cons, List.flatMap_cons]
            have hl1 : (cd.enc e y).length = v.cells.toList.length := by rw [ok.len]; simpa using hn.symm
            by_cases hlt : k < (cd.enc e y).length
            · rw [List.getElem?_append_left hlt] at hk
              rw [List.getElem?_append_left (by omega)]
              have hlt2 : k < v.cells.toList.length := by omega
              exact ⟨_, List.getElem?_eq_getElem hlt2, hd.2.2 k c _ (by rw [z1i ok]; exact hk) (List.getElem?_eq_getElem hlt2)⟩
            · rw [List.getElem?_append_right (by omega)] at hk
              rw [List.getElem?_append_right (by omega), ← hl1]
              exact h4 _ c hk
        · cases he
      · cases he
def MkOk (P : Program) (cd : Cd U) (M : Mp) (Fz : Nat → Prop) (w : World) (hp : List (Blk U)) (id : Nat) (x : Sem Value) (T : Tree (Blk U)) : Prop :=
  ∀ d hp', (K.alo T fun id => .row id 0).sem hp id = some (d, hp') → ∃ v w', x.run P w = .ok v w' ∧ Both P cd M Fz w hp id d hp' v w'
theorem MkOk.val {hp : List (Blk U)} {id : Nat} {x : Sem Value} {T : Tree (Blk U)} (b : Bool) (h : MkOk P cd M Fz w hp id x T) : ValOk P cd M Fz w hp id x (rowK b T) := by
  cases b with
  | false => exact fun d hp' hd => let ⟨v, w', h1, h2⟩ := h d hp' hd; ⟨v, w', h1, h2.1⟩
  | true =>
    intro d hp' hd
    simp only [rowK, cond_true, K.sem, frzT, Tree.run_bind] at hd
    obtain ⟨d', h1, h2⟩ := Option.map_eq_some_iff.1 hd
    obtain ⟨blk, h3, h4⟩ := Option.bind_eq_some_iff.1 h1
    simp only [Prod.mk.injEq] at h2
    obtain ⟨rfl, rfl⟩ := h2
    obtain ⟨v, w', q1, q2⟩ := h (.v (.one (.row id 0))) (setN hp id blk) (by simp only [K.sem, h3, Option.map_some])
    cases blk with
    | row e n l =>
      have h4 : some (D.v (.one (.sl e l false))) = some d' := h4
      injection h4 with h4
      subst h4
      exact ⟨v, w', q1, q2.2 e n l (z3g ..)⟩
    | dead => cases h4
    | cells cs tg => cases h4
    | mrow e n l => cases h4
theorem z1oj (ok : CdOk P cd) {hp : List (Blk U)} {id : Nat} (h : HR P cd M Fz hp w) (hid : hp[id]? = some .dead) (t len : Nat) {parts : List (Nat × D U)} {vs : Array (Nat × Value)} (hv : RDs P cd M Fz w parts vs.toList) :
    MkOk P cd M Fz w hp id (Instr.buildSlice t len vs) (zw6 P cd t len parts) := by
  intro d hp' hd
  simp only [K.sem, zw6] at hd
  split at hd
  · rename_i e hu
    rw [cond_eq_ite] at hd
    split at hd
    · rename_i hc
      simp only [Bool.and_eq_true] at hc
      obtain ⟨⟨⟨hze, hlen⟩, hsm⟩, hpos⟩ := hc
      have hlen := Nat.eq_of_beq_eq_true hlen
      have hsm := Nat.le_of_ble_eq_true hsm
      have hpos : 0 < P.cellsOf e := by simpa [Nat.blt_eq] using hpos
      split at hd
      · rename_i l hl
        simp only [Tree.run, Option.map_some, Option.some.injEq, Prod.mk.injEq] at hd
        obtain ⟨rfl, rfl⟩ := hd
        rw [z3g]
        obtain ⟨h1, h2, h3, h4⟩ := z1df ok hv hl
        have hll : l.length = len := by rw [h1, hlen]
        obtain ⟨zx, hzx⟩ := Option.isSome_iff_exists.1 hze
        obtain ⟨ie, z, hie, hz, hzs, _⟩ := z11e ok hzx
        have hsz : ie.size = P.cellsOf e := by simp [Program.cellsOf, hie]
        have hvl : (vs.toList.map (·.2)).length = len := by
          have : vs.toList.length = parts.length := by
            clear h1 h2 h3 h4 hl hlen
            have : ∀ (ps : List (Nat × D U)) (us : List (Nat × Value)), RDs P cd M Fz w ps us → us.length = ps.length := by
              intro ps
              induction ps with
              | nil => intro us hu; cases us with | nil => rfl | cons _ _ => exact hu.elim
              | cons p ps ih =>
                intro us hu
                cases us with
                | nil => exact hu.elim
                | cons q us => simp [ih us hu.2.2]
            exact this _ _ hv
          rw [List.length_map, this, hlen]
        have hfill := Go.Great.fill_whole (s := P.cellsOf e) hpos (vs.toList.map (·.2)) ((Array.range (len * P.cellsOf e)).map (z.cells[· % z.cells.size]!)) h3 (by rw [hvl]; simp)
        rw [← h2] at hfill
        rcases Nat.eq_zero_or_pos len with h0 | h0
        · subst h0
          have hl0 : l = [] := List.length_eq_zero_iff.1 hll
          subst hl0
          have hv0 : vs.toList = [] := by
            have : (vs.toList.map (·.2)).length = 0 := hvl
            simpa using this
          refine ⟨.slice (some (at0 w.heap.size 0)) 0 0, w.alloc (.cells #[] e), ?_, ?_⟩
          · simp [Instr.buildSlice, run_underlying hu, sizeOf, typeInfo, hie, Result.andThen, hv0, Instr.fill, newRow, at0, Array.range_zero']
          · exact z1k1 ok h hid (l := []) (arr := #[]) (cap := 0) (Nat.le_refl _) (by simp [maxLen]) (by simp) (fun j c hj => by simp at hj) w rfl rfl rfl rfl
        · refine ⟨_, _, run_buildSlice w t e len vs _ ie z hu hie hz (by rw [hsz]; omega) (by rw [hsz]; exact Nat.ne_of_gt (Nat.mul_pos h0 hpos)) (by rw [hsz]; exact hfill), ?_⟩
          rw [← hll]
          refine z1k1 ok h hid (Nat.le_refl _) ?_ ?_ (fun j c hj => ?_) w rfl rfl rfl rfl
          · have : l.length * 1 ≤ l.length * P.cellsOf e := Nat.mul_le_mul_left _ hpos
            rw [hll] at this ⊢
            simp only [maxLen]
            omega
          · have : ∀ us : List Value, (∀ v ∈ us, v.cells.size = P.cellsOf e) → (us.flatMap fun v => v.cells.toList).length = us.length * P.cellsOf e := by
              intro us
              induction us with
              | nil => simp
              | cons u us ih =>
                intro hu
                simp only [List.flatMap_cons, List.length_append, List.length_cons, ih fun v hv => hu v (by simp [hv]), Nat.add_mul, Nat.one_mul]
                have := hu u (by simp)
                simp [this, Nat.add_comm]
            have := this _ h3
            rw [hvl] at this
            simpa [hll] using this
          · obtain ⟨v, k1, k2⟩ := h4 j c hj
            exact ⟨v, by simpa using k1, k2⟩
      · cases hd
    · cases hd
  · cases hd
theorem z1t8 (ok : CdOk P cd) {hp : List (Blk U)} {id : Nat} (h : HR P cd M Fz hp w) (hid : hp[id]? = some .dead) (t : Nat) {x y : V U} {vx vy : Value} (hx : RV P cd M Fz w x vx) (hy : RV P cd M Fz w y vy) :
    MkOk P cd M Fz w hp id (Instr.makeSlice t vx vy) (z10t P cd t x y) := by
  intro d hp' hd
  simp only [K.sem, z10t] at hd
  split at hd
  · rename_i n m
    obtain rfl := R1.int_inv hx
    obtain rfl := R1.int_inv hy
    split at hd
    · rename_i e hu
      rw [cond_eq_ite] at hd
      split at hd
      case isFalse => cases hd
      rename_i hbp
      have hbp : 0 < P.bytesOf e := by simpa [Nat.blt_eq] using hbp
      split at hd
      · rename_i z hz
        simp only [Tree.run] at hd
        split at hd
        · rename_i c1
          split at hd
          · rename_i c2
            split at hd
            · rename_i c3
              have c1 := of_decide_eq_true c1
              have c2 := of_decide_eq_true c2
              have c3 := of_decide_eq_true c3
              subst c1
              simp only [Option.map_some, Option.some.injEq, Prod.mk.injEq] at hd
              obtain ⟨rfl, rfl⟩ := hd
              rw [z3g]
              obtain ⟨ie, zv, hie, hzv, hzs, hzr⟩ := z11e ok hz
              have hsz : ie.size = P.cellsOf e := by simp [Program.cellsOf, hie]
              have hby : ie.bytes = P.bytesOf e := by simp [Program.bytesOf, hie]
              have h63 : n ≤ 9223372036854775807 := by
                have h1 : (1 : Int) * n ≤ (P.bytesOf e : Int) * n := Int.mul_le_mul_of_nonneg_right (by omega) c2
                omega
              · refine ⟨_, _, run_make w t e ie zv hu hie hzv .i64 .i64 n n c2 (Int.le_refl _) (by rw [hby]; exact c3) h63, ?_⟩
                have hl : (List.replicate n.toNat z).length = n.toNat := by simp
                have := z1k1 ok h hid (l := List.replicate n.toNat z) (arr := madeCells zv.cells (n.toNat * ie.size)) (cap := n.toNat) (by simp) (by simp only [maxLen]; omega) (by rw [size_madeCells, hsz]) ?_ w rfl rfl rfl rfl
                · rw [hl] at this
                  exact this
                · intro j c hj
                  have hjl := (List.getElem?_eq_some_iff.1 hj).1
                  rw [z1p ok, hl] at hjl
                  have hpos : 0 < P.cellsOf e := by
                    rcases Nat.eq_zero_or_pos (P.cellsOf e) with h0 | h0
                    · rw [h0] at hjl; omega
                    · exact h0
                  have hmod : j % P.cellsOf e < zv.cells.size := by rw [hzs]; exact Nat.mod_lt _ hpos
                  refine ⟨zv.cells[j % P.cellsOf e]'hmod, ?_, ?_⟩
                  · simp only [madeCells, hsz]
                    rw [Array.getElem?_map, Array.getElem?_range]
                    rw [if_pos (by simpa using hjl)]
                    simp only [Option.map_some, hzs]
                    rw [getElem!_pos zv.cells (j % P.cellsOf e) hmod]
                  · refine hzr M Fz w (j % P.cellsOf e) c _ ?_ (Array.getElem?_eq_getElem hmod)
                    have hq : j / P.cellsOf e < n.toNat := by
                      rw [Nat.div_lt_iff_lt_mul hpos]; exact hjl
                    have he := z9y (cd := cd) ok (l := List.replicate n.toNat z) (i := j / P.cellsOf e) (x := z) (by simp [hq]) (j % P.cellsOf e)
                    have hsome : j % P.cellsOf e < (cd.enc e z).length := by rw [ok.len]; exact Nat.mod_lt _ hpos
                    have h5 := he _ (List.getElem?_eq_getElem hsome)
                    rw [show j / P.cellsOf e * P.cellsOf e + j % P.cellsOf e = j by rw [Nat.mul_comm]; exact Nat.div_add_mod j _] at h5
                    rw [List.getElem?_eq_getElem hsome]
                    rw [hj] at h5
                    exact h5.symm
            · cases hd
          · cases hd
        · cases hd
      · cases hd
    · cases hd
  · cases hd
end
end Go.Ab
end
section
set_option linter.unusedSimpArgs false
namespace Go.Ab
variable {U : Nat → Type}
section
variable {P : Program} {cd : Cd U} {M M' : Mp} {Fz Fz' : Nat → Prop} {w w' : World}

theorem HR.inPlace {hp : List (Blk U)} (h : HR P cd M Fz hp w) {b k : Nat} {i i' : Inf} {x' : Blk U} (hb : M b = some i) (hk : i.blk = some k) (hk' : i'.blk = some k) (hle : Inf.Le i i') (hsz : w'.heap.size = w.heap.size)
    (hold : ∀ k', k' ≠ k → w'.heap[k']? = w.heap[k']?) (hos : w'.os = w.os) (htape : w'.tape = w.tape) (hout : w'.output = w.output)
    (hx : Ext M (upd M b (some i')) → Frz Fz w Fz w' → RB P cd (upd M b (some i')) Fz w' b x') {d : D U} {v : Value} (hd : Ext M (upd M b (some i')) → Frz Fz w Fz w' → RD P cd (upd M b (some i')) Fz w' d v) :
    Post P cd M Fz w d (hp.set b x') v w' := by
  have hlt : b < hp.length := by
    rcases Nat.lt_or_ge b hp.length with h' | h'
    · exact h'
    · rw [h.out b h'] at hb; cases hb
  have hle' : ∀ j, M b = some j → Inf.Le j i' := fun j hj => by rw [hb] at hj; injection hj with hj; subst hj; exact hle
  have he : Ext M (upd M b (some i')) := zym hle'
  have hf : Frz Fz w Fz w' := fun k' hk'' => ⟨hk'', hold k' fun e => h.apart b i k hb hk (e ▸ hk'')⟩
  obtain ⟨h1, h2, h3⟩ := h.update (w' := w') b x' i' hlt hle' (by omega) (fun k' hk'' hne => hold k' fun e => hne i hb (e ▸ hk)) (fun k' e => by
    rw [hk'] at e; injection e with e; subst e
    exact ⟨by rw [hsz]; exact h.lt b i k hb hk, .inl ⟨i, hb, hk⟩⟩) (hx he hf)
  refine ⟨_, Fz, hd he hf, h1, h2, h3, ⟨hos, htape, hout, by omega, fun k' _ hk'' => hold k' fun e => hk'' ⟨b, i, hb, e ▸ hk⟩⟩, ?_, fun k hk => .inl hk⟩
  rintro k' ⟨b', j, hb', hk''⟩
  by_cases e : b' = b
  · subst e
    rw [z1w] at hb'
    injection hb' with hb'
    subst hb'
    rw [hk'] at hk''
    injection hk'' with hk''
    subst hk''
    exact .inl ⟨b', i, hb, hk⟩
  · rw [z4j _ _ e] at hb'
    exact .inl ⟨b', j, hb', hk''⟩

theorem zr8 (g o : Nat) (t : TypeId) (fr : Nat × Nat) : ∀ (vs : List Value) (i : Nat) (cur : Array Value) (w : World), w.heap[g]? = some (.cells cur t fr) → (fr = (0, 0) ∨ cur.size ≤ fr.1) → o + i + vs.length ≤ cur.size → (∀ v ∈ vs, v.oneCell' = true) →
    (storeCells ⟨g, o, none⟩ vs i).run P w = .ok () (w.setRow g (cur.toList.take (o + i) ++ vs ++ cur.toList.drop (o + i + vs.length)).toArray)
  | [], i, cur, w, hg, _, _, _ => by
    simp only [storeCells, List.append_nil, List.length_nil, Nat.add_zero, List.take_append_drop, Array.toArray_toList]
    rw [setRow_self w g cur t fr hg]
    rfl
  | v :: rest, i, cur, w, hg, hfr, hl, h1 => by
    have hi : o + i < cur.size := by simp at hl; omega
    have hadd : (⟨g, o, none⟩ : Addr).add i = ⟨g, o + i, none⟩ := by unfold Addr.add; split <;> simp_all
    have hcell : w.cell? ⟨g, o + i, none⟩ = some cur[o + i] := by simp [World.cell?, hg, hi]
    have hfro : w.frozen? ⟨g, o + i, none⟩ = false := by
      rcases hfr with rfl | hfr
      · simp [World.frozen?, hg]
      · obtain ⟨f1, f2⟩ := fr
        simp only at hfr
        have : ¬ f1 ≤ o + i := by omega
        simp [World.frozen?, hg, this]
    have hst : (store ((⟨g, o, none⟩ : Addr).add i) v).run P w = .ok () (w.setRow g (cur.setIfInBounds (o + i) v)) := by
      rw [hadd, run_store P w _ v _ (h1 v (by simp)), hcell]
      simp [hfro, setCell_eq_setRow w g (o + i) cur t fr v hg]
    have ih := zr8 g o t fr rest (i + 1) (cur.setIfInBounds (o + i) v) (w.setRow g (cur.setIfInBounds (o + i) v)) (setRow_heap w g cur _ t _ hg) (by simpa using hfr) (by simp at hl ⊢; omega) (fun x hx => h1 x (by simp [hx]))
    simp only [storeCells, Sem.run_bind, hst, Result.andThen_ok, ih, setRow_setRow]
    congr 3
    have e := list_seg_step cur.toList (o + i) v rest (by simp at hl ⊢; omega)
    simpa [Array.toList_setIfInBounds, Nat.add_assoc] using e
theorem z13o {t k o : Nat} {e : Nat} {fr : Nat × Nat} {arr : Array Value} {v : Value} (hi : (P.info? t).isSome = true) (hh : w.heap[k]? = some (.cells arr e fr)) (hfr : fr = (0, 0) ∨ arr.size ≤ fr.1) (hsz : v.cells.size = P.cellsOf t) (h1 : ∀ u ∈ v.cells.toList, u.oneCell' = true) (ho : o + P.cellsOf t ≤ arr.size) :
    (Instr.storeAt t (.pointer (some (at0 k o))) v).run P w = .ok () (w.setRow k (arr.toList.take o ++ v.cells.toList ++ arr.toList.drop (o + P.cellsOf t)).toArray) := by
  obtain ⟨i, hi, hc⟩ := zg9 hi
  have hl : v.cells.toList.length = P.cellsOf t := by simpa using hsz
  have := zr8 (P := P) k o e fr v.cells.toList 0 arr w hh hfr (by rw [hl]; exact ho) h1
  rw [Nat.add_zero, hl] at this
  simp only [Instr.storeAt, Instr.sureAddr, Sem.run_bind, Sem.run_pure, Result.andThen, storeVar, sizeOf, typeInfo, run_program, hi, ← hc]
  rw [if_neg (by simp [hsz])]
  exact this
theorem zmr {t k o : Nat} {e : Nat} {arr : Array Value} {v : Value} (hi : (P.info? t).isSome = true) (hh : w.heap[k]? = some (.cells arr e (0, 0))) (hsz : v.cells.size = P.cellsOf t) (h1 : ∀ u ∈ v.cells.toList, u.oneCell' = true) (ho : o + P.cellsOf t ≤ arr.size) :
    (Instr.storeAt t (.pointer (some (at0 k o))) v).run P w = .ok () (w.setRow k (arr.toList.take o ++ v.cells.toList ++ arr.toList.drop (o + P.cellsOf t)).toArray) := z13o hi hh (.inl rfl) hsz h1 ho

theorem z1ff {hp : List (Blk U)} (h : HR P cd M Fz hp w) {b k o n : Nat} {cs' : List (C U)} {arr : Array Value} {us : List Value} {tg : Option Nat} (e : Tag tg) (hm : M b = some (.cells k)) (hh : w.heap[k]? = some (.cells arr e.1 (0, 0)))
    (hr : RL P cd M Fz w cs' (arr.toList.take o ++ us ++ arr.toList.drop (o + n))) :
    Post P cd M Fz w (.v (.one .skp)) (hp.set b (.cells cs' tg)) undef (w.setRow k (arr.toList.take o ++ us ++ arr.toList.drop (o + n)).toArray) := by
  refine h.inPlace (i := .cells k) (i' := .cells k) hm rfl rfl (.refl _) (by simp) (fun k' hk' => setRow_other w k k' _ hk') rfl rfl rfl (fun he hf => ?_) (fun _ _ => .skp)
  exact ⟨k, _, e, z1w .., setRow_heap w k arr _ e.1 _ hh, (by simpa using hr.mono he hf)⟩
theorem zjz {α : Type} (l us : List α) (o q : Nat) (ho : o + us.length ≤ l.length) : (l.take o ++ us ++ l.drop (o + us.length))[q]? = if q < o then l[q]? else if q < o + us.length then us[q - o]? else l[q]? := by
  have e2 : (l.take o).length = o := by simp; omega
  rw [List.append_assoc]
  by_cases hj : q < o
  · rw [List.getElem?_append_left (by omega), List.getElem?_take, if_pos hj, if_pos hj]
  · rw [List.getElem?_append_right (by omega), e2, if_neg hj]
    by_cases hk : q - o < us.length
    · rw [List.getElem?_append_left (by omega), if_pos (by omega)]
    · rw [List.getElem?_append_right (by omega), List.getElem?_drop, if_neg (by omega), show o + us.length + (q - o - us.length) = q by omega]
theorem z19f {α : Type} (l us : List α) (a s o q : Nat) (hq : q < s) (ho : o + us.length ≤ s) (ha : a + s ≤ l.length) :
    (l.take (a + o) ++ us ++ l.drop (a + o + us.length))[a + q]? = (((l.drop a).take s).take o ++ us ++ ((l.drop a).take s).drop (o + us.length))[q]? := by
  have hc : ((l.drop a).take s).length = s := by simp; omega
  have hg : ((l.drop a).take s)[q]? = l[a + q]? := by rw [List.getElem?_take, if_pos hq, List.getElem?_drop]
  rw [zjz l us (a + o) (a + q) (by omega), zjz _ us o q (by rw [hc]; exact ho), hg]
  by_cases h1 : q < o
  · rw [if_pos (by omega), if_pos h1]
  · rw [if_neg (by omega), if_neg h1]
    by_cases h2 : q < o + us.length
    · rw [if_pos (by omega), if_pos h2, show a + q - (a + o) = q - o by omega]
    · rw [if_neg (by omega), if_neg h2]

theorem zwg {α : Type} (l us : List α) (a s q : Nat) (hq : q + us.length ≤ s) (ha : a + s ≤ l.length) :
    l.take a ++ (((l.drop a).take s).take q ++ us ++ ((l.drop a).take s).drop (q + us.length)) ++ l.drop (a + s) = l.take (a + q) ++ us ++ l.drop (a + q + us.length) := by
  have hc : ((l.drop a).take s).length = s := by simp; omega
  have hc2 : (((l.drop a).take s).take q ++ us ++ ((l.drop a).take s).drop (q + us.length)).length = s := by
    simp only [List.length_append, List.length_take, List.length_drop, hc]
    simp at hc
    omega
  apply List.ext_getElem?
  intro j
  have h1 := zjz l (((l.drop a).take s).take q ++ us ++ ((l.drop a).take s).drop (q + us.length)) a j (by rw [hc2]; exact ha)
  rw [hc2] at h1
  rw [h1, zjz l us (a + q) j (by omega)]
  by_cases h2 : j < a
  · rw [if_pos h2, if_pos (show j < a + q by omega)]
  · rw [if_neg h2]
    by_cases h3 : j < a + s
    · rw [if_pos h3, zjz _ us q (j - a) (by rw [hc]; exact hq)]
      have hg : ((l.drop a).take s)[j - a]? = l[j]? := by rw [List.getElem?_take, if_pos (show j - a < s by omega), List.getElem?_drop, show a + (j - a) = j by omega]
      rw [hg]
      by_cases h4 : j - a < q
      · rw [if_pos h4, if_pos (show j < a + q by omega)]
      · rw [if_neg h4, if_neg (show ¬ j < a + q by omega)]
        by_cases h5 : j - a < q + us.length
        · rw [if_pos h5, if_pos (show j < a + q + us.length by omega), show j - a - q = j - (a + q) by omega]
        · rw [if_neg h5, if_neg (show ¬ j < a + q + us.length by omega)]
    · rw [if_neg h3, if_neg (show ¬ j < a + q by omega), if_neg (show ¬ j < a + q + us.length by omega)]
theorem z1lm (ok : CdOk P cd) {te : Nat} {x z : U te} {sub n : Nat} {new : List (C U)} {vs us : List Value} (hx : RL P cd M Fz w (cd.enc te x) vs) (hn : RL P cd M Fz w new us) (hl : us.length = n) (h : setE P cd te x sub n new = some z) :
    RL P cd M Fz w (cd.enc te z) (vs.take sub ++ us ++ vs.drop (sub + n)) ∧ sub + n ≤ vs.length := by
  unfold setE at h
  split at h
  · rename_i cs hcs
    obtain ⟨h1, h2⟩ := hx.put ok hn hl hcs
    exact ⟨ok.dec te cs z h M Fz w _ h1, h2⟩
  · cases h
theorem RowOk.elemL {mk : Nat → Nat × Nat} (ok : CdOk P cd) {t k cap : Nat} {l : List (U t)} {cur : Array Value} (r : RowOk P cd M Fz w mk t l cap k cur) {i : Nat} {x : U t} (hx : l[i]? = some x) :
    RL P cd M Fz w (cd.enc t x) ((cur.toList.drop (i * P.cellsOf t)).take (P.cellsOf t)) ∧ i * P.cellsOf t + P.cellsOf t ≤ cur.size := by
  have hlt : i < l.length := (List.getElem?_eq_some_iff.1 hx).1
  have hb : i * P.cellsOf t + P.cellsOf t ≤ cur.size := by
    rw [r.size, ← Nat.succ_mul]
    exact Nat.mul_le_mul_right _ (Nat.le_trans hlt r.le)
  refine ⟨⟨z19o ok t x, ?_, ?_⟩, hb⟩
  · rw [z1i ok, ok.len]; simp; omega
  · intro j c v h1 h2
    rw [z1i ok] at h1
    obtain ⟨v', h3, h4⟩ := r.cells _ c (z9y ok hx j c h1)
    rw [List.getElem?_take] at h2
    split at h2
    · rw [List.getElem?_drop] at h2
      rw [Array.getElem?_toList, h3] at h2
      injection h2 with h2
      subst h2
      exact h4
    · cases h2
theorem z208 (ok : CdOk P cd) {hp : List (Blk U)} (h : HR P cd M Fz hp w) {b k i t ver cap : Nat} {l : List (U t)} {y z : U t} {cur : Array Value} {us : List Value} {o n : Nat} (hm : M b = some (.row (some k) t ver l.length cap)) (r : RowOk P cd M Fz w mk0 t l cap k cur) (hy : l[i]? = some y)
    (hl : us.length = n) (ho : i * P.cellsOf t + o + n ≤ cur.size) (hon : o + n ≤ P.cellsOf t)
    (hz : RL P cd M Fz w (cd.enc t z) (((cur.toList.drop (i * P.cellsOf t)).take (P.cellsOf t)).take o ++ us ++ ((cur.toList.drop (i * P.cellsOf t)).take (P.cellsOf t)).drop (o + n))) :
    Post P cd M Fz w (.v (.one .skp)) (hp.set b (.row t ver (l.set i z))) undef (w.setRow k (cur.toList.take (i * P.cellsOf t + o) ++ us ++ cur.toList.drop (i * P.cellsOf t + o + n)).toArray) := by
  have hlt : i < l.length := (List.getElem?_eq_some_iff.1 hy).1
  refine h.inPlace (i := .row (some k) t ver l.length cap) (i' := .row (some k) t ver l.length cap) hm rfl rfl (.refl _) (by simp) (fun k' hk' => setRow_other w k k' _ hk') rfl rfl rfl (fun he hf => ?_) (fun _ _ => .skp)
  refine ⟨some k, cap, by rw [List.length_set]; exact z1w .., _, ⟨setRow_heap w k cur _ t _ r.heap, by rw [List.length_set]; exact r.le, r.max, ?_, ?_⟩⟩
  · have := r.size
    simp [hl]
    omega
  · intro j c hj
    have hlen : (cur.toList.take (i * P.cellsOf t + o)).length = i * P.cellsOf t + o := by simp; omega
    rw [zqu ok t l i z hlt] at hj
    have e1 : ((l.flatMap (cd.enc t)).take (i * P.cellsOf t)).length = i * P.cellsOf t := by
      rw [List.length_take, z1p ok]
      exact Nat.min_eq_left (Nat.mul_le_mul_right _ (by omega))
    have e3 : (cd.enc t z).length = P.cellsOf t := ok.len t z
    have keep : ∀ q c', (l.flatMap (cd.enc t))[q]? = some c' → (q < i * P.cellsOf t ∨ i * P.cellsOf t + P.cellsOf t ≤ q) → ∃ v, (cur.toList.take (i * P.cellsOf t + o) ++ us ++ cur.toList.drop (i * P.cellsOf t + o + n)).toArray[q]? = some v ∧ R1 P cd (upd M b (some (.row (some k) t ver l.length cap))) Fz (w.setRow k (cur.toList.take (i * P.cellsOf t + o) ++ us ++ cur.toList.drop (i * P.cellsOf t + o + n)).toArray) c' v := by
      intro q c' hq hc
      obtain ⟨v, h1, h2⟩ := r.cells q c' hq
      refine ⟨v, ?_, h2.mono he hf⟩
      rw [List.getElem?_toArray, List.append_assoc]
      rcases hc with hc | hc
      · rw [List.getElem?_append_left (by omega), List.getElem?_take, if_pos (by omega)]
        simpa using h1
      · rw [List.getElem?_append_right (by omega), hlen, List.getElem?_append_right (by omega), List.getElem?_drop, hl, show i * P.cellsOf t + o + n + (q - (i * P.cellsOf t + o) - n) = q by omega]
        simpa using h1
    rw [List.append_assoc] at hj
    by_cases hj1 : j < i * P.cellsOf t
    · rw [List.getElem?_append_left (by omega), List.getElem?_take, if_pos hj1] at hj
      exact keep j c hj (.inl hj1)
    · rw [List.getElem?_append_right (by omega), e1] at hj
      by_cases hj2 : j - i * P.cellsOf t < P.cellsOf t
      · rw [List.getElem?_append_left (by omega)] at hj
        have hlz := hz.2.1
        rw [z1i ok, e3] at hlz
        have hlt2 : j - i * P.cellsOf t < (((cur.toList.drop (i * P.cellsOf t)).take (P.cellsOf t)).take o ++ us ++ ((cur.toList.drop (i * P.cellsOf t)).take (P.cellsOf t)).drop (o + n)).length := by rw [hlz]; exact hj2
        have hv := List.getElem?_eq_getElem hlt2
        refine ⟨_, ?_, (hz.2.2 _ c _ (by rw [z1i ok]; exact hj) hv).mono he hf⟩
        rw [← hv, List.getElem?_toArray]
        subst hl
        have := z19f cur.toList us (i * P.cellsOf t) (P.cellsOf t) o (j - i * P.cellsOf t) hj2 hon (by simpa using (r.elemL ok hy).2)
        rw [show i * P.cellsOf t + (j - i * P.cellsOf t) = j by omega] at this
        exact this
      · rw [List.getElem?_append_right (by omega), e3, List.getElem?_drop] at hj
        rw [show i * P.cellsOf t + P.cellsOf t + (j - i * P.cellsOf t - P.cellsOf t) = j by omega] at hj
        exact keep j c hj (.inr (by omega))

theorem z1ym (ok : CdOk P cd) {hp : List (Blk U)} (h : HR P cd M Fz hp w) {b k i t ver cap : Nat} {l : List (U t)} {y z : U t} {cur : Array Value} {us : List Value} {o n : Nat} (hm : M b = some (.row (some k) t ver l.length cap)) (r : RowOk P cd M Fz w mk1 t l cap k cur) (hy : l[i]? = some y)
    (hl : us.length = n) (ho : i * P.cellsOf t + o + n ≤ cur.size) (hon : o + n ≤ P.cellsOf t)
    (hz : RL P cd M Fz w (cd.enc t z) (((cur.toList.drop (i * P.cellsOf t)).take (P.cellsOf t)).take o ++ us ++ ((cur.toList.drop (i * P.cellsOf t)).take (P.cellsOf t)).drop (o + n))) :
    Post P cd M Fz w (.v (.one .skp)) (hp.set b (.mrow t ver (l.set i z))) undef (w.setRow k (cur.toList.take (i * P.cellsOf t + o) ++ us ++ cur.toList.drop (i * P.cellsOf t + o + n)).toArray) := by
  have hlt : i < l.length := (List.getElem?_eq_some_iff.1 hy).1
  refine h.inPlace (i := .row (some k) t ver l.length cap) (i' := .row (some k) t ver l.length cap) hm rfl rfl (.refl _) (by simp) (fun k' hk' => setRow_other w k k' _ hk') rfl rfl rfl (fun he hf => ?_) (fun _ _ => .skp)
  refine ⟨some k, cap, by rw [List.length_set]; exact z1w .., _, ⟨(by have hs := setRow_heap w k cur (cur.toList.take (i * P.cellsOf t + o) ++ us ++ cur.toList.drop (i * P.cellsOf t + o + n)).toArray t _ r.heap; rw [hs]; congr 2; simp [mk1, hl]; omega), by rw [List.length_set]; exact r.le, r.max, ?_, ?_⟩⟩
  · have := r.size
    simp [hl]
    omega
  · intro j c hj
    have hlen : (cur.toList.take (i * P.cellsOf t + o)).length = i * P.cellsOf t + o := by simp; omega
    rw [zqu ok t l i z hlt] at hj
    have e1 : ((l.flatMap (cd.enc t)).take (i * P.cellsOf t)).length = i * P.cellsOf t := by
      rw [List.length_take, z1p ok]
      exact Nat.min_eq_left (Nat.mul_le_mul_right _ (by omega))
    have e3 : (cd.enc t z).length = P.cellsOf t := ok.len t z
    have keep : ∀ q c', (l.flatMap (cd.enc t))[q]? = some c' → (q < i * P.cellsOf t ∨ i * P.cellsOf t + P.cellsOf t ≤ q) → ∃ v, (cur.toList.take (i * P.cellsOf t + o) ++ us ++ cur.toList.drop (i * P.cellsOf t + o + n)).toArray[q]? = some v ∧ R1 P cd (upd M b (some (.row (some k) t ver l.length cap))) Fz (w.setRow k (cur.toList.take (i * P.cellsOf t + o) ++ us ++ cur.toList.drop (i * P.cellsOf t + o + n)).toArray) c' v := by
      intro q c' hq hc
      obtain ⟨v, h1, h2⟩ := r.cells q c' hq
      refine ⟨v, ?_, h2.mono he hf⟩
      rw [List.getElem?_toArray, List.append_assoc]
      rcases hc with hc | hc
      · rw [List.getElem?_append_left (by omega), List.getElem?_take, if_pos (by omega)]
        simpa using h1
      · rw [List.getElem?_append_right (by omega), hlen, List.getElem?_append_right (by omega), List.getElem?_drop, hl, show i * P.cellsOf t + o + n + (q - (i * P.cellsOf t + o) - n) = q by omega]
        simpa using h1
    rw [List.append_assoc] at hj
    by_cases hj1 : j < i * P.cellsOf t
    · rw [List.getElem?_append_left (by omega), List.getElem?_take, if_pos hj1] at hj
      exact keep j c hj (.inl hj1)
    · rw [List.getElem?_append_right (by omega), e1] at hj
      by_cases hj2 : j - i * P.cellsOf t < P.cellsOf t
      · rw [List.getElem?_append_left (by omega)] at hj
        have hlz := hz.2.1
        rw [z1i ok, e3] at hlz
        have hlt2 : j - i * P.cellsOf t < (((cur.toList.drop (i * P.cellsOf t)).take (P.cellsOf t)).take o ++ us ++ ((cur.toList.drop (i * P.cellsOf t)).take (P.cellsOf t)).drop (o + n)).length := by rw [hlz]; exact hj2
        have hv := List.getElem?_eq_getElem hlt2
        refine ⟨_, ?_, (hz.2.2 _ c _ (by rw [z1i ok]; exact hj) hv).mono he hf⟩
        rw [← hv, List.getElem?_toArray]
        subst hl
        have := z19f cur.toList us (i * P.cellsOf t) (P.cellsOf t) o (j - i * P.cellsOf t) hj2 hon (by simpa using (r.elemL ok hy).2)
        rw [show i * P.cellsOf t + (j - i * P.cellsOf t) = j by omega] at this
        exact this
      · rw [List.getElem?_append_right (by omega), e3, List.getElem?_drop] at hj
        rw [show i * P.cellsOf t + P.cellsOf t + (j - i * P.cellsOf t - P.cellsOf t) = j by omega] at hj
        exact keep j c hj (.inr (by omega))

theorem z21i (ok : CdOk P cd) {hp : List (Blk U)} (h : HR P cd M Fz hp w) (t : Nat) {a x : V U} {va vx : Value} (ha : RV P cd M Fz w a va) (hx : RV P cd M Fz w x vx) {d : D U} {hp' : List (Blk U)}
    (hd : (storeF P cd t a x hp).run = some (d, hp')) : ∃ w', (Instr.storeAt t va vx).run P w = .ok () w' ∧ Post P cd M Fz w d hp' undef w' := by
  unfold storeF at hd
  rw [cond_eq_ite] at hd
  split at hd
  case isFalse => cases hd
  rename_i hinf
  split at hd
  · rename_i b o
    rw [z25] at hd
    split at hd
    · rename_i cs hb
      split at hd
      · rename_i r hr
        rw [cond_eq_ite] at hr
        split at hr
        · rename_i hf
          simp only [Tree.run, Option.some.injEq, Prod.mk.injEq] at hd
          obtain ⟨rfl, rfl⟩ := hd
          rw [z3g]
          obtain ⟨hcl, hn, h1⟩ := zla ok hf hx
          cases ha with
          | ptr _ _ k hm =>
            obtain ⟨arr, e, hh, hrl⟩ := h.cells_at hb hm
            obtain ⟨k1, k2⟩ := hrl.put ok hcl (by simpa using hn) hr
            exact ⟨_, zmr hinf hh hn h1 (by simpa using k2), z1ff h e hm hh k1⟩
        · cases hr
      · cases hd
    · cases hd
  · rename_i b v i sub
    rw [z25] at hd
    split at hd
    · rename_i te v' l hb
      rw [cond_eq_ite] at hd
      split at hd
      · rename_i hv
        obtain rfl := Nat.eq_of_beq_eq_true hv
        simp only [Tree.run] at hd
        obtain ⟨y, hy, hd⟩ := Option.bind_eq_some_iff.1 hd
        split at hd
        · rename_i z hz
          rw [cond_eq_ite] at hz
          split at hz
          · rename_i hf
            simp only [Tree.run, Option.some.injEq, Prod.mk.injEq] at hd
            obtain ⟨rfl, rfl⟩ := hd
            rw [z3g]
            obtain ⟨hcl, hn, h1⟩ := zla ok hf hx
            have hn2 : vx.cells.toList.length = P.cellsOf t := by simpa using hn
            cases ha with
            | elp _ _ _ _ pos t' ver len cap _ hm hle hsc hv =>
              obtain ⟨rfl, rfl, rfl, hpos⟩ := h.row_at hb hm
              obtain ⟨hi, k, rfl, rfl⟩ := hv rfl
              obtain ⟨cur, r⟩ := hpos
              obtain ⟨e1, e2⟩ := r.elemL ok hy
              obtain ⟨s1, s2⟩ := z1lm ok e1 hcl hn2 hz
              have s3 : sub + P.cellsOf t ≤ P.cellsOf t' := by simpa [Nat.min_def] using Nat.le_trans s2 (by simp; exact Nat.min_le_left _ _)
              exact ⟨_, zmr hinf r.heap hn h1 (by omega), z208 ok h hm r hy hn2 (by omega) s3 s1⟩
          · cases hz
        · cases hd
      · cases hd
    · rename_i te v' l hb
      rw [cond_eq_ite] at hd
      split at hd
      · rename_i hv
        obtain rfl := Nat.eq_of_beq_eq_true hv
        simp only [Tree.run] at hd
        obtain ⟨y, hy, hd⟩ := Option.bind_eq_some_iff.1 hd
        split at hd
        · rename_i z hz
          rw [cond_eq_ite] at hz
          split at hz
          · rename_i hf
            simp only [Tree.run, Option.some.injEq, Prod.mk.injEq] at hd
            obtain ⟨rfl, rfl⟩ := hd
            rw [z3g]
            obtain ⟨hcl, hn, h1⟩ := zla ok hf hx
            have hn2 : vx.cells.toList.length = P.cellsOf t := by simpa using hn
            cases ha with
            | elp _ _ _ _ pos t' ver len cap _ hm hle hsc hv =>
              obtain ⟨rfl, rfl, rfl, hpos⟩ := h.mrow_at hb hm
              obtain ⟨hi, k, rfl, rfl⟩ := hv rfl
              obtain ⟨cur, r⟩ := hpos
              obtain ⟨e1, e2⟩ := r.elemL ok hy
              obtain ⟨s1, s2⟩ := z1lm ok e1 hcl hn2 hz
              have s3 : sub + P.cellsOf t ≤ P.cellsOf t' := by simpa [Nat.min_def] using Nat.le_trans s2 (by simp; exact Nat.min_le_left _ _)
              exact ⟨_, z13o hinf r.heap (.inr (Nat.le_refl _)) hn h1 (by omega), z1ym ok h hm r hy hn2 (by omega) s3 s1⟩
          · cases hz
        · cases hd
      · cases hd
    · cases hd
  · rename_i b o te i sub
    rw [z25] at hd
    split at hd
    · rename_i cs hb
      split at hd
      · rename_i t' n l hat
        rw [cond_eq_ite] at hd
        split at hd
        · rename_i hte
          obtain rfl := Nat.eq_of_beq_eq_true hte
          cases ha with
          | ap _ _ _ _ _ k hm =>
            obtain ⟨arr, e, hh, hrl⟩ := h.cells_at hb hm
            obtain ⟨hp1, hp2, hp3⟩ := z1o5 ok hrl hat
            have hcl : ((arr.toList.drop o).take (n * P.cellsOf t')).length = n * P.cellsOf t' := by simp; omega
            rw [extract_toList] at hp1
            split at hd
            · rename_i m hmo
              obtain ⟨n', e', hu, hlf, hce⟩ := z18j hmo
              split at hd
              · rename_i t'' m' l'
                split at hd
                · rename_i ht''
                  subst ht''
                  rw [cond_eq_ite] at hd
                  split at hd
                  · rename_i hc
                    simp only [Bool.and_eq_true] at hc
                    obtain rfl := Nat.eq_of_beq_eq_true hc.1
                    obtain rfl := Nat.eq_of_beq_eq_true hc.2
                    simp only [Tree.run] at hd
                    split at hd
                    · rename_i him
                      have him := of_decide_eq_true him
                      split at hd
                      · rename_i r hr
                        simp only [Tree.run, Option.some.injEq, Prod.mk.injEq] at hd
                        obtain ⟨rfl, rfl⟩ := hd
                        rw [z3g]
                        obtain ⟨av, rfl, rav⟩ := hx
                        have hl' : l'.length = m := rav.1 _ m l' (by simp)
                        have hal : av.toList.length = m * P.cellsOf t'' := by
                          have := rav.2.1
                          rw [z1x, z1p ok, hl'] at this
                          exact this
                        have hval : (Value.agg av).cells.toList = av.toList := rfl
                        have hone : ∀ u ∈ (Value.agg av).cells.toList, u.oneCell' = true := by
                          rw [hval]; exact rav.scal ok rfl
                        have hq : i * P.cellsOf t'' + av.toList.length ≤ n * P.cellsOf t'' := by
                          rw [hal, ← Nat.add_mul]; exact Nat.mul_le_mul_right _ (by omega)
                        have hnew := hp1.splice (cs' := [.arr t'' n (l.take i ++ l' ++ l.drop (i + m))]) (o := i * P.cellsOf t'') rav (by
                          intro tt nn ll hmm
                          simp at hmm
                          obtain ⟨rfl, rfl, hmm⟩ := hmm
                          have := eq_of_heq hmm
                          subst this
                          simp; omega) (by rw [hcl]; exact hq) (by
                          rw [z1x, z1x, z1x, List.flatMap_append, List.flatMap_append, zdn ok, zdm ok, hal, Nat.add_mul])
                        have hput := hrl.put ok hnew (by
                          simp only [List.length_append, List.length_take, List.length_drop, hcl]
                          simp at hcl
                          omega) hr
                        rw [zwg arr.toList av.toList o (n * P.cellsOf t'') (i * P.cellsOf t'') hq (by simpa using hp3)] at hput
                        have hst := zmr (t := t) (v := .agg av) (o := o + i * P.cellsOf t'') hinf hh (by rw [hce, ← hal]; simp [Value.cells]) hone (by rw [hce, ← hal]; omega)
                        rw [hval, hce, ← hal] at hst
                        refine ⟨_, hst, z1ff h e hm hh hput.1⟩
                      · cases hd
                    · cases hd
                  · cases hd
                · cases hd
              · cases hd
            · simp only [Tree.run] at hd
              obtain ⟨y, hy, hd⟩ := Option.bind_eq_some_iff.1 hd
              split at hd
              · rename_i z hz
                rw [cond_eq_ite] at hz
                split at hz
                · rename_i hf
                  split at hd
                  · rename_i r hr
                    simp only [Tree.run, Option.some.injEq, Prod.mk.injEq] at hd
                    obtain ⟨rfl, rfl⟩ := hd
                    rw [z3g]
                    obtain ⟨hcv, hn, h1⟩ := zla ok hf hx
                    have hn2 : vx.cells.toList.length = P.cellsOf t := by simpa using hn
                    have hlt : i < l.length := (List.getElem?_eq_some_iff.1 hy).1
                    have hisz : i * P.cellsOf t' + P.cellsOf t' ≤ n * P.cellsOf t' := by
                      rw [← Nat.succ_mul]; exact Nat.mul_le_mul_right _ (by omega)
                    have hel : RL P cd M Fz w (cd.enc t' y) ((((arr.toList.drop o).take (n * P.cellsOf t')).drop (i * P.cellsOf t')).take (P.cellsOf t')) := by
                      refine ⟨z19o ok t' y, ?_, ?_⟩
                      · rw [z1i ok, ok.len, List.length_take, List.length_drop, hcl]; omega
                      · intro j c v e1 e2
                        rw [z1i ok] at e1
                        rw [List.getElem?_take] at e2
                        split at e2
                        · rw [List.getElem?_drop] at e2
                          exact hp1.2.2 _ c v (by rw [z1x]; exact z9y ok hy j c e1) e2
                        · cases e2
                    obtain ⟨s1, s2⟩ := z1lm ok hel hcv hn2 hz
                    have hell : (((((arr.toList.drop o).take (n * P.cellsOf t')).drop (i * P.cellsOf t')).take (P.cellsOf t'))).length = P.cellsOf t' := by
                      rw [List.length_take, List.length_drop, hcl]; omega
                    rw [hell] at s2
                    rw [← hn2] at s1 s2
                    have hnl : ((((((arr.toList.drop o).take (n * P.cellsOf t')).drop (i * P.cellsOf t')).take (P.cellsOf t')).take sub) ++ vx.cells.toList ++ (((((arr.toList.drop o).take (n * P.cellsOf t')).drop (i * P.cellsOf t')).take (P.cellsOf t')).drop (sub + vx.cells.toList.length))).length = P.cellsOf t' := by
                      have := s1.2.1
                      rw [z1i ok, ok.len] at this
                      exact this
                    have hnew := hp1.splice (cs' := [.arr t' n (l.set i z)]) (o := i * P.cellsOf t') s1 (by
                      intro tt nn ll hmm
                      simp at hmm
                      obtain ⟨rfl, rfl, hmm⟩ := hmm
                      have := eq_of_heq hmm
                      subst this
                      simpa using hp2) (by rw [hnl, hcl]; exact hisz) (by
                      rw [z1x, z1x, z1i ok, hnl, zqu ok t' l i z hlt])
                    rw [hnl, zwg _ vx.cells.toList (i * P.cellsOf t') (P.cellsOf t') sub s2 (by rw [hcl]; exact hisz)] at hnew
                    have hq : i * P.cellsOf t' + sub + vx.cells.toList.length ≤ n * P.cellsOf t' := by omega
                    have hput := hrl.put ok hnew (by
                      simp only [List.length_append, List.length_take, List.length_drop, hcl]
                      simp at hcl
                      omega) hr
                    rw [zwg arr.toList vx.cells.toList o (n * P.cellsOf t') (i * P.cellsOf t' + sub) hq (by simpa using hp3)] at hput
                    have hst := zmr (t := t) (v := vx) (o := o + i * P.cellsOf t' + sub) hinf hh hn h1 (by rw [← hn2]; omega)
                    rw [← hn2] at hst
                    rw [← Nat.add_assoc] at hput
                    refine ⟨_, hst, z1ff h e hm hh hput.1⟩
                  · cases hd
                · cases hz
              · cases hd
        · cases hd
      · cases hd
    · cases hd
  · cases hd
end
end Go.Ab
end
section
set_option linter.unusedSimpArgs false
namespace Go.Ab
variable {U : Nat → Type}
section
variable {P : Program} {cd : Cd U} {M M' : Mp} {Fz Fz' : Nat → Prop} {w w' : World}

structure Src (P : Program) (cd : Cd U) (M : Mp) (Fz : Nat → Prop) (w : World) (e : Nat) (m : List (U e)) (y : Value) (news : List Value) : Prop where
  len : (Builtin.lenOf y).run P w = .ok m.length w
  size : news.length = m.length * P.cellsOf e
  one : ∀ u ∈ news, u.oneCell' = true
  cells : ∀ (j : Nat) c, (m.flatMap (cd.enc e))[j]? = some c → ∃ v, news[j]? = some v ∧ R1 P cd M Fz w c v
  first : ∀ n w1, n ≤ m.length → w1.heap = w.heap → (Builtin.firstCells (P.cellsOf e) n y).run P w1 = .ok (news.take (n * P.cellsOf e)).toArray w1
theorem z1zc (ok : CdOk P cd) {e : Nat} {m : List (U e)} {j : Nat} {c : C U} {v : Value} (h : (m.flatMap (cd.enc e))[j]? = some c) (hr : R1 P cd M Fz w c v) : v.oneCell' = true := by
  refine hr.scal ?_
  obtain ⟨x, _, hx⟩ := List.mem_flatMap.1 (List.mem_of_getElem? h)
  have := ok.plain _ x _ hx
  revert this
  cases c <;> simp [plainC, solid]
theorem Src.of_cells (ok : CdOk P cd) {e : Nat} {m : List (U e)} {k o cap : Nat} {f : Nat → Value} (hc : m ≠ [] → ∀ j c, (m.flatMap (cd.enc e))[j]? = some c → w.cell? (at0 k (o + j)) = some (f j))
    (hr : ∀ j c, (m.flatMap (cd.enc e))[j]? = some c → R1 P cd M Fz w c (f j)) (a : Option Addr) (ha : m ≠ [] → a = some (at0 k o)) : Src P cd M Fz w e m (.slice a m.length cap) ((List.range (m.length * P.cellsOf e)).map f) := by
  have hget : ∀ j, j < m.length * P.cellsOf e → ∃ c, (m.flatMap (cd.enc e))[j]? = some c := fun j hj =>
    ⟨_, List.getElem?_eq_getElem (by rw [z1p ok]; exact hj)⟩
  have hnews : ∀ j, j < m.length * P.cellsOf e → ((List.range (m.length * P.cellsOf e)).map f)[j]? = some (f j) := fun j hj => by simp [hj]
  refine ⟨rfl, by simp, fun u hu => ?_, fun j c hj => ?_, fun n w1 hn hw => ?_⟩
  · obtain ⟨j, hj, rfl⟩ := List.mem_map.1 hu
    obtain ⟨c, hcj⟩ := hget j (List.mem_range.1 hj)
    exact z1zc ok hcj (hr j c hcj)
  · have hlt : j < m.length * P.cellsOf e := by
      have := (List.getElem?_eq_some_iff.1 hj).1
      rwa [z1p ok] at this
    exact ⟨f j, hnews j hlt, hr j c hj⟩
  · by_cases hm : m = []
    · subst hm
      simp at hn
      subst hn
      cases a <;> simp [Builtin.firstCells, loadCells, loadCellsFrom]
    · obtain rfl := ha hm
      refine run_firstCells_some w1 (P.cellsOf e) n _ _ _ _ ?_ ?_
      · rw [List.length_take]
        simp [Nat.min_eq_left hn]
      · intro j v hj
        rw [List.getElem?_take] at hj
        split at hj
        · rename_i hlt
          have h2 : j < m.length * P.cellsOf e := Nat.lt_of_lt_of_le hlt (Nat.mul_le_mul_right _ hn)
          rw [hnews j h2] at hj
          injection hj with hj
          subst hj
          obtain ⟨c, hcj⟩ := hget j h2
          have := hc hm j c hcj
          rw [show (at0 k o).add j = at0 k (o + j) by unfold Addr.add at0; split <;> simp_all]
          rw [← this]
          simp [World.cell?, at0, hw]
        · cases hj
theorem src_ok (ok : CdOk P cd) {hp : List (Blk U)} (h : HR P cd M Fz hp w) {e : Nat} {m : List (U e)} {y : V U} {vy : Value} (hy : RV P cd M Fz w y vy) (he : elemsOf cd e hp y = some m) : ∃ news, Src P cd M Fz w e m vy news := by
  unfold elemsOf at he
  split at he
  · rename_i t l full
    split at he
    · rename_i ht
      subst ht
      injection he with he
      subst he
      cases hy with
      | sl _ _ _ a cap f h1 h2 h3 h4 =>
        by_cases hm : l = []
        · subst hm
          exact ⟨_, Src.of_cells ok (k := 0) (o := 0) (f := f) (fun h => absurd rfl h) h4 a (fun h => absurd rfl h)⟩
        · obtain ⟨k, o, rfl, hk, hc⟩ := h3 hm
          exact ⟨_, Src.of_cells ok (fun _ => hc) h4 _ fun _ => rfl⟩
    · cases he
  · injection he with he
    subst he
    cases hy
    exact ⟨_, Src.of_cells ok (m := ([] : List (U e))) (cap := 0) (k := 0) (o := 0) (f := fun _ => undef) (fun h => absurd rfl h) (fun j c h => by simp at h) none (fun h => absurd rfl h)⟩
  · rename_i s
    obtain ⟨h1, h2⟩ := ok.ofBytes e s m he
    cases hy
    have hl := z1p ok e m
    rw [h2, h1] at hl
    simp only [List.length_map] at hl
    refine ⟨s.map fun b => Value.int .u8 (b.toNat : Int), ⟨?_, by rw [h1]; simpa using hl, ?_, ?_, ?_⟩⟩
    · rw [h1]
      simp [Builtin.lenOf, ByteArray.size]
    · intro u hu
      obtain ⟨b, _, rfl⟩ := List.mem_map.1 hu
      rfl
    · intro j c hj
      rw [h2, List.getElem?_map] at hj
      obtain ⟨b, hb, rfl⟩ := Option.map_eq_some_iff.1 hj
      exact ⟨_, by rw [List.getElem?_map, hb]; rfl, .int _ _⟩
    · intro n w1 hn _
      have hn1 : n * P.cellsOf e = n := by
        rcases Nat.eq_zero_or_pos s.length with h0 | h0
        · have : n = 0 := by omega
          subst this; simp
        · have : P.cellsOf e = 1 := by
            have : s.length * P.cellsOf e = s.length * 1 := by omega
            exact Nat.eq_of_mul_eq_mul_left h0 this
          rw [this, Nat.mul_one]
      rw [hn1]
      simp only [Builtin.firstCells, Sem.run_pure]
      congr 1
      apply Array.ext'
      simp [ByteArray.extract, ByteArray.copySlice, List.map_take]
  · rename_i b v
    rw [z25] at he
    split at he
    · rename_i t v' l hb
      split at he
      · rename_i ht
        subst ht
        rw [cond_eq_ite] at he
        split at he
        · rename_i hv
          obtain rfl := Nat.eq_of_beq_eq_true hv
          injection he with he
          subst he
          cases hy with
          | row _ _ pos t' ver len cap _ hm hle hsc hval =>
            obtain ⟨rfl, rfl, rfl, hpos⟩ := h.row_at hb hm
            have hval := hval rfl
            cases pos with
            | none =>
              obtain ⟨a, rfl⟩ := hval
              have : l = [] := hpos
              subst this
              exact ⟨_, Src.of_cells ok (m := ([] : List (U t'))) (cap := 0) (k := 0) (o := 0) (f := fun _ => undef) (fun h => absurd rfl h) (fun j c h => by simp at h) a (fun h => absurd rfl h)⟩
            | some k =>
              obtain ⟨cur, r⟩ := hpos
              simp only [RowV] at hval
              subst hval
              refine ⟨_, Src.of_cells ok (k := k) (o := 0) (f := fun j => cur.getD j undef) (fun _ j c hj => ?_) (fun j c hj => ?_) _ (fun _ => rfl)⟩
              · obtain ⟨v, h1, h2⟩ := r.cells j c hj
                rw [Nat.zero_add]
                simp [World.cell?, at0, r.heap, h1, Array.getD_eq_getD_getElem?]
              · obtain ⟨v, h1, h2⟩ := r.cells j c hj
                simp only [Array.getD_eq_getD_getElem?, h1, Option.getD_some]
                exact h2
        · cases he
      · cases he
    · cases he
  · rename_i b v lo n
    rw [z25] at he
    split at he
    · rename_i t v' l hb
      split at he
      · rename_i ht
        subst ht
        rw [cond_eq_ite] at he
        split at he
        · rename_i hv
          obtain rfl := Nat.eq_of_beq_eq_true hv
          injection he with he
          subst he
          cases hy with
          | own _ _ _ _ pos t' ver len cap _ hm hle hsc hval =>
            obtain ⟨rfl, rfl, rfl, hpos⟩ := h.row_at hb hm
            obtain ⟨h1, a, c, rfl, h2, h3⟩ := hval rfl
            have hl : ((l.drop lo).take n).length = n := by simp; omega
            rcases Nat.eq_zero_or_pos n with hn | hn
            · subst hn
              have := Src.of_cells (M := M) (Fz := Fz) (w := w) ok (e := t') (m := ([] : List (U t'))) (cap := c) (k := 0) (o := 0) (f := fun _ => undef) (fun h => absurd rfl h) (fun j c h => by simp at h) a (fun h => absurd rfl h)
              exact ⟨_, by simpa using this⟩
            · obtain ⟨k, rfl, rfl⟩ := h3 hn
              obtain ⟨cur, r⟩ := hpos
              have hg : ∀ j c', ((((l.drop lo).take n).flatMap (cd.enc t')))[j]? = some c' → ∃ v, cur[lo * P.cellsOf t' + j]? = some v ∧ R1 P cd M Fz w c' v := by
                intro j c' hj
                rw [zdn ok, zdm ok, List.getElem?_take] at hj
                split at hj
                · rw [List.getElem?_drop] at hj
                  exact r.cells _ _ hj
                · cases hj
              have := Src.of_cells (M := M) (Fz := Fz) (w := w) ok (e := t') (m := (l.drop lo).take n) (cap := c) (k := k) (o := lo * P.cellsOf t') (f := fun j => cur.getD (lo * P.cellsOf t' + j) undef) (fun _ j c hj => by
                obtain ⟨v, h1, h2⟩ := hg j c hj
                simp [World.cell?, at0, r.heap, h1, Array.getD_eq_getD_getElem?]) (fun j c hj => by
                obtain ⟨v, h1, h2⟩ := hg j c hj
                simp only [Array.getD_eq_getD_getElem?, h1, Option.getD_some]
                exact h2) (some (at0 k (lo * P.cellsOf t'))) (fun _ => rfl)
              rw [hl] at this
              exact ⟨_, this⟩
        · cases he
      · cases he
    · cases he
  · cases he
theorem Src.take_all {e : Nat} {m : List (U e)} {y : Value} {news : List Value} (s : Src P cd M Fz w e m y news) : news.take (m.length * P.cellsOf e) = news := List.take_of_length_le (by rw [s.size]; exact Nat.le_refl _)

theorem z1xo {t : Nat} (h : srcT P t = true) : ∃ d, P.underlying t = some d ∧ (∀ k, d ≠ .int k) := by
  unfold srcT at h
  split at h
  · rename_i e he; exact ⟨_, he, fun k hk => by cases hk⟩
  · rename_i he; exact ⟨_, he, fun k hk => by cases hk⟩
  · cases h
theorem z1ug {t t2 ty e : Nat} {i : TypeInfo} (ht : P.underlying t = some (.slice e)) (h2 : srcT P t2 = true) (hi : P.info? e = some i) {m : List (U e)} {y : Value} {news : List Value} (s : Src P cd M Fz w e m y news)
    {base : Option Addr} {n cap : Nat} (hroom : n + m.length ≤ cap) {w' : World} (hst : ∀ a, base = some a → (storeCells (a.add (n * i.size)) news).run P w = .ok () w') (hno : base = none → w' = w) :
    (Builtin.append_ #[t, t2] ty #[.slice base n cap, y]).run P w = .ok (.slice base (n + m.length) cap) w' := by
  obtain ⟨d, hd, hk⟩ := z1xo h2
  have hc : P.cellsOf e = i.size := by simp [Program.cellsOf, hi]
  have hf := s.first m.length w (Nat.le_refl _) rfl
  rw [s.take_all, hc] at hf
  have hz : (match d with | .int _ => true | _ => false) = false := by
    cases d <;> first | rfl | exact absurd rfl (hk _)
  simp only [Builtin.append_, run_underlying ht, run_underlying hd, sizeOf, typeInfo, hi, run_program, Sem.run_bind, Sem.run_pure, Result.andThen, List.getElem?_toArray, List.getElem?_cons_zero, List.getElem?_cons_succ, hz, s.len, Bool.false_eq_true, if_false, if_true, Bool.not_false, hroom, hf]
  cases base with
  | none => simp [hno rfl, hf]
  | some a =>
    have := hst a rfl
    simp [hf, this]
theorem z1uf {t t2 ty e : Nat} {i : TypeInfo} {z : Value} (ht : P.underlying t = some (.slice e)) (h2 : srcT P t2 = true) (hi : P.info? e = some i) (hz : i.zero = some z) {m : List (U e)} {y : Value} {news : List Value} (s : Src P cd M Fz w e m y news)
    {base : Option Addr} {n cap : Nat} (hgr : cap < n + m.length) {olds : List Value} (ho : (Builtin.firstCells i.size n (.slice base n cap)).run P w.drew = .ok olds.toArray w.drew) (hb : 0 < i.bytes) (hfit : Builtin.nextslicecap (n + m.length) cap * i.bytes ≤ 281474976710656) :
    (Builtin.append_ #[t, t2] ty #[.slice base n cap, y]).run P w = .ok (.slice (some (at0 w.heap.size 0)) (n + m.length) (grownCap w (n + m.length) cap e))
      (w.drew.alloc (.cells (olds ++ news ++ (Builtin.zeroCells z.cells (grownCap w (n + m.length) cap e - (n + m.length))).toList).toArray e)) := by
  obtain ⟨d, hd, hk⟩ := z1xo h2
  have hc : P.cellsOf e = i.size := by simp [Program.cellsOf, hi]
  have hf := s.first m.length w.drew (Nat.le_refl _) rfl
  rw [s.take_all, hc] at hf
  have hzz : (match d with | .int _ => true | _ => false) = false := by
    cases d <;> first | rfl | exact absurd rfl (hk _)
  have h48' : ¬ (281474976710656 < Builtin.nextslicecap (n + m.length) cap * i.bytes) := by omega
  simp only [Builtin.append_, run_underlying ht, run_underlying hd, sizeOf, typeInfo, zeroValue, hi, hz, run_program, Sem.run_bind, Sem.run_pure, Result.andThen, List.getElem?_toArray, List.getElem?_cons_zero, List.getElem?_cons_succ, hzz, s.len, Bool.false_eq_true, if_false, if_true, Bool.not_false, show ¬ n + m.length ≤ cap by omega]
  simp [hi, hz, h48', show ¬ i.bytes = 0 by omega, Question.forced, ho, hf, newRow, grownCap, typeInfo, at0]
  congr 2
  apply Array.ext'
  simp [List.append_assoc]
theorem HR.moved {hp : List (Blk U)} (h : HR P cd M Fz hp w) {b : Nat} {i' : Inf} {x' : Blk U} (hlt : b < hp.length) (hle : ∀ j, M b = some j → Inf.Le j i') (hsz : w.heap.size ≤ w'.heap.size)
    (hold : ∀ k, k < w.heap.size → w'.heap[k]? = w.heap[k]?) (hk : ∀ k, i'.blk = some k → k < w'.heap.size ∧ w.heap.size ≤ k) (hos : w'.os = w.os) (htape : w'.tape = w.tape) (hout : w'.output = w.output)
    (hx : Ext M (upd M b (some i')) → Frz Fz w Fz w' → RB P cd (upd M b (some i')) Fz w' b x') {d : D U} {v : Value} (hd : Ext M (upd M b (some i')) → Frz Fz w Fz w' → RD P cd (upd M b (some i')) Fz w' d v) :
    Post P cd M Fz w d (hp.set b x') v w' := by
  have he : Ext M (upd M b (some i')) := zym hle
  have hf : Frz Fz w Fz w' := fun k hk'' => ⟨hk'', hold k (h.frz k hk'')⟩
  obtain ⟨h1, h2, h3⟩ := h.update (w' := w') b x' i' hlt hle hsz (fun k hk'' _ => hold k hk'') (fun k e => ⟨(hk k e).1, .inr (hk k e).2⟩) (hx he hf)
  refine ⟨_, Fz, hd he hf, h1, h2, h3, ⟨hos, htape, hout, hsz, fun k hk'' _ => hold k hk''⟩, ?_, fun k hk => .inl hk⟩
  rintro k' ⟨b', j, hb', hk''⟩
  by_cases e : b' = b
  · subst e
    rw [z1w] at hb'
    injection hb' with hb'
    subst hb'
    exact .inr (hk k' hk'').2
  · rw [z4j _ _ e] at hb'
    exact .inl ⟨b', j, hb', hk''⟩
theorem z1jo (w : World) (o : Obj) {k : Nat} (h : k < w.heap.size) : (w.drew.alloc o).heap[k]? = w.heap[k]? := heap_alloc_old w.drew o k h
theorem zoh (ok : CdOk P cd) {e : Nat} {l m : List (U e)} {olds news rest : List Value} (hl : olds.length = l.length * P.cellsOf e)
    (h1 : ∀ (j : Nat) c, (l.flatMap (cd.enc e))[j]? = some c → ∃ v, olds[j]? = some v ∧ R1 P cd M Fz w c v) (hm : news.length = m.length * P.cellsOf e)
    (h2 : ∀ (j : Nat) c, (m.flatMap (cd.enc e))[j]? = some c → ∃ v, news[j]? = some v ∧ R1 P cd M Fz w c v) :
    ∀ (j : Nat) c, ((l ++ m).flatMap (cd.enc e))[j]? = some c → ∃ v, (olds ++ news ++ rest)[j]? = some v ∧ R1 P cd M Fz w c v := by
  intro j c hj
  rw [List.flatMap_append] at hj
  have e1 := z1p ok e l
  have e2 := z1p ok e m
  rw [List.append_assoc]
  by_cases hjl : j < olds.length
  · rw [List.getElem?_append_left (by omega)] at hj
    rw [List.getElem?_append_left hjl]
    exact h1 j c hj
  · rw [List.getElem?_append_right (by omega), e1] at hj
    have := (List.getElem?_eq_some_iff.1 hj).1
    rw [List.getElem?_append_right (by omega), hl, List.getElem?_append_left (by omega)]
    exact h2 _ c hj
theorem z1nw (ok : CdOk P cd) {hp : List (Blk U)} (h : HR P cd M Fz hp w) {b e ver need cap0 : Nat} {l m : List (U e)} {olds news : List Value} {z : Value} (hlt : b < hp.length) (hle : ∀ j, M b = some j → Inf.Le j (.row (some w.heap.size) e ver need (grownCap w need cap0 e)))
    (hn : need = l.length + m.length) (hmax : need ≤ maxLen) (hl : olds.length = l.length * P.cellsOf e) (hz : z.cells.size = P.cellsOf e)
    (h1 : ∀ (j : Nat) c, (l.flatMap (cd.enc e))[j]? = some c → ∃ v, olds[j]? = some v ∧ R1 P cd M Fz w c v) (hm : news.length = m.length * P.cellsOf e)
    (h2 : ∀ (j : Nat) c, (m.flatMap (cd.enc e))[j]? = some c → ∃ v, news[j]? = some v ∧ R1 P cd M Fz w c v) :
    Post P cd M Fz w (.v (.one (.row b ver))) (hp.set b (.row e ver (l ++ m))) (.slice (some (at0 w.heap.size 0)) need (grownCap w need cap0 e))
      (w.drew.alloc (.cells (olds ++ news ++ (Builtin.zeroCells z.cells (grownCap w need cap0 e - need)).toList).toArray e)) := by
  have hge := grownCap_ge w need cap0 e
  have hcm := grownCap_le_maxLen w need cap0 e hmax
  refine h.moved (i' := .row (some w.heap.size) e ver need (grownCap w need cap0 e)) hlt hle (by simp) (fun k hk => z1jo w _ hk) (fun k hk => ?_) rfl rfl rfl (fun he hf => ?_) (fun he hf => ?_)
  · simp only [Inf.blk, Option.some.injEq] at hk
    subst hk
    exact ⟨by simp, Nat.le_refl _⟩
  · refine ⟨some w.heap.size, grownCap w need cap0 e, by rw [z1w, List.length_append, ← hn], _, heap_alloc_new w.drew _, by rw [List.length_append, ← hn]; exact hge, hcm, ?_, fun j c hj => ?_⟩
    · have hzl : (Builtin.zeroCells z.cells (grownCap w need cap0 e - need)).toList.length = (grownCap w need cap0 e - need) * P.cellsOf e := by rw [Array.length_toList, size_zeroCells, hz]
      rw [List.size_toArray, List.length_append, List.length_append, hl, hm, hzl, ← Nat.add_mul, ← Nat.add_mul, ← hn]
      congr 1
      omega
    · obtain ⟨v, k1, k2⟩ := zoh ok hl h1 hm h2 (rest := (Builtin.zeroCells z.cells (grownCap w need cap0 e - need)).toList) j c hj
      exact ⟨v, by rw [List.getElem?_toArray]; exact k1, k2.mono he hf⟩
  · exact .row b ver _ _ _ _ _ _ (z1w ..) (Nat.le_refl _) rfl fun _ => rfl
theorem z1ic (a : Option Addr) (size cap : Nat) : (Builtin.firstCells size 0 (.slice a 0 cap)).run P w = .ok ([] : List Value).toArray w := by
  cases a <;> simp [Builtin.firstCells, loadCells, loadCellsFrom]
theorem z18q (ok : CdOk P cd) {hp : List (Blk U)} (h : HR P cd M Fz hp w) {t t2 ty e b ver : Nat} {i : TypeInfo} {z : Value} (ht : P.underlying t = some (.slice e)) (h2 : srcT P t2 = true) (hi : P.info? e = some i) (hz : i.zero = some z) (hzs : z.cells.size = P.cellsOf e)
    (hb : 0 < i.bytes) {m : List (U e)} {y : Value} {news : List Value} (s : Src P cd M Fz w e m y news) (hfit : m.length * i.bytes ≤ 140737488355328) (a : Option Addr) (hlt : b < hp.length)
    (hle : ∀ j, M b = some j → ∀ pos n c, Inf.Le j (.row pos e ver n c)) :
    ∃ v w', (Builtin.append_ #[t, t2] ty #[.slice a 0 0, y]).run P w = .ok v w' ∧ Post P cd M Fz w (.v (.one (.row b ver))) (hp.set b (.row e ver m)) v w' := by
  by_cases hm : m.length = 0
  · have hm' : m = [] := List.eq_nil_of_length_eq_zero hm
    subst hm'
    have hnews : news = [] := List.eq_nil_of_length_eq_zero (by rw [s.size]; simp)
    subst hnews
    have hr := z1ug (w' := w) (ty := ty) ht h2 hi s (base := a) (n := 0) (cap := 0) (by simp) (fun a _ => by simp [storeCells]) (fun _ => rfl)
    refine ⟨_, _, hr, ?_⟩
    refine h.moved (i' := .row none e ver 0 0) hlt (fun j hj => hle j hj _ _ _) (Nat.le_refl _) (fun _ _ => rfl) (fun k hk => by cases hk) rfl rfl rfl (fun he hf => ?_) (fun he hf => ?_)
    · exact ⟨none, 0, z1w .., rfl⟩
    · exact .row b ver none e ver 0 0 _ (z1w ..) (Nat.le_refl _) rfl fun _ => ⟨a, rfl⟩
  · have hmx : m.length ≤ 140737488355328 := Nat.le_trans (Nat.le_mul_of_pos_right _ hb) hfit
    have hr := z1uf (ty := ty) ht h2 hi hz s (base := a) (n := 0) (cap := 0) (olds := []) (by omega) (z1ic a _ _) hb (by rw [Nat.zero_add, nextslicecap_zero (by omega)]; omega)
    refine ⟨_, _, hr, ?_⟩
    have := z1nw ok h (b := b) (e := e) (ver := ver) (need := 0 + m.length) (cap0 := 0) (l := []) (m := m) (olds := []) (news := news) (z := z) hlt (fun j hj => hle j hj _ _ _) (by simp) (by simp only [maxLen]; omega) (by simp) hzs (fun j c hj => by simp at hj) s.size s.cells
    simpa using this
theorem z1z0 (ok : CdOk P cd) {hp : List (Blk U)} (h : HR P cd M Fz hp w) {id : Nat} (hid : hp[id]? = some .dead) (t t2 ty : Nat) {x y : V U} {vx vy : Value} (hx : RV P cd M Fz w x vx) (hy : RV P cd M Fz w y vy) :
    ValOk P cd M Fz w hp id (Builtin.append_ #[t, t2] ty #[vx, vy]) (appendK P cd t t2 x y) := by
  unfold appendK
  split
  case h_2 => exact .fail
  rename_i e ht
  rw [cond_eq_ite]
  split
  case isFalse => exact .fail
  rename_i hcond
  simp only [Bool.and_eq_true] at hcond
  obtain ⟨⟨h2, hzx⟩, hby⟩ := hcond
  obtain ⟨zx, hzx⟩ := Option.isSome_iff_exists.1 hzx
  obtain ⟨i, z, hi, hz, hzs, _⟩ := z11e ok hzx
  have hib : i.bytes = P.bytesOf e := by simp [Program.bytesOf, hi]
  have hb : 0 < i.bytes := by rw [hib]; exact of_decide_eq_true (by simpa using hby)
  have hsz : P.cellsOf e = i.size := by simp [Program.cellsOf, hi]
  have hidlt : id < hp.length := (List.getElem?_eq_some_iff.1 hid).1
  have hidM : M id = none := h.blk id _ hid
  have fresh : ∀ a, vx = .slice a 0 0 → ∀ d hp', (appendK.fresh P cd y e hp id).run = some (d, hp') → ∃ v w', (Builtin.append_ #[t, t2] ty #[vx, vy]).run P w = .ok v w' ∧ Post P cd M Fz w d hp' v w' := by
    intro a hva d hp' hd
    subst hva
    unfold appendK.fresh at hd
    split at hd
    · rename_i m hm
      simp only [Tree.run] at hd
      split at hd
      · rename_i hfit
        have hfit := of_decide_eq_true hfit
        simp only [Tree.run, Option.some.injEq, Prod.mk.injEq] at hd
        obtain ⟨rfl, rfl⟩ := hd
        rw [z3g]
        obtain ⟨news, s⟩ := src_ok ok h hy hm
        exact z18q ok h ht h2 hi hz hzs hb s (by rw [hib]; exact hfit) a hidlt (fun j hj => by rw [hidM] at hj; cases hj)
      · cases hd
    · cases hd
  intro d hp' hd
  simp only [K.sem] at hd
  unfold appendK.go at hd
  split at hd
  · cases hx
    exact fresh none rfl d hp' hd
  · split at hd
    · cases hx with
      | sl _ _ _ a cap f h1 h0 h3 h4 =>
        have : cap = 0 := h1 rfl
        subst this
        exact fresh a rfl d hp' hd
    · cases hd
  · rename_i b v
    rw [z25] at hd
    split at hd
    · rename_i t' v' l hbb
      rw [cond_eq_ite] at hd
      split at hd
      · rename_i hc
        simp only [Bool.and_eq_true] at hc
        obtain rfl := Nat.eq_of_beq_eq_true hc.1.1
        obtain rfl := Nat.eq_of_beq_eq_true hc.1.2
        split at hd
        · rename_i m hm
          simp only [Tree.run] at hd
          split at hd
          · rename_i hfit
            have hfit := of_decide_eq_true hfit
            simp only [Tree.run, Option.some.injEq, Prod.mk.injEq] at hd
            obtain ⟨rfl, rfl⟩ := hd
            rw [z3g]
            obtain ⟨news, s⟩ := src_ok ok h hy hm
            have hblt : b < hp.length := (List.getElem?_eq_some_iff.1 hbb).1
            cases hx with
            | row _ _ pos t'' ver len cap _ hmm hle hsc hval =>
              obtain ⟨rfl, rfl, rfl, hpos⟩ := h.row_at hbb hmm
              have hval := hval rfl
              cases pos with
              | none =>
                obtain ⟨a, rfl⟩ := hval
                have : l = [] := hpos
                subst this
                refine z18q ok h ht h2 hi hz hzs hb s (by rw [hib]; simpa using hfit) a hblt (fun j hj pos n c => ?_)
                rw [hmm] at hj
                injection hj with hj
                subst hj
                exact .later _ _ _ _ _ _ _ _ _ _ (Nat.lt_succ_self _)
              | some k =>
                obtain ⟨cur, r⟩ := hpos
                simp only [RowV] at hval
                subst hval
                by_cases hroom : l.length + m.length ≤ cap
                · have hcs : l.length * P.cellsOf t'' + news.length ≤ cur.size := by
                    rw [s.size, r.size, ← Nat.add_mul]; exact Nat.mul_le_mul_right _ hroom
                  have hst := run_storeCells_at P k (l.length * P.cellsOf t'') t'' news 0 cur w r.heap (by simpa using hcs) s.one
                  rw [Nat.add_zero] at hst
                  have hr := z1ug (ty := ty) ht h2 hi s (base := some (at0 k 0)) (n := l.length) (cap := cap) hroom (fun a ha => by
                    injection ha with ha
                    subst ha
                    rw [show (at0 k 0).add (l.length * i.size) = at0 k (l.length * P.cellsOf t'') by rw [hsz]; unfold Addr.add at0; split <;> simp_all]
                    exact hst) (fun hn => by cases hn)
                  refine ⟨_, _, hr, ?_⟩
                  have hlo : (cur.toList.take (l.length * P.cellsOf t'')).length = l.length * P.cellsOf t'' := by simp; omega
                  refine h.inPlace (i := .row (some k) t'' ver l.length cap) (i' := .row (some k) t'' (ver + 1) (l.length + m.length) cap) hmm rfl rfl (.later _ _ _ _ _ _ _ _ _ _ (Nat.lt_succ_self _)) (by simp) (fun k' hk' => setRow_other w k k' _ hk') rfl rfl rfl (fun he hf => ?_) (fun he hf => ?_)
                  · refine ⟨some k, cap, by rw [List.length_append]; exact z1w .., _, ⟨setRow_heap w k cur _ t'' _ r.heap, by rw [List.length_append]; exact hroom, r.max, ?_, fun j c hj => ?_⟩⟩
                    · have := r.size
                      simp
                      omega
                    · obtain ⟨v, k1, k2⟩ := zoh ok hlo (fun j c hj => by
                        obtain ⟨v, e1, e2⟩ := r.cells j c hj
                        have hjl := (List.getElem?_eq_some_iff.1 hj).1
                        rw [z1p ok] at hjl
                        exact ⟨v, by rw [List.getElem?_take, if_pos hjl]; simpa using e1, e2⟩) s.size s.cells (rest := cur.toList.drop (l.length * P.cellsOf t'' + news.length)) j c hj
                      exact ⟨v, by rw [List.getElem?_toArray]; exact k1, k2.mono he hf⟩
                  · exact .row b (ver + 1) _ _ _ _ _ _ (z1w ..) (Nat.le_refl _) rfl fun _ => rfl
                · have hneed : l.length + m.length ≤ 140737488355328 := Nat.le_trans (Nat.le_mul_of_pos_right _ (by rw [← hib]; exact hb)) hfit
                  have hlo : (cur.toList.take (l.length * P.cellsOf t'')).length = l.length * P.cellsOf t'' := by
                    have := Nat.mul_le_mul_right (P.cellsOf t'') r.le
                    have := r.size
                    simp; omega
                  have hfo := run_firstCells_some (P := P) w.drew i.size l.length (at0 k 0) l.length cap (cur.toList.take (l.length * P.cellsOf t'')) (by rw [hlo, hsz]) (fun j v hj => by
                    rw [List.getElem?_take] at hj
                    split at hj
                    · rw [show (at0 k 0).add j = at0 k j by unfold Addr.add at0; split <;> simp_all]
                      have hk' : w.drew.heap[k]? = some (.cells cur t'' (0, 0)) := r.heap
                      simp only [World.cell?, at0, hk']
                      simpa using hj
                    · cases hj)
                  have hr := z1uf (ty := ty) ht h2 hi hz s (base := some (at0 k 0)) (n := l.length) (cap := cap) (by omega) hfo hb (growslice_fits (by omega) (by rw [hib]; exact hfit))
                  refine ⟨_, _, hr, ?_⟩
                  exact z1nw ok h (b := b) (ver := ver + 1) (need := l.length + m.length) (cap0 := cap) (l := l) (m := m) hblt (fun j hj => by
                    rw [hmm] at hj
                    injection hj with hj
                    subst hj
                    exact .later _ _ _ _ _ _ _ _ _ _ (Nat.lt_succ_self _)) rfl (by simp only [maxLen]; omega) hlo hzs (fun j c hj => by
                      obtain ⟨v, e1, e2⟩ := r.cells j c hj
                      have hjl := (List.getElem?_eq_some_iff.1 hj).1
                      rw [z1p ok] at hjl
                      exact ⟨v, by rw [List.getElem?_take, if_pos hjl]; simpa using e1, e2⟩) s.size s.cells
          · cases hd
        · cases hd
      · cases hd
    · cases hd
  · cases hd
theorem z223 (ok : CdOk P cd) {hp : List (Blk U)} (h : HR P cd M Fz hp w) {id : Nat} (t t2 ty : Nat) {x y : V U} {vx vy : Value} (hx : RV P cd M Fz w x vx) (hy : RV P cd M Fz w y vy) :
    ValOk P cd M Fz w hp id (Builtin.copy_ #[t, t2] ty #[vx, vy]) (copyK P cd t x y) := by
  unfold copyK
  split
  case h_2 => exact .fail
  rename_i e ht
  rw [cond_eq_ite]
  split
  case isFalse => exact .fail
  rename_i hinf
  obtain ⟨i, hi, hsz⟩ := zg9 hinf
  intro d hp' hd
  simp only [K.sem] at hd
  split at hd
  · rename_i b v
    rw [z25] at hd
    split at hd
    · rename_i t' v' l hbb
      rw [cond_eq_ite] at hd
      split at hd
      · rename_i hc
        simp only [Bool.and_eq_true] at hc
        obtain rfl := Nat.eq_of_beq_eq_true hc.1.1
        obtain rfl := Nat.eq_of_beq_eq_true hc.1.2
        split at hd
        · rename_i m hm
          simp only [Tree.run, Option.some.injEq, Prod.mk.injEq] at hd
          obtain ⟨rfl, rfl⟩ := hd
          rw [z3g]
          obtain ⟨news, s⟩ := src_ok ok h hy hm
          cases hx with
          | row _ _ pos t'' ver len cap _ hmm hle hsc hval =>
            obtain ⟨rfl, rfl, rfl, hpos⟩ := h.row_at hbb hmm
            have hval := hval rfl
            have hf := s.first (min m.length l.length) w (Nat.min_le_left _ _) rfl
            rw [hsz] at hf
            cases pos with
            | none =>
              obtain ⟨a, rfl⟩ := hval
              have : l = [] := hpos
              subst this
              have hself : hp.set b (.row t'' ver []) = hp := List.ext_getElem? fun j => by
                rw [List.getElem?_set]
                split
                · rename_i e; subst e
                  rw [if_pos (List.getElem?_eq_some_iff.1 hbb).1, hbb]
                · rfl
              have hmin : Nat.min m.length ([] : List (U t'')).length = 0 := Nat.min_zero _
              simp only [List.length_nil, Nat.min_zero] at hf
              simp only [List.length_nil, List.take_zero, List.drop_nil, List.append_nil, hself, Nat.min_zero]
              refine ⟨.int .i64 0, w, ?_, .same h (R1.int .i64 0)⟩
              have hz : Nat.min m.length 0 = 0 := Nat.min_zero _
              simp at hf
              cases a <;> simp [Builtin.copy_, run_underlying ht, s.len, hz, sizeOf, typeInfo, hi, hf, storeCells, goInt, Result.andThen]
            | some k =>
              obtain ⟨cur, r⟩ := hpos
              simp only [RowV] at hval
              subst hval
              have hnl : (news.take (min m.length l.length * i.size)).length = min m.length l.length * P.cellsOf t'' := by
                rw [List.length_take, s.size, hsz]
                exact Nat.min_eq_left (Nat.mul_le_mul_right _ (Nat.min_le_left _ _))
              have hfit : min m.length l.length * P.cellsOf t'' ≤ cur.size := by
                rw [r.size]; exact Nat.mul_le_mul_right _ (Nat.le_trans (Nat.min_le_right _ _) r.le)
              have hst := run_storeCells_at P k 0 t'' (news.take (min m.length l.length * i.size)) 0 cur w r.heap (by omega) (fun u hu => s.one u (List.mem_of_mem_take hu))
              refine ⟨.int .i64 (min m.length l.length : Nat), w.setRow k (cur.toList.take (0 + 0) ++ news.take (min m.length l.length * i.size) ++ cur.toList.drop (0 + 0 + (news.take (min m.length l.length * i.size)).length)).toArray, ?_, ?_⟩
              · simp only [Builtin.copy_, run_underlying ht, sizeOf, typeInfo, hi, run_program, Sem.run_bind, Sem.run_pure, Result.andThen, List.getElem?_toArray, List.getElem?_cons_zero, List.getElem?_cons_succ, s.len]
                rw [show Nat.min m.length l.length = min m.length l.length from rfl]
                simp only [hf]
                simp only [at0] at hst ⊢
                simp only [hst]
                rfl
              · refine h.inPlace (i := .row (some k) t'' ver l.length cap) (i' := .row (some k) t'' ver l.length cap) hmm rfl rfl (.refl _) (by simp) (fun k' hk' => setRow_other w k k' _ hk') rfl rfl rfl (fun he hf => ?_) (fun he hf => .int _ _)
                have hll : (m.take l.length ++ l.drop m.length).length = l.length := by simp; omega
                refine ⟨some k, cap, by rw [hll]; exact z1w .., _, ⟨setRow_heap w k cur _ t'' _ r.heap, by rw [hll]; exact r.le, r.max, ?_, fun j c hj => ?_⟩⟩
                · have := r.size
                  simp only [List.size_toArray, List.length_append, hnl, List.length_take, List.length_drop, Array.length_toList]
                  omega
                · rw [List.flatMap_append, zdn ok, zdm ok] at hj
                  rw [List.getElem?_toArray]
                  suffices hget : ∃ v, (news.take (min m.length l.length * i.size) ++ cur.toList.drop (min m.length l.length * P.cellsOf t''))[j]? = some v ∧ R1 P cd M Fz w c v by
                    obtain ⟨v, e1, e2⟩ := hget
                    refine ⟨v, ?_, e2.mono he hf⟩
                    simp only [Nat.zero_add, List.take_zero, List.nil_append, hnl]
                    exact e1
                  have hml : ((m.flatMap (cd.enc t'')).take (l.length * P.cellsOf t'')).length = min m.length l.length * P.cellsOf t'' := by
                    rw [List.length_take, z1p ok, Nat.min_comm, Nat.mul_min_mul_right]
                  by_cases hjl : j < min m.length l.length * P.cellsOf t''
                  · rw [List.getElem?_append_left (by omega), List.getElem?_take] at hj
                    split at hj
                    · rw [List.getElem?_append_left (by omega), List.getElem?_take, if_pos (by rw [← hsz]; exact hjl)]
                      exact s.cells j c hj
                    · cases hj
                  · rw [List.getElem?_append_right (by omega), hml, List.getElem?_drop] at hj
                    have hlt := (List.getElem?_eq_some_iff.1 hj).1
                    rw [z1p ok] at hlt
                    have hmn : min m.length l.length = m.length := by
                      rcases Nat.le_total m.length l.length with h' | h'
                      · exact Nat.min_eq_left h'
                      · have := Nat.mul_le_mul_right (P.cellsOf t'') h'
                        omega
                    rw [hmn] at hj hjl hnl ⊢
                    rw [show m.length * P.cellsOf t'' + (j - m.length * P.cellsOf t'') = j by omega] at hj
                    rw [List.getElem?_append_right (by rw [hnl]; omega), List.getElem?_drop]
                    obtain ⟨v, e1, e2⟩ := r.cells j c hj
                    refine ⟨v, ?_, e2⟩
                    rw [hnl, show m.length * P.cellsOf t'' + (j - m.length * P.cellsOf t'') = j by omega]
                    simpa using e1
        · cases hd
      · cases hd
    · cases hd
  · cases hd
end
end Go.Ab
end
section
set_option linter.unusedSimpArgs false
namespace Go.Ab
variable {U : Nat → Type}
section
variable {P : Program} {cd : Cd U} {M M' : Mp} {Fz Fz' : Nat → Prop} {w w' : World}
theorem z1yx (ok : CdOk P cd) {e : Nat} {x : U e} {z : Value} (hzs : z.cells.size = P.cellsOf e) (hz : ∀ M Fz w (j : Nat) c v, (cd.enc e x)[j]? = some c → z.cells[j]? = some v → R1 P cd M Fz w c v) (n : Nat) :
    (Builtin.zeroCells z.cells n).toList.length = n * P.cellsOf e ∧ ∀ (j : Nat) c, ((List.replicate n x).flatMap (cd.enc e))[j]? = some c → ∃ v, (Builtin.zeroCells z.cells n).toList[j]? = some v ∧ R1 P cd M Fz w c v := by
  refine ⟨by simp [Builtin.zeroCells, hzs], fun j c hj => ?_⟩
  have hl : (List.replicate n x).length = n := by simp
  have hjl := (List.getElem?_eq_some_iff.1 hj).1
  rw [z1p ok, hl] at hjl
  have hpos : 0 < P.cellsOf e := by
    rcases Nat.eq_zero_or_pos (P.cellsOf e) with h0 | h0
    · rw [h0] at hjl; omega
    · exact h0
  have hmod : j % P.cellsOf e < z.cells.size := by rw [hzs]; exact Nat.mod_lt _ hpos
  refine ⟨z.cells[j % P.cellsOf e]'hmod, ?_, ?_⟩
  · rw [Array.getElem?_toList]
    simp only [Builtin.zeroCells]
    rw [Array.getElem?_map, Array.getElem?_range, hzs, if_pos hjl]
    simp only [Option.map_some]
    rw [getElem!_pos z.cells (j % P.cellsOf e) hmod]
  · refine hz M Fz w (j % P.cellsOf e) c _ ?_ (Array.getElem?_eq_getElem hmod)
    have hq : j / P.cellsOf e < n := by
      rw [Nat.div_lt_iff_lt_mul hpos]; exact hjl
    have he := z9y (cd := cd) ok (l := List.replicate n x) (i := j / P.cellsOf e) (x := x) (by simp [hq]) (j % P.cellsOf e)
    have hsome : j % P.cellsOf e < (cd.enc e x).length := by rw [ok.len]; exact Nat.mod_lt _ hpos
    have h5 := he _ (List.getElem?_eq_getElem hsome)
    rw [show j / P.cellsOf e * P.cellsOf e + j % P.cellsOf e = j by rw [Nat.mul_comm]; exact Nat.div_add_mod j _] at h5
    rw [List.getElem?_eq_getElem hsome]
    rw [hj] at h5
    exact h5.symm
theorem z20o (ok : CdOk P cd) {hp : List (Blk U)} (h : HR P cd M Fz hp w) {id : Nat} (t ty : Nat) {x : V U} {vx : Value} (hx : RV P cd M Fz w x vx) :
    ValOk P cd M Fz w hp id (Builtin.clear_ #[t] ty #[vx]) (clearK P cd t x) := by
  unfold clearK
  split
  case h_2 => exact .fail
  rename_i e ht
  split
  case h_2 => exact .fail
  rename_i z hz
  obtain ⟨i, zv, hi, hzi, hzs, hzr⟩ := z11e ok hz
  intro d hp' hd
  simp only [K.sem] at hd
  split at hd
  · rename_i b v lo n
    rw [z25] at hd
    split at hd
    · rename_i t' v' l hbb
      split at hd
      · rename_i hte
        subst hte
        rw [cond_eq_ite] at hd
        split at hd
        · rename_i hc
          obtain rfl := Nat.eq_of_beq_eq_true hc
          simp only [Tree.run, Option.some.injEq, Prod.mk.injEq] at hd
          obtain ⟨rfl, rfl⟩ := hd
          rw [z3g]
          cases hx with
          | own _ _ _ _ pos t'' ver len cap _ hmm hle hsc hval =>
            obtain ⟨rfl, rfl, rfl, hpos⟩ := h.row_at hbb hmm
            obtain ⟨hln, a, c, rfl, hnc, ha⟩ := hval rfl
            have hzv : ∀ w, (zeroValue t'').run P w = .ok zv w := fun w => by simp [zeroValue, typeInfo, hi, hzi]
            by_cases hn : n = 0
            · subst hn
              have hself : hp.set b (.row t'' ver (l.take lo ++ List.replicate 0 z ++ l.drop (lo + 0))) = hp := List.ext_getElem? fun j => by
                rw [List.getElem?_set]
                split
                · rename_i e; subst e
                  rw [if_pos (List.getElem?_eq_some_iff.1 hbb).1, hbb]
                  simp
                · rfl
              refine ⟨.tuple #[], w, ?_, ?_⟩
              · cases a <;> simp [Builtin.clear_, run_underlying ht]
              · rw [hself]; exact .same h (R1.unk _)
            · obtain ⟨k, rfl, rfl⟩ := ha (by omega)
              obtain ⟨cur, r⟩ := hpos
              obtain ⟨zl, zc⟩ := z1yx (M := M) (Fz := Fz) (w := w) ok hzs hzr n
              have hone : ∀ u ∈ (Builtin.zeroCells zv.cells n).toList, u.oneCell' = true := by
                intro u hu
                obtain ⟨j, hj⟩ := List.mem_iff_getElem?.1 hu
                have hjl := (List.getElem?_eq_some_iff.1 hj).1
                rw [zl] at hjl
                have hlen : j < ((List.replicate n z).flatMap (cd.enc t'')).length := by rw [z1p ok]; simpa using hjl
                have hcj := List.getElem?_eq_getElem hlen
                obtain ⟨u', e1, e2⟩ := zc j _ hcj
                rw [hj] at e1
                injection e1 with e1
                subst e1
                refine e2.scal ?_
                have : plainC (((List.replicate n z).flatMap (cd.enc t''))[j]) = true := by
                  obtain ⟨y, _, hy⟩ := List.mem_flatMap.1 (List.mem_of_getElem? hcj)
                  exact ok.plain _ _ _ hy
                revert this
                generalize ((List.replicate n z).flatMap (cd.enc t''))[j] = cc
                intro hp
                cases cc <;> first | rfl | (simp [plainC] at hp)
              have hfit : lo * P.cellsOf t'' + (Builtin.zeroCells zv.cells n).toList.length ≤ cur.size := by
                rw [zl, r.size, ← Nat.add_mul]
                exact Nat.mul_le_mul_right _ (Nat.le_trans hln r.le)
              have hst := run_storeCells_at P k (lo * P.cellsOf t'') t'' (Builtin.zeroCells zv.cells n).toList 0 cur w r.heap (by simpa using hfit) hone
              rw [Nat.add_zero] at hst
              obtain ⟨m, rfl⟩ : ∃ m, n = m + 1 := ⟨n - 1, by omega⟩
              refine ⟨.tuple #[], w.setRow k (cur.toList.take (lo * P.cellsOf t'') ++ (Builtin.zeroCells zv.cells (m + 1)).toList ++ cur.toList.drop (lo * P.cellsOf t'' + (Builtin.zeroCells zv.cells (m + 1)).toList.length)).toArray, ?_, ?_⟩
              · simp only [Builtin.clear_, run_underlying ht, hzv, Sem.run_bind, Sem.run_pure, Result.andThen, List.getElem?_toArray, List.getElem?_cons_zero]
                have hst2 : (storeCells (at0 k (lo * P.cellsOf t'')) (Builtin.zeroCells zv.cells (m + 1)).toList).run P w = _ := hst
                rw [hst2]
              have hll : (l.take lo ++ List.replicate (m + 1) z ++ l.drop (lo + (m + 1))).length = l.length := by simp; omega
              refine h.inPlace (i := .row (some k) t'' ver l.length cap) (i' := .row (some k) t'' ver l.length cap) hmm rfl rfl (.refl _) (by simp) (fun k' hk' => setRow_other w k k' _ hk') rfl rfl rfl (fun he hf => ?_) (fun he hf => .unk _)
              refine ⟨some k, cap, by rw [hll]; exact z1w .., _, ⟨setRow_heap w k cur _ t'' _ r.heap, by rw [hll]; exact r.le, r.max, ?_, fun j c hj => ?_⟩⟩
              · have hlo : (cur.toList.take (lo * P.cellsOf t'')).length = lo * P.cellsOf t'' := by
                  rw [List.length_take, Array.length_toList]
                  exact Nat.min_eq_left (by omega)
                have hct : cur.toList.length = cur.size := Array.length_toList
                rw [List.size_toArray, List.length_append, List.length_append, hlo, List.length_drop, hct, r.size]
                have := r.size
                omega
              · rw [List.getElem?_toArray]
                have hlo : (cur.toList.take (lo * P.cellsOf t'')).length = lo * P.cellsOf t'' := by
                  rw [List.length_take, Array.length_toList]
                  exact Nat.min_eq_left (by omega)
                have hzl2 : ((List.replicate (m + 1) z).flatMap (cd.enc t'')).length = (m + 1) * P.cellsOf t'' := by rw [z1p ok]; simp
                have htl : ((l.take lo).flatMap (cd.enc t'')).length = lo * P.cellsOf t'' := by rw [z1p ok, List.length_take, Nat.min_eq_left (by omega)]
                suffices hget : ∃ u, (cur.toList.take (lo * P.cellsOf t'') ++ (Builtin.zeroCells zv.cells (m + 1)).toList ++ cur.toList.drop (lo * P.cellsOf t'' + (Builtin.zeroCells zv.cells (m + 1)).toList.length))[j]? = some u ∧ R1 P cd M Fz w c u by
                  obtain ⟨u, e1, e2⟩ := hget
                  exact ⟨u, e1, e2.mono he hf⟩
                rw [List.flatMap_append, List.flatMap_append] at hj
                rcases Nat.lt_or_ge j (lo * P.cellsOf t'') with h1 | h1
                · rw [List.append_assoc, List.getElem?_append_left (by omega), zdn ok, List.getElem?_take] at hj
                  rw [List.append_assoc, List.getElem?_append_left (by omega), List.getElem?_take, if_pos h1]
                  rw [if_pos h1] at hj
                  obtain ⟨u, e1, e2⟩ := r.cells j c hj
                  exact ⟨u, by simpa using e1, e2⟩
                · rcases Nat.lt_or_ge j (lo * P.cellsOf t'' + (m + 1) * P.cellsOf t'') with h2 | h2
                  · rw [List.append_assoc, List.getElem?_append_right (by omega), htl, List.getElem?_append_left (by omega)] at hj
                    obtain ⟨u, e1, e2⟩ := zc _ c hj
                    exact ⟨u, by rw [List.append_assoc, List.getElem?_append_right (by omega), hlo, List.getElem?_append_left (by rw [zl]; omega)]; exact e1, e2⟩
                  · rw [List.getElem?_append_right (by rw [List.length_append]; omega), List.length_append, htl, hzl2, zdm ok, List.getElem?_drop, show (lo + (m + 1)) * P.cellsOf t'' + (j - (lo * P.cellsOf t'' + (m + 1) * P.cellsOf t'')) = j by rw [Nat.add_mul]; omega] at hj
                    obtain ⟨u, e1, e2⟩ := r.cells j c hj
                    refine ⟨u, ?_, e2⟩
                    rw [List.getElem?_append_right (by rw [List.length_append, zl]; omega), List.length_append, hlo, zl, List.getElem?_drop, show lo * P.cellsOf t'' + (m + 1) * P.cellsOf t'' + (j - (lo * P.cellsOf t'' + (m + 1) * P.cellsOf t'')) = j by omega]
                    simpa using e1
        · cases hd
      · cases hd
    · cases hd
  · cases hd
end
end Go.Ab
end
section
set_option linter.unusedSimpArgs false
namespace Go.Ab
variable {U : Nat → Type}
section
variable {P : Program} {cd : Cd U} {M M' M2 : Mp} {Fz Fz' : Nat → Prop} {w w' : World}

structure Renum (M M2 : Mp) (g : Nat → Nat → Option (Nat × Nat)) : Prop where
  row : ∀ b v b' v' pos t ver len cap, M b = some (.row pos t ver len cap) → g b v = some (b', v') → v ≤ ver → ∃ ver', M2 b' = some (.row pos t ver' len cap) ∧ v' ≤ ver' ∧ (v' = ver' → v = ver)
  cell : ∀ b k b' v', M b = some (.cells k) → g b 0 = some (b', v') → M2 b' = some (.cells k)
theorem Renum.none (M M2 : Mp) : Renum M M2 fun _ _ => none := ⟨fun _ _ _ _ _ _ _ _ _ _ h => by simp at h, fun _ _ _ _ _ h => by simp at h⟩
theorem z10z {g : Nat → Nat → Option (Nat × Nat)} {c : C U} (h : plainC c = true) : ren1 g c = c := by
  cases c <;> first | rfl | (simp [plainC] at h)
theorem z7j (ok : CdOk P cd) {t : Nat} {l : List (U t)} {j : Nat} {c : C U} (h : (l.flatMap (cd.enc t))[j]? = some c) : plainC c = true := by
  obtain ⟨x, _, hx⟩ := List.mem_flatMap.1 (List.mem_of_getElem? h)
  exact ok.plain _ x _ hx
theorem z19s (ok : CdOk P cd) {g : Nat → Nat → Option (Nat × Nat)} (hg : Renum M M2 g) {c : C U} {v : Value} (h : R1 P cd M Fz w c v) : R1 P cd M2 Fz w (ren1 g c) v := by
  induction h with
  | unk v => exact .unk v
  | skp => exact .skp
  | kb b => exact .bool b
  | bool b => exact .bool b
  | int k n => exact .int k n
  | str s => exact .str s
  | nils => exact .nils
  | sl t l full a cap f h1 h0 h2 h3 ih =>
    refine .sl t l full a cap f h1 h0 h2 fun j c hj => ?_
    have := ih j c hj
    rwa [z10z (z7j ok hj)] at this
  | row b v pos t ver len cap val h1 h2 h3 h4 =>
    simp only [ren1]
    split
    · rename_i b' v' hgg
      obtain ⟨ver', k1, k2, k3⟩ := hg.row b v b' v' pos t ver len cap h1 hgg h2
      exact .row b' v' pos t ver' len cap val k1 k2 h3 fun e => h4 (k3 e)
    · exact .unk _
  | own b v lo n pos t ver len cap val h1 h2 h3 h4 =>
    simp only [ren1]
    split
    · rename_i b' v' hgg
      obtain ⟨ver', k1, k2, k3⟩ := hg.row b v b' v' pos t ver len cap h1 hgg h2
      exact .own b' v' lo n pos t ver' len cap val k1 k2 h3 fun e => h4 (k3 e)
    · exact .unk _
  | ptr b o k h1 =>
    simp only [ren1]
    split
    · rename_i b' v' hgg
      exact .ptr b' o k (hg.cell b k b' v' h1 hgg)
    · exact .unk _
  | elp b v i sub pos t ver len cap val h1 h2 h3 h4 =>
    simp only [ren1]
    split
    · rename_i b' v' hgg
      obtain ⟨ver', k1, k2, k3⟩ := hg.row b v b' v' pos t ver len cap h1 hgg h2
      exact .elp b' v' i sub pos t ver' len cap val k1 k2 h3 fun e => h4 (k3 e)
    · exact .unk _
  | ap b o t i sub k h1 =>
    simp only [ren1]
    split
    · rename_i b' v' hgg
      exact .ap b' o t i sub k (hg.cell b k b' v' h1 hgg)
    · exact .unk _
  | gp g o => exact .gp g o
  | asl b o t n k cap h1 h2 =>
    simp only [ren1]
    split
    · rename_i b' v' hgg
      exact .asl b' o t n k cap (hg.cell b k b' v' h1 hgg) h2
    · exact .unk _
  | xp t x sub k o f h1 h2 h3 ih => exact .xp t x sub k o f h1 h2 fun j c hj => (z10z (g := g) (ok.plain t x c (List.mem_of_getElem? hj))) ▸ ih j c hj
  | fn f a c g h h1 h2 ih1 ih2 =>
    simp only [ren1]
    split
    · exact .fn f [] [] g h (fun j x hj => by simp at hj) (fun j x hj => by simp at hj)
    · exact .unk _
  | nilp => exact .nilp
  | mp l r es ck h1 h2 h3 h4 => exact .mp l r es ck h1 h2 h3 h4
theorem z1xl (ok : CdOk P cd) {g : Nat → Nat → Option (Nat × Nat)} (hg : Renum M M2 g) {c : C U} {v : Value} (h : R1 P cd M Fz w c v) : R1 P cd M2 Fz w (renC g c) v := by
  cases c with
  | fn f a c =>
    cases h with
    | fn _ _ _ p q h1 h2 =>
      have := R1.fn (P := P) (cd := cd) (M := M2) (Fz := Fz) (w := w) f (a.map (ren1 g)) (c.map (ren1 g)) p q (fun j x hj => by
        rw [List.getElem?_map] at hj
        obtain ⟨y, hy, rfl⟩ := Option.map_eq_some_iff.1 hj
        exact z19s ok hg (h1 j y hy)) (fun j x hj => by
        rw [List.getElem?_map] at hj
        obtain ⟨y, hy, rfl⟩ := Option.map_eq_some_iff.1 hj
        exact z19s ok hg (h2 j y hy))
      simpa [renC] using this
  | _ => exact z19s ok hg h
theorem z1ye {g : Nat → Nat → Option (Nat × Nat)} {c : C U} (h : plainC c = true) : renC g c = c := by
  cases c <;> first | rfl | (simp [plainC] at h)
theorem z1xm {g : Nat → Nat → Option (Nat × Nat)} {c : C U} {t n : Nat} {l : List (U t)} (e : renC g c = .arr t n l) : c = .arr t n l := by
  cases c with
  | arr t' n' l' => exact e
  | fn f a b => simp [renC] at e
  | _ => simp only [renC, ren1] at e; first | (cases e; done) | (split at e <;> cases e)
theorem z10r {c : C U} (h : ∀ t n l, c ≠ .arr t n l) : leaf cd c = [c] := by
  cases c <;> first | rfl | exact absurd rfl (h _ _ _)
theorem z212 (ok : CdOk P cd) (g : Nat → Nat → Option (Nat × Nat)) (c : C U) : leaf cd (renC g c) = (leaf cd c).map (renC g) := by
  by_cases hc : ∃ t n l, c = .arr t n l
  · obtain ⟨t, n, l, rfl⟩ := hc
    simp only [leaf, renC, ren1]
    have : ∀ ll : List (C U), (∀ c ∈ ll, plainC c = true) → ll = ll.map (renC g) := by
      intro ll
      induction ll with
      | nil => intro _; rfl
      | cons c ll ih =>
        intro h
        rw [List.map_cons, z1ye (h c (by simp)), ← ih fun c hc => h c (by simp [hc])]
    refine this _ fun c hc => ?_
    obtain ⟨x, _, hx⟩ := List.mem_flatMap.1 hc
    exact ok.plain _ x _ hx
  · have h1 : ∀ t n l, c ≠ .arr t n l := fun t n l e => hc ⟨t, n, l, e⟩
    have h2 : ∀ t n l, renC g c ≠ .arr t n l := fun t n l e => h1 t n l (z1xm e)
    rw [z10r h1, z10r h2]
    rfl
theorem z110 (ok : CdOk P cd) (g : Nat → Nat → Option (Nat × Nat)) : ∀ cs : List (C U), leaves cd (cs.map (renC g)) = (leaves cd cs).map (renC g)
  | [] => rfl
  | c :: cs => by rw [List.map_cons, leaves_cons, leaves_cons, z110 ok g cs, z212 ok, List.map_append]
theorem z22e {g : Nat → Nat → Option (Nat × Nat)} {cs : List (C U)} (h : okA cs) : okA (cs.map (renC g)) := by
  intro t n l hm
  obtain ⟨c, hc, e⟩ := List.mem_map.1 hm
  refine h t n l ?_
  have : c = .arr t n l := z1xm e
  exact this ▸ hc
theorem RL.ren (ok : CdOk P cd) {g : Nat → Nat → Option (Nat × Nat)} (hg : Renum M M2 g) {cs : List (C U)} {vs : List Value} (h : RL P cd M Fz w cs vs) : RL P cd M2 Fz w (cs.map (renC g)) vs := by
  refine ⟨z22e h.1, by rw [z110 ok, List.length_map]; exact h.2.1, fun j c v h1 h2 => ?_⟩
  rw [z110 ok, List.getElem?_map] at h1
  obtain ⟨y, hy, rfl⟩ := Option.map_eq_some_iff.1 h1
  exact z1xl ok hg (h.2.2 j y v hy h2)
theorem RV.ren (ok : CdOk P cd) {g : Nat → Nat → Option (Nat × Nat)} (hg : Renum M M2 g) {x : V U} {v : Value} (h : RV P cd M Fz w x v) : RV P cd M2 Fz w (renV g x) v := by
  cases x with
  | one c => exact z1xl ok hg h
  | agg cs => obtain ⟨a, e, r⟩ := h; exact ⟨a, e, r.ren ok hg⟩
theorem RVs.ren (ok : CdOk P cd) {g : Nat → Nat → Option (Nat × Nat)} (hg : Renum M M2 g) {xs : List (V U)} {vs : List Value} (h : RVs P cd M Fz w xs vs) : RVs P cd M2 Fz w (xs.map (renV g)) vs := by
  refine ⟨by rw [List.length_map]; exact h.1, fun j x v h1 h2 => ?_⟩
  rw [List.getElem?_map] at h1
  obtain ⟨y, hy, rfl⟩ := Option.map_eq_some_iff.1 h1
  exact (h.2 j y v hy h2).ren ok hg
theorem z1ud (ok : CdOk P cd) {g : Nat → Nat → Option (Nat × Nat)} (hg : Renum M M2 g) {xs : List (V U)} {v : Value} (h : RD P cd M Fz w (resD xs) v) : RD P cd M2 Fz w (resD (xs.map (renV g))) v := by
  unfold resD at *
  split at h
  · exact RV.ren ok hg h
  · rename_i l hl
    obtain ⟨a, rfl, r⟩ := h
    have e : resD (xs.map (renV g)) = .tup (xs.map (renV g)) := by
      unfold resD
      split
      · rename_i x hx
        exfalso
        match xs, hl, hx with
        | [y], hl, _ => exact hl y rfl
      · rfl
    unfold resD at e
    rw [e]
    exact ⟨a, rfl, r.ren ok hg⟩
end
end Go.Ab
end
section
set_option linter.unusedSimpArgs false
namespace Go.Ab
variable {U : Nat → Type}
section
variable {P : Program} {cd : Cd U} {M M' M2 : Mp} {Fz Fz' : Nat → Prop} {w w' : World}

theorem RL.mapC (hplain : ∀ t x c, c ∈ cd.enc t x → plainC c = true) {φ : C U → C U} (harr : ∀ t n l, φ (.arr t n l) = .arr t n l) (hna : ∀ c, (∀ t n l, c ≠ .arr t n l) → ∀ t n l, φ c ≠ .arr t n l)
    (h1 : ∀ c v, (∀ t n l, c ≠ .arr t n l) → R1 P cd M Fz w c v → R1 P cd M' Fz' w' (φ c) v) (h2 : ∀ c v, plainC c = true → R1 P cd M Fz w c v → R1 P cd M' Fz' w' c v)
    {cs : List (C U)} {vs : List Value} (h : RL P cd M Fz w cs vs) : RL P cd M' Fz' w' (cs.map φ) vs := by
  have key : ∀ cs : List (C U), (leaves cd (cs.map φ)).length = (leaves cd cs).length ∧ ∀ (j : Nat) c', (leaves cd (cs.map φ))[j]? = some c' → ∃ c, (leaves cd cs)[j]? = some c ∧ ((c' = φ c ∧ ∀ t n l, c ≠ .arr t n l) ∨ (c' = c ∧ plainC c = true)) := by
    intro cs
    induction cs with
    | nil => exact ⟨rfl, fun j c' hj => by simp [leaves] at hj⟩
    | cons c cs ih =>
      rw [List.map_cons, leaves_cons, leaves_cons]
      by_cases hc : ∃ t n l, c = .arr t n l
      · obtain ⟨t, n, l, rfl⟩ := hc
        rw [harr]
        refine ⟨by simp [ih.1], fun j c' hj => ?_⟩
        rcases Nat.lt_or_ge j (leaf cd (.arr t n l)).length with hlt | hge
        · rw [List.getElem?_append_left hlt] at hj
          refine ⟨c', by rw [List.getElem?_append_left hlt]; exact hj, .inr ⟨rfl, ?_⟩⟩
          obtain ⟨x, _, hx⟩ := List.mem_flatMap.1 (List.mem_of_getElem? (show ((l.flatMap (cd.enc t))[j]? = some c') from hj))
          exact hplain t x c' hx
        · rw [List.getElem?_append_right hge] at hj
          obtain ⟨c0, e1, e2⟩ := ih.2 _ c' hj
          exact ⟨c0, by rw [List.getElem?_append_right hge]; exact e1, e2⟩
      · have hc1 : ∀ t n l, c ≠ .arr t n l := fun t n l e => hc ⟨t, n, l, e⟩
        rw [z10r hc1, z10r (hna c hc1)]
        refine ⟨by simp [ih.1], fun j c' hj => ?_⟩
        cases j with
        | zero => simp at hj; exact ⟨c, rfl, .inl ⟨hj.symm, hc1⟩⟩
        | succ j =>
          simp only [List.singleton_append, List.getElem?_cons_succ] at hj
          obtain ⟨c0, e1, e2⟩ := ih.2 j c' hj
          exact ⟨c0, by simpa using e1, e2⟩
  refine ⟨?_, by rw [(key cs).1]; exact h.2.1, fun j c' v hj hv => ?_⟩
  · intro t n l hm
    obtain ⟨c, hc, e⟩ := List.mem_map.1 hm
    by_cases hca : ∃ t n l, c = .arr t n l
    · obtain ⟨t', n', l', rfl⟩ := hca
      rw [harr] at e
      exact h.1 t n l (e ▸ hc)
    · exact absurd e (hna c (fun t n l e => hca ⟨t, n, l, e⟩) t n l)
  · obtain ⟨c, e1, e2⟩ := (key cs).2 j c' hj
    have hr := h.2.2 j c v e1 hv
    rcases e2 with ⟨rfl, hn⟩ | ⟨rfl, hp⟩
    · exact h1 c v hn hr
    · exact h2 _ v hp hr
theorem R1.plain (ok : CdOk P cd) {c : C U} {v : Value} (h : R1 P cd M Fz w c v) (hf : ∀ k, Fz k → Fz' k) (hp : plainC c = true) : R1 P cd M' Fz' w c v := by
  induction h with
  | sl t l full a cap f h1 h0 h2 h3 ih =>
    exact .sl t l full a cap f h1 h0 (fun hl => let ⟨k, o, ha, hk, hc⟩ := h2 hl; ⟨k, o, ha, hf k hk, hc⟩) fun j c hj => ih j c hj (z7j ok hj)
  | bool b => exact .bool b
  | int k n => exact .int k n
  | str s => exact .str s
  | nilp => exact .nilp
  | mp l r es ck h1 h2 h3 h4 => exact .mp l r es ck (hf r h1) h2 h3 h4
  | _ => simp [plainC] at hp
theorem z1jl {c : C U} {v : Value} (h : R1 P cd M Fz w c v) : R1 P cd M Fz w (canC c) v := by
  cases h with
  | kb b => exact .bool b
  | sl t l full a cap f h1 h0 h2 h3 => exact .sl t l false a cap f (fun e => by cases e) h0 h2 h3
  | unk v => exact .unk v
  | skp => exact .skp
  | bool b => exact .bool b
  | int k n => exact .int k n
  | str s => exact .str s
  | nils => exact .nils
  | row b v pos t ver len cap _ h1 h2 h3 h4 => exact .row b v pos t ver len cap _ h1 h2 h3 h4
  | own b v lo n pos t ver len cap _ h1 h2 h3 h4 => exact .own b v lo n pos t ver len cap _ h1 h2 h3 h4
  | ptr b o k h1 => exact .ptr b o k h1
  | elp b v i sub pos t ver len cap _ h1 h2 h3 h4 => exact .elp b v i sub pos t ver len cap _ h1 h2 h3 h4
  | ap b o t i sub k h1 => exact .ap b o t i sub k h1
  | asl b o t n k cap h1 h2 => exact .asl b o t n k cap h1 h2
  | gp g o => exact .gp g o
  | xp t x sub k o f h1 h2 h3 => exact .xp t x sub k o f h1 h2 h3
  | fn f a c g k h1 h2 => exact .fn f a c g k h1 h2
  | nilp => exact .nilp
  | mp l r es ck h1 h2 h3 h4 => exact .mp l r es ck h1 h2 h3 h4
theorem RL.canp (hplain : ∀ t x c, c ∈ cd.enc t x → plainC c = true) {cs : List (C U)} {vs : List Value} (h : RL P cd M Fz w cs vs) : RL P cd M Fz w (cs.map canC) vs :=
  RL.mapC hplain (fun _ _ _ => rfl) (fun c hc t n l e => by cases c <;> first | exact hc _ _ _ rfl | cases e) (fun _ _ _ hr => z1jl hr) (fun _ _ _ hr => hr) h
theorem RL.can (ok : CdOk P cd) {cs : List (C U)} {vs : List Value} (h : RL P cd M Fz w cs vs) : RL P cd M Fz w (cs.map canC) vs := RL.canp ok.plain h
theorem RV.can (ok : CdOk P cd) {x : V U} {v : Value} (h : RV P cd M Fz w x v) : RV P cd M Fz w (canV x) v := by
  cases x with
  | one c => exact z1jl h
  | agg cs => obtain ⟨a, e, r⟩ := h; exact ⟨a, e, r.can ok⟩
theorem RVs.can (ok : CdOk P cd) {xs : List (V U)} {vs : List Value} (h : RVs P cd M Fz w xs vs) : RVs P cd M Fz w (xs.map canV) vs := by
  refine ⟨by rw [List.length_map]; exact h.1, fun j x v h1 h2 => ?_⟩
  rw [List.getElem?_map] at h1
  obtain ⟨y, hy, rfl⟩ := Option.map_eq_some_iff.1 h1
  exact (h.2 j y v hy h2).can ok
theorem z21y {c : C U} {v : Value} (h : R1 P cd M Fz w c v) : R1 P cd M Fz w (canN c) v := by
  unfold canN
  split
  · exact h
  · exact z1jl h
theorem RL.canN (ok : CdOk P cd) {cs : List (C U)} {vs : List Value} (h : RL P cd M Fz w cs vs) : RL P cd M Fz w (cs.map Go.Ab.canN) vs :=
  RL.mapC ok.plain (fun _ _ _ => rfl) (fun c hc t n l e => by
    unfold Go.Ab.canN at e
    split at e
    · cases e
    · cases c <;> first | exact hc _ _ _ rfl | cases e) (fun _ _ _ hr => z21y hr) (fun _ _ _ hr => hr) h
theorem RL.canT (ok : CdOk P cd) (tg : Option Nat) {cs : List (C U)} {vs : List Value} (h : RL P cd M Fz w cs vs) : RL P cd M Fz w (cs.map (Go.Ab.canT tg)) vs := by
  cases tg with
  | none => exact h.can ok
  | some _ => exact h.canN ok
theorem HR.can (ok : CdOk P cd) {hp : List (Blk U)} (h : HR P cd M Fz hp w) : HR P cd M Fz (hp.map canB) w := by
  refine ⟨fun b x hx => ?_, fun b hb => h.out b (by simpa using hb), h.inj, h.apart, h.fz, h.lt⟩
  rw [List.getElem?_map] at hx
  obtain ⟨y, hy, rfl⟩ := Option.map_eq_some_iff.1 hx
  have hb := h.blk b y hy
  cases y with
  | dead => exact hb
  | cells cs tg => obtain ⟨k, arr, e, e1, e2, e3⟩ := hb; exact ⟨k, arr, e, e1, e2, e3.canT ok tg⟩
  | row t v l => exact hb
  | mrow t v l => exact hb
theorem zps : ∀ {l : List Nat} {x : Nat}, memN l x = true ↔ x ∈ l
  | [], x => by simp [memN]
  | y :: l, x => by
    simp only [memN, cond_eq_ite]
    split
    · rename_i h; simp [Nat.eq_of_beq_eq_true h]
    · rename_i h
      have : ¬ y = x := fun e => h (by simp [e])
      simp [zps (l := l), Ne.symm this]
theorem zn6 : ∀ {l : List Nat}, nodupB l = true → l.Nodup
  | [], _ => List.nodup_nil
  | x :: l, h => by
    simp only [nodupB, cond_eq_ite] at h
    split at h
    · cases h
    · rename_i hm
      exact List.nodup_cons.2 ⟨fun h' => hm (zps.2 h'), zn6 h⟩
theorem z18s : ∀ {l : List Nat} {x j : Nat}, posN l x j = none ↔ x ∉ l
  | [], x, j => by simp [posN]
  | y :: l, x, j => by
    simp only [posN, cond_eq_ite]
    split
    · rename_i h; simp [Nat.eq_of_beq_eq_true h]
    · rename_i h
      have : ¬ y = x := fun e => h (by simp [e])
      rw [z18s (l := l)]
      simp [Ne.symm this]
theorem ztu : ∀ {l : List Nat} {x j k : Nat}, posN l x j = some k → j ≤ k ∧ l[k - j]? = some x
  | [], x, j, k, h => by simp [posN] at h
  | y :: l, x, j, k, h => by
    simp only [posN, cond_eq_ite] at h
    split at h
    · rename_i h'
      injection h with h
      subst h
      simp [Nat.eq_of_beq_eq_true h']
    · obtain ⟨h1, h2⟩ := ztu h
      refine ⟨by omega, ?_⟩
      rw [show k - j = (k - (j + 1)) + 1 by omega]
      simpa using h2
theorem z1en {l : List Nat} (hn : l.Nodup) {i x : Nat} (h : l[i]? = some x) : posN l x 0 = some i := by
  cases hp : posN l x 0 with
  | none => exact absurd (List.mem_of_getElem? h) (z18s.1 hp)
  | some k =>
    obtain ⟨_, h2⟩ := ztu hp
    rw [Nat.sub_zero] at h2
    have hi := (List.getElem?_eq_some_iff.1 h)
    have hk := (List.getElem?_eq_some_iff.1 h2)
    obtain ⟨hi1, hi2⟩ := hi
    obtain ⟨hk1, hk2⟩ := hk
    have hpw := List.pairwise_iff_getElem.1 hn
    rcases Nat.lt_trichotomy k i with hlt | rfl | hlt
    · exact absurd (hk2.trans hi2.symm) (hpw k i hk1 hi1 hlt)
    · rfl
    · exact absurd (hi2.trans hk2.symm) (hpw i k hi1 hk1 hlt)
theorem z1o9 (hp0 : List (Blk U)) (o0 : List Nat) : ∀ (rest : List (Blk U)) (j : Nat), (putBack.go hp0 o0 j rest).length = rest.length
  | [], _ => rfl
  | _ :: r, j => by simp [putBack.go, z1o9 hp0 o0 r]
theorem z1o8 (hp0 : List (Blk U)) (o0 : List Nat) : ∀ (rest : List (Blk U)) (j i : Nat), (putBack.go hp0 o0 j rest)[i]? = (rest[i]?).map (backB hp0 o0 (j + i))
  | [], _, _ => by simp [putBack.go]
  | b :: r, j, 0 => by simp [putBack.go]
  | b :: r, j, i + 1 => by
    simp only [putBack.go, List.getElem?_cons_succ]
    rw [z1o8 hp0 o0 r (j + 1) i, show j + 1 + i = j + (i + 1) by omega]
theorem zpf (hp0 : List (Blk U)) (o0 : List Nat) : ∀ {order : List Nat} {j : Nat} {rest hp R : List (Blk U)}, order.Nodup → putBack hp0 o0 order j rest hp = some R →
    order.length ≤ rest.length ∧ R.length = hp.length + (rest.length - order.length) ∧ (∀ x, x < hp.length → x ∉ order → R[x]? = hp[x]?) ∧
    (∀ i x blk, order[i]? = some x → x < hp.length → rest[i]? = some blk → R[x]? = some (backB hp0 o0 (j + i) blk)) ∧
    (∀ i, R[hp.length + i]? = (rest[order.length + i]?).map (backB hp0 o0 (j + order.length + i)))
  | [], j, rest, hp, R, _, h => by
    simp only [putBack, Option.some.injEq] at h
    subst h
    refine ⟨by simp, by simp [z1o9], fun x hx _ => by rw [List.getElem?_append_left hx], fun i x blk hi => by simp at hi, fun i => ?_⟩
    rw [List.getElem?_append_right (by omega), z1o8]
    simp
  | b :: order, j, [], hp, R, _, h => by simp [putBack] at h
  | b :: order, j, blk :: rest, hp, R, hn, h => by
    simp only [putBack, z3g] at h
    obtain ⟨hb, hn⟩ := List.nodup_cons.1 hn
    obtain ⟨h1, h2, h3, h4, h5⟩ := zpf hp0 o0 hn h
    rw [List.length_set] at h2 h3 h4 h5
    refine ⟨by simp; omega, by simp [h2], fun x hx hm => ?_, fun i x blk' hi hx hr => ?_, fun i => ?_⟩
    · simp only [List.mem_cons, not_or] at hm
      rw [h3 x hx hm.2, List.getElem?_set_ne (fun e => hm.1 e.symm)]
    · cases i with
      | zero =>
        simp at hi hr
        subst hi; subst hr
        rw [h3 b hx hb, List.getElem?_set_self hx]
        rfl
      | succ i =>
        simp at hi hr
        rw [h4 i x blk' hi hx hr]
        congr 2
        omega
    · rw [h5 i]
      simp only [List.length_cons]
      rw [show order.length + 1 + i = (order.length + i) + 1 by omega, List.getElem?_cons_succ]
      congr 2
      omega

/-! ### the smaller memory -/
def Inf.reset (n j : Nat) : Inf → Inf
  | .row pos t v len cap => .row pos t (ver0 n j v) len cap
  | i => i
def Inf.lift (v0 : Nat) : Inf → Inf
  | .row pos t v len cap => .row pos t (v0 + v) len cap
  | i => i
theorem Inf.reset_blk (n j : Nat) (i : Inf) : (i.reset n j).blk = i.blk := by cases i <;> rfl
theorem Inf.lift_blk (v : Nat) (i : Inf) : (i.lift v).blk = i.blk := by cases i <;> rfl
def small (n : Nat) (M : Mp) (order : List Nat) : Mp := fun j => (order[j]?).bind fun b => (M b).map (Inf.reset n j)
theorem zf4 {n : Nat} {order : List Nat} {k : Nat} (h : Held (small n M order) k) : Held M k := by
  obtain ⟨j, i, h1, h2⟩ := h
  simp only [small] at h1
  obtain ⟨b, hb, h1⟩ := Option.bind_eq_some_iff.1 h1
  obtain ⟨i', hi', rfl⟩ := Option.map_eq_some_iff.1 h1
  exact ⟨b, i', hi', by rw [← h2, Inf.reset_blk]⟩
theorem z10n {hp : List (Blk U)} (h : HR P cd M Fz hp w) (n : Nat) (order : List Nat) : Renum M (small n M order) (into n hp order) := by
  constructor
  · intro b v b' v' pos t ver len cap hm hg hv
    unfold into at hg
    split at hg
    · rename_i j hj
      obtain ⟨_, hj'⟩ := ztu hj
      rw [z25] at hg
      rw [Nat.sub_zero] at hj'
      split at hg
      · rename_i t2 v2 l2 hb
        rw [cond_eq_ite] at hg
        split at hg
        · rename_i hvv
          obtain rfl := Nat.eq_of_beq_eq_true hvv
          simp only [Option.some.injEq, Prod.mk.injEq] at hg
          obtain ⟨rfl, rfl⟩ := hg
          obtain ⟨pos', cap', e1, _⟩ := h.blk b _ hb
          rw [hm] at e1
          injection e1 with e1
          injection e1 with e1 e2 e3 e4 e5
          refine ⟨ver0 n j ver, ?_, by rw [e3]; exact Nat.le_refl _, fun _ => e3.symm⟩
          simp [small, hj', hm, Inf.reset]
        · cases hg
      · rename_i cs hb
        obtain ⟨k, arr, e, e1, _⟩ := h.blk b _ hb
        rw [hm] at e1
        cases e1
      · rename_i t2 v2 l2 hb
        rw [cond_eq_ite] at hg
        split at hg
        · rename_i hvv
          obtain rfl := Nat.eq_of_beq_eq_true hvv
          simp only [Option.some.injEq, Prod.mk.injEq] at hg
          obtain ⟨rfl, rfl⟩ := hg
          obtain ⟨pos', cap', e1, _⟩ := h.blk b _ hb
          rw [hm] at e1
          injection e1 with e1
          injection e1 with e1 e2 e3 e4 e5
          refine ⟨ver0 n j ver, ?_, by rw [e3]; exact Nat.le_refl _, fun _ => e3.symm⟩
          simp [small, hj', hm, Inf.reset]
        · cases hg
      · cases hg
    · cases hg
  · intro b k b' v' hm hg
    unfold into at hg
    split at hg
    · rename_i j hj
      obtain ⟨_, hj'⟩ := ztu hj
      rw [z25] at hg
      rw [Nat.sub_zero] at hj'
      split at hg
      · rename_i t2 v2 l2 hb
        obtain ⟨pos', cap', e1, _⟩ := h.blk b _ hb
        rw [hm] at e1
        cases e1
      · simp only [Option.some.injEq, Prod.mk.injEq] at hg
        obtain ⟨rfl, rfl⟩ := hg
        simp [small, hj', hm, Inf.reset]
      · rename_i t2 v2 l2 hb
        obtain ⟨pos', cap', e1, _⟩ := h.blk b _ hb
        rw [hm] at e1
        cases e1
      · cases hg
    · cases hg
theorem RowPos.ren {mk : Nat → Nat × Nat} {t : Nat} {l : List (U t)} {cap : Nat} {pos : Option Nat} (h : RowPos P cd M Fz w mk t l cap pos) (ok : CdOk P cd) : RowPos P cd M2 Fz w mk t l cap pos := by
  cases pos with
  | none => exact h
  | some k =>
    obtain ⟨cur, r⟩ := h
    refine ⟨cur, r.heap, r.le, r.max, r.size, fun j c hj => ?_⟩
    obtain ⟨v, h1, h2⟩ := r.cells j c hj
    refine ⟨v, h1, ?_⟩
    have := z19s ok (Renum.none M M2) h2
    rwa [z10z (z7j ok hj)] at this
theorem z1hq (n : Nat) (hp : List (Blk U)) (order : List Nat) : ∀ (l : List Nat) (j : Nat), (intoHp n hp order j l).length = l.length
  | [], _ => rfl
  | _ :: l, j => by simp [intoHp, z1hq n hp order l]
theorem z10m (n : Nat) (hp : List (Blk U)) (order : List Nat) : ∀ (l : List Nat) (j i : Nat), (intoHp n hp order j l)[i]? = (l[i]?).map (intoB n hp order (j + i))
  | [], _, _ => by simp [intoHp]
  | b :: l, j, 0 => by simp [intoHp]
  | b :: l, j, i + 1 => by
    simp only [intoHp, List.getElem?_cons_succ]
    rw [z10m n hp order l (j + 1) i, show j + 1 + i = j + (i + 1) by omega]
theorem z11a (ok : CdOk P cd) {hp : List (Blk U)} (h : HR P cd M Fz hp w) (n : Nat) {order : List Nat} (hn : order.Nodup) : HR P cd (small n M order) Fz (intoHp n hp order 0 order) w := by
  have hren := z10n h n order
  refine ⟨?_, ?_, ?_, ?_, h.fz, ?_⟩
  · intro j x hj
    rw [z10m] at hj
    obtain ⟨b, hb, rfl⟩ := Option.map_eq_some_iff.1 hj
    unfold intoB
    rw [z25]
    have hs : small n M order j = (M b).map (Inf.reset n j) := by simp [small, hb]
    rw [Nat.zero_add]
    split
    · rename_i cs hcs
      obtain ⟨k, arr, e, e1, e2, e3⟩ := h.blk b _ hcs
      exact ⟨k, arr, e, by rw [hs, e1]; rfl, e2, e3.ren ok hren⟩
    · rename_i t v l hl
      obtain ⟨pos, cap, e1, e2⟩ := h.blk b _ hl
      exact ⟨pos, cap, by rw [hs, e1]; rfl, e2.ren ok⟩
    · rename_i t v l hl
      obtain ⟨pos, cap, e1, e2⟩ := h.blk b _ hl
      exact ⟨pos, cap, by rw [hs, e1]; rfl, e2.ren ok⟩
    · rename_i hx1 hx2 hx3
      show small n M order j = none
      rw [hs]
      cases hb' : hp[b]? with
      | none => rw [h.out b (List.getElem?_eq_none_iff.1 hb')]; rfl
      | some x =>
        cases x with
        | dead => rw [show M b = none from h.blk b _ hb']; rfl
        | cells cs tg => exact absurd hb' (hx1 cs tg)
        | row t v l => exact absurd hb' (hx2 t v l)
        | mrow t v l => exact absurd hb' (hx3 t v l)
  · intro j hj
    rw [z1hq] at hj
    simp [small, List.getElem?_eq_none hj]
  · intro j j' i i' k h1 h2 h3 h4
    simp only [small] at h1 h2
    obtain ⟨b, hb, h1⟩ := Option.bind_eq_some_iff.1 h1
    obtain ⟨b', hb', h2⟩ := Option.bind_eq_some_iff.1 h2
    obtain ⟨i0, hi0, rfl⟩ := Option.map_eq_some_iff.1 h1
    obtain ⟨i1, hi1, rfl⟩ := Option.map_eq_some_iff.1 h2
    rw [Inf.reset_blk] at h3 h4
    have := h.inj b b' i0 i1 k hi0 hi1 h3 h4
    subst this
    have e1 := z1en hn hb
    have e2 := z1en hn hb'
    rw [e1] at e2
    exact Option.some.inj e2
  · intro j i k h1 h2
    obtain ⟨b, i', e1, e2⟩ := zf4 ⟨j, i, h1, h2⟩
    exact h.apart b i' k e1 e2
  · intro j i k h1 h2
    obtain ⟨b, i', e1, e2⟩ := zf4 ⟨j, i, h1, h2⟩
    exact h.lt b i' k e1 e2
theorem z1ea {n : Nat} : ∀ {l : List Nat}, ltAll n l = true → ∀ x ∈ l, x < n
  | [], _, x, h => by simp at h
  | y :: l, e, x, h => by
    simp only [ltAll, cond_eq_ite] at e
    split at e
    · rename_i hy
      rcases List.mem_cons.1 h with rfl | h
      · exact of_decide_eq_true (by simpa using hy)
      · exact z1ea e x h
    · cases e
def vr (hp : List (Blk U)) (x : Nat) : Nat := match hp[x]? with
  | some (.row _ v _) => v
  | some (.mrow _ v _) => v
  | _ => 0
theorem z1ws {hp : List (Blk U)} {order : List Nat} {b b' v : Nat} (h : order[b]? = some b') : back hp order b v = some (b', vr hp b' + v) := by
  unfold back vr
  rw [z25, h]
  simp only [z25]
  split
  · rename_i hh; rw [hh]
  · rename_i hh; rw [hh]
  · rename_i hh1 hh2
    split
    · rename_i hh'; exact absurd hh' (hh1 _ _ _)
    · rename_i hh'; exact absurd hh' (hh2 _ _ _)
    · simp
theorem z1r2 {hp : List (Blk U)} {order : List Nat} {b v : Nat} (h : order.length ≤ b) : back hp order b v = some (hp.length + (b - order.length), v) := by
  unfold back
  rw [z25, List.getElem?_eq_none h]
def big (hp : List (Blk U)) (order : List Nat) (M M0 : Mp) : Mp := fun x =>
  if x < hp.length then (match posN order x 0 with | some j => (M0 j).map (Inf.lift (vr hp x)) | none => M x) else M0 (order.length + (x - hp.length))
theorem zin {hp : List (Blk U)} {order : List Nat} (hn : order.Nodup) {M M0 : Mp} {j b : Nat} (hj : order[j]? = some b) (hb : b < hp.length) : big hp order M M0 b = (M0 j).map (Inf.lift (vr hp b)) := by
  simp [big, hb, z1en hn hj]
theorem zgf {hp : List (Blk U)} {order : List Nat} {M M0 : Mp} {b : Nat} (hj : b ∉ order) (hb : b < hp.length) : big hp order M M0 b = M b := by
  simp [big, hb, z18s.2 hj]
theorem zep {hp : List (Blk U)} {order : List Nat} {M M0 : Mp} (i : Nat) : big hp order M M0 (hp.length + i) = M0 (order.length + i) := by
  unfold big
  rw [if_neg (by omega), show hp.length + i - hp.length = i by omega]
theorem z1xt {hp : List (Blk U)} {order : List Nat} (hn : order.Nodup) (hlt : ∀ x ∈ order, x < hp.length) (M M0 : Mp) : Renum M0 (big hp order M M0) (back hp order) := by
  constructor
  · intro b v b' v' pos t ver len cap hm hg hv
    rcases Nat.lt_or_ge b order.length with hb | hb
    · have hb' := List.getElem?_eq_getElem hb
      rw [z1ws hb'] at hg
      simp only [Option.some.injEq, Prod.mk.injEq] at hg
      obtain ⟨rfl, rfl⟩ := hg
      rw [zin hn hb' (hlt _ (List.getElem_mem hb)), hm]
      exact ⟨vr hp order[b] + ver, rfl, by omega, by omega⟩
    · rw [z1r2 hb] at hg
      simp only [Option.some.injEq, Prod.mk.injEq] at hg
      obtain ⟨rfl, rfl⟩ := hg
      rw [zep, show order.length + (b - order.length) = b by omega, hm]
      exact ⟨ver, rfl, hv, id⟩
  · intro b k b' v' hm hg
    rcases Nat.lt_or_ge b order.length with hb | hb
    · have hb' := List.getElem?_eq_getElem hb
      rw [z1ws hb'] at hg
      simp only [Option.some.injEq, Prod.mk.injEq] at hg
      obtain ⟨rfl, rfl⟩ := hg
      rw [zin hn hb' (hlt _ (List.getElem_mem hb)), hm]
      rfl
    · rw [z1r2 hb] at hg
      simp only [Option.some.injEq, Prod.mk.injEq] at hg
      obtain ⟨rfl, rfl⟩ := hg
      rw [zep, show order.length + (b - order.length) = b by omega, hm]
theorem z17z (ok : CdOk P cd) {hp R hp0 : List (Blk U)} (h : HR P cd M Fz hp w) {order : List Nat} (hn : order.Nodup) (hlt : ∀ x ∈ order, x < hp.length) {xs : List (V U)} {v : Value}
    (hpost : Post P cd (small 0 M order) Fz w (resD xs) hp0 v w') (hpb : putBack hp order order 0 hp0 hp = some R) {d' : D U} (hd' : d' = resD (xs.map (renV (back hp order))) ∨ d' = resD (xs.map (renV fun _ _ => none))) : Post P cd M Fz w d' R v w' := by
  obtain ⟨M0, F', hd, hh, hext, hfrz, hkeep, hheld, hf1⟩ := hpost
  obtain ⟨hlen, hRl, hrest, hin, hnew⟩ := zpf hp order hn hpb
  have hren := z1xt hn hlt M M0
  have hE : Ext M (big hp order M M0) := by
    intro b i hi
    have hb : b < hp.length := by
      rcases Nat.lt_or_ge b hp.length with h' | h'
      · exact h'
      · rw [h.out b h'] at hi; cases hi
    by_cases hm : b ∈ order
    · obtain ⟨j, hj⟩ := List.mem_iff_getElem?.1 hm
      rw [zin hn hj hb]
      obtain ⟨i', e1, e2⟩ := hext j (i.reset 0 j) (by simp [small, hj, hi])
      rw [e1]
      refine ⟨_, rfl, ?_⟩
      cases i with
      | cells k => cases e2; exact .refl _
      | row pos t ver len cap =>
        have hv : vr hp b = ver := by
          have hx := List.getElem?_eq_getElem hb
          have hbk := h.blk b _ hx
          revert hbk hx
          generalize hp[b] = y
          intro hx hbk
          cases y with
          | dead => exact absurd (hi.symm.trans hbk) (by simp)
          | cells cs => obtain ⟨k, arr, e, e1, _⟩ := hbk; rw [hi] at e1; cases e1
          | row t' v' l =>
            obtain ⟨pos', cap', e1, _⟩ := hbk
            rw [hi] at e1
            injection e1 with e1
            injection e1 with e1 e2 e3
            simp [vr, hx, e3]
          | mrow t' v' l =>
            obtain ⟨pos', cap', e1, _⟩ := hbk
            rw [hi] at e1
            injection e1 with e1
            injection e1 with e1 e2 e3
            simp [vr, hx, e3]
        rw [hv]
        cases e2 with
        | refl => exact .refl _
        | later _ q _ u _ v' _ m _ d hlt => exact .later _ _ _ _ _ _ _ _ _ _ (by omega)
    · rw [zgf hm hb]
      exact ⟨i, hi, .refl _⟩
  have hHeld : ∀ k, Held (big hp order M M0) k → (∃ b i, b < hp.length ∧ b ∉ order ∧ M b = some i ∧ i.blk = some k) ∨ Held M0 k := by
    rintro k ⟨b, i, e1, e2⟩
    rcases Nat.lt_or_ge b hp.length with hb | hb
    · by_cases hm : b ∈ order
      · obtain ⟨j, hj⟩ := List.mem_iff_getElem?.1 hm
        rw [zin hn hj hb] at e1
        obtain ⟨i', e3, rfl⟩ := Option.map_eq_some_iff.1 e1
        rw [Inf.lift_blk] at e2
        exact .inr ⟨j, i', e3, e2⟩
      · rw [zgf hm hb] at e1
        exact .inl ⟨b, i, hb, hm, e1, e2⟩
    · rw [show b = hp.length + (b - hp.length) by omega, zep] at e1
      exact .inr ⟨_, i, e1, e2⟩
  have hfree : ∀ b i k, b ∉ order → M b = some i → i.blk = some k → ¬ Held (small 0 M order) k := by
    rintro b i k hm e1 e2 ⟨j, i', e3, e4⟩
    simp only [small] at e3
    obtain ⟨b', hb', e3⟩ := Option.bind_eq_some_iff.1 e3
    obtain ⟨i0, hi0, rfl⟩ := Option.map_eq_some_iff.1 e3
    rw [Inf.reset_blk] at e4
    exact hm (h.inj b b' i i0 k e1 hi0 e2 e4 ▸ List.mem_of_getElem? hb')
  have hfree0 : ∀ b i k, b ∉ order → M b = some i → i.blk = some k → ¬ Held M0 k := by
    intro b i k hm e1 e2 hk
    rcases hheld k hk with h' | h'
    · exact hfree b i k hm e1 e2 h'
    · have := h.lt b i k e1 e2; omega
  have hsame : ∀ b i k, b ∉ order → M b = some i → i.blk = some k → w'.heap[k]? = w.heap[k]? := fun b i k hm e1 e2 => hkeep.old k (h.lt b i k e1 e2) (hfree b i k hm e1 e2)
  have hdd : RD P cd (big hp order M M0) F' w' d' v := by
    rcases hd' with rfl | rfl
    · exact z1ud ok hren hd
    · exact z1ud ok (Renum.none _ _) hd
  refine ⟨big hp order M M0, F', hdd, ⟨?_, ?_, ?_, ?_, hh.fz, ?_⟩, hE, hfrz, ?_, ?_, ?_⟩
  · intro b x hx
    rcases Nat.lt_or_ge b hp.length with hb | hb
    · by_cases hm : b ∈ order
      · obtain ⟨j, hj⟩ := List.mem_iff_getElem?.1 hm
        have hjl := (List.getElem?_eq_some_iff.1 hj).1
        have hbl := List.getElem?_eq_getElem (show j < hp0.length by omega)
        rw [hin j b _ hj hb hbl] at hx
        injection hx with hx
        subst hx
        have hb0 := hh.blk j _ hbl
        have hbg : big hp order M M0 b = (M0 j).map (Inf.lift (vr hp b)) := zin hn hj hb
        rw [Nat.zero_add]
        revert hb0
        generalize hp0[j] = y
        intro hb0
        cases y with
        | dead => show big hp order M M0 b = none; rw [hbg, show M0 j = none from hb0]; rfl
        | cells cs =>
          obtain ⟨k, arr, e, e1, e2, e3⟩ := hb0
          exact ⟨k, arr, e, by rw [hbg, e1]; rfl, e2, e3.ren ok hren⟩
        | row t v l =>
          obtain ⟨pos, cap, e1, e2⟩ := hb0
          have : backB hp order j (.row t v l) = .row t (vr hp b + v) l := by
            unfold backB
            simp only [z25, hj, vr]
            congr 1
            split
            · rename_i hh; simp [hh]
            · rename_i hh; simp [hh]
            · rename_i hh1 hh2
              split
              · rename_i hh'; exact absurd hh' (hh1 _ _ _)
              · rename_i hh'; exact absurd hh' (hh2 _ _ _)
              · simp
          rw [this]
          exact ⟨pos, cap, by rw [hbg, e1]; rfl, e2.ren ok⟩
        | mrow t v l =>
          obtain ⟨pos, cap, e1, e2⟩ := hb0
          have : backB hp order j (.mrow t v l) = .mrow t (vr hp b + v) l := by
            unfold backB
            simp only [z25, hj, vr]
            congr 1
            split
            · rename_i hh; simp [hh]
            · rename_i hh; simp [hh]
            · rename_i hh1 hh2
              split
              · rename_i hh'; exact absurd hh' (hh1 _ _ _)
              · rename_i hh'; exact absurd hh' (hh2 _ _ _)
              · simp
          rw [this]
          exact ⟨pos, cap, by rw [hbg, e1]; rfl, e2.ren ok⟩
      · rw [hrest b hb hm] at hx
        have hb0 := h.blk b x hx
        have hbg : big hp order M M0 b = M b := zgf hm hb
        cases x with
        | dead => exact hbg.trans hb0
        | cells cs =>
          obtain ⟨k, arr, e, e1, e2, e3⟩ := hb0
          exact ⟨k, arr, e, hbg.trans e1, (hsame b _ k hm e1 rfl).trans e2, e3.mono hE hfrz⟩
        | row t v l =>
          obtain ⟨pos, cap, e1, e2⟩ := hb0
          refine ⟨pos, cap, hbg.trans e1, ?_⟩
          cases pos with
          | none => exact e2
          | some k =>
            obtain ⟨cur, r⟩ := e2
            refine ⟨cur, (hsame b _ k hm e1 rfl).trans r.heap, r.le, r.max, r.size, fun j c hj => ?_⟩
            obtain ⟨v, h1, h2⟩ := r.cells j c hj
            exact ⟨v, h1, h2.mono hE hfrz⟩
        | mrow t v l =>
          obtain ⟨pos, cap, e1, e2⟩ := hb0
          refine ⟨pos, cap, hbg.trans e1, ?_⟩
          cases pos with
          | none => exact e2
          | some k =>
            obtain ⟨cur, r⟩ := e2
            refine ⟨cur, (hsame b _ k hm e1 rfl).trans r.heap, r.le, r.max, r.size, fun j c hj => ?_⟩
            obtain ⟨v, h1, h2⟩ := r.cells j c hj
            exact ⟨v, h1, h2.mono hE hfrz⟩
    · rw [show b = hp.length + (b - hp.length) by omega, hnew] at hx
      obtain ⟨y, hy, rfl⟩ := Option.map_eq_some_iff.1 hx
      have hb0 := hh.blk _ y hy
      have hbg : big hp order M M0 b = M0 (order.length + (b - hp.length)) := by
        conv => lhs; rw [show b = hp.length + (b - hp.length) by omega]
        exact zep _
      cases y with
      | dead => exact hbg.trans hb0
      | cells cs =>
        obtain ⟨k, arr, e, e1, e2, e3⟩ := hb0
        exact ⟨k, arr, e, hbg.trans e1, e2, e3.ren ok hren⟩
      | row t v l =>
        obtain ⟨pos, cap, e1, e2⟩ := hb0
        have : backB hp order (0 + order.length + (b - hp.length)) (.row t v l) = .row t v l := by
          unfold backB
          rw [z25, List.getElem?_eq_none (by omega)]
        rw [this]
        exact ⟨pos, cap, hbg.trans e1, e2.ren ok⟩
      | mrow t v l =>
        obtain ⟨pos, cap, e1, e2⟩ := hb0
        have : backB hp order (0 + order.length + (b - hp.length)) (.mrow t v l) = .mrow t v l := by
          unfold backB
          rw [z25, List.getElem?_eq_none (by omega)]
        rw [this]
        exact ⟨pos, cap, hbg.trans e1, e2.ren ok⟩
  · intro b hb
    rw [show b = hp.length + (b - hp.length) by omega, zep]
    exact hh.out _ (by omega)
  · intro b b' i i' k e1 e2 e3 e4
    rcases Nat.lt_or_ge b hp.length with hb | hb
    · by_cases hm : b ∈ order
      · obtain ⟨j, hj⟩ := List.mem_iff_getElem?.1 hm
        rw [zin hn hj hb] at e1
        obtain ⟨i0, q1, rfl⟩ := Option.map_eq_some_iff.1 e1
        rw [Inf.lift_blk] at e3
        rcases Nat.lt_or_ge b' hp.length with hb' | hb'
        · by_cases hm' : b' ∈ order
          · obtain ⟨j', hj'⟩ := List.mem_iff_getElem?.1 hm'
            rw [zin hn hj' hb'] at e2
            obtain ⟨i1, q2, rfl⟩ := Option.map_eq_some_iff.1 e2
            rw [Inf.lift_blk] at e4
            have := hh.inj j j' i0 i1 k q1 q2 e3 e4
            subst this
            rw [hj] at hj'
            exact Option.some.inj hj'
          · rw [zgf hm' hb'] at e2
            exact absurd ⟨j, i0, q1, e3⟩ (hfree0 b' i' k hm' e2 e4)
        · rw [show b' = hp.length + (b' - hp.length) by omega, zep] at e2
          have := hh.inj _ _ i0 i' k q1 e2 e3 e4
          have := (List.getElem?_eq_some_iff.1 hj).1
          omega
      · rw [zgf hm hb] at e1
        rcases Nat.lt_or_ge b' hp.length with hb' | hb'
        · by_cases hm' : b' ∈ order
          · obtain ⟨j', hj'⟩ := List.mem_iff_getElem?.1 hm'
            rw [zin hn hj' hb'] at e2
            obtain ⟨i1, q2, rfl⟩ := Option.map_eq_some_iff.1 e2
            rw [Inf.lift_blk] at e4
            exact absurd ⟨j', i1, q2, e4⟩ (hfree0 b i k hm e1 e3)
          · rw [zgf hm' hb'] at e2
            exact h.inj b b' i i' k e1 e2 e3 e4
        · rw [show b' = hp.length + (b' - hp.length) by omega, zep] at e2
          exact absurd ⟨_, i', e2, e4⟩ (hfree0 b i k hm e1 e3)
    · rw [show b = hp.length + (b - hp.length) by omega, zep] at e1
      rcases Nat.lt_or_ge b' hp.length with hb' | hb'
      · by_cases hm' : b' ∈ order
        · obtain ⟨j', hj'⟩ := List.mem_iff_getElem?.1 hm'
          rw [zin hn hj' hb'] at e2
          obtain ⟨i1, q2, rfl⟩ := Option.map_eq_some_iff.1 e2
          rw [Inf.lift_blk] at e4
          have := hh.inj _ _ i i1 k e1 q2 e3 e4
          have := (List.getElem?_eq_some_iff.1 hj').1
          omega
        · rw [zgf hm' hb'] at e2
          exact absurd ⟨_, i, e1, e3⟩ (hfree0 b' i' k hm' e2 e4)
      · rw [show b' = hp.length + (b' - hp.length) by omega, zep] at e2
        have := hh.inj _ _ i i' k e1 e2 e3 e4
        omega
  · intro b i k e1 e2 hf
    rcases hHeld k ⟨b, i, e1, e2⟩ with ⟨b', i', _, hm, e3, e4⟩ | ⟨j, i', e3, e4⟩
    · rcases hf1 k hf with h' | h' | h'
      · exact h.apart b' i' k e3 e4 h'
      · exact hfree b' i' k hm e3 e4 h'
      · have := h.lt b' i' k e3 e4; omega
    · exact hh.apart j i' k e3 e4 hf
  · intro b i k e1 e2
    rcases hHeld k ⟨b, i, e1, e2⟩ with ⟨b', i', _, hm, e3, e4⟩ | ⟨j, i', e3, e4⟩
    · have := h.lt b' i' k e3 e4
      have := hkeep.size
      omega
    · exact hh.lt j i' k e3 e4
  · exact ⟨hkeep.os, hkeep.tape, hkeep.output, hkeep.size, fun k hk hn => hkeep.old k hk fun hk' => hn (zf4 hk')⟩
  · intro k hk
    rcases hHeld k hk with ⟨b', i', _, hm, e3, e4⟩ | hk'
    · exact .inl ⟨b', i', e3, e4⟩
    · rcases hheld k hk' with h' | h'
      · exact .inl (zf4 h')
      · exact .inr h'
  · intro k hk
    rcases hf1 k hk with h' | h' | h'
    · exact .inl h'
    · exact .inr (.inl (zf4 h'))
    · exact .inr (.inr h')

def FnOk (P : Program) (cd : Cd U) (f : Nat) (spec : List (V U) → List (Blk U) → Option (FnOut U)) : Prop :=
  ∀ (M : Mp) (Fz : Nat → Prop) (w : World) (hp : List (Blk U)) (args : List (V U)) (vargs : List Value), HR P cd M Fz hp w → RVs P cd M Fz w args vargs → ∀ r, spec args hp = some r → ∀ x, r.o = some x → ∀ p, (r.out x).run = some p →
    ∃ fn, P.funcs[f]? = some fn ∧ (fn.name == "runtime.NumGoroutine") = false ∧ fn.body.isSome = true ∧ Calls P f vargs.toArray w fun e w' => ∃ v, e = .returned v ∧ Post P cd M Fz w (resD p.1) p.2 v w'
end
end Go.Ab
end
section
set_option linter.unusedSimpArgs false
namespace Go.Ab
variable {U : Nat → Type}
section
variable {P : Program} {cd : Cd U} {M M' M2 : Mp} {Fz Fz' : Nat → Prop} {w w' : World}
theorem z1ec (l : List Int) (n : Int) : memI l n = true ↔ n ∈ l := by
  induction l with
  | nil => simp [memI]
  | cons x l ih =>
    simp only [memI, cond_eq_ite, List.mem_cons]
    by_cases h : x = n
    · simp [h]
    · have h' : ¬ n = x := fun e => h e.symm
      simp [h, h', ih]
theorem z214 {t : Nat} (h : mapIB P t = true) : ∃ k e i, P.underlying t = some (.map k e) ∧ P.underlying k = some (.int .i64) ∧ P.info? e = some i ∧ i.zero = some (.bool false) := by
  unfold mapIB at h
  split at h
  · rename_i k e ht
    split at h
    · rename_i i hk hi
      split at h
      · rename_i hz
        exact ⟨k, e, i, ht, hk, hi, hz⟩
      · cases h
    · cases h
  · cases h
theorem look_ok (t : Nat) {x y : V U} {vx vy : Value} (hx : RV P cd M Fz w x vx) (hy : RV P cd M Fz w y vy) {k : K U} (hk : lookK P t x y = k) : ∃ tr, k = .pur tr ∧ PurOk P cd M Fz w (Instr.lookup t vx vy false) tr := by
  subst hk
  unfold lookK
  split
  · rename_i l n
    rw [cond_eq_ite]
    split
    · rename_i hm
      obtain ⟨kt, et, i, ht, hkt, hi, hz⟩ := z214 hm
      refine ⟨_, rfl, ?_⟩
      have hx : R1 P cd M Fz w (.mp l) vx := hx
      have hy : R1 P cd M Fz w (.int .i64 n) vy := hy
      cases hy
      cases hx with
      | mp _ r es ck h1 h2 h3 h4 =>
        have hik : MapKept.IsKey (.int .i64) (.int .i64 n) := rfl
        have hks : ∀ e ∈ es.toList, MapKept.IsKey (.int .i64) e.key := fun e he => by
          obtain ⟨m, hm, _⟩ := h3 e (by simpa using he)
          rw [hm]
          exact rfl
        have hzv : ∀ w, (zeroValue et).run P w = .ok (.bool false) w := fun w => by simp [zeroValue, typeInfo, hi, hz]
        refine .one (v := .bool (memI l n)) ?_ (.bool _)
        rcases MapKept.findNow_spec hik es.toList 0 hks with ⟨k1, k2⟩ | ⟨j, e, k1, k2, k3⟩
        · have hn : memI l n = false := by
            rw [Bool.eq_false_iff]
            intro hh
            obtain ⟨e, he, hek⟩ := (h4 n).1 ((z1ec l n).1 hh)
            exact k2 e (by simpa using he) hek
          simp [Instr.lookup, run_underlying ht, MapKept.run_getObj_map h2, MapKept.run_checkKey hkt hik, MapKept.run_findKey hkt k1, hzv, Result.andThen, hn]
        · have hmem : e ∈ es := by
            have := List.mem_of_getElem? k2
            simpa using this
          have hn : memI l n = true := (z1ec l n).2 ((h4 n).2 ⟨e, hmem, k3⟩)
          obtain ⟨m, _, hv⟩ := h3 e hmem
          simp [Instr.lookup, run_underlying ht, MapKept.run_getObj_map h2, MapKept.run_checkKey hkt hik, MapKept.run_findKey hkt k1, Result.andThen, hn, hv]
    · exact ⟨_, rfl, fun d hd => by cases hd⟩
  · exact ⟨_, rfl, fun d hd => by cases hd⟩
end
end Go.Ab
end
section
set_option linter.unusedSimpArgs false
namespace Go.Ab
variable {U : Nat → Type}
section
variable {P : Program} {cd : Cd U} {M M' M2 : Mp} {Fz Fz' : Nat → Prop} {w w' : World}

def OpOk (P : Program) (cd : Cd U) (M : Mp) (Fz : Nat → Prop) (w : World) (hp : List (Blk U)) (id : Nat) (a : Act) (o : Oper) (k : K U) : Prop :=
  ∀ d hp', k.sem hp id = some (d, hp') → ∀ (next : Act → World → Prop) (Q : Exit → Act → World → Prop), (∀ v w', Post P cd M Fz w d hp' v w' → next (a.put o.dst v) w') → o.wp P a w next Q
theorem OpOk.fail {hp : List (Blk U)} {id : Nat} {a : Act} {o : Oper} : OpOk P cd M Fz w hp id a o (.pur .fail) := by
  intro d hp' hd; cases hd
theorem OpOk.val {hp : List (Blk U)} {id : Nat} {a : Act} {o : Oper} {k : K U} {x : Sem Value} (he : execOp a.eval o = (do pure (.value (← x)))) (h : ValOk P cd M Fz w hp id x k) : OpOk P cd M Fz w hp id a o k := by
  intro d hp' hd next Q hn
  obtain ⟨v, w', h1, h2⟩ := h d hp' hd
  unfold Oper.wp
  rw [he]
  simp only [Sem.run_bind, h1, Result.andThen, Sem.run_pure]
  exact hn v w' h2
theorem OpOk.pur {hp : List (Blk U)} {id : Nat} {a : Act} {o : Oper} {tr : Tree (D U)} {x : Sem Value} (hh : HR P cd M Fz hp w) (he : execOp a.eval o = (do pure (.value (← x)))) (h : PurOk P cd M Fz w x tr) : OpOk P cd M Fz w hp id a o (.pur tr) :=
  .val he (.pur hh h)
theorem zrt {d : D U} {x : V U} {v : Value} (h : vOf d = some x) (hd : RD P cd M Fz w d v) : RV P cd M Fz w x v := by
  cases d with
  | v y => simp only [vOf, Option.some.injEq] at h; subst h; exact hd
  | tup vs => cases h
theorem z1o4 {α : Type} : ∀ {l : List (Option α)} {r : List α}, optL l = some r → l = r.map some
  | [], r, h => by simp [optL] at h; subst h; rfl
  | none :: l, r, h => by simp [optL] at h
  | some x :: l, r, h => by
    simp only [optL] at h
    split at h
    · rename_i r' hr
      injection h with h
      subst h
      rw [z1o4 hr]; rfl
    · cases h
theorem z1xq {ρ : Operand → D U} {ρ' : Operand → Value} (h : ∀ x, RD P cd M Fz w (ρ x) (ρ' x)) : ∀ {xs : List Operand} {vs : List (V U)}, optL (xs.map fun x => vOf (ρ x)) = some vs → RVs P cd M Fz w vs (xs.map ρ')
  | [], vs, e => by simp [optL] at e; subst e; exact ⟨rfl, fun j x v h => by simp at h⟩
  | x :: xs, vs, e => by
    simp only [List.map_cons] at e
    cases hx : vOf (ρ x) with
    | none => rw [hx] at e; simp [optL] at e
    | some y =>
      rw [hx] at e
      simp only [optL] at e
      split at e
      · rename_i r hr
        injection e with e
        subst e
        have ih := z1xq h hr
        refine ⟨by simp [ih.1], fun j z v h1 h2 => ?_⟩
        cases j with
        | zero =>
          simp at h1 h2
          subst h1; subst h2
          exact zrt hx (h x)
        | succ j =>
          simp only [List.map_cons, List.getElem?_cons_succ] at h1 h2
          exact ih.2 j z v h1 h2
      · cases e
theorem z19k {ρ : Operand → D U} {ρ' : Operand → Value} (h : ∀ x, RD P cd M Fz w (ρ x) (ρ' x)) : ∀ {xs : List Operand} {ts : List Nat} {vs : List (V U)}, valsOf P (xs.map ρ) ts = some vs → RVs P cd M Fz w vs (xs.map ρ')
  | [], ts, vs, e => by simp [valsOf] at e; subst e; exact ⟨rfl, fun j x v h => by simp at h⟩
  | x :: xs, ts, vs, e => by
    have hx := h x
    simp only [List.map_cons] at e
    revert hx e
    generalize ρ x = d
    intro hx e
    cases d with
    | tup l => simp [valsOf] at e
    | v y =>
      cases ts with
      | nil =>
        simp only [valsOf] at e
        split at e
        · rename_i r hr
          injection e with e
          subst e
          have ih := z19k h hr
          refine ⟨by simp [ih.1], fun j z v h1 h2 => ?_⟩
          cases j with
          | zero => simp at h1 h2; subst h1; subst h2; exact hx
          | succ j => simp only [List.map_cons, List.getElem?_cons_succ] at h1 h2; exact ih.2 j z v h1 h2
        · cases e
      | cons t ts =>
        simp only [valsOf] at e
        split at e
        · rename_i r hr
          injection e with e
          subst e
          have ih := z19k h hr
          refine ⟨by simp [ih.1], fun j z v h1 h2 => ?_⟩
          cases j with
          | zero => simp at h1 h2; subst h1; subst h2; exact zlk hx
          | succ j => simp only [List.map_cons, List.getElem?_cons_succ] at h1 h2; exact ih.2 j z v h1 h2
        · cases e
theorem cells_ok {ρ : Operand → D U} {ρ' : Operand → Value} (h : ∀ x, RD P cd M Fz w (ρ x) (ρ' x)) {xs : List Operand} {cs : List (C U)} (e : optL (xs.map fun x => opK.cellOf (ρ x)) = some cs) :
    cs.length = xs.length ∧ ∀ j c, cs[j]? = some c → R1 P cd M Fz w c ((xs.map ρ').getD j undef) := by
  have e' := z1o4 e
  have hl : cs.length = xs.length := by
    have := congrArg List.length e'
    simpa using this.symm
  refine ⟨hl, fun j c hj => ?_⟩
  have h1 : (xs.map fun x => opK.cellOf (ρ x))[j]? = some (some c) := by rw [e', List.getElem?_map, hj]; rfl
  rw [List.getElem?_map] at h1
  obtain ⟨x, hx, h2⟩ := Option.map_eq_some_iff.1 h1
  have h3 := h x
  revert h2 h3
  generalize ρ x = d
  intro h2 h3
  cases d with
  | tup l => cases h2
  | v y =>
    cases y with
    | agg l => cases h2
    | one c' =>
      simp only [opK.cellOf, Option.some.injEq] at h2
      subst h2
      simp only [List.getD_eq_getElem?_getD, List.getElem?_map, hx, Option.map_some, Option.getD_some]
      exact h3
theorem RVs.append {xs ys : List (V U)} {vs us : List Value} (h : RVs P cd M Fz w xs vs) (k : RVs P cd M Fz w ys us) : RVs P cd M Fz w (xs ++ ys) (vs ++ us) := by
  refine ⟨by simp [h.1, k.1], fun j x v h1 h2 => ?_⟩
  rcases Nat.lt_or_ge j xs.length with hj | hj
  · rw [List.getElem?_append_left hj] at h1
    rw [List.getElem?_append_left (by rw [h.1]; exact hj)] at h2
    exact h.2 j x v h1 h2
  · rw [List.getElem?_append_right hj] at h1
    rw [List.getElem?_append_right (by rw [h.1]; exact hj), h.1] at h2
    exact k.2 _ x v h1 h2
theorem RVs.of_cells {cs : List (C U)} {n : Nat} {f : Nat → Value} (hn : n = cs.length) (h : ∀ j c, cs[j]? = some c → R1 P cd M Fz w c (f j)) : RVs P cd M Fz w (cs.map .one) ((List.range n).map f) := by
  subst hn
  refine ⟨by simp, fun j x v h1 h2 => ?_⟩
  rw [List.getElem?_map] at h1
  obtain ⟨c, hc, rfl⟩ := Option.map_eq_some_iff.1 h1
  have hj := (List.getElem?_eq_some_iff.1 hc).1
  rw [List.getElem?_map, List.getElem?_range hj] at h2
  injection h2 with h2
  subst h2
  exact h j c hc
theorem z1eb {xs : List (V U)} {vs : List Value} {g : Nat → Nat → Option (Nat × Nat)} (h : RVs P cd M Fz w (xs.map canV) vs) (ok : CdOk P cd) (hg : Renum M M2 g) : RVs P cd M2 Fz w (xs.map fun x => renV g (canV x)) vs := by
  have := h.ren ok hg
  rw [List.map_map] at this
  exact this
theorem z21x (E : Env U) (ok : CdOk E.P E.cd) (env : ∀ f p s, E.fns f = some (p, s) → FnOk E.P E.cd f s) {hp : List (Blk U)} {id : Nat} (h : HR E.P E.cd M Fz hp w) {f : Nat} {xs : List (V U)} {vs : List Value} (hx : RVs E.P E.cd M Fz w xs vs)
    {a : Act} {o : Oper} (he : ∀ fn, E.P.funcs[f]? = some fn → (fn.name == "runtime.NumGoroutine") = false → fn.body.isSome = true → (execOp a.eval o).run E.P w = .ok (.enter f vs.toArray) w) : OpOk E.P E.cd M Fz w hp id a o (callK E f xs) := by
  unfold callK
  split
  · rename_i spec hf
    split
    · rename_i r hr
      intro d hp' hd next Q hn
      simp only [K.sem, Tree.run] at hd
      obtain ⟨d', hd1, he'⟩ := Option.map_eq_some_iff.1 hd
      simp only [Prod.mk.injEq] at he'
      obtain ⟨rfl, rfl⟩ := he'
      obtain ⟨x, hx1, hd2⟩ := Option.bind_eq_some_iff.1 hd1
      clear hd hd1
      rw [Tree.run_bind] at hd2
      obtain ⟨p, hp2, hd2⟩ := Option.bind_eq_some_iff.1 hd2
      split at hd2
      · rename_i ws
        simp only [Tree.run, Option.some.injEq] at hd2
        subst hd2
        have hs := z11a ok h 0 (order := []) List.nodup_nil
        have hr0 : Renum M (small 0 M []) (fun _ _ => none) := Renum.none _ _
        obtain ⟨fn, h1, h2, h3, hc⟩ := env f _ _ hf (small 0 M []) Fz w [] _ vs hs (z1eb (hx.can ok) ok hr0) r hr x hx1 _ hp2
        unfold Oper.wp
        rw [he fn h1 h2 h3, Oper.upon_enter]
        refine hc.mono fun e w' ⟨v, he, hp0⟩ => ?_
        subst he
        exact hn v w' (z17z ok (order := []) (R := hp) h List.nodup_nil (fun x hx => by simp at hx) hp0 (by simp [putBack, putBack.go]) (.inr rfl))
      · cases hd2
    · exact .fail
  · rename_i spec hf
    intro d hp' hd next Q hn
    simp only [K.sem, callT, cond_eq_ite] at hd
    split at hd
    · rename_i hc
      simp only [Bool.and_eq_true] at hc
      have hnd := zn6 hc.1
      split at hd
      · rename_i r hr
        simp only [Tree.run] at hd
        obtain ⟨x, hx1, hd⟩ := Option.bind_eq_some_iff.1 hd
        rw [Tree.run_bind] at hd
        obtain ⟨p, hp2, hd⟩ := Option.bind_eq_some_iff.1 hd
        split at hd
        · rename_i R hR
          simp only [Tree.run, Option.some.injEq, Prod.mk.injEq] at hd
          obtain ⟨rfl, rfl⟩ := hd
          obtain ⟨fn, h1, h2, h3, hcl⟩ := env f _ _ hf _ Fz w _ _ vs ((z11a ok h 0 hnd).can ok) (z1eb (hx.can ok) ok (z10n h 0 _)) r hr x hx1 p hp2
          unfold Oper.wp
          rw [he fn h1 h2 h3, Oper.upon_enter]
          refine hcl.mono fun e w' ⟨v, he, hp⟩ => ?_
          subst he
          exact hn v w' (z17z ok h hnd (z1ea hc.2) hp hR (.inl rfl))
        · cases hd
      · cases hd
    · cases hd
  · exact .fail
theorem z19j {ρx ρy : D U} {vx vy : Value} {hp : List (Blk U)} {id : Nat} {a : Act} {o : Oper} {f : V U → V U → K U} (hx : RD P cd M Fz w ρx vx) (hy : RD P cd M Fz w ρy vy)
    (h : ∀ x y, RV P cd M Fz w x vx → RV P cd M Fz w y vy → OpOk P cd M Fz w hp id a o (f x y)) : OpOk P cd M Fz w hp id a o (two ρx ρy f) := by
  unfold two
  split
  · rename_i x y h1 h2
    exact h x y (zrt h1 hx) (zrt h2 hy)
  · exact .fail
theorem zpu {ρx : D U} {vx : Value} {hp : List (Blk U)} {id : Nat} {a : Act} {o : Oper} {f : V U → K U} (hx : RD P cd M Fz w ρx vx)
    (h : ∀ x, RV P cd M Fz w x vx → OpOk P cd M Fz w hp id a o (f x)) : OpOk P cd M Fz w hp id a o (oneK ρx f) := by
  unfold oneK
  split
  · rename_i x h1
    exact h x (zrt h1 hx)
  · exact .fail
theorem z1em {ρ : Operand → D U} {ρ' : Operand → Value} (h : ∀ x, RD P cd M Fz w (ρ x) (ρ' x)) : ∀ ps : List (Nat × Operand), RDs P cd M Fz w (ps.map fun p => (p.1, ρ p.2)) (ps.map fun p => (p.1, ρ' p.2))
  | [] => trivial
  | (_, x) :: ps => ⟨rfl, h x, z1em h ps⟩
theorem z1zx {ρ : Operand → D U} {ρ' : Operand → Value} (h : ∀ x, RD P cd M Fz w (ρ x) (ρ' x)) (x : Option Operand) : RO P cd M Fz w (x.map ρ) (x.map ρ') := by
  cases x with
  | none => trivial
  | some x => exact h x
theorem z22z (E : Env U) (ok : CdOk E.P E.cd) (env : ∀ f p s, E.fns f = some (p, s) → FnOk E.P E.cd f s) {hp : List (Blk U)} {id : Nat} (h : HR E.P E.cd M Fz hp w) {ρ : Operand → D U} {a : Act} (hρ : ∀ x, RD E.P E.cd M Fz w (ρ x) (a.eval x))
    (o : Oper) (hid : makes o = true → hp[id]? = some .dead) : OpOk E.P E.cd M Fz w hp id a o (opK E ρ o) := by
  unfold opK
  split
  · rename_i x ho
    intro d hp' hd next Q hn
    simp only [K.sem, Tree.run, Option.map_some, Option.some.injEq, Prod.mk.injEq] at hd
    obtain ⟨rfl, rfl⟩ := hd
    unfold Oper.wp execOp
    simp only [ho, Sem.run_pure]
    exact hn _ _ (.same h (z19u (hρ x)))
  · rename_i x ho
    intro d hp' hd next Q hn
    simp only [K.sem, Tree.run, Option.map_some, Option.some.injEq, Prod.mk.injEq] at hd
    obtain ⟨rfl, rfl⟩ := hd
    unfold Oper.wp execOp
    simp only [ho, Sem.run_pure]
    exact hn _ _ (.same h (z19u (hρ x)))
  · rename_i t ho
    exact .val (by unfold execOp; simp only [ho]) (z20j h (hid (by simp [makes, ho])) t (.tuple #[]))
  · rename_i t x ho
    split
    · rename_i v hv
      exact .val (by unfold execOp; simp only [ho]) (z22o h (hid (by simp [makes, ho])) t (zlk (zrt hv (hρ x))))
    · intro d hp' hd; cases hd
  · rename_i t parts ho
    refine .pur h (by unfold execOp; simp only [ho]; rfl) (z20m ok t ?_)
    simpa using z1em hρ parts.toList
  · rename_i t n parts ho
    refine .val (by unfold execOp; simp only [ho]; rfl) (MkOk.val _ (z1oj ok h (hid (by simp [makes, ho])) t n ?_))
    simpa using z1em hρ parts.toList
  · rename_i t x ho
    exact zpu (hρ x) fun y hy => .val (by unfold execOp; simp only [ho]) (z22a ok h t hy)
  · rename_i t x y ho
    refine z19j (hρ x) (hρ y) fun x' y' hx hy => ?_
    intro d hp' hd next Q hn
    obtain ⟨w', h1, h2⟩ := z21i ok h t hx (zlk hy) hd
    unfold Oper.wp execOp
    simp only [ho, Sem.run_bind, h1, Result.andThen, Sem.run_pure]
    exact hn _ _ h2
  · rename_i x ho
    have hx := hρ x
    revert hx
    generalize hd : ρ x = d
    generalize hv : a.eval x = v
    intro hx
    have key : ∀ {c : C U}, R1 E.P E.cd M Fz w c v → ((∃ p, v = .pointer (some p)) ∨ ∃ f g k, v = .func (.func f) g k) → PurOk E.P E.cd M Fz w (pure v) (one c) ∧ execOp a.eval o = (do pure (.value (← (pure v : Sem Value)))) := by
      intro c hc hh
      refine ⟨.one rfl hc, ?_⟩
      unfold execOp
      simp only [ho, hv]
      rcases hh with ⟨p, rfl⟩ | ⟨f, g, k, rfl⟩ <;> rfl
    split
    · rename_i b o'
      have hx : R1 E.P E.cd M Fz w _ v := hx
      cases hx with
      | ptr _ _ k hm =>
        obtain ⟨k1, k2⟩ := key (.ptr b o' k hm) (.inl ⟨_, rfl⟩)
        exact .pur h k2 k1
    · rename_i b o' t i s
      have hx : R1 E.P E.cd M Fz w _ v := hx
      cases hx with
      | ap _ _ _ _ _ k hm =>
        obtain ⟨k1, k2⟩ := key (.ap b o' t i s k hm) (.inl ⟨_, rfl⟩)
        exact .pur h k2 k1
    · rename_i b ver i s
      have hx : R1 E.P E.cd M Fz w _ v := hx
      cases hx with
      | elp _ _ _ _ pos t ver' len cap _ hm hle hsc hval =>
        by_cases hcur : ver = ver'
        · obtain ⟨hi, k, rfl, rfl⟩ := hval hcur
          obtain ⟨k1, k2⟩ := key (.elp b ver i s _ t ver' len cap _ hm hle hsc hval) (.inl ⟨_, rfl⟩)
          refine .val k2 (.lod h fun blk hb => ?_)
          split
          · rw [cond_eq_ite]
            split
            · exact k1
            · exact .fail
          · exact .fail
        · intro d hp' hd
          simp only [K.sem, z25] at hd
          split at hd
          · cases hd
          · rename_i blk _ hb
            cases blk with
            | row t2 v2 l2 =>
              obtain ⟨_, hvv, _⟩ := h.row_at hb hm
              have : Nat.beq ver v2 = false := by
                rw [Bool.eq_false_iff]; intro e; exact hcur ((Nat.eq_of_beq_eq_true e).trans hvv.symm)
              simp [this, Tree.run] at hd
            | _ => simp [Tree.run] at hd
          · cases hd
    · rename_i t x' s
      have hx : R1 E.P E.cd M Fz w _ v := hx
      cases hx with
      | xp _ _ _ k o' f h1 h2 h3 =>
        obtain ⟨k1, k2⟩ := key (.xp t x' s k o' f h1 h2 h3) (.inl ⟨_, rfl⟩)
        exact .pur h k2 k1
    · rename_i f as cs
      have hx : R1 E.P E.cd M Fz w _ v := hx
      cases hx with
      | fn _ _ _ g k h1 h2 =>
        obtain ⟨k1, k2⟩ := key (.fn f as cs g k h1 h2) (.inr ⟨_, _, _, rfl⟩)
        exact .pur h k2 k1
    · exact .fail
  · rename_i op t x y z ho
    refine z19j (hρ x) (hρ y) fun x' y' hx hy => ?_
    obtain ⟨tr, h1, h2⟩ := z22n ok op t x y hx hy
    rw [h1]
    exact .pur h (by unfold execOp; simp only [ho]) h2
  · rename_i op t x ho
    refine zpu (hρ x) fun y hy => ?_
    obtain ⟨tr, h1, h2⟩ := z235 op hy
    rw [h1]
    exact .pur h (by unfold execOp; simp only [ho]) h2
  · rename_i src dst x ho
    exact zpu (hρ x) fun y hy => .val (by unfold execOp; simp only [ho]) (z222 ok h src dst hy (mkF E o))
  · rename_i f xs ys ho
    refine .pur (x := Instr.makeFunc (.func f) (xs.map a.eval) (ys.map a.eval)) h (by unfold execOp; simp only [ho]) ?_
    split
    · rename_i as bs h1 h2
      obtain ⟨l1, c1⟩ := cells_ok hρ h1
      obtain ⟨l2, c2⟩ := cells_ok hρ h2
      refine .one (v := .func (.func f) (xs.map a.eval) (ys.map a.eval)) rfl ?_
      have := R1.fn (P := E.P) (cd := E.cd) (M := M) (Fz := Fz) (w := w) f as bs _ _ c1 c2
      have e : ∀ (l : Array Operand) (n : Nat), n = l.toList.length → ((List.range n).map fun j => (l.toList.map a.eval).getD j undef).toArray = l.map a.eval := by
        intro l n hn
        subst hn
        apply Array.ext'
        apply List.ext_getElem
        · simp
        · intro i h1 h2
          simp at h1 h2
          simp [h1]
      rw [e _ _ l1, e _ _ l2] at this
      exact this
    · exact .fail
  · rename_i t n m ho
    split
    · rename_i x y h1 h2
      exact .val (by unfold execOp; simp only [ho]) (MkOk.val _ (z1t8 ok h (hid (by simp [makes, ho])) t (zrt h1 (hρ n)) (zrt h2 (hρ m))))
    · intro d hp' hd
      unfold rowK at hd
      rw [cond_eq_ite] at hd
      split at hd <;> cases hd
  · rename_i t x lo hi ho
    refine zpu (hρ x) fun y hy => .val (by unfold execOp; simp only [ho]; rfl) (z21h ok h t hy (z1zx hρ lo) (z1zx hρ hi))
  · rename_i t x f ho
    exact zpu (hρ x) fun y hy => .val (by unfold execOp; simp only [ho]) (z1rg h t f hy)
  · rename_i t x f ho
    refine zpu (hρ x) fun y hy => ?_
    obtain ⟨tr, h1, h2⟩ := z20w ok t f hy
    rw [h1]
    exact .pur h (by unfold execOp; simp only [ho]) h2
  · rename_i t x i ho
    exact z19j (hρ x) (hρ i) fun x' y' hx hy => .val (by unfold execOp; simp only [ho]) (z1t6 ok h t hx hy)
  · rename_i t x i ho
    refine z19j (hρ x) (hρ i) fun x' y' hx hy => ?_
    obtain ⟨tr, h1, h2⟩ := z20z ok t hx hy
    rw [h1]
    exact .pur h (by unfold execOp; simp only [ho]) h2
  · rename_i t x y ho
    refine z19j (hρ x) (hρ y) fun x' y' hx hy => ?_
    obtain ⟨tr, h1, h2⟩ := look_ok t hx hy rfl
    rw [h1]
    exact .pur h (by unfold execOp; simp only [ho]) h2
  · rename_i x i ho
    have hx := hρ x
    revert hx
    generalize hd : ρ x = d
    intro hx
    split
    · rename_i vs
      split
      · rename_i v hv
        obtain ⟨arr, he, hr⟩ := hx
        rw [z25] at hv
        have hi := (List.getElem?_eq_some_iff.1 hv).1
        have hi' : i < arr.toList.length := by rw [hr.1]; exact hi
        have hav := List.getElem?_eq_getElem hi'
        have hr2 := hr.2 i v _ hv hav
        refine .pur (x := Instr.extract (a.eval x) i) h (by unfold execOp; simp only [ho]) ?_
        intro d' hd'
        simp only [Tree.run, Option.some.injEq] at hd'
        subst hd'
        rw [Array.getElem?_toList] at hav
        refine ⟨_, ?_, hr2⟩
        rw [he]
        simp only [Instr.extract, hav, Sem.run_pure]
      · exact .fail
    · exact .fail
  · rename_i c ho
    split
    · rename_i f hf
      show OpOk E.P E.cd M Fz w hp id a o (match ρ f, valsOf E.P (c.args.toList.map ρ) c.argTypes.toList with
        | .v (.one (.fn g a b)), some vs => callK E g (a.map .one ++ vs ++ b.map .one)
        | _, _ => .pur .fail)
      split
      · rename_i g as bs vs h1 h2
        have hfv := hρ f
        rw [h1] at hfv
        have hvs := z19k hρ h2
        revert hfv
        generalize hfe : a.eval f = fv
        intro hfv
        cases hfv with
        | fn _ _ _ p q e1 e2 =>
          have hall := ((RVs.of_cells rfl e1).append hvs).append (RVs.of_cells rfl e2)
          refine z21x E ok env h hall (he := fun fn k1 k2 k3 => ?_)
          unfold execOp
          simp only [ho, resolve, hf, hfe, Deferred.ofValue, Sem.run_bind, Sem.run_pure, Result.andThen, invoke, callFunc, run_program, k1, k2, Bool.false_eq_true, if_false]
          have : fn.body.isNone = false := by cases hb : fn.body <;> simp_all
          simp only [this, Bool.false_eq_true, if_false, Sem.run_pure]
          congr 2
          apply Array.ext'
          simp
      · exact .fail
    · rename_i b hb
      split
      · rename_i vs hvs
        have hv := z1xq hρ hvs
        have he : ∀ x : Sem Value, (builtin b c.argTypes o.type (c.args.map fun | .const _ => true | _ => false) (c.args.map a.eval)) = (do pure (.value (← x))) → execOp a.eval o = (do pure (.value (← x))) := by
          intro x hx
          unfold execOp
          simp only [ho, resolve, hb, pure_bind, invoke]
          exact hx
        have hargs : c.args.map a.eval = (c.args.toList.map a.eval).toArray := by apply Array.ext'; simp
        have htys : c.argTypes = c.argTypes.toList.toArray := by simp
        revert hv he
        rw [hargs]
        generalize c.args.toList.map a.eval = us
        intro hv he
        split
        · rename_i x t hts
          obtain ⟨u, rfl⟩ : ∃ u, us = [u] := by
            have := hv.1
            match us, this with
            | [u], _ => exact ⟨u, rfl⟩
          have hx := hv.2 0 x u rfl rfl
          refine .val (he _ ?_) (z22w h t o.type hx)
          rw [htys, hts]
          rfl
        · rename_i x y t t2 hts
          obtain ⟨u, u', rfl⟩ : ∃ u u', us = [u, u'] := by
            have := hv.1
            match us, this with
            | [u, u'], _ => exact ⟨u, u', rfl⟩
          have hx := hv.2 0 x u rfl rfl
          have hy := hv.2 1 y u' rfl rfl
          refine .val (he _ ?_) (z1z0 ok h (hid (by simp [makes, ho, hb])) t t2 o.type hx hy)
          rw [htys, hts]
          rfl
        · rename_i x y t t2 hts
          obtain ⟨u, u', rfl⟩ : ∃ u u', us = [u, u'] := by
            have := hv.1
            match us, this with
            | [u, u'], _ => exact ⟨u, u', rfl⟩
          have hx := hv.2 0 x u rfl rfl
          have hy := hv.2 1 y u' rfl rfl
          refine .val (he _ ?_) (z223 ok h t t2 o.type hx hy)
          rw [htys, hts]
          rfl
        · rename_i vs0 ts x r
          obtain ⟨u, ur, rfl⟩ : ∃ u ur, us = u :: ur := by
            have := hv.1
            match us, this with
            | u :: ur, _ => exact ⟨u, ur, rfl⟩
          have hx := hv.2 0 x u rfl rfl
          refine .pur h (he _ ?_) (z18k false r x u ur hx ⟨by simpa using hv.1, fun j z v k1 k2 => hv.2 (j + 1) z v (by simpa using k1) (by simpa using k2)⟩)
          rfl
        · rename_i vs0 ts x r
          obtain ⟨u, ur, rfl⟩ : ∃ u ur, us = u :: ur := by
            have := hv.1
            match us, this with
            | u :: ur, _ => exact ⟨u, ur, rfl⟩
          have hx := hv.2 0 x u rfl rfl
          refine .pur h (he _ ?_) (z18k true r x u ur hx ⟨by simpa using hv.1, fun j z v k1 k2 => hv.2 (j + 1) z v (by simpa using k1) (by simpa using k2)⟩)
          rfl
        · clear hargs
          unfold clrK
          split
          · rename_i x t htc _ _ _ _ _
            obtain ⟨u, rfl⟩ : ∃ u, us = [u] := by
              have := hv.1
              match us, this with
              | [u], _ => exact ⟨u, rfl⟩
            have hx := hv.2 0 x u rfl rfl
            refine .val (he _ ?_) (z20o ok h t o.type hx)
            rw [htys, htc]
            rfl
          · exact .fail
      · exact .fail
    · exact .fail
  · exact .fail
end
end Go.Ab
end
section
set_option linter.unusedSimpArgs false
namespace Go.Ab
variable {U : Nat → Type}
section
variable {E : Env U}

def doS (E : Env U) (r : Rg) (i id : Nat) (o : Oper) (σ : St U) : Option (St U) := match o.op with
  | .pick c a b => match ev σ.tm c with
    | .v (.one (.kb x)) => some (putD σ o.dst (typD E.P o.type (ev σ.tm (bif x then a else b))))
    | .v (.one (.bool x)) => some (putD σ o.dst (typD E.P o.type (ev σ.tm (bif x then a else b))))
    | _ => none
  | _ => bif (!r.draw || fitsB E r i o (opK E (ev σ.tm) o)) && (!makes o || isDead σ.hp id) && wOk E.P E.kps (r.fps i) (ev σ.tm) σ.hp o (opK E (ev σ.tm) o) then ((opK E (ev σ.tm) o).sem σ.hp id).map fun p => { putD σ o.dst p.1 with hp := p.2 } else none
def stepO (E : Env U) (r : Rg) (i id : Nat) (o : Oper) (σ : St U) : Option (St U) := match o.guard with
  | none => doS E r i id o σ
  | some (j, want) => match (r.ops[j]?).bind (·.dst) with
    | none => some (putD σ o.dst (.v (.one .skp)))
    | some t => match getA σ.tm t with
      | some (.v (.one (.kb b))) => bif b == want then doS E r i id o σ else some (putD σ o.dst (.v (.one .skp)))
      | some (.v (.one (.bool b))) => bif b == want then doS E r i id o σ else some (putD σ o.dst (.v (.one .skp)))
      | some (.v (.one .skp)) => some (putD σ o.dst (.v (.one .skp)))
      | _ => none
structure Tg where
  i : Nat
  id : Nat
  o : Oper
def tags : List Oper → Nat → Nat → List Tg
  | [], _, _ => []
  | o :: l, i, id => ⟨i, id, o⟩ :: tags l (i + 1) (bif makes o then id + 1 else id)
def steps (E : Env U) (r : Rg) : List Tg → St U → Option (St U)
  | [], σ => some σ
  | x :: l, σ => (stepO E r x.i x.id x.o σ).bind (steps E r l)

def KnOk (kn : List (Nat × Bool)) (σ : St U) : Prop := ∀ t b, getA kn t = some b → getA σ.tm t = some (.v (.one (.bool b)))
theorem KnOk.put {kn : List (Nat × Bool)} {σ : St U} (h : KnOk kn σ) {dst : Option Nat} (hd : knows kn dst = false) (x : D U) (hp : List (Blk U)) : KnOk kn { putD σ dst x with hp } := by
  intro t b ht
  cases dst with
  | none => exact h t b ht
  | some d =>
    have hne : d ≠ t := by
      rintro rfl
      simp [knows, ht] at hd
    show getA (putA σ.tm d x) t = _
    rw [zes _ _ _ _ hne]
    exact h t b ht
theorem KnOk.cons {kn : List (Nat × Bool)} {σ : St U} (h : KnOk kn σ) {t : Nat} {b : Bool} (ht : getA σ.tm t = some (.v (.one (.bool b)))) : KnOk ((t, b) :: kn) σ := by
  intro t' b' h'
  simp only [getA, cond_eq_ite] at h'
  split at h'
  · rename_i e
    injection h' with h'
    subst h'
    rw [← Nat.eq_of_beq_eq_true e]
    exact ht
  · exact h t' b' h'
theorem zpa {kn : List (Nat × Bool)} {dst : Option Nat} (hd : knows kn dst = false) {t : Nat} {b : Bool} (ht : dst ≠ some t) : knows ((t, b) :: kn) dst = false := by
  cases dst with
  | none => rfl
  | some d =>
    have hne : ¬ t = d := fun e => ht (by rw [e])
    simp only [knows, getA, cond_eq_ite]
    rw [if_neg (fun e => hne (Nat.eq_of_beq_eq_true e))]
    exact hd
theorem z1xk (σ : St U) (d : Option Nat) (x : D U) : (putD σ d x).hp = σ.hp := by cases d <;> rfl
theorem z6n (σ : St U) (d : Option Nat) (x : D U) : ({ putD σ d x with hp := σ.hp } : St U) = putD σ d x := by cases d <;> rfl
theorem z224 (σ : St U) (o : Oper) (id : Nat) (k : K U) : (doK σ o id k).run = (k.sem σ.hp id).map fun p => { putD σ o.dst p.1 with hp := p.2 } := by
  cases k with
  | pur t =>
    simp only [doK, K.sem, Tree.run_map, Option.map_map]
    congr 1
    funext d
    exact (z6n σ _ _).symm
  | alo t mk =>
    simp only [doK, K.sem, Tree.run_map, Option.map_map]
    rfl
  | lod b f =>
    simp only [doK, K.sem]
    cases nth σ.hp b with
    | none => rfl
    | some blk =>
      cases blk with
      | dead => rfl
      | _ =>
        simp only [Tree.run_map, Option.map_map]
        congr 1
        funext d
        exact (z6n σ _ _).symm
  | wri f =>
    simp only [doK, K.sem, Tree.run_map]
theorem z20r {r : Rg} {i id : Nat} {o : Oper} {kn : List (Nat × Bool)} {σ σ' : St U} (hk : KnOk kn σ) (h : (doOp E r i id o kn σ).run = some σ') : doS E r i id o σ = some σ' := by
  unfold doOp at h
  unfold doS
  split at h
  · rename_i c a b ho
    simp only [ho]
    split at h
    · rename_i hc
      have : ev σ.tm c = .v (.one (.bool true)) := by
        cases c <;> first | (cases hc; done) | skip
        rename_i t
        simp only [ev, hk t true hc]
      rw [this]
      exact h
    · rename_i hc
      have : ev σ.tm c = .v (.one (.bool false)) := by
        cases c <;> first | (cases hc; done) | skip
        rename_i t
        simp only [ev, hk t false hc]
      rw [this]
      exact h
    · split at h
      · rename_i hc; rw [hc]; exact h
      · rename_i hc; rw [hc]; exact h
      · rename_i x hc
        rw [hc]
        cases x
        · exact h
        · exact h
      · cases h
  · rename_i hno
    simp only [cond_eq_ite] at h
    split at h
    · rename_i hf
      split
      · rename_i ho; exact absurd ho (hno _ _ _)
      · rw [cond_eq_ite, if_pos hf, ← z224]
        exact h
    · cases h
theorem z225 {r : Rg} {i id : Nat} {o : Oper} {σ σ' : St U} (h : doS E r i id o σ = some σ') : ∃ d hp, σ' = { putD σ o.dst d with hp } := by
  unfold doS at h
  split at h
  · split at h
    · injection h with h; exact ⟨_, σ.hp, by rw [z6n]; exact h.symm⟩
    · injection h with h; exact ⟨_, σ.hp, by rw [z6n]; exact h.symm⟩
    · cases h
  · rw [cond_eq_ite] at h
    split at h
    · obtain ⟨p, _, rfl⟩ := Option.map_eq_some_iff.1 h
      exact ⟨_, _, rfl⟩
    · cases h
theorem z116 {r : Rg} : ∀ (l : List Oper) (i id : Nat) (kn : List (Nat × Bool)) (σ σ' : St U), KnOk kn σ → (runOps E r l i id kn σ).run = some σ' → steps E r (tags l i id) σ = some σ'
  | [], i, id, kn, σ, σ', _, h => h
  | o :: l, i, id, kn, σ, σ', hk, h => by
    simp only [runOps, cond_eq_ite] at h
    split at h
    · cases h
    rename_i hkn
    rw [Bool.not_eq_true] at hkn
    have yes : ∀ kn', KnOk kn' σ → knows kn' o.dst = false → ((doOp E r i id o kn' σ).bind (fun σ => runOps E r l (i + 1) (if makes o = true then id + 1 else id) kn' σ)).run = some σ' → (doS E r i id o σ).bind (steps E r (tags l (i + 1) (if makes o = true then id + 1 else id))) = some σ' := by
      intro kn' hk' hn' h'
      rw [Tree.run_bind] at h'
      obtain ⟨σ1, h1, h2⟩ := Option.bind_eq_some_iff.1 h'
      have h3 := z20r hk' h1
      rw [h3]
      obtain ⟨d, hp, rfl⟩ := z225 h3
      exact z116 l _ _ kn' _ σ' (hk'.put hn' d hp) h2
    have no : ∀ kn', KnOk kn' σ → knows kn' o.dst = false → (runOps E r l (i + 1) (if makes o = true then id + 1 else id) kn' (putD σ o.dst (.v (.one .skp)))).run = some σ' → steps E r (tags l (i + 1) (if makes o = true then id + 1 else id)) (putD σ o.dst (.v (.one .skp))) = some σ' := by
      intro kn' hk' hn' h'
      have := hk'.put hn' (.v (.one .skp)) σ.hp
      rw [z6n] at this
      exact z116 l _ _ kn' _ σ' this h'
    simp only [tags, steps, stepO, cond_eq_ite]
    split at h
    · rename_i hg
      rw [hg]
      exact yes kn hk hkn h
    · rename_i j want hg
      rw [hg]
      simp only []
      split at h
      · rename_i hj
        rw [hj]
        exact no kn hk hkn h
      · rename_i t hj
        rw [hj]
        simp only []
        split at h
        · rename_i b hb
          rw [hk t b hb]
          simp only []
          split at h
          · rename_i hw; rw [if_pos hw]; exact yes kn hk hkn h
          · rename_i hw; rw [if_neg hw]; exact no kn hk hkn h
        · split at h
          · rename_i b hb
            rw [hb]
            simp only []
            split at h
            · rename_i hw; rw [if_pos hw]; exact yes kn hk hkn h
            · rename_i hw; rw [if_neg hw]; exact no kn hk hkn h
          · rename_i hnone b hb
            rw [hb]
            split at h
            · cases h
            · rename_i hdk
              have hdt : o.dst ≠ some t := by
                intro e
                apply hdk
                simp [knows, e, getA]
              cases b <;> cases want <;> simp only [Tree.run, cond_eq_ite, if_true, if_false, Bool.false_eq_true] at h ⊢
              · exact yes _ (hk.cons hb) (zpa hkn hdt) h
              · exact no _ (hk.cons hb) (zpa hkn hdt) h
              · exact no _ (hk.cons hb) (zpa hkn hdt) h
              · exact yes _ (hk.cons hb) (zpa hkn hdt) h
          · rename_i hb
            rw [hb]
            exact no kn hk hkn h
          · cases h
end
end Go.Ab
end
section
set_option linter.unusedSimpArgs false
namespace Go.Ab
variable {U : Nat → Type}
section
variable {E : Env U}

variable {A F0 : Nat → Prop} {w0 : World} {I0 : Mp}
theorem RS.post {nt : Nat} {P : Program} {cd : Cd U} {σ : St U} {a : Act} {w w' : World} {M : Mp} {Fz : Nat → Prop} (h : RS P cd nt A F0 w0 I0 σ a w M Fz) {dst : Option Nat} (hd : ∀ t, dst = some t → t < nt) {d : D U} {hp' : List (Blk U)} {v : Value}
    (hp : Post P cd M Fz w d hp' v w') : RSt P cd nt A F0 w0 I0 { putD σ dst d with hp := hp' } (a.put dst v) w' := by
  obtain ⟨M', F', h1, h2, h3, h4, h5, h6, h7⟩ := hp
  refine ⟨M', F', ⟨h2, ?_, ?_, ?_, ?_, ?_, ?_, ?_, h.ext.trans h3⟩⟩
  · have := h.tm.mono (Fz' := F') (w' := w') h3 h4
    cases dst with
    | none => exact this
    | some t => exact this.put (by rw [h.size]; exact hd t rfl) h1
  · cases dst with
    | none => exact h.size
    | some t => simp [Act.put, h.size]
  · cases dst with
    | none => exact h.defers
    | some t => exact h.defers
  · refine h.keep.trans h5 fun b hb hM => ?_
    rcases h.own b hM with h' | h'
    · exact h'
    · omega
  · intro k hk
    rcases h6 k hk with h' | h'
    · exact h.own k h'
    · have := h.keep.size
      exact .inr (by omega)
  · exact fun k hk => (h4 k (h.f0 k hk)).1
  · intro k hk
    rcases h7 k hk with h' | h' | h'
    · exact h.f1 k h'
    · exact .inr (h.own k h')
    · have := h.keep.size
      exact .inr (.inr (by omega))
theorem z1yw {P : Program} {cd : Cd U} {M : Mp} {Fz : Nat → Prop} {w : World} {tm : List (Nat × D U)} {a : Array Value} (h : Tm P cd M Fz w tm a) {ops : Array Oper} {j t : Nat} (hj : (ops[j]?).bind (·.dst) = some t) :
    (∀ b, getA tm t = some (.v (.one (.kb b))) ∨ getA tm t = some (.v (.one (.bool b))) → yielded ops a j = some b) ∧ (getA tm t = some (.v (.one .skp)) → yielded ops a j = none) := by
  constructor
  · intro b hb
    have : ∃ v, a[t]? = some v ∧ v = .bool b := by
      rcases hb with hb | hb
      · obtain ⟨v, h1, h2⟩ := h t _ hb
        have h2 : R1 P cd M Fz w _ v := h2
        cases h2
        exact ⟨_, h1, rfl⟩
      · obtain ⟨v, h1, h2⟩ := h t _ hb
        have h2 : R1 P cd M Fz w _ v := h2
        cases h2
        exact ⟨_, h1, rfl⟩
    obtain ⟨v, h1, rfl⟩ := this
    simp [yielded, hj, h1]
  · intro hb
    obtain ⟨v, h1, h2⟩ := h t _ hb
    have h2 : R1 P cd M Fz w _ v := h2
    cases h2
    simp [yielded, hj, h1, undef]
theorem z1zl {hp : List (Blk U)} {b : Nat} (h : isDead hp b = true) : hp[b]? = some .dead := by
  unfold isDead at h
  rw [z25] at h
  split at h
  · assumption
  · cases h
theorem step_ok (ok : CdOk E.P E.cd) (env : ∀ f p s, E.fns f = some (p, s) → FnOk E.P E.cd f s) {r : Rg} {x : Tg} (hi : r.ops[x.i]? = some x.o) {nt : Nat} (hd : ∀ t, x.o.dst = some t → t < nt) {σ σ1 : St U} (hs : stepO E r x.i x.id x.o σ = some σ1)
    {a : Act} {w : World} (h : RSt E.P E.cd nt A F0 w0 I0 σ a w) {K : Act → World → Prop} {Q : Exit → Act → World → Prop} (hK : ∀ a' w', RSt E.P E.cd nt A F0 w0 I0 σ1 a' w' → K a' w') : wpOp E.P r.ops Q x.i K a w := by
  obtain ⟨M, Fz, h⟩ := h
  unfold wpOp
  rw [hi]
  simp only []
  have skip : σ1 = putD σ x.o.dst (.v (.one .skp)) → K (a.put x.o.dst undef) w := by
    rintro rfl
    have := h.post hd (Post.same (d := .v (.one .skp)) (v := undef) h.hr .skp)
    rw [z6n] at this
    exact hK _ _ this
  have go : doS E r x.i x.id x.o σ = some σ1 → x.o.wp E.P a w K Q := by
    intro hgo
    have hev := fun y => z21n h.tm y
    unfold doS at hgo
    split at hgo
    · rename_i c y z ho
      have pk : ∀ b, RD E.P E.cd M Fz w (ev σ.tm c) (.bool b) → a.eval c = .bool b → σ1 = putD σ x.o.dst (typD E.P x.o.type (ev σ.tm (bif b then y else z))) → x.o.wp E.P a w K Q := by
        rintro b _ hb rfl
        unfold Oper.wp execOp
        simp only [ho, hb, asBool, Sem.run_bind, Sem.run_pure, Result.andThen]
        have hv : RD E.P E.cd M Fz w (typD E.P x.o.type (ev σ.tm (bif b then y else z))) (if b = true then a.eval y else a.eval z) := by
          cases b
          · exact z19u (hev z)
          · exact z19u (hev y)
        have := h.post hd (Post.same h.hr hv)
        rw [z6n] at this
        exact hK _ _ this
      have hc := hev c
      split at hgo
      · rename_i b hb
        injection hgo with hgo
        have hc2 := hc
        rw [hb] at hc2
        have hc2 : R1 E.P E.cd M Fz w _ (a.eval c) := hc2
        generalize hv : a.eval c = v at hc2
        cases hc2
        exact pk b (by rw [← hv]; exact hc) hv hgo.symm
      · rename_i b hb
        injection hgo with hgo
        have hc2 := hc
        rw [hb] at hc2
        have hc2 : R1 E.P E.cd M Fz w _ (a.eval c) := hc2
        generalize hv : a.eval c = v at hc2
        cases hc2
        exact pk b (by rw [← hv]; exact hc) hv hgo.symm
      · cases hgo
    · rw [cond_eq_ite] at hgo
      split at hgo
      · rename_i hc
        simp only [Bool.and_eq_true, Bool.or_eq_true, Bool.not_eq_true'] at hc
        obtain ⟨p, hp, rfl⟩ := Option.map_eq_some_iff.1 hgo
        exact z22z E ok env h.hr hev x.o (fun hm => z1zl (hc.1.2.resolve_left (by simp [hm]))) p.1 p.2 hp K Q fun v w' hpost => hK _ _ (h.post hd hpost)
      · cases hgo
  unfold stepO at hs
  split at hs
  · rename_i hg
    rw [if_pos (by simp [Region.wanted, hg])]
    exact .inl (go hs)
  · rename_i j want hg
    split at hs
    · rename_i hj
      have hy : yielded r.ops a.tmps j = none := by simp [yielded, hj]
      rw [if_neg (by simp [Region.wanted, hg, hy])]
      exact skip (Option.some.inj hs).symm
    · rename_i t hj
      have hy := z1yw h.tm hj
      split at hs
      · rename_i b hb
        have hyb := hy.1 b (.inl hb)
        rw [cond_eq_ite] at hs
        split at hs
        · rename_i hw
          rw [if_pos (by simpa [Region.wanted, hg, hyb] using hw)]
          exact .inl (go hs)
        · rename_i hw
          rw [if_neg (by simpa [Region.wanted, hg, hyb] using hw)]
          exact skip (Option.some.inj hs).symm
      · rename_i b hb
        have hyb := hy.1 b (.inr hb)
        rw [cond_eq_ite] at hs
        split at hs
        · rename_i hw
          rw [if_pos (by simpa [Region.wanted, hg, hyb] using hw)]
          exact .inl (go hs)
        · rename_i hw
          rw [if_neg (by simpa [Region.wanted, hg, hyb] using hw)]
          exact skip (Option.some.inj hs).symm
      · rename_i hb
        have hyb := hy.2 hb
        rw [if_neg (by simp [Region.wanted, hg, hyb])]
        exact skip (Option.some.inj hs).symm
      · cases hs
theorem zrs : ∀ (l : List Oper) (i id : Nat) (x : Tg), x ∈ tags l i id → i ≤ x.i ∧ l[x.i - i]? = some x.o ∧ x.id = id + countM (l.take (x.i - i))
  | [], _, _, _, h => by simp [tags] at h
  | o :: l, i, id, x, h => by
    simp only [tags, List.mem_cons] at h
    rcases h with rfl | h
    · simp [countM]
    · obtain ⟨h1, h2, h3⟩ := zrs l _ _ x h
      refine ⟨by omega, ?_, ?_⟩
      · rw [show x.i - i = (x.i - (i + 1)) + 1 by omega]
        simpa using h2
      · rw [show x.i - i = (x.i - (i + 1)) + 1 by omega, List.take_succ_cons]
        simp only [countM, cond_eq_ite] at h3 ⊢
        rw [h3]
        split <;> omega
theorem z1v1 (ok : CdOk E.P E.cd) (env : ∀ f p s, E.fns f = some (p, s) → FnOk E.P E.cd f s) {r : Rg} {nt : Nat} {Q : Exit → Act → World → Prop} {σ' : St U} : ∀ (l : List Tg) (σ : St U), (∀ x ∈ l, r.ops[x.i]? = some x.o ∧ ∀ t, x.o.dst = some t → t < nt) → steps E r l σ = some σ' →
    ∀ a w, RSt E.P E.cd nt A F0 w0 I0 σ a w → (∀ a' w', RSt E.P E.cd nt A F0 w0 I0 σ' a' w' → Q .normal a' w') → wpOps E.P r.ops Q (l.map (·.i)) a w
  | [], σ, _, hs, a, w, h, hQ => by
    simp only [steps, Option.some.injEq] at hs
    subst hs
    exact hQ a w h
  | x :: l, σ, hx, hs, a, w, h, hQ => by
    simp only [steps] at hs
    obtain ⟨σ1, h1, h2⟩ := Option.bind_eq_some_iff.1 hs
    rw [List.map_cons, wpOps_cons]
    obtain ⟨h3, h4⟩ := hx x (by simp)
    exact step_ok ok env h3 h4 h1 h fun a' w' h' => z1v1 ok env l σ1 (fun y hy => hx y (by simp [hy])) h2 a' w' h' hQ
end
end Go.Ab
end
