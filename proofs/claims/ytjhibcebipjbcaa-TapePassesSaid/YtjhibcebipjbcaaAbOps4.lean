/- Values: operators, fields, elements, bounds. -/
import Derived.Test.YtjhibcebipjbcaaAbOps3
set_option linter.unusedSimpArgs false
namespace Go.Ab
variable {U : Nat → Type}
section
variable {P : Program} {cd : Cd U} {M M' : Mp} {Fz Fz' : Nat → Prop} {w w' : World}

/-- What an operation's answer and memory are, as the abstract machine says. -/
def Post (P : Program) (cd : Cd U) (M : Mp) (Fz : Nat → Prop) (w : World) (d : D U) (hp' : List (Blk U)) (v : Value) (w' : World) : Prop :=
  ∃ M' Fz', RD P cd M' Fz' w' d v ∧ HR P cd M' Fz' hp' w' ∧ Ext M M' ∧ Frz Fz w Fz' w' ∧ Keep (Held M) w w' ∧ (∀ k, Held M' k → Held M k ∨ w.heap.size ≤ k) ∧ (∀ k, Fz' k → Fz k ∨ Held M k ∨ w.heap.size ≤ k)
theorem Post.same {d : D U} {hp : List (Blk U)} {v : Value} (h : HR P cd M Fz hp w) (hd : RD P cd M Fz w d v) : Post P cd M Fz w d hp v w :=
  ⟨M, Fz, hd, h, .refl _, .refl _ _, .refl _ _, fun _ h => .inl h, fun _ h => .inl h⟩
def K.sem (k : K U) (hp : List (Blk U)) (id : Nat) : Option (D U × List (Blk U)) := match k with
  | .pur t => t.run.map fun d => (d, hp)
  | .alo t mk => t.run.map fun blk => (.v (.one (mk id)), setN hp id blk)
  | .lod b f => match nth hp b with
    | some .dead => none
    | some blk => (f blk).run.map fun d => (d, hp)
    | none => none
  | .wri f => (f hp id).run
def ValOk (P : Program) (cd : Cd U) (M : Mp) (Fz : Nat → Prop) (w : World) (hp : List (Blk U)) (id : Nat) (x : Sem Value) (k : K U) : Prop :=
  ∀ d hp', k.sem hp id = some (d, hp') → ∃ v w', x.run P w = .ok v w' ∧ Post P cd M Fz w d hp' v w'
theorem ValOk.pur {hp : List (Blk U)} {id : Nat} {x : Sem Value} {t : Tree (D U)} (h : HR P cd M Fz hp w) (ht : PurOk P cd M Fz w x t) : ValOk P cd M Fz w hp id x (.pur t) := by
  intro d hp' hd
  simp only [K.sem] at hd
  cases hr : t.run with
  | none => rw [hr] at hd; cases hd
  | some d' =>
    rw [hr] at hd
    simp only [Option.map_some, Option.some.injEq, Prod.mk.injEq] at hd
    obtain ⟨rfl, rfl⟩ := hd
    obtain ⟨v, h1, h2⟩ := ht d' hr
    exact ⟨v, w, h1, .same h h2⟩
theorem ValOk.fail {hp : List (Blk U)} {id : Nat} {x : Sem Value} : ValOk P cd M Fz w hp id x (.pur .fail) := by
  intro d hp' hd; cases hd
/-- a block is read -/
theorem ValOk.lod {hp : List (Blk U)} {id b : Nat} {x : Sem Value} {f : Blk U → Tree (D U)} (h : HR P cd M Fz hp w) (hf : ∀ blk, hp[b]? = some blk → PurOk P cd M Fz w x (f blk)) : ValOk P cd M Fz w hp id x (.lod b f) := by
  intro d hp' hd
  simp only [K.sem, nth_eq] at hd
  cases hb : hp[b]? with
  | none => simp [hb] at hd
  | some blk =>
    have ht := hf blk hb
    cases blk with
    | dead => simp [hb] at hd
    | _ =>
      simp only [hb] at hd
      obtain ⟨d', hr, hd⟩ := Option.map_eq_some_iff.1 hd
      simp only [Prod.mk.injEq] at hd
      obtain ⟨rfl, rfl⟩ := hd
      obtain ⟨v, h1, h2⟩ := ht d' hr
      exact ⟨v, w, h1, .same h h2⟩

theorem eqV_form {t : Nat} {x y : V U} {vx vy : Value} {b : Bool} (h : eqV P cd t x y = some b) (hx : RV P cd M Fz w x vx) (hy : RV P cd M Fz w y vy)
    (hi : ¬ ∃ k a k' b, x = .one (.int k a) ∧ y = .one (.int k' b)) (hs : ¬ ∃ a b, x = .one (.str a) ∧ y = .one (.str b)) :
    binOp .eql t vx vy = (do pure (.bool (← Op.equal t vx vy))) ∧ binOp .neq t vx vy = (do pure (.bool (!(← Op.equal t vx vy)))) := by
  have : (∃ a c, vx = .agg a ∧ vy = .agg c) ∨ (∃ a c, vx = .bool a ∧ vy = .bool c) := by
    unfold eqV at h
    rw [cond_eq_ite] at h
    split at h
    · cases h
    · rw [cond_eq_ite] at h
      split at h
      · split at h
        · obtain ⟨va, rfl, _⟩ := hx
          obtain ⟨vc, rfl, _⟩ := hy
          exact .inl ⟨_, _, rfl, rfl⟩
        · cases h
      · rename_i hag
        split at h
        · rename_i a c
          rw [Bool.not_eq_true] at hag
          rcases eqT_scal h hag with ⟨x, hx'⟩ | ⟨k, n, rfl⟩ | ⟨s, rfl⟩
          · obtain rfl := R1.asB_inv hx hx'
            have hc : ∃ y, asB c = some y := by
              cases hu : P.underlying t with
              | none => simp [eqT, hu] at h
              | some td =>
                cases td <;> simp only [eqT, hu] at h <;> first | (cases h; done) | (simp [isAggB, hu] at hag; done) | skip
                · cases hc : asB c with
                  | none => simp [hx', hc] at h
                  | some y => exact ⟨y, rfl⟩
                · cases a <;> first | (cases h; done) | (simp [asB] at hx'; done)
                · cases a <;> first | (cases h; done) | (simp [asB] at hx'; done)
            obtain ⟨y, hy'⟩ := hc
            obtain rfl := R1.asB_inv hy hy'
            exact .inr ⟨_, _, rfl, rfl⟩
          · exfalso
            cases hu : P.underlying t with
            | none => simp [eqT, hu] at h
            | some td =>
              cases td <;> simp only [eqT, hu] at h <;> first | (cases h; done) | (simp [isAggB, hu] at hag; done) | skip
              · cases c <;> first | (cases h; done) | exact hi ⟨_, _, _, _, rfl, rfl⟩
          · exfalso
            cases hu : P.underlying t with
            | none => simp [eqT, hu] at h
            | some td =>
              cases td <;> simp only [eqT, hu] at h <;> first | (cases h; done) | (simp [isAggB, hu] at hag; done) | skip
              · cases c <;> first | (cases h; done) | exact hs ⟨_, _, rfl, rfl⟩
        · cases h
  rcases this with ⟨a, c, rfl, rfl⟩ | ⟨a, c, rfl, rfl⟩
  · exact ⟨rfl, rfl⟩
  · exact ⟨rfl, rfl⟩
theorem bin_ok (ok : CdOk P cd) (op : BinOp) (t : Nat) (ox oy : Operand) {x y : V U} {vx vy : Value} (hx : RV P cd M Fz w x vx) (hy : RV P cd M Fz w y vy) :
    ∃ tr, binK P cd t op x y = .pur tr ∧ PurOk P cd M Fz w (do eqGuard op t ox oy vx vy; binOp op t vx vy) tr := by
  by_cases hi : ∃ k a k' b, x = .one (.int k a) ∧ y = .one (.int k' b)
  · obtain ⟨k, a, k', b, rfl, rfl⟩ := hi
    obtain rfl := R1.int_inv hx
    obtain rfl := R1.int_inv hy
    have : ∃ tr, binK P cd t op (.one (.int k a)) (.one (.int k' b)) = .pur tr := by
      cases op <;> simp only [binK] <;> first | exact ⟨_, rfl⟩ | (cases decide (k = k') <;> exact ⟨_, rfl⟩)
    obtain ⟨tr, htr⟩ := this
    exact ⟨tr, htr, bin_int op t ox oy k k' a b tr htr⟩
  · by_cases hs : ∃ a b, x = .one (.str a) ∧ y = .one (.str b)
    · obtain ⟨a, b, rfl, rfl⟩ := hs
      obtain rfl := R1.str_inv hx
      obtain rfl := R1.str_inv hy
      have : ∃ tr, binK P cd t op (.one (.str a)) (.one (.str b)) = .pur tr := by
        cases op <;> exact ⟨_, rfl⟩
      obtain ⟨tr, htr⟩ := this
      exact ⟨tr, htr, bin_str op t ox oy a b tr htr⟩
    · have hk : binK P cd t op x y = (match op with
          | .eql => .pur (match eqV P cd t x y with | some b => one (.bool b) | none => .fail)
          | .neq => .pur (match eqV P cd t x y with | some b => one (.bool (!b)) | none => .fail)
          | _ => .pur .fail) := by
        unfold binK
        split
        · exact absurd ⟨_, _, _, _, rfl, rfl⟩ hi
        · exact absurd ⟨_, _, rfl, rfl⟩ hs
        · rfl
      rw [hk]
      cases op <;> first | exact ⟨_, rfl, .fail⟩ | skip
      · refine ⟨_, rfl, ?_⟩
        cases he : eqV P cd t x y with
        | none => exact .fail
        | some b =>
          obtain ⟨h1, h2⟩ := eqV_ok ok he hx hy .eql ox oy
          refine .one ?_ (.bool b)
          have hb := eqV_form he hx hy hi hs
          simp only [Sem.run_bind, h1, Result.andThen, hb.1, h2]
          rfl
      · refine ⟨_, rfl, ?_⟩
        cases he : eqV P cd t x y with
        | none => exact .fail
        | some b =>
          obtain ⟨h1, h2⟩ := eqV_ok ok he hx hy .neq ox oy
          refine .one ?_ (.bool _)
          have hb := eqV_form he hx hy hi hs
          simp only [Sem.run_bind, h1, Result.andThen, hb.2, h2]
          rfl

theorem un_ok (op : UnOp) {x : V U} {vx : Value} (hx : RV P cd M Fz w x vx) : ∃ tr, unK op x = .pur tr ∧ PurOk P cd M Fz w (Op.unary op vx) tr := by
  cases x with
  | agg cs => exact ⟨_, rfl, .fail⟩
  | one c =>
    cases c <;> first | exact ⟨_, rfl, .fail⟩ | skip
    · obtain rfl := R1.asB_inv hx rfl
      cases op <;> first | exact ⟨_, rfl, .fail⟩ | exact ⟨_, rfl, .one (by simp [Op.unary]) (.kb _)⟩
    · obtain rfl := R1.asB_inv hx rfl
      cases op <;> first | exact ⟨_, rfl, .fail⟩ | exact ⟨_, rfl, .one (by simp [Op.unary]) (.bool _)⟩
    · obtain rfl := R1.int_inv hx
      cases op <;> first | exact ⟨_, rfl, .fail⟩ | exact ⟨_, rfl, .one rfl (.int _ _)⟩

theorem typC_ok {t : Nat} {c : C U} {v : Value} (h : R1 P cd M Fz w c v) : R1 P cd M Fz w (typC P t c) v := by
  unfold typC
  split
  · split
    · cases h
      exact .sl _ [] true none 0 (fun _ => undef) (fun _ => rfl) (Nat.le_refl _) (fun e => absurd rfl e) (fun j c hj => by simp at hj)
    · exact h
  · exact h
theorem typV_ok {t : Nat} {x : V U} {v : Value} (h : RV P cd M Fz w x v) : RV P cd M Fz w (typV P t x) v := by
  cases x with
  | one c => exact typC_ok h
  | agg cs => exact h
theorem typD_ok {t : Nat} {x : D U} {v : Value} (h : RD P cd M Fz w x v) : RD P cd M Fz w (typD P t x) v := by
  cases x with
  | v x => exact typV_ok h
  | tup xs => exact h
theorem ofVal1_ok (v : Value) : R1 P cd M Fz w (ofVal1 v) v := by
  unfold ofVal1
  split
  · exact .kb _
  · exact .int _ _
  · rename_i s
    have : s = ⟨s.data.toList.toArray⟩ := by cases s; simp
    rw [this]
    exact .str _
  · exact .nils
  · exact .nilp
  · exact .unk _
theorem leaves_plain {cs : List (C U)} (h : ∀ c ∈ cs, ∀ t n l, c ≠ C.arr t n l) : leaves cd cs = cs := by
  induction cs with
  | nil => rfl
  | cons c cs ih =>
    rw [leaves_cons, ih fun c hc => h c (by simp [hc])]
    have := h c (by simp)
    cases c <;> first | rfl | exact absurd rfl (this _ _ _)
theorem RL.of_plain {cs : List (C U)} {vs : List Value} (hn : ∀ c ∈ cs, ∀ t n l, c ≠ C.arr t n l) (hl : vs.length = cs.length) (h : ∀ (j : Nat) c v, cs[j]? = some c → vs[j]? = some v → R1 P cd M Fz w c v) : RL P cd M Fz w cs vs := by
  refine ⟨fun t n l hm => absurd rfl (hn _ hm t n l), by rw [leaves_plain hn, hl], fun j c v h1 h2 => ?_⟩
  rw [leaves_plain hn] at h1
  exact h j c v h1 h2
theorem ofVal1_noarr (v : Value) : ∀ t n l, ofVal1 (U := U) v ≠ C.arr t n l := by
  intro t n l
  unfold ofVal1
  split <;> simp
theorem ofVal_ok (v : Value) : RD P cd M Fz w (ofVal v) v := by
  unfold ofVal
  split
  · rename_i cs
    refine ⟨cs, rfl, RL.of_plain ?_ (by simp) ?_⟩
    · intro c hc t n l
      obtain ⟨v, _, rfl⟩ := List.mem_map.1 hc
      exact ofVal1_noarr v t n l
    · intro j c v h1 h2
      rw [List.getElem?_map, h2] at h1
      simp at h1
      subst h1
      exact ofVal1_ok v
  · exact ofVal1_ok v
theorem ev_ok {tm : List (Nat × D U)} {a : Act} (h : Tm P cd M Fz w tm a.tmps) (x : Operand) : RD P cd M Fz w (ev tm x) (a.eval x) := by
  cases x with
  | tmp t =>
    simp only [ev, Act.eval]
    cases hg : getA tm t with
    | none => exact .unk _
    | some d =>
      obtain ⟨v, h1, h2⟩ := h t d hg
      simp only [Array.getD_eq_getD_getElem?, h1, Option.getD_some]
      exact h2
  | const v => exact ofVal_ok v
  | global g => exact .unk _
  | func f =>
    have := R1.fn (P := P) (cd := cd) (M := M) (Fz := Fz) (w := w) f [] [] (fun _ => undef) (fun _ => undef) (fun j x h => by simp at h) (fun j x h => by simp at h)
    exact this

/-! ### fields and elements -/
theorem field_off {t f o tf : Nat} (h : fieldOff P t f = some (o, tf)) : ∃ fs f', P.underlying t = some (.struct fs) ∧ fs[f]? = some f' ∧ f'.offset = o ∧ f'.type = tf := by
  unfold fieldOff at h
  split at h
  · rename_i fs hu
    split at h
    · rename_i f' hf
      simp only [Option.some.injEq, Prod.mk.injEq] at h
      exact ⟨fs, f', hu, by simpa using hf, h.1, h.2⟩
    · cases h
  · cases h
theorem field_ok (ok : CdOk P cd) (t f : Nat) {x : V U} {vx : Value} (hx : RV P cd M Fz w x vx) : ∃ tr, fieldK P t f x = .pur tr ∧ PurOk P cd M Fz w (Instr.field t vx f) tr := by
  unfold fieldK
  split
  · rename_i cs
    obtain ⟨a, rfl, ra⟩ := hx
    split
    · rename_i q tf hq
      obtain ⟨fs, f', hu, hf, rfl, rfl⟩ := field_off hq
      split
      · rename_i r hr
        split
        · rename_i v hv
          refine ⟨_, rfl, ?_⟩
          obtain ⟨y, h1, h2⟩ := part_ok ok ra hr hv
          refine .leaf (v := y) ?_ h2
          simp only [Instr.field, Sem.run_bind, run_underlying hu, Result.andThen, hf, asAgg]
          simpa using h1
        · exact ⟨_, rfl, .fail⟩
      · exact ⟨_, rfl, .fail⟩
    · exact ⟨_, rfl, .fail⟩
  · exact ⟨_, rfl, .fail⟩

/-! ### rows by their places -/
theorem HR.row {hp : List (Blk U)} (h : HR P cd M Fz hp w) {b t ver : Nat} {l : List (U t)} (hb : hp[b]? = some (.row t ver l)) :
    ∃ pos cap, M b = some (.row pos t ver l.length cap) ∧ RowPos P cd M Fz w t l cap pos := h.blk b _ hb
theorem HR.cells {hp : List (Blk U)} (h : HR P cd M Fz hp w) {b : Nat} {cs : List (C U)} (hb : hp[b]? = some (.cells cs)) :
    ∃ k arr e, M b = some (.cells k) ∧ w.heap[k]? = some (.cells arr e (0, 0)) ∧ RL P cd M Fz w cs arr.toList := h.blk b _ hb

theorem index_int {k : IntKind} {i : Int} {x : Sem (IntKind × Int)} (_ : x = asIntOf (.int k i)) : True := trivial
theorem elemT_ok {α : Type} {x : Sem Value} {l : List α} {i : Int} {f : α → Tree (D U)} (h : 0 ≤ i → ∀ y, l[i.toNat]? = some y → PurOk P cd M Fz w x (f y)) : PurOk P cd M Fz w x (elemT l i f) :=
  .ite (fun h0 => .opt fun y hy => h (of_decide_eq_true h0) y hy) (fun _ => .fail)

/-- an element's cells among the row's -/
theorem elem_at (ok : CdOk P cd) {t : Nat} {l : List (U t)} {i : Nat} {x : U t} (h : l[i]? = some x) (j : Nat) (c : C U) (hj : (cd.enc t x)[j]? = some c) : (l.flatMap (cd.enc t))[i * P.cellsOf t + j]? = some c := by
  have hlt : j < P.cellsOf t := by rw [← ok.len t x]; exact (List.getElem?_eq_some_iff.1 hj).1
  have e := flat_chunk ok t l i 1
  have hx : (l.drop i).take 1 = [x] := by
    rw [List.take_one]
    simp [h]
  rw [hx, Nat.one_mul] at e
  have e2 : ((l.flatMap (cd.enc t)).drop (i * P.cellsOf t)).take (P.cellsOf t) = cd.enc t x := by rw [← e]; simp
  rw [← e2, List.getElem?_take, if_pos hlt, List.getElem?_drop] at hj
  exact hj
/-- a row that is told for good: an element's place -/
theorem R1.sl_elem (ok : CdOk P cd) {t : Nat} {l : List (U t)} {full : Bool} {v : Value} (h : R1 P cd M Fz w (.sl t l full) v) {i : Nat} {x : U t} (hx : l[i]? = some x) :
    ∃ k o cap, v = .slice (some (at0 k o)) l.length cap ∧ R1 P cd M Fz w (.xp t x 0) (.pointer (some (at0 k (o + i * P.cellsOf t)))) := by
  cases h with
  | sl _ _ _ a cap f h1 h0 h2 h3 =>
    have hne : l ≠ [] := by intro e; subst e; simp at hx
    obtain ⟨k, o, rfl, hk, hc⟩ := h2 hne
    refine ⟨k, o, cap, rfl, ?_⟩
    have := R1.xp (P := P) (cd := cd) (M := M) (Fz := Fz) (w := w) t x 0 k (o + i * P.cellsOf t) (fun j => f (i * P.cellsOf t + j)) hk
      (fun j c hj => by rw [Nat.add_assoc]; exact hc _ c (elem_at ok hx j c hj)) (fun j c hj => h3 _ c (elem_at ok hx j c hj))
    simpa using this
theorem R1.sl_form {t : Nat} {l : List (U t)} {full : Bool} {v : Value} (h : R1 P cd M Fz w (.sl t l full) v) : ∃ a cap, v = .slice a l.length cap ∧ (full = true → cap = l.length) ∧ l.length ≤ cap := by
  cases h with
  | sl _ _ _ a cap f h1 h0 h2 h3 => exact ⟨a, cap, rfl, h1, h0⟩

theorem indexAt_slice {t e : Nat} {td : TypeDesc} (ht : P.underlying t = some (.slice e)) (he : P.underlying e = some td) (k : IntKind) (i : Int) (a : Addr) (n c : Nat) (h0 : 0 ≤ i) (hi : i < n) :
    (Instr.indexAt t (.slice (some a) n c) (.int k i)).run P w = .ok (.pointer (some (a.add (i.toNat * P.cellsOf e)))) w := by
  simp only [Instr.indexAt, asIntOf, Sem.run_bind, Sem.run_pure, Result.andThen, run_underlying ht, run_size he, if_pos (And.intro h0 hi)]
theorem slOf_ok {t te : Nat} (h : slOf P t te = true) : P.underlying t = some (.slice te) ∧ ∃ td, P.underlying te = some td := by
  unfold slOf at h
  split at h
  · rename_i e hu
    rw [cond_eq_ite] at h
    split at h
    · rename_i he
      obtain rfl := Nat.eq_of_beq_eq_true he
      exact ⟨hu, Option.isSome_iff_exists.1 h⟩
    · cases h
  · cases h
theorem lt_of_get {α : Type} {l : List α} {i : Int} {y : α} (h0 : 0 ≤ i) (h : l[i.toNat]? = some y) : i < (l.length : Int) := by
  have := (List.getElem?_eq_some_iff.1 h).1
  omega
theorem HR.row_at {hp : List (Blk U)} (h : HR P cd M Fz hp w) {b t ver : Nat} {l : List (U t)} (hb : hp[b]? = some (.row t ver l)) {pos : Option Nat} {t' len cap ver' : Nat} (hm : M b = some (.row pos t' ver' len cap)) :
    t' = t ∧ ver' = ver ∧ len = l.length ∧ RowPos P cd M Fz w t l cap pos := by
  obtain ⟨p, c, h1, h2⟩ := h.row hb
  rw [h1] at hm
  simp only [Option.some.injEq, Inf.row.injEq] at hm
  obtain ⟨rfl, rfl, rfl, rfl, rfl⟩ := hm
  exact ⟨rfl, rfl, rfl, h2⟩
theorem HR.cells_at {hp : List (Blk U)} (h : HR P cd M Fz hp w) {b k : Nat} {cs : List (C U)} (hb : hp[b]? = some (.cells cs)) (hm : M b = some (.cells k)) :
    ∃ arr e, w.heap[k]? = some (.cells arr e (0, 0)) ∧ RL P cd M Fz w cs arr.toList := by
  obtain ⟨k', arr, e, h1, h2, h3⟩ := h.cells hb
  rw [h1] at hm
  simp only [Option.some.injEq, Inf.cells.injEq] at hm
  subst hm
  exact ⟨arr, e, h2, h3⟩

theorem run_indexAt_array {t n e : Nat} {td : TypeDesc} (ht : P.underlying t = some (.array n e)) (he : P.underlying e = some td) (k : IntKind) (i : Int) (a : Addr) (h0 : 0 ≤ i) (hi : i < n) :
    (Instr.indexAt t (.pointer (some a)) (.int k i)).run P w = .ok (.pointer (some (a.add (i.toNat * P.cellsOf e)))) w := by
  simp only [Instr.indexAt, asIntOf, Sem.run_bind, Sem.run_pure, Result.andThen, run_underlying ht, run_size he, Instr.sureAddr, if_pos (And.intro h0 hi)]
theorem arrOk_elem {f t n e : Nat} (h : arrOk P (f + 1) t = true) (hu : P.underlying t = some (.array n e)) : (∃ td, P.underlying e = some td) ∧ P.cellsOf t = n * P.cellsOf e ∧ arrOk P f e = true := by
  simp only [arrOk, hu, cond_eq_ite] at h
  split at h
  · rename_i h1
    simp only [Bool.and_eq_true] at h1
    exact ⟨Option.isSome_iff_exists.1 h1.1, Nat.eq_of_beq_eq_true h1.2, h⟩
  · cases h
theorem indexAddr_ok (ok : CdOk P cd) {hp : List (Blk U)} {id : Nat} (h : HR P cd M Fz hp w) (t : Nat) {x i : V U} {vx vi : Value} (hx : RV P cd M Fz w x vx) (hi : RV P cd M Fz w i vi) :
    ValOk P cd M Fz w hp id (Instr.indexAt t vx vi) (indexAddrK P t x i) := by
  unfold indexAddrK
  split
  · rename_i te l full k i
    obtain rfl := R1.int_inv hi
    refine .pur h ?_
    rw [cond_eq_ite]
    split
    · rename_i hs
      obtain ⟨hu, td, htd⟩ := slOf_ok hs
      refine elemT_ok fun h0 y hy => ?_
      obtain ⟨kk, o, cap, rfl, hr⟩ := R1.sl_elem ok hx hy
      refine .one (v := .pointer (some (at0 kk (o + i.toNat * P.cellsOf te)))) ?_ hr
      rw [indexAt_slice hu htd _ _ _ _ _ h0 (lt_of_get h0 hy), add0]
    · exact .fail
  · rename_i b v k i
    obtain rfl := R1.int_inv hi
    refine .lod h fun blk hb => ?_
    cases blk with
    | dead => exact .fail
    | cells cs => exact .fail
    | row te v' l =>
      simp only [cond_eq_ite]
      split
      · rename_i hc
        simp only [Bool.and_eq_true] at hc
        obtain ⟨hu, td, htd⟩ := slOf_ok hc.1
        obtain rfl := Nat.eq_of_beq_eq_true hc.2
        refine .ite (fun h0 => .ite (fun h1 => ?_) fun _ => .fail) fun _ => .fail
        have h0 := of_decide_eq_true h0
        have h1 := of_decide_eq_true h1
        cases hx with
        | row _ _ pos t' ver len cap _ hm hle hsc hv =>
          obtain ⟨rfl, rfl, rfl, hpos⟩ := h.row_at hb hm
          have hv := hv rfl
          cases pos with
          | none => subst hpos; simp at h1; omega
          | some kk =>
            simp only [RowV] at hv
            subst hv
            refine .one (v := .pointer (some (at0 kk (i.toNat * P.cellsOf t')))) ?_ ?_
            · rw [indexAt_slice hu htd _ _ _ _ _ h0 h1, add0, Nat.zero_add]
            · exact .elp b _ _ 0 _ _ _ _ cap _ hm (Nat.le_refl _) rfl fun _ => ⟨by omega, kk, rfl, rfl⟩
      · exact .fail
  · rename_i b v lo n k i
    obtain rfl := R1.int_inv hi
    refine .lod h fun blk hb => ?_
    cases blk with
    | dead => exact .fail
    | cells cs => exact .fail
    | row te v' l =>
      simp only [cond_eq_ite]
      split
      · rename_i hc
        simp only [Bool.and_eq_true] at hc
        obtain ⟨hu, td, htd⟩ := slOf_ok hc.1
        obtain rfl := Nat.eq_of_beq_eq_true hc.2
        refine .ite (fun h0 => .ite (fun h1 => ?_) fun _ => .fail) fun _ => .fail
        have h0 := of_decide_eq_true h0
        have h1 := of_decide_eq_true h1
        cases hx with
        | own _ _ _ _ pos t' ver len cap _ hm hle hsc hv =>
          obtain ⟨rfl, rfl, rfl, hpos⟩ := h.row_at hb hm
          obtain ⟨hlo, a, c, rfl, hnc, ha⟩ := hv rfl
          obtain ⟨kk, rfl, rfl⟩ := ha (by omega)
          refine .one (v := .pointer (some (at0 kk ((lo + i.toNat) * P.cellsOf t')))) ?_ ?_
          · rw [indexAt_slice hu htd _ _ _ _ _ h0 h1, add0, Nat.add_mul]
          · exact .elp b _ _ 0 _ _ _ _ cap _ hm (Nat.le_refl _) rfl fun _ => ⟨by omega, kk, rfl, rfl⟩
      · exact .fail
  · rename_i b o k i
    obtain rfl := R1.int_inv hi
    split
    · rename_i n e hu
      refine .lod h fun blk hb => ?_
      cases blk with
      | dead => exact .fail
      | row te v' l => exact .fail
      | cells cs =>
        simp only []
        split
        · rename_i t' m l hat
          rw [cond_eq_ite]
          split
          · rename_i hc
            simp only [Bool.and_eq_true] at hc
            obtain ⟨⟨td, htd⟩, hce, hae⟩ := arrOk_elem hc.1 hu
            have hle := leaf_cells 9 e hae
            have hte := Nat.eq_of_beq_eq_true hc.2
            refine .ite (fun h0 => .ite (fun h1 => ?_) fun _ => .fail) fun _ => .fail
            subst hte
            cases hx with
            | ptr _ _ kk hm =>
              refine .one (v := .pointer (some (at0 kk (o + i.toNat * P.cellsOf e)))) ?_ ?_
              · rw [run_indexAt_array hu htd _ _ _ (of_decide_eq_true h0) (of_decide_eq_true h1), add0]
              · have := R1.ap (P := P) (cd := cd) (M := M) (Fz := Fz) (w := w) b o (leafOf P 9 e).1 (i.toNat * (leafOf P 9 e).2) 0 kk hm
                rwa [Nat.add_zero, Nat.mul_assoc, ← hle] at this
          · exact .fail
        · exact .fail
    · exact .fail
  · rename_i b o te j k i
    obtain rfl := R1.int_inv hi
    split
    · rename_i n e hu
      refine .pur h ?_
      rw [cond_eq_ite]
      split
      · rename_i hc
        simp only [Bool.and_eq_true] at hc
        obtain ⟨⟨td, htd⟩, hce, hae⟩ := arrOk_elem hc.1 hu
        have hle := leaf_cells 9 e hae
        have hte := Nat.eq_of_beq_eq_true hc.2
        refine .ite (fun h0 => .ite (fun h1 => ?_) fun _ => .fail) fun _ => .fail
        subst hte
        cases hx with
        | ap _ _ _ _ _ kk hm =>
          refine .one (v := .pointer (some (at0 kk (o + j * P.cellsOf (leafOf P 9 e).1 + i.toNat * P.cellsOf e)))) ?_ ?_
          · rw [run_indexAt_array hu htd _ _ _ (of_decide_eq_true h0) (of_decide_eq_true h1), Nat.add_zero, add0]
          · have := R1.ap (P := P) (cd := cd) (M := M) (Fz := Fz) (w := w) b o (leafOf P 9 e).1 (j + i.toNat * (leafOf P 9 e).2) 0 kk hm
            rwa [Nat.add_zero, Nat.add_mul, Nat.mul_assoc i.toNat, ← hle, ← Nat.add_assoc] at this
      · exact .fail
    · exact .fail
  · exact .fail
end
end Go.Ab
