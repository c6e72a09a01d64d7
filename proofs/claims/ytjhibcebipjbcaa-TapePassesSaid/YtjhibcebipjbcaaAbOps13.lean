/- Operations. -/
import Derived.Test.YtjhibcebipjbcaaAbOpsM
set_option linter.unusedSimpArgs false
namespace Go.Ab
variable {U : Nat → Type}
section
variable {P : Program} {cd : Cd U} {M M' M2 : Mp} {Fz Fz' : Nat → Prop} {w w' : World}

/-- What an operation must come to. -/
def OpOk (P : Program) (cd : Cd U) (M : Mp) (Fz : Nat → Prop) (w : World) (hp : List (Blk U)) (id : Nat) (a : Act) (o : Oper) (k : K U) : Prop :=
  ∀ d hp', k.sem hp id = some (d, hp') → ∀ (next : Act → World → Prop) (Q : Exit → Act → World → Prop), (∀ v w', Post P cd M Fz w d hp' v w' → next (a.put o.dst v) w') → o.wp P a w next Q
theorem OpOk.fail {hp : List (Blk U)} {id : Nat} {a : Act} {o : Oper} : OpOk P cd M Fz w hp id a o (.pur .fail) := by
  intro d hp' hd; cases hd
theorem OpOk.val {hp : List (Blk U)} {id : Nat} {a : Act} {o : Oper} {k : K U} {x : Sem Value} (he : execOp a.eval o = (do pure (.value (← x)))) (h : ValOk P cd M Fz w hp id x k) : OpOk P cd M Fz w hp id a o k := by
  intro d hp' hd next Q hn
  obtain ⟨v, w', h1, h2⟩ := h d hp' hd
  unfold Oper.wp
  rw [he]
  simp only [Sem.run_bind, h1, Result.andThen, Sem.run_pure]
  exact hn v w' h2
theorem OpOk.pur {hp : List (Blk U)} {id : Nat} {a : Act} {o : Oper} {tr : Tree (D U)} {x : Sem Value} (hh : HR P cd M Fz hp w) (he : execOp a.eval o = (do pure (.value (← x)))) (h : PurOk P cd M Fz w x tr) : OpOk P cd M Fz w hp id a o (.pur tr) :=
  .val he (.pur hh h)
theorem vOf_ok {d : D U} {x : V U} {v : Value} (h : vOf d = some x) (hd : RD P cd M Fz w d v) : RV P cd M Fz w x v := by
  cases d with
  | v y => simp only [vOf, Option.some.injEq] at h; subst h; exact hd
  | tup vs => cases h
theorem optL_some {α : Type} : ∀ {l : List (Option α)} {r : List α}, optL l = some r → l = r.map some
  | [], r, h => by simp [optL] at h; subst h; rfl
  | none :: l, r, h => by simp [optL] at h
  | some x :: l, r, h => by
    simp only [optL] at h
    split at h
    · rename_i r' hr
      injection h with h
      subst h
      rw [optL_some hr]; rfl
    · cases h
/-- values of operands -/
theorem vals_ok {ρ : Operand → D U} {ρ' : Operand → Value} (h : ∀ x, RD P cd M Fz w (ρ x) (ρ' x)) : ∀ {xs : List Operand} {vs : List (V U)}, optL (xs.map fun x => vOf (ρ x)) = some vs → RVs P cd M Fz w vs (xs.map ρ')
  | [], vs, e => by simp [optL] at e; subst e; exact ⟨rfl, fun j x v h => by simp at h⟩
  | x :: xs, vs, e => by
    simp only [List.map_cons] at e
    cases hx : vOf (ρ x) with
    | none => rw [hx] at e; simp [optL] at e
    | some y =>
      rw [hx] at e
      simp only [optL] at e
      split at e
      · rename_i r hr
        injection e with e
        subst e
        have ih := vals_ok h hr
        refine ⟨by simp [ih.1], fun j z v h1 h2 => ?_⟩
        cases j with
        | zero =>
          simp at h1 h2
          subst h1; subst h2
          exact vOf_ok hx (h x)
        | succ j =>
          simp only [List.map_cons, List.getElem?_cons_succ] at h1 h2
          exact ih.2 j z v h1 h2
      · cases e
theorem valsOf_ok {ρ : Operand → D U} {ρ' : Operand → Value} (h : ∀ x, RD P cd M Fz w (ρ x) (ρ' x)) : ∀ {xs : List Operand} {ts : List Nat} {vs : List (V U)}, valsOf P (xs.map ρ) ts = some vs → RVs P cd M Fz w vs (xs.map ρ')
  | [], ts, vs, e => by simp [valsOf] at e; subst e; exact ⟨rfl, fun j x v h => by simp at h⟩
  | x :: xs, ts, vs, e => by
    have hx := h x
    simp only [List.map_cons] at e
    revert hx e
    generalize ρ x = d
    intro hx e
    cases d with
    | tup l => simp [valsOf] at e
    | v y =>
      cases ts with
      | nil =>
        simp only [valsOf] at e
        split at e
        · rename_i r hr
          injection e with e
          subst e
          have ih := valsOf_ok h hr
          refine ⟨by simp [ih.1], fun j z v h1 h2 => ?_⟩
          cases j with
          | zero => simp at h1 h2; subst h1; subst h2; exact hx
          | succ j => simp only [List.map_cons, List.getElem?_cons_succ] at h1 h2; exact ih.2 j z v h1 h2
        · cases e
      | cons t ts =>
        simp only [valsOf] at e
        split at e
        · rename_i r hr
          injection e with e
          subst e
          have ih := valsOf_ok h hr
          refine ⟨by simp [ih.1], fun j z v h1 h2 => ?_⟩
          cases j with
          | zero => simp at h1 h2; subst h1; subst h2; exact typV_ok hx
          | succ j => simp only [List.map_cons, List.getElem?_cons_succ] at h1 h2; exact ih.2 j z v h1 h2
        · cases e
theorem cells_ok {ρ : Operand → D U} {ρ' : Operand → Value} (h : ∀ x, RD P cd M Fz w (ρ x) (ρ' x)) {xs : List Operand} {cs : List (C U)} (e : optL (xs.map fun x => opK.cellOf (ρ x)) = some cs) :
    cs.length = xs.length ∧ ∀ j c, cs[j]? = some c → R1 P cd M Fz w c ((xs.map ρ').getD j undef) := by
  have e' := optL_some e
  have hl : cs.length = xs.length := by
    have := congrArg List.length e'
    simpa using this.symm
  refine ⟨hl, fun j c hj => ?_⟩
  have h1 : (xs.map fun x => opK.cellOf (ρ x))[j]? = some (some c) := by rw [e', List.getElem?_map, hj]; rfl
  rw [List.getElem?_map] at h1
  obtain ⟨x, hx, h2⟩ := Option.map_eq_some_iff.1 h1
  have h3 := h x
  revert h2 h3
  generalize ρ x = d
  intro h2 h3
  cases d with
  | tup l => cases h2
  | v y =>
    cases y with
    | agg l => cases h2
    | one c' =>
      simp only [opK.cellOf, Option.some.injEq] at h2
      subst h2
      simp only [List.getD_eq_getElem?_getD, List.getElem?_map, hx, Option.map_some, Option.getD_some]
      exact h3
theorem RVs.append {xs ys : List (V U)} {vs us : List Value} (h : RVs P cd M Fz w xs vs) (k : RVs P cd M Fz w ys us) : RVs P cd M Fz w (xs ++ ys) (vs ++ us) := by
  refine ⟨by simp [h.1, k.1], fun j x v h1 h2 => ?_⟩
  rcases Nat.lt_or_ge j xs.length with hj | hj
  · rw [List.getElem?_append_left hj] at h1
    rw [List.getElem?_append_left (by rw [h.1]; exact hj)] at h2
    exact h.2 j x v h1 h2
  · rw [List.getElem?_append_right hj] at h1
    rw [List.getElem?_append_right (by rw [h.1]; exact hj), h.1] at h2
    exact k.2 _ x v h1 h2
theorem RVs.of_cells {cs : List (C U)} {n : Nat} {f : Nat → Value} (hn : n = cs.length) (h : ∀ j c, cs[j]? = some c → R1 P cd M Fz w c (f j)) : RVs P cd M Fz w (cs.map .one) ((List.range n).map f) := by
  subst hn
  refine ⟨by simp, fun j x v h1 h2 => ?_⟩
  rw [List.getElem?_map] at h1
  obtain ⟨c, hc, rfl⟩ := Option.map_eq_some_iff.1 h1
  have hj := (List.getElem?_eq_some_iff.1 hc).1
  rw [List.getElem?_map, List.getElem?_range hj] at h2
  injection h2 with h2
  subst h2
  exact h j c hc
theorem map_map3 {xs : List (V U)} {vs : List Value} {g : Nat → Nat → Option (Nat × Nat)} (h : RVs P cd M Fz w (xs.map canV) vs) (ok : CdOk P cd) (hg : Renum M M2 g) : RVs P cd M2 Fz w (xs.map fun x => renV g (canV x)) vs := by
  have := h.ren ok hg
  rw [List.map_map] at this
  exact this
/-- a call -/
theorem call_ok (E : Env U) (ok : CdOk E.P E.cd) (env : ∀ f p s, E.fns f = some (p, s) → FnOk E.P E.cd f s) {hp : List (Blk U)} {id : Nat} (h : HR E.P E.cd M Fz hp w) {f : Nat} {xs : List (V U)} {vs : List Value} (hx : RVs E.P E.cd M Fz w xs vs)
    {a : Act} {o : Oper} (he : ∀ fn, E.P.funcs[f]? = some fn → (fn.name == "runtime.NumGoroutine") = false → fn.body.isSome = true → (execOp a.eval o).run E.P w = .ok (.enter f vs.toArray) w) : OpOk E.P E.cd M Fz w hp id a o (callK E f xs) := by
  unfold callK
  split
  · rename_i spec hf
    split
    · rename_i r hr
      intro d hp' hd next Q hn
      simp only [K.sem, Tree.run] at hd
      obtain ⟨d', hd1, he'⟩ := Option.map_eq_some_iff.1 hd
      simp only [Prod.mk.injEq] at he'
      obtain ⟨rfl, rfl⟩ := he'
      obtain ⟨x, hx1, hd2⟩ := Option.bind_eq_some_iff.1 hd1
      clear hd hd1
      rw [Tree.run_bind] at hd2
      obtain ⟨p, hp2, hd2⟩ := Option.bind_eq_some_iff.1 hd2
      split at hd2
      · rename_i ws
        simp only [Tree.run, Option.some.injEq] at hd2
        subst hd2
        have hs := small_hr ok h 0 (order := []) List.nodup_nil
        have hr0 : Renum M (small 0 M []) (fun _ _ => none) := Renum.none _ _
        obtain ⟨fn, h1, h2, h3, hc⟩ := env f _ _ hf (small 0 M []) Fz w [] _ vs hs (map_map3 (hx.can ok) ok hr0) r hr x hx1 _ hp2
        unfold Oper.wp
        rw [he fn h1 h2 h3, Oper.upon_enter]
        refine hc.mono fun e w' ⟨v, he, hp0⟩ => ?_
        subst he
        exact hn v w' (call_core ok (order := []) (R := hp) h List.nodup_nil (fun x hx => by simp at hx) hp0 (by simp [putBack, putBack.go]) (.inr rfl))
      · cases hd2
    · exact .fail
  · rename_i spec hf
    intro d hp' hd next Q hn
    simp only [K.sem, callT, cond_eq_ite] at hd
    split at hd
    · rename_i hc
      simp only [Bool.and_eq_true] at hc
      have hnd := nodupB_ok hc.1
      split at hd
      · rename_i r hr
        simp only [Tree.run] at hd
        obtain ⟨x, hx1, hd⟩ := Option.bind_eq_some_iff.1 hd
        rw [Tree.run_bind] at hd
        obtain ⟨p, hp2, hd⟩ := Option.bind_eq_some_iff.1 hd
        split at hd
        · rename_i R hR
          simp only [Tree.run, Option.some.injEq, Prod.mk.injEq] at hd
          obtain ⟨rfl, rfl⟩ := hd
          obtain ⟨fn, h1, h2, h3, hcl⟩ := env f _ _ hf _ Fz w _ _ vs ((small_hr ok h 0 hnd).can ok) (map_map3 (hx.can ok) ok (into_renum h 0 _)) r hr x hx1 p hp2
          unfold Oper.wp
          rw [he fn h1 h2 h3, Oper.upon_enter]
          refine hcl.mono fun e w' ⟨v, he, hp⟩ => ?_
          subst he
          exact hn v w' (call_core ok h hnd (ltAll_ok hc.2) hp hR (.inl rfl))
        · cases hd
      · cases hd
    · cases hd
  · exact .fail
theorem two_ok {ρx ρy : D U} {vx vy : Value} {hp : List (Blk U)} {id : Nat} {a : Act} {o : Oper} {f : V U → V U → K U} (hx : RD P cd M Fz w ρx vx) (hy : RD P cd M Fz w ρy vy)
    (h : ∀ x y, RV P cd M Fz w x vx → RV P cd M Fz w y vy → OpOk P cd M Fz w hp id a o (f x y)) : OpOk P cd M Fz w hp id a o (two ρx ρy f) := by
  unfold two
  split
  · rename_i x y h1 h2
    exact h x y (vOf_ok h1 hx) (vOf_ok h2 hy)
  · exact .fail
theorem oneK_ok {ρx : D U} {vx : Value} {hp : List (Blk U)} {id : Nat} {a : Act} {o : Oper} {f : V U → K U} (hx : RD P cd M Fz w ρx vx)
    (h : ∀ x, RV P cd M Fz w x vx → OpOk P cd M Fz w hp id a o (f x)) : OpOk P cd M Fz w hp id a o (oneK ρx f) := by
  unfold oneK
  split
  · rename_i x h1
    exact h x (vOf_ok h1 hx)
  · exact .fail
theorem parts_ok {ρ : Operand → D U} {ρ' : Operand → Value} (h : ∀ x, RD P cd M Fz w (ρ x) (ρ' x)) : ∀ ps : List (Nat × Operand), RDs P cd M Fz w (ps.map fun p => (p.1, ρ p.2)) (ps.map fun p => (p.1, ρ' p.2))
  | [] => trivial
  | (_, x) :: ps => ⟨rfl, h x, parts_ok h ps⟩
theorem opt_ok {ρ : Operand → D U} {ρ' : Operand → Value} (h : ∀ x, RD P cd M Fz w (ρ x) (ρ' x)) (x : Option Operand) : RO P cd M Fz w (x.map ρ) (x.map ρ') := by
  cases x with
  | none => trivial
  | some x => exact h x
theorem opK_ok (E : Env U) (ok : CdOk E.P E.cd) (env : ∀ f p s, E.fns f = some (p, s) → FnOk E.P E.cd f s) {hp : List (Blk U)} {id : Nat} (h : HR E.P E.cd M Fz hp w) {ρ : Operand → D U} {a : Act} (hρ : ∀ x, RD E.P E.cd M Fz w (ρ x) (a.eval x))
    (o : Oper) (hid : makes o = true → hp[id]? = some .dead) : OpOk E.P E.cd M Fz w hp id a o (opK E ρ o) := by
  unfold opK
  split
  · rename_i x ho
    intro d hp' hd next Q hn
    simp only [K.sem, Tree.run, Option.map_some, Option.some.injEq, Prod.mk.injEq] at hd
    obtain ⟨rfl, rfl⟩ := hd
    unfold Oper.wp execOp
    simp only [ho, Sem.run_pure]
    exact hn _ _ (.same h (typD_ok (hρ x)))
  · rename_i x ho
    intro d hp' hd next Q hn
    simp only [K.sem, Tree.run, Option.map_some, Option.some.injEq, Prod.mk.injEq] at hd
    obtain ⟨rfl, rfl⟩ := hd
    unfold Oper.wp execOp
    simp only [ho, Sem.run_pure]
    exact hn _ _ (.same h (typD_ok (hρ x)))
  · rename_i t ho
    exact .val (by unfold execOp; simp only [ho]) (alloc_ok h (hid (by simp [makes, ho])) t (.tuple #[]))
  · rename_i t x ho
    split
    · rename_i v hv
      exact .val (by unfold execOp; simp only [ho]) (box_ok h (hid (by simp [makes, ho])) t (typV_ok (vOf_ok hv (hρ x))))
    · intro d hp' hd; cases hd
  · rename_i t parts ho
    refine .pur h (by unfold execOp; simp only [ho]; rfl) (build_ok ok t ?_)
    simpa using parts_ok hρ parts.toList
  · rename_i t n parts ho
    refine .val (by unfold execOp; simp only [ho]; rfl) (buildSlice_ok ok h (hid (by simp [makes, ho])) t n ?_)
    simpa using parts_ok hρ parts.toList
  · rename_i t x ho
    exact oneK_ok (hρ x) fun y hy => .val (by unfold execOp; simp only [ho]) (load_ok ok h t hy)
  · rename_i t x y ho
    refine two_ok (hρ x) (hρ y) fun x' y' hx hy => ?_
    intro d hp' hd next Q hn
    obtain ⟨w', h1, h2⟩ := store_ok ok h t hx (typV_ok hy) hd
    unfold Oper.wp execOp
    simp only [ho, Sem.run_bind, h1, Result.andThen, Sem.run_pure]
    exact hn _ _ h2
  · rename_i x ho
    have hx := hρ x
    revert hx
    generalize hd : ρ x = d
    generalize hv : a.eval x = v
    intro hx
    have key : ∀ {c : C U}, R1 E.P E.cd M Fz w c v → ((∃ p, v = .pointer (some p)) ∨ ∃ f g k, v = .func (.func f) g k) → PurOk E.P E.cd M Fz w (pure v) (one c) ∧ execOp a.eval o = (do pure (.value (← (pure v : Sem Value)))) := by
      intro c hc hh
      refine ⟨.one rfl hc, ?_⟩
      unfold execOp
      simp only [ho, hv]
      rcases hh with ⟨p, rfl⟩ | ⟨f, g, k, rfl⟩ <;> rfl
    split
    · rename_i b o'
      have hx : R1 E.P E.cd M Fz w _ v := hx
      cases hx with
      | ptr _ _ k hm =>
        obtain ⟨k1, k2⟩ := key (.ptr b o' k hm) (.inl ⟨_, rfl⟩)
        exact .pur h k2 k1
    · rename_i b o' t i s
      have hx : R1 E.P E.cd M Fz w _ v := hx
      cases hx with
      | ap _ _ _ _ _ k hm =>
        obtain ⟨k1, k2⟩ := key (.ap b o' t i s k hm) (.inl ⟨_, rfl⟩)
        exact .pur h k2 k1
    · rename_i b ver i s
      have hx : R1 E.P E.cd M Fz w _ v := hx
      cases hx with
      | elp _ _ _ _ pos t ver' len cap _ hm hle hsc hval =>
        by_cases hcur : ver = ver'
        · obtain ⟨hi, k, rfl, rfl⟩ := hval hcur
          obtain ⟨k1, k2⟩ := key (.elp b ver i s _ t ver' len cap _ hm hle hsc hval) (.inl ⟨_, rfl⟩)
          refine .val k2 (.lod h fun blk hb => ?_)
          split
          · rw [cond_eq_ite]
            split
            · exact k1
            · exact .fail
          · exact .fail
        · intro d hp' hd
          simp only [K.sem, nth_eq] at hd
          split at hd
          · cases hd
          · rename_i blk _ hb
            cases blk with
            | row t2 v2 l2 =>
              obtain ⟨_, hvv, _⟩ := h.row_at hb hm
              have : Nat.beq ver v2 = false := by
                rw [Bool.eq_false_iff]; intro e; exact hcur ((Nat.eq_of_beq_eq_true e).trans hvv.symm)
              simp [this, Tree.run] at hd
            | _ => simp [Tree.run] at hd
          · cases hd
    · rename_i t x' s
      have hx : R1 E.P E.cd M Fz w _ v := hx
      cases hx with
      | xp _ _ _ k o' f h1 h2 h3 =>
        obtain ⟨k1, k2⟩ := key (.xp t x' s k o' f h1 h2 h3) (.inl ⟨_, rfl⟩)
        exact .pur h k2 k1
    · rename_i f as cs
      have hx : R1 E.P E.cd M Fz w _ v := hx
      cases hx with
      | fn _ _ _ g k h1 h2 =>
        obtain ⟨k1, k2⟩ := key (.fn f as cs g k h1 h2) (.inr ⟨_, _, _, rfl⟩)
        exact .pur h k2 k1
    · exact .fail
  · rename_i op t x y z ho
    refine two_ok (hρ x) (hρ y) fun x' y' hx hy => ?_
    obtain ⟨tr, h1, h2⟩ := bin_ok ok op t x y hx hy
    rw [h1]
    exact .pur h (by unfold execOp; simp only [ho]) h2
  · rename_i op t x ho
    refine oneK_ok (hρ x) fun y hy => ?_
    obtain ⟨tr, h1, h2⟩ := un_ok op hy
    rw [h1]
    exact .pur h (by unfold execOp; simp only [ho]) h2
  · rename_i src dst x ho
    exact oneK_ok (hρ x) fun y hy => .val (by unfold execOp; simp only [ho]) (conv_ok ok h src dst hy)
  · rename_i f xs ys ho
    refine .pur (x := Instr.makeFunc (.func f) (xs.map a.eval) (ys.map a.eval)) h (by unfold execOp; simp only [ho]) ?_
    split
    · rename_i as bs h1 h2
      obtain ⟨l1, c1⟩ := cells_ok hρ h1
      obtain ⟨l2, c2⟩ := cells_ok hρ h2
      refine .one (v := .func (.func f) (xs.map a.eval) (ys.map a.eval)) rfl ?_
      have := R1.fn (P := E.P) (cd := E.cd) (M := M) (Fz := Fz) (w := w) f as bs _ _ c1 c2
      have e : ∀ (l : Array Operand) (n : Nat), n = l.toList.length → ((List.range n).map fun j => (l.toList.map a.eval).getD j undef).toArray = l.map a.eval := by
        intro l n hn
        subst hn
        apply Array.ext'
        apply List.ext_getElem
        · simp
        · intro i h1 h2
          simp at h1 h2
          simp [h1]
      rw [e _ _ l1, e _ _ l2] at this
      exact this
    · exact .fail
  · rename_i t n m ho
    split
    · rename_i x y h1 h2
      exact .val (by unfold execOp; simp only [ho]) (makeSlice_ok ok h (hid (by simp [makes, ho])) t (vOf_ok h1 (hρ n)) (vOf_ok h2 (hρ m)))
    · intro d hp' hd; cases hd
  · rename_i t x lo hi ho
    refine oneK_ok (hρ x) fun y hy => .val (by unfold execOp; simp only [ho]; rfl) (slice_ok ok h t hy (opt_ok hρ lo) (opt_ok hρ hi))
  · rename_i t x f ho
    exact oneK_ok (hρ x) fun y hy => .val (by unfold execOp; simp only [ho]) (fieldAddr_ok h t f hy)
  · rename_i t x f ho
    refine oneK_ok (hρ x) fun y hy => ?_
    obtain ⟨tr, h1, h2⟩ := field_ok ok t f hy
    rw [h1]
    exact .pur h (by unfold execOp; simp only [ho]) h2
  · rename_i t x i ho
    exact two_ok (hρ x) (hρ i) fun x' y' hx hy => .val (by unfold execOp; simp only [ho]) (indexAddr_ok ok h t hx hy)
  · rename_i t x i ho
    refine two_ok (hρ x) (hρ i) fun x' y' hx hy => ?_
    obtain ⟨tr, h1, h2⟩ := index_ok ok t hx hy
    rw [h1]
    exact .pur h (by unfold execOp; simp only [ho]) h2
  · rename_i t x y ho
    refine two_ok (hρ x) (hρ y) fun x' y' hx hy => ?_
    obtain ⟨tr, h1, h2⟩ := look_ok t hx hy rfl
    rw [h1]
    exact .pur h (by unfold execOp; simp only [ho]) h2
  · rename_i x i ho
    have hx := hρ x
    revert hx
    generalize hd : ρ x = d
    intro hx
    split
    · rename_i vs
      split
      · rename_i v hv
        obtain ⟨arr, he, hr⟩ := hx
        rw [nth_eq] at hv
        have hi := (List.getElem?_eq_some_iff.1 hv).1
        have hi' : i < arr.toList.length := by rw [hr.1]; exact hi
        have hav := List.getElem?_eq_getElem hi'
        have hr2 := hr.2 i v _ hv hav
        refine .pur (x := Instr.extract (a.eval x) i) h (by unfold execOp; simp only [ho]) ?_
        intro d' hd'
        simp only [Tree.run, Option.some.injEq] at hd'
        subst hd'
        rw [Array.getElem?_toList] at hav
        refine ⟨_, ?_, hr2⟩
        rw [he]
        simp only [Instr.extract, hav, Sem.run_pure]
      · exact .fail
    · exact .fail
  · rename_i c ho
    split
    · rename_i f hf
      show OpOk E.P E.cd M Fz w hp id a o (match ρ f, valsOf E.P (c.args.toList.map ρ) c.argTypes.toList with
        | .v (.one (.fn g a b)), some vs => callK E g (a.map .one ++ vs ++ b.map .one)
        | _, _ => .pur .fail)
      split
      · rename_i g as bs vs h1 h2
        have hfv := hρ f
        rw [h1] at hfv
        have hvs := valsOf_ok hρ h2
        revert hfv
        generalize hfe : a.eval f = fv
        intro hfv
        cases hfv with
        | fn _ _ _ p q e1 e2 =>
          have hall := ((RVs.of_cells rfl e1).append hvs).append (RVs.of_cells rfl e2)
          refine call_ok E ok env h hall (he := fun fn k1 k2 k3 => ?_)
          unfold execOp
          simp only [ho, resolve, hf, hfe, Deferred.ofValue, Sem.run_bind, Sem.run_pure, Result.andThen, invoke, callFunc, run_program, k1, k2, Bool.false_eq_true, if_false]
          have : fn.body.isNone = false := by cases hb : fn.body <;> simp_all
          simp only [this, Bool.false_eq_true, if_false, Sem.run_pure]
          congr 2
          apply Array.ext'
          simp
      · exact .fail
    · rename_i b hb
      split
      · rename_i vs hvs
        have hv := vals_ok hρ hvs
        have he : ∀ x : Sem Value, (builtin b c.argTypes o.type (c.args.map fun | .const _ => true | _ => false) (c.args.map a.eval)) = (do pure (.value (← x))) → execOp a.eval o = (do pure (.value (← x))) := by
          intro x hx
          unfold execOp
          simp only [ho, resolve, hb, pure_bind, invoke]
          exact hx
        have hargs : c.args.map a.eval = (c.args.toList.map a.eval).toArray := by apply Array.ext'; simp
        have htys : c.argTypes = c.argTypes.toList.toArray := by simp
        revert hv he
        rw [hargs]
        generalize c.args.toList.map a.eval = us
        intro hv he
        split
        · rename_i x t hts
          obtain ⟨u, rfl⟩ : ∃ u, us = [u] := by
            have := hv.1
            match us, this with
            | [u], _ => exact ⟨u, rfl⟩
          have hx := hv.2 0 x u rfl rfl
          refine .val (he _ ?_) (len_ok h t o.type hx)
          rw [htys, hts]
          rfl
        · rename_i x y t t2 hts
          obtain ⟨u, u', rfl⟩ : ∃ u u', us = [u, u'] := by
            have := hv.1
            match us, this with
            | [u, u'], _ => exact ⟨u, u', rfl⟩
          have hx := hv.2 0 x u rfl rfl
          have hy := hv.2 1 y u' rfl rfl
          refine .val (he _ ?_) (append_ok ok h (hid (by simp [makes, ho, hb])) t t2 o.type hx hy)
          rw [htys, hts]
          rfl
        · rename_i x y t t2 hts
          obtain ⟨u, u', rfl⟩ : ∃ u u', us = [u, u'] := by
            have := hv.1
            match us, this with
            | [u, u'], _ => exact ⟨u, u', rfl⟩
          have hx := hv.2 0 x u rfl rfl
          have hy := hv.2 1 y u' rfl rfl
          refine .val (he _ ?_) (copy_ok ok h t t2 o.type hx hy)
          rw [htys, hts]
          rfl
        · rename_i vs0 ts x r
          obtain ⟨u, ur, rfl⟩ : ∃ u ur, us = u :: ur := by
            have := hv.1
            match us, this with
            | u :: ur, _ => exact ⟨u, ur, rfl⟩
          have hx := hv.2 0 x u rfl rfl
          refine .pur h (he _ ?_) (minmax_ok false r x u ur hx ⟨by simpa using hv.1, fun j z v k1 k2 => hv.2 (j + 1) z v (by simpa using k1) (by simpa using k2)⟩)
          rfl
        · rename_i vs0 ts x r
          obtain ⟨u, ur, rfl⟩ : ∃ u ur, us = u :: ur := by
            have := hv.1
            match us, this with
            | u :: ur, _ => exact ⟨u, ur, rfl⟩
          have hx := hv.2 0 x u rfl rfl
          refine .pur h (he _ ?_) (minmax_ok true r x u ur hx ⟨by simpa using hv.1, fun j z v k1 k2 => hv.2 (j + 1) z v (by simpa using k1) (by simpa using k2)⟩)
          rfl
        · clear hargs
          unfold clrK
          split
          · rename_i x t htc _ _ _ _ _
            obtain ⟨u, rfl⟩ : ∃ u, us = [u] := by
              have := hv.1
              match us, this with
              | [u], _ => exact ⟨u, rfl⟩
            have hx := hv.2 0 x u rfl rfl
            refine .val (he _ ?_) (clear_ok ok h t o.type hx)
            rw [htys, htc]
            rfl
          · exact .fail
      · exact .fail
    · exact .fail
  · exact .fail
end
end Go.Ab
