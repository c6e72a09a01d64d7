/- '==' of structs and arrays. -/
import Derived.Test.YtjhibcebipjbcaaAbOps2
set_option linter.unusedSimpArgs false
namespace Go.Ab
variable {U : Nat → Type}
section
variable {P : Program} {cd : Cd U} {M M' : Mp} {Fz Fz' : Nat → Prop} {w w' : World}

theorem leaves_one {c : C U} (h : ∀ t n l, c ≠ .arr t n l) : leaves cd [c] = [c] := by cases c <;> first | rfl | exact absurd rfl (h _ _ _)
theorem RL.bool_inv {c : C U} {b : Bool} {vs : List Value} (h : RL P cd M Fz w [c] vs) (hb : asB c = some b) : vs = [.bool b] := by
  have hn : ∀ t n l, c ≠ .arr t n l := by intro t n l e; subst e; simp [asB] at hb
  obtain ⟨v, rfl, hv⟩ := h.single hn
  rw [hv.asB_inv hb]
theorem RL.int_inv {k : IntKind} {n : Int} {vs : List Value} (h : RL P cd M Fz w [.int k n] vs) : vs = [.int k n] := by
  obtain ⟨v, rfl, hv⟩ := h.single (by intro _ _ _ e; cases e)
  rw [hv.int_inv]
theorem RL.str_inv {s : List UInt8} {vs : List Value} (h : RL P cd M Fz w [.str s] vs) : vs = [.string ⟨s.toArray⟩] := by
  obtain ⟨v, rfl, hv⟩ := h.single (by intro _ _ _ e; cases e)
  rw [hv.str_inv]
theorem arr1 {vs : Array Value} {v : Value} (h : vs.toList = [v]) : vs = #[v] := by
  cases vs; simp at h; subst h; rfl

/-- the field's or element's value that 'part' gives -/
def partV (P : Program) (t o : Nat) (vs : Array Value) : Value := if isAggB P t then .agg (vs.extract o (o + P.cellsOf t)) else vs.getD o undef
theorem part_run {t o : Nat} {d : TypeDesc} {vs : Array Value} (h : P.underlying t = some d) (ho : isAggB P t = false → o < vs.size) : (part t vs o).run P w = .ok (partV P t o vs) w := by
  unfold partV
  by_cases ha : isAggB P t = true
  · simp only [part, Sem.run_bind, run_agg h, Result.andThen, ha, if_true, run_size h]
    rfl
  · have ha' : isAggB P t = false := by simpa using ha
    have := ho ha'
    simp only [part, Sem.run_bind, run_agg h, Result.andThen, ha']
    simp [this]
def EqAt (P : Program) (w : World) (d t : Nat) (vs us : Array Value) (b : Bool) : Prop :=
  (isAggB P t = true → (Op.equalIn d t (.agg vs) (.agg us)).run P w = .ok b w) ∧ (isAggB P t = false → ∃ v u, vs = #[v] ∧ us = #[u] ∧ (Op.equalIn d t v u).run P w = .ok b w)
/-- what 'part' gives is equal as its cells are -/
theorem EqAt.part {d t o : Nat} {td : TypeDesc} {vs us : Array Value} {b : Bool} (ht : P.underlying t = some td) (h : EqAt P w d t (vs.extract o (o + P.cellsOf t)) (us.extract o (o + P.cellsOf t)) b)
    (hv : o + P.cellsOf t ≤ vs.size) (hu : o + P.cellsOf t ≤ us.size) :
    (part t vs o).run P w = .ok (partV P t o vs) w ∧ (part t us o).run P w = .ok (partV P t o us) w ∧ (Op.equalIn d t (partV P t o vs) (partV P t o us)).run P w = .ok b w := by
  by_cases ha : isAggB P t = true
  · refine ⟨part_run ht (fun e => by rw [ha] at e; cases e), part_run ht (fun e => by rw [ha] at e; cases e), ?_⟩
    simp only [partV, ha, if_true]
    exact h.1 ha
  · have ha' : isAggB P t = false := by simpa using ha
    obtain ⟨v, u, e1, e2, he⟩ := h.2 ha'
    have s1 : (vs.extract o (o + P.cellsOf t)).size = 1 := by rw [e1]; rfl
    have s2 : P.cellsOf t = 1 := by simp at s1; omega
    have g1 : vs[o]? = some v := by
      have : (vs.extract o (o + P.cellsOf t))[0]? = some v := by rw [e1]; rfl
      rw [Array.getElem?_extract] at this
      split at this
      · simpa using this
      · cases this
    have g2 : us[o]? = some u := by
      have : (us.extract o (o + P.cellsOf t))[0]? = some u := by rw [e2]; rfl
      rw [Array.getElem?_extract] at this
      split at this
      · simpa using this
      · cases this
    refine ⟨part_run ht (fun _ => by omega), part_run ht (fun _ => by omega), ?_⟩
    simp only [partV, ha', Bool.false_eq_true, if_false, Array.getD_eq_getD_getElem?, g1, g2, Option.getD_some]
    exact he

theorem extract_toList (vs : Array Value) (o n : Nat) : (vs.extract o (o + n)).toList = (vs.toList.drop o).take n := by
  simp [Array.toList_extract, List.extract_eq_take_drop]

theorem fields_ok (ok : CdOk P cd) {d : Nat} {g : Nat → List (C U) → List (C U) → Option Bool}
    (hg : ∀ t xs ys b (vs us : Array Value), g t xs ys = some b → RL P cd M Fz w xs vs.toList → RL P cd M Fz w ys us.toList → (∃ td, P.underlying t = some td) ∧ EqAt P w d t vs us b) {xs ys : List (C U)} {vs us : Array Value}
    (hx : RL P cd M Fz w xs vs.toList) (hy : RL P cd M Fz w ys us.toList) : ∀ (fs : List Field) (b : Bool), eqT.fields P g fs xs ys = some b → (Op.eqFields d vs us fs).run P w = .ok b w
  | [], b, h => by
    simp only [eqT.fields, Option.some.injEq] at h
    subst h
    simp [Op.eqFields]
  | [f], b, h => by
    simp only [eqT.fields, cond_eq_ite] at h
    split at h
    · cases h
    · rename_i hn
      have hn' : f.name ≠ "_" := by simpa using hn
      split at h
      · rename_i a c ha hc
        have r1 := hx.cut ok ha
        have r2 := hy.cut ok hc
        rw [← extract_toList] at r1 r2
        obtain ⟨⟨td, htd⟩, he⟩ := hg _ _ _ _ _ _ h r1.1 r2.1
        obtain ⟨k1, k2, k3⟩ := he.part htd (by simpa using r1.2) (by simpa using r2.2)
        simp only [Op.eqFields, if_pos hn', Sem.run_bind, k1, k2, k3, Result.andThen_ok]
        cases b <;> simp
      · cases h
  | f :: f2 :: fs, b, h => by
    simp only [eqT.fields, cond_eq_ite] at h
    split at h
    · cases h
    · rename_i hn
      have hn' : f.name ≠ "_" := by simpa using hn
      split at h
      · rename_i a c ha hc
        split at h
        · rename_i x y h1 h2
          injection h with h
          have r1 := hx.cut ok ha
          have r2 := hy.cut ok hc
          rw [← extract_toList] at r1 r2
          obtain ⟨⟨td, htd⟩, he⟩ := hg _ _ _ _ _ _ h1 r1.1 r2.1
          obtain ⟨k1, k2, k3⟩ := he.part htd (by simpa using r1.2) (by simpa using r2.2)
          have ih := fields_ok ok hg hx hy (f2 :: fs) y h2
          rw [Op.eqFields]
          simp only [if_pos hn', Sem.run_bind, k1, k2, k3, Result.andThen_ok]
          subst h
          cases x
          · simp
          · simpa using ih
        · cases h
      · cases h

theorem underlying_of_agg {t : Nat} (h : isAggB P t = true) : ∃ td, P.underlying t = some td := by
  unfold isAggB at h
  split at h
  · rename_i e; exact ⟨_, e⟩
  · rename_i e; exact ⟨_, e⟩
  · cases h

/-- without arrays -/
theorem eqT_flat (ok : CdOk P cd) : ∀ (f d t : Nat) (xs ys : List (C U)) (b : Bool) (vs us : Array Value), f ≤ d → eqT P cd false f t xs ys = some b → RL P cd M Fz w xs vs.toList → RL P cd M Fz w ys us.toList →
    (∃ td, P.underlying t = some td) ∧ EqAt P w d t vs us b
  | 0, _, _, _, _, _, _, _, _, h, _, _ => by simp [eqT] at h
  | f + 1, d, t, xs, ys, b, vs, us, hd, h, hx, hy => by
    obtain ⟨d, rfl⟩ : ∃ e, d = e + 1 := ⟨d - 1, by omega⟩
    simp only [eqT] at h
    split at h
    · rename_i hu
      have hna : isAggB P t = false := by simp [isAggB, hu]
      refine ⟨⟨_, hu⟩, And.intro (fun e => by rw [hna] at e; cases e) (fun _ => ?_)⟩
      split at h
      · split at h
        · rename_i a c x y ha hc
          injection h with h
          exact ⟨.bool x, .bool y, arr1 (hx.bool_inv ha), arr1 (hy.bool_inv hc), by rw [run_equalIn_bool' w d t x y hu, h]⟩
        · cases h
      · cases h
    · rename_i k hu
      have hna : isAggB P t = false := by simp [isAggB, hu]
      refine ⟨⟨_, hu⟩, And.intro (fun e => by rw [hna] at e; cases e) (fun _ => ?_)⟩
      split at h
      · rename_i k1 a k2 c
        rw [cond_eq_ite] at h
        split at h
        · rename_i hk
          have hk : k1 = k2 := by simpa using hk
          subst hk
          injection h with h
          refine ⟨.int k1 a, .int k1 c, arr1 hx.int_inv, arr1 hy.int_inv, ?_⟩
          rw [run_equalIn_int w d t k1 k a c hu, ← h]
          congr 1
        · cases h
      · cases h
    · rename_i hu
      have hna : isAggB P t = false := by simp [isAggB, hu]
      refine ⟨⟨_, hu⟩, And.intro (fun e => by rw [hna] at e; cases e) (fun _ => ?_)⟩
      split at h
      · injection h with h
        refine ⟨_, _, arr1 hx.str_inv, arr1 hy.str_inv, ?_⟩
        rw [run_equalIn_string w d t _ _ hu, bytes_eq, h]
      · cases h
    · rename_i fs hu
      have hag : isAggB P t = true := by simp [isAggB, hu]
      refine ⟨⟨_, hu⟩, And.intro (fun _ => ?_) (fun e => by rw [hag] at e; cases e)⟩
      rw [cond_eq_ite] at h
      split at h
      · cases h
      · rename_i hs
        have hf : P.fieldsOf t = fs := by simp [Program.fieldsOf, hu]
        rw [run_equalIn_struct w d t vs us (by rw [hf]; exact hu) (by simpa using hs), hf]
        exact fields_ok ok (fun t xs ys b vs us h1 h2 h3 => eqT_flat ok f d t xs ys b vs us (by omega) h1 h2 h3) hx hy _ _ h
    · exfalso
      split at h
      · split at h
        · split at h
          · simp at h
          · cases h
        · cases h
      · cases h
    · cases h

/-! ### arrays -/
def eqElems (d e sz : Nat) (xs ys : Array Value) : List Nat → Sem Bool
  | [] => pure true
  | i :: l => do
    let a ← part e xs (i * sz)
    let b ← part e ys (i * sz)
    let r ← Op.equalIn d e a b
    if (!r) = true then pure false else eqElems d e sz xs ys l
theorem run_equalIn_array (d t n e : Nat) (td : TypeDesc) (xs ys : Array Value) (ht : P.underlying t = some (.array n e)) (he : P.underlying e = some td) :
    (Op.equalIn (d + 1) t (.agg xs) (.agg ys)).run P w = (eqElems d e (P.cellsOf e) xs ys (List.range n)).run P w := by
  simp only [Op.equalIn, Sem.run_bind, run_underlying ht, Result.andThen_ok, run_size he]
  rw [Std.Legacy.Range.forIn_eq_forIn_range']
  simp only [Std.Legacy.Range.size, Nat.sub_zero, Nat.add_sub_cancel, Nat.div_one]
  rw [← List.range_eq_range']
  generalize List.range n = l
  clear ht he
  induction l generalizing w with
  | nil => simp [eqElems]
  | cons i l ih =>
    simp only [List.forIn_cons, eqElems, Sem.run_bind]
    generalize (part e xs (i * P.cellsOf e)).run P w = r1
    cases r1 with
    | ok a w1 =>
      simp only [Result.andThen_ok]
      generalize (part e ys (i * P.cellsOf e)).run P w1 = r2
      cases r2 with
      | ok b w2 =>
        simp only [Result.andThen_ok]
        generalize (Op.equalIn d e a b).run P w2 = r3
        cases r3 with
        | ok r w3 =>
          cases r
          · simp only [Result.andThen_ok, Bool.not_false, if_true, Sem.run_pure]
          · simp only [Result.andThen_ok, Bool.not_true, Bool.false_eq_true, if_false, Sem.run_pure]
            exact ih
        | halt x w3 => simp [Result.andThen]
      | halt x w2 => simp [Result.andThen]
    | halt x w1 => simp [Result.andThen]
theorem elems_ok {d e sz : Nat} {xs ys : Array Value} (f : Nat → Bool) : ∀ (l : List Nat), (∀ i ∈ l, ∃ a b, (part e xs (i * sz)).run P w = .ok a w ∧ (part e ys (i * sz)).run P w = .ok b w ∧ (Op.equalIn d e a b).run P w = .ok (f i) w) →
    (eqElems d e sz xs ys l).run P w = .ok (l.all f) w
  | [], _ => by simp [eqElems]
  | i :: l, h => by
    obtain ⟨a, b, h1, h2, h3⟩ := h i (by simp)
    have ih := elems_ok f l fun j hj => h j (by simp [hj])
    simp only [eqElems, Sem.run_bind, h1, h2, h3, Result.andThen_ok]
    cases hf : f i
    · simp [hf]
    · simpa [hf] using ih

theorem chunks_eq {α : Type} (m : Nat) : ∀ (n : Nat) (a b : List α), a.length = n * m → b.length = n * m → ((∀ i, i < n → (a.drop (i * m)).take m = (b.drop (i * m)).take m) ↔ a = b)
  | 0, a, b, ha, hb => by
    have : a = [] := List.length_eq_zero_iff.1 (by simpa using ha)
    have : b = [] := List.length_eq_zero_iff.1 (by simpa using hb)
    simp_all
  | n + 1, a, b, ha, hb => by
    constructor
    · intro h
      rw [Nat.add_mul, Nat.one_mul] at ha hb
      have h0 := h 0 (by omega)
      simp only [Nat.zero_mul, List.drop_zero] at h0
      have ih := (chunks_eq m n (a.drop m) (b.drop m) (by simp; omega) (by simp; omega)).1 (fun i hi => by
        have := h (i + 1) (by omega)
        rw [Nat.add_mul, Nat.one_mul, Nat.add_comm] at this
        simpa [List.drop_drop] using this)
      rw [← List.take_append_drop m a, ← List.take_append_drop m b, h0, ih]
    · rintro rfl _ _
      rfl
theorem flat_drop (ok : CdOk P cd) (te : Nat) : ∀ (l : List (U te)) (k : Nat), (l.drop k).flatMap (cd.enc te) = (l.flatMap (cd.enc te)).drop (k * P.cellsOf te)
  | [], k => by simp
  | x :: l, 0 => by simp
  | x :: l, k + 1 => by
    rw [List.drop_succ_cons, flat_drop ok te l k, List.flatMap_cons, List.drop_append, ok.len, Nat.add_mul, Nat.one_mul, Nat.add_sub_cancel]
    rw [(List.drop_of_length_le (by rw [ok.len]; omega) : List.drop (k * P.cellsOf te + P.cellsOf te) (cd.enc te x) = [])]
    rfl
theorem flat_take (ok : CdOk P cd) (te : Nat) : ∀ (l : List (U te)) (k : Nat), (l.take k).flatMap (cd.enc te) = (l.flatMap (cd.enc te)).take (k * P.cellsOf te)
  | [], k => by simp
  | x :: l, 0 => by simp
  | x :: l, k + 1 => by
    rw [List.take_succ_cons, List.flatMap_cons, flat_take ok te l k, List.flatMap_cons, List.take_append, ok.len, Nat.add_mul, Nat.one_mul, Nat.add_sub_cancel]
    rw [(List.take_of_length_le (by rw [ok.len]; omega) : List.take (k * P.cellsOf te + P.cellsOf te) (cd.enc te x) = cd.enc te x)]
theorem flat_chunk (ok : CdOk P cd) (te : Nat) (a : List (U te)) (i m : Nat) :
    ((a.drop i).take m).flatMap (cd.enc te) = ((a.flatMap (cd.enc te)).drop (i * P.cellsOf te)).take (m * P.cellsOf te) := by
  rw [flat_take ok, flat_drop ok]
theorem leaves_arr (te m : Nat) (a : List (U te)) : leaves cd [C.arr te m a] = a.flatMap (cd.enc te) := by simp [leaves, leaf]
theorem RL.chunk (ok : CdOk P cd) {te m n : Nat} {a : List (U te)} {vs : Array Value} (h : RL P cd M Fz w [.arr te n a] vs.toList) (i : Nat) (hi : i * m + m ≤ n) :
    RL P cd M Fz w [.arr te m ((a.drop (i * m)).take m)] (vs.extract (i * m * P.cellsOf te) (i * m * P.cellsOf te + m * P.cellsOf te)).toList := by
  have hl : a.length = n := h.1 te n a (by simp)
  refine h.of_leaves (i * m * P.cellsOf te) (m * P.cellsOf te) ?_ ?_ ?_
  · intro t k l hm
    simp at hm
    obtain ⟨rfl, rfl, hm⟩ := hm
    have := eq_of_heq hm
    subst this
    simp
    omega
  · rw [leaves_arr, leaves_arr, flat_chunk ok]
  · rw [extract_toList]

theorem leaf_cells : ∀ (k t : Nat), arrOk P k t = true → P.cellsOf t = (leafOf P k t).2 * P.cellsOf (leafOf P k t).1
  | 0, t, _ => by simp [leafOf]
  | k + 1, t, h => by
    simp only [arrOk] at h
    simp only [leafOf]
    split at h
    · rename_i n e hu
      rw [cond_eq_ite] at h
      split at h
      · rename_i h1
        simp only [Bool.and_eq_true] at h1
        simp only [Nat.eq_of_beq_eq_true h1.2, leaf_cells k e h, Nat.mul_assoc]
      · cases h
    · simp
theorem arrs_ok (ok : CdOk P cd) {te : Nat} {dq : DecidableEq (U te)} (hdq : cd.deq te = some dq) : ∀ (k d t m : Nat) (a b : List (U te)) (vs us : Array Value), leafOf P k t = (te, m) → 4 + k ≤ d → arrOk P k t = true →
    RL P cd M Fz w [.arr te m a] vs.toList → RL P cd M Fz w [.arr te m b] us.toList → EqAt P w d t vs us (@decide (a = b) (@instDecidableEqList _ dq a b)) := by
  have base : ∀ (d : Nat) (a b : List (U te)) (vs us : Array Value), 4 ≤ d → RL P cd M Fz w [.arr te 1 a] vs.toList → RL P cd M Fz w [.arr te 1 b] us.toList → EqAt P w d te vs us (@decide (a = b) (@instDecidableEqList _ dq a b)) := by
    intro d a b vs us hd ha hb
    have la : a.length = 1 := ha.1 te 1 a (by simp)
    have lb : b.length = 1 := hb.1 te 1 b (by simp)
    match a, la, b, lb with
    | [x], _, [y], _ =>
      have enc : ∀ (z : U te) (zs : Array Value), RL P cd M Fz w [.arr te 1 [z]] zs.toList → RL P cd M Fz w (cd.enc te z) zs.toList := by
        intro z zs hz
        have hl : leaves cd (cd.enc te z) = cd.enc te z := by
          have hp := ok.plain te z
          revert hp
          generalize cd.enc te z = q
          intro hp
          induction q with
          | nil => rfl
          | cons c q ih =>
            rw [leaves_cons, ih fun c' hc' => hp c' (by simp [hc'])]
            have := hp c (by simp)
            cases c <;> simp [plainC] at this <;> rfl
        refine ⟨fun t n l hm => ?_, ?_, ?_⟩
        · have := ok.plain te z _ hm; simp [plainC] at this
        · have := hz.2.1; rw [leaves_arr] at this; simpa [hl] using this
        · intro j c v h1 h2
          rw [hl] at h1
          exact hz.2.2 j c v (by rw [leaves_arr]; simpa using h1) h2
      have := (eqT_flat ok 4 d te _ _ _ vs us hd (ok.eq te dq x y hdq) (enc x vs ha) (enc y us hb)).2
      have e : (@decide (x = y) (dq x y)) = (@decide ([x] = [y]) (@instDecidableEqList _ dq [x] [y])) := by
        rw [Bool.eq_iff_iff]; simp
      rw [← e]
      exact this
  intro k
  induction k with
  | zero =>
    intro d t m a b vs us h hd _ ha hb
    simp only [leafOf, Prod.mk.injEq] at h
    obtain ⟨rfl, rfl⟩ := h
    exact base d a b vs us (by omega) ha hb
  | succ k ih =>
    intro d t m a b vs us h hd hk ha hb
    simp only [leafOf] at h
    split at h
    · rename_i n e hu
      simp only [Prod.mk.injEq] at h
      obtain ⟨he, rfl⟩ := h
      obtain ⟨d, rfl⟩ : ∃ d', d = d' + 1 := ⟨d - 1, by omega⟩
      have hag : isAggB P t = true := by simp [isAggB, hu]
      simp only [arrOk, hu, cond_eq_ite] at hk
      split at hk
      · rename_i hk1
        simp only [Bool.and_eq_true] at hk1
        obtain ⟨td, htd⟩ := Option.isSome_iff_exists.1 hk1.1
        have hce := leaf_cells k e hk
        rw [he] at hce
        refine And.intro (fun _ => ?_) (fun x => by rw [hag] at x; cases x)
        rw [run_equalIn_array d t n e td vs us hu htd]
        generalize hr : (leafOf P k e).2 = r at *
        have la : a.length = n * r := ha.1 te _ a (by simp)
        have lb : b.length = n * r := hb.1 te _ b (by simp)
        have sa : vs.size = n * P.cellsOf e := by
          have := ha.2.1
          rw [leaves_arr, flat_len ok, la, Nat.mul_assoc, ← hce] at this
          simpa using this
        have sb : us.size = n * P.cellsOf e := by
          have := hb.2.1
          rw [leaves_arr, flat_len ok, lb, Nat.mul_assoc, ← hce] at this
          simpa using this
        rw [elems_ok (fun i => @decide ((a.drop (i * r)).take r = (b.drop (i * r)).take r) (@instDecidableEqList _ dq _ _))]
        · congr 1
          rw [Bool.eq_iff_iff]
          simp only [List.all_eq_true, List.mem_range, decide_eq_true_eq]
          exact chunks_eq r n a b la lb
        · intro i hi
          rw [List.mem_range] at hi
          have hir : i * r + r ≤ n * r := by rw [← Nat.succ_mul]; exact Nat.mul_le_mul_right r hi
          have hio : i * P.cellsOf e + P.cellsOf e ≤ n * P.cellsOf e := by rw [← Nat.succ_mul]; exact Nat.mul_le_mul_right _ hi
          have ca := ha.chunk ok i hir
          have cb := hb.chunk ok i hir
          rw [Nat.mul_assoc i r, ← hce] at ca cb
          have h1 := ih d e r _ _ _ _ (by rw [← he, ← hr]) (by omega) hk ca cb
          obtain ⟨p1, p2, p3⟩ := h1.part htd (by omega) (by omega)
          exact ⟨_, _, p1, p2, p3⟩
      · cases hk
    · simp only [Prod.mk.injEq] at h
      obtain ⟨rfl, rfl⟩ := h
      exact base d a b vs us (by omega) ha hb


theorem eqT_ok (ok : CdOk P cd) : ∀ (f d t : Nat) (xs ys : List (C U)) (b : Bool) (vs us : Array Value), f + 13 ≤ d → eqT P cd true f t xs ys = some b → RL P cd M Fz w xs vs.toList → RL P cd M Fz w ys us.toList →
    (∃ td, P.underlying t = some td) ∧ EqAt P w d t vs us b
  | 0, _, _, _, _, _, _, _, _, h, _, _ => by simp [eqT] at h
  | f + 1, d, t, xs, ys, b, vs, us, hd, h, hx, hy => by
    cases hu : P.underlying t with
    | none => simp [eqT, hu] at h
    | some td =>
      by_cases ha : ∃ n e, td = .array n e
      · obtain ⟨n, e, rfl⟩ := ha
        refine ⟨⟨_, rfl⟩, ?_⟩
        simp only [eqT, hu] at h
        split at h
        · rename_i te m a te' m' b'
          split at h
          · rename_i hte
            subst hte
            split at h
            · rename_i dq hdq
              rw [cond_eq_ite] at h
              split at h
              · rename_i hc
                simp only [Bool.and_eq_true, Bool.true_and] at hc
                obtain ⟨⟨⟨c0, c1⟩, c2⟩, c3⟩ := hc
                have c1 := Nat.eq_of_beq_eq_true c1
                have c2 := Nat.eq_of_beq_eq_true c2
                have c3 := Nat.eq_of_beq_eq_true c3
                injection h with h
                subst h
                subst c3
                exact arrs_ok ok hdq 10 d t m' a b' vs us (by simp only [leafOf, hu, Prod.mk.injEq]; exact ⟨c1.symm, c2.symm⟩) (by omega) c0 hx hy
              · cases h
            · cases h
          · cases h
        · cases h
      · by_cases hs : ∃ fs, td = .struct fs
        · obtain ⟨fs, rfl⟩ := hs
          obtain ⟨d, rfl⟩ : ∃ e, d = e + 1 := ⟨d - 1, by omega⟩
          have hag : isAggB P t = true := by simp [isAggB, hu]
          refine ⟨⟨_, rfl⟩, And.intro (fun _ => ?_) (fun e => by rw [hag] at e; cases e)⟩
          simp only [eqT, hu, cond_eq_ite] at h
          split at h
          · cases h
          · rename_i hs
            have hf : P.fieldsOf t = fs := by simp [Program.fieldsOf, hu]
            rw [run_equalIn_struct w d t vs us (by rw [hf]; exact hu) (by simpa using hs), hf]
            exact fields_ok ok (fun t xs ys b vs us h1 h2 h3 => eqT_ok ok f d t xs ys b vs us (by omega) h1 h2 h3) hx hy _ _ h
        · have h' : eqT P cd false (f + 1) t xs ys = some b := by
            cases td <;> first
              | exact absurd ⟨_, rfl⟩ hs
              | exact absurd ⟨_, _, rfl⟩ ha
              | (simp only [eqT, hu] at h ⊢; first | exact h | cases h)
          have := eqT_flat ok (f + 1) d t xs ys b vs us (by omega) h' hx hy
          exact ⟨⟨_, rfl⟩, this.2⟩

theorem eqT_scal {deep : Bool} {f t : Nat} {a c : C U} {b : Bool} (h : eqT P cd deep f t [a] [c] = some b) (hag : isAggB P t = false) : (∃ x, asB a = some x) ∨ (∃ k n, a = .int k n) ∨ ∃ s, a = .str s := by
  cases f with
  | zero => simp [eqT] at h
  | succ f =>
    cases hu : P.underlying t with
    | none => simp [eqT, hu] at h
    | some td =>
      cases td <;> simp only [eqT, hu] at h <;> first | (cases h; done) | (simp [isAggB, hu] at hag; done) | skip
      · cases ha : asB a with
        | none => simp [ha] at h
        | some x => exact .inl ⟨x, rfl⟩
      · cases a <;> first | (cases h; done) | exact .inr (.inl ⟨_, _, rfl⟩)
      · cases a <;> first | (cases h; done) | exact .inr (.inr ⟨_, rfl⟩)
theorem eqV_ok (ok : CdOk P cd) {t : Nat} {x y : V U} {vx vy : Value} {b : Bool} (h : eqV P cd t x y = some b) (hx : RV P cd M Fz w x vx) (hy : RV P cd M Fz w y vy) (op : BinOp) (ox oy : Operand) :
    (eqGuard op t ox oy vx vy).run P w = .ok () w ∧ (Op.equal t vx vy).run P w = .ok b w := by
  unfold eqV at h
  rw [cond_eq_ite] at h
  split at h
  · cases h
  · rename_i hg
    have hg : P.eqGuardType P.depth t = false := by simpa using hg
    rw [cond_eq_ite] at h
    split at h
    · rename_i hag
      split at h
      · rename_i a c
        obtain ⟨va, rfl, ra⟩ := hx
        obtain ⟨vc, rfl, rc⟩ := hy
        exact ⟨run_eqGuard_agg w op t ox oy va vc hg, (eqT_ok ok 8 10000 t a c b va vc (by omega) h ra rc).2.1 hag⟩
      · cases h
    · rename_i hag
      split at h
      · rename_i a c
        have ra : RL P cd M Fz w [a] (#[vx] : Array Value).toList := RL.of1 hx
        have rc : RL P cd M Fz w [c] (#[vy] : Array Value).toList := RL.of1 hy
        obtain ⟨v, u, e1, e2, he⟩ := (eqT_ok ok 8 10000 t [a] [c] b #[vx] #[vy] (by omega) h ra rc).2.2 (by simpa using hag)
        simp at e1 e2
        subst e1; subst e2
        refine ⟨?_, he⟩
        rcases eqT_scal h (by simpa using hag) with ⟨x, hx'⟩ | ⟨k, n, rfl⟩ | ⟨s, rfl⟩
        · have := R1.asB_inv hx hx'
          subst this
          exact guard_plain op t ox oy _ _ rfl (by simp)
        · have := R1.int_inv hx
          subst this
          exact guard_plain op t ox oy _ _ rfl (by simp)
        · have := R1.str_inv hx
          subst this
          exact guard_plain op t ox oy _ _ rfl (by simp)
      · cases h
end
end Go.Ab
