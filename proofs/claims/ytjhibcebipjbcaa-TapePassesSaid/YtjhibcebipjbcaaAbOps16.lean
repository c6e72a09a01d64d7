/- Regions in any order. -/
import Derived.Test.YtjhibcebipjbcaaAbOps15
set_option linter.unusedSimpArgs false
namespace Go.Ab
variable {U : Nat → Type}
section
variable {E : Env U}

theorem putA_comm {α : Type} {i j : Nat} (hne : i ≠ j) (y z : α) : ∀ l : List (Nat × α), putA (putA l i y) j z = putA (putA l j z) i y
  | [] => by
    simp only [putA, cond_eq_ite]
    have h1 : Nat.beq i j = false := by rw [Bool.eq_false_iff]; exact fun e => hne (Nat.eq_of_beq_eq_true e)
    have h2 : Nat.beq j i = false := by rw [Bool.eq_false_iff]; exact fun e => hne (Nat.eq_of_beq_eq_true e).symm
    simp only [h1, h2, Bool.false_eq_true, if_false]
    by_cases h : j < i
    · have h3 : Nat.blt j i = true := by simpa using h
      have h4 : ¬ Nat.blt i j = true := by simp; omega
      rw [if_pos h3, if_neg h4]
    · have h3 : ¬ Nat.blt j i = true := by simp; omega
      have h4 : Nat.blt i j = true := by simp; omega
      rw [if_neg h3, if_pos h4]
  | (k, x) :: l => by
    have ih := putA_comm hne y z l
    have e : ∀ a b : Nat, (Nat.beq a b = true) = (a = b) := fun a b => propext ⟨Nat.eq_of_beq_eq_true, fun h => by simp [h]⟩
    have b : ∀ a b : Nat, (Nat.blt a b = true) = (a < b) := fun a b => propext (by simp)
    simp only [putA, cond_eq_ite, e, b]
    rcases Nat.lt_trichotomy i k with h1 | h1 | h1 <;> rcases Nat.lt_trichotomy j k with h2 | h2 | h2 <;> rcases Nat.lt_or_gt_of_ne hne with h3 | h3 <;>
      first
        | omega
        | (simp [putA, cond_eq_ite, e, b, h1, h2, h3, ih, Nat.ne_of_lt, Nat.ne_of_gt, Nat.lt_asymm, Nat.not_lt_of_lt]; try omega)

theorem putD_comm (σ : St U) {d d' : Option Nat} (h : ∀ t, d = some t → d' ≠ some t) (x y : D U) : putD (putD σ d x) d' y = putD (putD σ d' y) d x := by
  cases d with
  | none => rfl
  | some t =>
    cases d' with
    | none => rfl
    | some t' =>
      have : t ≠ t' := fun e => h t rfl (by rw [e])
      simp only [putD]
      congr 1
      exact putA_comm this x y σ.tm

/-- What an operation does, by what it looks at. -/
inductive Ac (U : Nat → Type)
  | no
  | put (d : D U)
  | mem (k : K U)
def acS (E : Env U) (r : Rg) (i : Nat) (o : Oper) (tm : List (Nat × D U)) : Ac U := match o.op with
  | .pick c a b => match ev tm c with
    | .v (.one (.kb x)) => .put (typD E.P o.type (ev tm (bif x then a else b)))
    | .v (.one (.bool x)) => .put (typD E.P o.type (ev tm (bif x then a else b)))
    | _ => .no
  | _ => bif !r.draw || fitsB E r i o (opK E (ev tm) o) then .mem (opK E (ev tm) o) else .no
def acO (E : Env U) (r : Rg) (i : Nat) (o : Oper) (tm : List (Nat × D U)) : Ac U := match o.guard with
  | none => acS E r i o tm
  | some (j, want) => match (r.ops[j]?).bind (·.dst) with
    | none => .put (.v (.one .skp))
    | some t => match getA tm t with
      | some (.v (.one (.kb b))) => bif b == want then acS E r i o tm else .put (.v (.one .skp))
      | some (.v (.one (.bool b))) => bif b == want then acS E r i o tm else .put (.v (.one .skp))
      | some (.v (.one .skp)) => .put (.v (.one .skp))
      | _ => .no
def doA (P : Program) (fp : Fp) (id : Nat) (o : Oper) (σ : St U) : Ac U → Option (St U)
  | .no => none
  | .put d => some (putD σ o.dst d)
  | .mem k => bif (!makes o || isDead σ.hp id) && wOk P fp (ev σ.tm) σ.hp o k then (k.sem σ.hp id).map fun p => { putD σ o.dst p.1 with hp := p.2 } else none
theorem doS_ac (r : Rg) (i id : Nat) (o : Oper) (σ : St U) : doS E r i id o σ = doA E.P (r.fps i) id o σ (acS E r i o σ.tm) := by
  unfold doS acS
  split
  · rename_i c a b ho
    simp only [ho]
    split
    · rename_i hh; simp only [hh, doA]
    · rename_i hh; simp only [hh, doA]
    · rename_i h1 h2
      split
      · rename_i hh; exact absurd hh (h1 _)
      · rename_i hh; exact absurd hh (h2 _)
      · rfl
  · rename_i hno
    split
    · rename_i ho; exact absurd ho (hno _ _ _)
    · simp only [cond_eq_ite, Bool.and_eq_true]
      split
      · rename_i h
        rw [if_pos h.1.1]
        simp only [doA, cond_eq_ite, Bool.and_eq_true]
        rw [if_pos ⟨h.1.2, h.2⟩]
      · rename_i h
        split
        · rename_i h1
          simp only [doA, cond_eq_ite, Bool.and_eq_true]
          rw [if_neg (fun h2 => h ⟨⟨h1, h2.1⟩, h2.2⟩)]
        · rfl
theorem stepO_ac (r : Rg) (i id : Nat) (o : Oper) (σ : St U) : stepO E r i id o σ = doA E.P (r.fps i) id o σ (acO E r i o σ.tm) := by
  unfold stepO acO
  cases hg : o.guard with
  | none => exact doS_ac r i id o σ
  | some p =>
    obtain ⟨j, want⟩ := p
    simp only []
    cases hj : (r.ops[j]?).bind (·.dst) with
    | none => rfl
    | some t =>
      simp only []
      generalize getA σ.tm t = q
      rcases q with _ | d
      · rfl
      · rcases d with x | l
        · rcases x with c | l
          · cases c <;> first | rfl | skip
            all_goals
              rename_i bb
              simp only []
              cases h : (bb == want)
              · rfl
              · exact doS_ac r i id o σ
          · rfl
        · rfl
theorem ev_put {tm : List (Nat × D U)} {d : Nat} {v : D U} {x : Operand} (h : x ≠ .tmp d) : ev (putA tm d v) x = ev tm x := by
  cases x with
  | tmp t =>
    have : d ≠ t := fun e => h (by rw [e])
    simp only [ev, getA_put_other _ _ _ _ this]
  | _ => rfl
theorem opK_congr {ρ ρ' : Operand → D U} (o : Oper) (h : ∀ x ∈ o.op.operands, ρ x = ρ' x) : opK E ρ o = opK E ρ' o := by
  obtain ⟨dst, op, type, pos, after, guard⟩ := o
  have pairs : ∀ ps : Array (Nat × Operand), (∀ x ∈ ps.map (·.2), ρ x = ρ' x) → (ps.toList.map fun p => (p.1, ρ p.2)) = ps.toList.map fun p => (p.1, ρ' p.2) := fun ps hp =>
    List.map_congr_left fun p hm => by simp only [hp p.2 (Array.mem_map.2 ⟨p, by simpa using hm, rfl⟩)]
  cases op <;> simp only [Op.operands] at h <;> simp only [opK]
  case build t ps => rw [pairs ps fun x hx => h x (by simpa using hx)]
  case buildSlice t n ps => rw [pairs ps fun x hx => h x (by simpa using hx)]
  case makeFunc fn first captured =>
    have h1 : (first.toList.map fun x => opK.cellOf (ρ x)) = first.toList.map fun x => opK.cellOf (ρ' x) := List.map_congr_left fun x hx => by rw [h x (by simp at hx; simp [hx])]
    have h2 : (captured.toList.map fun x => opK.cellOf (ρ x)) = captured.toList.map fun x => opK.cellOf (ρ' x) := List.map_congr_left fun x hx => by rw [h x (by simp at hx; simp [hx])]
    cases fn <;> first | rfl | simp only [h1, h2]
  case call c =>
    have h1 : c.args.toList.map ρ = c.args.toList.map ρ' := List.map_congr_left fun x hx => h x (by simp at hx; simp [Call.operands, hx])
    have h2 : (c.args.toList.map fun x => vOf (ρ x)) = c.args.toList.map fun x => vOf (ρ' x) := List.map_congr_left fun x hx => by rw [h x (by simp at hx; simp [Call.operands, hx])]
    rw [h1, h2]
    cases hc : c.callee with
    | value f => have hf : ρ f = ρ' f := h f (by simp [Call.operands, hc]); simp only [hf]
    | invoke r m => rfl
    | builtin b => rfl
  case slice t x lo hi mx => cases lo <;> cases hi <;> cases mx <;> simp_all
  case lookup t x y b => cases b <;> simp_all
  all_goals (first | rfl | (simp_all; done))
theorem acO_put {o : Oper} {r : Rg} {i : Nat} {tm : List (Nat × D U)} {d : Nat} {v : D U} (h : d ∉ o.looksAt r.ops) : acO E r i o (putA tm d v) = acO E r i o tm := by
  have hev : ∀ x ∈ o.op.operands, ev (putA tm d v) x = ev tm x := fun x hx => ev_put fun e => h (List.mem_append_left _ (List.mem_filterMap.2 ⟨x, by simpa using hx, by rw [e]⟩))
  have hS : acS E r i o (putA tm d v) = acS E r i o tm := by
    have hk := opK_congr (E := E) o hev
    unfold acS
    split
    · rename_i c a b ho
      have h1 := hev c (by simp [Op.operands, ho])
      have h2 := hev a (by simp [Op.operands, ho])
      have h3 := hev b (by simp [Op.operands, ho])
      have h4 : ∀ x : Bool, ev (putA tm d v) (bif x then a else b) = ev tm (bif x then a else b) := fun x => by cases x <;> assumption
      simp only [h1, h4]
    · rw [hk]
  unfold acO
  cases hg : o.guard with
  | none => exact hS
  | some p =>
    obtain ⟨j, want⟩ := p
    simp only []
    cases hj : (r.ops[j]?).bind (·.dst) with
    | none => rfl
    | some t =>
      simp only []
      have hne : d ≠ t := by
        rintro rfl
        exact h (List.mem_append_right _ (by simp [hg, hj]))
      rw [getA_put_other _ _ _ _ hne, hS]
theorem acO_putD {o : Oper} {r : Rg} {i : Nat} {σ : St U} {d : Option Nat} {v : D U} (h : ∀ t, d = some t → t ∉ o.looksAt r.ops) (hp : List (Blk U)) : acO E r i o ({ putD σ d v with hp := hp } : St U).tm = acO E r i o σ.tm := by
  cases d with
  | none => rfl
  | some t => exact acO_put (h t rfl)
theorem acO_fits {r : Rg} (hdraw : r.draw = true) {i : Nat} {o : Oper} {tm : List (Nat × D U)} {k : K U} (h : acO E r i o tm = .mem k) : fitsB E r i o k = true := by
  have hS : acS E r i o tm = .mem k → fitsB E r i o k = true := by
    intro h
    unfold acS at h
    split at h
    · split at h <;> cases h
    · rw [cond_eq_ite] at h
      split at h
      · rename_i hf
        injection h with h
        subst h
        simpa [hdraw] using hf
      · cases h
  unfold acO at h
  split at h
  · exact hS h
  · split at h
    · cases h
    · split at h
      · rw [cond_eq_ite] at h
        split at h
        · exact hS h
        · cases h
      · rw [cond_eq_ite] at h
        split at h
        · exact hS h
        · cases h
      · cases h
      · cases h
theorem maker_get : ∀ (l : List Oper) (i n : Nat) (o : Oper), l[n]? = some o → makes o = true → maker l (countM (l.take n)) i = some (i + n)
  | [], _, _, _, h, _ => by simp at h
  | o :: l, i, 0, o', h, hm => by
    simp at h
    subst h
    simp [maker, hm, countM]
  | o :: l, i, n + 1, o', h, hm => by
    have ih := maker_get l (i + 1) n o' (by simpa using h) hm
    rw [List.take_succ_cons]
    simp only [maker, countM, cond_eq_ite]
    split
    · rw [if_neg (by simp), Nat.add_sub_cancel, ih]
      congr 1
      omega
    · rw [ih]
      congr 1
      omega
theorem makes_grade {o : Oper} (h : makes o = true) : grade E o ≠ 0 := by
  obtain ⟨dst, op, type, pos, after, guard⟩ := o
  cases op <;> simp [makes] at h <;> simp [grade]
  rename_i c
  cases hc : c.callee with
  | builtin b => cases b <;> simp [hc] at h ⊢
  | _ => simp [hc] at h

/-- Two operations that neither waits for the other. -/
structure Ind (E : Env U) (r : Rg) (y x : Tg) : Prop where
  lt : y.i < x.i
  apart : Oper.apart r.ops y.o x.o = true
  gr : grade E y.o = 0 ∨ grade E x.o = 0 ∨ (grade E y.o = 1 ∧ grade E x.o = 1) ∨ (fpDisj (r.fps y.i) (r.fps x.i) = true ∧ makes y.o = false ∧ makes x.o = false)
  ndep : depB r.deps x.i y.i = false
  yo : r.ops.toList[y.i]? = some y.o
  xo : r.ops.toList[x.i]? = some x.o
  yid : y.id = r.base + countM (r.ops.toList.take y.i)
  xid : x.id = r.base + countM (r.ops.toList.take x.i)
theorem countM_lt (l : List Oper) : ∀ (n m : Nat) (o : Oper), n < m → l[n]? = some o → makes o = true → countM (l.take n) < countM (l.take m) := by
  induction l with
  | nil => intro n m o _ h; simp at h
  | cons o l ih =>
    intro n m o' hlt h hm
    obtain ⟨m, rfl⟩ : ∃ k, m = k + 1 := ⟨m - 1, by omega⟩
    cases n with
    | zero =>
      have h : o = o' := by simpa using h
      rw [h, List.take_succ_cons, List.take_zero]
      simp only [countM, cond_eq_ite, hm, if_true]
      omega
    | succ n =>
      have := ih n m o' (by omega) (by simpa using h) hm
      rw [List.take_succ_cons, List.take_succ_cons]
      simp only [countM, cond_eq_ite]
      split <;> omega
theorem Ind.ids {r : Rg} {y x : Tg} (h : Ind E r y x) (hm : makes y.o = true) : y.id < x.id := by
  have := countM_lt r.ops.toList y.i x.i y.o h.lt h.yo hm
  rw [h.yid, h.xid]
  omega
/-- what is read is not what the other one makes -/
theorem Ind.lod1 {r : Rg} {y x : Tg} (h : Ind E r y x) {b : Nat} {f : Blk U → Tree (D U)} (hf : fitsB E r x.i x.o (.lod b f) = true) (hm : makes y.o = true) : b ≠ y.id := by
  rintro rfl
  simp only [fitsB, Bool.and_eq_true, Bool.or_eq_true] at hf
  have hid := h.yid
  rcases hf.1.2 with hb | hb
  · have : y.id < r.base := of_decide_eq_true (by simpa using hb)
    omega
  · rw [show y.id - r.base = countM (r.ops.toList.take y.i) by omega, maker_get _ _ _ _ h.yo hm, Nat.zero_add] at hb
    simp only [Bool.and_eq_true] at hb
    rw [h.ndep] at hb
    cases hb.1
theorem Ind.lod2 {r : Rg} {y x : Tg} (h : Ind E r y x) {b : Nat} {f : Blk U → Tree (D U)} (hf : fitsB E r y.i y.o (.lod b f) = true) (hm : makes x.o = true) : b ≠ x.id := by
  rintro rfl
  simp only [fitsB, Bool.and_eq_true, Bool.or_eq_true] at hf
  have hid := h.xid
  rcases hf.1.2 with hb | hb
  · have : x.id < r.base := of_decide_eq_true (by simpa using hb)
    omega
  · rw [show x.id - r.base = countM (r.ops.toList.take x.i) by omega, maker_get _ _ _ _ h.xo hm, Nat.zero_add] at hb
    simp only [Bool.and_eq_true] at hb
    have : x.i < y.i := of_decide_eq_true (by simpa using hb.2)
    have := h.lt
    omega
theorem isDead_set {hp : List (Blk U)} {b b' : Nat} {x : Blk U} (h : b ≠ b') : isDead (setN hp b x) b' = isDead hp b' := by
  unfold isDead
  rw [nth_eq, nth_eq, setN_eq, List.getElem?_set_ne h]
theorem sem_hp {k : K U} {hp hp' : List (Blk U)} {id : Nat} {d : D U} (h : k.sem hp id = some (d, hp')) : (∃ t, k = .pur t ∧ hp' = hp ∧ t.run = some d) ∨ (∃ t mk blk, k = .alo t mk ∧ hp' = setN hp id blk ∧ t.run = some blk ∧ d = .v (.one (mk id))) ∨
    (∃ b f, k = .lod b f ∧ hp' = hp) ∨ (∃ f, k = .wri f) := by
  cases k with
  | pur t =>
    obtain ⟨d', h1, h2⟩ := Option.map_eq_some_iff.1 h
    simp only [Prod.mk.injEq] at h2
    obtain ⟨rfl, rfl⟩ := h2
    exact .inl ⟨t, rfl, rfl, h1⟩
  | alo t mk =>
    obtain ⟨blk, h1, h2⟩ := Option.map_eq_some_iff.1 h
    simp only [Prod.mk.injEq] at h2
    obtain ⟨rfl, rfl⟩ := h2
    exact .inr (.inl ⟨t, mk, blk, rfl, rfl, h1, rfl⟩)
  | lod b f =>
    refine .inr (.inr (.inl ⟨b, f, rfl, ?_⟩))
    simp only [K.sem] at h
    split at h
    · cases h
    · obtain ⟨d', h1, h2⟩ := Option.map_eq_some_iff.1 h
      simp only [Prod.mk.injEq] at h2
      exact h2.2.symm
    · cases h
  | wri f => exact .inr (.inr (.inr ⟨f, rfl⟩))
theorem disjN_ok : ∀ {l m : List Nat}, disjN l m = true → ∀ x, x ∈ l → x ∉ m
  | [], _, _, x, hx => by simp at hx
  | y :: l, m, h, x, hx => by
    simp only [disjN, cond_eq_ite] at h
    split at h
    · cases h
    · rename_i hn
      rcases List.mem_cons.1 hx with rfl | hx
      · exact fun hm => hn (memN_ok.2 hm)
      · exact disjN_ok h x hx
theorem subN_ok : ∀ {l m : List Nat}, subN l m = true → ∀ x, x ∈ l → x ∈ m
  | [], _, _, x, hx => by simp at hx
  | y :: l, m, h, x, hx => by
    simp only [subN, cond_eq_ite] at h
    split at h
    · rename_i hn
      rcases List.mem_cons.1 hx with rfl | hx
      · exact memN_ok.1 hn
      · exact subN_ok h x hx
    · cases h
theorem setN_get {α : Type} (l : List α) {b b' : Nat} (x : α) (h : b ≠ b') : (setN l b x)[b']? = l[b']? := by rw [setN_eq, List.getElem?_set_ne h]
def tchV : V U → Option Nat
  | .one (.ptr b _) => some b
  | .one (.elp b _ _ _) => some b
  | .one (.ap b _ _ _ _) => some b
  | _ => none
theorem storeF_frame {P : Program} {cd : Cd U} {t : Nat} {a x : V U} {hp hp' : List (Blk U)} {d : D U} (h : (storeF P cd t a x hp).run = some (d, hp')) {b0 : Nat} (ha : tchV a = some b0) {b : Nat} (hne : b0 ≠ b) : hp'[b]? = hp[b]? := by
  have fin : ∀ (c : Nat) (y : Blk U), c = b0 → some ((D.v (.one .skp) : D U), setN hp c y) = some (d, hp') → hp'[b]? = hp[b]? := by
    intro c y hc e
    simp only [Option.some.injEq, Prod.mk.injEq] at e
    rw [← e.2, setN_get _ _ (by rw [hc]; exact hne)]
  unfold storeF at h
  simp only [cond_eq_ite] at h
  split at h
  · split at h
    · injection ha with ha
      split at h
      · split at h
        · exact fin _ _ ha h
        · cases h
      · cases h
    · injection ha with ha
      split at h
      · split at h
        · obtain ⟨y, _, h⟩ := Option.bind_eq_some_iff.1 h
          dsimp only at h
          split at h
          · exact fin _ _ ha h
          · cases h
        · cases h
      · cases h
    · injection ha with ha
      split at h
      · split at h
        · split at h
          · split at h
            · split at h
              · split at h
                · split at h
                  · simp only [Tree.run] at h
                    split at h
                    · split at h
                      · exact fin _ _ ha h
                      · cases h
                    · cases h
                  · cases h
                · cases h
              · cases h
            · obtain ⟨y, _, h⟩ := Option.bind_eq_some_iff.1 h
              dsimp only at h
              split at h
              · split at h
                · exact fin _ _ ha h
                · cases h
              · cases h
          · cases h
        · cases h
      · cases h
    · cases h
  · cases h
theorem callT_frame {hp hp' : List (Blk U)} {order : List Nat} {spec : List (V U) → List (Blk U) → Option (FnOut U)} {args : List (V U)} {d : D U} (h : (callT hp order spec args).run = some (d, hp')) {b : Nat} (hb : b ∉ order) (hlt : b < hp.length) : hp'[b]? = hp[b]? := by
  unfold callT at h
  rw [cond_eq_ite] at h
  split at h
  · rename_i hc
    simp only [Bool.and_eq_true] at hc
    split at h
    · obtain ⟨y, _, h⟩ := Option.bind_eq_some_iff.1 h
      rw [Tree.run_bind] at h
      obtain ⟨p, _, h⟩ := Option.bind_eq_some_iff.1 h
      split at h
      · rename_i hp2 hpb
        have h : some (resD (p.1.map (renV (back hp order))), hp2) = some (d, hp') := h
        simp only [Option.some.injEq, Prod.mk.injEq] at h
        rw [← h.2]
        exact (putBack_ok hp order (nodupB_ok hc.1) hpb).2.2.1 b hlt hb
      · cases h
    · cases h
  · cases h
theorem tch_ok {E : Env U} {ρ : Operand → D U} {o : Oper} {f : List (Blk U) → Nat → Tree (D U × List (Blk U))} {hp hp' : List (Blk U)} {id : Nat} {d : D U} {L : List Nat} (hk : opK E ρ o = .wri f) (ht : tch E.P ρ hp o = some L) (h : (f hp id).run = some (d, hp')) {b : Nat} (hb : b ∉ L) (hlt : b < hp.length) : hp'[b]? = hp[b]? := by
  unfold tch at ht
  split at ht
  · rename_i t a x ho
    simp only [opK, ho, two] at hk
    split at hk
    · rename_i p v hp1 hv1
      injection hk with hk
      subst hk
      have key : ∀ b0, tchV p = some b0 → L = [b0] → hp'[b]? = hp[b]? := fun b0 h1 h2 => storeF_frame h h1 (fun e => hb (by rw [h2, e]; simp))
      split at ht
      · rename_i e
        rw [e] at hp1
        injection hp1 with hp1
        injection ht with ht
        exact key _ (by rw [← hp1]; rfl) ht.symm
      · rename_i e
        rw [e] at hp1
        injection hp1 with hp1
        injection ht with ht
        exact key _ (by rw [← hp1]; rfl) ht.symm
      · rename_i e
        rw [e] at hp1
        injection hp1 with hp1
        injection ht with ht
        exact key _ (by rw [← hp1]; rfl) ht.symm
      · cases ht
    · cases hk
  · rename_i c ho
    split at ht
    · rename_i g hc
      split at ht
      · rename_i n a c' vs h1 h2
        injection ht with ht
        simp only [opK, ho, hc, h1, h2, callK] at hk
        split at hk
        · split at hk <;> cases hk
        · injection hk with hk
          subst hk
          exact callT_frame h (by rw [ht]; exact hb) hlt
        · cases hk
      · cases ht
    · cases ht
  · cases ht
theorem tch_congr {P : Program} {ρ ρ' : Operand → D U} (hp : List (Blk U)) (o : Oper) (h : ∀ x ∈ o.op.operands, ρ x = ρ' x) : tch P ρ hp o = tch P ρ' hp o := by
  obtain ⟨dst, op, type, pos, after, guard⟩ := o
  unfold tch
  cases op with
  | store t a x =>
    have := h a (by simp [Op.operands])
    simp only [this]
  | call c =>
    simp only []
    cases hc : c.callee with
    | value f =>
      have hf : ρ f = ρ' f := h f (by simp [Op.operands, Call.operands, hc])
      have ha : c.args.toList.map ρ = c.args.toList.map ρ' := List.map_congr_left fun x hx => h x (by simp at hx; simp [Op.operands, Call.operands, hx])
      simp only [hf, ha]
    | _ => rfl
  | _ => rfl
theorem wOk_congr {P : Program} {fp : Fp} {ρ ρ' : Operand → D U} (hp : List (Blk U)) (o : Oper) (k : K U) (h : ∀ x ∈ o.op.operands, ρ x = ρ' x) : wOk P fp ρ hp o k = wOk P fp ρ' hp o k := by
  unfold wOk
  cases k <;> simp only [tch_congr hp o h]
/-- the heap counts for an operation that changes it alone -/
theorem wOk_hp {P : Program} {fp : Fp} {ρ : Operand → D U} {hp hp' : List (Blk U)} {o : Oper} {k : K U} (h : ∀ f, k = .wri f → hp = hp') : wOk P fp ρ hp o k = wOk P fp ρ hp' o k := by
  cases k with
  | wri f => rw [h f rfl]
  | _ => rfl
theorem ev_putD {o : Oper} {r : Rg} {σ : St U} {d : Option Nat} {v : D U} (h : ∀ t, d = some t → t ∉ o.looksAt r.ops) (hp : List (Blk U)) : ∀ x ∈ o.op.operands, ev ({ putD σ d v with hp := hp } : St U).tm x = ev σ.tm x := by
  intro x hx
  cases d with
  | none => rfl
  | some t => exact ev_put fun e => h t rfl (List.mem_append_left _ (List.mem_filterMap.2 ⟨x, by simpa using hx, by rw [e]⟩))
theorem sem_lod {b b' : Nat} {f : Blk U → Tree (D U)} {hp : List (Blk U)} {id : Nat} {x : Blk U} (h : b ≠ b') : ((K.lod b f).sem (setN hp b' x) id).map (·.1) = ((K.lod b f).sem hp id).map (·.1) := by
  simp only [K.sem]
  rw [nth_eq, nth_eq, setN_eq, List.getElem?_set_ne (Ne.symm h)]
  split <;> first | rfl | skip
  simp only [Option.map_map]
  rfl
theorem acO_mem {r : Rg} {i : Nat} {o : Oper} {tm : List (Nat × D U)} {k : K U} (h : acO E r i o tm = .mem k) : opK E (ev tm) o = k := by
  have hS : acS E r i o tm = .mem k → opK E (ev tm) o = k := by
    intro h
    unfold acS at h
    split at h
    · split at h <;> cases h
    · rw [cond_eq_ite] at h
      split at h
      · injection h
      · cases h
  unfold acO at h
  split at h
  · exact hS h
  · split at h
    · cases h
    · split at h
      · rw [cond_eq_ite] at h
        split at h
        · exact hS h
        · cases h
      · rw [cond_eq_ite] at h
        split at h
        · exact hS h
        · cases h
      · cases h
      · cases h
end
end Go.Ab
