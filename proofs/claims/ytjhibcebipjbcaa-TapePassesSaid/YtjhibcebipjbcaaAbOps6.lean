/- Slices of slices, conversions, lengths, struct values. -/
import Derived.Test.YtjhibcebipjbcaaAbOps5
import Derived.Laws.BytesArg
import Derived.Laws.IdiomStrings
set_option linter.unusedSimpArgs false
namespace Go.Ab
variable {U : Nat → Type}
section
variable {P : Program} {cd : Cd U} {M M' : Mp} {Fz Fz' : Nat → Prop} {w w' : World}

/-! ### lengths -/
theorem len_ok {hp : List (Blk U)} {id : Nat} (h : HR P cd M Fz hp w) (t ty : Nat) {x : V U} {vx : Value} (hx : RV P cd M Fz w x vx) :
    ValOk P cd M Fz w hp id (Builtin.len_ #[t] ty #[vx]) (lenK P t x) := by
  unfold lenK
  split
  · rename_i hu
    split
    · rename_i s
      obtain rfl := R1.str_inv hx
      refine .pur h (.one (v := .int .i64 s.length) ?_ (.int _ _))
      have : (⟨s.toArray⟩ : ByteArray).size = s.length := by simp [ByteArray.size]
      simp [Builtin.len_, run_underlying hu, Result.andThen, goInt, this]
    · exact .fail
  · rename_i n e hu
    refine .pur h (.one (v := .int .i64 n) ?_ (.int _ _))
    simp [Builtin.len_, run_underlying hu, Result.andThen, goInt]
  · rename_i e hu
    have run : ∀ a n c, (Builtin.len_ #[t] ty #[.slice a n c]).run P w = .ok (.int .i64 n) w := by
      intro a n c
      simp [Builtin.len_, run_underlying hu, Result.andThen, goInt]
    split
    · obtain ⟨a, c, rfl, _, _⟩ := R1.sl_form hx
      exact .pur h (.one (run _ _ _) (.int _ _))
    · cases hx
      exact .pur h (.one (run _ _ _) (.int _ _))
    · refine .lod h fun blk hb => ?_
      cases blk with
      | dead => exact .fail
      | cells cs => exact .fail
      | row te v' l =>
        simp only [cond_eq_ite]
        split
        · rename_i hc
          obtain rfl := Nat.eq_of_beq_eq_true hc
          cases hx with
          | own _ _ _ _ pos t' ver len cap _ hm hle hsc hv =>
            obtain ⟨rfl, rfl, rfl, hpos⟩ := h.row_at hb hm
            obtain ⟨hlo, a, c, rfl, hnc, ha⟩ := hv rfl
            exact .one (run _ _ _) (.int _ _)
        · exact .fail
    · refine .lod h fun blk hb => ?_
      cases blk with
      | dead => exact .fail
      | cells cs => exact .fail
      | row te v' l =>
        simp only [cond_eq_ite]
        split
        · rename_i hc
          obtain rfl := Nat.eq_of_beq_eq_true hc
          cases hx with
          | row _ _ pos t' ver len cap _ hm hle hsc hv =>
            obtain ⟨rfl, rfl, rfl, hpos⟩ := h.row_at hb hm
            have hv := hv rfl
            cases pos with
            | none =>
              obtain ⟨a, rfl⟩ := hv
              have hpos : l = [] := hpos
              subst hpos
              exact .one (run _ _ _) (.int _ _)
            | some k =>
              have hv : _ = _ := hv
              subst hv
              exact .one (run _ _ _) (.int _ _)
        · exact .fail
    · exact .fail
  · exact .fail
theorem minmax_ok (mx : Bool) : ∀ (l : List (V U)) (x : V U) (vx : Value) (vs : List Value), RV P cd M Fz w x vx → RVs P cd M Fz w l vs →
    PurOk P cd M Fz w (vs.foldlM (if mx then Builtin.max2 else Builtin.min2) vx) (minmax mx x l)
  | [], x, vx, vs, hx, hl => by
    have : vs = [] := List.length_eq_zero_iff.1 (by simpa using hl.1)
    subst this
    simp only [minmax, List.foldlM_nil]
    exact .leaf rfl hx
  | y :: l, x, vx, vs, hx, hl => by
    match vs, hl with
    | vy :: vs, hl =>
      have hy : RV P cd M Fz w y vy := hl.2 0 y vy rfl rfl
      have hr : RVs P cd M Fz w l vs := ⟨by simpa using hl.1, fun j x v h1 h2 => hl.2 (j + 1) x v (by simpa using h1) (by simpa using h2)⟩
      by_cases hk : ∃ k a k' b, x = .one (.int k a) ∧ y = .one (.int k' b)
      · obtain ⟨k, a, k2, b, rfl, rfl⟩ := hk
        by_cases hkk : k = k2
        · subst hkk
          obtain rfl := R1.int_inv hx
          obtain rfl := R1.int_inv hy
          have ih := minmax_ok mx l (.one (.int k (bif mx then (if b > a then b else a) else (if b < a then b else a)))) _ vs (R1.int _ _) hr
          simp only [minmax, decide_true, cond_true]
          intro d hd
          obtain ⟨v, h1, h2⟩ := ih d hd
          refine ⟨v, ?_, h2⟩
          rw [List.foldlM_cons]
          simp only [Sem.run_bind]
          have : ((if mx then Builtin.max2 else Builtin.min2) (.int k a) (.int k b)).run P w = .ok (.int k (bif mx then (if b > a then b else a) else (if b < a then b else a))) w := by
            cases mx <;> simp [Builtin.max2, Builtin.min2]
          rw [this]
          exact h1
        · have : minmax mx (.one (.int k a)) (.one (.int k2 b) :: l) = .fail := by simp [minmax, hkk]
          rw [this]
          exact .fail
      · have : minmax mx x (y :: l) = .fail := by
          unfold minmax
          split
          · rename_i e; cases e
          · rename_i e; simp only [List.cons.injEq] at e; exact absurd ⟨_, _, _, _, rfl, e.1⟩ hk
          · rfl
        rw [this]
        exact .fail

/-! ### slices of slices -/
def RO (P : Program) (cd : Cd U) (M : Mp) (Fz : Nat → Prop) (w : World) : Option (D U) → Option Value → Prop
  | none, none => True
  | some d, some v => RD P cd M Fz w d v
  | _, _ => False
theorem bound_inv {o : Option (D U)} {v : Option Value} {r : Option Int} (h : bound o = some r) (ho : RO P cd M Fz w o v) : (r = none ∧ v = none) ∨ ∃ k i, r = some i ∧ v = some (.int k i) := by
  unfold bound at h
  split at h
  · cases v with
    | none => simp at h; exact .inl ⟨h.symm, rfl⟩
    | some v => exact ho.elim
  · rename_i k i
    cases v with
    | none => exact ho.elim
    | some v =>
      simp only [Option.some.injEq] at h
      obtain rfl := R1.int_inv ho
      exact .inr ⟨k, i, h.symm, rfl⟩
  · cases h
theorem sliceBound_run (k : IntKind) (i : Int) (y : Nat) (c : BoundsCode) (h0 : 0 ≤ i) (h1 : i ≤ y) : (Instr.sliceBound (.int k i) y c).run P w = .ok i.toNat w := by
  simp [Instr.sliceBound, asIntOf, h0, h1, Result.andThen]
/-- the bounds are run as the tree says -/
theorem cutT_ok {x : Sem Value} {n cap : Nat} {lo hi : Option (D U)} {l h : Option Int} {vlo vhi : Option Value} (hn : n ≤ cap) (isS : Bool) (hl : bound lo = some l) (hh : bound hi = some h)
    (rl : RO P cd M Fz w lo vlo) (rh : RO P cd M Fz w hi vhi) {f : Nat → Nat → Tree (D U)}
    (hf : ∀ a b, a ≤ b → b ≤ n → (Instr.sliceBounds isS n cap vlo vhi none).run P w = .ok (a, b, cap) w → PurOk P cd M Fz w x (f a b)) : PurOk P cd M Fz w x (cutT n l h f) := by
  have hz : ∀ i : Int, i ≤ (n : Int) → i ≤ (cap : Int) := fun i hi => by omega
  unfold cutT
  rcases bound_inv hl rl with ⟨rfl, rfl⟩ | ⟨k1, i1, rfl, rfl⟩
  · rcases bound_inv hh rh with ⟨rfl, rfl⟩ | ⟨k2, i2, rfl, rfl⟩
    · exact hf 0 n (by omega) (by omega) (by simp [Instr.sliceBounds, Result.andThen])
    · refine .ite (fun h0 => .ite (fun h1 => ?_) fun _ => .fail) fun _ => .fail
      have h0 := of_decide_eq_true h0
      have h1 := of_decide_eq_true h1
      refine hf 0 i2.toNat (by omega) (by omega) ?_
      simp only [Instr.sliceBounds, Sem.run_bind, Sem.run_pure, Result.andThen, sliceBound_run k2 i2 cap _ h0 (hz _ h1)]
  · rcases bound_inv hh rh with ⟨rfl, rfl⟩ | ⟨k2, i2, rfl, rfl⟩
    · refine .ite (fun h0 => .ite (fun h1 => ?_) fun _ => .fail) fun _ => .fail
      have h0 := of_decide_eq_true h0
      have h1 := of_decide_eq_true h1
      refine hf i1.toNat n (by omega) (by omega) ?_
      simp only [Instr.sliceBounds, Sem.run_bind, Sem.run_pure, Result.andThen, sliceBound_run k1 i1 n _ h0 h1]
    · refine .ite (fun h0 => .ite (fun h1 => .ite (fun h2 => .ite (fun h3 => ?_) fun _ => .fail) fun _ => .fail) fun _ => .fail) fun _ => .fail
      have h0 := of_decide_eq_true h0
      have h1 := of_decide_eq_true h1
      have h2 := of_decide_eq_true h2
      have h3 := of_decide_eq_true h3
      refine hf i1.toNat i2.toNat (by omega) (by omega) ?_
      simp only [Instr.sliceBounds, Sem.run_bind, Sem.run_pure, Result.andThen, sliceBound_run k2 i2 cap _ h0 (hz _ h1), sliceBound_run k1 i1 i2.toNat _ h2 (by omega)]
theorem slice_run {t e : Nat} {td : TypeDesc} (hu : P.underlying t = some (.slice e)) (he : P.underlying e = some td) {ad : Option Addr} {n cap a b : Nat} {vlo vhi : Option Value}
    (h : (Instr.sliceBounds true n cap vlo vhi none).run P w = .ok (a, b, cap) w) :
    (Instr.sliceAt t (.slice ad n cap) vlo vhi none).run P w = .ok (.slice (if cap = a then ad else ad.map (·.add (a * P.cellsOf e))) (b - a) (cap - a)) w := by
  simp only [Instr.sliceAt, Sem.run_bind, run_underlying hu, Result.andThen, Instr.slice, h, run_size he, Sem.run_pure]
theorem slice_ok (ok : CdOk P cd) {hp : List (Blk U)} {id : Nat} (h : HR P cd M Fz hp w) (t : Nat) {x : V U} {vx : Value} (hx : RV P cd M Fz w x vx) {lo hi : Option (D U)} {vlo vhi : Option Value}
    (rl : RO P cd M Fz w lo vlo) (rh : RO P cd M Fz w hi vhi) : ValOk P cd M Fz w hp id (Instr.sliceAt t vx vlo vhi none) (sliceK P t x lo hi) := by
  unfold sliceK
  split
  · rename_i l hh hl1 hl2
    split
    · rename_i s
      obtain rfl := R1.str_inv hx
      refine .pur h ?_
      split
      · rename_i hu
        refine cutT_ok (cap := s.length) (Nat.le_refl _) false hl1 hl2 rl rh fun a b hab hbn hr => ?_
        refine .one (v := .string ⟨((s.drop a).take (b - a)).toArray⟩) ?_ (.str _)
        have hz : (⟨s.toArray⟩ : ByteArray).size = s.length := by simp [ByteArray.size]
        simp only [Instr.sliceAt, Sem.run_bind, run_underlying hu, Result.andThen, Instr.slice, Option.isSome_none, Bool.false_eq_true, if_false, Sem.run_pure, hz, hr]
        congr 2
        apply ByteArray.ext
        simp [ByteArray.data_extract, List.extract_eq_take_drop]
      · exact .fail
    · rename_i te s full
      refine .pur h ?_
      rw [cond_eq_ite]
      split
      · rename_i hs
        obtain ⟨hu, td, htd⟩ := slOf_ok hs
        cases hx with
        | sl _ _ _ ad cap g h1 h0 h2 h3 =>
          refine cutT_ok h0 true hl1 hl2 rl rh fun a b hab hbn hr => ?_
          have hlen : ((s.drop a).take (b - a)).length = b - a := by simp; omega
          refine .one (slice_run hu htd hr) ?_
          have hrow : ∀ (j : Nat) c, (((s.drop a).take (b - a)).flatMap (cd.enc te))[j]? = some c → (s.flatMap (cd.enc te))[a * P.cellsOf te + j]? = some c := by
            intro j c hj
            rw [flat_chunk ok, List.getElem?_take] at hj
            split at hj
            · rwa [List.getElem?_drop] at hj
            · cases hj
          have := R1.sl (P := P) (cd := cd) (M := M) (Fz := Fz) (w := w) te ((s.drop a).take (b - a)) false (if cap = a then ad else ad.map (·.add (a * P.cellsOf te))) (cap - a) (fun j => g (a * P.cellsOf te + j))
            (fun e => by cases e) (by rw [hlen]; omega) ?_ (fun j c hj => h3 _ c (hrow j c hj))
          · rw [hlen] at this
            exact this
          · intro hne
            have hlt : a < b := by
              rcases Nat.lt_or_ge a b with hh | hh
              · exact hh
              · exact absurd (List.length_eq_zero_iff.1 (by rw [hlen]; omega)) hne
            obtain ⟨k, o, rfl, hk, hc⟩ := h2 (by intro e; subst e; simp at hbn; omega)
            refine ⟨k, o + a * P.cellsOf te, ?_, hk, fun j c hj => ?_⟩
            · rw [if_neg (by omega)]
              simp [add0]
            · rw [Nat.add_assoc]
              exact hc _ c (hrow j c hj)
      · exact .fail
    · rename_i b v
      refine .lod h fun blk hb => ?_
      cases blk with
      | dead => exact .fail
      | cells cs => exact .fail
      | row te v' s =>
        simp only [cond_eq_ite]
        split
        · rename_i hc
          simp only [Bool.and_eq_true] at hc
          obtain ⟨hu, td, htd⟩ := slOf_ok hc.1
          obtain rfl := Nat.eq_of_beq_eq_true hc.2
          cases hx with
          | row _ _ pos t' ver len cap _ hm hle hsc hv =>
            obtain ⟨rfl, rfl, rfl, hpos⟩ := h.row_at hb hm
            have hv := hv rfl
            cases pos with
            | none =>
              obtain ⟨ad, rfl⟩ := hv
              have hpos : s = [] := hpos
              subst hpos
              refine cutT_ok (cap := 0) (Nat.le_refl _) true hl1 hl2 rl rh fun a c hac hcn hr => ?_
              refine .one (slice_run hu htd hr) ?_
              have : c = 0 := by simpa using hcn
              subst this
              exact .own b _ a _ _ _ _ _ cap _ hm (Nat.le_refl _) rfl fun _ => ⟨by omega, _, _, rfl, by omega, fun hz => by omega⟩
            | some k =>
              have hv : _ = _ := hv
              subst hv
              obtain ⟨cur, r⟩ := hpos
              refine cutT_ok r.le true hl1 hl2 rl rh fun a c hac hcn hr => ?_
              refine .one (slice_run hu htd hr) ?_
              refine .own b _ a _ _ _ _ _ cap _ hm (Nat.le_refl _) rfl fun _ => ⟨by omega, _, _, rfl, by have := r.le; omega, fun hz => ⟨k, rfl, ?_⟩⟩
              have := r.le
              rw [if_neg (by omega)]
              simp [add0]
        · exact .fail
    · rename_i b v o n
      refine .lod h fun blk hb => ?_
      cases blk with
      | dead => exact .fail
      | cells cs => exact .fail
      | row te v' s =>
        simp only [cond_eq_ite]
        split
        · rename_i hc
          simp only [Bool.and_eq_true] at hc
          obtain ⟨hu, td, htd⟩ := slOf_ok hc.1
          obtain rfl := Nat.eq_of_beq_eq_true hc.2
          cases hx with
          | own _ _ _ _ pos t' ver len cap _ hm hle hsc hv =>
            obtain ⟨rfl, rfl, rfl, hpos⟩ := h.row_at hb hm
            obtain ⟨hlo, ad, cc, rfl, hnc, ha⟩ := hv rfl
            refine cutT_ok hnc true hl1 hl2 rl rh fun a c hac hcn hr => ?_
            refine .one (slice_run hu htd hr) ?_
            refine .own b _ (o + a) _ _ _ _ _ cap _ hm (Nat.le_refl _) rfl fun _ => ⟨by omega, _, _, rfl, by omega, fun hz => ?_⟩
            obtain ⟨k, hk, rfl⟩ := ha (by omega)
            refine ⟨k, hk, ?_⟩
            rw [if_neg (by omega)]
            simp [add0, Nat.add_mul]
        · exact .fail
    · exact .fail
  · exact .fail
end
end Go.Ab
