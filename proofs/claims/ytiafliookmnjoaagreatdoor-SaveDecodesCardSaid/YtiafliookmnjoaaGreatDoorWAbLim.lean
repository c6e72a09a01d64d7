/- Rules for loops as limits of their rounds. -/
import Derived.Test.YtiafliookmnjoaaGreatDoorWAbMore
import Derived.ChangeShapes
import Derived.Carry
import Derived.ShutString
section
set_option linter.unusedSimpArgs false
namespace Go.Ab
variable {U : Nat → Type} {α β : Type}
abbrev M0 : Mp := fun _ => none
abbrev FW (W : World) : Nat → Prop := fun k => k < W.heap.size
def Reads (P : Program) (cd : Cd U) (t : Nat) (c : Cdc U α) (G : α → Prop) : Prop :=
  ∀ (H : Type) (enc : TypeId × Value → H) (W : World) (fuel : Nat) (cs : List Value) (d : DataW H) (ps : List MemPlace), DataW.trod enc P W 0 (fun _ => true) true fuel t cs = some (d, ps) → ∃ x, G x ∧ RL P cd M0 (FW W) W (c.enc x) cs
section
variable {P : Program} {cd : Cd U}
theorem rd_str {t : Nat} (ht : P.underlying t = some .string) : Reads P cd t cStr fun s => s.length ≤ maxLen := by
  intro H enc W fuel cs d ps h
  cases fuel with
  | zero => cases h
  | succ fuel =>
    match cs with
    | [] => simp [DataW.trod, ht] at h
    | v :: w :: r => cases v <;> simp [DataW.trod, ht] at h
    | [v] =>
      cases v <;> simp [DataW.trod, ht] at h
      rename_i s
      refine ⟨s.data.toList, by simpa using h.1, ?_⟩
      have := R1.str (P := P) (cd := cd) (M := M0) (Fz := FW W) (w := W) s.data.toList
      exact .of1 (by simpa using this)
end
end Go.Ab
end
section
set_option linter.unusedSimpArgs false
namespace Go.Ab
open Go.ChangeShapes Go.RowKit
variable {U : Nat → Type} {α β : Type}
section
variable {P : Program} {cd : Cd U}
def oneTy (P : Program) (t : Nat) : Bool := match P.underlying t with
  | some .bool => true
  | some (.int _) => true
  | some .string => true
  | some (.slice _) => true
  | _ => false
theorem one_cell {W : World} {base t : Nat} {v : Value} (ht : oneTy P t = true) (h : Value.okWide P W .any base t v) : v.cells = #[v] := by
  unfold oneTy at ht
  unfold Value.okWide Cell.okWide Cell.ok at h
  split at ht
  · rename_i hu; rw [hu] at h; cases v <;> first | rfl | (simp at h; done)
  · rename_i k hu; rw [hu] at h; cases v <;> first | rfl | (simp at h; done)
  · rename_i hu; rw [hu] at h; cases v <;> first | rfl | (simp at h; done)
  · rename_i e hu; rw [hu] at h; cases v <;> first | rfl | (simp at h; done)
  · cases ht
def ArgsRd (P : Program) (cd : Cd U) (ts : List Nat) (A : Arg U α) (G : α → Prop) : Prop :=
  ∀ (H : Type) (enc : TypeId × Value → H) (W : World) (base : Nat) (vs : List Value) (ds : List (DataW H)) (ps : List MemPlace), DataW.TrodAll enc P W 0 (fun _ => true) true ts vs ds ps → (∀ (j : Nat) t v, ts[j]? = some t → vs[j]? = some v → Value.okWide P W .any base t v) →
    ∃ x, G x ∧ RVs P cd M0 (FW W) W (A.enc x) vs
theorem ar_nil : ArgsRd P cd [] aNil fun _ => True := by
  intro H enc W base vs ds ps h _
  match vs, ds, h with
  | [], [], _ => exact ⟨(), trivial, rfl, fun j x v h => by simp [aNil] at h⟩
theorem ar_push {W : World} {x : V U} {xs : List (V U)} {v : Value} {vs : List Value} (h : RV P cd M0 (FW W) W x v) (k : RVs P cd M0 (FW W) W xs vs) : RVs P cd M0 (FW W) W (x :: xs) (v :: vs) := by
  refine ⟨by simp [k.1], fun j y u e1 e2 => ?_⟩
  cases j with
  | zero => simp at e1 e2; subst e1; subst e2; exact h
  | succ j => exact k.2 j y u (by simpa using e1) (by simpa using e2)
theorem ar_one {t : Nat} {ts : List Nat} {c : Cdc U α} {A : Arg U β} {G : α → Prop} {K : β → Prop} (ht : oneTy P t = true) (hc : ∀ x, ∃ y, c.enc x = [y] ∧ ∀ a b l, y ≠ .arr a b l) (h1 : Reads P cd t c G) (h2 : ArgsRd P cd ts A K) : ArgsRd P cd (t :: ts) (aO c A) fun x => G x.1 ∧ K x.2 := by
  intro H enc W base vs ds ps h hval
  match vs, ds, h with
  | v :: vs, d :: ds, h =>
    obtain ⟨p, q, ⟨fuel, hf⟩, hr, _⟩ := h
    have hv := one_cell ht (hval 0 t v rfl rfl)
    obtain ⟨x, g1, r1⟩ := h1 H enc W fuel _ d p hf
    obtain ⟨y, g2, r2⟩ := h2 H enc W base vs ds q hr fun j t' v' e1 e2 => hval (j + 1) t' v' (by simpa using e1) (by simpa using e2)
    refine ⟨(x, y), ⟨g1, g2⟩, ar_push ?_ r2⟩
    obtain ⟨z, hz, hza⟩ := hc x
    rw [hv, hz] at r1
    obtain ⟨u, hu, hr⟩ := r1.single hza
    have hu : [v] = [u] := hu
    injection hu with hu
    subst hu
    simp only [vO, hz]
    exact hr
theorem cell_lt {W : World} {g j : Nat} {y : Value} (h : W.cell? (at0 g j) = some y) : g < W.heap.size := by
  rcases Nat.lt_or_ge g W.heap.size with h1 | h1
  · exact h1
  · unfold World.cell? at h
    rw [show W.heap[(at0 g j).block]? = none from Array.getElem?_eq_none h1] at h
    cases h
theorem hr0 (W : World) (hgl : ∀ g j y, (cd.gl g)[j]? = some y → W.cell? (at0 g j) = some y) : HR P cd M0 (FW W) [] W :=
  ⟨(fun b x h => by simp at h), (fun _ _ => rfl), (fun b b' i i' k h => by cases h), (fun b i k h => by cases h), ⟨fun k hk => hk, fun g j y e => ⟨cell_lt (hgl g j y e), hgl g j y e⟩⟩, (fun b i k h => by cases h)⟩
theorem below_of {W W' : World} {d : D U} {hp : List (Blk U)} {v : Value} (h : Post P cd M0 (FW W) W d hp v W') : Below W.heap.size W W' := by
  obtain ⟨M', F', _, _, _, h4, h5, _, _⟩ := h
  exact ⟨h5.os, h5.tape, h5.output, h5.size, fun k hk => (h4 k hk).2⟩
theorem bool_of {W W' : World} {hp : List (Blk U)} {v : Value} {b : Bool} (h : Post P cd M0 (FW W) W (.v (.one (.bool b))) hp v W') : v = .bool b := by
  obtain ⟨M', F', h, _⟩ := h
  have h : R1 P cd M' F' W' _ v := h
  cases h
  rfl
theorem stay {H : Type} {enc : TypeId × Value → H} (hl : laidOutB P = true) {W W' : World} (hb : Below W.heap.size W W') : ∀ {ts : List Nat} {vs : List Value} {ds : List (DataW H)} {ps : List MemPlace}, (∀ t ∈ ts, P.readableRec t = true ∧ t < P.types.size) →
    DataW.TrodAll enc P W 0 (fun _ => true) true ts vs ds ps → (∀ x ∈ ps, x.block < W.heap.size) → DataW.TrodAll enc P W' 0 (fun b => decide (b < W.heap.size)) true ts vs ds ps
  | [], [], [], _, _, h, _ => h
  | t :: ts, v :: vs, d :: ds, ps, ht, h, hlt => by
    obtain ⟨p, q, h1, h2, rfl⟩ := h
    exact ⟨p, q, Below.trod hl (ht t (by simp)).1 (ht t (by simp)).2 h1 hb fun x hx => hlt x (by simp [hx]), stay hl hb (fun t' h' => ht t' (by simp [h'])) h2 fun x hx => hlt x (by simp [hx]), rfl⟩
theorem law_call {f : Nat} {A : Arg U α} {F : α → Unit → Option Bool} {out : Bool → List (V U) × List (Blk U)} (ho : ∀ b, out b = ([.one (.bool b)], [])) (hA : ∀ x, A.dec (A.enc x) = some x) (ok : FnOk P cd f (mkSpec A bNil F out)) {W : World} {x : α} {vs : List Value}
    (hr : RVs P cd M0 (FW W) W (A.enc x) vs) (hF : F x () = some true) (hgl : ∀ g j y, (cd.gl g)[j]? = some y → W.cell? (at0 g j) = some y := by exact fun g j y h => by cases (show (none : Option Value) = some y from h)) : Calls P f vs.toArray W fun e W' => e = .returned (.bool true) ∧ Below W.heap.size W W' := by
  have hs : mkSpec A bNil F out (A.enc x) [] = some ⟨Bool, F x (), fun y => .leaf (out y)⟩ := by
    unfold mkSpec
    rw [hA]
    rfl
  obtain ⟨fn, _, _, _, hc⟩ := ok M0 (FW W) W [] _ vs (hr0 W hgl) hr _ hs true hF (out true) rfl
  refine hc.mono fun e W' ⟨v, he, hp⟩ => ?_
  subst he
  have hp : Post P cd M0 (FW W) W (resD (out true).1) (out true).2 v W' := hp
  rw [ho] at hp
  exact ⟨by rw [bool_of hp], below_of hp⟩
end
end Go.Ab
end
section
set_option linter.unusedSimpArgs false
namespace Go.Ab
variable {U : Nat → Type} {α β : Type}
section
variable {P : Program} {cd : Cd U}
end
end Go.Ab
end
section
set_option linter.unusedSimpArgs false
namespace Go.Ab
variable {α β : Type}
theorem lim_count {f : α → Option (α ⊕ β)} (s : Nat → α) (n : Nat) (h : ∀ i, i < n → f (s i) = some (.inl (s (i + 1)))) : ∀ i, i ≤ n → lim f (s i) = lim f (s n) := by
  intro i hi
  have key : ∀ k, k ≤ n → lim f (s (n - k)) = lim f (s n) := by
    intro k
    induction k with
    | zero => intro _; rfl
    | succ k ih =>
      intro hk
      rw [lim_next (h (n - (k + 1)) (by omega)), show n - (k + 1) + 1 = n - k by omega]
      exact ih (by omega)
  have := key (n - i) (by omega)
  rwa [show n - (n - i) = i by omega] at this
theorem lim_scan {f : α → Option (α ⊕ β)} (s : Nat → α) (n : Nat) (p : Nat → Prop) (bad : Nat → β) (e : β) (h : ∀ i, i < n → p i → f (s i) = some (.inl (s (i + 1)))) (hb : ∀ i, i < n → ¬ p i → f (s i) = some (.inr (bad i))) (he : f (s n) = some (.inr e)) :
    ((∀ i, i < n → p i) ∧ lim f (s 0) = some e) ∨ ∃ i, i < n ∧ ¬ p i ∧ lim f (s 0) = some (bad i) := by
  have key : ∀ k, k ≤ n → ((∀ i, n - k ≤ i → i < n → p i) ∧ lim f (s (n - k)) = some e) ∨ ∃ i, i < n ∧ ¬ p i ∧ lim f (s (n - k)) = some (bad i) := by
    intro k
    induction k with
    | zero => intro _; exact .inl ⟨fun i h1 h2 => by omega, lim_done he⟩
    | succ k ih =>
      intro hk
      by_cases hp : p (n - (k + 1))
      · have hn := lim_next (h (n - (k + 1)) (by omega) hp)
        rw [show n - (k + 1) + 1 = n - k by omega] at hn
        rcases ih (by omega) with ⟨h1, h2⟩ | ⟨i, h1, h2, h3⟩
        · refine .inl ⟨fun i hi hlt => ?_, by rw [hn]; exact h2⟩
          rcases Nat.lt_or_ge i (n - k) with h' | h'
          · rw [show i = n - (k + 1) by omega]; exact hp
          · exact h1 i h' hlt
        · exact .inr ⟨i, h1, h2, by rw [hn]; exact h3⟩
      · exact .inr ⟨n - (k + 1), by omega, hp, lim_done (hb _ (by omega) hp)⟩
  rcases key n (Nat.le_refl n) with ⟨h1, h2⟩ | h
  · rw [Nat.sub_self] at h2; exact .inl ⟨fun i hi => h1 i (by omega) hi, h2⟩
  · rw [Nat.sub_self] at h; exact .inr h
end Go.Ab
end
