/- Rules for loops as limits of their rounds. -/
import Derived.Test.YtfdndagnolbnhaaGreatXAbMore
import Derived.ChangeShapes
import Derived.Carry
import Derived.ShutString
import Derived.Test.YtfdndagnolbnhaaGreatXAbClone
import Derived.RangeFuncNested
import Derived.Test.YtfdndagnolbnhaaGreatXAbA18x
import Derived.Test.YtfdndagnolbnhaaGreatXAbVal18x
import Derived.Laws.CopyRow
section
set_option linter.unusedSimpArgs false
namespace Go.Ab
variable {U : Nat → Type} {α β : Type}
/-- No block is handed, and all that stands is as it was. -/
abbrev M0 : Mp := fun _ => none
abbrev FW (W : World) : Nat → Prop := fun k => k < W.heap.size
/-- What reads as data at a type is told by its codec. -/
def Reads (P : Program) (cd : Cd U) (t : Nat) (c : Cdc U α) (G : α → Prop) : Prop :=
  ∀ (H : Type) (enc : TypeId × Value → H) (W : World) (fuel : Nat) (cs : List Value) (d : DataW H) (ps : List MemPlace), DataW.trod enc P W 0 (fun _ => true) true fuel t cs = some (d, ps) → ∃ x, G x ∧ RL P cd M0 (FW W) W (c.enc x) cs
section
variable {P : Program} {cd : Cd U}
theorem rd_bool {t : Nat} (ht : P.underlying t = some .bool) : Reads P cd t cBool fun _ => True := by
  intro H enc W fuel cs d ps h
  cases fuel with
  | zero => cases h
  | succ fuel =>
    match cs with
    | [] => simp [DataW.trod, ht] at h
    | v :: w :: r => cases v <;> simp [DataW.trod, ht] at h
    | [v] =>
      cases v <;> simp [DataW.trod, ht] at h
      rename_i b
      exact ⟨b, trivial, .of1 (.bool b)⟩
theorem rd_int {t : Nat} {k : IntKind} (ht : P.underlying t = some (.int k)) : Reads P cd t (cInt k) fun n => k.min ≤ n ∧ n ≤ k.max := by
  intro H enc W fuel cs d ps h
  cases fuel with
  | zero => cases h
  | succ fuel =>
    match cs with
    | [] => simp [DataW.trod, ht] at h
    | v :: w :: r => cases v <;> simp [DataW.trod, ht] at h
    | [v] =>
      cases v <;> simp [DataW.trod, ht] at h
      rename_i k' n
      obtain ⟨⟨rfl, hw⟩, _⟩ := h
      simp only [Lit.wf, Bool.and_eq_true, decide_eq_true_eq] at hw
      exact ⟨n, hw, .of1 (.int _ n)⟩
theorem rd_str {t : Nat} (ht : P.underlying t = some .string) : Reads P cd t cStr fun s => s.length ≤ maxLen := by
  intro H enc W fuel cs d ps h
  cases fuel with
  | zero => cases h
  | succ fuel =>
    match cs with
    | [] => simp [DataW.trod, ht] at h
    | v :: w :: r => cases v <;> simp [DataW.trod, ht] at h
    | [v] =>
      cases v <;> simp [DataW.trod, ht] at h
      rename_i s
      refine ⟨s.data.toList, by simpa using h.1, ?_⟩
      have := R1.str (P := P) (cd := cd) (M := M0) (Fz := FW W) (w := W) s.data.toList
      exact .of1 (by simpa using this)
/-- the fields of a struct, from o on -/
def ReadsF (P : Program) (cd : Cd U) (fs : List Field) (o : Nat) (n : Nat) (c : Cdc U α) (G : α → Prop) : Prop :=
  ∀ (H : Type) (enc : TypeId × Value → H) (W : World) (fuel : Nat) (cs : List Value) (r : List (DataW H × List MemPlace)), fs.mapM (fun f => DataW.trod enc P W 0 (fun _ => true) true fuel f.type ((cs.drop f.offset).take (P.cellsOf f.type))) = some r →
    ∃ x, G x ∧ RL P cd M0 (FW W) W (c.enc x) ((cs.drop o).take n)
theorem rf_nil (o : Nat) : ReadsF P cd [] o 0 cUnit fun _ => True := by
  intro H enc W fuel cs r h
  exact ⟨(), trivial, by rw [List.take_zero]; exact RL.nil⟩
theorem rf_cons {f : Field} {fs : List Field} {o n m : Nat} {c : Cdc U α} {d : Cdc U β} {G : α → Prop} {K : β → Prop} (ho : f.offset = o) (hm : P.cellsOf f.type = m) (h1 : Reads P cd f.type c G) (h2 : ReadsF P cd fs (o + m) n d K) :
    ReadsF P cd (f :: fs) o (m + n) (cPair c d) fun x => G x.1 ∧ K x.2 := by
  intro H enc W fuel cs r h
  rw [List.mapM_cons] at h
  cases hx : DataW.trod enc P W 0 (fun _ => true) true fuel f.type ((cs.drop f.offset).take (P.cellsOf f.type)) with
  | none => rw [hx] at h; cases h
  | some y =>
    rw [hx] at h
    cases hr : fs.mapM (fun f => DataW.trod enc P W 0 (fun _ => true) true fuel f.type ((cs.drop f.offset).take (P.cellsOf f.type))) with
    | none => rw [hr] at h; cases h
    | some q =>
      obtain ⟨x, g1, r1⟩ := h1 H enc W fuel _ y.1 y.2 hx
      obtain ⟨z, g2, r2⟩ := h2 H enc W fuel cs q hr
      refine ⟨(x, z), ⟨g1, g2⟩, ?_⟩
      have e : (cs.drop o).take (m + n) = (cs.drop o).take m ++ (cs.drop (o + m)).take n := by
        rw [List.take_add, List.drop_drop]
      rw [e]
      rw [ho, hm] at r1
      exact r1.append r2
theorem rd_struct {t n : Nat} {fs : Array Field} {c : Cdc U α} {G : α → Prop} {f : α → β} {g : β → α} (ht : P.underlying t = some (.struct fs)) (hn : P.cellsOf t = n) (h : ReadsF P cd fs.toList 0 n c G) (hg : ∀ x, g (f x) = x) : Reads P cd t (cMap f g c) fun x => G (g x) := by
  intro H enc W fuel cs d ps hh
  cases fuel with
  | zero => cases hh
  | succ fuel =>
    have key : cs.length = P.cellsOf t ∧ ∃ r, fs.toList.mapM (fun f => DataW.trod enc P W 0 (fun _ => true) true fuel f.type ((cs.drop f.offset).take (P.cellsOf f.type))) = some r := by
      simp only [DataW.trod, ht] at hh
      split at hh
      · rename_i hl
        refine ⟨hl, ?_⟩
        obtain ⟨r, hr, _⟩ := Option.map_eq_some_iff.1 hh
        exact ⟨r, hr⟩
      · cases hh
    obtain ⟨hl, r, hr⟩ := key
    obtain ⟨x, g1, r1⟩ := h H enc W fuel cs r hr
    refine ⟨f x, by show G (g (f x)); rw [hg]; exact g1, ?_⟩
    simp only [cMap, hg]
    rw [List.drop_zero, List.take_of_length_le (by omega)] at r1
    exact r1
theorem mapM_range {γ : Type} {f : Nat → Option γ} {n : Nat} {r : List γ} (h : (List.range n).mapM f = some r) : ∀ i, i < n → ∃ y, f i = some y := by
  have key : ∀ (l : List Nat) (r : List γ), l.mapM f = some r → ∀ i ∈ l, ∃ y, f i = some y := by
    intro l
    induction l with
    | nil => intro r _ i hi; simp at hi
    | cons a l ih =>
      intro r h i hi
      rw [List.mapM_cons] at h
      cases ha : f a with
      | none => rw [ha] at h; cases h
      | some y =>
        rw [ha] at h
        cases hl : l.mapM f with
        | none => rw [hl] at h; cases h
        | some q =>
          rcases List.mem_cons.1 hi with rfl | hi
          · exact ⟨y, ha⟩
          · exact ih q hl i hi
  exact fun i hi => key _ r h i (List.mem_range.2 hi)
theorem list_of {γ : Type} {Q : Nat → γ → Prop} : ∀ n, (∀ i, i < n → ∃ x, Q i x) → ∃ l : List γ, l.length = n ∧ ∀ i x, l[i]? = some x → Q i x
  | 0, _ => ⟨[], rfl, fun i x h => by simp at h⟩
  | n + 1, h => by
    obtain ⟨l, h1, h2⟩ := list_of n fun i hi => h i (by omega)
    obtain ⟨x, hx⟩ := h n (by omega)
    refine ⟨l ++ [x], by simp [h1], fun i y hy => ?_⟩
    rcases Nat.lt_or_ge i n with hi | hi
    · rw [List.getElem?_append_left (by omega)] at hy; exact h2 i y hy
    · rw [List.getElem?_append_right (by omega)] at hy
      have := (List.getElem?_eq_some_iff.1 hy).1
      simp at this
      have : i = n := by omega
      subst this
      rw [h1, Nat.sub_self] at hy
      simp at hy
      subst hy
      exact hx
theorem cells_get {W : World} {a : Addr} {n : Nat} {cs : List Value} (h : W.cells? 0 a n = some cs) : ∀ j, j < n → ∃ v, W.cell? (a.add j) = some v ∧ cs[j]? = some v := by
  simp only [World.cells?, Nat.zero_le, if_true] at h
  intro j hj
  obtain ⟨v, hv⟩ := mapM_range h j hj
  refine ⟨v, hv, ?_⟩
  have key : ∀ (l : List Nat) (r : List Value), l.mapM (fun i => W.cell? (a.add i)) = some r → ∀ (i x : Nat), l[i]? = some x → r[i]? = W.cell? (a.add x) := by
    intro l
    induction l with
    | nil => intro r _ i x hi; simp at hi
    | cons b l ih =>
      intro r h i x hi
      rw [List.mapM_cons] at h
      cases ha : W.cell? (a.add b) with
      | none => rw [ha] at h; cases h
      | some y =>
        rw [ha] at h
        cases hl : l.mapM (fun i => W.cell? (a.add i)) with
        | none => rw [hl] at h; cases h
        | some q =>
          rw [hl] at h
          have h : some (y :: q) = some r := h
          injection h with h
          subst h
          cases i with
          | zero => simp at hi; subst hi; simp [ha]
          | succ i => simpa using ih q hl i x (by simpa using hi)
  rw [key _ _ h j j (by simp [hj])]
  exact hv
theorem rd_slice (ok : CdOk P cd) {t e : Nat} {c : Cdc U (U e)} {G : U e → Prop} (ht : P.underlying t = some (.slice e)) (he : Reads P cd e c G) (hc : ∀ x, cd.enc e x = c.enc x) (hs : 0 < P.cellsOf e) : Reads P cd t (cSl e) fun l => l.length ≤ maxLen ∧ ∀ x ∈ l, G x := by
  intro H enc W fuel cs d ps h
  cases fuel with
  | zero => cases h
  | succ fuel =>
    match cs with
    | [] => simp [DataW.trod, ht] at h
    | v :: w :: r => cases v <;> simp [DataW.trod, ht] at h
    | [v] =>
      have hv : v = .slice none 0 0 ∨ ∃ a len cap, v = .slice (some a) len cap ∧ len ≤ cap ∧ cap ≤ maxLen ∧ ∃ r, (List.range len).mapM (fun i => (W.cells? 0 (a.add (i * P.cellsOf e)) (P.cellsOf e)).bind (DataW.trod enc P W 0 (fun _ => true) true fuel e)) = some r := by
        cases v <;> try (simp [DataW.trod, ht] at h; done)
        rename_i a len cap
        cases a with
        | none =>
          left
          cases len <;> cases cap <;> first | rfl | (simp [DataW.trod, ht] at h; done)
        | some a =>
          right
          refine ⟨a, len, cap, rfl, ?_⟩
          simp only [DataW.trod, ht] at h
          split at h
          · rename_i hcond
            refine ⟨hcond.2.1, hcond.2.2, ?_⟩
            obtain ⟨r, hr, _⟩ := Option.bind_eq_some_iff.1 h
            exact ⟨r, hr⟩
          · cases h
      rcases hv with rfl | ⟨a, len, cap, rfl, h1, h2, r, hr⟩
      · exact ⟨[], ⟨Nat.zero_le _, fun x hx => by simp at hx⟩, .of1 (.sl e [] false none 0 (fun _ => undef) (fun e => by cases e) (Nat.le_refl _) (fun e => absurd rfl e) (fun j c hj => by simp at hj))⟩
      · obtain ⟨l, hl, hq⟩ := list_of (Q := fun i x => G x ∧ ∃ ci, W.cells? 0 (a.add (i * P.cellsOf e)) (P.cellsOf e) = some ci ∧ RL P cd M0 (FW W) W (c.enc x) ci) len (fun i hi => by
          obtain ⟨y, hy⟩ := mapM_range hr i hi
          obtain ⟨ci, k1, k2⟩ := Option.bind_eq_some_iff.1 hy
          obtain ⟨x, g1, r1⟩ := he H enc W fuel ci y.1 y.2 k2
          exact ⟨x, g1, ci, k1, r1⟩)
        refine ⟨l, ⟨by omega, fun x hx => ?_⟩, ?_⟩
        · obtain ⟨i, hi⟩ := List.mem_iff_getElem?.1 hx
          exact (hq i x hi).1
        · subst hl
          -- each cell, by its element
          have cell : ∀ j cc, (l.flatMap (cd.enc e))[j]? = some cc → ∃ v, W.cell? ⟨a.block, a.off + j, none⟩ = some v ∧ a.spot = none ∧ R1 P cd M0 (FW W) W cc v := by
            intro j cc hj
            have hjl := (List.getElem?_eq_some_iff.1 hj).1
            rw [flat_len ok] at hjl
            have hi : j / P.cellsOf e < l.length := (Nat.div_lt_iff_lt_mul hs).2 hjl
            have hmod := Nat.mod_lt j hs
            have hx := List.getElem?_eq_getElem hi
            obtain ⟨_, ci, k1, k2⟩ := hq _ _ hx
            have hlt : j % P.cellsOf e < (cd.enc e l[j / P.cellsOf e]).length := by rw [ok.len]; exact hmod
            have henc := List.getElem?_eq_getElem hlt
            have hat := elem_at ok hx _ _ henc
            rw [show j / P.cellsOf e * P.cellsOf e + j % P.cellsOf e = j from Nat.div_add_mod' j (P.cellsOf e), hj] at hat
            injection hat with hat
            obtain ⟨v, e1, e2⟩ := cells_get k1 (j % P.cellsOf e) hmod
            have hleaf : leaves cd (c.enc l[j / P.cellsOf e]) = cd.enc e l[j / P.cellsOf e] := by rw [← hc]; exact enc_plain_leaves ok _ _
            have hr1 := k2.2.2 (j % P.cellsOf e) cc v (by rw [hleaf, henc, hat]) e2
            have hadd : ∀ m k : Nat, (a.add m).add k = if m + k = 0 then a else ⟨a.block, a.off + (m + k), none⟩ := by
              intro m k
              unfold Addr.add
              by_cases hm : m = 0
              · by_cases hk : k = 0
                · simp [hm, hk]
                · simp [hm, hk]
              · by_cases hk : k = 0
                · simp [hm, hk]
                · simp [hm, hk]; omega
            rw [hadd, Nat.div_add_mod'] at e1
            obtain ⟨v0, f1, _⟩ := cells_get (hq 0 _ (List.getElem?_eq_getElem (show 0 < l.length from Nat.lt_of_le_of_lt (Nat.zero_le _) hi))).2.choose_spec.1 0 hs
            have hspot : a.spot = none := by
              rw [hadd] at f1
              simp only [Nat.zero_mul, Nat.add_zero, if_true] at f1
              cases hsp : a.spot with
              | none => rfl
              | some q =>
                simp only [World.cell?, hsp, Option.isSome_some, if_true] at f1
                split at f1 <;> cases f1
            refine ⟨v, ?_, hspot, hr1⟩
            split at e1
            · rename_i hj0
              have : a = ⟨a.block, a.off + j, none⟩ := by cases a; simp at hspot; simp [hspot, hj0]
              rw [← this]; exact e1
            · exact e1
          refine .of1 (.sl e l false (some a) cap (fun j => (W.cell? ⟨a.block, a.off + j, none⟩).getD undef) (fun e => by cases e) h1 (fun hne => ?_) (fun j cc hj => ?_))
          · have h0 : 0 < l.length := by cases l; exact absurd rfl hne; simp
            have hlt0 : 0 < (l.flatMap (cd.enc e)).length := by rw [flat_len ok]; exact Nat.mul_pos h0 hs
            have hx0 := List.getElem?_eq_getElem hlt0
            obtain ⟨v, e1, e2, _⟩ := cell 0 _ hx0
            refine ⟨a.block, a.off, by cases a; simp at e2; simp [at0, e2], World.block_lt_of_cell? W ⟨a.block, a.off + 0, none⟩ e1, fun j cc hj => ?_⟩
            obtain ⟨v, e1, _, _⟩ := cell j cc hj
            rw [show at0 a.block (a.off + j) = ⟨a.block, a.off + j, none⟩ from rfl, e1]
            rfl
          · obtain ⟨v, e1, _, e3⟩ := cell j cc hj
            rw [e1]
            exact e3
end
end Go.Ab
end
section
set_option linter.unusedSimpArgs false
namespace Go.Ab
open Go.ChangeShapes Go.RowKit
variable {U : Nat → Type} {α β : Type}
section
variable {P : Program} {cd : Cd U}
/-- is t a type of one cell -/
def oneTy (P : Program) (t : Nat) : Bool := match P.underlying t with
  | some .bool => true
  | some (.int _) => true
  | some .string => true
  | some (.slice _) => true
  | _ => false
theorem one_cell {W : World} {base t : Nat} {v : Value} (ht : oneTy P t = true) (h : Value.okWide P W .any base t v) : v.cells = #[v] := by
  unfold oneTy at ht
  unfold Value.okWide Cell.okWide Cell.ok at h
  split at ht
  · rename_i hu; rw [hu] at h; cases v <;> first | rfl | (simp at h; done)
  · rename_i k hu; rw [hu] at h; cases v <;> first | rfl | (simp at h; done)
  · rename_i hu; rw [hu] at h; cases v <;> first | rfl | (simp at h; done)
  · rename_i e hu; rw [hu] at h; cases v <;> first | rfl | (simp at h; done)
  · cases ht
theorem agg_val {W : World} {base t : Nat} {v : Value} (ht : isAggB P t = true) (h : Value.okWide P W .any base t v) : ∃ a, v = .agg a := by
  unfold isAggB at ht
  unfold Value.okWide at h
  split at ht
  · rename_i fs hu; rw [hu] at h; obtain ⟨cs, rfl, _⟩ := h; exact ⟨cs, rfl⟩
  · rename_i n e hu; rw [hu] at h; obtain ⟨cs, rfl, _⟩ := h; exact ⟨cs, rfl⟩
  · cases ht
/-- arguments read -/
def ArgsRd (P : Program) (cd : Cd U) (ts : List Nat) (A : Arg U α) (G : α → Prop) : Prop :=
  ∀ (H : Type) (enc : TypeId × Value → H) (W : World) (base : Nat) (vs : List Value) (ds : List (DataW H)) (ps : List MemPlace), DataW.TrodAll enc P W 0 (fun _ => true) true ts vs ds ps → (∀ (j : Nat) t v, ts[j]? = some t → vs[j]? = some v → Value.okWide P W .any base t v) →
    ∃ x, G x ∧ RVs P cd M0 (FW W) W (A.enc x) vs
theorem ar_nil : ArgsRd P cd [] aNil fun _ => True := by
  intro H enc W base vs ds ps h _
  match vs, ds, h with
  | [], [], _ => exact ⟨(), trivial, rfl, fun j x v h => by simp [aNil] at h⟩
theorem ar_push {W : World} {x : V U} {xs : List (V U)} {v : Value} {vs : List Value} (h : RV P cd M0 (FW W) W x v) (k : RVs P cd M0 (FW W) W xs vs) : RVs P cd M0 (FW W) W (x :: xs) (v :: vs) := by
  refine ⟨by simp [k.1], fun j y u e1 e2 => ?_⟩
  cases j with
  | zero => simp at e1 e2; subst e1; subst e2; exact h
  | succ j => exact k.2 j y u (by simpa using e1) (by simpa using e2)
theorem ar_agg {t : Nat} {ts : List Nat} {c : Cdc U α} {A : Arg U β} {G : α → Prop} {K : β → Prop} (ht : isAggB P t = true) (h1 : Reads P cd t c G) (h2 : ArgsRd P cd ts A K) : ArgsRd P cd (t :: ts) (aA c A) fun x => G x.1 ∧ K x.2 := by
  intro H enc W base vs ds ps h hval
  match vs, ds, h with
  | v :: vs, d :: ds, h =>
    obtain ⟨p, q, ⟨fuel, hf⟩, hr, _⟩ := h
    obtain ⟨a, rfl⟩ := agg_val ht (hval 0 t v rfl rfl)
    obtain ⟨x, g1, r1⟩ := h1 H enc W fuel _ d p hf
    obtain ⟨y, g2, r2⟩ := h2 H enc W base vs ds q hr fun j t' v' e1 e2 => hval (j + 1) t' v' (by simpa using e1) (by simpa using e2)
    exact ⟨(x, y), ⟨g1, g2⟩, ar_push ⟨a, rfl, r1⟩ r2⟩
theorem ar_one {t : Nat} {ts : List Nat} {c : Cdc U α} {A : Arg U β} {G : α → Prop} {K : β → Prop} (ht : oneTy P t = true) (hc : ∀ x, ∃ y, c.enc x = [y] ∧ ∀ a b l, y ≠ .arr a b l) (h1 : Reads P cd t c G) (h2 : ArgsRd P cd ts A K) : ArgsRd P cd (t :: ts) (aO c A) fun x => G x.1 ∧ K x.2 := by
  intro H enc W base vs ds ps h hval
  match vs, ds, h with
  | v :: vs, d :: ds, h =>
    obtain ⟨p, q, ⟨fuel, hf⟩, hr, _⟩ := h
    have hv := one_cell ht (hval 0 t v rfl rfl)
    obtain ⟨x, g1, r1⟩ := h1 H enc W fuel _ d p hf
    obtain ⟨y, g2, r2⟩ := h2 H enc W base vs ds q hr fun j t' v' e1 e2 => hval (j + 1) t' v' (by simpa using e1) (by simpa using e2)
    refine ⟨(x, y), ⟨g1, g2⟩, ar_push ?_ r2⟩
    obtain ⟨z, hz, hza⟩ := hc x
    rw [hv, hz] at r1
    obtain ⟨u, hu, hr⟩ := r1.single hza
    have hu : [v] = [u] := hu
    injection hu with hu
    subst hu
    simp only [vO, hz]
    exact hr
theorem cell_lt {W : World} {g j : Nat} {y : Value} (h : W.cell? (at0 g j) = some y) : g < W.heap.size := by
  rcases Nat.lt_or_ge g W.heap.size with h1 | h1
  · exact h1
  · unfold World.cell? at h
    rw [show W.heap[(at0 g j).block]? = none from Array.getElem?_eq_none h1] at h
    cases h
theorem hr0 (W : World) (hgl : ∀ g j y, (cd.gl g)[j]? = some y → W.cell? (at0 g j) = some y) : HR P cd M0 (FW W) [] W :=
  ⟨(fun b x h => by simp at h), (fun _ _ => rfl), (fun b b' i i' k h => by cases h), (fun b i k h => by cases h), ⟨fun k hk => hk, fun g j y e => ⟨cell_lt (hgl g j y e), hgl g j y e⟩⟩, (fun b i k h => by cases h)⟩
/-- behind a call to which nothing was handed all stands as it did -/
theorem below_of {W W' : World} {d : D U} {hp : List (Blk U)} {v : Value} (h : Post P cd M0 (FW W) W d hp v W') : Below W.heap.size W W' := by
  obtain ⟨M', F', _, _, _, h4, h5, _, _⟩ := h
  exact ⟨h5.os, h5.tape, h5.output, h5.size, fun k hk => (h4 k hk).2⟩
theorem bool_of {W W' : World} {hp : List (Blk U)} {v : Value} {b : Bool} (h : Post P cd M0 (FW W) W (.v (.one (.bool b))) hp v W') : v = .bool b := by
  obtain ⟨M', F', h, _⟩ := h
  have h : R1 P cd M' F' W' _ v := h
  cases h
  rfl
theorem stay {H : Type} {enc : TypeId × Value → H} (hl : laidOutB P = true) {W W' : World} (hb : Below W.heap.size W W') : ∀ {ts : List Nat} {vs : List Value} {ds : List (DataW H)} {ps : List MemPlace}, (∀ t ∈ ts, P.readableRec t = true ∧ t < P.types.size) →
    DataW.TrodAll enc P W 0 (fun _ => true) true ts vs ds ps → (∀ x ∈ ps, x.block < W.heap.size) → DataW.TrodAll enc P W' 0 (fun b => decide (b < W.heap.size)) true ts vs ds ps
  | [], [], [], _, _, h, _ => h
  | t :: ts, v :: vs, d :: ds, ps, ht, h, hlt => by
    obtain ⟨p, q, h1, h2, rfl⟩ := h
    exact ⟨p, q, Below.trod hl (ht t (by simp)).1 (ht t (by simp)).2 h1 hb fun x hx => hlt x (by simp [hx]), stay hl hb (fun t' h' => ht t' (by simp [h'])) h2 fun x hx => hlt x (by simp [hx]), rfl⟩
/-- a law's call -/
theorem law_call {f : Nat} {A : Arg U α} {F : α → Unit → Option Bool} {out : Bool → List (V U) × List (Blk U)} (ho : ∀ b, out b = ([.one (.bool b)], [])) (hA : ∀ x, A.dec (A.enc x) = some x) (ok : FnOk P cd f (mkSpec A bNil F out)) {W : World} {x : α} {vs : List Value}
    (hr : RVs P cd M0 (FW W) W (A.enc x) vs) (hF : F x () = some true) (hgl : ∀ g j y, (cd.gl g)[j]? = some y → W.cell? (at0 g j) = some y := by exact fun g j y h => by cases (show (none : Option Value) = some y from h)) : Calls P f vs.toArray W fun e W' => e = .returned (.bool true) ∧ Below W.heap.size W W' := by
  have hs : mkSpec A bNil F out (A.enc x) [] = some ⟨Bool, F x (), fun y => .leaf (out y)⟩ := by
    unfold mkSpec
    rw [hA]
    rfl
  obtain ⟨fn, _, _, _, hc⟩ := ok M0 (FW W) W [] _ vs (hr0 W hgl) hr _ hs true hF (out true) rfl
  refine hc.mono fun e W' ⟨v, he, hp⟩ => ?_
  subst he
  have hp : Post P cd M0 (FW W) W (resD (out true).1) (out true).2 v W' := hp
  rw [ho] at hp
  exact ⟨by rw [bool_of hp], below_of hp⟩
end
end Go.Ab
end
section
set_option linter.unusedSimpArgs false
set_option linter.unusedVariables false
namespace Go.Ab
open Go.RowKit
variable {U : Nat → Type}
def noMp : C U → Bool
  | .bool _ => true
  | .int _ _ => true
  | .str _ => true
  | .sl _ _ _ => true
  | .nilp => true
  | _ => false
def NoMpE : {l : List (Nat × Type)} → Ents U l → Prop
  | _, .nil => True
  | _, .cons e r => (∀ x, (e.c.enc x).all noMp = true) ∧ NoMpE r
theorem NoMpE.get : {l : List (Nat × Type)} → (es : Ents U l) → NoMpE es → ∀ t e, es.get t = some e → ∀ x, (e.c.enc x).all noMp = true
  | _, .nil, _, t, e, h => by cases h
  | _, .cons (k := k) (α := α) (l := l) e0 r, ho, t, e, h => by
    have key : ∀ (b : Bool) (e : Ent U (match b with | true => α | false => findT l t)), pickE e0 (r.get t) b = some e → ∀ x, (e.c.enc x).all noMp = true := by
      intro b e h
      cases b with
      | true =>
        have h : some e0 = some e := h
        injection h with h
        subst h
        exact ho.1
      | false =>
        have h : r.get t = some e := h
        exact NoMpE.get r ho.2 t e h
    exact key _ e h
theorem nomp_of {l : List (Nat × Type)} {es : Ents (findT l) l} (h : NoMpE es) (gl : Nat → List Value) : ∀ t x, ((cdOf es gl).enc t x).all noMp = true := by
  intro t x
  simp only [cdOf]
  cases he : es.get t with
  | none => rfl
  | some e => exact NoMpE.get es h t e he x
section
variable {P : Program} {cd : Cd U} {Fz Fz' : Nat → Prop} {w w' : World}
/-- what stands in cells is told of as before -/
theorem R1.cells {M M' : Mp} {c : C U} {v : Value} (hm : ∀ t x, (cd.enc t x).all noMp = true) (h : R1 P cd M Fz w c v) (hc : noMp c = true) (hw : ∀ a u, w.cell? a = some u → w'.cell? a = some u) : R1 P cd M' Fz w' c v := by
  induction h with
  | bool b => exact .bool b
  | int k n => exact .int k n
  | str s => exact .str s
  | nilp => exact .nilp
  | sl t l full a cap f h1 h0 h2 _ ih =>
    refine .sl t l full a cap f h1 h0 (fun hl => ?_) (fun j c hj => ih j c hj ?_)
    · obtain ⟨k, o, ha, hk, hcs⟩ := h2 hl
      exact ⟨k, o, ha, hk, fun j c hj => hw _ _ (hcs j c hj)⟩
    · obtain ⟨x, _, hx⟩ := List.mem_flatMap.1 (List.mem_of_getElem? hj)
      exact List.all_eq_true.1 (hm t x) c hx
  | unk v => cases hc
  | skp => cases hc
  | kb b => cases hc
  | nils => cases hc
  | row b v pos t ver len cap val h1 h2 h3 h4 => cases hc
  | own b v lo n pos t ver len cap val h1 h2 h3 h4 => cases hc
  | ptr b o k h1 => cases hc
  | elp b v i sub pos t ver len cap val h1 h2 h3 h4 => cases hc
  | ap b o t i sub k h1 => cases hc
  | asl b o t n k cap h1 h2 => cases hc
  | gp g o => cases hc
  | xp t x sub k o f h1 h2 h3 => cases hc
  | fn f a c g h h1 h2 => cases hc
  | mp l r es ck h1 h2 h3 h4 => cases hc
theorem RL.cells {M M' : Mp} {cs : List (C U)} {vs : List Value} (hm : ∀ t x, (cd.enc t x).all noMp = true) (h : RL P cd M Fz w cs vs) (hc : (leaves cd cs).all noMp = true) (hw : ∀ a u, w.cell? a = some u → w'.cell? a = some u) : RL P cd M' Fz w' cs vs :=
  ⟨h.1, h.2.1, fun j c v h1 h2 => (h.2.2 j c v h1 h2).cells hm (List.all_eq_true.1 hc c (List.mem_of_getElem? h1)) hw⟩
theorem FzOk.cells (h : FzOk cd Fz w) (hs : w.heap.size ≤ w'.heap.size) (hw : ∀ a u, w.cell? a = some u → w'.cell? a = some u) : FzOk cd Fz w' :=
  ⟨fun k hk => Nat.lt_of_lt_of_le (h.lt k hk) hs, fun g j y e => ⟨(h.gl g j y e).1, hw _ _ (h.gl g j y e).2⟩⟩
/-- a turn of a block that is no cells keeps the cells -/
theorem cells_grown {row : Option Nat} (hg : w.grownBy w' row) (hr : ∀ r, row = some r → ∃ o : Obj, w.heap[r]? = some o ∧ o.isCells = false) : ∀ a u, w.cell? a = some u → w'.cell? a = some u := fun a u h => cell_kept h hg hr
theorem cells_below (hb : Below w.heap.size w w') : ∀ a u, w.cell? a = some u → w'.cell? a = some u := fun a u h => by
  have hlt : a.block < w.heap.size := by
    unfold World.cell? at h
    split at h
    · rename_i h1; exact (Array.getElem?_eq_some_iff.1 h1).1
    · cases h
  unfold World.cell? at h ⊢
  rw [hb.block _ hlt]; exact h
theorem hr_none (h : FzOk cd Fz w) : HR P cd M0 Fz [] w :=
  ⟨(fun b x h => by simp at h), (fun _ _ => rfl), (fun b b' i i' k h => by cases h), (fun b i k h => by cases h), h, (fun b i k h => by cases h)⟩
theorem none_of {M : Mp} (h : HR P cd M Fz [] w) : M = M0 := funext fun b => h.out b (Nat.zero_le _)
/-- a call to which nothing is handed -/
theorem call0 {α β : Type} {f : Nat} {A : Arg U α} {F : α → Unit → Option β} {out : β → List (V U) × List (Blk U)} (ok : FnOk P cd f (mkSpec A bNil F out)) {x : α} (hA : A.dec (A.enc x) = some x) {y : β} (hF : F x () = some y) (ho : (out y).2 = [])
    (hfz : FzOk cd Fz w) {vs : List Value} (hr : RVs P cd M0 Fz w (A.enc x) vs) :
    Calls P f vs.toArray w fun e w' => ∃ v Fz', e = .returned v ∧ RD P cd M0 Fz' w' (resD (out y).1) v ∧ FzOk cd Fz' w' ∧ Frz Fz w Fz' w' ∧ Below w.heap.size w w' ∧ ∀ k, Fz' k → Fz k ∨ w.heap.size ≤ k := by
  have hs : mkSpec A bNil F out (A.enc x) [] = some ⟨β, F x (), fun y => .leaf (out y)⟩ := by
    unfold mkSpec
    rw [hA]
    rfl
  obtain ⟨fn, _, _, _, hc⟩ := ok M0 Fz w [] _ vs (hr_none hfz) hr _ hs y hF (out y) rfl
  refine hc.mono fun e w' ⟨v, he, M', F', h1, h2, h3, h4, h5, h6, h7⟩ => ?_
  rw [ho] at h2
  obtain rfl := none_of h2
  refine ⟨v, F', he, h1, h2.fz, h4, ⟨h5.os, h5.tape, h5.output, h5.size, fun k hk => h5.old k hk (fun ⟨b, i, hb, _⟩ => by cases hb)⟩, fun k hk => ?_⟩
  rcases h7 k hk with h | ⟨b, i, hb, _⟩ | h
  · exact .inl h
  · cases hb
  · exact .inr h
def Mk (k : Nat) : Mp := fun b => if b = 0 then some (.cells k) else none
theorem hr_one (h : FzOk cd Fz w) {k t : Nat} {v : Value} {c : C U} (hb : Boxed w k t v) (hk : ¬ Fz k) (hl : RL P cd (Mk k) Fz w [c] [v]) : HR P cd (Mk k) Fz [.cells [c] (some t)] w := by
  have hM : ∀ b i, Mk k b = some i → b = 0 ∧ i = .cells k := fun b i hb => by
    unfold Mk at hb
    split at hb
    · injection hb with hb; exact ⟨‹_›, hb.symm⟩
    · cases hb
  refine ⟨fun b x hx => ?_, fun b hb => ?_, fun b b' i i' j h1 h2 _ _ => (hM b i h1).1.trans (hM b' i' h2).1.symm, fun b i j h1 h2 => ?_, h, fun b i j h1 h2 => ?_⟩
  · cases b with
    | zero =>
      obtain rfl : x = .cells [c] (some t) := by simpa using hx.symm
      exact ⟨k, #[v], ⟨t, fun T e => by injection e⟩, rfl, hb, hl⟩
    | succ b => simp at hx
  · have hb : 1 ≤ b := hb
    unfold Mk; rw [if_neg (by omega)]
  · obtain ⟨_, rfl⟩ := hM b i h1
    have h2 : some k = some j := h2
    injection h2 with h2
    rw [← h2]; exact hk
  · obtain ⟨_, rfl⟩ := hM b i h1
    have h2 : some k = some j := h2
    injection h2 with h2
    rw [← h2]; exact hb.lt
/-- a call of a closure that has captured one variable -/
theorem call1 {α β γ : Type} {f : Nat} {A : Arg U α} {G : Bls U γ} {F : α → γ → Option β} {out : α → γ → β → List (V U) × List (Blk U)} (ok : FnOk P cd f (mkSpecG A G F out)) {x : α} {g : γ} (hA : A.dec (A.enc x) = some x) {c : C U} {k t : Nat} (hG : G.dec [.cells [c] (some t)] = some g) {y : β} (hF : F x g = some y)
    (h2 : (out x g y).2 = [.cells [c] (some t)])
    (hfz : FzOk cd Fz w) {v : Value} (hb : Boxed w k t v) (hk : ¬ Fz k) (hl : RL P cd (Mk k) Fz w [c] [v]) (hdet : ∀ M F w u, RL P cd M F w [c] u → u = [v])
    {vs : List Value} (hr : RVs P cd (Mk k) Fz w (A.enc x) vs) :
    Calls P f vs.toArray w fun e w' => ∃ u Fz', e = .returned u ∧ RD P cd (Mk k) Fz' w' (resD (out x g y).1) u ∧ FzOk cd Fz' w' ∧ Frz Fz w Fz' w' ∧ Below w.heap.size w w' ∧ (∀ j, Fz' j → Fz j ∨ w.heap.size ≤ j) := by
  have hs : mkSpecG A G F out (A.enc x) [.cells [c] (some t)] = some ⟨β, F x g, fun y => .leaf (out x g y)⟩ := by
    unfold mkSpecG
    rw [hA, hG]
  obtain ⟨fn, _, _, _, hc⟩ := ok (Mk k) Fz w _ _ vs (hr_one hfz hb hk hl) hr _ hs y hF (out x g y) rfl
  refine hc.mono fun e w' ⟨u, he, M', F', h1, hh, h3, h4, h5, h6, h7⟩ => ?_
  rw [h2] at hh
  have hM0 : M' 0 = some (.cells k) := by
    obtain ⟨i', hi, hle⟩ := h3 0 (.cells k) rfl
    cases hle
    exact hi
  have hMM : M' = Mk k := funext fun b => by
    cases b with
    | zero => exact hM0
    | succ b => rw [hh.out (b + 1) (by simp)]; rfl
  subst hMM
  obtain ⟨k', arr, e', q1, q2, q3⟩ := hh.blk 0 _ rfl
  have q1 : some (Inf.cells k) = some (Inf.cells k') := q1
  injection q1 with q1
  injection q1 with q1
  subst q1
  have harr := hdet _ _ _ _ q3
  have harr : arr = #[v] := by
    have : arr.toList = (#[v] : Array Value).toList := harr
    exact Array.toList_inj.1 this
  have ht : e'.1 = t := e'.2 t rfl
  rw [harr, ht] at q2
  have hheld : ∀ j, Held (Mk k) j → j = k := fun j ⟨b, i, hb, hi⟩ => by
    unfold Mk at hb
    split at hb
    · injection hb with hb
      rw [← hb] at hi
      have hi : some k = some j := hi
      injection hi with hi
      exact hi.symm
    · cases hb
  refine ⟨u, F', he, h1, hh.fz, h4, ⟨h5.os, h5.tape, h5.output, h5.size, fun j hj => ?_⟩, fun j hj => ?_⟩
  · by_cases hjk : j = k
    · subst hjk
      exact q2.trans (show w.heap[j]? = _ from hb).symm
    · exact h5.old j hj fun hh => hjk (hheld j hh)
  · rcases h7 j hj with h | h | h
    · exact .inl h
    · have := hheld j h
      subst this
      exact absurd hj (hh.apart 0 _ j rfl rfl)
    · exact .inr h
end
end Go.Ab
end
section
set_option linter.unusedVariables false
namespace Go.Proofs.YtfdndagnolbnhaaGreat
open Go Go.RowKit Go.Ab
theorem cd_nomp : ∀ t x, (cd.enc t x).all noMp = true := nomp_of (es := ents) (by repeat (first | exact True.intro | refine ⟨fun x => by kernel_rfl, ?_⟩)) _
theorem enc_machine (x : Machine) : cMachine.enc x = [.arr 3 6 x.cpu.r, .arr 3 2 x.cpu.sP, .int .i64 x.cpu.pC, .int .i64 x.cpu.pSW, .sl 3 x.mem false, .sl 3 x.bad false, .bool x.mmu.on, .arr 28 16 x.mmu.pages, .int .i64 x.mmu.status, .int .i64 x.mmu.addr,
    .bool x.clock.enable, .bool x.clock.ready, .int .i64 x.clock.period, .int .i64 x.clock.left, .sl 55 x.lines false, .sl 9 x.disk.drive.sectors false, .sl 3 x.disk.drive.bad false, .bool x.disk.enable, .bool x.disk.ready, .bool x.disk.error, .int .i64 x.disk.command, .int .i64 x.disk.words, .int .i64 x.disk.addr, .int .i64 x.disk.start, .int .i64 x.disk.left,
    .sl 9 x.tape.records false, .int .i64 x.tape.pos, .bool x.tape.enable, .bool x.tape.ready, .bool x.tape.error, .bool x.tape.mark, .bool x.tape.end_, .int .i64 x.tape.command, .int .i64 x.tape.count, .int .i64 x.tape.addr, .int .i64 x.tape.left, .int .i64 x.now, .bool x.halted, .bool x.waiting, .int .i64 x.power, .bool x.powerTrap] := by kernel_rfl
theorem flat_all (t : Nat) (l : List (U t)) : (l.flatMap (cd.enc t)).all noMp = true := by
  rw [List.all_eq_true]
  intro c hc
  obtain ⟨y, _, h⟩ := List.mem_flatMap.1 hc
  exact List.all_eq_true.1 (cd_nomp t y) c h
theorem leaves_nomp (x : Machine) : (leaves cd (cMachine.enc x)).all noMp = true := by
  rw [enc_machine]
  have f1 : (List.flatMap (cd.enc 3) x.cpu.r).all noMp = true := flat_all 3 x.cpu.r
  have f2 : (List.flatMap (cd.enc 3) x.cpu.sP).all noMp = true := flat_all 3 x.cpu.sP
  have f3 : (List.flatMap (cd.enc 28) x.mmu.pages).all noMp = true := flat_all 28 x.mmu.pages
  simp only [leaves, leaf, List.flatMap_cons, List.flatMap_nil, List.all_append, f1, f2, f3, Bool.true_and, Bool.and_true, List.all_cons, List.all_nil, noMp]
theorem flat_length (t : Nat) (l : List (U t)) : (l.flatMap (cd.enc t)).length = l.length * Tryz.prog.cellsOf t := by
  induction l with
  | nil => simp
  | cons a l ih => rw [List.flatMap_cons, List.length_append, ih, cd_ok.len, List.length_cons, Nat.succ_mul]; omega
theorem flat_length' (t : Nat) (l : List (U t)) (n k : Nat) (hl : l.length = n) (hc : Tryz.prog.cellsOf t = k) : (l.flatMap (cd.enc t)).length = n * k := by rw [flat_length, hl, hc]
/-- cells that tell of a machine -/
def IsM (Fz : Nat → Prop) (W : World) (x : Machine) (cs : Array Value) : Prop := RL Tryz.prog cd M0 Fz W (cMachine.enc x) cs.toList
theorem IsM.size {Fz : Nat → Prop} {W : World} {x : Machine} {cs : Array Value} (h : IsM Fz W x cs) : cs.size = 110 := by
  have h1 := h.2.1
  have ha : ∀ t n l, C.arr t n l ∈ cMachine.enc x → l.length = n := h.1
  rw [enc_machine] at ha h1
  have a1 := ha 3 6 x.cpu.r (by simp)
  have a2 := ha 3 2 x.cpu.sP (by simp)
  have a3 := ha 28 16 x.mmu.pages (by simp)
  have c3 : Tryz.prog.cellsOf 3 = 1 := by kernel_rfl
  have c28 : Tryz.prog.cellsOf 28 = 4 := by kernel_rfl
  have f1 : (List.flatMap (cd.enc 3) x.cpu.r).length = 6 := flat_length' 3 x.cpu.r 6 1 a1 c3
  have f2 : (List.flatMap (cd.enc 3) x.cpu.sP).length = 2 := flat_length' 3 x.cpu.sP 2 1 a2 c3
  have f3 : (List.flatMap (cd.enc 28) x.mmu.pages).length = 64 := flat_length' 28 x.mmu.pages 16 4 a3 c28
  simp only [leaves, leaf, List.flatMap_cons, List.flatMap_nil, List.length_append, f1, f2, f3, List.length_cons, List.length_nil, Array.length_toList] at h1
  omega
/-- what a call that turns a machine into another leaves -/
def Turned (Fz : Nat → Prop) (W : World) (y : Machine) (e : Ending) (W' : World) : Prop :=
  ∃ cs' Fz', e = .returned (.agg cs') ∧ IsM Fz' W' y cs' ∧ FzOk cd Fz' W' ∧ Frz Fz W Fz' W' ∧ Below W.heap.size W W' ∧ ∀ j, Fz' j → Fz j ∨ W.heap.size ≤ j
theorem ext0 (k : Nat) : Ext M0 (Mk k) := fun b i h => by cases h
theorem turned_of {Fz Fz' : Nat → Prop} {W W' : World} {M : Mp} {y : Machine} {e : Ending} {u : Value} {cs : List (C U)} (hcs : cs = cMachine.enc y) (he : e = .returned u) (hr : RV Tryz.prog cd M Fz' W' (.agg cs) u) (h1 : FzOk cd Fz' W') (h2 : Frz Fz W Fz' W') (h3 : Below W.heap.size W W') (h4 : ∀ j, Fz' j → Fz j ∨ W.heap.size ≤ j) : Turned Fz W y e W' := by
  obtain ⟨a, rfl, hl⟩ := hr
  subst hcs
  exact ⟨a, Fz', he, RL.cells cd_nomp hl (leaves_nomp y) (fun _ _ h => h), h1, h2, h3, h4⟩
theorem fn_det {f : Nat} {M : Mp} {F : Nat → Prop} {w : World} {u : List Value} (h : RL Tryz.prog cd M F w [.fn f [] []] u) : u = [fn0 f] := by
  obtain ⟨_, h1, h2⟩ := h
  match u, h1 with
  | [v], _ =>
    have h3 : R1 Tryz.prog cd M F w (.fn f [] []) v := h2 0 _ v rfl rfl
    cases h3
    rfl
theorem int_det {n : Int} {M : Mp} {F : Nat → Prop} {w : World} {u : List Value} (h : RL Tryz.prog cd M F w [.int .i64 n] u) : u = [.int .i64 n] := by
  obtain ⟨_, h1, h2⟩ := h
  match u, h1 with
  | [v], _ =>
    have h3 : R1 Tryz.prog cd M F w (.int .i64 n) v := h2 0 _ v rfl rfl
    cases h3
    rfl
theorem one_rl {c : C U} {v : Value} {M : Mp} {F : Nat → Prop} {w : World} (hok : okA [c]) (hl : leaves cd [c] = [c]) (h : R1 Tryz.prog cd M F w c v) : RL Tryz.prog cd M F w [c] [v] := by
  refine ⟨hok, by rw [hl]; rfl, fun j c' v' h1 h2 => ?_⟩
  rw [hl] at h1
  cases j with
  | zero =>
    have h1 : c' = c := by simpa using h1.symm
    have h2 : v' = v := by simpa using h2.symm
    subst h1; subst h2; exact h
  | succ j => simp at h1
theorem fn_rl (f : Nat) (M : Mp) (F : Nat → Prop) (w : World) : RL Tryz.prog cd M F w [.fn f [] []] [fn0 f] :=
  one_rl (fun t n l h => by simp at h) rfl (R1.fn f [] [] (fun _ => undef) (fun _ => undef) (fun j x h => by simp at h) (fun j x h => by simp at h))
theorem int_rl (n : Int) (M : Mp) (F : Nat → Prop) (w : World) : RL Tryz.prog cd M F w [.int .i64 n] [.int .i64 n] :=
  one_rl (fun t n l h => by simp at h) rfl (R1.int _ _)
theorem args_m {Fz : Nat → Prop} {W : World} {x : Machine} {cs : Array Value} (h : IsM Fz W x cs) : RVs Tryz.prog cd M0 Fz W [.agg (cMachine.enc x)] [.agg cs] :=
  ⟨rfl, fun j y v h1 h2 => by
    cases j with
    | zero =>
      obtain rfl : y = .agg (cMachine.enc x) := by simpa using h1.symm
      obtain rfl : v = .agg cs := by simpa using h2.symm
      exact ⟨cs, rfl, h⟩
    | succ j => simp at h1⟩
theorem args_mp {Fz : Nat → Prop} {W : World} {x : Machine} {cs : Array Value} {b : Nat} (h : IsM Fz W x cs) : RVs Tryz.prog cd (Mk b) Fz W [.agg (cMachine.enc x), .one (.ptr 0 0)] [.agg cs, pt b] :=
  ⟨rfl, fun j y v h1 h2 => by
    match j with
    | 0 =>
      obtain rfl : y = .agg (cMachine.enc x) := by simpa using h1.symm
      obtain rfl : v = .agg cs := by simpa using h2.symm
      exact ⟨cs, rfl, RL.mono h (ext0 b) (.refl _ _)⟩
    | 1 =>
      obtain rfl : y = .one (.ptr 0 0) := by simpa using h1.symm
      obtain rfl : v = pt b := by simpa using h2.symm
      exact R1.ptr 0 0 b rfl
    | j + 2 => simp at h1⟩
end Go.Proofs.YtfdndagnolbnhaaGreat
end
section
set_option linter.unusedVariables false
namespace Go.Proofs.YtfdndagnolbnhaaGreat
open Go Go.RowKit Go.Ab
/-- one device after the other -/
noncomputable def runK (f : Kind → Machine → Option Machine) : List Kind → Machine → Option Machine
  | [], x => some x
  | d :: ds, x => (f d x).bind (runK f ds)
theorem runK_app (f : Kind → Machine → Option Machine) (a b : List Kind) (x : Machine) : runK f (a ++ b) x = (runK f a x).bind (runK f b) := by
  induction a generalizing x with
  | nil => rfl
  | cons d a ih =>
    simp only [List.cons_append, runK]
    cases f d x with
    | none => rfl
    | some y => exact ih y
noncomputable def acceptK (v : Int) (d : Kind) (x : Machine) : Option Machine := match d with
  | .clock => bus_theClock_4 x v ()
  | .disk => bus_theDisk_4 x v ()
  | .tape => bus_theTape_4 x v ()
  | .line i => bus_theLine_3 x v (i : Int)
noncomputable def resetK (d : Kind) (x : Machine) : Option Machine := match d with
  | .clock => bus_theClock_5 x ()
  | .disk => bus_theDisk_5 x ()
  | .tape => bus_theTape_5 x ()
  | .line i => bus_theLine_4 x (i : Int)
noncomputable def reqK (d : Kind) (x : Machine) : Option (List Request) := match d with
  | .clock => bus_theClock_3 x
  | .disk => bus_theDisk_3 x
  | .tape => bus_theTape_3 x
  | .line i => bus_theLine_2 x (i : Int)
noncomputable def runR (f : Kind → Option (List Request)) : List Kind → Option (List Request)
  | [] => some []
  | d :: ds => (f d).bind fun a => (runR f ds).map fun b => a ++ b
/-- the devices' functions never fail, one after the other -/
def Sure (f : Kind → Machine → Option Machine) (ks : List Kind) (x : Machine) : Prop := ∃ V : Machine → Prop, V x ∧ ∀ d ∈ ks, ∀ z, V z → ∃ z', f d z = some z' ∧ V z'
open Classical in
noncomputable def bus_Accept (q : Option Nat) (x : Machine) (v : Int) : Option Machine :=
  if x.lines.length ≤ 100 ∧ Sure (acceptK v) (kindsOf x.lines.length true) x then runK (acceptK v) (kindsOf x.lines.length true) x else none
open Classical in
noncomputable def bus_Reset (q : Option Nat) (x : Machine) : Option Machine :=
  if x.lines.length ≤ 100 ∧ Sure resetK (kindsOf x.lines.length true) x then (runK resetK (kindsOf x.lines.length true) x).bind fun y => (mmu_Reset y.mmu).map fun m => { y with mmu := m } else none
open Classical in
noncomputable def bus_Requests (q : Option Nat) (x : Machine) : Option (List Request) :=
  if x.lines.length ≤ 100 ∧ ∀ d ∈ kindsOf x.lines.length true, ∃ r, reqK d x = some r ∧ r.length ≤ 100 then runR (fun d => reqK d x) (kindsOf x.lines.length true) else none
noncomputable def Sbus_Accept : List (V U) → List (Blk U) → Option (FnOut U) := mkSpec (aA cMachine (aO (cInt .i64) aNil)) bNil (fun x _ => bus_Accept none x.1 x.2.1) (fun r => ([vA cMachine r], []))
noncomputable def Sbus_Reset : List (V U) → List (Blk U) → Option (FnOut U) := mkSpec (aA cMachine aNil) bNil (fun x _ => bus_Reset none x.1) (fun r => ([vA cMachine r], []))
noncomputable def Sbus_Requests : List (V U) → List (Blk U) → Option (FnOut U) := mkSpec (aA cMachine aNil) bNil (fun x _ => bus_Requests none x.1) (fun r => ([vO (cSl 84) r], []))
/-- what is known of a function to which no block is handed -/
theorem fnOk_of {α β : Type} {f : Nat} {A : Arg U α} {F : α → Option β} {R : β → List (V U)} (hA : A.Ok) {fn : Func} (hf : Tryz.prog.funcs[f]? = some fn) (hn : (fn.name == "runtime.NumGoroutine") = false) (hb : fn.body.isSome = true)
    (h : ∀ (Fz : Nat → Prop) (W : World) (x : α) (y : β) (vs : List Value), FzOk cd Fz W → RVs Tryz.prog cd M0 Fz W (A.enc x) vs → F x = some y → Calls Tryz.prog f vs.toArray W fun e W' => ∃ v Fz', e = .returned v ∧ RD Tryz.prog cd M0 Fz' W' (resD (R y)) v ∧ FzOk cd Fz' W' ∧ Frz Fz W Fz' W' ∧ Below W.heap.size W W' ∧ ∀ k, Fz' k → Fz k ∨ W.heap.size ≤ k) :
    FnOk Tryz.prog cd f (mkSpec A bNil (fun x _ => F x) (fun r => (R r, []))) := by
  intro M Fz w hp args vargs hr ha r hsp o ho p hp'
  unfold mkSpec at hsp
  cases h1 : A.dec args with
  | none => rw [h1] at hsp; cases hsp
  | some x =>
    cases h2 : (bNil : Bls U Unit).dec hp with
    | none => rw [h1, h2] at hsp; cases hsp
    | some g =>
      rw [h1, h2] at hsp
      have hsp : _ = r := Option.some.inj hsp
      subst hsp
      have hhp : hp = [] := by
        cases hp with
        | nil => rfl
        | cons b l => cases h2
      subst hhp
      obtain rfl := none_of hr
      obtain rfl := hA _ _ h1
      have hp' : some (R o, []) = some p := hp'
      have hp' := Option.some.inj hp'
      subst hp'
      refine ⟨fn, hf, hn, hb, (h Fz w x o vargs hr.fz ha ho).mono ?_⟩
      rintro e W' ⟨v, Fz', he, q1, q2, q3, q4, q5⟩
      exact ⟨v, he, M0, Fz', q1, hr_none q2, .refl _, q3, ⟨q4.os, q4.tape, q4.output, q4.size, fun k hk _ => q4.block k hk⟩, fun k ⟨b, i, hb, _⟩ => by (cases hb), fun k hk => (q5 k hk).imp id .inr⟩
end Go.Proofs.YtfdndagnolbnhaaGreat
end
section
set_option linter.unusedVariables false
namespace Go.Proofs.YtfdndagnolbnhaaGreat
open Go Go.RowKit Go.Ab
attribute [local go_sem] Oper.semAt_some
/-- the cell of a machine's lines -/
theorem lines_cell {Fz : Nat → Prop} {W : World} {x : Machine} {cs : Array Value} (h : IsM Fz W x cs) : ∃ a cap, cs[83]? = some (.slice a x.lines.length cap) := by
  have hs := h.size
  have ha : ∀ t n l, C.arr t n l ∈ cMachine.enc x → l.length = n := h.1
  have hh := h.2.2
  rw [enc_machine] at ha hh
  have a1 := ha 3 6 x.cpu.r (by simp)
  have a2 := ha 3 2 x.cpu.sP (by simp)
  have a3 := ha 28 16 x.mmu.pages (by simp)
  have c3 : Tryz.prog.cellsOf 3 = 1 := by kernel_rfl
  have c28 : Tryz.prog.cellsOf 28 = 4 := by kernel_rfl
  have f1 : (List.flatMap (cd.enc 3) x.cpu.r).length = 6 := flat_length' 3 x.cpu.r 6 1 a1 c3
  have f2 : (List.flatMap (cd.enc 3) x.cpu.sP).length = 2 := flat_length' 3 x.cpu.sP 2 1 a2 c3
  have f3 : (List.flatMap (cd.enc 28) x.mmu.pages).length = 64 := flat_length' 28 x.mmu.pages 16 4 a3 c28
  have hv : cs.toList[83]? = some cs[83] := by simp [hs]
  have hq := hh 83 (.sl 55 x.lines false) cs[83] (by
    simp only [leaves, leaf, List.flatMap_cons, List.flatMap_nil]
    rw [List.getElem?_append_right (by omega), f1, List.getElem?_append_right (by omega), f2]
    simp only [Nat.reduceSub, List.cons_append, List.nil_append, List.getElem?_cons_succ]
    rw [List.getElem?_append_right (by omega), f3]
    rfl) hv
  generalize cs[83] = v at hq hv
  cases hq with
  | sl t l full a cap f h1 h0 h2 h3 => exact ⟨a, cap, by rw [← Array.getElem?_toList]; exact hv⟩
theorem own_cells {W W' : World} {row : Option Nat} {B : Nat} (hg : W.grownBy W' row) (hr : ∀ r, row = some r → B ≤ r ∧ ∃ o : Obj, W.heap[r]? = some o ∧ o.isCells = false) {k : Nat} {cs : Array Value} {t : TypeId} {fr : Nat × Nat} (h : W.heap[k]? = some (.cells cs t fr)) : W'.heap[k]? = some (.cells cs t fr) := by
  refine (hg.block k (Array.getElem?_eq_some_iff.1 h).1 fun e => ?_).trans h
  obtain ⟨_, o, ho, hc⟩ := hr k e.symm
  rw [h] at ho; cases ho; cases hc
/-- between two rounds: the machine in its box -/
structure Between (f : Kind → Machine → Option Machine) (V : Machine → Prop) (Fz : Nat → Prop) (W : World) (n1 : Nat) (x : Machine) (ks : List Kind) (Wr : World) : Prop where
  it : ∃ z cs' Fz', runK f ks x = some z ∧ V z ∧ IsM Fz' Wr z cs' ∧ FzOk cd Fz' Wr ∧ Wr.heap[W.heap.size]? = some (.cells cs' 44 (0, 0)) ∧ (∀ k, Fz k → Fz' k) ∧ (∀ k, Fz' k → Fz k ∨ n1 ≤ k)
  below : Below W.heap.size W Wr
  size : n1 ≤ Wr.heap.size
theorem Between.own {f : Kind → Machine → Option Machine} {V : Machine → Prop} {Fz : Nat → Prop} {W W1 W2 : World} {n1 : Nat} {x : Machine} {ks : List Kind} {row : Option Nat} (h : Between f V Fz W n1 x ks W1) (hn : W.heap.size ≤ n1) (hg : W1.grownBy W2 row) (hr : ∀ r, row = some r → n1 ≤ r ∧ ∃ o : Obj, W1.heap[r]? = some o ∧ o.isCells = false) : Between f V Fz W n1 x ks W2 := by
  obtain ⟨⟨z, cs', Fz', h1, h2, h3, h4, h5, h6, h7⟩, hb, hsz⟩ := h
  have hc := cells_grown hg (fun r e => (hr r e).2)
  exact ⟨⟨z, cs', Fz', h1, h2, RL.cells cd_nomp h3 (leaves_nomp z) hc, h4.cells hg.size hc, own_cells hg hr h5, h6, h7⟩, hb.grown hg hb.size (fun k e => Nat.le_trans hn (hr k e).1), Nat.le_trans hsz hg.size⟩
theorem wpListIn_load_row {F : Fence} {n : Nat} {P : Program} {ops : Array Oper} {rest : List Oper} {o : Oper} {a : Act} {w : World} {Q : Exit → Act → World → Prop} (hgd : o.guard = none) (ty : TypeId) (x : Operand) (ho : o.op = .load ty x)
    (g : Nat) (hx : a.eval x = .pointer (some ⟨g, 0, none⟩)) (t : TypeId) (cs : Array Value) (fr : Nat × Nat) (d : TypeDesc) (hg : w.heap[g]? = some (.cells cs t fr))
    (hu : P.underlying ty = some d) (hd : (match d with | .struct _ | .array _ _ => true | _ => false) = true) (hi : (P.info? ty).map (·.size) = some cs.size)
    (h : wpListIn F n P ops Q rest (a.put o.dst (.agg cs)) w) : wpListIn F n P ops Q (o :: rest) a w := by
  refine wpListIn_plain hgd fun K hK' => ?_
  unfold Oper.wpIn
  refine ⟨?_, ?_⟩
  · simp [Oper.about, ho]
  · rw [Oper.semAt_plain F _ _ (by rw [ho]; intro c hc'; cases hc')]
    unfold execOp
    simp only [ho, hx, Instr.loadAt, Instr.sureAddr, Sem.run_bind, Sem.run_pure, Result.andThen_ok, run_loadVar_row w g t ty cs fr d hg hu hd hi]
    exact hK' _ _ h
theorem wpListIn_store_row {F : Fence} {n : Nat} {P : Program} {ops : Array Oper} {rest : List Oper} {o : Oper} {a : Act} {w : World} {Q : Exit → Act → World → Prop} (hgd : o.guard = none) (ty : TypeId) (x y : Operand) (ho : o.op = .store ty x y)
    (g : Nat) (cells : Array Value) (hx : a.eval x = .pointer (some ⟨g, 0, none⟩)) (hy : a.eval y = .agg cells)
    (t : TypeId) (old : Array Value) (hg : w.heap[g]? = some (.cells old t (0, 0))) (hi : (P.info? ty).map (·.size) = some cells.size)
    (hold : old.size = cells.size) (h1 : cells.all (·.oneCell') = true)
    (h : wpListIn F n P ops Q rest (a.put o.dst undef) (w.setRow g cells)) : wpListIn F n P ops Q (o :: rest) a w := by
  refine wpListIn_plain hgd fun K hK' => ?_
  unfold Oper.wpIn
  refine ⟨?_, ?_⟩
  · simp [Oper.about, ho]
  · rw [Oper.semAt_plain F _ _ (by rw [ho]; intro c hc'; cases hc')]
    unfold execOp
    simp only [ho, hx, hy, Instr.storeAt, Instr.sureAddr, Sem.run_bind, Sem.run_pure, Result.andThen_ok, run_storeVar_row w g t ty old cells hg hi hold h1]
    exact hK' _ _ h
theorem info44 : (Tryz.prog.info? 44).map (·.size) = some 110 := by kernel_rfl
theorem IsM.one {Fz : Nat → Prop} {W : World} {x : Machine} {cs : Array Value} (h : IsM Fz W x cs) : cs.all (·.oneCell') = true := by
  have h1 := RL.scal cd_ok h (by rw [enc_machine]; rfl)
  rw [Array.all_eq_true]
  intro i hi
  exact h1 _ (by simp)
theorem lies_setRow {W : World} {d : Dev} {g : Nat} {cs : Array Value} (h : d.lies W) (hne : d.cap ≠ g) : d.lies (W.setRow g cs) := by
  cases d <;> exact (setRow_other W g _ cs hne).trans h
theorem setRow_below {B g : Nat} {W W' : World} {cs : Array Value} (h : Below B W W') (hg : B ≤ g) : Below B W (W'.setRow g cs) :=
  ⟨h.os, h.tape, h.output, by simp; exact h.size, fun k hk => (setRow_other _ _ _ _ (by omega)).trans (h.block k hk)⟩
theorem putObj_below {B g : Nat} {W W' : World} {o : Obj} (h : Below B W W') (hg : B ≤ g) : Below B W (W'.putObj g o) :=
  ⟨h.os, h.tape, h.output, by simp [World.putObj]; exact h.size, fun k hk => (World.putObj_heap_other (by omega)).trans (h.block k hk)⟩
theorem cells_putObj {W : World} {D : Nat} {o o' : Obj} (hD : W.heap[D]? = some o) (ho : o.isCells = false) : ∀ a u, W.cell? a = some u → (W.putObj D o').cell? a = some u := fun a u h => by
  by_cases e : a.block = D
  · unfold World.cell? at h
    rw [e, hD] at h
    cases o <;> simp [Obj.isCells] at h ho
  · unfold World.cell? at h ⊢
    rw [World.putObj_heap_other (by omega)]; exact h
/-- the end of a function that has turned a machine in its box -/
theorem left_turned {Fz Fz' : Nat → Prop} {W Wd : World} {z : Machine} {cs' old : Array Value} {D R n : Nat} {tmps : Array Value} {fn : Func} {p : Tmp} (hfz : FzOk cd Fz W) (hr : fn.results = #[.cell p 44]) (hp : tmps.getD p undef = .pointer (some ⟨R, 0, none⟩)) (q3 : IsM Fz' Wd z cs') (q4 : FzOk cd Fz' Wd) (q6 : ∀ k, Fz k → Fz' k) (q7 : ∀ k, Fz' k → Fz k ∨ R < k)
    (hbel : Below W.heap.size W Wd) (hR : W.heap.size ≤ R) (hRD : R < D) (hIr : Wd.heap[R]? = some (.cells old 44 (0, 0))) (hDf : Wd.heap[D]? = some (.deferred (some []))) :
    LeavesInM Fence.wide n Tryz.prog fn tmps (Turned Fz W z) [{ target := .collected D, args := #[] }] .returning (Wd.setRow R cs') := by
  have hsz3 := q3.size
  have hDW : W.heap.size ≤ D := by omega
  have hset := setRow_heap Wd R old cs' 44 (0, 0) hIr
  have hD2 : (Wd.setRow R cs').heap[D]? = some (.deferred (some [])) := (setRow_other _ _ _ _ (by omega)).trans hDf
  have hfr : Frz Fz' Wd Fz' (Wd.setRow R cs') := fun k hk => ⟨hk, setRow_other _ _ _ _ (fun e => by
    subst e
    rcases q7 _ hk with h | h
    · have := hfz.lt _ h; omega
    · omega)⟩
  have hc := cells_putObj (o' := .deferred none) hD2 rfl
  have hb2 : Below W.heap.size W ((Wd.setRow R cs').putObj D (.deferred none)) := putObj_below (setRow_below hbel hR) hDW
  have g1 : IsM Fz' (Wd.setRow R cs') z cs' := RL.mono q3 (Ext.refl _) hfr
  have g2 : FzOk cd Fz' (Wd.setRow R cs') := q4.mono hfr (fun k hk => by simp; exact q4.lt k hk)
  refine ⟨by simp, .inl ⟨_, _, rfl, run_takeDeferred hD2, ?_⟩⟩
  refine ⟨.agg cs', results_cell_row hr _ _ R 44 cs' (0, 0) _ hp ((World.putObj_heap_other (by omega)).trans hset) Tryz.underlying44 rfl (by rw [hsz3]; exact info44), cs', Fz', rfl, ?_, ?_, ?_, hb2, ?_⟩
  · exact RL.cells cd_nomp g1 (leaves_nomp z) hc
  · exact g2.cells (by simp [World.putObj]) hc
  · exact fun k hk => ⟨q6 k hk, hb2.block k (hfz.lt k hk)⟩
  · exact fun k hk => (q7 k hk).imp id (by omega)
theorem turned_fn {Fz : Nat → Prop} {W W' : World} {y : Machine} {e : Ending} (h : Turned Fz W y e W') : ∃ v Fz', e = .returned v ∧ RD Tryz.prog cd M0 Fz' W' (resD [vA cMachine y]) v ∧ FzOk cd Fz' W' ∧ Frz Fz W Fz' W' ∧ Below W.heap.size W W' ∧ ∀ k, Fz' k → Fz k ∨ W.heap.size ≤ k := by
  obtain ⟨cs', Fz', rfl, h1, h2, h3, h4, h5⟩ := h
  exact ⟨.agg cs', Fz', rfl, ⟨cs', rfl, h1⟩, h2, h3, h4, h5⟩
theorem arg_m {Fz : Nat → Prop} {W : World} {x : Machine} {vs : List Value} (h : RVs Tryz.prog cd M0 Fz W ((aA cMachine aNil).enc (x, ())) vs) : ∃ cs, vs = [.agg cs] ∧ IsM Fz W x cs := by
  obtain ⟨h1, h2⟩ := h
  match vs, h1 with
  | [v], _ =>
    obtain ⟨cs, rfl, h3⟩ : RV Tryz.prog cd M0 Fz W (vA cMachine x) v := h2 0 _ v rfl rfl
    exact ⟨cs, rfl, h3⟩
end Go.Proofs.YtfdndagnolbnhaaGreat
end
section
set_option linter.unusedVariables false
namespace Go.Proofs.YtfdndagnolbnhaaGreat
open Go Go.RowKit Go.Shelf
attribute [local go_sem] Oper.semAt_some
set_option maxRecDepth 100000 in
set_option maxHeartbeats 2000000 in
theorem devices_true (k : Nat) (hk : k ≤ 100) (w : World) : Calls Tryz.prog 28 #[.int .i64 k, .bool true] w fun e w' => ∃ Bs v ds, e = .returned (.func (.func 152) #[] #[pt Bs]) ∧ Boxed w' Bs 117 v ∧ w.heap.size ≤ Bs ∧ ds.map Dev.kind = kindsOf k true ∧ Holds w.heap.size w' v ds ∧ Below w.heap.size w w' := by
  obtain ⟨i0, hi, hz0, hz1, hz2⟩ := info_parts info74
  go_enter Tryz.func28, Tryz.ntmps28
  go_wp2_with (first
    | (go_at_call 68; refine (theClock_in _).mono ?_; rintro e w1 ⟨_, rfl, rfl, hb1, hs1, hl1⟩; (have H0 := holds_one (n₀ := w.heap.size) (W := w1) (d := .clock (w.heap.size + 1)) (by omega) hl1 (Nat.le_succ _)); rw [hs1] at H0; dsimp only [Dev.fs, fn1, fn0, pt])
    | (go_at_call 69; refine (theDisk_in _).mono ?_; rintro e w4 ⟨_, rfl, rfl, hb4, hs4, hl4⟩; simp only [World.size_alloc, hs1] at hs4 hl4 ⊢; dsimp only [Dev.fs, fn1, fn0, pt])
    | (go_at_call 70; refine (theTape_in _).mono ?_; rintro e w5 ⟨_, rfl, rfl, hb5, hs5, hl5⟩; simp only [hs4] at hs5 hl5 ⊢; dsimp only [Dev.fs, fn1, fn0, pt])
    | (at_builtin; refine wpList_append_own _ rfl (.tmp 10) (.tmp 13) 117 rfl w.heap.size 74 i0 (.agg #[.nilFunc, .nilFunc, .nilFunc, .nilFunc]) 4 32 Tryz.underlying117 hi hz0 hz1 hz2 rfl (by decide) _ _ _ rfl (((H0.below hb4).below hb5).alloc (.cells (dt (w.heap.size + 2 + 1 + 1) (w.heap.size + 2 + 1 + 2 + 1)) 74)).1 ⟨w.heap.size + 2 + 1 + 2 + 2, 0, none⟩ 2 2 (dt (w.heap.size + 2 + 1 + 1) (w.heap.size + 2 + 1 + 2 + 1)).toList rfl rfl (by rw [show w.heap.size + 2 + 1 + 2 + 2 = w5.heap.size by omega]; exact cell_arr_new w5 (dt _ _) 74) (dt_one _ _) (by simp [maxLen]) (by simp) (by simp; omega) ?_; intro v1 w3 hown3 hgrow3 hnil3))
  have B1 : Below w.heap.size w (w1.alloc (.cells (Dev.clock (w.heap.size + 1)).fs 74)) := hb1.alloc hb1.size _
  have B4 : Below w.heap.size w w4 := B1.trans (hb4.mono (by simp; omega))
  have B5 : Below w.heap.size w w5 := B4.trans (hb5.mono (by omega))
  have hs5' := B5.size
  have H3 := (((H0.below hb4).below hb5).alloc (.cells (dt (w.heap.size + 2 + 1 + 1) (w.heap.size + 2 + 1 + 2 + 1)) 74)).app (ds2 := [.disk (w.heap.size + 2 + 1 + 1), .tape (w.heap.size + 2 + 1 + 2 + 1)]) (fun d hd => by
    have hd : d = .disk (w.heap.size + 2 + 1 + 1) ∨ d = .tape (w.heap.size + 2 + 1 + 2 + 1) := by simpa using hd
    rcases hd with rfl | rfl
    · exact ⟨(hl4.below hb5 hl4.lt).below ((Below.refl _ w5).alloc (Nat.le_refl _) _) (hl4.below hb5 hl4.lt).lt, by simp [Dev.cap]; omega⟩
    · exact ⟨hl5.below ((Below.refl _ w5).alloc (Nat.le_refl _) _) hl5.lt, by simp [Dev.cap]; omega⟩) (by rw [show cellsOf [Dev.disk (w.heap.size + 2 + 1 + 1), Dev.tape (w.heap.size + 2 + 1 + 2 + 1)] = (dt (w.heap.size + 2 + 1 + 1) (w.heap.size + 2 + 1 + 2 + 1)).toList by simp [cellsOf, Dev.fs, dt]]; exact hown3) hgrow3
  have B3 : Below w.heap.size w w3 := (B5.alloc hs5' _).grown hgrow3 (by simp; omega) (fun r hr => (H0.1.lt r hr).1)
  clear hown3 hgrow3 hnil3
  go_loopw [5, 16] (fun v i wr => ∃ (j : Nat) (ds : List Dev), j ≤ k ∧ i = .int .i64 j ∧ ds.map Dev.kind = [Kind.clock, .disk, .tape] ++ (List.range j).map .line ∧ Holds w.heap.size wr v ds ∧ Below w.heap.size w wr)
    (fun _ i _ => k - (intOf i).toNat)
  case atStart => exact ⟨0, [.clock (w.heap.size + 1)] ++ [.disk (w.heap.size + 2 + 1 + 1), .tape (w.heap.size + 2 + 1 + 2 + 1)], Nat.zero_le _, rfl, rfl, H3, B3⟩
  case round =>
    obtain ⟨j, ds, hj, rfl, hk2, hH, hnx⟩ := hrel
    have hlen : ds.length = j + 3 := by have := congrArg List.length hk2; simp at this; omega
    have hsize := hnx.size
    go_wp2_with (first
      | (go_at_call 71; refine (theLine_in j _).mono ?_; rintro e w2 ⟨_, rfl, rfl, hb2, hs2, hl2⟩; dsimp only [Dev.fs, fn1, fn0, pt])
      | (at_builtin; refine wpList_append_own _ rfl (.tmp 19) (.tmp 22) 117 rfl w.heap.size 74 i0 (.agg #[.nilFunc, .nilFunc, .nilFunc, .nilFunc]) 4 32 Tryz.underlying117 hi hz0 hz1 hz2 rfl (by decide) _ _ _ rfl ((hH.below hb2).alloc (.cells (Dev.line j wr.heap.size).fs 74)).1 ⟨wr.heap.size + 2, 0, none⟩ 1 1 (Dev.line j wr.heap.size).fs.toList rfl rfl (by rw [← hs2]; exact cell_arr_new w2 (Dev.line j wr.heap.size).fs 74) (fs_one _) (by unfold maxLen; omega) (by omega) (by simp; omega) ?_; intro v6 w6 hown6 hgrow6 hnil6)
      | (go_at_call 72; obtain ⟨qa, qn, qc, rfl⟩ := slice_of hH.1; refine (values_in _ _ _ _).mono ?_; rintro e w7 ⟨rfl, hbox, hb7⟩))
    · have hB2 : Below w.heap.size w w2 := hnx.trans (hb2.mono hsize)
      have hs2' := hB2.size
      refine ⟨⟨j + 1, ds ++ [.line j wr.heap.size], by omega, rfl, ?_, ?_, ?_⟩, by simp [intOf]; omega⟩
      · rw [List.map_append, hk2, List.range_succ, List.map_append, List.append_assoc]; rfl
      · refine ((hH.below hb2).alloc (.cells (Dev.line j wr.heap.size).fs 74)).app (ds2 := [.line j wr.heap.size]) (fun d hd => ?_) ?_ hgrow6
        · have hd : d = .line j wr.heap.size := by simpa using hd
          subst hd
          exact ⟨hl2.below ((Below.refl _ w2).alloc (Nat.le_refl _) _) hl2.lt, hsize⟩
        · rw [show cellsOf [Dev.line j wr.heap.size] = (Dev.line j wr.heap.size).fs.toList by simp [cellsOf]]; exact hown6
      · exact (hB2.alloc hs2' _).grown hgrow6 (by simp; omega) (fun r hr => (hH.1.lt r hr).1)
    · have hjk : j = k := by omega
      subst hjk
      go_ret
      refine ⟨wr.heap.size, _, ds, rfl, hbox, hsize, ?_, hH.below hb7, hnx.trans (hb7.mono hsize)⟩
      rw [hk2]
      simp [kindsOf]
end Go.Proofs.YtfdndagnolbnhaaGreat
end
section
set_option linter.unusedVariables false
namespace Go.Proofs.YtfdndagnolbnhaaGreat
open Go Go.RowKit Go.Ab
attribute [local go_sem] Oper.semAt_some
theorem args_mip {Fz : Nat → Prop} {W : World} {x : Machine} {cs : Array Value} {b : Nat} {v : Int} (h : IsM Fz W x cs) : RVs Tryz.prog cd (Mk b) Fz W [.agg (cMachine.enc x), .one (.int .i64 v), .one (.ptr 0 0)] [.agg cs, .int .i64 v, pt b] :=
  ⟨rfl, fun j y u h1 h2 => by
    match j with
    | 0 =>
      obtain rfl : y = .agg (cMachine.enc x) := by simpa using h1.symm
      obtain rfl : u = .agg cs := by simpa using h2.symm
      exact ⟨cs, rfl, RL.mono h (ext0 b) (.refl _ _)⟩
    | 1 =>
      obtain rfl : y = .one (.int .i64 v) := by simpa using h1.symm
      obtain rfl : u = .int .i64 v := by simpa using h2.symm
      exact R1.int _ _
    | 2 =>
      obtain rfl : y = .one (.ptr 0 0) := by simpa using h1.symm
      obtain rfl : u = pt b := by simpa using h2.symm
      exact R1.ptr 0 0 b rfl
    | j + 3 => simp at h1⟩
theorem accept_call (d : Dev) (v : Int) {Fz : Nat → Prop} {W : World} {x y : Machine} {cs : Array Value} (hl : d.lies W) (hfz : FzOk cd Fz W) (hcap : ¬ Fz d.cap) (hm : IsM Fz W x cs) (hF : acceptK v d.kind x = some y) :
    ∃ f cap, d.fs[2]? = some (.func (.func f) #[] cap) ∧ Calls Tryz.prog f (#[.agg cs, .int .i64 v] ++ cap) W (Turned Fz W y) := by
  cases d with
  | clock b =>
    refine ⟨121, #[pt b], rfl, (call1 okbus_theClock_4 (x := (x, v, ())) (g := ((), ())) (by kernel_rfl) (c := .fn 116 [] []) (t := 159) (by kernel_rfl) hF rfl hfz hl hcap (fn_rl 116 _ _ _) (fun _ _ _ _ h => fn_det h) (args_mip hm)).mono ?_⟩
    rintro e W' ⟨u, F', he, h1, h2, h3, h4, h5⟩
    exact turned_of (by kernel_rfl) he h1 h2 h3 h4 h5
  | disk b =>
    refine ⟨130, #[pt b], rfl, (call1 okbus_theDisk_4 (x := (x, v, ())) (g := ((), ())) (by kernel_rfl) (c := .fn 125 [] []) (t := 160) (by kernel_rfl) hF rfl hfz hl hcap (fn_rl 125 _ _ _) (fun _ _ _ _ h => fn_det h) (args_mip hm)).mono ?_⟩
    rintro e W' ⟨u, F', he, h1, h2, h3, h4, h5⟩
    exact turned_of (by kernel_rfl) he h1 h2 h3 h4 h5
  | tape b =>
    refine ⟨139, #[pt b], rfl, (call1 okbus_theTape_4 (x := (x, v, ())) (g := ((), ())) (by kernel_rfl) (c := .fn 134 [] []) (t := 161) (by kernel_rfl) hF rfl hfz hl hcap (fn_rl 134 _ _ _) (fun _ _ _ _ h => fn_det h) (args_mip hm)).mono ?_⟩
    rintro e W' ⟨u, F', he, h1, h2, h3, h4, h5⟩
    exact turned_of (by kernel_rfl) he h1 h2 h3 h4 h5
  | line i b =>
    refine ⟨148, #[pt b], rfl, (call1 okbus_theLine_3 (x := (x, v, ())) (g := ((i : Int), ())) (by kernel_rfl) (c := .int .i64 (i : Int)) (t := 3) (by kernel_rfl) hF rfl hfz hl hcap (int_rl _ _ _ _) (fun _ _ _ _ h => int_det h) (args_mip hm)).mono ?_⟩
    rintro e W' ⟨u, F', he, h1, h2, h3, h4, h5⟩
    exact turned_of (by kernel_rfl) he h1 h2 h3 h4 h5
theorem reset_call (d : Dev) {Fz : Nat → Prop} {W : World} {x y : Machine} {cs : Array Value} (hl : d.lies W) (hfz : FzOk cd Fz W) (hcap : ¬ Fz d.cap) (hm : IsM Fz W x cs) (hF : resetK d.kind x = some y) :
    ∃ f cap, d.fs[3]? = some (.func (.func f) #[] cap) ∧ Calls Tryz.prog f (#[.agg cs] ++ cap) W (Turned Fz W y) := by
  cases d with
  | clock b =>
    refine ⟨123, #[pt b], rfl, (call1 okbus_theClock_5 (x := (x, ())) (g := ((), ())) (by kernel_rfl) (c := .fn 116 [] []) (t := 159) (by kernel_rfl) hF rfl hfz hl hcap (fn_rl 116 _ _ _) (fun _ _ _ _ h => fn_det h) (args_mp hm)).mono ?_⟩
    rintro e W' ⟨u, F', he, h1, h2, h3, h4, h5⟩
    exact turned_of (by kernel_rfl) he h1 h2 h3 h4 h5
  | disk b =>
    refine ⟨132, #[pt b], rfl, (call1 okbus_theDisk_5 (x := (x, ())) (g := ((), ())) (by kernel_rfl) (c := .fn 125 [] []) (t := 160) (by kernel_rfl) hF rfl hfz hl hcap (fn_rl 125 _ _ _) (fun _ _ _ _ h => fn_det h) (args_mp hm)).mono ?_⟩
    rintro e W' ⟨u, F', he, h1, h2, h3, h4, h5⟩
    exact turned_of (by kernel_rfl) he h1 h2 h3 h4 h5
  | tape b =>
    refine ⟨141, #[pt b], rfl, (call1 okbus_theTape_5 (x := (x, ())) (g := ((), ())) (by kernel_rfl) (c := .fn 134 [] []) (t := 161) (by kernel_rfl) hF rfl hfz hl hcap (fn_rl 134 _ _ _) (fun _ _ _ _ h => fn_det h) (args_mp hm)).mono ?_⟩
    rintro e W' ⟨u, F', he, h1, h2, h3, h4, h5⟩
    exact turned_of (by kernel_rfl) he h1 h2 h3 h4 h5
  | line i b =>
    refine ⟨150, #[pt b], rfl, (call1 okbus_theLine_4 (x := (x, ())) (g := ((i : Int), ())) (by kernel_rfl) (c := .int .i64 (i : Int)) (t := 3) (by kernel_rfl) hF rfl hfz hl hcap (int_rl _ _ _ _) (fun _ _ _ _ h => int_det h) (args_mp hm)).mono ?_⟩
    rintro e W' ⟨u, F', he, h1, h2, h3, h4, h5⟩
    exact turned_of (by kernel_rfl) he h1 h2 h3 h4 h5
set_option maxRecDepth 100000 in
set_option maxHeartbeats 4000000 in
theorem Accept_in {Fz : Nat → Prop} {W : World} {x y : Machine} {vec : Int} {cs : Array Value} (hfz : FzOk cd Fz W) (hm : IsM Fz W x cs) (hk : x.lines.length ≤ 100) (V : Machine → Prop) (hVx : V x)
    (hV : ∀ d ∈ kindsOf x.lines.length true, ∀ z, V z → ∃ z', acceptK vec d z = some z' ∧ V z') (hF : runK (acceptK vec) (kindsOf x.lines.length true) x = some y) :
    Calls Tryz.prog 12 #[.agg cs, .int .i64 vec] W (Turned Fz W y) := by
  obtain ⟨la, lcap, hlc⟩ := lines_cell hm
  refine (callsIn_wide (n := 5)).1 ?_
  refine callsIn_of_wp_marks Tryz.func12 rfl trivial ?_ rfl
  simp only [Tryz.ntmps12, List.size_toArray, List.length_cons, List.length_nil, Nat.reduceAdd, Nat.reduceSub, Array.replicate_succ, Array.replicate_zero, List.push_toArray, List.append_toArray, List.nil_append, List.cons_append]
  gi_wp2_with (refine ⟨trivial, ?_⟩; gi_at_call 28; refine (callsIn_wide.2 (devices_true x.lines.length hk _)).mono ?_; rintro e w1 ⟨Bs, v, ds, rfl, hbox, hBs, hkind, hH, hB⟩)
  have hs1 := hB.size
  simp only [World.size_alloc] at hBs hs1
  have hlen : 0 < ds.length := by
    have := congrArg List.length hkind
    simp [kindsOf] at this; omega
  have hlen2 : ds.length ≤ 1000 := by
    have := congrArg List.length hkind
    simp [kindsOf] at this; omega
  have hboxm : w1.heap[W.heap.size]? = some (.cells cs 44 (0, 0)) := (hB.block _ (by simp; omega)).trans ((Below.heap_alloc _ _ _ (by simp; omega)).trans ((Below.heap_alloc _ _ _ (by simp)).trans (heap_alloc_new W _)))
  have hres : w1.heap[W.heap.size + 2]? = some (.cells Tryz.zeroCells44 44 (0, 0)) := (hB.block _ (by simp)).trans (by
    have h := heap_alloc_new ((W.alloc (.cells cs 44)).alloc (.cells #[.int .i64 vec] 3)) (.cells Tryz.zeroCells44 44)
    simpa using h)
  have hvec : w1.heap[W.heap.size + 1]? = some (.cells #[.int .i64 vec] 3 (0, 0)) := (hB.block _ (by simp)).trans ((Below.heap_alloc _ _ _ (by simp)).trans (heap_alloc2_new W _ _))
  have hb1 : Below W.heap.size W w1 := ((((Below.refl _ W).alloc (Nat.le_refl _) _).alloc (by simp) _).alloc (by simp; omega) _).trans (hB.mono (by simp; omega))
  have hIM : IsM Fz w1 x cs := RL.cells cd_nomp hm (leaves_nomp x) (cells_below hb1)
  have h0 : Between (acceptK vec) V Fz W w1.heap.size x [] w1 := ⟨⟨x, cs, Fz, rfl, hVx, hIM, hfz.cells hb1.size (cells_below hb1), hboxm, fun _ h => h, fun _ h => .inl h⟩, hb1, Nat.le_refl _⟩
  refine wpIn_rangeFunc_ownH rfl (by omega) (gf := 152) (lb := #[pt Bs]) rfl trivial (enters_of Tryz.func152 (by kernel_rfl) rfl)
    (devs_stops Fence.wide (5 - 1) trivial rfl (by omega) Bs w1.heap.size _ v ds hlen2 hlen w1 rfl hbox hH) (fun h k => h.trans k)
    (fun X l o o' hl ho _ _ => ⟨by simp, fun k _ hk => World.putObj_heap_other (by omega)⟩) (Below.refl _ _) (fun _ => rfl)
    (fun (pre : List { d : Dev // d ∈ ds }) Wr => Between (acceptK vec) V Fz W w1.heap.size x (List.map (fun (d : { d : Dev // d ∈ ds }) => Dev.kind d.1) pre) Wr ∧ Wr.heap[W.heap.size + 2]? = some (.cells Tryz.zeroCells44 44 (0, 0)) ∧ Wr.heap[W.heap.size + 1]? = some (.cells #[.int .i64 vec] 3 (0, 0)) ∧ ∀ d ∈ ds, d.lies Wr)
    (fun _ _ _ => False)
    (fun pre A B row hs hg hr => ⟨hs.1.own (by omega) hg hr, own_cells hg hr hs.2.1, own_cells hg hr hs.2.2.1, fun d hd => lies_kept (hs.2.2.2 d hd) hg (fun e => by
      have h1 := (hr d.cap e.symm).1
      have h2 := (hH.2 d hd).1.lt
      omega)⟩)
    (fun _ _ _ _ _ hs _ _ => hs)
    ⟨h0, hres, hvec, fun d hd => (hH.2 d hd).1⟩
    (fun (d : { d : Dev // d ∈ ds }) a' Wr => ∃ Bx, w1.heap.size ≤ Bx ∧ Wr.heap[Bx]? = some (.cells d.1.fs 74 (0, 0)) ∧ a' = { tmps := #[.agg cs, .int .i64 vec, pt W.heap.size, pt (W.heap.size + 1), pt (W.heap.size + 2), pt Bx, .pointer (some ⟨W.heap.size, 83, none⟩), .slice la x.lines.length lcap, .int .i64 x.lines.length, .func (.func 152) #[] #[pt Bs], .agg d.1.fs, undef, undef, undef, undef, undef, undef], defers := [] })
    (fun d a' _ A B row hs hg hr => by
      obtain ⟨Bx, h1, h2, h3⟩ := hs
      exact ⟨Bx, h1, own_cells hg hr h2, h3⟩) ?assign ?body ?done ?stop
  case assign =>
    rintro l pre d Wr K ⟨hI, hIr, hIv, hIl⟩ hK
    have hsz2 : w1.heap.size ≤ Wr.heap.size := hI.size
    obtain ⟨f0, c0, f1, c1, f2, c2, f3, c3, hfs⟩ := fs_form d.1
    rw [hfs]
    rw [hfs] at hK
    gi_wp2
    refine hK _ _ ((KeepsOthers.alloc _ _).from _) (KeepsIn.alloc _ hsz2 _) ⟨hI.own (by omega) (World.grownBy_alloc Wr _ none) (fun r e => by cases e), own_cells (B := 0) (World.grownBy_alloc Wr _ none) (fun r e => by cases e) hIr, own_cells (B := 0) (World.grownBy_alloc Wr _ none) (fun r e => by cases e) hIv, fun q hq => lies_kept (hIl q hq) (World.grownBy_alloc Wr _ none) (by simp)⟩ ⟨Wr.heap.size, hsz2, heap_alloc_new Wr _, ?_⟩
    rfl
  case body =>
    rintro l pre ⟨d, hd⟩ a' Wr hl ⟨r, hr⟩ ⟨hI, hIr, hIv, hIl⟩ ⟨Bx, hBx, h4, rfl⟩ hlt
    obtain ⟨⟨z, cs', Fz', q1, q2, q3, q4, q5, q6, q7⟩, hbel, hsz2⟩ := hI
    have hdk : d.kind ∈ kindsOf x.lines.length true := by rw [← hkind]; exact List.mem_map.2 ⟨d, hd, rfl⟩
    obtain ⟨z', hz1, hz2⟩ := hV d.kind hdk z q2
    have hcap := (hH.2 d hd)
    have hcaplt := hcap.1.lt
    have hcap2 := hcap.2
    simp only [World.size_alloc] at hcap2
    have hncap : ¬ Fz' d.cap := fun h => by
      rcases q7 _ h with h | h
      · have := hfz.lt _ h; omega
      · omega
    obtain ⟨f, cap, hf0, hcall⟩ := accept_call d vec (hIl d hd) q4 hncap q3 hz1
    have hcell : Wr.cell? ⟨Bx, 2, none⟩ = some (.func (.func f) #[] cap) := by
      have e : Wr.cell? ⟨Bx, 2, none⟩ = d.fs[2]? := by unfold World.cell?; rw [h4]; rfl
      rw [e, hf0]
    have hsz3 := q3.size
    have hcv : Wr.cell? ⟨W.heap.size + 1, 0, none⟩ = some (.int .i64 vec) := by unfold World.cell?; rw [hIv]; rfl
    dsimp only [pt]
    cases d <;> (
      simp [Dev.fs, fn0, fn1] at hf0
      obtain ⟨rfl, rfl⟩ := hf0
      simp only [List.append_toArray, List.cons_append, List.nil_append, Array.append_empty] at hcall
      gi_wp2_with (first
        | (refine wpListIn_load_row rfl 44 (.tmp 2) rfl W.heap.size rfl 44 cs' (0, 0) _ q5 Tryz.underlying44 rfl (by rw [hsz3]; exact info44) ?_)
        | (refine ⟨trivial, ?_⟩; (first | gi_at_call 121 | gi_at_call 130 | gi_at_call 139 | gi_at_call 148); refine (CallsIn.inRound l (callsIn_wide.2 hcall)).mono ?_; rintro e W2 ⟨cs2, F2, rfl, p1, p2, p3, p4, p5⟩)
        | (refine wpListIn_store_row rfl 44 (.tmp 2) (.tmp 15) rfl W.heap.size cs2 rfl rfl 44 cs' ((p4.block _ (by omega)).trans q5) (by rw [p1.size]; exact info44) (by rw [hsz3, p1.size]) p1.one ?_))
      refine ⟨?_, ?_, ⟨⟨z', cs2, F2, ?_, ?_, ?_, ?_, ?_, ?_, ?_⟩, ?_, ?_⟩, ?_, ?_, ?_⟩
      all_goals simp only [World.size_alloc] at *
      all_goals have hfr : Frz F2 W2 F2 (W2.setRow W.heap.size cs2) := fun k hk => ⟨hk, setRow_other _ _ _ _ (fun e => by
        subst e
        rcases p5 _ hk with h | h
        · rcases q7 _ h with h | h
          · have := hfz.lt _ h; omega
          · omega
        · omega)⟩
      all_goals have hps := p4.size
      · exact ⟨by simp; exact hps, fun k o hB ho _ => (setRow_other _ _ _ _ (by omega)).trans ((p4.block k (Array.getElem?_eq_some_iff.1 ho).1).trans ho)⟩
      · exact ⟨by simp; exact hps, fun k h1 h2 => (setRow_other _ _ _ _ (by omega)).trans (p4.block k (by omega))⟩
      · rw [List.map_append, runK_app, q1]
        show runK _ [_] z = _
        simp only [runK]
        rw [show acceptK vec _ z = some z' from hz1]; rfl
      · exact hz2
      · exact RL.mono p1 (Ext.refl _) hfr
      · exact p2.mono hfr (fun k hk => by simp; exact p2.lt k hk)
      · exact setRow_heap W2 _ cs' cs2 44 (0, 0) ((p4.block _ (by omega)).trans q5)
      · exact fun k h => (p3 k (q6 k h)).1
      · intro k h
        rcases p5 k h with h | h
        · exact q7 k h
        · exact .inr (by omega)
      · exact setRow_below (hbel.trans (p4.mono hbel.size)) (Nat.le_refl _)
      · simp; omega
      · exact (setRow_other _ _ _ _ (by omega)).trans ((p4.block _ (by omega)).trans hIr)
      · exact (setRow_other _ _ _ _ (by omega)).trans ((p4.block _ (by omega)).trans hIv)
      · exact fun d hd => lies_setRow ((hIl d hd).below p4 (hIl d hd).lt) (by have := (hH.2 d hd).2; omega))
  case done =>
    rintro D xs Wd hD hS ⟨⟨⟨z, cs', Fz', q1, q2, q3, q4, q5, q6, q7⟩, hbel, hsz2⟩, hIr, hIv, hIl⟩ hDf
    have hS : List.map (·.1) xs = ds := hS
    have hz : z = y := by
      have e : List.map (fun d : { d // d ∈ ds } => Dev.kind d.1) xs = List.map Dev.kind ds := by
        have h := congrArg (List.map Dev.kind) hS
        rw [List.map_map] at h
        exact h
      rw [e, hkind, hF] at q1
      exact Option.some.inj q1.symm
    have hsz3 := q3.size
    obtain rfl := hz
    gi_wp2_with (first
      | (refine wpListIn_load_row rfl 44 (.tmp 2) rfl W.heap.size rfl 44 cs' (0, 0) _ q5 Tryz.underlying44 rfl (by rw [hsz3]; exact info44) ?_)
      | (refine wpListIn_store_row rfl 44 (.tmp 4) (.tmp 16) rfl (W.heap.size + 2) cs' rfl rfl 44 Tryz.zeroCells44 hIr (by rw [hsz3]; exact info44) (by rw [hsz3]; kernel_rfl) q3.one ?_))
    exact left_turned hfz rfl rfl q3 q4 q6 (fun k h => (q7 k h).imp id (by omega)) hbel (by omega) (by omega) hIr hDf
  case stop =>
    rintro D c pre W' _ _ h _
    exact h.elim
theorem arg_mi {Fz : Nat → Prop} {W : World} {x : Machine} {v : Int} {vs : List Value} (h : RVs Tryz.prog cd M0 Fz W ((aA cMachine (aO (cInt .i64) aNil)).enc (x, v, ())) vs) : ∃ cs, vs = [.agg cs, .int .i64 v] ∧ IsM Fz W x cs := by
  obtain ⟨h1, h2⟩ := h
  match vs, h1 with
  | [a, b], _ =>
    obtain ⟨cs, rfl, h3⟩ : RV Tryz.prog cd M0 Fz W (vA cMachine x) a := h2 0 _ a rfl rfl
    have h4 : R1 Tryz.prog cd M0 Fz W (.int .i64 v) b := h2 1 _ b rfl rfl
    cases h4
    exact ⟨cs, rfl, h3⟩
theorem okbus_Accept : FnOk Tryz.prog cd 12 Sbus_Accept := by
  refine fnOk_of (aA_ok cMachine_ok (aO_ok (cInt_ok .i64) aNil_ok)) Tryz.func12 (by kernel_rfl) (by kernel_rfl) ?_
  rintro Fz W ⟨x, v, u⟩ y vs hfz hr hF
  obtain ⟨cs, rfl, hm⟩ := arg_mi hr
  replace hF : bus_Accept none x v = some y := hF
  unfold bus_Accept at hF
  split at hF
  · rename_i hc
    obtain ⟨hk, V, hVx, hV⟩ := hc
    exact (Accept_in hfz hm hk V hVx hV hF).mono fun e W' h => turned_fn h
  · cases hF
end Go.Proofs.YtfdndagnolbnhaaGreat
end
section
set_option linter.unusedVariables false
namespace Go.Proofs.YtfdndagnolbnhaaGreat
open Go Go.RowKit Go.Ab
attribute [local go_sem] Oper.semAt_some
/-- nothing is appended -/
theorem run_append_nothing {P : Program} {w : World} (base : Nat) (t ty e : TypeId) (i : TypeInfo) (size : Nat) (ht : P.underlying t = some (.slice e)) (hi : P.info? e = some i)
    (v : Value) (n : Nat) (xs : List Value) (hown : w.ownsRow base e size v n xs) (a : Option Addr) (c : Nat) :
    (Builtin.append_ #[t, t] ty #[v, .slice a 0 c]).run P w = .ok v w := by
  rcases hown.2 with ⟨rfl, rfl⟩ | ⟨g, cap, cur, rfl, _, _, hnc, _⟩
  · cases a <;> simp [Builtin.append_, run_underlying ht, sizeOf, typeInfo, hi, Builtin.lenOf, Builtin.firstCells, loadCells, loadCellsFrom]
  · cases a <;> simp [Builtin.append_, run_underlying ht, sizeOf, typeInfo, hi, Builtin.lenOf, Builtin.firstCells, hnc, storeCells, loadCells, loadCellsFrom]
theorem wpOpIn_of {F : Fence} {n : Nat} {P : Program} {ops : Array Oper} {Q : Exit → Act → World → Prop} {i : Nat} {o : Oper} {K : Act → World → Prop} {a : Act} {w : World} (hi : ops[i]? = some o) (hg : o.guard = none) (h : o.wpIn F n P a w K Q) : wpOpIn F n P ops Q i K a w := by
  unfold wpOpIn
  rw [hi]
  simp only [Region.wanted, hg, if_true]
  exact h
theorem wpOpIn_append_any {F : Fence} {n : Nat} {P : Program} {w : World} {ops : Array Oper} {j : Nat} {o : Oper} {a : Act} {K : Act → World → Prop} {Q : Exit → Act → World → Prop} (hj : ops[j]? = some o)
    (hg : o.guard = none) (s x : Operand) (t : TypeId) (hop : o.op = Op.call { callee := Callee.builtin Builtin.append, args := #[s, x], argTypes := #[t, t] })
    (base : Nat) (e : TypeId) (i : TypeInfo) (z : Value) (size bytes : Nat) (h1 : P.underlying t = some (.slice e)) (h2 : P.info? e = some i) (h3 : i.zero = some z) (h4 : i.size = size) (h5 : i.bytes = bytes) (h6 : z.cells.size = size) (h7 : 0 < size)
    (v : Value) (k : Nat) (xs : List Value) (hs : a.eval s = v) (hown : w.ownsRow base e size v k xs) (ao : Option Addr) (m c : Nat) (news : List Value) (hx : a.eval x = .slice ao m c) (hn : news.length = m * size)
    (hc : 0 < m → ∃ ad, ao = some ad ∧ ∀ j u, news[j]? = some u → w.cell? (ad.add j) = some u) (h1c : ∀ u ∈ news, u.oneCell' = true) (b1 : k + m ≤ maxLen) (b2 : (k + m) * bytes ≤ 140737488355328) (b3 : base ≤ w.heap.size)
    (hK : ∀ v' w', w'.ownsRow base e size v' (k + m) (xs ++ news) → w.grownBy w' v.ownBlock → K (a.put o.dst v') w') :
    wpOpIn F n P ops Q j K a w := by
  refine wpOpIn_of hj hg ?_
  have key : ∃ v' w', (Builtin.append_ #[t, t] o.type #[v, .slice ao m c]).run P w = .ok v' w' ∧ w'.ownsRow base e size v' (k + m) (xs ++ news) ∧ w.grownBy w' v.ownBlock := by
    rcases Nat.eq_zero_or_pos m with rfl | hm
    · have hnews : news = [] := List.eq_nil_of_length_eq_zero (by simpa using hn)
      subst hnews
      exact ⟨v, w, run_append_nothing (P := P) base t o.type e i size h1 h2 _ k xs hown ao c, by simpa using hown, World.grownBy.refl _ _⟩
    · obtain ⟨ad, rfl, hc2⟩ := hc hm
      obtain ⟨v', w', r0, r1, r2, r3⟩ := run_append_own (P := P) (w := w) base t o.type e i z size bytes h1 h2 h3 h4 h5 h6 h7 v k xs hown ad m c news hn hc2 h1c b1 b2 b3
      exact ⟨v', w', r0, r1, r2⟩
  obtain ⟨v', w', hrun, q1, q2⟩ := key
  unfold Oper.wpIn
  refine ⟨?_, ?_⟩
  · simp [Oper.about, hop, resolve, Target.leads, Sem.run_pure]
  · rw [Oper.semAt_plain F _ _ (by rw [hop]; intro c hc'; cases hc')]
    simp [execOp, hop, resolve, invoke, builtin, hs, hx, hrun, Result.andThen]
    exact hK v' w' q1 q2
theorem wpOpIn_load_row {F : Fence} {n : Nat} {P : Program} {ops : Array Oper} {j : Nat} {o : Oper} {a : Act} {w : World} {K : Act → World → Prop} {Q : Exit → Act → World → Prop} (hj : ops[j]? = some o) (hgd : o.guard = none) (ty : TypeId) (x : Operand) (ho : o.op = .load ty x)
    (g : Nat) (hx : a.eval x = .pointer (some ⟨g, 0, none⟩)) (t : TypeId) (cs : Array Value) (fr : Nat × Nat) (d : TypeDesc) (hg : w.heap[g]? = some (.cells cs t fr))
    (hu : P.underlying ty = some d) (hd : (match d with | .struct _ | .array _ _ => true | _ => false) = true) (hi : (P.info? ty).map (·.size) = some cs.size)
    (h : K (a.put o.dst (.agg cs)) w) : wpOpIn F n P ops Q j K a w := by
  refine wpOpIn_of hj hgd ?_
  unfold Oper.wpIn
  refine ⟨?_, ?_⟩
  · simp [Oper.about, ho]
  · rw [Oper.semAt_plain F _ _ (by rw [ho]; intro c hc'; cases hc')]
    unfold execOp
    simp only [ho, hx, Instr.loadAt, Instr.sureAddr, Sem.run_bind, Sem.run_pure, Result.andThen_ok, run_loadVar_row w g t ty cs fr d hg hu hd hi]
    exact h
theorem slice_of' {W : World} {n₀ e size n : Nat} {v : Value} {xs : List Value} (h : W.ownsRow n₀ e size v n xs) : ∃ a m c, v = .slice a m c := by
  rcases h.2 with ⟨rfl, _⟩ | ⟨g, cap, cur, rfl, _⟩
  · exact ⟨_, _, _, rfl⟩
  · exact ⟨_, _, _, rfl⟩
def cellQ (q : Request) : List Value := [.int .i64 q.priority, .int .i64 q.vector]
def cellsQ (r : List Request) : List Value := r.flatMap cellQ
theorem cellsQ_len (r : List Request) : (cellsQ r).length = r.length * 2 := by
  induction r with
  | nil => rfl
  | cons q r ih =>
    have e : cellsQ (q :: r) = cellQ q ++ cellsQ r := by simp [cellsQ]
    rw [e, List.length_append, ih, List.length_cons]; simp [cellQ]; omega
theorem cellsQ_one (r : List Request) : ∀ u ∈ cellsQ r, u.oneCell' = true := by
  intro u hu
  obtain ⟨q, _, hq⟩ := List.mem_flatMap.1 hu
  simp [cellQ] at hq
  rcases hq with rfl | rfl <;> rfl
def valI : C U → Value
  | .int k n => .int k n
  | _ => undef
theorem cellsQ_enc (r : List (U 84)) : cellsQ r = (r.flatMap (cd.enc 84)).map valI := by
  induction r with
  | nil => rfl
  | cons q r ih =>
    rw [List.flatMap_cons, List.map_append, ← ih]
    rfl
theorem enc_int {r : List (U 84)} {j : Nat} {c : C U} (h : (r.flatMap (cd.enc 84))[j]? = some c) : ∃ n, c = .int .i64 n := by
  obtain ⟨q, _, hq⟩ := List.mem_flatMap.1 (List.mem_of_getElem? h)
  have hq : c ∈ [C.int .i64 (Request.priority q), C.int .i64 (Request.vector q)] := hq
  simp at hq
  rcases hq with rfl | rfl <;> exact ⟨_, rfl⟩
/-- what a call that tells a list leaves -/
def Told (W : World) (r : List Request) (e : Ending) (W' : World) : Prop :=
  ∃ a cap, e = .returned (.slice a r.length cap) ∧ (0 < r.length → ∃ ad, a = some ad ∧ ∀ j u, (cellsQ r)[j]? = some u → W'.cell? (ad.add j) = some u) ∧ Below W.heap.size W W'
theorem addr_add (k o j : Nat) : (at0 k o).add j = at0 k (o + j) := by
  unfold Addr.add at0; split <;> simp_all
theorem told_of {M : Mp} {Fz : Nat → Prop} {W W' : World} {r : List Request} {e : Ending} {u : Value} (he : e = .returned u) (h : R1 Tryz.prog cd M Fz W' (.sl 84 r false) u) (hb : Below W.heap.size W W') : Told W r e W' := by
  subst he
  cases h with
  | sl t l full a cap f h1 h2 h3 h4 =>
    refine ⟨a, cap, rfl, fun hl => ?_, hb⟩
    obtain ⟨k, o, rfl, _, hc⟩ := h3 (fun e => by rw [e] at hl; exact absurd hl (Nat.lt_irrefl 0))
    refine ⟨_, rfl, fun j u hj => ?_⟩
    have hj' : ((r.flatMap (cd.enc 84)).map valI)[j]? = some u := (congrArg (fun z : List Value => z[j]?) (cellsQ_enc r)).symm.trans hj
    rw [List.getElem?_map] at hj'
    obtain ⟨c, hc1, rfl⟩ := Option.map_eq_some_iff.1 hj'
    rw [addr_add k o j, hc j c hc1]
    have h5 := h4 j c hc1
    obtain ⟨n, rfl⟩ := enc_int hc1
    generalize f j = v at h5
    cases h5
    rfl
theorem run_go {P : Program} {f : Nat} {fn : Func} (hf : P.funcs[f]? = some fn) (hn : (fn.name == "runtime.NumGoroutine") = false) (hb : fn.body.isNone = false) (args : Array Value) (w : World) : (callFunc f args).run P w = .ok (.enter f args) w := by
  unfold callFunc
  rw [Sem.run_bind, run_program, Result.andThen_ok, hf]
  simp [hn, hb]
theorem req_call (d : Dev) {Fz : Nat → Prop} {W : World} {x : Machine} {r : List Request} {cs : Array Value} (hl : d.lies W) (hfz : FzOk cd Fz W) (hcap : ¬ Fz d.cap) (hm : IsM Fz W x cs) (hF : reqK d.kind x = some r) :
    ∃ f cap, d.fs[1]? = some (.func (.func f) #[] cap) ∧ (∀ args w, (callFunc f args).run Tryz.prog w = .ok (.enter f args) w) ∧ Calls Tryz.prog f (#[.agg cs] ++ cap) W (Told W r) := by
  cases d with
  | clock b =>
    refine ⟨119, #[], rfl, run_go Tryz.func119 (by kernel_rfl) (by kernel_rfl), (call0 okbus_theClock_3 (x := (x, ())) (by kernel_rfl) hF rfl hfz (args_m hm)).mono ?_⟩
    rintro e W' ⟨u, F', he, h1, h2, h3, h4, h5⟩
    exact told_of he h1 h4
  | disk b =>
    refine ⟨128, #[], rfl, run_go Tryz.func128 (by kernel_rfl) (by kernel_rfl), (call0 okbus_theDisk_3 (x := (x, ())) (by kernel_rfl) hF rfl hfz (args_m hm)).mono ?_⟩
    rintro e W' ⟨u, F', he, h1, h2, h3, h4, h5⟩
    exact told_of he h1 h4
  | tape b =>
    refine ⟨137, #[], rfl, run_go Tryz.func137 (by kernel_rfl) (by kernel_rfl), (call0 okbus_theTape_3 (x := (x, ())) (by kernel_rfl) hF rfl hfz (args_m hm)).mono ?_⟩
    rintro e W' ⟨u, F', he, h1, h2, h3, h4, h5⟩
    exact told_of he h1 h4
  | line i b =>
    refine ⟨146, #[pt b], rfl, run_go Tryz.func146 (by kernel_rfl) (by kernel_rfl), (call1 okbus_theLine_2 (x := (x, ())) (g := ((i : Int), ())) (by kernel_rfl) (c := .int .i64 (i : Int)) (t := 3) (by kernel_rfl) hF rfl hfz hl hcap (int_rl _ _ _ _) (fun _ _ _ _ h => int_det h) (args_mp hm)).mono ?_⟩
    rintro e W' ⟨u, F', he, h1, h2, h3, h4, h5⟩
    exact told_of he h1 h4
theorem told_drew {W : World} {r : List Request} {e : Ending} {W' : World} (h : Told W.drew r e W') : Told W r e W' := by
  obtain ⟨a, cap, h1, h2, h3⟩ := h
  exact ⟨a, cap, h1, h2, ⟨h3.os, h3.tape, h3.output, h3.size, h3.block⟩⟩
def reqOps : Array Oper := #[{ dst := some 10, op := Op.load 52 (Operand.tmp 3), type := 52, pos := "bus.go:132", after := #[], guard := none }, { dst := some 11, op := Op.fieldAddr 74 (Operand.tmp 4) 1, type := 0, pos := "bus.go:132", after := #[], guard := none }, { dst := some 12, op := Op.load 53 (Operand.tmp 11), type := 53, pos := "bus.go:132", after := #[{ on := 1, ground := Ground.data }], guard := none }, { dst := some 13, op := Op.load 44 (Operand.tmp 1), type := 44, pos := "bus.go:132", after := #[], guard := none }, { dst := some 14, op := Op.call { callee := Callee.value (Operand.tmp 12), args := #[Operand.tmp 13], argTypes := #[44] }, type := 52, pos := "bus.go:132", after := #[{ on := 2, ground := Ground.data }, { on := 3, ground := Ground.data }], guard := none }, { dst := some 15, op := Op.call { callee := Callee.builtin Builtin.append, args := #[Operand.tmp 10, Operand.tmp 14], argTypes := #[52, 52] }, type := 52, pos := "bus.go:132", after := #[{ on := 0, ground := Ground.data }, { on := 4, ground := Ground.data }, { on := 4, ground := Ground.chain }], guard := none }, { dst := none, op := Op.store 52 (Operand.tmp 3) (Operand.tmp 15), type := 0, pos := "bus.go:132", after := #[{ on := 5, ground := Ground.data }, { on := 5, ground := Ground.chain }, { on := 0, ground := Ground.phase }, { on := 1, ground := Ground.phase }, { on := 2, ground := Ground.phase }, { on := 3, ground := Ground.phase }, { on := 4, ground := Ground.phase }, { on := 5, ground := Ground.phase }], guard := none }]
def actR (x0 x2 x5 x6 x7 x8 x9 : Value) (bm bl Bx : Nat) (y0 y1 y2 y3 y4 y5 : Value) : Act := { tmps := #[x0, pt bm, x2, pt bl, pt Bx, x5, x6, x7, x8, x9, y0, y1, y2, y3, y4, y5, undef], defers := [] }
set_option maxRecDepth 100000 in
set_option maxHeartbeats 4000000 in
theorem req_region {l n n1 : Nat} {Q : Exit → Act → World → Prop} {W0 : World} {x0 x2 x5 x6 x7 x8 x9 v : Value} {bm bl Bx f k : Nat} {cap cs : Array Value} {xs : List Value} {r : List Request} {id : Nat}
    (hm : W0.heap[bm]? = some (.cells cs 44 (0, 0))) (hcs : cs.size = 110) (hl : W0.heap[bl]? = some (.cells #[v] 52 (0, 0))) (hown : W0.ownsRow n1 84 2 v k xs) (hln : bl < n1) (hn1 : n1 ≤ W0.heap.size)
    (hf : W0.cell? ⟨Bx, 1, none⟩ = some (.func (.func f) #[] cap)) (hcall : Calls Tryz.prog f (#[.agg cs] ++ cap) W0.drew (Told W0.drew r)) (hk : k + r.length ≤ 100000) (hrun : ∀ args w, (callFunc f args).run Tryz.prog w = .ok (.enter f args) w)
    (hQ : ∀ v' W2 W3 a, Below W0.heap.size W0 W2 → W3.ownsRow n1 84 2 v' (k + r.length) (xs ++ cellsQ r) → W2.grownBy W3 v.ownBlock → Q .normal a (W3.setCell ⟨bl, 0, none⟩ v')) :
    Code.wpIn (Fence.wide.inRound l) (n + 1) Tryz.prog (.region id reqOps true) Q (actR x0 x2 x5 x6 x7 x8 x9 bm bl Bx undef undef undef undef undef undef) W0 := by
  obtain ⟨i0, hi, hz0, hz1, hz2⟩ := info_parts (show (Tryz.prog.info? 84).map (fun i => (i.zero, i.size, i.bytes)) = some (some (.agg #[.int .i64 0, .int .i64 0]), 2, 16) by kernel_rfl)
  refine wpIn_region_any (by kernel_rfl) ?_
  change wpAnyIn _ _ _ _ _ _ _ _ _ (World.drew _)
  have hcl : W0.drew.cell? ⟨bl, 0, none⟩ = some v := by
    show (World.cell? W0.drew _) = _
    unfold World.cell?
    show (match W0.heap[bl]? with | some (.cells cs _ _) => cs[0]? | _ => none) = _
    rw [hl]; rfl
  have hcf : W0.drew.cell? ⟨Bx, 1, none⟩ = some (.func (.func f) #[] cap) := hf
  obtain ⟨qa, qn, qc, rfl⟩ := slice_of' hown
  have sfin : ∀ y0 W2, Told W0 r (.returned y0) W2 → wpAnyIn (Fence.wide.inRound l) (n + 1) Tryz.prog .any reqOps Q 2 #[true, true, true, true, true, false, false] (actR x0 x2 x5 x6 x7 x8 x9 bm bl Bx (.slice qa qn qc) (.pointer (some ⟨Bx, 1, none⟩)) (.func (.func f) #[] cap) (.agg cs) y0 undef) W2 := by
    rintro y0 W2 ⟨a1, c1, he, hc1, hb⟩
    cases he
    refine wpAnyIn_ready (rs := [5]) (by kernel_rfl) (by simp) ?_
    intro j hj
    obtain rfl : j = 5 := by simpa using hj
    have hsz := hb.size
    have hown2 : W2.ownsRow n1 84 2 (.slice qa qn qc) k xs := ownsRow_below hown hb
    refine wpOpIn_append_any (j := 5) rfl rfl (.tmp 10) (.tmp 14) 52 rfl n1 84 i0 (.agg #[.int .i64 0, .int .i64 0]) 2 16 Tryz.underlying52 hi hz0 hz1 hz2 rfl (by decide) (.slice qa qn qc) k xs rfl hown2 a1 r.length c1 (cellsQ r) rfl (cellsQ_len r) hc1 (cellsQ_one r) (by unfold maxLen; omega) (by omega) (by omega) ?_
    intro v' W3 hown3 hg3
    refine wpAnyIn_ready (rs := [6]) (by kernel_rfl) (by simp) ?_
    refine AllReadyIn.cons rfl (fun K hK => ?_) AllReadyIn.nil
    have hblr : some bl ≠ (Value.slice qa qn qc).ownBlock := fun e => by
      have := (hown2.lt bl e.symm).1
      omega
    have hl3 : W3.heap[bl]? = some (.cells #[.slice qa qn qc] 52 (0, 0)) := (hg3.block bl (by omega) hblr).trans ((hb.block bl (by omega)).trans hl)
    have hc3 : W3.cell? ⟨bl, 0, none⟩ = some (.slice qa qn qc) := by unfold World.cell?; rw [hl3]; rfl
    have hf3 : W3.frozen? ⟨bl, 0, none⟩ = false := frozen_of_row _ _ _ _ _ hl3
    have hq := fun a => hQ v' W2 W3 a hb hown3 hg3
    obtain ⟨ra, rn, rc, rfl⟩ := slice_of' hown3
    rw [if_pos (show Region.wanted reqOps[6] _ = true from rfl)]
    show Oper.wpIn (Fence.wide.inRound l) (n + 1) Tryz.prog (Oper.mk none (Op.store 52 (Operand.tmp 3) (Operand.tmp 15)) _ _ _ _) (actR x0 x2 x5 x6 x7 x8 x9 bm bl Bx (.slice qa qn qc) (.pointer (some ⟨Bx, 1, none⟩)) (.func (.func f) #[] cap) (.agg cs) (.slice a1 r.length c1) (.slice ra rn rc)) W3 K Q
    simp only [actR, pt] at hK ⊢
    gi_wp2
    exact wpAnyIn_done (by kernel_rfl) (hq _) _
  have sl0 : ∀ w, w.cell? ⟨bl, 0, none⟩ = some (.slice qa qn qc) → ∀ y1 y2 y3 y4 K, K (actR x0 x2 x5 x6 x7 x8 x9 bm bl Bx (.slice qa qn qc) y1 y2 y3 y4 undef) w → wpOpIn (Fence.wide.inRound l) (n + 1) Tryz.prog reqOps Q 0 K (actR x0 x2 x5 x6 x7 x8 x9 bm bl Bx undef y1 y2 y3 y4 undef) w := by
    intro w hw y1 y2 y3 y4 K hK
    refine wpOpIn_of (i := 0) rfl rfl ?_
    show Oper.wpIn (Fence.wide.inRound l) (n + 1) Tryz.prog (Oper.mk (some 10) (Op.load 52 (Operand.tmp 3)) _ _ _ _) (actR x0 x2 x5 x6 x7 x8 x9 bm bl Bx undef y1 y2 y3 y4 undef) w K Q
    simp only [actR, pt] at hK ⊢
    gi_wp2
    exact hK
  have sl1 : ∀ w y0 y2 y3 K, K (actR x0 x2 x5 x6 x7 x8 x9 bm bl Bx y0 (.pointer (some ⟨Bx, 1, none⟩)) y2 y3 undef undef) w → wpOpIn (Fence.wide.inRound l) (n + 1) Tryz.prog reqOps Q 1 K (actR x0 x2 x5 x6 x7 x8 x9 bm bl Bx y0 undef y2 y3 undef undef) w := by
    intro w y0 y2 y3 K hK
    refine wpOpIn_of (i := 1) rfl rfl ?_
    show Oper.wpIn (Fence.wide.inRound l) (n + 1) Tryz.prog (Oper.mk (some 11) (Op.fieldAddr 74 (Operand.tmp 4) 1) _ _ _ _) (actR x0 x2 x5 x6 x7 x8 x9 bm bl Bx y0 undef y2 y3 undef undef) w K Q
    simp only [actR, pt] at hK ⊢
    gi_wp2
    exact hK
  have sl2 : ∀ y0 y3 K, K (actR x0 x2 x5 x6 x7 x8 x9 bm bl Bx y0 (.pointer (some ⟨Bx, 1, none⟩)) (.func (.func f) #[] cap) y3 undef undef) W0.drew → wpOpIn (Fence.wide.inRound l) (n + 1) Tryz.prog reqOps Q 2 K (actR x0 x2 x5 x6 x7 x8 x9 bm bl Bx y0 (.pointer (some ⟨Bx, 1, none⟩)) undef y3 undef undef) W0.drew := by
    intro y0 y3 K hK
    refine wpOpIn_of (i := 2) rfl rfl ?_
    show Oper.wpIn (Fence.wide.inRound l) (n + 1) Tryz.prog (Oper.mk (some 12) (Op.load 53 (Operand.tmp 11)) _ _ _ _) (actR x0 x2 x5 x6 x7 x8 x9 bm bl Bx y0 (.pointer (some ⟨Bx, 1, none⟩)) undef y3 undef undef) W0.drew K Q
    simp only [actR, pt] at hK ⊢
    gi_wp2
    exact hK
  have sl3 : ∀ y0 y1 y2 K, K (actR x0 x2 x5 x6 x7 x8 x9 bm bl Bx y0 y1 y2 (.agg cs) undef undef) W0.drew → wpOpIn (Fence.wide.inRound l) (n + 1) Tryz.prog reqOps Q 3 K (actR x0 x2 x5 x6 x7 x8 x9 bm bl Bx y0 y1 y2 undef undef undef) W0.drew := by
    intro y0 y1 y2 K hK
    exact wpOpIn_load_row (j := 3) rfl rfl 44 (.tmp 1) rfl bm rfl 44 cs (0, 0) _ hm Tryz.underlying44 rfl (by rw [hcs]; exact info44) hK
  have sl4 : ∀ y0 K, (∀ y4 W2, Told W0 r (.returned y4) W2 → K (actR x0 x2 x5 x6 x7 x8 x9 bm bl Bx y0 (.pointer (some ⟨Bx, 1, none⟩)) (.func (.func f) #[] cap) (.agg cs) y4 undef) W2) → wpOpIn (Fence.wide.inRound l) (n + 1) Tryz.prog reqOps Q 4 K (actR x0 x2 x5 x6 x7 x8 x9 bm bl Bx y0 (.pointer (some ⟨Bx, 1, none⟩)) (.func (.func f) #[] cap) (.agg cs) undef undef) W0.drew := by
    intro y0 K hK
    refine wpOpIn_of (i := 4) rfl rfl ?_
    show Oper.wpIn (Fence.wide.inRound l) (n + 1) Tryz.prog (Oper.mk (some 14) (Op.call { callee := Callee.value (Operand.tmp 12), args := #[Operand.tmp 13], argTypes := #[44] }) _ _ _ _) (actR x0 x2 x5 x6 x7 x8 x9 bm bl Bx y0 (.pointer (some ⟨Bx, 1, none⟩)) (.func (.func f) #[] cap) (.agg cs) undef undef) W0.drew K Q
    simp only [actR, pt] at hK ⊢
    gi_wp2
    refine ⟨trivial, ?_⟩
    refine (CallsIn.inRound l (callsIn_wide.2 hcall)).mono ?_
    intro e W2 hT
    have hT := told_drew hT
    have hT2 := hT
    obtain ⟨a1, c1, rfl, hc1, hb⟩ := hT2
    exact hK _ W2 hT
  have sfin0 : ∀ y4 W2, Told W0 r (.returned y4) W2 → wpAnyIn (Fence.wide.inRound l) (n + 1) Tryz.prog .any reqOps Q 3 #[false, true, true, true, true, false, false] (actR x0 x2 x5 x6 x7 x8 x9 bm bl Bx undef (.pointer (some ⟨Bx, 1, none⟩)) (.func (.func f) #[] cap) (.agg cs) y4 undef) W2 := by
    intro y4 W2 hT
    refine wpAnyIn_ready (rs := [0]) (by kernel_rfl) (by simp) ?_
    intro j hj
    obtain rfl : j = 0 := by simpa using hj
    have hT2 := hT
    obtain ⟨a1, c1, he, hc1, hb⟩ := hT2
    refine sl0 W2 ?_ _ _ _ _ _ (sfin _ _ hT)
    unfold World.cell?
    rw [hb.block bl (by omega), hl]; rfl
  have s121 : wpAnyIn (Fence.wide.inRound l) (n + 1) Tryz.prog .any reqOps Q 3 #[true, true, true, true, false, false, false] (actR x0 x2 x5 x6 x7 x8 x9 bm bl Bx (.slice qa qn qc) (.pointer (some ⟨Bx, 1, none⟩)) (.func (.func f) #[] cap) (.agg cs) undef undef) W0.drew := by
    refine wpAnyIn_ready (rs := [4]) (by kernel_rfl) (by simp) ?_
    intro j hj
    have hj : j = 4 := by simpa using hj
    rcases hj with rfl
    · exact sl4 _ _ sfin
  have s021 : wpAnyIn (Fence.wide.inRound l) (n + 1) Tryz.prog .any reqOps Q 4 #[false, true, true, true, false, false, false] (actR x0 x2 x5 x6 x7 x8 x9 bm bl Bx undef (.pointer (some ⟨Bx, 1, none⟩)) (.func (.func f) #[] cap) (.agg cs) undef undef) W0.drew := by
    refine wpAnyIn_ready (rs := [0, 4]) (by kernel_rfl) (by simp) ?_
    intro j hj
    have hj : j = 0 ∨ j = 4 := by simpa using hj
    rcases hj with rfl | rfl
    · exact sl0 _ hcl _ _ _ _ _ s121
    · exact sl4 _ _ sfin0
  have s120 : wpAnyIn (Fence.wide.inRound l) (n + 1) Tryz.prog .any reqOps Q 4 #[true, true, true, false, false, false, false] (actR x0 x2 x5 x6 x7 x8 x9 bm bl Bx (.slice qa qn qc) (.pointer (some ⟨Bx, 1, none⟩)) (.func (.func f) #[] cap) undef undef undef) W0.drew := by
    refine wpAnyIn_ready (rs := [3]) (by kernel_rfl) (by simp) ?_
    intro j hj
    have hj : j = 3 := by simpa using hj
    rcases hj with rfl
    · exact sl3 _ _ _ _ s121
  have s020 : wpAnyIn (Fence.wide.inRound l) (n + 1) Tryz.prog .any reqOps Q 5 #[false, true, true, false, false, false, false] (actR x0 x2 x5 x6 x7 x8 x9 bm bl Bx undef (.pointer (some ⟨Bx, 1, none⟩)) (.func (.func f) #[] cap) undef undef undef) W0.drew := by
    refine wpAnyIn_ready (rs := [0, 3]) (by kernel_rfl) (by simp) ?_
    intro j hj
    have hj : j = 0 ∨ j = 3 := by simpa using hj
    rcases hj with rfl | rfl
    · exact sl0 _ hcl _ _ _ _ _ s120
    · exact sl3 _ _ _ _ s021
  have s111 : wpAnyIn (Fence.wide.inRound l) (n + 1) Tryz.prog .any reqOps Q 4 #[true, true, false, true, false, false, false] (actR x0 x2 x5 x6 x7 x8 x9 bm bl Bx (.slice qa qn qc) (.pointer (some ⟨Bx, 1, none⟩)) undef (.agg cs) undef undef) W0.drew := by
    refine wpAnyIn_ready (rs := [2]) (by kernel_rfl) (by simp) ?_
    intro j hj
    have hj : j = 2 := by simpa using hj
    rcases hj with rfl
    · exact sl2 _ _ _ s121
  have s011 : wpAnyIn (Fence.wide.inRound l) (n + 1) Tryz.prog .any reqOps Q 5 #[false, true, false, true, false, false, false] (actR x0 x2 x5 x6 x7 x8 x9 bm bl Bx undef (.pointer (some ⟨Bx, 1, none⟩)) undef (.agg cs) undef undef) W0.drew := by
    refine wpAnyIn_ready (rs := [0, 2]) (by kernel_rfl) (by simp) ?_
    intro j hj
    have hj : j = 0 ∨ j = 2 := by simpa using hj
    rcases hj with rfl | rfl
    · exact sl0 _ hcl _ _ _ _ _ s111
    · exact sl2 _ _ _ s021
  have s110 : wpAnyIn (Fence.wide.inRound l) (n + 1) Tryz.prog .any reqOps Q 5 #[true, true, false, false, false, false, false] (actR x0 x2 x5 x6 x7 x8 x9 bm bl Bx (.slice qa qn qc) (.pointer (some ⟨Bx, 1, none⟩)) undef undef undef undef) W0.drew := by
    refine wpAnyIn_ready (rs := [2, 3]) (by kernel_rfl) (by simp) ?_
    intro j hj
    have hj : j = 2 ∨ j = 3 := by simpa using hj
    rcases hj with rfl | rfl
    · exact sl2 _ _ _ s120
    · exact sl3 _ _ _ _ s111
  have s010 : wpAnyIn (Fence.wide.inRound l) (n + 1) Tryz.prog .any reqOps Q 6 #[false, true, false, false, false, false, false] (actR x0 x2 x5 x6 x7 x8 x9 bm bl Bx undef (.pointer (some ⟨Bx, 1, none⟩)) undef undef undef undef) W0.drew := by
    refine wpAnyIn_ready (rs := [0, 2, 3]) (by kernel_rfl) (by simp) ?_
    intro j hj
    have hj : j = 0 ∨ j = 2 ∨ j = 3 := by simpa using hj
    rcases hj with rfl | rfl | rfl
    · exact sl0 _ hcl _ _ _ _ _ s110
    · exact sl2 _ _ _ s020
    · exact sl3 _ _ _ _ s011
  have s101 : wpAnyIn (Fence.wide.inRound l) (n + 1) Tryz.prog .any reqOps Q 5 #[true, false, false, true, false, false, false] (actR x0 x2 x5 x6 x7 x8 x9 bm bl Bx (.slice qa qn qc) undef undef (.agg cs) undef undef) W0.drew := by
    refine wpAnyIn_ready (rs := [1]) (by kernel_rfl) (by simp) ?_
    intro j hj
    have hj : j = 1 := by simpa using hj
    rcases hj with rfl
    · exact sl1 _ _ _ _ _ s111
  have s001 : wpAnyIn (Fence.wide.inRound l) (n + 1) Tryz.prog .any reqOps Q 6 #[false, false, false, true, false, false, false] (actR x0 x2 x5 x6 x7 x8 x9 bm bl Bx undef undef undef (.agg cs) undef undef) W0.drew := by
    refine wpAnyIn_ready (rs := [0, 1]) (by kernel_rfl) (by simp) ?_
    intro j hj
    have hj : j = 0 ∨ j = 1 := by simpa using hj
    rcases hj with rfl | rfl
    · exact sl0 _ hcl _ _ _ _ _ s101
    · exact sl1 _ _ _ _ _ s011
  have s100 : wpAnyIn (Fence.wide.inRound l) (n + 1) Tryz.prog .any reqOps Q 6 #[true, false, false, false, false, false, false] (actR x0 x2 x5 x6 x7 x8 x9 bm bl Bx (.slice qa qn qc) undef undef undef undef undef) W0.drew := by
    refine wpAnyIn_ready (rs := [1, 3]) (by kernel_rfl) (by simp) ?_
    intro j hj
    have hj : j = 1 ∨ j = 3 := by simpa using hj
    rcases hj with rfl | rfl
    · exact sl1 _ _ _ _ _ s110
    · exact sl3 _ _ _ _ s101
  have s000 : wpAnyIn (Fence.wide.inRound l) (n + 1) Tryz.prog .any reqOps Q 7 #[false, false, false, false, false, false, false] (actR x0 x2 x5 x6 x7 x8 x9 bm bl Bx undef undef undef undef undef undef) W0.drew := by
    refine wpAnyIn_ready (rs := [0, 1, 3]) (by kernel_rfl) (by simp) ?_
    intro j hj
    have hj : j = 0 ∨ j = 1 ∨ j = 3 := by simpa using hj
    rcases hj with rfl | rfl | rfl
    · exact sl0 _ hcl _ _ _ _ _ s100
    · exact sl1 _ _ _ _ _ s010
    · exact sl3 _ _ _ _ s001
  exact s000
theorem runR_app (f : Kind → Option (List Request)) (a b : List Kind) {x y : List Request} (ha : runR f a = some x) (hb : runR f b = some y) : runR f (a ++ b) = some (x ++ y) := by
  induction a generalizing x with
  | nil =>
    have ha : some ([] : List Request) = some x := ha
    obtain rfl := Option.some.inj ha
    exact hb
  | cons d a ih =>
    simp only [List.cons_append, runR] at ha ⊢
    obtain ⟨u, hu, ha⟩ := Option.bind_eq_some_iff.1 ha
    obtain ⟨v, hv, rfl⟩ := Option.map_eq_some_iff.1 ha
    rw [hu, ih hv]
    simp
theorem ownsRow_own {W W' : World} {row : Option Nat} {base e size n : Nat} {v : Value} {xs : List Value} (hg : W.grownBy W' row) (hr : ∀ r, row = some r → ∃ o : Obj, W.heap[r]? = some o ∧ o.isCells = false) (h : W.ownsRow base e size v n xs) : W'.ownsRow base e size v n xs := by
  refine ⟨h.1, h.2.imp id ?_⟩
  rintro ⟨g, cap, cur, h1, h2, h3, h4⟩
  exact ⟨g, cap, cur, h1, h2, own_cells (B := 0) hg (fun r e => ⟨Nat.zero_le _, hr r e⟩) h3, h4⟩
theorem info84 : (Tryz.prog.info? 84).map (fun i => (i.zero, i.size, i.bytes)) = some (some (.agg #[.int .i64 0, .int .i64 0]), 2, 16) := by kernel_rfl
/-- between two rounds: the machine in its box, and the list -/
structure BetweenR (f : Kind → Option (List Request)) (W : World) (n1 : Nat) (cs : Array Value) (ks : List Kind) (Wr : World) : Prop where
  it : ∃ tot v, runR f ks = some tot ∧ tot.length ≤ 100 * ks.length ∧ Wr.heap[W.heap.size + 1]? = some (.cells #[v] 52 (0, 0)) ∧ Wr.ownsRow n1 84 2 v tot.length (cellsQ tot)
  box : Wr.heap[W.heap.size]? = some (.cells cs 44 (0, 0))
  below : Below W.heap.size W Wr
  size : n1 ≤ Wr.heap.size
theorem BetweenR.own {f : Kind → Option (List Request)} {W W1 W2 : World} {n1 : Nat} {cs : Array Value} {ks : List Kind} {row : Option Nat} (h : BetweenR f W n1 cs ks W1) (hn : W.heap.size ≤ n1) (hg : W1.grownBy W2 row) (hr : ∀ r, row = some r → n1 ≤ r ∧ ∃ o : Obj, W1.heap[r]? = some o ∧ o.isCells = false) : BetweenR f W n1 cs ks W2 := by
  obtain ⟨⟨tot, v, h1, h2, h3, h4⟩, h5, hb, hsz⟩ := h
  exact ⟨⟨tot, v, h1, h2, own_cells hg hr h3, ownsRow_own hg (fun r e => (hr r e).2) h4⟩, own_cells hg hr h5, hb.grown hg hb.size (fun k e => Nat.le_trans hn (hr k e).1), Nat.le_trans hsz hg.size⟩
theorem ownsRow_block {W : World} {base e size n g : Nat} {v : Value} {xs : List Value} (h : W.ownsRow base e size v n xs) (hv : some g = v.ownBlock) : base ≤ g ∧ ∃ cur, W.heap[g]? = some (.cells cur e (0, 0)) := by
  rcases h.2 with ⟨rfl, _⟩ | ⟨g', cap, cur, rfl, h2, h3, _⟩
  · cases hv
  · have hv : some g = some g' := hv
    injection hv with hv
    subst hv
    exact ⟨h2, cur, h3⟩
theorem ownsRow_set {W : World} {base e size n : Nat} {v u : Value} {xs : List Value} {a : Addr} (h : W.ownsRow base e size v n xs) (ha : a.block < base) : (W.setCell a u).ownsRow base e size v n xs := by
  refine ⟨h.1, h.2.imp id ?_⟩
  rintro ⟨g, cap, cur, h1, h2, h3, h4⟩
  exact ⟨g, cap, cur, h1, h2, (heap_setCell_other _ _ _ _ (by omega)).trans h3, h4⟩
theorem lies_drew {W : World} {d : Dev} (h : d.lies W) : d.lies W.drew := by
  cases d <;> exact h
theorem lies_set {W : World} {d : Dev} {a : Addr} {u : Value} (h : d.lies W) (hne : d.cap ≠ a.block) : d.lies (W.setCell a u) := by
  cases d <;> exact (heap_setCell_other _ _ _ _ hne).trans h
/-- what the list is, told -/
theorem list_rd {Fz : Nat → Prop} {W : World} {n1 : Nat} {v : Value} {tot : List Request} (h : W.ownsRow n1 84 2 v tot.length (cellsQ tot)) (hF : ∀ g, some g = v.ownBlock → Fz g) : R1 Tryz.prog cd M0 Fz W (.sl 84 tot false) v := by
  rcases h.2 with ⟨rfl, h0⟩ | ⟨g, cap, cur, rfl, h2, h3, h4, h5⟩
  · have ht : tot = [] := List.eq_nil_of_length_eq_zero h0
    subst ht
    exact R1.sl 84 ([] : List (U 84)) false none 0 (fun _ => undef) (fun e => by cases e) (Nat.le_refl _) (fun e => absurd rfl e) (fun j c e => by simp at e)
  · have hval : ∀ (j : Nat) (c : C U), ((tot : List (U 84)).flatMap (cd.enc 84))[j]? = some c → (cellsQ tot)[j]? = some (valI c) := fun j c hj => by
      have e : (cellsQ tot)[j]? = (((tot : List (U 84)).flatMap (cd.enc 84)).map valI)[j]? := congrArg (fun z : List Value => z[j]?) (cellsQ_enc tot)
      rw [e, List.getElem?_map, hj]; rfl
    have hget : ∀ (j : Nat) (u : Value), (cellsQ tot)[j]? = some u → (cellsQ tot).getD j undef = u := fun j u hj => by
      rw [List.getD_eq_getElem?_getD, hj]; rfl
    refine @R1.sl U Tryz.prog cd M0 Fz W 84 tot false (some (at0 g 0)) cap (fun j => (cellsQ tot).getD j undef) (fun e => by cases e) h4 (fun _ => ⟨g, 0, rfl, hF g rfl, fun j c hj => ?_⟩) (fun j c hj => ?_)
    · have h8 := hval j c hj
      have hlt : j < tot.length * 2 := by
        rw [← cellsQ_len]
        exact (List.getElem?_eq_some_iff.1 h8).1
      have h7 := h.cellAt j hlt
      rw [Nat.zero_add, hget j _ h8, ← h8]
      exact h7
    · have h8 := hval j c hj
      obtain ⟨n, rfl⟩ := enc_int hj
      show R1 Tryz.prog cd M0 Fz W _ ((cellsQ tot).getD j undef)
      rw [hget j _ h8]
      exact R1.int _ _
set_option maxRecDepth 100000 in
set_option maxHeartbeats 4000000 in
theorem Requests_in {Fz : Nat → Prop} {W : World} {x : Machine} {y : List Request} {cs : Array Value} (hfz : FzOk cd Fz W) (hm : IsM Fz W x cs) (hk : x.lines.length ≤ 100)
    (hV : ∀ d ∈ kindsOf x.lines.length true, ∃ r, reqK d x = some r ∧ r.length ≤ 100) (hF : runR (fun d => reqK d x) (kindsOf x.lines.length true) = some y) :
    Calls Tryz.prog 15 #[.agg cs] W (fun e W' => ∃ v Fz', e = .returned v ∧ RD Tryz.prog cd M0 Fz' W' (resD [vO (cSl 84) y]) v ∧ FzOk cd Fz' W' ∧ Frz Fz W Fz' W' ∧ Below W.heap.size W W' ∧ ∀ k, Fz' k → Fz k ∨ W.heap.size ≤ k) := by
  obtain ⟨la, lcap, hlc⟩ := lines_cell hm
  obtain ⟨i0, hi, hz0, hz1, hz2⟩ := info_parts info84
  refine (callsIn_wide (n := 5)).1 ?_
  refine callsIn_of_wp_marks Tryz.func15 rfl trivial ?_ rfl
  simp only [Tryz.ntmps15, List.size_toArray, List.length_cons, List.length_nil, Nat.reduceAdd, Nat.reduceSub, Array.replicate_succ, Array.replicate_zero, List.push_toArray, List.append_toArray, List.nil_append, List.cons_append]
  gi_wp2_with (refine ⟨trivial, ?_⟩; gi_at_call 28; refine (callsIn_wide.2 (devices_true x.lines.length hk _)).mono ?_; rintro e w1 ⟨Bs, v, ds, rfl, hbox, hBs, hkind, hH, hB⟩)
  have hs1 := hB.size
  simp only [World.size_alloc] at hBs hs1
  have hlen : 0 < ds.length := by
    have := congrArg List.length hkind
    simp [kindsOf] at this; omega
  have hlen2 : ds.length ≤ 1000 := by
    have := congrArg List.length hkind
    simp [kindsOf] at this; omega
  have hboxm : w1.heap[W.heap.size]? = some (.cells cs 44 (0, 0)) := (hB.block _ (by simp; omega)).trans ((Below.heap_alloc _ _ _ (by simp)).trans (heap_alloc_new W _))
  have hres : w1.heap[W.heap.size + 1]? = some (.cells #[.slice none 0 0] 52 (0, 0)) := (hB.block _ (by simp)).trans (heap_alloc2_new W _ _)
  have hb1 : Below W.heap.size W w1 := (((Below.refl _ W).alloc (Nat.le_refl _) _).alloc (by simp) _).trans (hB.mono (by simp; omega))
  have h0 : BetweenR (fun d => reqK d x) W w1.heap.size cs [] w1 := ⟨⟨[], .slice none 0 0, rfl, Nat.zero_le _, hres, ⟨rfl, .inl ⟨rfl, rfl⟩⟩⟩, hboxm, hb1, Nat.le_refl _⟩
  have hfr : ∀ X, Below W.heap.size W X → Frz Fz W Fz X := fun X hX k hk => ⟨hk, hX.block k (hfz.lt k hk)⟩
  refine wpIn_rangeFunc_ownH rfl (by omega) (gf := 152) (lb := #[pt Bs]) rfl trivial (enters_of Tryz.func152 (by kernel_rfl) rfl)
    (devs_stops Fence.wide (5 - 1) trivial rfl (by omega) Bs w1.heap.size _ v ds hlen2 hlen w1 rfl hbox hH) (fun h k => h.trans k)
    (fun X l o o' hl ho _ _ => ⟨by simp, fun k _ hk => World.putObj_heap_other (by omega)⟩) (Below.refl _ _) (fun _ => rfl)
    (fun (pre : List { d : Dev // d ∈ ds }) Wr => BetweenR (fun d => reqK d x) W w1.heap.size cs (List.map (fun (d : { d : Dev // d ∈ ds }) => Dev.kind d.1) pre) Wr ∧ ∀ d ∈ ds, d.lies Wr)
    (fun _ _ _ => False)
    (fun pre A B row hs hg hr => ⟨hs.1.own (by omega) hg hr, fun d hd => lies_kept (hs.2 d hd) hg (fun e => by
      have h1 := (hr d.cap e.symm).1
      have h2 := (hH.2 d hd).1.lt
      omega)⟩)
    (fun _ _ _ _ _ hs _ _ => hs)
    ⟨h0, fun d hd => (hH.2 d hd).1⟩
    (fun (d : { d : Dev // d ∈ ds }) a' Wr => ∃ Bx, w1.heap.size ≤ Bx ∧ Wr.heap[Bx]? = some (.cells d.1.fs 74 (0, 0)) ∧ a' = actR (.agg cs) (.slice none 0 0) (.pointer (some ⟨W.heap.size, 83, none⟩)) (.slice la x.lines.length lcap) (.int .i64 x.lines.length) (.func (.func 152) #[] #[pt Bs]) (.agg d.1.fs) W.heap.size (W.heap.size + 1) Bx undef undef undef undef undef undef)
    (fun d a' _ A B row hs hg hr => by
      obtain ⟨Bx, h1, h2, h3⟩ := hs
      exact ⟨Bx, h1, own_cells hg hr h2, h3⟩) ?assign ?body ?done ?stop
  case assign =>
    rintro l pre d Wr K ⟨hI, hIl⟩ hK
    have hsz2 : w1.heap.size ≤ Wr.heap.size := hI.size
    obtain ⟨f0, c0, f1, c1, f2, c2, f3, c3, hfs⟩ := fs_form d.1
    rw [hfs]
    rw [hfs] at hK
    gi_wp2
    refine hK _ _ ((KeepsOthers.alloc _ _).from _) (KeepsIn.alloc _ hsz2 _) ⟨hI.own (by omega) (World.grownBy_alloc Wr _ none) (fun r e => by cases e), fun q hq => lies_kept (hIl q hq) (World.grownBy_alloc Wr _ none) (by simp)⟩ ⟨Wr.heap.size, hsz2, heap_alloc_new Wr _, ?_⟩
    rfl
  case body =>
    rintro l pre ⟨d, hd⟩ a' Wr hl ⟨rl, hr⟩ ⟨hI, hIl⟩ ⟨Bx, hBx, h4, rfl⟩ hlt
    obtain ⟨⟨tot, v, g1, g2, g3, g4⟩, hbx, hbel, hsz2⟩ := hI
    have hdk : d.kind ∈ kindsOf x.lines.length true := by rw [← hkind]; exact List.mem_map.2 ⟨d, hd, rfl⟩
    obtain ⟨r, hr1, hr2⟩ := hV d.kind hdk
    have hcap := (hH.2 d hd)
    have hcaplt := hcap.1.lt
    have hcap2 := hcap.2
    simp only [World.size_alloc] at hcap2
    have hncap : ¬ Fz d.cap := fun h => by
      have := hfz.lt _ h; omega
    have hfw : Frz Fz W Fz Wr.drew := hfr Wr hbel
    have mW : IsM Fz Wr.drew x cs := RL.mono hm (Ext.refl _) hfw
    have fW : FzOk cd Fz Wr.drew := hfz.mono hfw (fun k hk => Nat.lt_of_lt_of_le (hfz.lt k hk) hbel.size)
    obtain ⟨f, cap, hf0, hrun, hcall⟩ := req_call d (lies_drew (hIl d hd)) fW hncap mW hr1
    have hcell : Wr.cell? ⟨Bx, 1, none⟩ = some (.func (.func f) #[] cap) := by
      have e : Wr.cell? ⟨Bx, 1, none⟩ = d.fs[1]? := by unfold World.cell?; rw [h4]; rfl
      rw [e, hf0]
    have htl : tot.length + r.length ≤ 100000 := by
      simp only [List.length_map] at g2
      omega
    apply wpIn_block
    refine req_region hbx hm.size g3 g4 (by omega) hsz2 hcell hcall htl hrun ?_
    intro v' W2 W3 a hb hown3 hg3
    have hs2 := hb.size
    have hs3 := hg3.size
    have g42 : W2.ownsRow w1.heap.size 84 2 v tot.length (cellsQ tot) := ownsRow_below g4 hb
    have hsame : ∀ k, k < w1.heap.size → W3.heap[k]? = Wr.heap[k]? := fun k hk => (hg3.block k (by omega) (fun e => by
      have := (ownsRow_block g42 e).1
      omega)).trans (hb.block k (by omega))
    have hset : ∀ k, k ≠ W.heap.size + 1 → (W3.setCell ⟨W.heap.size + 1, 0, none⟩ v').heap[k]? = W3.heap[k]? := fun k hk => heap_setCell_other _ _ _ _ hk
    have hsize3 : (W3.setCell ⟨W.heap.size + 1, 0, none⟩ v').heap.size = W3.heap.size := by simp [World.setCell]
    simp only [World.size_alloc]
    refine ⟨⟨by omega, fun k o hB ho hoc => ?_⟩, ⟨by omega, fun k h1 h2 => ?_⟩, ⟨⟨tot ++ r, v', ?_, ?_, ?_, ?_⟩, ?_, ?_, by omega⟩, fun d' hd' => ?_⟩
    · have hlt := (Array.getElem?_eq_some_iff.1 ho).1
      refine (hset k (by omega)).trans ((hg3.block k (by omega) (fun e => ?_)).trans ((hb.block k hlt).trans ho))
      obtain ⟨_, cur, hcur⟩ := ownsRow_block g42 e
      rw [hb.block k hlt, ho] at hcur
      cases hcur
      cases hoc
    · exact (hset k (by omega)).trans (hsame k h2)
    · rw [List.map_append]
      refine runR_app _ _ _ g1 ?_
      show runR _ [d.kind] = some r
      simp [runR, hr1]
    · simp only [List.length_append, List.map_append, List.length_map, List.length_cons, List.length_nil] at g2 ⊢
      omega
    · rw [heap_setCell_same W3 (W.heap.size + 1) 0 #[v] 52 v' ((hsame _ (by omega)).trans g3)]
      rfl
    · have e : cellsQ (tot ++ r) = cellsQ tot ++ cellsQ r := by simp [cellsQ]
      rw [e, List.length_append]
      exact ownsRow_set hown3 (by show W.heap.size + 1 < _; omega)
    · exact (hset _ (by omega)).trans ((hsame _ (by omega)).trans hbx)
    · refine Below.setCell (p := ⟨W.heap.size + 1, 0, none⟩) ?_ (by simp) _
      refine (hbel.trans (hb.mono hbel.size)).grown hg3 (by omega) (fun q hq => ?_)
      have := (ownsRow_block g42 hq.symm).1
      omega
    · have hq := hH.2 d' hd'
      have hq1 := hq.1.lt
      have hq2 := hq.2
      simp only [World.size_alloc] at hq2
      refine lies_set (lies_kept ((hIl d' hd').below hb (hIl d' hd').lt) hg3 (fun e => ?_)) (by show d'.cap ≠ W.heap.size + 1; omega)
      have := (ownsRow_block g42 e).1
      omega
  case done =>
    rintro D xs Wd hD hS ⟨⟨⟨tot, v, g1, g2, g3, g4⟩, hbx, hbel, hsz2⟩, hIl⟩ hDf
    have hS : List.map (·.1) xs = ds := hS
    have hz : tot = y := by
      have e : List.map (fun d : { d : Dev // d ∈ ds } => Dev.kind d.1) xs = List.map Dev.kind ds := by
        have h := congrArg (List.map Dev.kind) hS
        rw [List.map_map] at h
        exact h
      rw [e, hkind, hF] at g1
      exact Option.some.inj g1.symm
    obtain rfl := hz
    have hcv : Wd.cell? ⟨W.heap.size + 1, 0, none⟩ = some v := by unfold World.cell?; rw [g3]; rfl
    obtain ⟨qa, qn, qc, rfl⟩ := slice_of' g4
    gi_wp2
    have hb2 : Below W.heap.size W (Wd.putObj D (.deferred none)) := putObj_below hbel (by omega)
    refine ⟨by simp, .inl ⟨_, _, rfl, run_takeDeferred hDf, ?_⟩⟩
    have hown2 : (Wd.putObj D (.deferred none)).ownsRow w1.heap.size 84 2 (.slice qa qn qc) tot.length (cellsQ tot) := by
      refine ⟨g4.1, g4.2.imp id ?_⟩
      rintro ⟨g, cap, cur, h1, h2, h3, h4⟩
      refine ⟨g, cap, cur, h1, h2, (World.putObj_heap_other (fun e => ?_)).trans h3, h4⟩
      subst e
      rw [hDf] at h3
      cases h3
    refine ⟨_, results_tmp rfl _ _ _, ?_⟩
    refine ⟨.slice qa qn qc, fun j => Fz j ∨ some j = (Value.slice qa qn qc).ownBlock, rfl, list_rd hown2 (fun g hg => .inr hg), ?_, fun k hk => ⟨.inl hk, hb2.block k (hfz.lt k hk)⟩, hb2, fun k hk => hk.imp id (fun e => by
      have := (ownsRow_block g4 e).1
      omega)⟩
    refine hfz.mono (fun k hk => ⟨.inl hk, hb2.block k (hfz.lt k hk)⟩) (fun k hk => ?_)
    rcases hk with hk | hk
    · exact Nat.lt_of_lt_of_le (hfz.lt k hk) hb2.size
    · obtain ⟨_, cur, hcur⟩ := ownsRow_block hown2 hk
      exact (Array.getElem?_eq_some_iff.1 hcur).1
  case stop =>
    rintro D c pre W' _ _ h _
    exact h.elim
theorem okbus_Requests : FnOk Tryz.prog cd 15 Sbus_Requests := by
  refine fnOk_of (aA_ok cMachine_ok aNil_ok) Tryz.func15 (by kernel_rfl) (by kernel_rfl) ?_
  rintro Fz W ⟨x, u⟩ y vs hfz hr hF
  obtain ⟨cs, rfl, hm⟩ := arg_m hr
  replace hF : bus_Requests none x = some y := hF
  unfold bus_Requests at hF
  split at hF
  · rename_i hc
    exact Requests_in hfz hm hc.1 hc.2 hF
  · cases hF
end Go.Proofs.YtfdndagnolbnhaaGreat
end
section
set_option linter.unusedVariables false
namespace Go.Proofs.YtfdndagnolbnhaaGreat
open Go Go.RowKit Go.Ab
attribute [local go_sem] Oper.semAt_some
section
variable {P : Program}
theorem run_loadVar_part (w : World) (g off : Nat) (t ty : TypeId) (cs : Array Value) (fr : Nat × Nat) (part : List Value) (d : TypeDesc) (hg : w.heap[g]? = some (.cells cs t fr)) (hp : ∀ j v, part[j]? = some v → cs[off + j]? = some v)
    (hu : P.underlying ty = some d) (hd : (match d with | .struct _ | .array _ _ => true | _ => false) = true) (hi : (P.info? ty).map (·.size) = some part.length) :
    (loadVar ty ⟨g, off, none⟩).run P w = .ok (.agg part.toArray) w := by
  have hl : (loadCells ⟨g, off, none⟩ part.length).run P w = .ok part.toArray w :=
    run_loadCells_list (P := P) w ⟨g, off, none⟩ part (fun j v hv => by
      have hadd : (⟨g, off, none⟩ : Addr).add j = ⟨g, off + j, none⟩ := by unfold Addr.add; split <;> simp_all
      rw [hadd, cell_of_row w g (off + j) cs t fr hg]
      exact hp j v hv)
  cases hq : P.info? ty with
  | none => simp [hq] at hi
  | some i =>
    have hs : i.size = part.length := by simpa [hq] using hi
    have hagg : (isAgg ty).run P w = .ok true w := by
      unfold isAgg
      rw [Sem.run_bind, run_underlying hu w]
      cases d <;> simp_all
    simp [loadVar, Sem.run_bind, hagg, sizeOf, typeInfo, hq, hs, hl]
theorem run_storeVar_part (w : World) (g off : Nat) (t ty : TypeId) (old cells : Array Value) (hg : w.heap[g]? = some (.cells old t (0, 0))) (hi : (P.info? ty).map (·.size) = some cells.size)
    (ho : off + cells.size ≤ old.size) (h1 : cells.all (·.oneCell') = true) :
    (storeVar ty ⟨g, off, none⟩ (.agg cells)).run P w = .ok () (w.setRow g (old.toList.take off ++ cells.toList ++ old.toList.drop (off + cells.size)).toArray) := by
  have := run_storeCells_at P g off t cells.toList 0 old w hg (by simpa using ho) (fun v hv => (Array.all_eq_true_iff_forall_mem.1 h1) v (by simpa using hv))
  cases hq : P.info? ty with
  | none => simp [hq] at hi
  | some i =>
    have hs : cells.size = i.size := by simp [hq] at hi; omega
    simp only [Nat.add_zero, Array.length_toList] at this
    simp [storeVar, sizeOf, typeInfo, hq, Value.cells, hs]
    rw [hs, List.append_assoc] at this
    exact this
end
theorem wpListIn_load_part {F : Fence} {n : Nat} {P : Program} {ops : Array Oper} {rest : List Oper} {o : Oper} {a : Act} {w : World} {Q : Exit → Act → World → Prop} (hgd : o.guard = none) (ty : TypeId) (x : Operand) (ho : o.op = .load ty x)
    (g off : Nat) (hx : a.eval x = .pointer (some ⟨g, off, none⟩)) (t : TypeId) (cs : Array Value) (fr : Nat × Nat) (part : List Value) (hg : w.heap[g]? = some (.cells cs t fr)) (hp : ∀ j v, part[j]? = some v → cs[off + j]? = some v) (d : TypeDesc)
    (hu : P.underlying ty = some d) (hd : (match d with | .struct _ | .array _ _ => true | _ => false) = true) (hi : (P.info? ty).map (·.size) = some part.length)
    (h : wpListIn F n P ops Q rest (a.put o.dst (.agg part.toArray)) w) : wpListIn F n P ops Q (o :: rest) a w := by
  refine wpListIn_plain hgd fun K hK' => ?_
  unfold Oper.wpIn
  refine ⟨?_, ?_⟩
  · simp [Oper.about, ho]
  · rw [Oper.semAt_plain F _ _ (by rw [ho]; intro c hc'; cases hc')]
    unfold execOp
    simp only [ho, hx, Instr.loadAt, Instr.sureAddr, Sem.run_bind, Sem.run_pure, Result.andThen_ok, run_loadVar_part w g off t ty cs fr part d hg hp hu hd hi]
    exact hK' _ _ h
theorem wpListIn_store_part {F : Fence} {n : Nat} {P : Program} {ops : Array Oper} {rest : List Oper} {o : Oper} {a : Act} {w : World} {Q : Exit → Act → World → Prop} (hgd : o.guard = none) (ty : TypeId) (x y : Operand) (ho : o.op = .store ty x y)
    (g off : Nat) (cells : Array Value) (hx : a.eval x = .pointer (some ⟨g, off, none⟩)) (hy : a.eval y = .agg cells)
    (t : TypeId) (old : Array Value) (hg : w.heap[g]? = some (.cells old t (0, 0))) (hi : (P.info? ty).map (·.size) = some cells.size)
    (hold : off + cells.size ≤ old.size) (h1 : cells.all (·.oneCell') = true)
    (h : wpListIn F n P ops Q rest (a.put o.dst undef) (w.setRow g (old.toList.take off ++ cells.toList ++ old.toList.drop (off + cells.size)).toArray)) : wpListIn F n P ops Q (o :: rest) a w := by
  refine wpListIn_plain hgd fun K hK' => ?_
  unfold Oper.wpIn
  refine ⟨?_, ?_⟩
  · simp [Oper.about, ho]
  · rw [Oper.semAt_plain F _ _ (by rw [ho]; intro c hc'; cases hc')]
    unfold execOp
    simp only [ho, hx, hy, Instr.storeAt, Instr.sureAddr, Sem.run_bind, Sem.run_pure, Result.andThen_ok, run_storeVar_part w g off t ty old cells hg hi hold h1]
    exact hK' _ _ h
theorem info32 : (Tryz.prog.info? 32).map (·.size) = some 67 := by kernel_rfl
theorem enc_mmu (m : Mmu) : cMmu.enc m = [.bool m.on, .arr 28 16 m.pages, .int .i64 m.status, .int .i64 m.addr] := by kernel_rfl
theorem mmu_size {M : Mp} {Fz : Nat → Prop} {W : World} {m : Mmu} {cs : Array Value} (h : RL Tryz.prog cd M Fz W (cMmu.enc m) cs.toList) : cs.size = 67 := by
  have h1 := h.2.1
  have ha : ∀ t n l, C.arr t n l ∈ cMmu.enc m → l.length = n := h.1
  rw [enc_mmu] at ha h1
  have a3 := ha 28 16 m.pages (by simp)
  have c28 : Tryz.prog.cellsOf 28 = 4 := by kernel_rfl
  have f3 : (List.flatMap (cd.enc 28) m.pages).length = 64 := flat_length' 28 m.pages 16 4 a3 c28
  simp only [leaves, leaf, List.flatMap_cons, List.flatMap_nil, List.length_append, f3, List.length_cons, List.length_nil, Array.length_toList] at h1
  omega
theorem mmu_one {M : Mp} {Fz : Nat → Prop} {W : World} {m : Mmu} {cs : Array Value} (h : RL Tryz.prog cd M Fz W (cMmu.enc m) cs.toList) : cs.all (·.oneCell') = true := by
  have h1 := RL.scal cd_ok h (by rw [enc_mmu]; rfl)
  rw [Array.all_eq_true]
  intro i hi
  exact h1 _ (by simp)
theorem mmu_call {Fz : Nat → Prop} {W : World} {m mm : Mmu} {part : List Value} (hfz : FzOk cd Fz W) (hl : RL Tryz.prog cd M0 Fz W (cMmu.enc m) part) (hF : mmu_Reset m = some mm) :
    Calls Tryz.prog 40 #[.agg part.toArray] W fun e W' => ∃ cs' Fz', e = .returned (.agg cs') ∧ RL Tryz.prog cd M0 Fz' W' (cMmu.enc mm) cs'.toList ∧ FzOk cd Fz' W' ∧ Frz Fz W Fz' W' ∧ Below W.heap.size W W' ∧ ∀ j, Fz' j → Fz j ∨ W.heap.size ≤ j := by
  refine (call0 okmmu_Reset (x := (m, ())) (by kernel_rfl) hF rfl hfz (vs := [.agg part.toArray]) ⟨rfl, fun j y v h1 h2 => ?_⟩).mono ?_
  · cases j with
    | zero =>
      obtain rfl : y = .agg (cMmu.enc m) := by
        have h1 : some (V.agg (cMmu.enc m)) = some y := h1
        exact (Option.some.inj h1).symm
      obtain rfl : v = .agg part.toArray := by simpa using h2.symm
      exact ⟨part.toArray, rfl, hl⟩
    | succ j => simp at h2
  · rintro e W' ⟨u, F', he, h1, h2, h3, h4, h5⟩
    obtain ⟨a, rfl, hl⟩ := h1
    exact ⟨a, F', he, hl, h2, h3, h4, h5⟩
set_option maxRecDepth 100000 in
set_option maxHeartbeats 4000000 in
theorem Reset_in {Fz : Nat → Prop} {W : World} {x y : Machine} {mm : Mmu} {cs : Array Value} (hfz : FzOk cd Fz W) (hm : IsM Fz W x cs) (hk : x.lines.length ≤ 100) (V : Machine → Prop) (hVx : V x)
    (hV : ∀ d ∈ kindsOf x.lines.length true, ∀ z, V z → ∃ z', resetK d z = some z' ∧ V z') (hF : runK (resetK) (kindsOf x.lines.length true) x = some y) (hM : mmu_Reset y.mmu = some mm) :
    Calls Tryz.prog 13 #[.agg cs] W (Turned Fz W { y with mmu := mm }) := by
  obtain ⟨la, lcap, hlc⟩ := lines_cell hm
  refine (callsIn_wide (n := 5)).1 ?_
  refine callsIn_of_wp_marks Tryz.func13 rfl trivial ?_ rfl
  simp only [Tryz.ntmps13, List.size_toArray, List.length_cons, List.length_nil, Nat.reduceAdd, Nat.reduceSub, Array.replicate_succ, Array.replicate_zero, List.push_toArray, List.append_toArray, List.nil_append, List.cons_append]
  gi_wp2_with (refine ⟨trivial, ?_⟩; gi_at_call 28; refine (callsIn_wide.2 (devices_true x.lines.length hk _)).mono ?_; rintro e w1 ⟨Bs, v, ds, rfl, hbox, hBs, hkind, hH, hB⟩)
  have hs1 := hB.size
  simp only [World.size_alloc] at hBs hs1
  have hlen : 0 < ds.length := by
    have := congrArg List.length hkind
    simp [kindsOf] at this; omega
  have hlen2 : ds.length ≤ 1000 := by
    have := congrArg List.length hkind
    simp [kindsOf] at this; omega
  have hboxm : w1.heap[W.heap.size]? = some (.cells cs 44 (0, 0)) := (hB.block _ (by simp; omega)).trans ((Below.heap_alloc _ _ _ (by simp)).trans (heap_alloc_new W _))
  have hres : w1.heap[W.heap.size + 1]? = some (.cells Tryz.zeroCells44 44 (0, 0)) := (hB.block _ (by simp)).trans (heap_alloc2_new W _ _)
  have hb1 : Below W.heap.size W w1 := (((Below.refl _ W).alloc (Nat.le_refl _) _).alloc (by simp) _).trans (hB.mono (by simp; omega))
  have hIM : IsM Fz w1 x cs := RL.cells cd_nomp hm (leaves_nomp x) (cells_below hb1)
  have h0 : Between (resetK) V Fz W w1.heap.size x [] w1 := ⟨⟨x, cs, Fz, rfl, hVx, hIM, hfz.cells hb1.size (cells_below hb1), hboxm, fun _ h => h, fun _ h => .inl h⟩, hb1, Nat.le_refl _⟩
  refine wpIn_rangeFunc_ownH rfl (by omega) (gf := 152) (lb := #[pt Bs]) rfl trivial (enters_of Tryz.func152 (by kernel_rfl) rfl)
    (devs_stops Fence.wide (5 - 1) trivial rfl (by omega) Bs w1.heap.size _ v ds hlen2 hlen w1 rfl hbox hH) (fun h k => h.trans k)
    (fun X l o o' hl ho _ _ => ⟨by simp, fun k _ hk => World.putObj_heap_other (by omega)⟩) (Below.refl _ _) (fun _ => rfl)
    (fun (pre : List { d : Dev // d ∈ ds }) Wr => Between (resetK) V Fz W w1.heap.size x (List.map (fun (d : { d : Dev // d ∈ ds }) => Dev.kind d.1) pre) Wr ∧ Wr.heap[W.heap.size + 1]? = some (.cells Tryz.zeroCells44 44 (0, 0)) ∧ ∀ d ∈ ds, d.lies Wr)
    (fun _ _ _ => False)
    (fun pre A B row hs hg hr => ⟨hs.1.own (by omega) hg hr, own_cells hg hr hs.2.1, fun d hd => lies_kept (hs.2.2 d hd) hg (fun e => by
      have h1 := (hr d.cap e.symm).1
      have h2 := (hH.2 d hd).1.lt
      omega)⟩)
    (fun _ _ _ _ _ hs _ _ => hs)
    ⟨h0, hres, fun d hd => (hH.2 d hd).1⟩
    (fun (d : { d : Dev // d ∈ ds }) a' Wr => ∃ Bx, w1.heap.size ≤ Bx ∧ Wr.heap[Bx]? = some (.cells d.1.fs 74 (0, 0)) ∧ a' = { tmps := #[.agg cs, pt W.heap.size, pt (W.heap.size + 1), pt Bx, .pointer (some ⟨W.heap.size, 83, none⟩), .slice la x.lines.length lcap, .int .i64 x.lines.length, .func (.func 152) #[] #[pt Bs], .agg d.1.fs, undef, undef, undef, undef, undef, undef, undef, undef, undef], defers := [] })
    (fun d a' _ A B row hs hg hr => by
      obtain ⟨Bx, h1, h2, h3⟩ := hs
      exact ⟨Bx, h1, own_cells hg hr h2, h3⟩) ?assign ?body ?done ?stop
  case assign =>
    rintro l pre d Wr K ⟨hI, hIr, hIl⟩ hK
    have hsz2 : w1.heap.size ≤ Wr.heap.size := hI.size
    obtain ⟨f0, c0, f1, c1, f2, c2, f3, c3, hfs⟩ := fs_form d.1
    rw [hfs]
    rw [hfs] at hK
    gi_wp2
    refine hK _ _ ((KeepsOthers.alloc _ _).from _) (KeepsIn.alloc _ hsz2 _) ⟨hI.own (by omega) (World.grownBy_alloc Wr _ none) (fun r e => by cases e), own_cells (B := 0) (World.grownBy_alloc Wr _ none) (fun r e => by cases e) hIr, fun q hq => lies_kept (hIl q hq) (World.grownBy_alloc Wr _ none) (by simp)⟩ ⟨Wr.heap.size, hsz2, heap_alloc_new Wr _, ?_⟩
    rfl
  case body =>
    rintro l pre ⟨d, hd⟩ a' Wr hl ⟨r, hr⟩ ⟨hI, hIr, hIl⟩ ⟨Bx, hBx, h4, rfl⟩ hlt
    obtain ⟨⟨z, cs', Fz', q1, q2, q3, q4, q5, q6, q7⟩, hbel, hsz2⟩ := hI
    have hdk : d.kind ∈ kindsOf x.lines.length true := by rw [← hkind]; exact List.mem_map.2 ⟨d, hd, rfl⟩
    obtain ⟨z', hz1, hz2⟩ := hV d.kind hdk z q2
    have hcap := (hH.2 d hd)
    have hcaplt := hcap.1.lt
    have hcap2 := hcap.2
    simp only [World.size_alloc] at hcap2
    have hncap : ¬ Fz' d.cap := fun h => by
      rcases q7 _ h with h | h
      · have := hfz.lt _ h; omega
      · omega
    obtain ⟨f, cap, hf0, hcall⟩ := reset_call d (hIl d hd) q4 hncap q3 hz1
    have hcell : Wr.cell? ⟨Bx, 3, none⟩ = some (.func (.func f) #[] cap) := by
      have e : Wr.cell? ⟨Bx, 3, none⟩ = d.fs[3]? := by unfold World.cell?; rw [h4]; rfl
      rw [e, hf0]
    have hsz3 := q3.size
    dsimp only [pt]
    cases d <;> (
      simp [Dev.fs, fn0, fn1] at hf0
      obtain ⟨rfl, rfl⟩ := hf0
      simp only [List.append_toArray, List.cons_append, List.nil_append, Array.append_empty] at hcall
      gi_wp2_with (first
        | (refine wpListIn_load_row rfl 44 (.tmp 1) rfl W.heap.size rfl 44 cs' (0, 0) _ q5 Tryz.underlying44 rfl (by rw [hsz3]; exact info44) ?_)
        | (refine ⟨trivial, ?_⟩; (first | gi_at_call 123 | gi_at_call 132 | gi_at_call 141 | gi_at_call 150); refine (CallsIn.inRound l (callsIn_wide.2 hcall)).mono ?_; rintro e W2 ⟨cs2, F2, rfl, p1, p2, p3, p4, p5⟩)
        | (refine wpListIn_store_row rfl 44 (.tmp 1) (.tmp 12) rfl W.heap.size cs2 rfl rfl 44 cs' ((p4.block _ (by omega)).trans q5) (by rw [p1.size]; exact info44) (by rw [hsz3, p1.size]) p1.one ?_))
      refine ⟨?_, ?_, ⟨⟨z', cs2, F2, ?_, ?_, ?_, ?_, ?_, ?_, ?_⟩, ?_, ?_⟩, ?_, ?_⟩
      all_goals simp only [World.size_alloc] at *
      all_goals have hfr : Frz F2 W2 F2 (W2.setRow W.heap.size cs2) := fun k hk => ⟨hk, setRow_other _ _ _ _ (fun e => by
        subst e
        rcases p5 _ hk with h | h
        · rcases q7 _ h with h | h
          · have := hfz.lt _ h; omega
          · omega
        · omega)⟩
      all_goals have hps := p4.size
      · exact ⟨by simp; exact hps, fun k o hB ho _ => (setRow_other _ _ _ _ (by omega)).trans ((p4.block k (Array.getElem?_eq_some_iff.1 ho).1).trans ho)⟩
      · exact ⟨by simp; exact hps, fun k h1 h2 => (setRow_other _ _ _ _ (by omega)).trans (p4.block k (by omega))⟩
      · rw [List.map_append, runK_app, q1]
        simp only [Option.bind_some, List.map_cons, List.map_nil, runK]
        rw [show resetK _ z = some z' from hz1]; rfl
      · exact hz2
      · exact RL.mono p1 (Ext.refl _) hfr
      · exact p2.mono hfr (fun k hk => by simp; exact p2.lt k hk)
      · exact setRow_heap W2 _ cs' cs2 44 (0, 0) ((p4.block _ (by omega)).trans q5)
      · exact fun k h => (p3 k (q6 k h)).1
      · intro k h
        rcases p5 k h with h | h
        · exact q7 k h
        · exact .inr (by omega)
      · exact setRow_below (hbel.trans (p4.mono hbel.size)) (Nat.le_refl _)
      · simp; omega
      · exact (setRow_other _ _ _ _ (by omega)).trans ((p4.block _ (by omega)).trans hIr)
      · exact fun d hd => lies_setRow ((hIl d hd).below p4 (hIl d hd).lt) (by have := (hH.2 d hd).2; omega))
  case done =>
    rintro D xs Wd hD hS ⟨⟨⟨z, cs', Fz', q1, q2, q3, q4, q5, q6, q7⟩, hbel, hsz2⟩, hIr, hIl⟩ hDf
    have hS : List.map (·.1) xs = ds := hS
    have hz : z = y := by
      have e : List.map (fun d : { d // d ∈ ds } => Dev.kind d.1) xs = List.map Dev.kind ds := by
        have h := congrArg (List.map Dev.kind) hS
        rw [List.map_map] at h
        exact h
      rw [e, hkind, hF] at q1
      exact Option.some.inj q1.symm
    have hsz3 := q3.size
    obtain rfl := hz
    obtain ⟨hcut, hcl⟩ := RL.cut cd_ok q3 (o := 12) (n := 67) (r := cMmu.enc z.mmu) (by kernel_rfl)
    have hcl2 : ((cs'.toList.drop 12).take 67).length = 67 := by simp [hsz3]
    have hput : ∀ (F4 : Nat → Prop) (W4 : World) (ms : Array Value), Frz Fz' Wd F4 W4 → RL Tryz.prog cd M0 F4 W4 (cMmu.enc mm) ms.toList → IsM F4 W4 { z with mmu := mm } (cs'.toList.take 12 ++ ms.toList ++ cs'.toList.drop (12 + ms.size)).toArray := by
      intro F4 W4 ms p3 p1
      rw [mmu_size p1]
      exact (RL.put cd_ok (RL.mono q3 (Ext.refl _) p3) p1 (by rw [Array.length_toList]; exact mmu_size p1) (o := 12) (n := 67) (by kernel_rfl)).1
    gi_wp2_with (first
      | (refine wpListIn_load_part rfl 32 (.tmp 13) rfl W.heap.size 12 rfl 44 cs' (0, 0) ((cs'.toList.drop 12).take 67) q5 (fun j v hj => by rw [List.getElem?_take] at hj; split at hj; rw [List.getElem?_drop] at hj; rw [← Array.getElem?_toList]; exact hj; cases hj) _ Tryz.underlying32 rfl (by rw [hcl2]; exact info32) ?_)
      | (refine ⟨trivial, ?_⟩; gi_at_call 40; refine (callsIn_wide.2 (mmu_call q4 hcut hM)).mono ?_; rintro e W4 ⟨ms, F4, rfl, p1, p2, p3, p4, p5⟩)
      | (refine wpListIn_store_part rfl 32 (.tmp 16) (.tmp 15) rfl W.heap.size 12 ms rfl rfl 44 cs' ((p4.block _ (by omega)).trans q5) (by rw [mmu_size p1]; exact info32) (by rw [hsz3, mmu_size p1]; decide) (mmu_one p1) ?_)
      | (refine wpListIn_load_row rfl 44 (.tmp 1) rfl W.heap.size rfl 44 (cs'.toList.take 12 ++ ms.toList ++ cs'.toList.drop (12 + ms.size)).toArray (0, 0) _ (setRow_heap W4 _ cs' _ 44 (0, 0) ((p4.block _ (by omega)).trans q5)) Tryz.underlying44 rfl (by rw [(hput _ _ _ p3 p1).size]; exact info44) ?_)
      | (refine wpListIn_store_row rfl 44 (.tmp 2) (.tmp 17) rfl (W.heap.size + 1) (cs'.toList.take 12 ++ ms.toList ++ cs'.toList.drop (12 + ms.size)).toArray rfl rfl 44 Tryz.zeroCells44 ((setRow_other _ _ _ _ (by omega)).trans ((p4.block _ (by omega)).trans hIr)) (by rw [(hput _ _ _ p3 p1).size]; exact info44) (by rw [(hput _ _ _ p3 p1).size]; kernel_rfl) (hput _ _ _ p3 p1).one ?_))
    have hDlt := (Array.getElem?_eq_some_iff.1 hDf).1
    have hfr4 : Frz F4 W4 F4 (W4.setRow W.heap.size (cs'.toList.take 12 ++ ms.toList ++ cs'.toList.drop (12 + ms.size)).toArray) := fun k hk => ⟨hk, setRow_other _ _ _ _ (fun e => by
      subst e
      rcases p5 _ hk with h | h
      · rcases q7 _ h with h | h
        · have := hfz.lt _ h; omega
        · omega
      · omega)⟩
    exact left_turned hfz rfl rfl (RL.mono (hput _ _ _ p3 p1) (Ext.refl _) hfr4) (p2.mono hfr4 (fun k hk => by simp; exact p2.lt k hk)) (fun k h => (p3 k (q6 k h)).1) (fun k h => by
      rcases p5 k h with h | h
      · exact (q7 k h).imp id (by omega)
      · exact .inr (by omega)) (setRow_below (hbel.trans (p4.mono hbel.size)) (Nat.le_refl _)) (by omega) (by omega) ((setRow_other _ _ _ _ (by omega)).trans ((p4.block _ (by omega)).trans hIr)) ((setRow_other _ _ _ _ (by omega)).trans ((p4.block _ hDlt).trans hDf))
  case stop =>
    rintro D c pre W' _ _ h _
    exact h.elim
theorem okbus_Reset : FnOk Tryz.prog cd 13 Sbus_Reset := by
  refine fnOk_of (aA_ok cMachine_ok aNil_ok) Tryz.func13 (by kernel_rfl) (by kernel_rfl) ?_
  rintro Fz W ⟨x, u⟩ y vs hfz hr hF
  obtain ⟨cs, rfl, hm⟩ := arg_m hr
  replace hF : bus_Reset none x = some y := hF
  unfold bus_Reset at hF
  split at hF
  · rename_i hc
    obtain ⟨hk, V, hVx, hV⟩ := hc
    obtain ⟨z, hz, hF⟩ := Option.bind_eq_some_iff.1 hF
    obtain ⟨mm, hM, rfl⟩ := Option.map_eq_some_iff.1 hF
    exact (Reset_in hfz hm hk V hVx hV hz hM).mono fun e W' h => turned_fn h
  · cases hF
end Go.Proofs.YtfdndagnolbnhaaGreat
end
section

end
section
set_option linter.unusedSimpArgs false
namespace Go.Proofs.YtfdndagnolbnhaaGreat
open Go Go.Ab
noncomputable def fns12 := addF 12 true Sbus_Accept fns40
theorem fns12_ok : ∀ f q t, fns12 f = some (q, t) → FnOk Tryz.prog cd f t := addF_ok okbus_Accept fns40_ok
noncomputable def fns13 := addF 13 true Sbus_Reset fns12
theorem fns13_ok : ∀ f q t, fns13 f = some (q, t) → FnOk Tryz.prog cd f t := addF_ok okbus_Reset fns12_ok
/-- emulator/emulatorref18.SameRequests -/
structure Sref18_SameRequests_0 where
  t0 : (List Request)
  t1 : (List Request)
  t5 : Int
noncomputable def Wref18_SameRequests_0 (s : Sref18_SameRequests_0) : Tree (Sref18_SameRequests_0 ⊕ (Bool ⊕ Unit)) :=
  .ite (decide (s.t5 < (s.t0.length : Int)))
    (.ite (decide (0 ≤ s.t5))
      (.opt Request (s.t0[(s.t5).toNat]?) fun y285 =>
        .ite (decide (0 ≤ s.t5))
          (.opt Request (s.t1[(s.t5).toNat]?) fun y286 =>
            .ite (!((decide (y285.priority = y286.priority)) && (decide (y285.vector = y286.vector))))
              (.leaf (.inr (.inl false)))
              (.leaf (.inl (Sref18_SameRequests_0.mk s.t0 s.t1 (IntKind.wrap .i64 (s.t5 + (1 : Int)))))))
          .fail)
      .fail)
    (.leaf (.inr (.inr ())))
noncomputable def Lref18_SameRequests_0 (q : Option Nat) (s : Sref18_SameRequests_0) : Option (Bool ⊕ Unit) := limQ q (fun s => (Wref18_SameRequests_0 s).run) s
noncomputable def Tref18_SameRequests (q : Option Nat) (x0 : (List Request)) (x1 : (List Request)) : Tree Bool :=
  .ite (!decide ((x0.length : Int) = (x1.length : Int)))
    (.leaf (false))
    (.opt (Bool ⊕ Unit) (Lref18_SameRequests_0 q (Sref18_SameRequests_0.mk x0 x1 (0 : Int))) fun l287 =>
      .ite (l287.isLeft)
        (.opt Bool (l287.getLeft?) fun a288 =>
          .leaf (a288))
        (.opt Unit (l287.getRight?) fun b289 =>
          .leaf (true)))
noncomputable def ref18_SameRequests (q : Option Nat) (x0 : (List Request)) (x1 : (List Request)) : Option Bool := (Tref18_SameRequests q x0 x1).run
noncomputable def Aref18_SameRequests : Arg U ((List Request) × (List Request) × Unit) := aO (cSl 84) (aO (cSl 84) (aNil))
noncomputable def Rref18_SameRequests (r : Bool) : List (V U) × List (Blk U) := ([vO cBool r], [])
noncomputable def Sref18_SameRequests : List (V U) → List (Blk U) → Option (FnOut U) := mkSpec Aref18_SameRequests bNil (fun x _ => ref18_SameRequests none x.1 x.2.1) Rref18_SameRequests
noncomputable def Pref18_SameRequests_0 (x : ((List Request) × Unit) × ((List Request) × Unit) × (Int × Unit) × Unit) (_g : Unit) : Sref18_SameRequests_0 := Sref18_SameRequests_0.mk x.1.1 x.2.1.1 x.2.2.1.1
noncomputable def tAref18_SameRequests_0 : Tms U (((List Request) × Unit) × ((List Request) × Unit) × (Int × Unit) × Unit) := tO 0 (cPair (cSl 84) (cUnit)) (tO 1 (cPair (cSl 84) (cUnit)) (tO 5 (cPair (cInt .i64) (cUnit)) (tNil)))
noncomputable def tBref18_SameRequests_0 : Bls U (Unit) := bNil
noncomputable def eSref18_SameRequests_0 (s : Sref18_SameRequests_0) : St U := { tm := [(0, .v (vO (cPair (cSl 84) (cUnit)) (s.t0, ()))), (1, .v (vO (cPair (cSl 84) (cUnit)) (s.t1, ()))), (5, .v (vO (cPair (cInt .i64) (cUnit)) (s.t5, ())))], hp := [] }
noncomputable def xSref18_SameRequests_0 : (Bool ⊕ Unit) → Ex × St U
  | .inl r => (.ret, { tm := [(4, .v (vO (cPair cBool (cUnit)) (r, ())))], hp := [] })
  | .inr r => (.exit 0, { tm := [], hp := [] })
noncomputable def xTref18_SameRequests_0 (y : (Bool ⊕ Unit)) : Tree (Ex × St U) := .ite y.isLeft (.opt Bool y.getLeft? fun r => .leaf (.ret, { tm := [(4, .v (vO (cPair cBool (cUnit)) (r, ())))], hp := [] })) (.opt Unit y.getRight? fun r => .leaf (.exit 0, { tm := [], hp := [] }))
noncomputable def href18_SameRequests_0 : Hd := { keep := [0, 1, 5], xkeep := [4], own := false }
noncomputable def Eref18_SameRequests : Env U := { P := Tryz.prog, cd := cd, fns := fns13, lps := (addL 0 href18_SameRequests_0 (mkLoop tAref18_SameRequests_0 tBref18_SameRequests_0 Pref18_SameRequests_0 (Lref18_SameRequests_0 none) xTref18_SameRequests_0) noL), frz := fun _r => false, nt := 26, n0 := 0 }
noncomputable def Bref18_SameRequests_0 : Code := (loopAt (Tryz.f14.body.getD .skip) 0 0).getD .skip
theorem roundref18_SameRequests_0 (s : Sref18_SameRequests_0) : round Eref18_SameRequests href18_SameRequests_0 Bref18_SameRequests_0 0 (eSref18_SameRequests_0 s) = (Wref18_SameRequests_0 s).map (sumE eSref18_SameRequests_0 xSref18_SameRequests_0) := by kernel_rfl
theorem lpref18_SameRequests_0 : LpOk Eref18_SameRequests Bref18_SameRequests_0 0 := mkLoop_ok (A := tAref18_SameRequests_0) (B := tBref18_SameRequests_0) (f := Pref18_SameRequests_0) (L := Lref18_SameRequests_0 none) (tO_ok (cPair_ok (cSl_ok 84) cUnit_ok) (tO_ok (cPair_ok (cSl_ok 84) cUnit_ok) (tO_ok (cPair_ok (cInt_ok .i64) cUnit_ok) tNil_ok))) bNil_ok (enc := eSref18_SameRequests_0) (out := xTref18_SameRequests_0) (outS := xSref18_SameRequests_0) (step := Wref18_SameRequests_0) (fun _ => rfl) (fun _ _ => by kernel_rfl) (by kernel_rfl) (fun b => by cases b <;> rfl) roundref18_SameRequests_0
theorem runref18_SameRequests (x : (List Request) × (List Request) × Unit) (g : Unit) : execF Eref18_SameRequests Tryz.f14 (Aref18_SameRequests.enc x) (bNil.enc g) = (Tref18_SameRequests none x.1 x.2.1).map Rref18_SameRequests := by kernel_rfl
theorem okref18_SameRequests : FnOk Tryz.prog cd 14 Sref18_SameRequests := mk_ok (E := Eref18_SameRequests) cd_ok fns13_ok Tryz.func14 (by kernel_rfl) (loops_of (addL_ok lpref18_SameRequests_0 noL_ok)) (aO_ok (cSl_ok 84) (aO_ok (cSl_ok 84) (aNil_ok))) bNil_ok (T := fun x _ => Tref18_SameRequests none x.1 x.2.1) (fun _ _ => rfl) runref18_SameRequests
noncomputable def fns14 := addF 14 true Sref18_SameRequests fns13
theorem fns14_ok : ∀ f q t, fns14 f = some (q, t) → FnOk Tryz.prog cd f t := addF_ok okref18_SameRequests fns13_ok
noncomputable def fns15 := addF 15 true Sbus_Requests fns14
theorem fns15_ok : ∀ f q t, fns15 f = some (q, t) → FnOk Tryz.prog cd f t := addF_ok okbus_Requests fns14_ok
/-- emulator/emulatorref13.Requests -/
noncomputable def Tref13_Requests (x0 : Clock) : Tree (List Request) :=
  .ite (x0.enable)
    (.ite (x0.ready)
      (.leaf ([Request.mk (6 : Int) (64 : Int)]))
      (.leaf ([])))
    (.leaf ([]))
noncomputable def ref13_Requests (x0 : Clock) : Option (List Request) := (Tref13_Requests x0).run
noncomputable def Aref13_Requests : Arg U (Clock × Unit) := aA cClock (aNil)
noncomputable def Rref13_Requests (r : (List Request)) : List (V U) × List (Blk U) := ([vO (cSl 84) r], [])
noncomputable def Sref13_Requests : List (V U) → List (Blk U) → Option (FnOut U) := mkSpec Aref13_Requests bNil (fun x _ => ref13_Requests x.1) Rref13_Requests
noncomputable def Eref13_Requests : Env U := { P := Tryz.prog, cd := cd, fns := fns15, lps := noL, frz := fun _r => false, nt := 11, n0 := 0 }
theorem runref13_Requests (x : Clock × Unit) (g : Unit) : execF Eref13_Requests Tryz.f41 (Aref13_Requests.enc x) (bNil.enc g) = (Tref13_Requests x.1).map Rref13_Requests := by kernel_rfl
theorem okref13_Requests : FnOk Tryz.prog cd 41 Sref13_Requests := mk_ok (E := Eref13_Requests) cd_ok fns15_ok Tryz.func41 (by kernel_rfl) (noLoops_body (by kernel_rfl)) (aA_ok cClock_ok (aNil_ok)) bNil_ok (T := fun x _ => Tref13_Requests x.1) (fun _ _ => rfl) runref13_Requests
noncomputable def fns41 := addF 41 true Sref13_Requests fns15
theorem fns41_ok : ∀ f q t, fns41 f = some (q, t) → FnOk Tryz.prog cd f t := addF_ok okref13_Requests fns15_ok
/-- emulator/emulatorref16.Requests -/
noncomputable def Tref16_Requests (x0 : Disk) : Tree (List Request) :=
  .ite (x0.enable)
    (.ite (x0.ready)
      (.leaf ([Request.mk (5 : Int) (160 : Int)]))
      (.leaf ([])))
    (.leaf ([]))
noncomputable def ref16_Requests (x0 : Disk) : Option (List Request) := (Tref16_Requests x0).run
noncomputable def Aref16_Requests : Arg U (Disk × Unit) := aA cDisk (aNil)
noncomputable def Rref16_Requests (r : (List Request)) : List (V U) × List (Blk U) := ([vO (cSl 84) r], [])
noncomputable def Sref16_Requests : List (V U) → List (Blk U) → Option (FnOut U) := mkSpec Aref16_Requests bNil (fun x _ => ref16_Requests x.1) Rref16_Requests
noncomputable def Eref16_Requests : Env U := { P := Tryz.prog, cd := cd, fns := fns41, lps := noL, frz := fun _r => false, nt := 11, n0 := 0 }
theorem runref16_Requests (x : Disk × Unit) (g : Unit) : execF Eref16_Requests Tryz.f42 (Aref16_Requests.enc x) (bNil.enc g) = (Tref16_Requests x.1).map Rref16_Requests := by kernel_rfl
theorem okref16_Requests : FnOk Tryz.prog cd 42 Sref16_Requests := mk_ok (E := Eref16_Requests) cd_ok fns41_ok Tryz.func42 (by kernel_rfl) (noLoops_body (by kernel_rfl)) (aA_ok cDisk_ok (aNil_ok)) bNil_ok (T := fun x _ => Tref16_Requests x.1) (fun _ _ => rfl) runref16_Requests
noncomputable def fns42 := addF 42 true Sref16_Requests fns41
theorem fns42_ok : ∀ f q t, fns42 f = some (q, t) → FnOk Tryz.prog cd f t := addF_ok okref16_Requests fns41_ok
/-- emulator/emulatorref17.Requests -/
noncomputable def Tref17_Requests (x0 : Tape) : Tree (List Request) :=
  .ite (x0.enable)
    (.ite (x0.ready)
      (.leaf ([Request.mk (5 : Int) (164 : Int)]))
      (.leaf ([])))
    (.leaf ([]))
noncomputable def ref17_Requests (x0 : Tape) : Option (List Request) := (Tref17_Requests x0).run
noncomputable def Aref17_Requests : Arg U (Tape × Unit) := aA cTape (aNil)
noncomputable def Rref17_Requests (r : (List Request)) : List (V U) × List (Blk U) := ([vO (cSl 84) r], [])
noncomputable def Sref17_Requests : List (V U) → List (Blk U) → Option (FnOut U) := mkSpec Aref17_Requests bNil (fun x _ => ref17_Requests x.1) Rref17_Requests
noncomputable def Eref17_Requests : Env U := { P := Tryz.prog, cd := cd, fns := fns42, lps := noL, frz := fun _r => false, nt := 11, n0 := 0 }
theorem runref17_Requests (x : Tape × Unit) (g : Unit) : execF Eref17_Requests Tryz.f43 (Aref17_Requests.enc x) (bNil.enc g) = (Tref17_Requests x.1).map Rref17_Requests := by kernel_rfl
theorem okref17_Requests : FnOk Tryz.prog cd 43 Sref17_Requests := mk_ok (E := Eref17_Requests) cd_ok fns42_ok Tryz.func43 (by kernel_rfl) (noLoops_body (by kernel_rfl)) (aA_ok cTape_ok (aNil_ok)) bNil_ok (T := fun x _ => Tref17_Requests x.1) (fun _ _ => rfl) runref17_Requests
noncomputable def fns43 := addF 43 true Sref17_Requests fns42
theorem fns43_ok : ∀ f q t, fns43 f = some (q, t) → FnOk Tryz.prog cd f t := addF_ok okref17_Requests fns42_ok
/-- emulator/emulatorref14.Requests -/
noncomputable def Tref14_Requests (x0 : Line) (x1 : Int) : Tree (List Request) :=
  .ite (decide (x1 < (0 : Int)))
    (.leaf ([]))
    (.ite (decide ((4 : Int) ≤ x1))
      (.leaf ([]))
      (.ite (x0.rxEnable)
        (.ite (x0.rxReady)
          (.ite (decide (([Request.mk (4 : Int) (IntKind.wrap .i64 ((128 : Int) + (IntKind.wrap .i64 ((8 : Int) * x1))))]).length * 16 ≤ 140737488355328))
            (.ite (x0.txEnable)
              (.ite (x0.txReady)
                (.ite (decide ((([Request.mk (4 : Int) (IntKind.wrap .i64 ((128 : Int) + (IntKind.wrap .i64 ((8 : Int) * x1))))]).length + ([Request.mk (4 : Int) (IntKind.wrap .i64 ((132 : Int) + (IntKind.wrap .i64 ((8 : Int) * x1))))]).length) * 16 ≤ 140737488355328))
                  (.leaf (([Request.mk (4 : Int) (IntKind.wrap .i64 ((128 : Int) + (IntKind.wrap .i64 ((8 : Int) * x1))))]) ++ ([Request.mk (4 : Int) (IntKind.wrap .i64 ((132 : Int) + (IntKind.wrap .i64 ((8 : Int) * x1))))])))
                  .fail)
                (.leaf ([Request.mk (4 : Int) (IntKind.wrap .i64 ((128 : Int) + (IntKind.wrap .i64 ((8 : Int) * x1))))])))
              (.leaf ([Request.mk (4 : Int) (IntKind.wrap .i64 ((128 : Int) + (IntKind.wrap .i64 ((8 : Int) * x1))))])))
            .fail)
          (.ite (x0.txEnable)
            (.ite (x0.txReady)
              (.ite (decide (([Request.mk (4 : Int) (IntKind.wrap .i64 ((132 : Int) + (IntKind.wrap .i64 ((8 : Int) * x1))))]).length * 16 ≤ 140737488355328))
                (.leaf ([Request.mk (4 : Int) (IntKind.wrap .i64 ((132 : Int) + (IntKind.wrap .i64 ((8 : Int) * x1))))]))
                .fail)
              (.leaf ([])))
            (.leaf ([]))))
        (.ite (x0.txEnable)
          (.ite (x0.txReady)
            (.ite (decide (([Request.mk (4 : Int) (IntKind.wrap .i64 ((132 : Int) + (IntKind.wrap .i64 ((8 : Int) * x1))))]).length * 16 ≤ 140737488355328))
              (.leaf ([Request.mk (4 : Int) (IntKind.wrap .i64 ((132 : Int) + (IntKind.wrap .i64 ((8 : Int) * x1))))]))
              .fail)
            (.leaf ([])))
          (.leaf ([])))))
noncomputable def ref14_Requests (x0 : Line) (x1 : Int) : Option (List Request) := (Tref14_Requests x0 x1).run
noncomputable def Aref14_Requests : Arg U (Line × Int × Unit) := aA cLine (aO (cInt .i64) (aNil))
noncomputable def Rref14_Requests (r : (List Request)) : List (V U) × List (Blk U) := ([vO (cSl 84) r], [])
noncomputable def Sref14_Requests : List (V U) → List (Blk U) → Option (FnOut U) := mkSpec Aref14_Requests bNil (fun x _ => ref14_Requests x.1 x.2.1) Rref14_Requests
noncomputable def Eref14_Requests : Env U := { P := Tryz.prog, cd := cd, fns := fns43, lps := noL, frz := fun _r => false, nt := 40, n0 := 0 }
theorem runref14_Requests (x : Line × Int × Unit) (g : Unit) : execF Eref14_Requests Tryz.f44 (Aref14_Requests.enc x) (bNil.enc g) = (Tref14_Requests x.1 x.2.1).map Rref14_Requests := by kernel_rfl
theorem okref14_Requests : FnOk Tryz.prog cd 44 Sref14_Requests := mk_ok (E := Eref14_Requests) cd_ok fns43_ok Tryz.func44 (by kernel_rfl) (noLoops_body (by kernel_rfl)) (aA_ok cLine_ok (aO_ok (cInt_ok .i64) (aNil_ok))) bNil_ok (T := fun x _ => Tref14_Requests x.1 x.2.1) (fun _ _ => rfl) runref14_Requests
noncomputable def fns44 := addF 44 true Sref14_Requests fns43
theorem fns44_ok : ∀ f q t, fns44 f = some (q, t) → FnOk Tryz.prog cd f t := addF_ok okref14_Requests fns43_ok
/-- emulator/emulatorref18.Requests -/
structure Sref18_Requests_0 where
  t4 : Int
  b0 : Machine
  b1 : (List Request)
noncomputable def Wref18_Requests_0 (s : Sref18_Requests_0) : Tree (Sref18_Requests_0 ⊕ (List Request)) :=
  .ite (decide (s.t4 < (s.b0.lines.length : Int)))
    (.ite (decide (0 ≤ s.t4))
      (.opt Line (s.b0.lines[(s.t4).toNat]?) fun y293 =>
        .opt (List Request) (ref14_Requests y293 s.t4) fun r294 =>
          .ite (decide ((s.b1.length + r294.length) * 16 ≤ 140737488355328))
            (.leaf (.inl (Sref18_Requests_0.mk (IntKind.wrap .i64 (s.t4 + (1 : Int))) s.b0 (s.b1 ++ r294))))
            .fail)
      .fail)
    (.leaf (.inr s.b1))
noncomputable def Lref18_Requests_0 (q : Option Nat) (s : Sref18_Requests_0) : Option (List Request) := limQ q (fun s => (Wref18_Requests_0 s).run) s
noncomputable def Tref18_Requests (q : Option Nat) (x0 : Machine) : Tree (List Request) :=
  .opt (List Request) (ref13_Requests x0.clock) fun r290 =>
    .ite (decide ((([] : List Request).length + r290.length) * 16 ≤ 140737488355328))
      (.opt (List Request) (ref16_Requests x0.disk) fun r291 =>
        .ite (decide (((([] : List Request) ++ r290).length + r291.length) * 16 ≤ 140737488355328))
          (.opt (List Request) (ref17_Requests x0.tape) fun r292 =>
            .ite (decide ((((([] : List Request) ++ r290) ++ r291).length + r292.length) * 16 ≤ 140737488355328))
              (.opt (List Request) (Lref18_Requests_0 q (Sref18_Requests_0.mk (0 : Int) x0 (((([] : List Request) ++ r290) ++ r291) ++ r292))) fun l295 =>
                .leaf (l295))
              .fail)
          .fail)
      .fail
noncomputable def ref18_Requests (q : Option Nat) (x0 : Machine) : Option (List Request) := (Tref18_Requests q x0).run
noncomputable def Aref18_Requests : Arg U (Machine × Unit) := aA cMachine (aNil)
noncomputable def Rref18_Requests (r : (List Request)) : List (V U) × List (Blk U) := ([vO (cSl 84) r], [])
noncomputable def Sref18_Requests : List (V U) → List (Blk U) → Option (FnOut U) := mkSpec Aref18_Requests bNil (fun x _ => ref18_Requests none x.1) Rref18_Requests
noncomputable def Pref18_Requests_0 (x : (Unit) × (Unit) × (Int × Unit) × Unit) (g : (Machine × Unit) × (List Request) × Unit) : Sref18_Requests_0 := Sref18_Requests_0.mk x.2.2.1.1 g.1.1 g.2.1
noncomputable def tAref18_Requests_0 : Tms U ((Unit) × (Unit) × (Int × Unit) × Unit) := tO 1 (cK (.ptr 0 0) (cUnit)) (tO 3 (cK (.row 1 0) (cUnit)) (tO 4 (cPair (cInt .i64) (cUnit)) (tNil)))
noncomputable def tBref18_Requests_0 : Bls U ((Machine × Unit) × (List Request) × Unit) := bC (cPair cMachine (cUnit)) (bRv 84 0 (bNil))
noncomputable def eSref18_Requests_0 (s : Sref18_Requests_0) : St U := { tm := [(1, .v (vO (cK (.ptr 0 0) (cUnit)) (()))), (3, .v (vO (cK (.row 1 0) (cUnit)) (()))), (4, .v (vO (cPair (cInt .i64) (cUnit)) (s.t4, ())))], hp := [.cells ((cPair cMachine (cUnit) : Cdc U (Machine × Unit)).enc (s.b0, ())) none, .row 84 0 s.b1] }
noncomputable def xSref18_Requests_0 (r : (List Request)) : Ex × St U := (.exit 0, { tm := [(3, .v (vO (cK (.row 0 0) (cUnit)) (())))], hp := [.row 84 0 r] })
noncomputable def xTref18_Requests_0 (r : (List Request)) : Tree (Ex × St U) := .leaf (xSref18_Requests_0 r)
noncomputable def href18_Requests_0 : Hd := { keep := [1, 3, 4], xkeep := [2, 3], own := false }
noncomputable def Eref18_Requests : Env U := { P := Tryz.prog, cd := cd, fns := fns44, lps := (addL 0 href18_Requests_0 (mkLoop tAref18_Requests_0 tBref18_Requests_0 Pref18_Requests_0 (Lref18_Requests_0 none) xTref18_Requests_0) noL), frz := fun _r => false, nt := 37, n0 := 0 }
noncomputable def Bref18_Requests_0 : Code := (loopAt (Tryz.f16.body.getD .skip) 0 0).getD .skip
theorem roundref18_Requests_0 (s : Sref18_Requests_0) : round Eref18_Requests href18_Requests_0 Bref18_Requests_0 0 (eSref18_Requests_0 s) = (Wref18_Requests_0 s).map (sumE eSref18_Requests_0 xSref18_Requests_0) := by kernel_rfl
theorem lpref18_Requests_0 : LpOk Eref18_Requests Bref18_Requests_0 0 := mkLoop_ok (A := tAref18_Requests_0) (B := tBref18_Requests_0) (f := Pref18_Requests_0) (L := Lref18_Requests_0 none) (tO_ok (cK_ok cUnit_ok) (tO_ok (cK_ok cUnit_ok) (tO_ok (cPair_ok (cInt_ok .i64) cUnit_ok) tNil_ok))) (bC_ok (cPair_ok cMachine_ok cUnit_ok) (bRv_ok bNil_ok)) (enc := eSref18_Requests_0) (out := xTref18_Requests_0) (outS := xSref18_Requests_0) (step := Wref18_Requests_0) (fun _ => rfl) (fun _ _ => by kernel_rfl) (by kernel_rfl) (fun _ => rfl) roundref18_Requests_0
theorem runref18_Requests (x : Machine × Unit) (g : Unit) : execF Eref18_Requests Tryz.f16 (Aref18_Requests.enc x) (bNil.enc g) = (Tref18_Requests none x.1).map Rref18_Requests := by kernel_rfl
theorem okref18_Requests : FnOk Tryz.prog cd 16 Sref18_Requests := mk_ok (E := Eref18_Requests) cd_ok fns44_ok Tryz.func16 (by kernel_rfl) (loops_of (addL_ok lpref18_Requests_0 noL_ok)) (aA_ok cMachine_ok (aNil_ok)) bNil_ok (T := fun x _ => Tref18_Requests none x.1) (fun _ _ => rfl) runref18_Requests
noncomputable def fns16 := addF 16 true Sref18_Requests fns44
theorem fns16_ok : ∀ f q t, fns16 f = some (q, t) → FnOk Tryz.prog cd f t := addF_ok okref18_Requests fns44_ok
/-- emulator/emulatorref13.Accept -/
noncomputable def Tref13_Accept (x0 : Clock) (x1 : Int) : Tree Clock :=
  .ite (decide (x1 = (64 : Int)))
    (.leaf (Clock.mk x0.enable false x0.period x0.left))
    (.leaf (x0))
noncomputable def ref13_Accept (x0 : Clock) (x1 : Int) : Option Clock := (Tref13_Accept x0 x1).run
noncomputable def Aref13_Accept : Arg U (Clock × Int × Unit) := aA cClock (aO (cInt .i64) (aNil))
noncomputable def Rref13_Accept (r : Clock) : List (V U) × List (Blk U) := ([vA cClock r], [])
noncomputable def Sref13_Accept : List (V U) → List (Blk U) → Option (FnOut U) := mkSpec Aref13_Accept bNil (fun x _ => ref13_Accept x.1 x.2.1) Rref13_Accept
noncomputable def Eref13_Accept : Env U := { P := Tryz.prog, cd := cd, fns := fns16, lps := noL, frz := fun _r => false, nt := 9, n0 := 0 }
theorem runref13_Accept (x : Clock × Int × Unit) (g : Unit) : execF Eref13_Accept Tryz.f45 (Aref13_Accept.enc x) (bNil.enc g) = (Tref13_Accept x.1 x.2.1).map Rref13_Accept := by kernel_rfl
theorem okref13_Accept : FnOk Tryz.prog cd 45 Sref13_Accept := mk_ok (E := Eref13_Accept) cd_ok fns16_ok Tryz.func45 (by kernel_rfl) (noLoops_body (by kernel_rfl)) (aA_ok cClock_ok (aO_ok (cInt_ok .i64) (aNil_ok))) bNil_ok (T := fun x _ => Tref13_Accept x.1 x.2.1) (fun _ _ => rfl) runref13_Accept
noncomputable def fns45 := addF 45 true Sref13_Accept fns16
theorem fns45_ok : ∀ f q t, fns45 f = some (q, t) → FnOk Tryz.prog cd f t := addF_ok okref13_Accept fns16_ok
/-- emulator/emulatorref16.Accept -/
noncomputable def Tref16_Accept (x0 : Disk) (x1 : Int) : Tree Disk :=
  .ite (decide (x1 = (160 : Int)))
    (.leaf (Disk.mk x0.drive false x0.ready x0.error x0.command x0.words x0.addr x0.start x0.left))
    (.leaf (x0))
noncomputable def ref16_Accept (x0 : Disk) (x1 : Int) : Option Disk := (Tref16_Accept x0 x1).run
noncomputable def Aref16_Accept : Arg U (Disk × Int × Unit) := aA cDisk (aO (cInt .i64) (aNil))
noncomputable def Rref16_Accept (r : Disk) : List (V U) × List (Blk U) := ([vA cDisk r], [])
noncomputable def Sref16_Accept : List (V U) → List (Blk U) → Option (FnOut U) := mkSpec Aref16_Accept bNil (fun x _ => ref16_Accept x.1 x.2.1) Rref16_Accept
noncomputable def Eref16_Accept : Env U := { P := Tryz.prog, cd := cd, fns := fns45, lps := noL, frz := fun _r => false, nt := 9, n0 := 0 }
theorem runref16_Accept (x : Disk × Int × Unit) (g : Unit) : execF Eref16_Accept Tryz.f46 (Aref16_Accept.enc x) (bNil.enc g) = (Tref16_Accept x.1 x.2.1).map Rref16_Accept := by kernel_rfl
theorem okref16_Accept : FnOk Tryz.prog cd 46 Sref16_Accept := mk_ok (E := Eref16_Accept) cd_ok fns45_ok Tryz.func46 (by kernel_rfl) (noLoops_body (by kernel_rfl)) (aA_ok cDisk_ok (aO_ok (cInt_ok .i64) (aNil_ok))) bNil_ok (T := fun x _ => Tref16_Accept x.1 x.2.1) (fun _ _ => rfl) runref16_Accept
noncomputable def fns46 := addF 46 true Sref16_Accept fns45
theorem fns46_ok : ∀ f q t, fns46 f = some (q, t) → FnOk Tryz.prog cd f t := addF_ok okref16_Accept fns45_ok
/-- emulator/emulatorref17.Accept -/
noncomputable def Tref17_Accept (x0 : Tape) (x1 : Int) : Tree Tape :=
  .ite (decide (x1 = (164 : Int)))
    (.leaf (Tape.mk x0.records x0.pos false x0.ready x0.error x0.mark x0.end_ x0.command x0.count x0.addr x0.left))
    (.leaf (x0))
noncomputable def ref17_Accept (x0 : Tape) (x1 : Int) : Option Tape := (Tref17_Accept x0 x1).run
noncomputable def Aref17_Accept : Arg U (Tape × Int × Unit) := aA cTape (aO (cInt .i64) (aNil))
noncomputable def Rref17_Accept (r : Tape) : List (V U) × List (Blk U) := ([vA cTape r], [])
noncomputable def Sref17_Accept : List (V U) → List (Blk U) → Option (FnOut U) := mkSpec Aref17_Accept bNil (fun x _ => ref17_Accept x.1 x.2.1) Rref17_Accept
noncomputable def Eref17_Accept : Env U := { P := Tryz.prog, cd := cd, fns := fns46, lps := noL, frz := fun _r => false, nt := 9, n0 := 0 }
theorem runref17_Accept (x : Tape × Int × Unit) (g : Unit) : execF Eref17_Accept Tryz.f47 (Aref17_Accept.enc x) (bNil.enc g) = (Tref17_Accept x.1 x.2.1).map Rref17_Accept := by kernel_rfl
theorem okref17_Accept : FnOk Tryz.prog cd 47 Sref17_Accept := mk_ok (E := Eref17_Accept) cd_ok fns46_ok Tryz.func47 (by kernel_rfl) (noLoops_body (by kernel_rfl)) (aA_ok cTape_ok (aO_ok (cInt_ok .i64) (aNil_ok))) bNil_ok (T := fun x _ => Tref17_Accept x.1 x.2.1) (fun _ _ => rfl) runref17_Accept
noncomputable def fns47 := addF 47 true Sref17_Accept fns46
theorem fns47_ok : ∀ f q t, fns47 f = some (q, t) → FnOk Tryz.prog cd f t := addF_ok okref17_Accept fns46_ok
/-- emulator/emulatorref14.Accept -/
noncomputable def Tref14_Accept (x0 : Line) (x1 : Int) (x2 : Int) : Tree Line :=
  .leaf (x0)
noncomputable def ref14_Accept (x0 : Line) (x1 : Int) (x2 : Int) : Option Line := (Tref14_Accept x0 x1 x2).run
noncomputable def Aref14_Accept : Arg U (Line × Int × Int × Unit) := aA cLine (aO (cInt .i64) (aO (cInt .i64) (aNil)))
noncomputable def Rref14_Accept (r : Line) : List (V U) × List (Blk U) := ([vA cLine r], [])
noncomputable def Sref14_Accept : List (V U) → List (Blk U) → Option (FnOut U) := mkSpec Aref14_Accept bNil (fun x _ => ref14_Accept x.1 x.2.1 x.2.2.1) Rref14_Accept
noncomputable def Eref14_Accept : Env U := { P := Tryz.prog, cd := cd, fns := fns47, lps := noL, frz := fun _r => false, nt := 8, n0 := 0 }
theorem runref14_Accept (x : Line × Int × Int × Unit) (g : Unit) : execF Eref14_Accept Tryz.f48 (Aref14_Accept.enc x) (bNil.enc g) = (Tref14_Accept x.1 x.2.1 x.2.2.1).map Rref14_Accept := by kernel_rfl
theorem okref14_Accept : FnOk Tryz.prog cd 48 Sref14_Accept := mk_ok (E := Eref14_Accept) cd_ok fns47_ok Tryz.func48 (by kernel_rfl) (noLoops_body (by kernel_rfl)) (aA_ok cLine_ok (aO_ok (cInt_ok .i64) (aO_ok (cInt_ok .i64) (aNil_ok)))) bNil_ok (T := fun x _ => Tref14_Accept x.1 x.2.1 x.2.2.1) (fun _ _ => rfl) runref14_Accept
noncomputable def fns48 := addF 48 true Sref14_Accept fns47
theorem fns48_ok : ∀ f q t, fns48 f = some (q, t) → FnOk Tryz.prog cd f t := addF_ok okref14_Accept fns47_ok
/-- emulator/emulatorref18.Accept -/
structure Sref18_Accept_0 where
  t1 : Int
  t6 : Int
  b0 : Machine
  b1_0 : (List Int)
  b1_1 : (List Int)
  b1_2 : Int
  b1_3 : Int
  b1_6 : Bool
  b1_7 : (List Page)
  b1_8 : Int
  b1_9 : Int
  b1_10 : Bool
  b1_11 : Bool
  b1_12 : Int
  b1_13 : Int
  b1_17 : Bool
  b1_18 : Bool
  b1_19 : Bool
  b1_20 : Int
  b1_21 : Int
  b1_22 : Int
  b1_23 : Int
  b1_24 : Int
  b1_26 : Int
  b1_27 : Bool
  b1_28 : Bool
  b1_29 : Bool
  b1_30 : Bool
  b1_31 : Bool
  b1_32 : Int
  b1_33 : Int
  b1_34 : Int
  b1_35 : Int
  b1_36 : Int
  b1_37 : Bool
  b1_38 : Bool
  b1_39 : Int
  b1_40 : Bool
  b2 : (List Line)
  b3 : (List Int)
  b4 : (List Int)
  b5 : (List Line)
  b6 : (List (List UInt8))
  b7 : (List Int)
  b8 : (List (List UInt8))
noncomputable def Wref18_Accept_0 (s : Sref18_Accept_0) : Tree (Sref18_Accept_0 ⊕ (Machine × (List Int) × (List Int) × Int × Int × Bool × (List Page) × Int × Int × Bool × Bool × Int × Int × Bool × Bool × Bool × Int × Int × Int × Int × Int × Int × Bool × Bool × Bool × Bool × Bool × Int × Int × Int × Int × Int × Bool × Bool × Int × Bool × (List Line) × (List Int) × (List Int) × (List Line) × (List (List UInt8)) × (List Int) × (List (List UInt8)))) :=
  .ite (decide (s.t6 < (s.b0.lines.length : Int)))
    (.ite (decide (0 ≤ s.t6))
      (.opt Line (s.b0.lines[(s.t6).toNat]?) fun y299 =>
        .opt Line (ref14_Accept y299 s.t6 s.t1) fun r300 =>
          .ite (decide ((s.b2.length + ([r300]).length) * 56 ≤ 140737488355328))
            (.leaf (.inl (Sref18_Accept_0.mk s.t1 (IntKind.wrap .i64 (s.t6 + (1 : Int))) s.b0 s.b1_0 s.b1_1 s.b1_2 s.b1_3 s.b1_6 s.b1_7 s.b1_8 s.b1_9 s.b1_10 s.b1_11 s.b1_12 s.b1_13 s.b1_17 s.b1_18 s.b1_19 s.b1_20 s.b1_21 s.b1_22 s.b1_23 s.b1_24 s.b1_26 s.b1_27 s.b1_28 s.b1_29 s.b1_30 s.b1_31 s.b1_32 s.b1_33 s.b1_34 s.b1_35 s.b1_36 s.b1_37 s.b1_38 s.b1_39 s.b1_40 (s.b2 ++ ([r300])) s.b3 s.b4 s.b5 s.b6 s.b7 s.b8)))
            .fail)
      .fail)
    (.leaf (.inr (s.b0, s.b1_0, s.b1_1, s.b1_2, s.b1_3, s.b1_6, s.b1_7, s.b1_8, s.b1_9, s.b1_10, s.b1_11, s.b1_12, s.b1_13, s.b1_17, s.b1_18, s.b1_19, s.b1_20, s.b1_21, s.b1_22, s.b1_23, s.b1_24, s.b1_26, s.b1_27, s.b1_28, s.b1_29, s.b1_30, s.b1_31, s.b1_32, s.b1_33, s.b1_34, s.b1_35, s.b1_36, s.b1_37, s.b1_38, s.b1_39, s.b1_40, s.b2, s.b3, s.b4, s.b5, s.b6, s.b7, s.b8)))
noncomputable def Lref18_Accept_0 (q : Option Nat) (s : Sref18_Accept_0) : Option (Machine × (List Int) × (List Int) × Int × Int × Bool × (List Page) × Int × Int × Bool × Bool × Int × Int × Bool × Bool × Bool × Int × Int × Int × Int × Int × Int × Bool × Bool × Bool × Bool × Bool × Int × Int × Int × Int × Int × Bool × Bool × Int × Bool × (List Line) × (List Int) × (List Int) × (List Line) × (List (List UInt8)) × (List Int) × (List (List UInt8))) := limQ q (fun s => (Wref18_Accept_0 s).run) s
noncomputable def Tref18_Accept (q : Option Nat) (x0 : Machine) (x1 : Int) : Tree Machine :=
  .opt Clock (ref13_Accept x0.clock x1) fun r296 =>
    .opt Disk (ref16_Accept x0.disk x1) fun r297 =>
      .opt Tape (ref17_Accept x0.tape x1) fun r298 =>
        .opt (Machine × (List Int) × (List Int) × Int × Int × Bool × (List Page) × Int × Int × Bool × Bool × Int × Int × Bool × Bool × Bool × Int × Int × Int × Int × Int × Int × Bool × Bool × Bool × Bool × Bool × Int × Int × Int × Int × Int × Bool × Bool × Int × Bool × (List Line) × (List Int) × (List Int) × (List Line) × (List (List UInt8)) × (List Int) × (List (List UInt8))) (Lref18_Accept_0 q (Sref18_Accept_0.mk x1 (0 : Int) (Machine.mk x0.cpu x0.mem x0.bad x0.mmu r296 x0.lines r297 r298 x0.now x0.halted x0.waiting x0.power x0.powerTrap) (List.replicate 6 (0 : Int)) (List.replicate 2 (0 : Int)) 0 0 false (List.replicate 16 (Page.mk (0 : Int) (0 : Int) (0 : Int) false)) 0 0 false false 0 0 false false false 0 0 0 0 0 0 false false false false false 0 0 0 0 0 false false 0 false ([]) ([]) ([]) ([]) ([]) ([]) ([]))) fun l301 =>
          .leaf (Machine.mk l301.1.cpu l301.1.mem l301.1.bad l301.1.mmu l301.1.clock l301.2.2.2.2.2.2.2.2.2.2.2.2.2.2.2.2.2.2.2.2.2.2.2.2.2.2.2.2.2.2.2.2.2.2.2.2.1 l301.1.disk l301.1.tape l301.1.now l301.1.halted l301.1.waiting l301.1.power l301.1.powerTrap)
noncomputable def ref18_Accept (q : Option Nat) (x0 : Machine) (x1 : Int) : Option Machine := (Tref18_Accept q x0 x1).run
noncomputable def Aref18_Accept : Arg U (Machine × Int × Unit) := aA cMachine (aO (cInt .i64) (aNil))
noncomputable def Rref18_Accept (r : Machine) : List (V U) × List (Blk U) := ([vA cMachine r], [])
noncomputable def Sref18_Accept : List (V U) → List (Blk U) → Option (FnOut U) := mkSpec Aref18_Accept bNil (fun x _ => ref18_Accept none x.1 x.2.1) Rref18_Accept
noncomputable def Pref18_Accept_0 (x : (Int × Unit) × (Unit) × (Unit) × (Unit) × (Int × Unit) × Unit) (g : (Machine × Unit) × ((List Int) × (List Int) × Int × Int × Bool × (List Page) × Int × Int × Bool × Bool × Int × Int × Bool × Bool × Bool × Int × Int × Int × Int × Int × Int × Bool × Bool × Bool × Bool × Bool × Int × Int × Int × Int × Int × Bool × Bool × Int × Bool × Unit) × (List Line) × (List Int) × (List Int) × (List Line) × (List (List UInt8)) × (List Int) × (List (List UInt8)) × Unit) : Sref18_Accept_0 := Sref18_Accept_0.mk x.1.1 x.2.2.2.2.1.1 g.1.1 g.2.1.1 g.2.1.2.1 g.2.1.2.2.1 g.2.1.2.2.2.1 g.2.1.2.2.2.2.1 g.2.1.2.2.2.2.2.1 g.2.1.2.2.2.2.2.2.1 g.2.1.2.2.2.2.2.2.2.1 g.2.1.2.2.2.2.2.2.2.2.1 g.2.1.2.2.2.2.2.2.2.2.2.1 g.2.1.2.2.2.2.2.2.2.2.2.2.1 g.2.1.2.2.2.2.2.2.2.2.2.2.2.1 g.2.1.2.2.2.2.2.2.2.2.2.2.2.2.1 g.2.1.2.2.2.2.2.2.2.2.2.2.2.2.2.1 g.2.1.2.2.2.2.2.2.2.2.2.2.2.2.2.2.1 g.2.1.2.2.2.2.2.2.2.2.2.2.2.2.2.2.2.1 g.2.1.2.2.2.2.2.2.2.2.2.2.2.2.2.2.2.2.1 g.2.1.2.2.2.2.2.2.2.2.2.2.2.2.2.2.2.2.2.1 g.2.1.2.2.2.2.2.2.2.2.2.2.2.2.2.2.2.2.2.2.1 g.2.1.2.2.2.2.2.2.2.2.2.2.2.2.2.2.2.2.2.2.2.1 g.2.1.2.2.2.2.2.2.2.2.2.2.2.2.2.2.2.2.2.2.2.2.1 g.2.1.2.2.2.2.2.2.2.2.2.2.2.2.2.2.2.2.2.2.2.2.2.1 g.2.1.2.2.2.2.2.2.2.2.2.2.2.2.2.2.2.2.2.2.2.2.2.2.1 g.2.1.2.2.2.2.2.2.2.2.2.2.2.2.2.2.2.2.2.2.2.2.2.2.2.1 g.2.1.2.2.2.2.2.2.2.2.2.2.2.2.2.2.2.2.2.2.2.2.2.2.2.2.1 g.2.1.2.2.2.2.2.2.2.2.2.2.2.2.2.2.2.2.2.2.2.2.2.2.2.2.2.1 g.2.1.2.2.2.2.2.2.2.2.2.2.2.2.2.2.2.2.2.2.2.2.2.2.2.2.2.2.1 g.2.1.2.2.2.2.2.2.2.2.2.2.2.2.2.2.2.2.2.2.2.2.2.2.2.2.2.2.2.1 g.2.1.2.2.2.2.2.2.2.2.2.2.2.2.2.2.2.2.2.2.2.2.2.2.2.2.2.2.2.2.1 g.2.1.2.2.2.2.2.2.2.2.2.2.2.2.2.2.2.2.2.2.2.2.2.2.2.2.2.2.2.2.2.1 g.2.1.2.2.2.2.2.2.2.2.2.2.2.2.2.2.2.2.2.2.2.2.2.2.2.2.2.2.2.2.2.2.1 g.2.1.2.2.2.2.2.2.2.2.2.2.2.2.2.2.2.2.2.2.2.2.2.2.2.2.2.2.2.2.2.2.2.1 g.2.1.2.2.2.2.2.2.2.2.2.2.2.2.2.2.2.2.2.2.2.2.2.2.2.2.2.2.2.2.2.2.2.2.1 g.2.1.2.2.2.2.2.2.2.2.2.2.2.2.2.2.2.2.2.2.2.2.2.2.2.2.2.2.2.2.2.2.2.2.2.1 g.2.1.2.2.2.2.2.2.2.2.2.2.2.2.2.2.2.2.2.2.2.2.2.2.2.2.2.2.2.2.2.2.2.2.2.2.1 g.2.2.1 g.2.2.2.1 g.2.2.2.2.1 g.2.2.2.2.2.1 g.2.2.2.2.2.2.1 g.2.2.2.2.2.2.2.1 g.2.2.2.2.2.2.2.2.1
noncomputable def tAref18_Accept_0 : Tms U ((Int × Unit) × (Unit) × (Unit) × (Unit) × (Int × Unit) × Unit) := tO 1 (cPair (cInt .i64) (cUnit)) (tO 2 (cK (.ptr 0 0) (cUnit)) (tO 4 (cK (.ptr 1 0) (cUnit)) (tO 5 (cK (.row 2 0) (cUnit)) (tO 6 (cPair (cInt .i64) (cUnit)) (tNil)))))
noncomputable def tBref18_Accept_0 : Bls U ((Machine × Unit) × ((List Int) × (List Int) × Int × Int × Bool × (List Page) × Int × Int × Bool × Bool × Int × Int × Bool × Bool × Bool × Int × Int × Int × Int × Int × Int × Bool × Bool × Bool × Bool × Bool × Int × Int × Int × Int × Int × Bool × Bool × Int × Bool × Unit) × (List Line) × (List Int) × (List Int) × (List Line) × (List (List UInt8)) × (List Int) × (List (List UInt8)) × Unit) := bC (cPair cMachine (cUnit)) (bC (cPair (cArr 3 6) (cPair (cArr 3 2) (cPair (cInt .i64) (cPair (cInt .i64) (cK (.row 3 0) (cK (.row 4 0) (cPair cBool (cPair (cArr 28 16) (cPair (cInt .i64) (cPair (cInt .i64) (cPair cBool (cPair cBool (cPair (cInt .i64) (cPair (cInt .i64) (cK (.row 5 0) (cK (.row 6 0) (cK (.row 7 0) (cPair cBool (cPair cBool (cPair cBool (cPair (cInt .i64) (cPair (cInt .i64) (cPair (cInt .i64) (cPair (cInt .i64) (cPair (cInt .i64) (cK (.row 8 0) (cPair (cInt .i64) (cPair cBool (cPair cBool (cPair cBool (cPair cBool (cPair cBool (cPair (cInt .i64) (cPair (cInt .i64) (cPair (cInt .i64) (cPair (cInt .i64) (cPair (cInt .i64) (cPair cBool (cPair cBool (cPair (cInt .i64) (cPair cBool (cUnit)))))))))))))))))))))))))))))))))))))))))) (bRv 55 0 (bRv 3 0 (bRv 3 0 (bRv 55 0 (bRv 9 0 (bRv 3 0 (bRv 9 0 (bNil)))))))))
noncomputable def eSref18_Accept_0 (s : Sref18_Accept_0) : St U := { tm := [(1, .v (vO (cPair (cInt .i64) (cUnit)) (s.t1, ()))), (2, .v (vO (cK (.ptr 0 0) (cUnit)) (()))), (4, .v (vO (cK (.ptr 1 0) (cUnit)) (()))), (5, .v (vO (cK (.row 2 0) (cUnit)) (()))), (6, .v (vO (cPair (cInt .i64) (cUnit)) (s.t6, ())))], hp := [.cells ((cPair cMachine (cUnit) : Cdc U (Machine × Unit)).enc (s.b0, ())) none, .cells ((cPair (cArr 3 6) (cPair (cArr 3 2) (cPair (cInt .i64) (cPair (cInt .i64) (cK (.row 3 0) (cK (.row 4 0) (cPair cBool (cPair (cArr 28 16) (cPair (cInt .i64) (cPair (cInt .i64) (cPair cBool (cPair cBool (cPair (cInt .i64) (cPair (cInt .i64) (cK (.row 5 0) (cK (.row 6 0) (cK (.row 7 0) (cPair cBool (cPair cBool (cPair cBool (cPair (cInt .i64) (cPair (cInt .i64) (cPair (cInt .i64) (cPair (cInt .i64) (cPair (cInt .i64) (cK (.row 8 0) (cPair (cInt .i64) (cPair cBool (cPair cBool (cPair cBool (cPair cBool (cPair cBool (cPair (cInt .i64) (cPair (cInt .i64) (cPair (cInt .i64) (cPair (cInt .i64) (cPair (cInt .i64) (cPair cBool (cPair cBool (cPair (cInt .i64) (cPair cBool (cUnit))))))))))))))))))))))))))))))))))))))))) : Cdc U ((List Int) × (List Int) × Int × Int × Bool × (List Page) × Int × Int × Bool × Bool × Int × Int × Bool × Bool × Bool × Int × Int × Int × Int × Int × Int × Bool × Bool × Bool × Bool × Bool × Int × Int × Int × Int × Int × Bool × Bool × Int × Bool × Unit)).enc (s.b1_0, s.b1_1, s.b1_2, s.b1_3, s.b1_6, s.b1_7, s.b1_8, s.b1_9, s.b1_10, s.b1_11, s.b1_12, s.b1_13, s.b1_17, s.b1_18, s.b1_19, s.b1_20, s.b1_21, s.b1_22, s.b1_23, s.b1_24, s.b1_26, s.b1_27, s.b1_28, s.b1_29, s.b1_30, s.b1_31, s.b1_32, s.b1_33, s.b1_34, s.b1_35, s.b1_36, s.b1_37, s.b1_38, s.b1_39, s.b1_40, ())) none, .row 55 0 s.b2, .row 3 0 s.b3, .row 3 0 s.b4, .row 55 0 s.b5, .row 9 0 s.b6, .row 3 0 s.b7, .row 9 0 s.b8] }
noncomputable def xSref18_Accept_0 (r : (Machine × (List Int) × (List Int) × Int × Int × Bool × (List Page) × Int × Int × Bool × Bool × Int × Int × Bool × Bool × Bool × Int × Int × Int × Int × Int × Int × Bool × Bool × Bool × Bool × Bool × Int × Int × Int × Int × Int × Bool × Bool × Int × Bool × (List Line) × (List Int) × (List Int) × (List Line) × (List (List UInt8)) × (List Int) × (List (List UInt8)))) : Ex × St U := (.exit 0, { tm := [(2, .v (vO (cK (.ptr 0 0) (cUnit)) (()))), (4, .v (vO (cK (.ptr 1 0) (cUnit)) (()))), (5, .v (vO (cK (.row 2 0) (cUnit)) (())))], hp := [.cells ((cPair cMachine (cUnit) : Cdc U (Machine × Unit)).enc (r.1, ())) none, .cells ((cPair (cArr 3 6) (cPair (cArr 3 2) (cPair (cInt .i64) (cPair (cInt .i64) (cK (.row 3 0) (cK (.row 4 0) (cPair cBool (cPair (cArr 28 16) (cPair (cInt .i64) (cPair (cInt .i64) (cPair cBool (cPair cBool (cPair (cInt .i64) (cPair (cInt .i64) (cK (.row 5 0) (cK (.row 6 0) (cK (.row 7 0) (cPair cBool (cPair cBool (cPair cBool (cPair (cInt .i64) (cPair (cInt .i64) (cPair (cInt .i64) (cPair (cInt .i64) (cPair (cInt .i64) (cK (.row 8 0) (cPair (cInt .i64) (cPair cBool (cPair cBool (cPair cBool (cPair cBool (cPair cBool (cPair (cInt .i64) (cPair (cInt .i64) (cPair (cInt .i64) (cPair (cInt .i64) (cPair (cInt .i64) (cPair cBool (cPair cBool (cPair (cInt .i64) (cPair cBool (cUnit))))))))))))))))))))))))))))))))))))))))) : Cdc U ((List Int) × (List Int) × Int × Int × Bool × (List Page) × Int × Int × Bool × Bool × Int × Int × Bool × Bool × Bool × Int × Int × Int × Int × Int × Int × Bool × Bool × Bool × Bool × Bool × Int × Int × Int × Int × Int × Bool × Bool × Int × Bool × Unit)).enc (r.2.1, r.2.2.1, r.2.2.2.1, r.2.2.2.2.1, r.2.2.2.2.2.1, r.2.2.2.2.2.2.1, r.2.2.2.2.2.2.2.1, r.2.2.2.2.2.2.2.2.1, r.2.2.2.2.2.2.2.2.2.1, r.2.2.2.2.2.2.2.2.2.2.1, r.2.2.2.2.2.2.2.2.2.2.2.1, r.2.2.2.2.2.2.2.2.2.2.2.2.1, r.2.2.2.2.2.2.2.2.2.2.2.2.2.1, r.2.2.2.2.2.2.2.2.2.2.2.2.2.2.1, r.2.2.2.2.2.2.2.2.2.2.2.2.2.2.2.1, r.2.2.2.2.2.2.2.2.2.2.2.2.2.2.2.2.1, r.2.2.2.2.2.2.2.2.2.2.2.2.2.2.2.2.2.1, r.2.2.2.2.2.2.2.2.2.2.2.2.2.2.2.2.2.2.1, r.2.2.2.2.2.2.2.2.2.2.2.2.2.2.2.2.2.2.2.1, r.2.2.2.2.2.2.2.2.2.2.2.2.2.2.2.2.2.2.2.2.1, r.2.2.2.2.2.2.2.2.2.2.2.2.2.2.2.2.2.2.2.2.2.1, r.2.2.2.2.2.2.2.2.2.2.2.2.2.2.2.2.2.2.2.2.2.2.1, r.2.2.2.2.2.2.2.2.2.2.2.2.2.2.2.2.2.2.2.2.2.2.2.1, r.2.2.2.2.2.2.2.2.2.2.2.2.2.2.2.2.2.2.2.2.2.2.2.2.1, r.2.2.2.2.2.2.2.2.2.2.2.2.2.2.2.2.2.2.2.2.2.2.2.2.2.1, r.2.2.2.2.2.2.2.2.2.2.2.2.2.2.2.2.2.2.2.2.2.2.2.2.2.2.1, r.2.2.2.2.2.2.2.2.2.2.2.2.2.2.2.2.2.2.2.2.2.2.2.2.2.2.2.1, r.2.2.2.2.2.2.2.2.2.2.2.2.2.2.2.2.2.2.2.2.2.2.2.2.2.2.2.2.1, r.2.2.2.2.2.2.2.2.2.2.2.2.2.2.2.2.2.2.2.2.2.2.2.2.2.2.2.2.2.1, r.2.2.2.2.2.2.2.2.2.2.2.2.2.2.2.2.2.2.2.2.2.2.2.2.2.2.2.2.2.2.1, r.2.2.2.2.2.2.2.2.2.2.2.2.2.2.2.2.2.2.2.2.2.2.2.2.2.2.2.2.2.2.2.1, r.2.2.2.2.2.2.2.2.2.2.2.2.2.2.2.2.2.2.2.2.2.2.2.2.2.2.2.2.2.2.2.2.1, r.2.2.2.2.2.2.2.2.2.2.2.2.2.2.2.2.2.2.2.2.2.2.2.2.2.2.2.2.2.2.2.2.2.1, r.2.2.2.2.2.2.2.2.2.2.2.2.2.2.2.2.2.2.2.2.2.2.2.2.2.2.2.2.2.2.2.2.2.2.1, r.2.2.2.2.2.2.2.2.2.2.2.2.2.2.2.2.2.2.2.2.2.2.2.2.2.2.2.2.2.2.2.2.2.2.2.1, ())) none, .row 55 0 r.2.2.2.2.2.2.2.2.2.2.2.2.2.2.2.2.2.2.2.2.2.2.2.2.2.2.2.2.2.2.2.2.2.2.2.2.1, .row 3 0 r.2.2.2.2.2.2.2.2.2.2.2.2.2.2.2.2.2.2.2.2.2.2.2.2.2.2.2.2.2.2.2.2.2.2.2.2.2.1, .row 3 0 r.2.2.2.2.2.2.2.2.2.2.2.2.2.2.2.2.2.2.2.2.2.2.2.2.2.2.2.2.2.2.2.2.2.2.2.2.2.2.1, .row 55 0 r.2.2.2.2.2.2.2.2.2.2.2.2.2.2.2.2.2.2.2.2.2.2.2.2.2.2.2.2.2.2.2.2.2.2.2.2.2.2.2.1, .row 9 0 r.2.2.2.2.2.2.2.2.2.2.2.2.2.2.2.2.2.2.2.2.2.2.2.2.2.2.2.2.2.2.2.2.2.2.2.2.2.2.2.2.1, .row 3 0 r.2.2.2.2.2.2.2.2.2.2.2.2.2.2.2.2.2.2.2.2.2.2.2.2.2.2.2.2.2.2.2.2.2.2.2.2.2.2.2.2.2.1, .row 9 0 r.2.2.2.2.2.2.2.2.2.2.2.2.2.2.2.2.2.2.2.2.2.2.2.2.2.2.2.2.2.2.2.2.2.2.2.2.2.2.2.2.2.2] })
noncomputable def xTref18_Accept_0 (r : (Machine × (List Int) × (List Int) × Int × Int × Bool × (List Page) × Int × Int × Bool × Bool × Int × Int × Bool × Bool × Bool × Int × Int × Int × Int × Int × Int × Bool × Bool × Bool × Bool × Bool × Int × Int × Int × Int × Int × Bool × Bool × Int × Bool × (List Line) × (List Int) × (List Int) × (List Line) × (List (List UInt8)) × (List Int) × (List (List UInt8)))) : Tree (Ex × St U) := .leaf (xSref18_Accept_0 r)
noncomputable def href18_Accept_0 : Hd := { keep := [1, 2, 4, 5, 6], xkeep := [2, 4, 5], own := true }
noncomputable def Eref18_Accept : Env U := { P := Tryz.prog, cd := cd, fns := fns48, lps := (addL 0 href18_Accept_0 (mkLoop tAref18_Accept_0 tBref18_Accept_0 Pref18_Accept_0 (Lref18_Accept_0 none) xTref18_Accept_0) noL), frz := fun _r => false, nt := 43, n0 := 0 }
noncomputable def Bref18_Accept_0 : Code := (loopAt (Tryz.f17.body.getD .skip) 0 0).getD .skip
theorem roundref18_Accept_0 (s : Sref18_Accept_0) : round Eref18_Accept href18_Accept_0 Bref18_Accept_0 0 (eSref18_Accept_0 s) = (Wref18_Accept_0 s).map (sumE eSref18_Accept_0 xSref18_Accept_0) := by kernel_rfl
theorem lpref18_Accept_0 : LpOk Eref18_Accept Bref18_Accept_0 0 := mkLoop_ok (A := tAref18_Accept_0) (B := tBref18_Accept_0) (f := Pref18_Accept_0) (L := Lref18_Accept_0 none) (tO_ok (cPair_ok (cInt_ok .i64) cUnit_ok) (tO_ok (cK_ok cUnit_ok) (tO_ok (cK_ok cUnit_ok) (tO_ok (cK_ok cUnit_ok) (tO_ok (cPair_ok (cInt_ok .i64) cUnit_ok) tNil_ok))))) (bC_ok (cPair_ok cMachine_ok cUnit_ok) (bC_ok (cPair_ok (cArr_ok 3 6) (cPair_ok (cArr_ok 3 2) (cPair_ok (cInt_ok .i64) (cPair_ok (cInt_ok .i64) (cK_ok (cK_ok (cPair_ok cBool_ok (cPair_ok (cArr_ok 28 16) (cPair_ok (cInt_ok .i64) (cPair_ok (cInt_ok .i64) (cPair_ok cBool_ok (cPair_ok cBool_ok (cPair_ok (cInt_ok .i64) (cPair_ok (cInt_ok .i64) (cK_ok (cK_ok (cK_ok (cPair_ok cBool_ok (cPair_ok cBool_ok (cPair_ok cBool_ok (cPair_ok (cInt_ok .i64) (cPair_ok (cInt_ok .i64) (cPair_ok (cInt_ok .i64) (cPair_ok (cInt_ok .i64) (cPair_ok (cInt_ok .i64) (cK_ok (cPair_ok (cInt_ok .i64) (cPair_ok cBool_ok (cPair_ok cBool_ok (cPair_ok cBool_ok (cPair_ok cBool_ok (cPair_ok cBool_ok (cPair_ok (cInt_ok .i64) (cPair_ok (cInt_ok .i64) (cPair_ok (cInt_ok .i64) (cPair_ok (cInt_ok .i64) (cPair_ok (cInt_ok .i64) (cPair_ok cBool_ok (cPair_ok cBool_ok (cPair_ok (cInt_ok .i64) (cPair_ok cBool_ok cUnit_ok))))))))))))))))))))))))))))))))))))))))) (bRv_ok (bRv_ok (bRv_ok (bRv_ok (bRv_ok (bRv_ok (bRv_ok bNil_ok))))))))) (enc := eSref18_Accept_0) (out := xTref18_Accept_0) (outS := xSref18_Accept_0) (step := Wref18_Accept_0) (fun _ => rfl) (fun _ _ => by kernel_rfl) (by kernel_rfl) (fun _ => rfl) roundref18_Accept_0
theorem runref18_Accept (x : Machine × Int × Unit) (g : Unit) : execF Eref18_Accept Tryz.f17 (Aref18_Accept.enc x) (bNil.enc g) = (Tref18_Accept none x.1 x.2.1).map Rref18_Accept := by kernel_rfl
theorem okref18_Accept : FnOk Tryz.prog cd 17 Sref18_Accept := mk_ok (E := Eref18_Accept) cd_ok fns48_ok Tryz.func17 (by kernel_rfl) (loops_of (addL_ok lpref18_Accept_0 noL_ok)) (aA_ok cMachine_ok (aO_ok (cInt_ok .i64) (aNil_ok))) bNil_ok (T := fun x _ => Tref18_Accept none x.1 x.2.1) (fun _ _ => rfl) runref18_Accept
noncomputable def fns17 := addF 17 true Sref18_Accept fns48
theorem fns17_ok : ∀ f q t, fns17 f = some (q, t) → FnOk Tryz.prog cd f t := addF_ok okref18_Accept fns48_ok
/-- emulator/emulatorref13.Reset -/
noncomputable def Tref13_Reset (x0 : Clock) : Tree Clock :=
  .leaf (Clock.mk false false x0.period x0.period)
noncomputable def ref13_Reset (x0 : Clock) : Option Clock := (Tref13_Reset x0).run
noncomputable def Aref13_Reset : Arg U (Clock × Unit) := aA cClock (aNil)
noncomputable def Rref13_Reset (r : Clock) : List (V U) × List (Blk U) := ([vA cClock r], [])
noncomputable def Sref13_Reset : List (V U) → List (Blk U) → Option (FnOut U) := mkSpec Aref13_Reset bNil (fun x _ => ref13_Reset x.1) Rref13_Reset
noncomputable def Eref13_Reset : Env U := { P := Tryz.prog, cd := cd, fns := fns17, lps := noL, frz := fun _r => false, nt := 8, n0 := 0 }
theorem runref13_Reset (x : Clock × Unit) (g : Unit) : execF Eref13_Reset Tryz.f49 (Aref13_Reset.enc x) (bNil.enc g) = (Tref13_Reset x.1).map Rref13_Reset := by kernel_rfl
theorem okref13_Reset : FnOk Tryz.prog cd 49 Sref13_Reset := mk_ok (E := Eref13_Reset) cd_ok fns17_ok Tryz.func49 (by kernel_rfl) (noLoops_body (by kernel_rfl)) (aA_ok cClock_ok (aNil_ok)) bNil_ok (T := fun x _ => Tref13_Reset x.1) (fun _ _ => rfl) runref13_Reset
noncomputable def fns49 := addF 49 true Sref13_Reset fns17
theorem fns49_ok : ∀ f q t, fns49 f = some (q, t) → FnOk Tryz.prog cd f t := addF_ok okref13_Reset fns17_ok
/-- emulator/emulatorref16.Reset -/
noncomputable def Tref16_Reset (x0 : Disk) : Tree Disk :=
  .leaf (Disk.mk x0.drive false true false (0 : Int) x0.words x0.addr x0.start (0 : Int))
noncomputable def ref16_Reset (x0 : Disk) : Option Disk := (Tref16_Reset x0).run
noncomputable def Aref16_Reset : Arg U (Disk × Unit) := aA cDisk (aNil)
noncomputable def Rref16_Reset (r : Disk) : List (V U) × List (Blk U) := ([vA cDisk r], [])
noncomputable def Sref16_Reset : List (V U) → List (Blk U) → Option (FnOut U) := mkSpec Aref16_Reset bNil (fun x _ => ref16_Reset x.1) Rref16_Reset
noncomputable def Eref16_Reset : Env U := { P := Tryz.prog, cd := cd, fns := fns49, lps := noL, frz := fun _r => false, nt := 9, n0 := 0 }
theorem runref16_Reset (x : Disk × Unit) (g : Unit) : execF Eref16_Reset Tryz.f50 (Aref16_Reset.enc x) (bNil.enc g) = (Tref16_Reset x.1).map Rref16_Reset := by kernel_rfl
theorem okref16_Reset : FnOk Tryz.prog cd 50 Sref16_Reset := mk_ok (E := Eref16_Reset) cd_ok fns49_ok Tryz.func50 (by kernel_rfl) (noLoops_body (by kernel_rfl)) (aA_ok cDisk_ok (aNil_ok)) bNil_ok (T := fun x _ => Tref16_Reset x.1) (fun _ _ => rfl) runref16_Reset
noncomputable def fns50 := addF 50 true Sref16_Reset fns49
theorem fns50_ok : ∀ f q t, fns50 f = some (q, t) → FnOk Tryz.prog cd f t := addF_ok okref16_Reset fns49_ok
/-- emulator/emulatorref17.Reset -/
noncomputable def Tref17_Reset (x0 : Tape) : Tree Tape :=
  .leaf (Tape.mk x0.records x0.pos false true false false false (0 : Int) x0.count x0.addr (0 : Int))
noncomputable def ref17_Reset (x0 : Tape) : Option Tape := (Tref17_Reset x0).run
noncomputable def Aref17_Reset : Arg U (Tape × Unit) := aA cTape (aNil)
noncomputable def Rref17_Reset (r : Tape) : List (V U) × List (Blk U) := ([vA cTape r], [])
noncomputable def Sref17_Reset : List (V U) → List (Blk U) → Option (FnOut U) := mkSpec Aref17_Reset bNil (fun x _ => ref17_Reset x.1) Rref17_Reset
noncomputable def Eref17_Reset : Env U := { P := Tryz.prog, cd := cd, fns := fns50, lps := noL, frz := fun _r => false, nt := 11, n0 := 0 }
theorem runref17_Reset (x : Tape × Unit) (g : Unit) : execF Eref17_Reset Tryz.f51 (Aref17_Reset.enc x) (bNil.enc g) = (Tref17_Reset x.1).map Rref17_Reset := by kernel_rfl
theorem okref17_Reset : FnOk Tryz.prog cd 51 Sref17_Reset := mk_ok (E := Eref17_Reset) cd_ok fns50_ok Tryz.func51 (by kernel_rfl) (noLoops_body (by kernel_rfl)) (aA_ok cTape_ok (aNil_ok)) bNil_ok (T := fun x _ => Tref17_Reset x.1) (fun _ _ => rfl) runref17_Reset
noncomputable def fns51 := addF 51 true Sref17_Reset fns50
theorem fns51_ok : ∀ f q t, fns51 f = some (q, t) → FnOk Tryz.prog cd f t := addF_ok okref17_Reset fns50_ok
/-- emulator/emulatorref09.Reset -/
noncomputable def Tref09_Reset (x0 : Mmu) : Tree Mmu :=
  .leaf (Mmu.mk false (List.replicate 16 (Page.mk (0 : Int) (0 : Int) (0 : Int) false)) 0 0)
noncomputable def ref09_Reset (x0 : Mmu) : Option Mmu := (Tref09_Reset x0).run
noncomputable def Aref09_Reset : Arg U (Mmu × Unit) := aA cMmu (aNil)
noncomputable def Rref09_Reset (r : Mmu) : List (V U) × List (Blk U) := ([vA cMmu r], [])
noncomputable def Sref09_Reset : List (V U) → List (Blk U) → Option (FnOut U) := mkSpec Aref09_Reset bNil (fun x _ => ref09_Reset x.1) Rref09_Reset
noncomputable def Eref09_Reset : Env U := { P := Tryz.prog, cd := cd, fns := fns51, lps := noL, frz := fun _r => false, nt := 4, n0 := 0 }
theorem runref09_Reset (x : Mmu × Unit) (g : Unit) : execF Eref09_Reset Tryz.f52 (Aref09_Reset.enc x) (bNil.enc g) = (Tref09_Reset x.1).map Rref09_Reset := by kernel_rfl
theorem okref09_Reset : FnOk Tryz.prog cd 52 Sref09_Reset := mk_ok (E := Eref09_Reset) cd_ok fns51_ok Tryz.func52 (by kernel_rfl) (noLoops_body (by kernel_rfl)) (aA_ok cMmu_ok (aNil_ok)) bNil_ok (T := fun x _ => Tref09_Reset x.1) (fun _ _ => rfl) runref09_Reset
noncomputable def fns52 := addF 52 true Sref09_Reset fns51
theorem fns52_ok : ∀ f q t, fns52 f = some (q, t) → FnOk Tryz.prog cd f t := addF_ok okref09_Reset fns51_ok
/-- emulator/emulatorref14.Reset -/
noncomputable def Tref14_Reset (x0 : Line) : Tree Line :=
  .leaf (Line.mk false false false x0.rxData false true x0.txData (0 : Int) x0.out)
noncomputable def ref14_Reset (x0 : Line) : Option Line := (Tref14_Reset x0).run
noncomputable def Aref14_Reset : Arg U (Line × Unit) := aA cLine (aNil)
noncomputable def Rref14_Reset (r : Line) : List (V U) × List (Blk U) := ([vA cLine r], [])
noncomputable def Sref14_Reset : List (V U) → List (Blk U) → Option (FnOut U) := mkSpec Aref14_Reset bNil (fun x _ => ref14_Reset x.1) Rref14_Reset
noncomputable def Eref14_Reset : Env U := { P := Tryz.prog, cd := cd, fns := fns52, lps := noL, frz := fun _r => false, nt := 10, n0 := 0 }
theorem runref14_Reset (x : Line × Unit) (g : Unit) : execF Eref14_Reset Tryz.f53 (Aref14_Reset.enc x) (bNil.enc g) = (Tref14_Reset x.1).map Rref14_Reset := by kernel_rfl
theorem okref14_Reset : FnOk Tryz.prog cd 53 Sref14_Reset := mk_ok (E := Eref14_Reset) cd_ok fns52_ok Tryz.func53 (by kernel_rfl) (noLoops_body (by kernel_rfl)) (aA_ok cLine_ok (aNil_ok)) bNil_ok (T := fun x _ => Tref14_Reset x.1) (fun _ _ => rfl) runref14_Reset
noncomputable def fns53 := addF 53 true Sref14_Reset fns52
theorem fns53_ok : ∀ f q t, fns53 f = some (q, t) → FnOk Tryz.prog cd f t := addF_ok okref14_Reset fns52_ok
/-- emulator/emulatorref18.Reset -/
structure Sref18_Reset_0 where
  t4 : Int
  b0 : Machine
  b1_0 : (List Int)
  b1_1 : (List Int)
  b1_2 : Int
  b1_3 : Int
  b1_6 : Bool
  b1_7 : (List Page)
  b1_8 : Int
  b1_9 : Int
  b1_10 : Bool
  b1_11 : Bool
  b1_12 : Int
  b1_13 : Int
  b1_17 : Bool
  b1_18 : Bool
  b1_19 : Bool
  b1_20 : Int
  b1_21 : Int
  b1_22 : Int
  b1_23 : Int
  b1_24 : Int
  b1_26 : Int
  b1_27 : Bool
  b1_28 : Bool
  b1_29 : Bool
  b1_30 : Bool
  b1_31 : Bool
  b1_32 : Int
  b1_33 : Int
  b1_34 : Int
  b1_35 : Int
  b1_36 : Int
  b1_37 : Bool
  b1_38 : Bool
  b1_39 : Int
  b1_40 : Bool
  b2 : (List Line)
  b3 : (List Int)
  b4 : (List Int)
  b5 : (List Line)
  b6 : (List (List UInt8))
  b7 : (List Int)
  b8 : (List (List UInt8))
noncomputable def Wref18_Reset_0 (s : Sref18_Reset_0) : Tree (Sref18_Reset_0 ⊕ (Machine × (List Int) × (List Int) × Int × Int × Bool × (List Page) × Int × Int × Bool × Bool × Int × Int × Bool × Bool × Bool × Int × Int × Int × Int × Int × Int × Bool × Bool × Bool × Bool × Bool × Int × Int × Int × Int × Int × Bool × Bool × Int × Bool × (List Line) × (List Int) × (List Int) × (List Line) × (List (List UInt8)) × (List Int) × (List (List UInt8)))) :=
  .ite (decide (s.t4 < (s.b0.lines.length : Int)))
    (.ite (decide (0 ≤ s.t4))
      (.opt Line (s.b0.lines[(s.t4).toNat]?) fun y306 =>
        .opt Line (ref14_Reset y306) fun r307 =>
          .ite (decide ((s.b2.length + ([r307]).length) * 56 ≤ 140737488355328))
            (.leaf (.inl (Sref18_Reset_0.mk (IntKind.wrap .i64 (s.t4 + (1 : Int))) s.b0 s.b1_0 s.b1_1 s.b1_2 s.b1_3 s.b1_6 s.b1_7 s.b1_8 s.b1_9 s.b1_10 s.b1_11 s.b1_12 s.b1_13 s.b1_17 s.b1_18 s.b1_19 s.b1_20 s.b1_21 s.b1_22 s.b1_23 s.b1_24 s.b1_26 s.b1_27 s.b1_28 s.b1_29 s.b1_30 s.b1_31 s.b1_32 s.b1_33 s.b1_34 s.b1_35 s.b1_36 s.b1_37 s.b1_38 s.b1_39 s.b1_40 (s.b2 ++ ([r307])) s.b3 s.b4 s.b5 s.b6 s.b7 s.b8)))
            .fail)
      .fail)
    (.leaf (.inr (s.b0, s.b1_0, s.b1_1, s.b1_2, s.b1_3, s.b1_6, s.b1_7, s.b1_8, s.b1_9, s.b1_10, s.b1_11, s.b1_12, s.b1_13, s.b1_17, s.b1_18, s.b1_19, s.b1_20, s.b1_21, s.b1_22, s.b1_23, s.b1_24, s.b1_26, s.b1_27, s.b1_28, s.b1_29, s.b1_30, s.b1_31, s.b1_32, s.b1_33, s.b1_34, s.b1_35, s.b1_36, s.b1_37, s.b1_38, s.b1_39, s.b1_40, s.b2, s.b3, s.b4, s.b5, s.b6, s.b7, s.b8)))
noncomputable def Lref18_Reset_0 (q : Option Nat) (s : Sref18_Reset_0) : Option (Machine × (List Int) × (List Int) × Int × Int × Bool × (List Page) × Int × Int × Bool × Bool × Int × Int × Bool × Bool × Bool × Int × Int × Int × Int × Int × Int × Bool × Bool × Bool × Bool × Bool × Int × Int × Int × Int × Int × Bool × Bool × Int × Bool × (List Line) × (List Int) × (List Int) × (List Line) × (List (List UInt8)) × (List Int) × (List (List UInt8))) := limQ q (fun s => (Wref18_Reset_0 s).run) s
noncomputable def Tref18_Reset (q : Option Nat) (x0 : Machine) : Tree Machine :=
  .opt Clock (ref13_Reset x0.clock) fun r302 =>
    .opt Disk (ref16_Reset x0.disk) fun r303 =>
      .opt Tape (ref17_Reset x0.tape) fun r304 =>
        .opt Mmu (ref09_Reset x0.mmu) fun r305 =>
          .opt (Machine × (List Int) × (List Int) × Int × Int × Bool × (List Page) × Int × Int × Bool × Bool × Int × Int × Bool × Bool × Bool × Int × Int × Int × Int × Int × Int × Bool × Bool × Bool × Bool × Bool × Int × Int × Int × Int × Int × Bool × Bool × Int × Bool × (List Line) × (List Int) × (List Int) × (List Line) × (List (List UInt8)) × (List Int) × (List (List UInt8))) (Lref18_Reset_0 q (Sref18_Reset_0.mk (0 : Int) (Machine.mk x0.cpu x0.mem x0.bad r305 r302 x0.lines r303 r304 x0.now x0.halted x0.waiting x0.power x0.powerTrap) (List.replicate 6 (0 : Int)) (List.replicate 2 (0 : Int)) 0 0 false (List.replicate 16 (Page.mk (0 : Int) (0 : Int) (0 : Int) false)) 0 0 false false 0 0 false false false 0 0 0 0 0 0 false false false false false 0 0 0 0 0 false false 0 false ([]) ([]) ([]) ([]) ([]) ([]) ([]))) fun l308 =>
            .leaf (Machine.mk l308.1.cpu l308.1.mem l308.1.bad l308.1.mmu l308.1.clock l308.2.2.2.2.2.2.2.2.2.2.2.2.2.2.2.2.2.2.2.2.2.2.2.2.2.2.2.2.2.2.2.2.2.2.2.2.1 l308.1.disk l308.1.tape l308.1.now l308.1.halted l308.1.waiting l308.1.power l308.1.powerTrap)
noncomputable def ref18_Reset (q : Option Nat) (x0 : Machine) : Option Machine := (Tref18_Reset q x0).run
noncomputable def Aref18_Reset : Arg U (Machine × Unit) := aA cMachine (aNil)
noncomputable def Rref18_Reset (r : Machine) : List (V U) × List (Blk U) := ([vA cMachine r], [])
noncomputable def Sref18_Reset : List (V U) → List (Blk U) → Option (FnOut U) := mkSpec Aref18_Reset bNil (fun x _ => ref18_Reset none x.1) Rref18_Reset
noncomputable def Pref18_Reset_0 (x : (Unit) × (Unit) × (Unit) × (Int × Unit) × Unit) (g : (Machine × Unit) × ((List Int) × (List Int) × Int × Int × Bool × (List Page) × Int × Int × Bool × Bool × Int × Int × Bool × Bool × Bool × Int × Int × Int × Int × Int × Int × Bool × Bool × Bool × Bool × Bool × Int × Int × Int × Int × Int × Bool × Bool × Int × Bool × Unit) × (List Line) × (List Int) × (List Int) × (List Line) × (List (List UInt8)) × (List Int) × (List (List UInt8)) × Unit) : Sref18_Reset_0 := Sref18_Reset_0.mk x.2.2.2.1.1 g.1.1 g.2.1.1 g.2.1.2.1 g.2.1.2.2.1 g.2.1.2.2.2.1 g.2.1.2.2.2.2.1 g.2.1.2.2.2.2.2.1 g.2.1.2.2.2.2.2.2.1 g.2.1.2.2.2.2.2.2.2.1 g.2.1.2.2.2.2.2.2.2.2.1 g.2.1.2.2.2.2.2.2.2.2.2.1 g.2.1.2.2.2.2.2.2.2.2.2.2.1 g.2.1.2.2.2.2.2.2.2.2.2.2.2.1 g.2.1.2.2.2.2.2.2.2.2.2.2.2.2.1 g.2.1.2.2.2.2.2.2.2.2.2.2.2.2.2.1 g.2.1.2.2.2.2.2.2.2.2.2.2.2.2.2.2.1 g.2.1.2.2.2.2.2.2.2.2.2.2.2.2.2.2.2.1 g.2.1.2.2.2.2.2.2.2.2.2.2.2.2.2.2.2.2.1 g.2.1.2.2.2.2.2.2.2.2.2.2.2.2.2.2.2.2.2.1 g.2.1.2.2.2.2.2.2.2.2.2.2.2.2.2.2.2.2.2.2.1 g.2.1.2.2.2.2.2.2.2.2.2.2.2.2.2.2.2.2.2.2.2.1 g.2.1.2.2.2.2.2.2.2.2.2.2.2.2.2.2.2.2.2.2.2.2.1 g.2.1.2.2.2.2.2.2.2.2.2.2.2.2.2.2.2.2.2.2.2.2.2.1 g.2.1.2.2.2.2.2.2.2.2.2.2.2.2.2.2.2.2.2.2.2.2.2.2.1 g.2.1.2.2.2.2.2.2.2.2.2.2.2.2.2.2.2.2.2.2.2.2.2.2.2.1 g.2.1.2.2.2.2.2.2.2.2.2.2.2.2.2.2.2.2.2.2.2.2.2.2.2.2.1 g.2.1.2.2.2.2.2.2.2.2.2.2.2.2.2.2.2.2.2.2.2.2.2.2.2.2.2.1 g.2.1.2.2.2.2.2.2.2.2.2.2.2.2.2.2.2.2.2.2.2.2.2.2.2.2.2.2.1 g.2.1.2.2.2.2.2.2.2.2.2.2.2.2.2.2.2.2.2.2.2.2.2.2.2.2.2.2.2.1 g.2.1.2.2.2.2.2.2.2.2.2.2.2.2.2.2.2.2.2.2.2.2.2.2.2.2.2.2.2.2.1 g.2.1.2.2.2.2.2.2.2.2.2.2.2.2.2.2.2.2.2.2.2.2.2.2.2.2.2.2.2.2.2.1 g.2.1.2.2.2.2.2.2.2.2.2.2.2.2.2.2.2.2.2.2.2.2.2.2.2.2.2.2.2.2.2.2.1 g.2.1.2.2.2.2.2.2.2.2.2.2.2.2.2.2.2.2.2.2.2.2.2.2.2.2.2.2.2.2.2.2.2.1 g.2.1.2.2.2.2.2.2.2.2.2.2.2.2.2.2.2.2.2.2.2.2.2.2.2.2.2.2.2.2.2.2.2.2.1 g.2.1.2.2.2.2.2.2.2.2.2.2.2.2.2.2.2.2.2.2.2.2.2.2.2.2.2.2.2.2.2.2.2.2.2.1 g.2.1.2.2.2.2.2.2.2.2.2.2.2.2.2.2.2.2.2.2.2.2.2.2.2.2.2.2.2.2.2.2.2.2.2.2.1 g.2.2.1 g.2.2.2.1 g.2.2.2.2.1 g.2.2.2.2.2.1 g.2.2.2.2.2.2.1 g.2.2.2.2.2.2.2.1 g.2.2.2.2.2.2.2.2.1
noncomputable def tAref18_Reset_0 : Tms U ((Unit) × (Unit) × (Unit) × (Int × Unit) × Unit) := tO 1 (cK (.ptr 0 0) (cUnit)) (tO 2 (cK (.ptr 1 0) (cUnit)) (tO 3 (cK (.row 2 0) (cUnit)) (tO 4 (cPair (cInt .i64) (cUnit)) (tNil))))
noncomputable def tBref18_Reset_0 : Bls U ((Machine × Unit) × ((List Int) × (List Int) × Int × Int × Bool × (List Page) × Int × Int × Bool × Bool × Int × Int × Bool × Bool × Bool × Int × Int × Int × Int × Int × Int × Bool × Bool × Bool × Bool × Bool × Int × Int × Int × Int × Int × Bool × Bool × Int × Bool × Unit) × (List Line) × (List Int) × (List Int) × (List Line) × (List (List UInt8)) × (List Int) × (List (List UInt8)) × Unit) := bC (cPair cMachine (cUnit)) (bC (cPair (cArr 3 6) (cPair (cArr 3 2) (cPair (cInt .i64) (cPair (cInt .i64) (cK (.row 3 0) (cK (.row 4 0) (cPair cBool (cPair (cArr 28 16) (cPair (cInt .i64) (cPair (cInt .i64) (cPair cBool (cPair cBool (cPair (cInt .i64) (cPair (cInt .i64) (cK (.row 5 0) (cK (.row 6 0) (cK (.row 7 0) (cPair cBool (cPair cBool (cPair cBool (cPair (cInt .i64) (cPair (cInt .i64) (cPair (cInt .i64) (cPair (cInt .i64) (cPair (cInt .i64) (cK (.row 8 0) (cPair (cInt .i64) (cPair cBool (cPair cBool (cPair cBool (cPair cBool (cPair cBool (cPair (cInt .i64) (cPair (cInt .i64) (cPair (cInt .i64) (cPair (cInt .i64) (cPair (cInt .i64) (cPair cBool (cPair cBool (cPair (cInt .i64) (cPair cBool (cUnit)))))))))))))))))))))))))))))))))))))))))) (bRv 55 0 (bRv 3 0 (bRv 3 0 (bRv 55 0 (bRv 9 0 (bRv 3 0 (bRv 9 0 (bNil)))))))))
noncomputable def eSref18_Reset_0 (s : Sref18_Reset_0) : St U := { tm := [(1, .v (vO (cK (.ptr 0 0) (cUnit)) (()))), (2, .v (vO (cK (.ptr 1 0) (cUnit)) (()))), (3, .v (vO (cK (.row 2 0) (cUnit)) (()))), (4, .v (vO (cPair (cInt .i64) (cUnit)) (s.t4, ())))], hp := [.cells ((cPair cMachine (cUnit) : Cdc U (Machine × Unit)).enc (s.b0, ())) none, .cells ((cPair (cArr 3 6) (cPair (cArr 3 2) (cPair (cInt .i64) (cPair (cInt .i64) (cK (.row 3 0) (cK (.row 4 0) (cPair cBool (cPair (cArr 28 16) (cPair (cInt .i64) (cPair (cInt .i64) (cPair cBool (cPair cBool (cPair (cInt .i64) (cPair (cInt .i64) (cK (.row 5 0) (cK (.row 6 0) (cK (.row 7 0) (cPair cBool (cPair cBool (cPair cBool (cPair (cInt .i64) (cPair (cInt .i64) (cPair (cInt .i64) (cPair (cInt .i64) (cPair (cInt .i64) (cK (.row 8 0) (cPair (cInt .i64) (cPair cBool (cPair cBool (cPair cBool (cPair cBool (cPair cBool (cPair (cInt .i64) (cPair (cInt .i64) (cPair (cInt .i64) (cPair (cInt .i64) (cPair (cInt .i64) (cPair cBool (cPair cBool (cPair (cInt .i64) (cPair cBool (cUnit))))))))))))))))))))))))))))))))))))))))) : Cdc U ((List Int) × (List Int) × Int × Int × Bool × (List Page) × Int × Int × Bool × Bool × Int × Int × Bool × Bool × Bool × Int × Int × Int × Int × Int × Int × Bool × Bool × Bool × Bool × Bool × Int × Int × Int × Int × Int × Bool × Bool × Int × Bool × Unit)).enc (s.b1_0, s.b1_1, s.b1_2, s.b1_3, s.b1_6, s.b1_7, s.b1_8, s.b1_9, s.b1_10, s.b1_11, s.b1_12, s.b1_13, s.b1_17, s.b1_18, s.b1_19, s.b1_20, s.b1_21, s.b1_22, s.b1_23, s.b1_24, s.b1_26, s.b1_27, s.b1_28, s.b1_29, s.b1_30, s.b1_31, s.b1_32, s.b1_33, s.b1_34, s.b1_35, s.b1_36, s.b1_37, s.b1_38, s.b1_39, s.b1_40, ())) none, .row 55 0 s.b2, .row 3 0 s.b3, .row 3 0 s.b4, .row 55 0 s.b5, .row 9 0 s.b6, .row 3 0 s.b7, .row 9 0 s.b8] }
noncomputable def xSref18_Reset_0 (r : (Machine × (List Int) × (List Int) × Int × Int × Bool × (List Page) × Int × Int × Bool × Bool × Int × Int × Bool × Bool × Bool × Int × Int × Int × Int × Int × Int × Bool × Bool × Bool × Bool × Bool × Int × Int × Int × Int × Int × Bool × Bool × Int × Bool × (List Line) × (List Int) × (List Int) × (List Line) × (List (List UInt8)) × (List Int) × (List (List UInt8)))) : Ex × St U := (.exit 0, { tm := [(1, .v (vO (cK (.ptr 0 0) (cUnit)) (()))), (2, .v (vO (cK (.ptr 1 0) (cUnit)) (()))), (3, .v (vO (cK (.row 2 0) (cUnit)) (())))], hp := [.cells ((cPair cMachine (cUnit) : Cdc U (Machine × Unit)).enc (r.1, ())) none, .cells ((cPair (cArr 3 6) (cPair (cArr 3 2) (cPair (cInt .i64) (cPair (cInt .i64) (cK (.row 3 0) (cK (.row 4 0) (cPair cBool (cPair (cArr 28 16) (cPair (cInt .i64) (cPair (cInt .i64) (cPair cBool (cPair cBool (cPair (cInt .i64) (cPair (cInt .i64) (cK (.row 5 0) (cK (.row 6 0) (cK (.row 7 0) (cPair cBool (cPair cBool (cPair cBool (cPair (cInt .i64) (cPair (cInt .i64) (cPair (cInt .i64) (cPair (cInt .i64) (cPair (cInt .i64) (cK (.row 8 0) (cPair (cInt .i64) (cPair cBool (cPair cBool (cPair cBool (cPair cBool (cPair cBool (cPair (cInt .i64) (cPair (cInt .i64) (cPair (cInt .i64) (cPair (cInt .i64) (cPair (cInt .i64) (cPair cBool (cPair cBool (cPair (cInt .i64) (cPair cBool (cUnit))))))))))))))))))))))))))))))))))))))))) : Cdc U ((List Int) × (List Int) × Int × Int × Bool × (List Page) × Int × Int × Bool × Bool × Int × Int × Bool × Bool × Bool × Int × Int × Int × Int × Int × Int × Bool × Bool × Bool × Bool × Bool × Int × Int × Int × Int × Int × Bool × Bool × Int × Bool × Unit)).enc (r.2.1, r.2.2.1, r.2.2.2.1, r.2.2.2.2.1, r.2.2.2.2.2.1, r.2.2.2.2.2.2.1, r.2.2.2.2.2.2.2.1, r.2.2.2.2.2.2.2.2.1, r.2.2.2.2.2.2.2.2.2.1, r.2.2.2.2.2.2.2.2.2.2.1, r.2.2.2.2.2.2.2.2.2.2.2.1, r.2.2.2.2.2.2.2.2.2.2.2.2.1, r.2.2.2.2.2.2.2.2.2.2.2.2.2.1, r.2.2.2.2.2.2.2.2.2.2.2.2.2.2.1, r.2.2.2.2.2.2.2.2.2.2.2.2.2.2.2.1, r.2.2.2.2.2.2.2.2.2.2.2.2.2.2.2.2.1, r.2.2.2.2.2.2.2.2.2.2.2.2.2.2.2.2.2.1, r.2.2.2.2.2.2.2.2.2.2.2.2.2.2.2.2.2.2.1, r.2.2.2.2.2.2.2.2.2.2.2.2.2.2.2.2.2.2.2.1, r.2.2.2.2.2.2.2.2.2.2.2.2.2.2.2.2.2.2.2.2.1, r.2.2.2.2.2.2.2.2.2.2.2.2.2.2.2.2.2.2.2.2.2.1, r.2.2.2.2.2.2.2.2.2.2.2.2.2.2.2.2.2.2.2.2.2.2.1, r.2.2.2.2.2.2.2.2.2.2.2.2.2.2.2.2.2.2.2.2.2.2.2.1, r.2.2.2.2.2.2.2.2.2.2.2.2.2.2.2.2.2.2.2.2.2.2.2.2.1, r.2.2.2.2.2.2.2.2.2.2.2.2.2.2.2.2.2.2.2.2.2.2.2.2.2.1, r.2.2.2.2.2.2.2.2.2.2.2.2.2.2.2.2.2.2.2.2.2.2.2.2.2.2.1, r.2.2.2.2.2.2.2.2.2.2.2.2.2.2.2.2.2.2.2.2.2.2.2.2.2.2.2.1, r.2.2.2.2.2.2.2.2.2.2.2.2.2.2.2.2.2.2.2.2.2.2.2.2.2.2.2.2.1, r.2.2.2.2.2.2.2.2.2.2.2.2.2.2.2.2.2.2.2.2.2.2.2.2.2.2.2.2.2.1, r.2.2.2.2.2.2.2.2.2.2.2.2.2.2.2.2.2.2.2.2.2.2.2.2.2.2.2.2.2.2.1, r.2.2.2.2.2.2.2.2.2.2.2.2.2.2.2.2.2.2.2.2.2.2.2.2.2.2.2.2.2.2.2.1, r.2.2.2.2.2.2.2.2.2.2.2.2.2.2.2.2.2.2.2.2.2.2.2.2.2.2.2.2.2.2.2.2.1, r.2.2.2.2.2.2.2.2.2.2.2.2.2.2.2.2.2.2.2.2.2.2.2.2.2.2.2.2.2.2.2.2.2.1, r.2.2.2.2.2.2.2.2.2.2.2.2.2.2.2.2.2.2.2.2.2.2.2.2.2.2.2.2.2.2.2.2.2.2.1, r.2.2.2.2.2.2.2.2.2.2.2.2.2.2.2.2.2.2.2.2.2.2.2.2.2.2.2.2.2.2.2.2.2.2.2.1, ())) none, .row 55 0 r.2.2.2.2.2.2.2.2.2.2.2.2.2.2.2.2.2.2.2.2.2.2.2.2.2.2.2.2.2.2.2.2.2.2.2.2.1, .row 3 0 r.2.2.2.2.2.2.2.2.2.2.2.2.2.2.2.2.2.2.2.2.2.2.2.2.2.2.2.2.2.2.2.2.2.2.2.2.2.1, .row 3 0 r.2.2.2.2.2.2.2.2.2.2.2.2.2.2.2.2.2.2.2.2.2.2.2.2.2.2.2.2.2.2.2.2.2.2.2.2.2.2.1, .row 55 0 r.2.2.2.2.2.2.2.2.2.2.2.2.2.2.2.2.2.2.2.2.2.2.2.2.2.2.2.2.2.2.2.2.2.2.2.2.2.2.2.1, .row 9 0 r.2.2.2.2.2.2.2.2.2.2.2.2.2.2.2.2.2.2.2.2.2.2.2.2.2.2.2.2.2.2.2.2.2.2.2.2.2.2.2.2.1, .row 3 0 r.2.2.2.2.2.2.2.2.2.2.2.2.2.2.2.2.2.2.2.2.2.2.2.2.2.2.2.2.2.2.2.2.2.2.2.2.2.2.2.2.2.1, .row 9 0 r.2.2.2.2.2.2.2.2.2.2.2.2.2.2.2.2.2.2.2.2.2.2.2.2.2.2.2.2.2.2.2.2.2.2.2.2.2.2.2.2.2.2] })
noncomputable def xTref18_Reset_0 (r : (Machine × (List Int) × (List Int) × Int × Int × Bool × (List Page) × Int × Int × Bool × Bool × Int × Int × Bool × Bool × Bool × Int × Int × Int × Int × Int × Int × Bool × Bool × Bool × Bool × Bool × Int × Int × Int × Int × Int × Bool × Bool × Int × Bool × (List Line) × (List Int) × (List Int) × (List Line) × (List (List UInt8)) × (List Int) × (List (List UInt8)))) : Tree (Ex × St U) := .leaf (xSref18_Reset_0 r)
noncomputable def href18_Reset_0 : Hd := { keep := [1, 2, 3, 4], xkeep := [1, 2, 3], own := true }
noncomputable def Eref18_Reset : Env U := { P := Tryz.prog, cd := cd, fns := fns53, lps := (addL 0 href18_Reset_0 (mkLoop tAref18_Reset_0 tBref18_Reset_0 Pref18_Reset_0 (Lref18_Reset_0 none) xTref18_Reset_0) noL), frz := fun _r => false, nt := 40, n0 := 0 }
noncomputable def Bref18_Reset_0 : Code := (loopAt (Tryz.f18.body.getD .skip) 0 0).getD .skip
theorem roundref18_Reset_0 (s : Sref18_Reset_0) : round Eref18_Reset href18_Reset_0 Bref18_Reset_0 0 (eSref18_Reset_0 s) = (Wref18_Reset_0 s).map (sumE eSref18_Reset_0 xSref18_Reset_0) := by kernel_rfl
theorem lpref18_Reset_0 : LpOk Eref18_Reset Bref18_Reset_0 0 := mkLoop_ok (A := tAref18_Reset_0) (B := tBref18_Reset_0) (f := Pref18_Reset_0) (L := Lref18_Reset_0 none) (tO_ok (cK_ok cUnit_ok) (tO_ok (cK_ok cUnit_ok) (tO_ok (cK_ok cUnit_ok) (tO_ok (cPair_ok (cInt_ok .i64) cUnit_ok) tNil_ok)))) (bC_ok (cPair_ok cMachine_ok cUnit_ok) (bC_ok (cPair_ok (cArr_ok 3 6) (cPair_ok (cArr_ok 3 2) (cPair_ok (cInt_ok .i64) (cPair_ok (cInt_ok .i64) (cK_ok (cK_ok (cPair_ok cBool_ok (cPair_ok (cArr_ok 28 16) (cPair_ok (cInt_ok .i64) (cPair_ok (cInt_ok .i64) (cPair_ok cBool_ok (cPair_ok cBool_ok (cPair_ok (cInt_ok .i64) (cPair_ok (cInt_ok .i64) (cK_ok (cK_ok (cK_ok (cPair_ok cBool_ok (cPair_ok cBool_ok (cPair_ok cBool_ok (cPair_ok (cInt_ok .i64) (cPair_ok (cInt_ok .i64) (cPair_ok (cInt_ok .i64) (cPair_ok (cInt_ok .i64) (cPair_ok (cInt_ok .i64) (cK_ok (cPair_ok (cInt_ok .i64) (cPair_ok cBool_ok (cPair_ok cBool_ok (cPair_ok cBool_ok (cPair_ok cBool_ok (cPair_ok cBool_ok (cPair_ok (cInt_ok .i64) (cPair_ok (cInt_ok .i64) (cPair_ok (cInt_ok .i64) (cPair_ok (cInt_ok .i64) (cPair_ok (cInt_ok .i64) (cPair_ok cBool_ok (cPair_ok cBool_ok (cPair_ok (cInt_ok .i64) (cPair_ok cBool_ok cUnit_ok))))))))))))))))))))))))))))))))))))))))) (bRv_ok (bRv_ok (bRv_ok (bRv_ok (bRv_ok (bRv_ok (bRv_ok bNil_ok))))))))) (enc := eSref18_Reset_0) (out := xTref18_Reset_0) (outS := xSref18_Reset_0) (step := Wref18_Reset_0) (fun _ => rfl) (fun _ _ => by kernel_rfl) (by kernel_rfl) (fun _ => rfl) roundref18_Reset_0
theorem runref18_Reset (x : Machine × Unit) (g : Unit) : execF Eref18_Reset Tryz.f18 (Aref18_Reset.enc x) (bNil.enc g) = (Tref18_Reset none x.1).map Rref18_Reset := by kernel_rfl
theorem okref18_Reset : FnOk Tryz.prog cd 18 Sref18_Reset := mk_ok (E := Eref18_Reset) cd_ok fns53_ok Tryz.func18 (by kernel_rfl) (loops_of (addL_ok lpref18_Reset_0 noL_ok)) (aA_ok cMachine_ok (aNil_ok)) bNil_ok (T := fun x _ => Tref18_Reset none x.1) (fun _ _ => rfl) runref18_Reset
noncomputable def fns18 := addF 18 true Sref18_Reset fns53
theorem fns18_ok : ∀ f q t, fns18 f = some (q, t) → FnOk Tryz.prog cd f t := addF_ok okref18_Reset fns53_ok
/-- emulator/emulatorlaw18.BusRequests -/
noncomputable def Tlaw18_BusRequests (q : Option Nat) (x0 : Machine) (x1 : Int) : Tree Bool :=
  .opt Bool (law18_Small q x0) fun r309 =>
    .ite (!r309)
      (.opt Bool (law18_alive q) fun r311 =>
        .leaf (r311))
      (.opt Bool (ref18_Right q x0) fun r310 =>
        .ite (!r310)
          (.opt Bool (law18_alive q) fun r312 =>
            .leaf (r312))
          (.opt Machine (bus_Accept q x0 x1) fun r313 =>
            .opt Machine (bus_Reset q x0) fun r314 =>
              .opt Bool (law18_alive q) fun r315 =>
                .ite (r315)
                  (.opt (List Request) (bus_Requests q x0) fun r316 =>
                    .opt (List Request) (ref18_Requests q x0) fun r317 =>
                      .opt Bool (ref18_SameRequests q r316 r317) fun r318 =>
                        .ite (r318)
                          (.opt Machine (ref18_Accept q x0 x1) fun r319 =>
                            .opt Bool (ref23_Same q r313 r319) fun r320 =>
                              .ite (r320)
                                (.opt Machine (ref18_Reset q x0) fun r321 =>
                                  .opt Bool (ref23_Same q r314 r321) fun r322 =>
                                    .ite (r322)
                                      (.opt Bool (bus_Right q r313) fun r323 =>
                                        .ite (r323)
                                          (.opt Bool (bus_Right q r314) fun r324 =>
                                            .leaf (r324))
                                          (.leaf (false)))
                                      (.leaf (false)))
                                (.leaf (false)))
                          (.leaf (false)))
                  (.leaf (false))))
noncomputable def law18_BusRequests (q : Option Nat) (x0 : Machine) (x1 : Int) : Option Bool := (Tlaw18_BusRequests q x0 x1).run
noncomputable def Alaw18_BusRequests : Arg U (Machine × Int × Unit) := aA cMachine (aO (cInt .i64) (aNil))
noncomputable def Rlaw18_BusRequests (r : Bool) : List (V U) × List (Blk U) := ([vO cBool r], [])
noncomputable def Slaw18_BusRequests : List (V U) → List (Blk U) → Option (FnOut U) := mkSpec Alaw18_BusRequests bNil (fun x _ => law18_BusRequests none x.1 x.2.1) Rlaw18_BusRequests
noncomputable def Elaw18_BusRequests : Env U := { P := Tryz.prog, cd := cd, fns := fns18, lps := noL, frz := fun _r => false, nt := 50, n0 := 0 }
theorem runlaw18_BusRequests (x : Machine × Int × Unit) (g : Unit) : execF Elaw18_BusRequests Tryz.f4 (Alaw18_BusRequests.enc x) (bNil.enc g) = (Tlaw18_BusRequests none x.1 x.2.1).map Rlaw18_BusRequests := by kernel_rfl
theorem oklaw18_BusRequests : FnOk Tryz.prog cd 4 Slaw18_BusRequests := mk_ok (E := Elaw18_BusRequests) cd_ok fns18_ok Tryz.func4 (by kernel_rfl) (noLoops_body (by kernel_rfl)) (aA_ok cMachine_ok (aO_ok (cInt_ok .i64) (aNil_ok))) bNil_ok (T := fun x _ => Tlaw18_BusRequests none x.1 x.2.1) (fun _ _ => rfl) runlaw18_BusRequests
end Go.Proofs.YtfdndagnolbnhaaGreat
end
section
set_option linter.unusedSimpArgs false
namespace Go.Ab
variable {U : Nat → Type} {α β : Type}
section
variable {P : Program} {cd : Cd U}
/-- An array, or one element, told as a list of elements. -/
def ReadsA (P : Program) (cd : Cd U) (t te m : Nat) (G : U te → Prop) : Prop :=
  ∀ (H : Type) (enc : TypeId × Value → H) (W : World) (fuel : Nat) (cs : List Value) (d : DataW H) (ps : List MemPlace), DataW.trod enc P W 0 (fun _ => true) true fuel t cs = some (d, ps) →
    ∃ l : List (U te), l.length = m ∧ (∀ x ∈ l, G x) ∧ RL P cd M0 (FW W) W (l.flatMap (cd.enc te)) cs
theorem ra_one {te : Nat} {c : Cdc U (U te)} {G : U te → Prop} (h : Reads P cd te c G) (hc : ∀ x, cd.enc te x = c.enc x) : ReadsA P cd te te 1 G := by
  intro H enc W fuel cs d ps hh
  obtain ⟨x, g, r⟩ := h H enc W fuel cs d ps hh
  refine ⟨[x], rfl, fun y hy => ?_, ?_⟩
  · simp at hy; subst hy; exact g
  · simpa [hc] using r
theorem ra_arr {t e te n m : Nat} {G : U te → Prop} (ht : P.underlying t = some (.array n e)) (hn : P.cellsOf t = n * P.cellsOf e) (h : ReadsA P cd e te m G) : ReadsA P cd t te (n * m) G := by
  intro H enc W fuel cs d ps hh
  cases fuel with
  | zero => cases hh
  | succ fuel =>
    have key : cs.length = P.cellsOf t ∧ ∃ r, (List.range n).mapM (fun i => DataW.trod enc P W 0 (fun _ => true) true fuel e ((cs.drop (i * P.cellsOf e)).take (P.cellsOf e))) = some r := by
      simp only [DataW.trod, ht] at hh
      split at hh
      · rename_i hl
        refine ⟨hl, ?_⟩
        obtain ⟨r, hr, _⟩ := Option.map_eq_some_iff.1 hh
        exact ⟨r, hr⟩
      · cases hh
    obtain ⟨hl, r, hr⟩ := key
    have main : ∀ k, k ≤ n → ∃ l : List (U te), l.length = k * m ∧ (∀ x ∈ l, G x) ∧ RL P cd M0 (FW W) W (l.flatMap (cd.enc te)) (cs.take (k * P.cellsOf e)) := by
      intro k
      induction k with
      | zero => intro _; exact ⟨[], by simp, by simp, by simpa using RL.nil⟩
      | succ k ih =>
        intro hk
        obtain ⟨l, h1, h2, h3⟩ := ih (by omega)
        obtain ⟨y, hy⟩ := mapM_range hr k (by omega)
        obtain ⟨l', k1, k2, k3⟩ := h H enc W fuel _ y.1 y.2 hy
        refine ⟨l ++ l', by simp [h1, k1, Nat.add_mul], fun x hx => ?_, ?_⟩
        · rcases List.mem_append.1 hx with hx | hx
          · exact h2 x hx
          · exact k2 x hx
        · have e1 : cs.take ((k + 1) * P.cellsOf e) = cs.take (k * P.cellsOf e) ++ (cs.drop (k * P.cellsOf e)).take (P.cellsOf e) := by
            rw [Nat.add_mul, Nat.one_mul, List.take_add]
          rw [e1, List.flatMap_append]
          exact h3.append k3
    obtain ⟨l, h1, h2, h3⟩ := main n (Nat.le_refl n)
    refine ⟨l, h1, h2, ?_⟩
    rw [List.take_of_length_le (by omega)] at h3
    exact h3
theorem rd_arr (ok : CdOk P cd) {t te m : Nat} {G : U te → Prop} (h : ReadsA P cd t te m G) : Reads P cd t (cArr te m) fun l => l.length = m ∧ ∀ x ∈ l, G x := by
  intro H enc W fuel cs d ps hh
  obtain ⟨l, h1, h2, h3⟩ := h H enc W fuel cs d ps hh
  refine ⟨l, ⟨h1, h2⟩, ?_⟩
  have e1 : leaves cd (l.flatMap (cd.enc te)) = l.flatMap (cd.enc te) := leaves_plain fun c hc a b k e => by
    obtain ⟨x, _, hx⟩ := List.mem_flatMap.1 hc
    subst e
    have := ok.plain te x _ hx
    simp [plainC] at this
  have e2 : leaves cd ((cArr te m : Cdc U (List (U te))).enc l) = l.flatMap (cd.enc te) := by simp [cArr, leaves, leaf]
  refine ⟨fun t n k hk => ?_, ?_, fun j c v hc hv => ?_⟩
  · simp only [cArr, List.mem_singleton] at hk
    injection hk with a b c
    subst a; subst b; have c := eq_of_heq c; subst c
    exact h1
  · rw [e2]; have := h3.2.1; rw [e1] at this; exact this
  · rw [e2] at hc; exact h3.2.2 j c v (by rw [e1]; exact hc) hv
end
end Go.Ab
end
section
set_option linter.unusedSimpArgs false
namespace Go.Ab
variable {α β : Type}
/-- A loop with an invariant and a measure ends, and its end is as said. -/
theorem lim_rule {f : α → Option (α ⊕ β)} (I : α → Prop) (Q : β → Prop) (μ : α → Nat) (h : ∀ a, I a → (∃ b, f a = some (.inr b) ∧ Q b) ∨ (∃ a', f a = some (.inl a') ∧ I a' ∧ μ a' < μ a)) (a : α) (ha : I a) : ∃ b, lim f a = some b ∧ Q b := by
  generalize hn : μ a = n
  induction n using Nat.strongRecOn generalizing a with
  | ind n ih =>
    rcases h a ha with ⟨b, hb, hq⟩ | ⟨a', ha', hi, hlt⟩
    · exact ⟨b, lim_done hb, hq⟩
    · obtain ⟨b, hb, hq⟩ := ih (μ a') (by omega) a' hi rfl
      exact ⟨b, by rw [lim_next ha']; exact hb, hq⟩
/-- A loop that counts: from a state for each number, so many rounds on. -/
theorem lim_count {f : α → Option (α ⊕ β)} (s : Nat → α) (n : Nat) (h : ∀ i, i < n → f (s i) = some (.inl (s (i + 1)))) : ∀ i, i ≤ n → lim f (s i) = lim f (s n) := by
  intro i hi
  have key : ∀ k, k ≤ n → lim f (s (n - k)) = lim f (s n) := by
    intro k
    induction k with
    | zero => intro _; rfl
    | succ k ih =>
      intro hk
      rw [lim_next (h (n - (k + 1)) (by omega)), show n - (k + 1) + 1 = n - k by omega]
      exact ih (by omega)
  have := key (n - i) (by omega)
  rwa [show n - (n - i) = i by omega] at this
/-- A loop that looks through numbers for one that is not good. -/
theorem lim_scan {f : α → Option (α ⊕ β)} (s : Nat → α) (n : Nat) (p : Nat → Prop) (bad : Nat → β) (e : β) (h : ∀ i, i < n → p i → f (s i) = some (.inl (s (i + 1)))) (hb : ∀ i, i < n → ¬ p i → f (s i) = some (.inr (bad i))) (he : f (s n) = some (.inr e)) :
    ((∀ i, i < n → p i) ∧ lim f (s 0) = some e) ∨ ∃ i, i < n ∧ ¬ p i ∧ lim f (s 0) = some (bad i) := by
  have key : ∀ k, k ≤ n → ((∀ i, n - k ≤ i → i < n → p i) ∧ lim f (s (n - k)) = some e) ∨ ∃ i, i < n ∧ ¬ p i ∧ lim f (s (n - k)) = some (bad i) := by
    intro k
    induction k with
    | zero => intro _; exact .inl ⟨fun i h1 h2 => by omega, lim_done he⟩
    | succ k ih =>
      intro hk
      by_cases hp : p (n - (k + 1))
      · have hn := lim_next (h (n - (k + 1)) (by omega) hp)
        rw [show n - (k + 1) + 1 = n - k by omega] at hn
        rcases ih (by omega) with ⟨h1, h2⟩ | ⟨i, h1, h2, h3⟩
        · refine .inl ⟨fun i hi hlt => ?_, by rw [hn]; exact h2⟩
          rcases Nat.lt_or_ge i (n - k) with h' | h'
          · rw [show i = n - (k + 1) by omega]; exact hp
          · exact h1 i h' hlt
        · exact .inr ⟨i, h1, h2, by rw [hn]; exact h3⟩
      · exact .inr ⟨n - (k + 1), by omega, hp, lim_done (hb _ (by omega) hp)⟩
  rcases key n (Nat.le_refl n) with ⟨h1, h2⟩ | h
  · rw [Nat.sub_self] at h2; exact .inl ⟨fun i hi => h1 i (by omega) hi, h2⟩
  · rw [Nat.sub_self] at h; exact .inr h
end Go.Ab
end
