/- Rules for loops as limits of their rounds. -/
import Derived.Test.YtiafliookmnjoaaGreatDoorAbMore
import Derived.ChangeShapes
import Derived.Carry
import Derived.ShutString
section
set_option linter.unusedSimpArgs false
namespace Go.Ab
variable {U : Nat → Type} {α β : Type}
/-- No block is handed, and all that stands is as it was. -/
abbrev M0 : Mp := fun _ => none
abbrev FW (W : World) : Nat → Prop := fun k => k < W.heap.size
/-- What reads as data at a type is told by its codec. -/
def Reads (P : Program) (cd : Cd U) (t : Nat) (c : Cdc U α) (G : α → Prop) : Prop :=
  ∀ (H : Type) (enc : TypeId × Value → H) (W : World) (fuel : Nat) (cs : List Value) (d : DataW H) (ps : List MemPlace), DataW.trod enc P W 0 (fun _ => true) true fuel t cs = some (d, ps) → ∃ x, G x ∧ RL P cd M0 (FW W) W (c.enc x) cs
section
variable {P : Program} {cd : Cd U}
theorem rd_bool {t : Nat} (ht : P.underlying t = some .bool) : Reads P cd t cBool fun _ => True := by
  intro H enc W fuel cs d ps h
  cases fuel with
  | zero => cases h
  | succ fuel =>
    match cs with
    | [] => simp [DataW.trod, ht] at h
    | v :: w :: r => cases v <;> simp [DataW.trod, ht] at h
    | [v] =>
      cases v <;> simp [DataW.trod, ht] at h
      rename_i b
      exact ⟨b, trivial, .of1 (.bool b)⟩
theorem rd_int {t : Nat} {k : IntKind} (ht : P.underlying t = some (.int k)) : Reads P cd t (cInt k) fun n => k.min ≤ n ∧ n ≤ k.max := by
  intro H enc W fuel cs d ps h
  cases fuel with
  | zero => cases h
  | succ fuel =>
    match cs with
    | [] => simp [DataW.trod, ht] at h
    | v :: w :: r => cases v <;> simp [DataW.trod, ht] at h
    | [v] =>
      cases v <;> simp [DataW.trod, ht] at h
      rename_i k' n
      obtain ⟨⟨rfl, hw⟩, _⟩ := h
      simp only [Lit.wf, Bool.and_eq_true, decide_eq_true_eq] at hw
      exact ⟨n, hw, .of1 (.int _ n)⟩
theorem rd_str {t : Nat} (ht : P.underlying t = some .string) : Reads P cd t cStr fun s => s.length ≤ maxLen := by
  intro H enc W fuel cs d ps h
  cases fuel with
  | zero => cases h
  | succ fuel =>
    match cs with
    | [] => simp [DataW.trod, ht] at h
    | v :: w :: r => cases v <;> simp [DataW.trod, ht] at h
    | [v] =>
      cases v <;> simp [DataW.trod, ht] at h
      rename_i s
      refine ⟨s.data.toList, by simpa using h.1, ?_⟩
      have := R1.str (P := P) (cd := cd) (M := M0) (Fz := FW W) (w := W) s.data.toList
      exact .of1 (by simpa using this)
/-- the fields of a struct, from o on -/
def ReadsF (P : Program) (cd : Cd U) (fs : List Field) (o : Nat) (n : Nat) (c : Cdc U α) (G : α → Prop) : Prop :=
  ∀ (H : Type) (enc : TypeId × Value → H) (W : World) (fuel : Nat) (cs : List Value) (r : List (DataW H × List MemPlace)), fs.mapM (fun f => DataW.trod enc P W 0 (fun _ => true) true fuel f.type ((cs.drop f.offset).take (P.cellsOf f.type))) = some r →
    ∃ x, G x ∧ RL P cd M0 (FW W) W (c.enc x) ((cs.drop o).take n)
theorem rf_nil (o : Nat) : ReadsF P cd [] o 0 cUnit fun _ => True := by
  intro H enc W fuel cs r h
  exact ⟨(), trivial, by rw [List.take_zero]; exact RL.nil⟩
theorem rf_cons {f : Field} {fs : List Field} {o n m : Nat} {c : Cdc U α} {d : Cdc U β} {G : α → Prop} {K : β → Prop} (ho : f.offset = o) (hm : P.cellsOf f.type = m) (h1 : Reads P cd f.type c G) (h2 : ReadsF P cd fs (o + m) n d K) :
    ReadsF P cd (f :: fs) o (m + n) (cPair c d) fun x => G x.1 ∧ K x.2 := by
  intro H enc W fuel cs r h
  rw [List.mapM_cons] at h
  cases hx : DataW.trod enc P W 0 (fun _ => true) true fuel f.type ((cs.drop f.offset).take (P.cellsOf f.type)) with
  | none => rw [hx] at h; cases h
  | some y =>
    rw [hx] at h
    cases hr : fs.mapM (fun f => DataW.trod enc P W 0 (fun _ => true) true fuel f.type ((cs.drop f.offset).take (P.cellsOf f.type))) with
    | none => rw [hr] at h; cases h
    | some q =>
      obtain ⟨x, g1, r1⟩ := h1 H enc W fuel _ y.1 y.2 hx
      obtain ⟨z, g2, r2⟩ := h2 H enc W fuel cs q hr
      refine ⟨(x, z), ⟨g1, g2⟩, ?_⟩
      have e : (cs.drop o).take (m + n) = (cs.drop o).take m ++ (cs.drop (o + m)).take n := by
        rw [List.take_add, List.drop_drop]
      rw [e]
      rw [ho, hm] at r1
      exact r1.append r2
theorem rd_struct {t n : Nat} {fs : Array Field} {c : Cdc U α} {G : α → Prop} {f : α → β} {g : β → α} (ht : P.underlying t = some (.struct fs)) (hn : P.cellsOf t = n) (h : ReadsF P cd fs.toList 0 n c G) (hg : ∀ x, g (f x) = x) : Reads P cd t (cMap f g c) fun x => G (g x) := by
  intro H enc W fuel cs d ps hh
  cases fuel with
  | zero => cases hh
  | succ fuel =>
    have key : cs.length = P.cellsOf t ∧ ∃ r, fs.toList.mapM (fun f => DataW.trod enc P W 0 (fun _ => true) true fuel f.type ((cs.drop f.offset).take (P.cellsOf f.type))) = some r := by
      simp only [DataW.trod, ht] at hh
      split at hh
      · rename_i hl
        refine ⟨hl, ?_⟩
        obtain ⟨r, hr, _⟩ := Option.map_eq_some_iff.1 hh
        exact ⟨r, hr⟩
      · cases hh
    obtain ⟨hl, r, hr⟩ := key
    obtain ⟨x, g1, r1⟩ := h H enc W fuel cs r hr
    refine ⟨f x, by show G (g (f x)); rw [hg]; exact g1, ?_⟩
    simp only [cMap, hg]
    rw [List.drop_zero, List.take_of_length_le (by omega)] at r1
    exact r1
theorem mapM_range {γ : Type} {f : Nat → Option γ} {n : Nat} {r : List γ} (h : (List.range n).mapM f = some r) : ∀ i, i < n → ∃ y, f i = some y := by
  have key : ∀ (l : List Nat) (r : List γ), l.mapM f = some r → ∀ i ∈ l, ∃ y, f i = some y := by
    intro l
    induction l with
    | nil => intro r _ i hi; simp at hi
    | cons a l ih =>
      intro r h i hi
      rw [List.mapM_cons] at h
      cases ha : f a with
      | none => rw [ha] at h; cases h
      | some y =>
        rw [ha] at h
        cases hl : l.mapM f with
        | none => rw [hl] at h; cases h
        | some q =>
          rcases List.mem_cons.1 hi with rfl | hi
          · exact ⟨y, ha⟩
          · exact ih q hl i hi
  exact fun i hi => key _ r h i (List.mem_range.2 hi)
theorem list_of {γ : Type} {Q : Nat → γ → Prop} : ∀ n, (∀ i, i < n → ∃ x, Q i x) → ∃ l : List γ, l.length = n ∧ ∀ i x, l[i]? = some x → Q i x
  | 0, _ => ⟨[], rfl, fun i x h => by simp at h⟩
  | n + 1, h => by
    obtain ⟨l, h1, h2⟩ := list_of n fun i hi => h i (by omega)
    obtain ⟨x, hx⟩ := h n (by omega)
    refine ⟨l ++ [x], by simp [h1], fun i y hy => ?_⟩
    rcases Nat.lt_or_ge i n with hi | hi
    · rw [List.getElem?_append_left (by omega)] at hy; exact h2 i y hy
    · rw [List.getElem?_append_right (by omega)] at hy
      have := (List.getElem?_eq_some_iff.1 hy).1
      simp at this
      have : i = n := by omega
      subst this
      rw [h1, Nat.sub_self] at hy
      simp at hy
      subst hy
      exact hx
theorem cells_get {W : World} {a : Addr} {n : Nat} {cs : List Value} (h : W.cells? 0 a n = some cs) : ∀ j, j < n → ∃ v, W.cell? (a.add j) = some v ∧ cs[j]? = some v := by
  simp only [World.cells?, Nat.zero_le, if_true] at h
  intro j hj
  obtain ⟨v, hv⟩ := mapM_range h j hj
  refine ⟨v, hv, ?_⟩
  have key : ∀ (l : List Nat) (r : List Value), l.mapM (fun i => W.cell? (a.add i)) = some r → ∀ (i x : Nat), l[i]? = some x → r[i]? = W.cell? (a.add x) := by
    intro l
    induction l with
    | nil => intro r _ i x hi; simp at hi
    | cons b l ih =>
      intro r h i x hi
      rw [List.mapM_cons] at h
      cases ha : W.cell? (a.add b) with
      | none => rw [ha] at h; cases h
      | some y =>
        rw [ha] at h
        cases hl : l.mapM (fun i => W.cell? (a.add i)) with
        | none => rw [hl] at h; cases h
        | some q =>
          rw [hl] at h
          have h : some (y :: q) = some r := h
          injection h with h
          subst h
          cases i with
          | zero => simp at hi; subst hi; simp [ha]
          | succ i => simpa using ih q hl i x (by simpa using hi)
  rw [key _ _ h j j (by simp [hj])]
  exact hv
theorem rd_slice (ok : CdOk P cd) {t e : Nat} {c : Cdc U (U e)} {G : U e → Prop} (ht : P.underlying t = some (.slice e)) (he : Reads P cd e c G) (hc : ∀ x, cd.enc e x = c.enc x) (hs : 0 < P.cellsOf e) : Reads P cd t (cSl e) fun l => l.length ≤ maxLen ∧ ∀ x ∈ l, G x := by
  intro H enc W fuel cs d ps h
  cases fuel with
  | zero => cases h
  | succ fuel =>
    match cs with
    | [] => simp [DataW.trod, ht] at h
    | v :: w :: r => cases v <;> simp [DataW.trod, ht] at h
    | [v] =>
      have hv : v = .slice none 0 0 ∨ ∃ a len cap, v = .slice (some a) len cap ∧ len ≤ cap ∧ cap ≤ maxLen ∧ ∃ r, (List.range len).mapM (fun i => (W.cells? 0 (a.add (i * P.cellsOf e)) (P.cellsOf e)).bind (DataW.trod enc P W 0 (fun _ => true) true fuel e)) = some r := by
        cases v <;> try (simp [DataW.trod, ht] at h; done)
        rename_i a len cap
        cases a with
        | none =>
          left
          cases len <;> cases cap <;> first | rfl | (simp [DataW.trod, ht] at h; done)
        | some a =>
          right
          refine ⟨a, len, cap, rfl, ?_⟩
          simp only [DataW.trod, ht] at h
          split at h
          · rename_i hcond
            refine ⟨hcond.2.1, hcond.2.2, ?_⟩
            obtain ⟨r, hr, _⟩ := Option.bind_eq_some_iff.1 h
            exact ⟨r, hr⟩
          · cases h
      rcases hv with rfl | ⟨a, len, cap, rfl, h1, h2, r, hr⟩
      · exact ⟨[], ⟨Nat.zero_le _, fun x hx => by simp at hx⟩, .of1 (.sl e [] false none 0 (fun _ => undef) (fun e => by cases e) (Nat.le_refl _) (fun e => absurd rfl e) (fun j c hj => by simp at hj))⟩
      · obtain ⟨l, hl, hq⟩ := list_of (Q := fun i x => G x ∧ ∃ ci, W.cells? 0 (a.add (i * P.cellsOf e)) (P.cellsOf e) = some ci ∧ RL P cd M0 (FW W) W (c.enc x) ci) len (fun i hi => by
          obtain ⟨y, hy⟩ := mapM_range hr i hi
          obtain ⟨ci, k1, k2⟩ := Option.bind_eq_some_iff.1 hy
          obtain ⟨x, g1, r1⟩ := he H enc W fuel ci y.1 y.2 k2
          exact ⟨x, g1, ci, k1, r1⟩)
        refine ⟨l, ⟨by omega, fun x hx => ?_⟩, ?_⟩
        · obtain ⟨i, hi⟩ := List.mem_iff_getElem?.1 hx
          exact (hq i x hi).1
        · subst hl
          -- each cell, by its element
          have cell : ∀ j cc, (l.flatMap (cd.enc e))[j]? = some cc → ∃ v, W.cell? ⟨a.block, a.off + j, none⟩ = some v ∧ a.spot = none ∧ R1 P cd M0 (FW W) W cc v := by
            intro j cc hj
            have hjl := (List.getElem?_eq_some_iff.1 hj).1
            rw [flat_len ok] at hjl
            have hi : j / P.cellsOf e < l.length := (Nat.div_lt_iff_lt_mul hs).2 hjl
            have hmod := Nat.mod_lt j hs
            have hx := List.getElem?_eq_getElem hi
            obtain ⟨_, ci, k1, k2⟩ := hq _ _ hx
            have hlt : j % P.cellsOf e < (cd.enc e l[j / P.cellsOf e]).length := by rw [ok.len]; exact hmod
            have henc := List.getElem?_eq_getElem hlt
            have hat := elem_at ok hx _ _ henc
            rw [show j / P.cellsOf e * P.cellsOf e + j % P.cellsOf e = j from Nat.div_add_mod' j (P.cellsOf e), hj] at hat
            injection hat with hat
            obtain ⟨v, e1, e2⟩ := cells_get k1 (j % P.cellsOf e) hmod
            have hleaf : leaves cd (c.enc l[j / P.cellsOf e]) = cd.enc e l[j / P.cellsOf e] := by rw [← hc]; exact enc_plain_leaves ok _ _
            have hr1 := k2.2.2 (j % P.cellsOf e) cc v (by rw [hleaf, henc, hat]) e2
            have hadd : ∀ m k : Nat, (a.add m).add k = if m + k = 0 then a else ⟨a.block, a.off + (m + k), none⟩ := by
              intro m k
              unfold Addr.add
              by_cases hm : m = 0
              · by_cases hk : k = 0
                · simp [hm, hk]
                · simp [hm, hk]
              · by_cases hk : k = 0
                · simp [hm, hk]
                · simp [hm, hk]; omega
            rw [hadd, Nat.div_add_mod'] at e1
            obtain ⟨v0, f1, _⟩ := cells_get (hq 0 _ (List.getElem?_eq_getElem (show 0 < l.length from Nat.lt_of_le_of_lt (Nat.zero_le _) hi))).2.choose_spec.1 0 hs
            have hspot : a.spot = none := by
              rw [hadd] at f1
              simp only [Nat.zero_mul, Nat.add_zero, if_true] at f1
              cases hsp : a.spot with
              | none => rfl
              | some q =>
                simp only [World.cell?, hsp, Option.isSome_some, if_true] at f1
                split at f1 <;> cases f1
            refine ⟨v, ?_, hspot, hr1⟩
            split at e1
            · rename_i hj0
              have : a = ⟨a.block, a.off + j, none⟩ := by cases a; simp at hspot; simp [hspot, hj0]
              rw [← this]; exact e1
            · exact e1
          refine .of1 (.sl e l false (some a) cap (fun j => (W.cell? ⟨a.block, a.off + j, none⟩).getD undef) (fun e => by cases e) h1 (fun hne => ?_) (fun j cc hj => ?_))
          · have h0 : 0 < l.length := by cases l; exact absurd rfl hne; simp
            have hlt0 : 0 < (l.flatMap (cd.enc e)).length := by rw [flat_len ok]; exact Nat.mul_pos h0 hs
            have hx0 := List.getElem?_eq_getElem hlt0
            obtain ⟨v, e1, e2, _⟩ := cell 0 _ hx0
            refine ⟨a.block, a.off, by cases a; simp at e2; simp [at0, e2], World.block_lt_of_cell? W ⟨a.block, a.off + 0, none⟩ e1, fun j cc hj => ?_⟩
            obtain ⟨v, e1, _, _⟩ := cell j cc hj
            rw [show at0 a.block (a.off + j) = ⟨a.block, a.off + j, none⟩ from rfl, e1]
            rfl
          · obtain ⟨v, e1, _, e3⟩ := cell j cc hj
            rw [e1]
            exact e3
end
end Go.Ab
end
section
set_option linter.unusedSimpArgs false
namespace Go.Ab
open Go.ChangeShapes Go.RowKit
variable {U : Nat → Type} {α β : Type}
section
variable {P : Program} {cd : Cd U}
theorem agg_val {W : World} {base t : Nat} {v : Value} (ht : isAggB P t = true) (h : Value.okWide P W .any base t v) : ∃ a, v = .agg a := by
  unfold isAggB at ht
  unfold Value.okWide at h
  split at ht
  · rename_i fs hu; rw [hu] at h; obtain ⟨cs, rfl, _⟩ := h; exact ⟨cs, rfl⟩
  · rename_i n e hu; rw [hu] at h; obtain ⟨cs, rfl, _⟩ := h; exact ⟨cs, rfl⟩
  · cases ht
/-- arguments read -/
def ArgsRd (P : Program) (cd : Cd U) (ts : List Nat) (A : Arg U α) (G : α → Prop) : Prop :=
  ∀ (H : Type) (enc : TypeId × Value → H) (W : World) (base : Nat) (vs : List Value) (ds : List (DataW H)) (ps : List MemPlace), DataW.TrodAll enc P W 0 (fun _ => true) true ts vs ds ps → (∀ (j : Nat) t v, ts[j]? = some t → vs[j]? = some v → Value.okWide P W .any base t v) →
    ∃ x, G x ∧ RVs P cd M0 (FW W) W (A.enc x) vs
theorem ar_nil : ArgsRd P cd [] aNil fun _ => True := by
  intro H enc W base vs ds ps h _
  match vs, ds, h with
  | [], [], _ => exact ⟨(), trivial, rfl, fun j x v h => by simp [aNil] at h⟩
theorem ar_push {W : World} {x : V U} {xs : List (V U)} {v : Value} {vs : List Value} (h : RV P cd M0 (FW W) W x v) (k : RVs P cd M0 (FW W) W xs vs) : RVs P cd M0 (FW W) W (x :: xs) (v :: vs) := by
  refine ⟨by simp [k.1], fun j y u e1 e2 => ?_⟩
  cases j with
  | zero => simp at e1 e2; subst e1; subst e2; exact h
  | succ j => exact k.2 j y u (by simpa using e1) (by simpa using e2)
theorem ar_agg {t : Nat} {ts : List Nat} {c : Cdc U α} {A : Arg U β} {G : α → Prop} {K : β → Prop} (ht : isAggB P t = true) (h1 : Reads P cd t c G) (h2 : ArgsRd P cd ts A K) : ArgsRd P cd (t :: ts) (aA c A) fun x => G x.1 ∧ K x.2 := by
  intro H enc W base vs ds ps h hval
  match vs, ds, h with
  | v :: vs, d :: ds, h =>
    obtain ⟨p, q, ⟨fuel, hf⟩, hr, _⟩ := h
    obtain ⟨a, rfl⟩ := agg_val ht (hval 0 t v rfl rfl)
    obtain ⟨x, g1, r1⟩ := h1 H enc W fuel _ d p hf
    obtain ⟨y, g2, r2⟩ := h2 H enc W base vs ds q hr fun j t' v' e1 e2 => hval (j + 1) t' v' (by simpa using e1) (by simpa using e2)
    exact ⟨(x, y), ⟨g1, g2⟩, ar_push ⟨a, rfl, r1⟩ r2⟩
theorem cell_lt {W : World} {g j : Nat} {y : Value} (h : W.cell? (at0 g j) = some y) : g < W.heap.size := by
  rcases Nat.lt_or_ge g W.heap.size with h1 | h1
  · exact h1
  · unfold World.cell? at h
    rw [show W.heap[(at0 g j).block]? = none from Array.getElem?_eq_none h1] at h
    cases h
theorem hr0 (W : World) (hgl : ∀ g j y, (cd.gl g)[j]? = some y → W.cell? (at0 g j) = some y) : HR P cd M0 (FW W) [] W :=
  ⟨(fun b x h => by simp at h), (fun _ _ => rfl), (fun b b' i i' k h => by cases h), (fun b i k h => by cases h), ⟨fun k hk => hk, fun g j y e => ⟨cell_lt (hgl g j y e), hgl g j y e⟩⟩, (fun b i k h => by cases h)⟩
/-- behind a call to which nothing was handed all stands as it did -/
theorem below_of {W W' : World} {d : D U} {hp : List (Blk U)} {v : Value} (h : Post P cd M0 (FW W) W d hp v W') : Below W.heap.size W W' := by
  obtain ⟨M', F', _, _, _, h4, h5, _, _⟩ := h
  exact ⟨h5.os, h5.tape, h5.output, h5.size, fun k hk => (h4 k hk).2⟩
theorem bool_of {W W' : World} {hp : List (Blk U)} {v : Value} {b : Bool} (h : Post P cd M0 (FW W) W (.v (.one (.bool b))) hp v W') : v = .bool b := by
  obtain ⟨M', F', h, _⟩ := h
  have h : R1 P cd M' F' W' _ v := h
  cases h
  rfl
theorem stay {H : Type} {enc : TypeId × Value → H} (hl : laidOutB P = true) {W W' : World} (hb : Below W.heap.size W W') : ∀ {ts : List Nat} {vs : List Value} {ds : List (DataW H)} {ps : List MemPlace}, (∀ t ∈ ts, P.readableRec t = true ∧ t < P.types.size) →
    DataW.TrodAll enc P W 0 (fun _ => true) true ts vs ds ps → (∀ x ∈ ps, x.block < W.heap.size) → DataW.TrodAll enc P W' 0 (fun b => decide (b < W.heap.size)) true ts vs ds ps
  | [], [], [], _, _, h, _ => h
  | t :: ts, v :: vs, d :: ds, ps, ht, h, hlt => by
    obtain ⟨p, q, h1, h2, rfl⟩ := h
    exact ⟨p, q, Below.trod hl (ht t (by simp)).1 (ht t (by simp)).2 h1 hb fun x hx => hlt x (by simp [hx]), stay hl hb (fun t' h' => ht t' (by simp [h'])) h2 fun x hx => hlt x (by simp [hx]), rfl⟩
/-- a law's call -/
theorem law_call {f : Nat} {A : Arg U α} {F : α → Unit → Option Bool} {out : Bool → List (V U) × List (Blk U)} (ho : ∀ b, out b = ([.one (.bool b)], [])) (hA : ∀ x, A.dec (A.enc x) = some x) (ok : FnOk P cd f (mkSpec A bNil F out)) {W : World} {x : α} {vs : List Value}
    (hr : RVs P cd M0 (FW W) W (A.enc x) vs) (hF : F x () = some true) (hgl : ∀ g j y, (cd.gl g)[j]? = some y → W.cell? (at0 g j) = some y := by exact fun g j y h => by cases (show (none : Option Value) = some y from h)) : Calls P f vs.toArray W fun e W' => e = .returned (.bool true) ∧ Below W.heap.size W W' := by
  have hs : mkSpec A bNil F out (A.enc x) [] = some ⟨Bool, F x (), fun y => .leaf (out y)⟩ := by
    unfold mkSpec
    rw [hA]
    rfl
  obtain ⟨fn, _, _, _, hc⟩ := ok M0 (FW W) W [] _ vs (hr0 W hgl) hr _ hs true hF (out true) rfl
  refine hc.mono fun e W' ⟨v, he, hp⟩ => ?_
  subst he
  have hp : Post P cd M0 (FW W) W (resD (out true).1) (out true).2 v W' := hp
  rw [ho] at hp
  exact ⟨by rw [bool_of hp], below_of hp⟩
end
end Go.Ab
end
section
set_option linter.unusedSimpArgs false
namespace Go.Ab
variable {U : Nat → Type} {α β : Type}
section
variable {P : Program} {cd : Cd U}
/-- An array, or one element, told as a list of elements. -/
def ReadsA (P : Program) (cd : Cd U) (t te m : Nat) (G : U te → Prop) : Prop :=
  ∀ (H : Type) (enc : TypeId × Value → H) (W : World) (fuel : Nat) (cs : List Value) (d : DataW H) (ps : List MemPlace), DataW.trod enc P W 0 (fun _ => true) true fuel t cs = some (d, ps) →
    ∃ l : List (U te), l.length = m ∧ (∀ x ∈ l, G x) ∧ RL P cd M0 (FW W) W (l.flatMap (cd.enc te)) cs
theorem ra_one {te : Nat} {c : Cdc U (U te)} {G : U te → Prop} (h : Reads P cd te c G) (hc : ∀ x, cd.enc te x = c.enc x) : ReadsA P cd te te 1 G := by
  intro H enc W fuel cs d ps hh
  obtain ⟨x, g, r⟩ := h H enc W fuel cs d ps hh
  refine ⟨[x], rfl, fun y hy => ?_, ?_⟩
  · simp at hy; subst hy; exact g
  · simpa [hc] using r
theorem ra_arr {t e te n m : Nat} {G : U te → Prop} (ht : P.underlying t = some (.array n e)) (hn : P.cellsOf t = n * P.cellsOf e) (h : ReadsA P cd e te m G) : ReadsA P cd t te (n * m) G := by
  intro H enc W fuel cs d ps hh
  cases fuel with
  | zero => cases hh
  | succ fuel =>
    have key : cs.length = P.cellsOf t ∧ ∃ r, (List.range n).mapM (fun i => DataW.trod enc P W 0 (fun _ => true) true fuel e ((cs.drop (i * P.cellsOf e)).take (P.cellsOf e))) = some r := by
      simp only [DataW.trod, ht] at hh
      split at hh
      · rename_i hl
        refine ⟨hl, ?_⟩
        obtain ⟨r, hr, _⟩ := Option.map_eq_some_iff.1 hh
        exact ⟨r, hr⟩
      · cases hh
    obtain ⟨hl, r, hr⟩ := key
    have main : ∀ k, k ≤ n → ∃ l : List (U te), l.length = k * m ∧ (∀ x ∈ l, G x) ∧ RL P cd M0 (FW W) W (l.flatMap (cd.enc te)) (cs.take (k * P.cellsOf e)) := by
      intro k
      induction k with
      | zero => intro _; exact ⟨[], by simp, by simp, by simpa using RL.nil⟩
      | succ k ih =>
        intro hk
        obtain ⟨l, h1, h2, h3⟩ := ih (by omega)
        obtain ⟨y, hy⟩ := mapM_range hr k (by omega)
        obtain ⟨l', k1, k2, k3⟩ := h H enc W fuel _ y.1 y.2 hy
        refine ⟨l ++ l', by simp [h1, k1, Nat.add_mul], fun x hx => ?_, ?_⟩
        · rcases List.mem_append.1 hx with hx | hx
          · exact h2 x hx
          · exact k2 x hx
        · have e1 : cs.take ((k + 1) * P.cellsOf e) = cs.take (k * P.cellsOf e) ++ (cs.drop (k * P.cellsOf e)).take (P.cellsOf e) := by
            rw [Nat.add_mul, Nat.one_mul, List.take_add]
          rw [e1, List.flatMap_append]
          exact h3.append k3
    obtain ⟨l, h1, h2, h3⟩ := main n (Nat.le_refl n)
    refine ⟨l, h1, h2, ?_⟩
    rw [List.take_of_length_le (by omega)] at h3
    exact h3
theorem rd_arr (ok : CdOk P cd) {t te m : Nat} {G : U te → Prop} (h : ReadsA P cd t te m G) : Reads P cd t (cArr te m) fun l => l.length = m ∧ ∀ x ∈ l, G x := by
  intro H enc W fuel cs d ps hh
  obtain ⟨l, h1, h2, h3⟩ := h H enc W fuel cs d ps hh
  refine ⟨l, ⟨h1, h2⟩, ?_⟩
  have e1 : leaves cd (l.flatMap (cd.enc te)) = l.flatMap (cd.enc te) := leaves_plain fun c hc a b k e => by
    obtain ⟨x, _, hx⟩ := List.mem_flatMap.1 hc
    subst e
    have := ok.plain te x _ hx
    simp [plainC] at this
  have e2 : leaves cd ((cArr te m : Cdc U (List (U te))).enc l) = l.flatMap (cd.enc te) := by simp [cArr, leaves, leaf]
  refine ⟨fun t n k hk => ?_, ?_, fun j c v hc hv => ?_⟩
  · simp only [cArr, List.mem_singleton] at hk
    injection hk with a b c
    subst a; subst b; have c := eq_of_heq c; subst c
    exact h1
  · rw [e2]; have := h3.2.1; rw [e1] at this; exact this
  · rw [e2] at hc; exact h3.2.2 j c v (by rw [e1]; exact hc) hv
end
end Go.Ab
end
section
set_option linter.unusedSimpArgs false
namespace Go.Ab
variable {α β : Type}
/-- A loop that counts: from a state for each number, so many rounds on. -/
theorem lim_count {f : α → Option (α ⊕ β)} (s : Nat → α) (n : Nat) (h : ∀ i, i < n → f (s i) = some (.inl (s (i + 1)))) : ∀ i, i ≤ n → lim f (s i) = lim f (s n) := by
  intro i hi
  have key : ∀ k, k ≤ n → lim f (s (n - k)) = lim f (s n) := by
    intro k
    induction k with
    | zero => intro _; rfl
    | succ k ih =>
      intro hk
      rw [lim_next (h (n - (k + 1)) (by omega)), show n - (k + 1) + 1 = n - k by omega]
      exact ih (by omega)
  have := key (n - i) (by omega)
  rwa [show n - (n - i) = i by omega] at this
/-- A loop that looks through numbers for one that is not good. -/
theorem lim_scan {f : α → Option (α ⊕ β)} (s : Nat → α) (n : Nat) (p : Nat → Prop) (bad : Nat → β) (e : β) (h : ∀ i, i < n → p i → f (s i) = some (.inl (s (i + 1)))) (hb : ∀ i, i < n → ¬ p i → f (s i) = some (.inr (bad i))) (he : f (s n) = some (.inr e)) :
    ((∀ i, i < n → p i) ∧ lim f (s 0) = some e) ∨ ∃ i, i < n ∧ ¬ p i ∧ lim f (s 0) = some (bad i) := by
  have key : ∀ k, k ≤ n → ((∀ i, n - k ≤ i → i < n → p i) ∧ lim f (s (n - k)) = some e) ∨ ∃ i, i < n ∧ ¬ p i ∧ lim f (s (n - k)) = some (bad i) := by
    intro k
    induction k with
    | zero => intro _; exact .inl ⟨fun i h1 h2 => by omega, lim_done he⟩
    | succ k ih =>
      intro hk
      by_cases hp : p (n - (k + 1))
      · have hn := lim_next (h (n - (k + 1)) (by omega) hp)
        rw [show n - (k + 1) + 1 = n - k by omega] at hn
        rcases ih (by omega) with ⟨h1, h2⟩ | ⟨i, h1, h2, h3⟩
        · refine .inl ⟨fun i hi hlt => ?_, by rw [hn]; exact h2⟩
          rcases Nat.lt_or_ge i (n - k) with h' | h'
          · rw [show i = n - (k + 1) by omega]; exact hp
          · exact h1 i h' hlt
        · exact .inr ⟨i, h1, h2, by rw [hn]; exact h3⟩
      · exact .inr ⟨n - (k + 1), by omega, hp, lim_done (hb _ (by omega) hp)⟩
  rcases key n (Nat.le_refl n) with ⟨h1, h2⟩ | h
  · rw [Nat.sub_self] at h2; exact .inl ⟨fun i hi => h1 i (by omega) hi, h2⟩
  · rw [Nat.sub_self] at h; exact .inr h
end Go.Ab
end
