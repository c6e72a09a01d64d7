/- The bus. -/
import Derived.Test.YtfdndagnolbnhaaGreatYAbMore
import Derived.ChangeShapes
import Derived.Carry
import Derived.ShutString
import Derived.Test.YtfdndagnolbnhaaGreatYAbStr
import Derived.RangeFuncNested
import Derived.Test.YtfdndagnolbnhaaGreatYAbA18y
import Derived.Test.YtfdndagnolbnhaaGreatYAbVal18y
section
set_option linter.unusedSimpArgs false
namespace Go.Ab
variable {U : Nat → Type} {α β : Type}
abbrev M0 : Mp := fun _ => none
abbrev FW (W : World) : Nat → Prop := fun k => k < W.heap.size
def Reads (P : Program) (cd : Cd U) (t : Nat) (c : Cdc U α) (G : α → Prop) : Prop :=
  ∀ (H : Type) (enc : TypeId × Value → H) (W : World) (fuel : Nat) (cs : List Value) (d : DataW H) (ps : List MemPlace), DataW.trod enc P W 0 (fun _ => true) true fuel t cs = some (d, ps) → ∃ x, G x ∧ RL P cd M0 (FW W) W (c.enc x) cs
section
variable {P : Program} {cd : Cd U}
theorem z4b {t : Nat} (ht : P.underlying t = some .bool) : Reads P cd t z8 fun _ => True := by
  intro H enc W fuel cs d ps h
  cases fuel with
  | zero => cases h
  | succ fuel =>
    match cs with
    | [] => simp [DataW.trod, ht] at h
    | v :: w :: r => cases v <;> simp [DataW.trod, ht] at h
    | [v] =>
      cases v <;> simp [DataW.trod, ht] at h
      rename_i b
      exact ⟨b, trivial, .of1 (.bool b)⟩
theorem z2p {t : Nat} {k : IntKind} (ht : P.underlying t = some (.int k)) : Reads P cd t (cInt k) fun n => k.min ≤ n ∧ n ≤ k.max := by
  intro H enc W fuel cs d ps h
  cases fuel with
  | zero => cases h
  | succ fuel =>
    match cs with
    | [] => simp [DataW.trod, ht] at h
    | v :: w :: r => cases v <;> simp [DataW.trod, ht] at h
    | [v] =>
      cases v <;> simp [DataW.trod, ht] at h
      rename_i k' n
      obtain ⟨⟨rfl, hw⟩, _⟩ := h
      simp only [Lit.wf, Bool.and_eq_true, decide_eq_true_eq] at hw
      exact ⟨n, hw, .of1 (.int _ n)⟩
theorem z1ua {t : Nat} (ht : P.underlying t = some .string) : Reads P cd t cStr fun s => s.length ≤ maxLen := by
  intro H enc W fuel cs d ps h
  cases fuel with
  | zero => cases h
  | succ fuel =>
    match cs with
    | [] => simp [DataW.trod, ht] at h
    | v :: w :: r => cases v <;> simp [DataW.trod, ht] at h
    | [v] =>
      cases v <;> simp [DataW.trod, ht] at h
      rename_i s
      refine ⟨s.data.toList, by simpa using h.1, ?_⟩
      have := R1.str (P := P) (cd := cd) (M := M0) (Fz := FW W) (w := W) s.data.toList
      exact .of1 (by simpa using this)
def ReadsF (P : Program) (cd : Cd U) (fs : List Field) (o : Nat) (n : Nat) (c : Cdc U α) (G : α → Prop) : Prop :=
  ∀ (H : Type) (enc : TypeId × Value → H) (W : World) (fuel : Nat) (cs : List Value) (r : List (DataW H × List MemPlace)), fs.mapM (fun f => DataW.trod enc P W 0 (fun _ => true) true fuel f.type ((cs.drop f.offset).take (P.cellsOf f.type))) = some r →
    ∃ x, G x ∧ RL P cd M0 (FW W) W (c.enc x) ((cs.drop o).take n)
theorem zjr (o : Nat) : ReadsF P cd [] o 0 z1 fun _ => True := by
  intro H enc W fuel cs r h
  exact ⟨(), trivial, by rw [List.take_zero]; exact RL.nil⟩
theorem zw {f : Field} {fs : List Field} {o n m : Nat} {c : Cdc U α} {d : Cdc U β} {G : α → Prop} {K : β → Prop} (ho : f.offset = o) (hm : P.cellsOf f.type = m) (h1 : Reads P cd f.type c G) (h2 : ReadsF P cd fs (o + m) n d K) :
    ReadsF P cd (f :: fs) o (m + n) (z0 c d) fun x => G x.1 ∧ K x.2 := by
  intro H enc W fuel cs r h
  rw [List.mapM_cons] at h
  cases hx : DataW.trod enc P W 0 (fun _ => true) true fuel f.type ((cs.drop f.offset).take (P.cellsOf f.type)) with
  | none => rw [hx] at h; cases h
  | some y =>
    rw [hx] at h
    cases hr : fs.mapM (fun f => DataW.trod enc P W 0 (fun _ => true) true fuel f.type ((cs.drop f.offset).take (P.cellsOf f.type))) with
    | none => rw [hr] at h; cases h
    | some q =>
      obtain ⟨x, g1, r1⟩ := h1 H enc W fuel _ y.1 y.2 hx
      obtain ⟨z, g2, r2⟩ := h2 H enc W fuel cs q hr
      refine ⟨(x, z), ⟨g1, g2⟩, ?_⟩
      have e : (cs.drop o).take (m + n) = (cs.drop o).take m ++ (cs.drop (o + m)).take n := by
        rw [List.take_add, List.drop_drop]
      rw [e]
      rw [ho, hm] at r1
      exact r1.append r2
theorem zai {t n : Nat} {fs : Array Field} {c : Cdc U α} {G : α → Prop} {f : α → β} {g : β → α} (ht : P.underlying t = some (.struct fs)) (hn : P.cellsOf t = n) (h : ReadsF P cd fs.toList 0 n c G) (hg : ∀ x, g (f x) = x) : Reads P cd t (cMap f g c) fun x => G (g x) := by
  intro H enc W fuel cs d ps hh
  cases fuel with
  | zero => cases hh
  | succ fuel =>
    have key : cs.length = P.cellsOf t ∧ ∃ r, fs.toList.mapM (fun f => DataW.trod enc P W 0 (fun _ => true) true fuel f.type ((cs.drop f.offset).take (P.cellsOf f.type))) = some r := by
      simp only [DataW.trod, ht] at hh
      split at hh
      · rename_i hl
        refine ⟨hl, ?_⟩
        obtain ⟨r, hr, _⟩ := Option.map_eq_some_iff.1 hh
        exact ⟨r, hr⟩
      · cases hh
    obtain ⟨hl, r, hr⟩ := key
    obtain ⟨x, g1, r1⟩ := h H enc W fuel cs r hr
    refine ⟨f x, by show G (g (f x)); rw [hg]; exact g1, ?_⟩
    simp only [cMap, hg]
    rw [List.drop_zero, List.take_of_length_le (by omega)] at r1
    exact r1
theorem z10u {γ : Type} {f : Nat → Option γ} {n : Nat} {r : List γ} (h : (List.range n).mapM f = some r) : ∀ i, i < n → ∃ y, f i = some y := by
  have key : ∀ (l : List Nat) (r : List γ), l.mapM f = some r → ∀ i ∈ l, ∃ y, f i = some y := by
    intro l
    induction l with
    | nil => intro r _ i hi; simp at hi
    | cons a l ih =>
      intro r h i hi
      rw [List.mapM_cons] at h
      cases ha : f a with
      | none => rw [ha] at h; cases h
      | some y =>
        rw [ha] at h
        cases hl : l.mapM f with
        | none => rw [hl] at h; cases h
        | some q =>
          rcases List.mem_cons.1 hi with rfl | hi
          · exact ⟨y, ha⟩
          · exact ih q hl i hi
  exact fun i hi => key _ r h i (List.mem_range.2 hi)
theorem z1xb {γ : Type} {Q : Nat → γ → Prop} : ∀ n, (∀ i, i < n → ∃ x, Q i x) → ∃ l : List γ, l.length = n ∧ ∀ i x, l[i]? = some x → Q i x
  | 0, _ => ⟨[], rfl, fun i x h => by simp at h⟩
  | n + 1, h => by
    obtain ⟨l, h1, h2⟩ := z1xb n fun i hi => h i (by omega)
    obtain ⟨x, hx⟩ := h n (by omega)
    refine ⟨l ++ [x], by simp [h1], fun i y hy => ?_⟩
    rcases Nat.lt_or_ge i n with hi | hi
    · rw [List.getElem?_append_left (by omega)] at hy; exact h2 i y hy
    · rw [List.getElem?_append_right (by omega)] at hy
      have := (List.getElem?_eq_some_iff.1 hy).1
      simp at this
      have : i = n := by omega
      subst this
      rw [h1, Nat.sub_self] at hy
      simp at hy
      subst hy
      exact hx
theorem z1me {W : World} {a : Addr} {n : Nat} {cs : List Value} (h : W.cells? 0 a n = some cs) : ∀ j, j < n → ∃ v, W.cell? (a.add j) = some v ∧ cs[j]? = some v := by
  simp only [World.cells?, Nat.zero_le, if_true] at h
  intro j hj
  obtain ⟨v, hv⟩ := z10u h j hj
  refine ⟨v, hv, ?_⟩
  have key : ∀ (l : List Nat) (r : List Value), l.mapM (fun i => W.cell? (a.add i)) = some r → ∀ (i x : Nat), l[i]? = some x → r[i]? = W.cell? (a.add x) := by
    intro l
    induction l with
    | nil => intro r _ i x hi; simp at hi
    | cons b l ih =>
      intro r h i x hi
      rw [List.mapM_cons] at h
      cases ha : W.cell? (a.add b) with
      | none => rw [ha] at h; cases h
      | some y =>
        rw [ha] at h
        cases hl : l.mapM (fun i => W.cell? (a.add i)) with
        | none => rw [hl] at h; cases h
        | some q =>
          rw [hl] at h
          have h : some (y :: q) = some r := h
          injection h with h
          subst h
          cases i with
          | zero => simp at hi; subst hi; simp [ha]
          | succ i => simpa using ih q hl i x (by simpa using hi)
  rw [key _ _ h j j (by simp [hj])]
  exact hv
theorem zlg (ok : CdOk P cd) {t e : Nat} {c : Cdc U (U e)} {G : U e → Prop} (ht : P.underlying t = some (.slice e)) (he : Reads P cd e c G) (hc : ∀ x, cd.enc e x = c.enc x) (hs : 0 < P.cellsOf e) : Reads P cd t (cSl e) fun l => l.length ≤ maxLen ∧ ∀ x ∈ l, G x := by
  intro H enc W fuel cs d ps h
  cases fuel with
  | zero => cases h
  | succ fuel =>
    match cs with
    | [] => simp [DataW.trod, ht] at h
    | v :: w :: r => cases v <;> simp [DataW.trod, ht] at h
    | [v] =>
      have hv : v = .slice none 0 0 ∨ ∃ a len cap, v = .slice (some a) len cap ∧ len ≤ cap ∧ cap ≤ maxLen ∧ ∃ r, (List.range len).mapM (fun i => (W.cells? 0 (a.add (i * P.cellsOf e)) (P.cellsOf e)).bind (DataW.trod enc P W 0 (fun _ => true) true fuel e)) = some r := by
        cases v <;> try (simp [DataW.trod, ht] at h; done)
        rename_i a len cap
        cases a with
        | none =>
          left
          cases len <;> cases cap <;> first | rfl | (simp [DataW.trod, ht] at h; done)
        | some a =>
          right
          refine ⟨a, len, cap, rfl, ?_⟩
          simp only [DataW.trod, ht] at h
          split at h
          · rename_i hcond
            refine ⟨hcond.2.1, hcond.2.2, ?_⟩
            obtain ⟨r, hr, _⟩ := Option.bind_eq_some_iff.1 h
            exact ⟨r, hr⟩
          · cases h
      rcases hv with rfl | ⟨a, len, cap, rfl, h1, h2, r, hr⟩
      · exact ⟨[], ⟨Nat.zero_le _, fun x hx => by simp at hx⟩, .of1 (.sl e [] false none 0 (fun _ => undef) (fun e => by cases e) (Nat.le_refl _) (fun e => absurd rfl e) (fun j c hj => by simp at hj))⟩
      · obtain ⟨l, hl, hq⟩ := z1xb (Q := fun i x => G x ∧ ∃ ci, W.cells? 0 (a.add (i * P.cellsOf e)) (P.cellsOf e) = some ci ∧ RL P cd M0 (FW W) W (c.enc x) ci) len (fun i hi => by
          obtain ⟨y, hy⟩ := z10u hr i hi
          obtain ⟨ci, k1, k2⟩ := Option.bind_eq_some_iff.1 hy
          obtain ⟨x, g1, r1⟩ := he H enc W fuel ci y.1 y.2 k2
          exact ⟨x, g1, ci, k1, r1⟩)
        refine ⟨l, ⟨by omega, fun x hx => ?_⟩, ?_⟩
        · obtain ⟨i, hi⟩ := List.mem_iff_getElem?.1 hx
          exact (hq i x hi).1
        · subst hl
          -- each cell, by its element
          have cell : ∀ j cc, (l.flatMap (cd.enc e))[j]? = some cc → ∃ v, W.cell? ⟨a.block, a.off + j, none⟩ = some v ∧ a.spot = none ∧ R1 P cd M0 (FW W) W cc v := by
            intro j cc hj
            have hjl := (List.getElem?_eq_some_iff.1 hj).1
            rw [z1p ok] at hjl
            have hi : j / P.cellsOf e < l.length := (Nat.div_lt_iff_lt_mul hs).2 hjl
            have hmod := Nat.mod_lt j hs
            have hx := List.getElem?_eq_getElem hi
            obtain ⟨_, ci, k1, k2⟩ := hq _ _ hx
            have hlt : j % P.cellsOf e < (cd.enc e l[j / P.cellsOf e]).length := by rw [ok.len]; exact hmod
            have henc := List.getElem?_eq_getElem hlt
            have hat := z9y ok hx _ _ henc
            rw [show j / P.cellsOf e * P.cellsOf e + j % P.cellsOf e = j from Nat.div_add_mod' j (P.cellsOf e), hj] at hat
            injection hat with hat
            obtain ⟨v, e1, e2⟩ := z1me k1 (j % P.cellsOf e) hmod
            have hleaf : leaves cd (c.enc l[j / P.cellsOf e]) = cd.enc e l[j / P.cellsOf e] := by rw [← hc]; exact z1i ok _ _
            have hr1 := k2.2.2 (j % P.cellsOf e) cc v (by rw [hleaf, henc, hat]) e2
            have hadd : ∀ m k : Nat, (a.add m).add k = if m + k = 0 then a else ⟨a.block, a.off + (m + k), none⟩ := by
              intro m k
              unfold Addr.add
              by_cases hm : m = 0
              · by_cases hk : k = 0
                · simp [hm, hk]
                · simp [hm, hk]
              · by_cases hk : k = 0
                · simp [hm, hk]
                · simp [hm, hk]; omega
            rw [hadd, Nat.div_add_mod'] at e1
            obtain ⟨v0, f1, _⟩ := z1me (hq 0 _ (List.getElem?_eq_getElem (show 0 < l.length from Nat.lt_of_le_of_lt (Nat.zero_le _) hi))).2.choose_spec.1 0 hs
            have hspot : a.spot = none := by
              rw [hadd] at f1
              simp only [Nat.zero_mul, Nat.add_zero, if_true] at f1
              cases hsp : a.spot with
              | none => rfl
              | some q =>
                simp only [World.cell?, hsp, Option.isSome_some, if_true] at f1
                split at f1 <;> cases f1
            refine ⟨v, ?_, hspot, hr1⟩
            split at e1
            · rename_i hj0
              have : a = ⟨a.block, a.off + j, none⟩ := by cases a; simp at hspot; simp [hspot, hj0]
              rw [← this]; exact e1
            · exact e1
          refine .of1 (.sl e l false (some a) cap (fun j => (W.cell? ⟨a.block, a.off + j, none⟩).getD undef) (fun e => by cases e) h1 (fun hne => ?_) (fun j cc hj => ?_))
          · have h0 : 0 < l.length := by cases l; exact absurd rfl hne; simp
            have hlt0 : 0 < (l.flatMap (cd.enc e)).length := by rw [z1p ok]; exact Nat.mul_pos h0 hs
            have hx0 := List.getElem?_eq_getElem hlt0
            obtain ⟨v, e1, e2, _⟩ := cell 0 _ hx0
            refine ⟨a.block, a.off, by cases a; simp at e2; simp [at0, e2], World.block_lt_of_cell? W ⟨a.block, a.off + 0, none⟩ e1, fun j cc hj => ?_⟩
            obtain ⟨v, e1, _, _⟩ := cell j cc hj
            rw [show at0 a.block (a.off + j) = ⟨a.block, a.off + j, none⟩ from rfl, e1]
            rfl
          · obtain ⟨v, e1, _, e3⟩ := cell j cc hj
            rw [e1]
            exact e3
end
end Go.Ab
end
section
set_option linter.unusedSimpArgs false
namespace Go.Ab
open Go.ChangeShapes Go.RowKit
variable {U : Nat → Type} {α β : Type}
section
variable {P : Program} {cd : Cd U}
def oneTy (P : Program) (t : Nat) : Bool := match P.underlying t with
  | some .bool => true
  | some (.int _) => true
  | some .string => true
  | some (.slice _) => true
  | _ => false
theorem one_cell {W : World} {base t : Nat} {v : Value} (ht : oneTy P t = true) (h : Value.okWide P W .any base t v) : v.cells = #[v] := by
  unfold oneTy at ht
  unfold Value.okWide Cell.okWide Cell.ok at h
  split at ht
  · rename_i hu; rw [hu] at h; cases v <;> first | rfl | (simp at h; done)
  · rename_i k hu; rw [hu] at h; cases v <;> first | rfl | (simp at h; done)
  · rename_i hu; rw [hu] at h; cases v <;> first | rfl | (simp at h; done)
  · rename_i e hu; rw [hu] at h; cases v <;> first | rfl | (simp at h; done)
  · cases ht
theorem z21r {W : World} {base t : Nat} {v : Value} (ht : isAggB P t = true) (h : Value.okWide P W .any base t v) : ∃ a, v = .agg a := by
  unfold isAggB at ht
  unfold Value.okWide at h
  split at ht
  · rename_i fs hu; rw [hu] at h; obtain ⟨cs, rfl, _⟩ := h; exact ⟨cs, rfl⟩
  · rename_i n e hu; rw [hu] at h; obtain ⟨cs, rfl, _⟩ := h; exact ⟨cs, rfl⟩
  · cases ht
def ArgsRd (P : Program) (cd : Cd U) (ts : List Nat) (A : Arg U α) (G : α → Prop) : Prop :=
  ∀ (H : Type) (enc : TypeId × Value → H) (W : World) (base : Nat) (vs : List Value) (ds : List (DataW H)) (ps : List MemPlace), DataW.TrodAll enc P W 0 (fun _ => true) true ts vs ds ps → (∀ (j : Nat) t v, ts[j]? = some t → vs[j]? = some v → Value.okWide P W .any base t v) →
    ∃ x, G x ∧ RVs P cd M0 (FW W) W (A.enc x) vs
theorem z22k : ArgsRd P cd [] aNil fun _ => True := by
  intro H enc W base vs ds ps h _
  match vs, ds, h with
  | [], [], _ => exact ⟨(), trivial, rfl, fun j x v h => by simp [aNil] at h⟩
theorem z1wq {W : World} {x : V U} {xs : List (V U)} {v : Value} {vs : List Value} (h : RV P cd M0 (FW W) W x v) (k : RVs P cd M0 (FW W) W xs vs) : RVs P cd M0 (FW W) W (x :: xs) (v :: vs) := by
  refine ⟨by simp [k.1], fun j y u e1 e2 => ?_⟩
  cases j with
  | zero => simp at e1 e2; subst e1; subst e2; exact h
  | succ j => exact k.2 j y u (by simpa using e1) (by simpa using e2)
theorem z22j {t : Nat} {ts : List Nat} {c : Cdc U α} {A : Arg U β} {G : α → Prop} {K : β → Prop} (ht : isAggB P t = true) (h1 : Reads P cd t c G) (h2 : ArgsRd P cd ts A K) : ArgsRd P cd (t :: ts) (aA c A) fun x => G x.1 ∧ K x.2 := by
  intro H enc W base vs ds ps h hval
  match vs, ds, h with
  | v :: vs, d :: ds, h =>
    obtain ⟨p, q, ⟨fuel, hf⟩, hr, _⟩ := h
    obtain ⟨a, rfl⟩ := z21r ht (hval 0 t v rfl rfl)
    obtain ⟨x, g1, r1⟩ := h1 H enc W fuel _ d p hf
    obtain ⟨y, g2, r2⟩ := h2 H enc W base vs ds q hr fun j t' v' e1 e2 => hval (j + 1) t' v' (by simpa using e1) (by simpa using e2)
    exact ⟨(x, y), ⟨g1, g2⟩, z1wq ⟨a, rfl, r1⟩ r2⟩
theorem z22l {t : Nat} {ts : List Nat} {c : Cdc U α} {A : Arg U β} {G : α → Prop} {K : β → Prop} (ht : oneTy P t = true) (hc : ∀ x, ∃ y, c.enc x = [y] ∧ ∀ a b l, y ≠ .arr a b l) (h1 : Reads P cd t c G) (h2 : ArgsRd P cd ts A K) : ArgsRd P cd (t :: ts) (aO c A) fun x => G x.1 ∧ K x.2 := by
  intro H enc W base vs ds ps h hval
  match vs, ds, h with
  | v :: vs, d :: ds, h =>
    obtain ⟨p, q, ⟨fuel, hf⟩, hr, _⟩ := h
    have hv := one_cell ht (hval 0 t v rfl rfl)
    obtain ⟨x, g1, r1⟩ := h1 H enc W fuel _ d p hf
    obtain ⟨y, g2, r2⟩ := h2 H enc W base vs ds q hr fun j t' v' e1 e2 => hval (j + 1) t' v' (by simpa using e1) (by simpa using e2)
    refine ⟨(x, y), ⟨g1, g2⟩, z1wq ?_ r2⟩
    obtain ⟨z, hz, hza⟩ := hc x
    rw [hv, hz] at r1
    obtain ⟨u, hu, hr⟩ := r1.single hza
    have hu : [v] = [u] := hu
    injection hu with hu
    subst hu
    simp only [vO, hz]
    exact hr
theorem z221 {W : World} {g j : Nat} {y : Value} (h : W.cell? (at0 g j) = some y) : g < W.heap.size := by
  rcases Nat.lt_or_ge g W.heap.size with h1 | h1
  · exact h1
  · unfold World.cell? at h
    rw [show W.heap[(at0 g j).block]? = none from Array.getElem?_eq_none h1] at h
    cases h
theorem hr0 (W : World) (hgl : ∀ g j y, (cd.gl g)[j]? = some y → W.cell? (at0 g j) = some y) : HR P cd M0 (FW W) [] W :=
  ⟨(fun b x h => by simp at h), (fun _ _ => rfl), (fun b b' i i' k h => by cases h), (fun b i k h => by cases h), ⟨fun k hk => hk, fun g j y e => ⟨z221 (hgl g j y e), hgl g j y e⟩⟩, (fun b i k h => by cases h)⟩
theorem z20l {W W' : World} {d : D U} {hp : List (Blk U)} {v : Value} (h : Post P cd M0 (FW W) W d hp v W') : Below W.heap.size W W' := by
  obtain ⟨M', F', _, _, _, h4, h5, _, _⟩ := h
  exact ⟨h5.os, h5.tape, h5.output, h5.size, fun k hk => (h4 k hk).2⟩
theorem z21v {W W' : World} {hp : List (Blk U)} {v : Value} {b : Bool} (h : Post P cd M0 (FW W) W (.v (.one (.bool b))) hp v W') : v = .bool b := by
  obtain ⟨M', F', h, _⟩ := h
  have h : R1 P cd M' F' W' _ v := h
  cases h
  rfl
theorem stay {H : Type} {enc : TypeId × Value → H} (hl : laidOutB P = true) {W W' : World} (hb : Below W.heap.size W W') : ∀ {ts : List Nat} {vs : List Value} {ds : List (DataW H)} {ps : List MemPlace}, (∀ t ∈ ts, P.readableRec t = true ∧ t < P.types.size) →
    DataW.TrodAll enc P W 0 (fun _ => true) true ts vs ds ps → (∀ x ∈ ps, x.block < W.heap.size) → DataW.TrodAll enc P W' 0 (fun b => decide (b < W.heap.size)) true ts vs ds ps
  | [], [], [], _, _, h, _ => h
  | t :: ts, v :: vs, d :: ds, ps, ht, h, hlt => by
    obtain ⟨p, q, h1, h2, rfl⟩ := h
    exact ⟨p, q, Below.trod hl (ht t (by simp)).1 (ht t (by simp)).2 h1 hb fun x hx => hlt x (by simp [hx]), stay hl hb (fun t' h' => ht t' (by simp [h'])) h2 fun x hx => hlt x (by simp [hx]), rfl⟩
theorem z211 {f : Nat} {A : Arg U α} {F : α → Unit → Option Bool} {out : Bool → List (V U) × List (Blk U)} (ho : ∀ b, out b = ([.one (.bool b)], [])) (hA : ∀ x, A.dec (A.enc x) = some x) (ok : FnOk P cd f (zf A bNil F out)) {W : World} {x : α} {vs : List Value}
    (hr : RVs P cd M0 (FW W) W (A.enc x) vs) (hF : F x () = some true) (hgl : ∀ g j y, (cd.gl g)[j]? = some y → W.cell? (at0 g j) = some y := by exact fun g j y h => by cases (show (none : Option Value) = some y from h)) : Calls P f vs.toArray W fun e W' => e = .returned (.bool true) ∧ Below W.heap.size W W' := by
  have hs : zf A bNil F out (A.enc x) [] = some ⟨Bool, F x (), fun y => .leaf (out y)⟩ := by
    unfold zf
    rw [hA]
    rfl
  obtain ⟨fn, _, _, _, hc⟩ := ok M0 (FW W) W [] _ vs (hr0 W hgl) hr _ hs true hF (out true) rfl
  refine hc.mono fun e W' ⟨v, he, hp⟩ => ?_
  subst he
  have hp : Post P cd M0 (FW W) W (resD (out true).1) (out true).2 v W' := hp
  rw [ho] at hp
  exact ⟨by rw [z21v hp], z20l hp⟩
end
end Go.Ab
end
section
set_option linter.unusedSimpArgs false
set_option linter.unusedVariables false
namespace Go.Ab
open Go.RowKit
variable {U : Nat → Type}
def noMp : C U → Bool
  | .bool _ => true
  | .int _ _ => true
  | .str _ => true
  | .sl _ _ _ => true
  | .nilp => true
  | _ => false
def NoMpE : {l : List (Nat × Type)} → Ents U l → Prop
  | _, .nil => True
  | _, .cons e r => (∀ x, (e.c.enc x).all noMp = true) ∧ NoMpE r
theorem NoMpE.get : {l : List (Nat × Type)} → (es : Ents U l) → NoMpE es → ∀ t e, es.get t = some e → ∀ x, (e.c.enc x).all noMp = true
  | _, .nil, _, t, e, h => by cases h
  | _, .cons (k := k) (α := α) (l := l) e0 r, ho, t, e, h => by
    have key : ∀ (b : Bool) (e : Ent U (match b with | true => α | false => findT l t)), pickE e0 (r.get t) b = some e → ∀ x, (e.c.enc x).all noMp = true := by
      intro b e h
      cases b with
      | true =>
        have h : some e0 = some e := h
        injection h with h
        subst h
        exact ho.1
      | false =>
        have h : r.get t = some e := h
        exact NoMpE.get r ho.2 t e h
    exact key _ e h
theorem z22b {l : List (Nat × Type)} {es : Ents (findT l) l} (h : NoMpE es) (gl : Nat → List Value) : ∀ t x, ((cdOf es gl).enc t x).all noMp = true := by
  intro t x
  simp only [cdOf]
  cases he : es.get t with
  | none => rfl
  | some e => exact NoMpE.get es h t e he x
section
variable {P : Program} {cd : Cd U} {Fz Fz' : Nat → Prop} {w w' : World}
theorem R1.cells {M M' : Mp} {c : C U} {v : Value} (hm : ∀ t x, (cd.enc t x).all noMp = true) (h : R1 P cd M Fz w c v) (hc : noMp c = true) (hw : ∀ a u, w.cell? a = some u → w'.cell? a = some u) : R1 P cd M' Fz w' c v := by
  induction h with
  | bool b => exact .bool b
  | int k n => exact .int k n
  | str s => exact .str s
  | nilp => exact .nilp
  | sl t l full a cap f h1 h0 h2 _ ih =>
    refine .sl t l full a cap f h1 h0 (fun hl => ?_) (fun j c hj => ih j c hj ?_)
    · obtain ⟨k, o, ha, hk, hcs⟩ := h2 hl
      exact ⟨k, o, ha, hk, fun j c hj => hw _ _ (hcs j c hj)⟩
    · obtain ⟨x, _, hx⟩ := List.mem_flatMap.1 (List.mem_of_getElem? hj)
      exact List.all_eq_true.1 (hm t x) c hx
  | unk v => cases hc
  | skp => cases hc
  | kb b => cases hc
  | nils => cases hc
  | row b v pos t ver len cap val h1 h2 h3 h4 => cases hc
  | own b v lo n pos t ver len cap val h1 h2 h3 h4 => cases hc
  | ptr b o k h1 => cases hc
  | elp b v i sub pos t ver len cap val h1 h2 h3 h4 => cases hc
  | ap b o t i sub k h1 => cases hc
  | asl b o t n k cap h1 h2 => cases hc
  | gp g o => cases hc
  | xp t x sub k o f h1 h2 h3 => cases hc
  | fn f a c g h h1 h2 => cases hc
  | mp l r es ck h1 h2 h3 h4 => cases hc
theorem RL.cells {M M' : Mp} {cs : List (C U)} {vs : List Value} (hm : ∀ t x, (cd.enc t x).all noMp = true) (h : RL P cd M Fz w cs vs) (hc : (leaves cd cs).all noMp = true) (hw : ∀ a u, w.cell? a = some u → w'.cell? a = some u) : RL P cd M' Fz w' cs vs :=
  ⟨h.1, h.2.1, fun j c v h1 h2 => (h.2.2 j c v h1 h2).cells hm (List.all_eq_true.1 hc c (List.mem_of_getElem? h1)) hw⟩
theorem FzOk.cells (h : FzOk cd Fz w) (hs : w.heap.size ≤ w'.heap.size) (hw : ∀ a u, w.cell? a = some u → w'.cell? a = some u) : FzOk cd Fz w' :=
  ⟨fun k hk => Nat.lt_of_lt_of_le (h.lt k hk) hs, fun g j y e => ⟨(h.gl g j y e).1, hw _ _ (h.gl g j y e).2⟩⟩
theorem z1vf {row : Option Nat} (hg : w.grownBy w' row) (hr : ∀ r, row = some r → ∃ o : Obj, w.heap[r]? = some o ∧ o.isCells = false) : ∀ a u, w.cell? a = some u → w'.cell? a = some u := fun a u h => cell_kept h hg hr
theorem z1dd (hb : Below w.heap.size w w') : ∀ a u, w.cell? a = some u → w'.cell? a = some u := fun a u h => by
  have hlt : a.block < w.heap.size := by
    unfold World.cell? at h
    split at h
    · rename_i h1; exact (Array.getElem?_eq_some_iff.1 h1).1
    · cases h
  unfold World.cell? at h ⊢
  rw [hb.block _ hlt]; exact h
theorem z1x9 (h : FzOk cd Fz w) : HR P cd M0 Fz [] w :=
  ⟨(fun b x h => by simp at h), (fun _ _ => rfl), (fun b b' i i' k h => by cases h), (fun b i k h => by cases h), h, (fun b i k h => by cases h)⟩
theorem z1xe {M : Mp} (h : HR P cd M Fz [] w) : M = M0 := funext fun b => h.out b (Nat.zero_le _)
theorem call0 {α β : Type} {f : Nat} {A : Arg U α} {F : α → Unit → Option β} {out : β → List (V U) × List (Blk U)} (ok : FnOk P cd f (zf A bNil F out)) {x : α} (hA : A.dec (A.enc x) = some x) {y : β} (hF : F x () = some y) (ho : (out y).2 = [])
    (hfz : FzOk cd Fz w) {vs : List Value} (hr : RVs P cd M0 Fz w (A.enc x) vs) :
    Calls P f vs.toArray w fun e w' => ∃ v Fz', e = .returned v ∧ RD P cd M0 Fz' w' (resD (out y).1) v ∧ FzOk cd Fz' w' ∧ Frz Fz w Fz' w' ∧ Below w.heap.size w w' ∧ ∀ k, Fz' k → Fz k ∨ w.heap.size ≤ k := by
  have hs : zf A bNil F out (A.enc x) [] = some ⟨β, F x (), fun y => .leaf (out y)⟩ := by
    unfold zf
    rw [hA]
    rfl
  obtain ⟨fn, _, _, _, hc⟩ := ok M0 Fz w [] _ vs (z1x9 hfz) hr _ hs y hF (out y) rfl
  refine hc.mono fun e w' ⟨v, he, M', F', h1, h2, h3, h4, h5, h6, h7⟩ => ?_
  rw [ho] at h2
  obtain rfl := z1xe h2
  refine ⟨v, F', he, h1, h2.fz, h4, ⟨h5.os, h5.tape, h5.output, h5.size, fun k hk => h5.old k hk (fun ⟨b, i, hb, _⟩ => by cases hb)⟩, fun k hk => ?_⟩
  rcases h7 k hk with h | ⟨b, i, hb, _⟩ | h
  · exact .inl h
  · cases hb
  · exact .inr h
def Mk (k : Nat) : Mp := fun b => if b = 0 then some (.cells k) else none
theorem z22u (h : FzOk cd Fz w) {k t : Nat} {v : Value} {c : C U} (hb : Boxed w k t v) (hk : ¬ Fz k) (hl : RL P cd (Mk k) Fz w [c] [v]) : HR P cd (Mk k) Fz [.cells [c] (some t)] w := by
  have hM : ∀ b i, Mk k b = some i → b = 0 ∧ i = .cells k := fun b i hb => by
    unfold Mk at hb
    split at hb
    · injection hb with hb; exact ⟨‹_›, hb.symm⟩
    · cases hb
  refine ⟨fun b x hx => ?_, fun b hb => ?_, fun b b' i i' j h1 h2 _ _ => (hM b i h1).1.trans (hM b' i' h2).1.symm, fun b i j h1 h2 => ?_, h, fun b i j h1 h2 => ?_⟩
  · cases b with
    | zero =>
      obtain rfl : x = .cells [c] (some t) := by simpa using hx.symm
      exact ⟨k, #[v], ⟨t, fun T e => by injection e⟩, rfl, hb, hl⟩
    | succ b => simp at hx
  · have hb : 1 ≤ b := hb
    unfold Mk; rw [if_neg (by omega)]
  · obtain ⟨_, rfl⟩ := hM b i h1
    have h2 : some k = some j := h2
    injection h2 with h2
    rw [← h2]; exact hk
  · obtain ⟨_, rfl⟩ := hM b i h1
    have h2 : some k = some j := h2
    injection h2 with h2
    rw [← h2]; exact hb.lt
theorem call1 {α β γ : Type} {f : Nat} {A : Arg U α} {G : Bls U γ} {F : α → γ → Option β} {out : α → γ → β → List (V U) × List (Blk U)} (ok : FnOk P cd f (mkSpecG A G F out)) {x : α} {g : γ} (hA : A.dec (A.enc x) = some x) {c : C U} {k t : Nat} (hG : G.dec [.cells [c] (some t)] = some g) {y : β} (hF : F x g = some y)
    (h2 : (out x g y).2 = [.cells [c] (some t)])
    (hfz : FzOk cd Fz w) {v : Value} (hb : Boxed w k t v) (hk : ¬ Fz k) (hl : RL P cd (Mk k) Fz w [c] [v]) (hdet : ∀ M F w u, RL P cd M F w [c] u → u = [v])
    {vs : List Value} (hr : RVs P cd (Mk k) Fz w (A.enc x) vs) :
    Calls P f vs.toArray w fun e w' => ∃ u Fz', e = .returned u ∧ RD P cd (Mk k) Fz' w' (resD (out x g y).1) u ∧ FzOk cd Fz' w' ∧ Frz Fz w Fz' w' ∧ Below w.heap.size w w' ∧ (∀ j, Fz' j → Fz j ∨ w.heap.size ≤ j) := by
  have hs : mkSpecG A G F out (A.enc x) [.cells [c] (some t)] = some ⟨β, F x g, fun y => .leaf (out x g y)⟩ := by
    unfold mkSpecG
    rw [hA, hG]
  obtain ⟨fn, _, _, _, hc⟩ := ok (Mk k) Fz w _ _ vs (z22u hfz hb hk hl) hr _ hs y hF (out x g y) rfl
  refine hc.mono fun e w' ⟨u, he, M', F', h1, hh, h3, h4, h5, h6, h7⟩ => ?_
  rw [h2] at hh
  have hM0 : M' 0 = some (.cells k) := by
    obtain ⟨i', hi, hle⟩ := h3 0 (.cells k) rfl
    cases hle
    exact hi
  have hMM : M' = Mk k := funext fun b => by
    cases b with
    | zero => exact hM0
    | succ b => rw [hh.out (b + 1) (by simp)]; rfl
  subst hMM
  obtain ⟨k', arr, e', q1, q2, q3⟩ := hh.blk 0 _ rfl
  have q1 : some (Inf.cells k) = some (Inf.cells k') := q1
  injection q1 with q1
  injection q1 with q1
  subst q1
  have harr := hdet _ _ _ _ q3
  have harr : arr = #[v] := by
    have : arr.toList = (#[v] : Array Value).toList := harr
    exact Array.toList_inj.1 this
  have ht : e'.1 = t := e'.2 t rfl
  rw [harr, ht] at q2
  have hheld : ∀ j, Held (Mk k) j → j = k := fun j ⟨b, i, hb, hi⟩ => by
    unfold Mk at hb
    split at hb
    · injection hb with hb
      rw [← hb] at hi
      have hi : some k = some j := hi
      injection hi with hi
      exact hi.symm
    · cases hb
  refine ⟨u, F', he, h1, hh.fz, h4, ⟨h5.os, h5.tape, h5.output, h5.size, fun j hj => ?_⟩, fun j hj => ?_⟩
  · by_cases hjk : j = k
    · subst hjk
      exact q2.trans (show w.heap[j]? = _ from hb).symm
    · exact h5.old j hj fun hh => hjk (hheld j hh)
  · rcases h7 j hj with h | h | h
    · exact .inl h
    · have := hheld j h
      subst this
      exact absurd hj (hh.apart 0 _ j rfl rfl)
    · exact .inr h
end
end Go.Ab
end
section
set_option linter.unusedVariables false
namespace Go.Proofs.YtfdndagnolbnhaaGreat
open Go Go.RowKit Go.Ab
theorem zyk : ∀ t x, (cd.enc t x).all noMp = true := z22b (es := ents) (by repeat (first | exact True.intro | refine ⟨fun x => by kernel_rfl, ?_⟩)) _
theorem zmf (x : Machine) : zj.enc x = [.arr 3 6 x.cpu.r, .arr 3 2 x.cpu.sP, .int .i64 x.cpu.pC, .int .i64 x.cpu.pSW, .sl 3 x.mem false, .sl 3 x.bad false, .bool x.mmu.on, .arr 28 16 x.mmu.pages, .int .i64 x.mmu.status, .int .i64 x.mmu.addr,
    .bool x.clock.enable, .bool x.clock.ready, .int .i64 x.clock.period, .int .i64 x.clock.left, .sl 55 x.lines false, .sl 9 x.disk.drive.sectors false, .sl 3 x.disk.drive.bad false, .bool x.disk.enable, .bool x.disk.ready, .bool x.disk.error, .int .i64 x.disk.command, .int .i64 x.disk.words, .int .i64 x.disk.addr, .int .i64 x.disk.start, .int .i64 x.disk.left,
    .sl 9 x.tape.records false, .int .i64 x.tape.pos, .bool x.tape.enable, .bool x.tape.ready, .bool x.tape.error, .bool x.tape.mark, .bool x.tape.end_, .int .i64 x.tape.command, .int .i64 x.tape.count, .int .i64 x.tape.addr, .int .i64 x.tape.left, .int .i64 x.now, .bool x.halted, .bool x.waiting, .int .i64 x.power, .bool x.powerTrap] := by kernel_rfl
theorem z1dy (t : Nat) (l : List (U t)) : (l.flatMap (cd.enc t)).all noMp = true := by
  rw [List.all_eq_true]
  intro c hc
  obtain ⟨y, _, h⟩ := List.mem_flatMap.1 hc
  exact List.all_eq_true.1 (zyk t y) c h
theorem zmi (x : Machine) : (leaves cd (zj.enc x)).all noMp = true := by
  rw [zmf]
  have f1 : (List.flatMap (cd.enc 3) x.cpu.r).all noMp = true := z1dy 3 x.cpu.r
  have f2 : (List.flatMap (cd.enc 3) x.cpu.sP).all noMp = true := z1dy 3 x.cpu.sP
  have f3 : (List.flatMap (cd.enc 28) x.mmu.pages).all noMp = true := z1dy 28 x.mmu.pages
  simp only [leaves, leaf, List.flatMap_cons, List.flatMap_nil, List.all_append, f1, f2, f3, Bool.true_and, Bool.and_true, List.all_cons, List.all_nil, noMp]
theorem z8c (t : Nat) (l : List (U t)) : (l.flatMap (cd.enc t)).length = l.length * Tryz.prog.cellsOf t := by
  induction l with
  | nil => simp
  | cons a l ih => rw [List.flatMap_cons, List.length_append, ih, zg.len, List.length_cons, Nat.succ_mul]; omega
theorem z8c' (t : Nat) (l : List (U t)) (n k : Nat) (hl : l.length = n) (hc : Tryz.prog.cellsOf t = k) : (l.flatMap (cd.enc t)).length = n * k := by rw [z8c, hl, hc]
def IsM (Fz : Nat → Prop) (W : World) (x : Machine) (cs : Array Value) : Prop := RL Tryz.prog cd M0 Fz W (zj.enc x) cs.toList
theorem IsM.size {Fz : Nat → Prop} {W : World} {x : Machine} {cs : Array Value} (h : IsM Fz W x cs) : cs.size = 110 := by
  have h1 := h.2.1
  have ha : ∀ t n l, C.arr t n l ∈ zj.enc x → l.length = n := h.1
  rw [zmf] at ha h1
  have a1 := ha 3 6 x.cpu.r (by simp)
  have a2 := ha 3 2 x.cpu.sP (by simp)
  have a3 := ha 28 16 x.mmu.pages (by simp)
  have c3 : Tryz.prog.cellsOf 3 = 1 := by kernel_rfl
  have c28 : Tryz.prog.cellsOf 28 = 4 := by kernel_rfl
  have f1 : (List.flatMap (cd.enc 3) x.cpu.r).length = 6 := z8c' 3 x.cpu.r 6 1 a1 c3
  have f2 : (List.flatMap (cd.enc 3) x.cpu.sP).length = 2 := z8c' 3 x.cpu.sP 2 1 a2 c3
  have f3 : (List.flatMap (cd.enc 28) x.mmu.pages).length = 64 := z8c' 28 x.mmu.pages 16 4 a3 c28
  simp only [leaves, leaf, List.flatMap_cons, List.flatMap_nil, List.length_append, f1, f2, f3, List.length_cons, List.length_nil, Array.length_toList] at h1
  omega
noncomputable def tickD (q : Option Nat) (d : Dev) (x : Machine) : Option Machine := match d with
  | .clock _ => z7f x ()
  | .disk _ => z7y q x
  | .tape _ => z7z q x
  | .line i _ => zc8 x (i : Int)
def Turned (Fz : Nat → Prop) (W : World) (y : Machine) (e : Ending) (W' : World) : Prop :=
  ∃ cs' Fz', e = .returned (.agg cs') ∧ IsM Fz' W' y cs' ∧ FzOk cd Fz' W' ∧ Frz Fz W Fz' W' ∧ Below W.heap.size W W' ∧ ∀ j, Fz' j → Fz j ∨ W.heap.size ≤ j
theorem ext0 (k : Nat) : Ext M0 (Mk k) := fun b i h => by cases h
theorem zv3 {Fz Fz' : Nat → Prop} {W W' : World} {M : Mp} {y : Machine} {e : Ending} {u : Value} {cs : List (C U)} (hcs : cs = zj.enc y) (he : e = .returned u) (hr : RV Tryz.prog cd M Fz' W' (.agg cs) u) (h1 : FzOk cd Fz' W') (h2 : Frz Fz W Fz' W') (h3 : Below W.heap.size W W') (h4 : ∀ j, Fz' j → Fz j ∨ W.heap.size ≤ j) : Turned Fz W y e W' := by
  obtain ⟨a, rfl, hl⟩ := hr
  subst hcs
  exact ⟨a, Fz', he, RL.cells zyk hl (zmi y) (fun _ _ h => h), h1, h2, h3, h4⟩
theorem z22q {f : Nat} {M : Mp} {F : Nat → Prop} {w : World} {u : List Value} (h : RL Tryz.prog cd M F w [.fn f [] []] u) : u = [fn0 f] := by
  obtain ⟨_, h1, h2⟩ := h
  match u, h1 with
  | [v], _ =>
    have h3 : R1 Tryz.prog cd M F w (.fn f [] []) v := h2 0 _ v rfl rfl
    cases h3
    rfl
theorem z229 {n : Int} {M : Mp} {F : Nat → Prop} {w : World} {u : List Value} (h : RL Tryz.prog cd M F w [.int .i64 n] u) : u = [.int .i64 n] := by
  obtain ⟨_, h1, h2⟩ := h
  match u, h1 with
  | [v], _ =>
    have h3 : R1 Tryz.prog cd M F w (.int .i64 n) v := h2 0 _ v rfl rfl
    cases h3
    rfl
theorem z1zv {c : C U} {v : Value} {M : Mp} {F : Nat → Prop} {w : World} (hok : okA [c]) (hl : leaves cd [c] = [c]) (h : R1 Tryz.prog cd M F w c v) : RL Tryz.prog cd M F w [c] [v] := by
  refine ⟨hok, by rw [hl]; rfl, fun j c' v' h1 h2 => ?_⟩
  rw [hl] at h1
  cases j with
  | zero =>
    have h1 : c' = c := by simpa using h1.symm
    have h2 : v' = v := by simpa using h2.symm
    subst h1; subst h2; exact h
  | succ j => simp at h1
theorem z234 (f : Nat) (M : Mp) (F : Nat → Prop) (w : World) : RL Tryz.prog cd M F w [.fn f [] []] [fn0 f] :=
  z1zv (fun t n l h => by simp at h) rfl (R1.fn f [] [] (fun _ => undef) (fun _ => undef) (fun j x h => by simp at h) (fun j x h => by simp at h))
theorem z22v (n : Int) (M : Mp) (F : Nat → Prop) (w : World) : RL Tryz.prog cd M F w [.int .i64 n] [.int .i64 n] :=
  z1zv (fun t n l h => by simp at h) rfl (R1.int _ _)
theorem z1z1 {Fz : Nat → Prop} {W : World} {x : Machine} {cs : Array Value} (h : IsM Fz W x cs) : RVs Tryz.prog cd M0 Fz W [.agg (zj.enc x)] [.agg cs] :=
  ⟨rfl, fun j y v h1 h2 => by
    cases j with
    | zero =>
      obtain rfl : y = .agg (zj.enc x) := by simpa using h1.symm
      obtain rfl : v = .agg cs := by simpa using h2.symm
      exact ⟨cs, rfl, h⟩
    | succ j => simp at h1⟩
theorem z1wr {Fz : Nat → Prop} {W : World} {x : Machine} {cs : Array Value} {b : Nat} (h : IsM Fz W x cs) : RVs Tryz.prog cd (Mk b) Fz W [.agg (zj.enc x), .one (.ptr 0 0)] [.agg cs, pt b] :=
  ⟨rfl, fun j y v h1 h2 => by
    match j with
    | 0 =>
      obtain rfl : y = .agg (zj.enc x) := by simpa using h1.symm
      obtain rfl : v = .agg cs := by simpa using h2.symm
      exact ⟨cs, rfl, RL.mono h (ext0 b) (.refl _ _)⟩
    | 1 =>
      obtain rfl : y = .one (.ptr 0 0) := by simpa using h1.symm
      obtain rfl : v = pt b := by simpa using h2.symm
      exact R1.ptr 0 0 b rfl
    | j + 2 => simp at h1⟩
theorem z20b (d : Dev) {Fz : Nat → Prop} {W : World} {x y : Machine} {cs : Array Value} (hl : d.lies W) (hfz : FzOk cd Fz W) (hcap : ¬ Fz d.cap) (hm : IsM Fz W x cs) (hF : tickD none d x = some y) :
    ∃ f cap, d.fs[0]? = some (.func (.func f) #[] cap) ∧ Calls Tryz.prog f (#[.agg cs] ++ cap) W (Turned Fz W y) := by
  cases d with
  | clock b =>
    refine ⟨117, #[pt b], rfl, (call1 z1ee (x := (x, ())) (g := ((), ())) (by kernel_rfl) (c := .fn 116 [] []) (t := 159) (by kernel_rfl) hF rfl hfz hl hcap (z234 116 _ _ _) (fun _ _ _ _ h => z22q h) (z1wr hm)).mono ?_⟩
    rintro e W' ⟨u, F', he, h1, h2, h3, h4, h5⟩
    exact zv3 (by kernel_rfl) he h1 h2 h3 h4 h5
  | disk b =>
    refine ⟨126, #[], rfl, (call0 ztq (x := (x, ())) (by kernel_rfl) hF rfl hfz (z1z1 hm)).mono ?_⟩
    rintro e W' ⟨u, F', he, h1, h2, h3, h4, h5⟩
    exact zv3 rfl he h1 h2 h3 h4 h5
  | tape b =>
    refine ⟨135, #[], rfl, (call0 ztr (x := (x, ())) (by kernel_rfl) hF rfl hfz (z1z1 hm)).mono ?_⟩
    rintro e W' ⟨u, F', he, h1, h2, h3, h4, h5⟩
    exact zv3 rfl he h1 h2 h3 h4 h5
  | line i b =>
    refine ⟨143, #[pt b], rfl, (call1 z1ie (x := (x, ())) (g := ((i : Int), ())) (by kernel_rfl) (c := .int .i64 (i : Int)) (t := 3) (by kernel_rfl) hF rfl hfz hl hcap (z22v _ _ _ _) (fun _ _ _ _ h => z229 h) (z1wr hm)).mono ?_⟩
    rintro e W' ⟨u, F', he, h1, h2, h3, h4, h5⟩
    exact zv3 (by kernel_rfl) he h1 h2 h3 h4 h5
end Go.Proofs.YtfdndagnolbnhaaGreat
end
section
set_option linter.unusedVariables false
namespace Go.Proofs.YtfdndagnolbnhaaGreat
open Go Go.RowKit Go.Ab
noncomputable def tickK (q : Option Nat) (d : Kind) (x : Machine) : Option Machine := match d with
  | .clock => z7f x ()
  | .disk => z7y q x
  | .tape => z7z q x
  | .line i => zc8 x (i : Int)
theorem z1yr (q : Option Nat) (d : Dev) (x : Machine) : tickD q d x = tickK q d.kind x := by cases d <;> rfl
noncomputable def runK (f : Kind → Machine → Option Machine) : List Kind → Machine → Option Machine
  | [], x => some x
  | d :: ds, x => (f d x).bind (runK f ds)
theorem z115 (f : Kind → Machine → Option Machine) (a b : List Kind) (x : Machine) : runK f (a ++ b) x = (runK f a x).bind (runK f b) := by
  induction a generalizing x with
  | nil => rfl
  | cons d a ih =>
    simp only [List.cons_append, runK]
    cases f d x with
    | none => rfl
    | some y => exact ih y
def Sure (f : Kind → Machine → Option Machine) (ks : List Kind) (x : Machine) : Prop := ∃ V : Machine → Prop, V x ∧ ∀ d ∈ ks, ∀ z, V z → ∃ z', f d z = some z' ∧ V z'
open Classical in
noncomputable def zl3 (q : Option Nat) (x : Machine) : Option Machine :=
  if x.lines.length ≤ 100 ∧ Sure (tickK none) (kindsOf x.lines.length false) x then runK (tickK q) (kindsOf x.lines.length false) x else none
noncomputable def z1m5 : List (V U) → List (Blk U) → Option (FnOut U) := zf (aA zj aNil) bNil (fun x _ => zl3 none x.1) (fun r => ([vA zj r], []))
theorem z228 {α β : Type} {f : Nat} {A : Arg U α} {F : α → Option β} {R : β → List (V U)} (hA : A.Ok) {fn : Func} (hf : Tryz.prog.funcs[f]? = some fn) (hn : (fn.name == "runtime.NumGoroutine") = false) (hb : fn.body.isSome = true)
    (h : ∀ (Fz : Nat → Prop) (W : World) (x : α) (y : β) (vs : List Value), FzOk cd Fz W → RVs Tryz.prog cd M0 Fz W (A.enc x) vs → F x = some y → Calls Tryz.prog f vs.toArray W fun e W' => ∃ v Fz', e = .returned v ∧ RD Tryz.prog cd M0 Fz' W' (resD (R y)) v ∧ FzOk cd Fz' W' ∧ Frz Fz W Fz' W' ∧ Below W.heap.size W W' ∧ ∀ k, Fz' k → Fz k ∨ W.heap.size ≤ k) :
    FnOk Tryz.prog cd f (zf A bNil (fun x _ => F x) (fun r => (R r, []))) := by
  intro M Fz w hp args vargs hr ha r hsp o ho p hp'
  unfold zf at hsp
  cases h1 : A.dec args with
  | none => rw [h1] at hsp; cases hsp
  | some x =>
    cases h2 : (bNil : Bls U Unit).dec hp with
    | none => rw [h1, h2] at hsp; cases hsp
    | some g =>
      rw [h1, h2] at hsp
      have hsp : _ = r := Option.some.inj hsp
      subst hsp
      have hhp : hp = [] := by
        cases hp with
        | nil => rfl
        | cons b l => cases h2
      subst hhp
      obtain rfl := z1xe hr
      obtain rfl := hA _ _ h1
      have hp' : some (R o, []) = some p := hp'
      have hp' := Option.some.inj hp'
      subst hp'
      refine ⟨fn, hf, hn, hb, (h Fz w x o vargs hr.fz ha ho).mono ?_⟩
      rintro e W' ⟨v, Fz', he, q1, q2, q3, q4, q5⟩
      exact ⟨v, he, M0, Fz', q1, z1x9 q2, .refl _, q3, ⟨q4.os, q4.tape, q4.output, q4.size, fun k hk _ => q4.block k hk⟩, fun k ⟨b, i, hb, _⟩ => by (cases hb), fun k hk => (q5 k hk).imp id .inr⟩
end Go.Proofs.YtfdndagnolbnhaaGreat
end
section
set_option linter.unusedVariables false
namespace Go.Proofs.YtfdndagnolbnhaaGreat
open Go Go.RowKit Go.Ab
attribute [local go_sem] Oper.semAt_some
theorem z1y3 {Fz : Nat → Prop} {W : World} {x : Machine} {cs : Array Value} (h : IsM Fz W x cs) : ∃ a cap, cs[83]? = some (.slice a x.lines.length cap) := by
  have hs := h.size
  have ha : ∀ t n l, C.arr t n l ∈ zj.enc x → l.length = n := h.1
  have hh := h.2.2
  rw [zmf] at ha hh
  have a1 := ha 3 6 x.cpu.r (by simp)
  have a2 := ha 3 2 x.cpu.sP (by simp)
  have a3 := ha 28 16 x.mmu.pages (by simp)
  have c3 : Tryz.prog.cellsOf 3 = 1 := by kernel_rfl
  have c28 : Tryz.prog.cellsOf 28 = 4 := by kernel_rfl
  have f1 : (List.flatMap (cd.enc 3) x.cpu.r).length = 6 := z8c' 3 x.cpu.r 6 1 a1 c3
  have f2 : (List.flatMap (cd.enc 3) x.cpu.sP).length = 2 := z8c' 3 x.cpu.sP 2 1 a2 c3
  have f3 : (List.flatMap (cd.enc 28) x.mmu.pages).length = 64 := z8c' 28 x.mmu.pages 16 4 a3 c28
  have hv : cs.toList[83]? = some cs[83] := by simp [hs]
  have hq := hh 83 (.sl 55 x.lines false) cs[83] (by
    simp only [leaves, leaf, List.flatMap_cons, List.flatMap_nil]
    rw [List.getElem?_append_right (by omega), f1, List.getElem?_append_right (by omega), f2]
    simp only [Nat.reduceSub, List.cons_append, List.nil_append, List.getElem?_cons_succ]
    rw [List.getElem?_append_right (by omega), f3]
    rfl) hv
  generalize cs[83] = v at hq hv
  cases hq with
  | sl t l full a cap f h1 h0 h2 h3 => exact ⟨a, cap, by rw [← Array.getElem?_toList]; exact hv⟩
theorem ztt {W W' : World} {row : Option Nat} {B : Nat} (hg : W.grownBy W' row) (hr : ∀ r, row = some r → B ≤ r ∧ ∃ o : Obj, W.heap[r]? = some o ∧ o.isCells = false) {k : Nat} {cs : Array Value} {t : TypeId} {fr : Nat × Nat} (h : W.heap[k]? = some (.cells cs t fr)) : W'.heap[k]? = some (.cells cs t fr) := by
  refine (hg.block k (Array.getElem?_eq_some_iff.1 h).1 fun e => ?_).trans h
  obtain ⟨_, o, ho, hc⟩ := hr k e.symm
  rw [h] at ho; cases ho; cases hc
structure Between (f : Kind → Machine → Option Machine) (V : Machine → Prop) (Fz : Nat → Prop) (W : World) (n1 : Nat) (x : Machine) (ks : List Kind) (Wr : World) : Prop where
  it : ∃ z cs' Fz', runK f ks x = some z ∧ V z ∧ IsM Fz' Wr z cs' ∧ FzOk cd Fz' Wr ∧ Wr.heap[W.heap.size]? = some (.cells cs' 44 (0, 0)) ∧ (∀ k, Fz k → Fz' k) ∧ (∀ k, Fz' k → Fz k ∨ n1 ≤ k)
  below : Below W.heap.size W Wr
  size : n1 ≤ Wr.heap.size
theorem Between.own {f : Kind → Machine → Option Machine} {V : Machine → Prop} {Fz : Nat → Prop} {W W1 W2 : World} {n1 : Nat} {x : Machine} {ks : List Kind} {row : Option Nat} (h : Between f V Fz W n1 x ks W1) (hn : W.heap.size ≤ n1) (hg : W1.grownBy W2 row) (hr : ∀ r, row = some r → n1 ≤ r ∧ ∃ o : Obj, W1.heap[r]? = some o ∧ o.isCells = false) : Between f V Fz W n1 x ks W2 := by
  obtain ⟨⟨z, cs', Fz', h1, h2, h3, h4, h5, h6, h7⟩, hb, hsz⟩ := h
  have hc := z1vf hg (fun r e => (hr r e).2)
  exact ⟨⟨z, cs', Fz', h1, h2, RL.cells zyk h3 (zmi z) hc, h4.cells hg.size hc, ztt hg hr h5, h6, h7⟩, hb.grown hg hb.size (fun k e => Nat.le_trans hn (hr k e).1), Nat.le_trans hsz hg.size⟩
theorem zop {F : Fence} {n : Nat} {P : Program} {ops : Array Oper} {rest : List Oper} {o : Oper} {a : Act} {w : World} {Q : Exit → Act → World → Prop} (hgd : o.guard = none) (ty : TypeId) (x : Operand) (ho : o.op = .load ty x)
    (g : Nat) (hx : a.eval x = .pointer (some ⟨g, 0, none⟩)) (t : TypeId) (cs : Array Value) (fr : Nat × Nat) (d : TypeDesc) (hg : w.heap[g]? = some (.cells cs t fr))
    (hu : P.underlying ty = some d) (hd : (match d with | .struct _ | .array _ _ => true | _ => false) = true) (hi : (P.info? ty).map (·.size) = some cs.size)
    (h : wpListIn F n P ops Q rest (a.put o.dst (.agg cs)) w) : wpListIn F n P ops Q (o :: rest) a w := by
  refine wpListIn_plain hgd fun K hK' => ?_
  unfold Oper.wpIn
  refine ⟨?_, ?_⟩
  · simp [Oper.about, ho]
  · rw [Oper.semAt_plain F _ _ (by rw [ho]; intro c hc'; cases hc')]
    unfold execOp
    simp only [ho, hx, Instr.loadAt, Instr.sureAddr, Sem.run_bind, Sem.run_pure, Result.andThen_ok, run_loadVar_row w g t ty cs fr d hg hu hd hi]
    exact hK' _ _ h
theorem znh {F : Fence} {n : Nat} {P : Program} {ops : Array Oper} {rest : List Oper} {o : Oper} {a : Act} {w : World} {Q : Exit → Act → World → Prop} (hgd : o.guard = none) (ty : TypeId) (x y : Operand) (ho : o.op = .store ty x y)
    (g : Nat) (cells : Array Value) (hx : a.eval x = .pointer (some ⟨g, 0, none⟩)) (hy : a.eval y = .agg cells)
    (t : TypeId) (old : Array Value) (hg : w.heap[g]? = some (.cells old t (0, 0))) (hi : (P.info? ty).map (·.size) = some cells.size)
    (hold : old.size = cells.size) (h1 : cells.all (·.oneCell') = true)
    (h : wpListIn F n P ops Q rest (a.put o.dst undef) (w.setRow g cells)) : wpListIn F n P ops Q (o :: rest) a w := by
  refine wpListIn_plain hgd fun K hK' => ?_
  unfold Oper.wpIn
  refine ⟨?_, ?_⟩
  · simp [Oper.about, ho]
  · rw [Oper.semAt_plain F _ _ (by rw [ho]; intro c hc'; cases hc')]
    unfold execOp
    simp only [ho, hx, hy, Instr.storeAt, Instr.sureAddr, Sem.run_bind, Sem.run_pure, Result.andThen_ok, run_storeVar_row w g t ty old cells hg hi hold h1]
    exact hK' _ _ h
theorem info44 : (Tryz.prog.info? 44).map (·.size) = some 110 := by kernel_rfl
theorem IsM.one {Fz : Nat → Prop} {W : World} {x : Machine} {cs : Array Value} (h : IsM Fz W x cs) : cs.all (·.oneCell') = true := by
  have h1 := RL.scal zg h (by rw [zmf]; rfl)
  rw [Array.all_eq_true]
  intro i hi
  exact h1 _ (by simp)
theorem z1vq {W : World} {d : Dev} {g : Nat} {cs : Array Value} (h : d.lies W) (hne : d.cap ≠ g) : d.lies (W.setRow g cs) := by
  cases d <;> exact (setRow_other W g _ cs hne).trans h
theorem z19e {B g : Nat} {W W' : World} {cs : Array Value} (h : Below B W W') (hg : B ≤ g) : Below B W (W'.setRow g cs) :=
  ⟨h.os, h.tape, h.output, by simp; exact h.size, fun k hk => (setRow_other _ _ _ _ (by omega)).trans (h.block k hk)⟩
theorem z1u7 {B g : Nat} {W W' : World} {o : Obj} (h : Below B W W') (hg : B ≤ g) : Below B W (W'.putObj g o) :=
  ⟨h.os, h.tape, h.output, by simp [World.putObj]; exact h.size, fun k hk => (World.putObj_heap_other (by omega)).trans (h.block k hk)⟩
theorem z1r6 {W : World} {D : Nat} {o o' : Obj} (hD : W.heap[D]? = some o) (ho : o.isCells = false) : ∀ a u, W.cell? a = some u → (W.putObj D o').cell? a = some u := fun a u h => by
  by_cases e : a.block = D
  · unfold World.cell? at h
    rw [e, hD] at h
    cases o <;> simp [Obj.isCells] at h ho
  · unfold World.cell? at h ⊢
    rw [World.putObj_heap_other (by omega)]; exact h
theorem z1vm {Fz Fz' : Nat → Prop} {W Wd : World} {z : Machine} {cs' old : Array Value} {D R n : Nat} {tmps : Array Value} {fn : Func} {p : Tmp} (hfz : FzOk cd Fz W) (hr : fn.results = #[.cell p 44]) (hp : tmps.getD p undef = .pointer (some ⟨R, 0, none⟩)) (q3 : IsM Fz' Wd z cs') (q4 : FzOk cd Fz' Wd) (q6 : ∀ k, Fz k → Fz' k) (q7 : ∀ k, Fz' k → Fz k ∨ R < k)
    (hbel : Below W.heap.size W Wd) (hR : W.heap.size ≤ R) (hRD : R < D) (hIr : Wd.heap[R]? = some (.cells old 44 (0, 0))) (hDf : Wd.heap[D]? = some (.deferred (some []))) :
    LeavesInM Fence.wide n Tryz.prog fn tmps (Turned Fz W z) [{ target := .collected D, args := #[] }] .returning (Wd.setRow R cs') := by
  have hsz3 := q3.size
  have hDW : W.heap.size ≤ D := by omega
  have hset := setRow_heap Wd R old cs' 44 (0, 0) hIr
  have hD2 : (Wd.setRow R cs').heap[D]? = some (.deferred (some [])) := (setRow_other _ _ _ _ (by omega)).trans hDf
  have hfr : Frz Fz' Wd Fz' (Wd.setRow R cs') := fun k hk => ⟨hk, setRow_other _ _ _ _ (fun e => by
    subst e
    rcases q7 _ hk with h | h
    · have := hfz.lt _ h; omega
    · omega)⟩
  have hc := z1r6 (o' := .deferred none) hD2 rfl
  have hb2 : Below W.heap.size W ((Wd.setRow R cs').putObj D (.deferred none)) := z1u7 (z19e hbel hR) hDW
  have g1 : IsM Fz' (Wd.setRow R cs') z cs' := RL.mono q3 (Ext.refl _) hfr
  have g2 : FzOk cd Fz' (Wd.setRow R cs') := q4.mono hfr (fun k hk => by simp; exact q4.lt k hk)
  refine ⟨by simp, .inl ⟨_, _, rfl, run_takeDeferred hD2, ?_⟩⟩
  refine ⟨.agg cs', results_cell_row hr _ _ R 44 cs' (0, 0) _ hp ((World.putObj_heap_other (by omega)).trans hset) Tryz.underlying44 rfl (by rw [hsz3]; exact info44), cs', Fz', rfl, ?_, ?_, ?_, hb2, ?_⟩
  · exact RL.cells zyk g1 (zmi z) hc
  · exact g2.cells (by simp [World.putObj]) hc
  · exact fun k hk => ⟨q6 k hk, hb2.block k (hfz.lt k hk)⟩
  · exact fun k hk => (q7 k hk).imp id (by omega)
set_option maxRecDepth 100000 in
set_option maxHeartbeats 4000000 in
theorem z21p {Fz : Nat → Prop} {W : World} {x y : Machine} {cs : Array Value} (hfz : FzOk cd Fz W) (hm : IsM Fz W x cs) (hk : x.lines.length ≤ 100) (V : Machine → Prop) (hVx : V x)
    (hV : ∀ d ∈ kindsOf x.lines.length false, ∀ z, V z → ∃ z', tickK none d z = some z' ∧ V z') (hF : runK (tickK none) (kindsOf x.lines.length false) x = some y) :
    Calls Tryz.prog 8 #[.agg cs] W (Turned Fz W y) := by
  obtain ⟨la, lcap, hlc⟩ := z1y3 hm
  refine (callsIn_wide (n := 5)).1 ?_
  refine callsIn_of_wp_marks Tryz.func8 rfl trivial ?_ rfl
  simp only [Tryz.ntmps8, List.size_toArray, List.length_cons, List.length_nil, Nat.reduceAdd, Nat.reduceSub, Array.replicate_succ, Array.replicate_zero, List.push_toArray, List.append_toArray, List.nil_append, List.cons_append]
  gi_wp2_with (refine ⟨trivial, ?_⟩; gi_at_call 28; refine (callsIn_wide.2 (z1ol x.lines.length hk _)).mono ?_; rintro e w1 ⟨Bs, v, ds, rfl, hbox, hBs, hkind, hH, hB⟩)
  have hs1 := hB.size
  simp only [World.size_alloc] at hBs hs1
  have hlen : 0 < ds.length := by
    have := congrArg List.length hkind
    simp [kindsOf] at this; omega
  have hlen2 : ds.length ≤ 1000 := by
    have := congrArg List.length hkind
    simp [kindsOf] at this; omega
  have hboxm : w1.heap[W.heap.size]? = some (.cells cs 44 (0, 0)) := (hB.block _ (by simp; omega)).trans ((Below.heap_alloc _ _ _ (by simp)).trans (heap_alloc_new W _))
  have hres : w1.heap[W.heap.size + 1]? = some (.cells Tryz.zeroCells44 44 (0, 0)) := (hB.block _ (by simp)).trans (heap_alloc2_new W _ _)
  have hb1 : Below W.heap.size W w1 := (((Below.refl _ W).alloc (Nat.le_refl _) _).alloc (by simp) _).trans (hB.mono (by simp; omega))
  have hIM : IsM Fz w1 x cs := RL.cells zyk hm (zmi x) (z1dd hb1)
  have h0 : Between (tickK none) V Fz W w1.heap.size x [] w1 := ⟨⟨x, cs, Fz, rfl, hVx, hIM, hfz.cells hb1.size (z1dd hb1), hboxm, fun _ h => h, fun _ h => .inl h⟩, hb1, Nat.le_refl _⟩
  refine wpIn_rangeFunc_ownH rfl (by omega) (gf := 152) (lb := #[pt Bs]) rfl trivial (enters_of Tryz.func152 (by kernel_rfl) rfl)
    (z1xx Fence.wide (5 - 1) trivial rfl (by omega) Bs w1.heap.size _ v ds hlen2 hlen w1 rfl hbox hH) (fun h k => h.trans k)
    (fun X l o o' hl ho _ _ => ⟨by simp, fun k _ hk => World.putObj_heap_other (by omega)⟩) (Below.refl _ _) (fun _ => rfl)
    (fun (pre : List { d : Dev // d ∈ ds }) Wr => Between (tickK none) V Fz W w1.heap.size x (List.map (fun (d : { d : Dev // d ∈ ds }) => Dev.kind d.1) pre) Wr ∧ Wr.heap[W.heap.size + 1]? = some (.cells Tryz.zeroCells44 44 (0, 0)) ∧ ∀ d ∈ ds, d.lies Wr)
    (fun _ _ _ => False)
    (fun pre A B row hs hg hr => ⟨hs.1.own (by omega) hg hr, ztt hg hr hs.2.1, fun d hd => ztn (hs.2.2 d hd) hg (fun e => by
      have h1 := (hr d.cap e.symm).1
      have h2 := (hH.2 d hd).1.lt
      omega)⟩)
    (fun _ _ _ _ _ hs _ _ => hs)
    ⟨h0, hres, fun d hd => (hH.2 d hd).1⟩
    (fun (d : { d : Dev // d ∈ ds }) a' Wr => ∃ Bx, w1.heap.size ≤ Bx ∧ Wr.heap[Bx]? = some (.cells d.1.fs 74 (0, 0)) ∧ a' = { tmps := #[.agg cs, pt W.heap.size, pt (W.heap.size + 1), pt Bx, .pointer (some ⟨W.heap.size, 83, none⟩), .slice la x.lines.length lcap, .int .i64 x.lines.length, .func (.func 152) #[] #[pt Bs], .agg d.1.fs, undef, undef, undef, undef, undef], defers := [] })
    (fun d a' _ A B row hs hg hr => by
      obtain ⟨Bx, h1, h2, h3⟩ := hs
      exact ⟨Bx, h1, ztt hg hr h2, h3⟩) ?assign ?body ?done ?stop
  case assign =>
    rintro l pre d Wr K ⟨hI, hIr, hIl⟩ hK
    have hsz2 : w1.heap.size ≤ Wr.heap.size := hI.size
    obtain ⟨f0, c0, f1, c1, f2, c2, f3, c3, hfs⟩ := z1x7 d.1
    rw [hfs]
    rw [hfs] at hK
    gi_wp2
    refine hK _ _ ((KeepsOthers.alloc _ _).from _) (KeepsIn.alloc _ hsz2 _) ⟨hI.own (by omega) (World.grownBy_alloc Wr _ none) (fun r e => by cases e), ztt (B := 0) (World.grownBy_alloc Wr _ none) (fun r e => by cases e) hIr, fun q hq => ztn (hIl q hq) (World.grownBy_alloc Wr _ none) (by simp)⟩ ⟨Wr.heap.size, hsz2, heap_alloc_new Wr _, ?_⟩
    rfl
  case body =>
    rintro l pre ⟨d, hd⟩ a' Wr hl ⟨r, hr⟩ ⟨hI, hIr, hIl⟩ ⟨Bx, hBx, h4, rfl⟩ hlt
    obtain ⟨⟨z, cs', Fz', q1, q2, q3, q4, q5, q6, q7⟩, hbel, hsz2⟩ := hI
    have hdk : d.kind ∈ kindsOf x.lines.length false := by rw [← hkind]; exact List.mem_map.2 ⟨d, hd, rfl⟩
    obtain ⟨z', hz1, hz2⟩ := hV d.kind hdk z q2
    have hcap := (hH.2 d hd)
    have hcaplt := hcap.1.lt
    have hcap2 := hcap.2
    simp only [World.size_alloc] at hcap2
    have hncap : ¬ Fz' d.cap := fun h => by
      rcases q7 _ h with h | h
      · have := hfz.lt _ h; omega
      · omega
    obtain ⟨f, cap, hf0, hcall⟩ := z20b d (hIl d hd) q4 hncap q3 (by rw [z1yr]; exact hz1)
    have hcell : Wr.cell? ⟨Bx, 0, none⟩ = some (.func (.func f) #[] cap) := by
      have e : Wr.cell? ⟨Bx, 0, none⟩ = d.fs[0]? := by unfold World.cell?; rw [h4]; rfl
      rw [e, hf0]
    have hsz3 := q3.size
    dsimp only [pt]
    cases d <;> (
      simp [Dev.fs, fn0, fn1] at hf0
      obtain ⟨rfl, rfl⟩ := hf0
      simp only [List.append_toArray, List.cons_append, List.nil_append, Array.append_empty] at hcall
      gi_wp2_with (first
        | (refine zop rfl 44 (.tmp 1) rfl W.heap.size rfl 44 cs' (0, 0) _ q5 Tryz.underlying44 rfl (by rw [hsz3]; exact info44) ?_)
        | (refine ⟨trivial, ?_⟩; (first | gi_at_call 117 | gi_at_call 126 | gi_at_call 135 | gi_at_call 143); refine (CallsIn.inRound l (callsIn_wide.2 hcall)).mono ?_; rintro e W2 ⟨cs2, F2, rfl, p1, p2, p3, p4, p5⟩)
        | (refine znh rfl 44 (.tmp 1) (.tmp 12) rfl W.heap.size cs2 rfl rfl 44 cs' ((p4.block _ (by omega)).trans q5) (by rw [p1.size]; exact info44) (by rw [hsz3, p1.size]) p1.one ?_))
      refine ⟨?_, ?_, ⟨⟨z', cs2, F2, ?_, ?_, ?_, ?_, ?_, ?_, ?_⟩, ?_, ?_⟩, ?_, ?_⟩
      all_goals simp only [World.size_alloc] at *
      all_goals have hfr : Frz F2 W2 F2 (W2.setRow W.heap.size cs2) := fun k hk => ⟨hk, setRow_other _ _ _ _ (fun e => by
        subst e
        rcases p5 _ hk with h | h
        · rcases q7 _ h with h | h
          · have := hfz.lt _ h; omega
          · omega
        · omega)⟩
      all_goals have hps := p4.size
      · exact ⟨by simp; exact hps, fun k o hB ho _ => (setRow_other _ _ _ _ (by omega)).trans ((p4.block k (Array.getElem?_eq_some_iff.1 ho).1).trans ho)⟩
      · exact ⟨by simp; exact hps, fun k h1 h2 => (setRow_other _ _ _ _ (by omega)).trans (p4.block k (by omega))⟩
      · rw [List.map_append, z115, q1]
        show runK _ [_] z = _
        simp only [runK]
        rw [show tickK none _ z = some z' from hz1]; rfl
      · exact hz2
      · exact RL.mono p1 (Ext.refl _) hfr
      · exact p2.mono hfr (fun k hk => by simp; exact p2.lt k hk)
      · exact setRow_heap W2 _ cs' cs2 44 (0, 0) ((p4.block _ (by omega)).trans q5)
      · exact fun k h => (p3 k (q6 k h)).1
      · intro k h
        rcases p5 k h with h | h
        · exact q7 k h
        · exact .inr (by omega)
      · exact z19e (hbel.trans (p4.mono hbel.size)) (Nat.le_refl _)
      · simp; omega
      · exact (setRow_other _ _ _ _ (by omega)).trans ((p4.block _ (by omega)).trans hIr)
      · exact fun d hd => z1vq ((hIl d hd).below p4 (hIl d hd).lt) (by have := (hH.2 d hd).2; omega))
  case done =>
    rintro D xs Wd hD hS ⟨⟨⟨z, cs', Fz', q1, q2, q3, q4, q5, q6, q7⟩, hbel, hsz2⟩, hIr, hIl⟩ hDf
    have hS : List.map (·.1) xs = ds := hS
    have hz : z = y := by
      have e : List.map (fun d : { d // d ∈ ds } => Dev.kind d.1) xs = List.map Dev.kind ds := by
        have h := congrArg (List.map Dev.kind) hS
        rw [List.map_map] at h
        exact h
      rw [e, hkind, hF] at q1
      exact Option.some.inj q1.symm
    have hsz3 := q3.size
    obtain rfl := hz
    gi_wp2_with (first
      | (refine zop rfl 44 (.tmp 1) rfl W.heap.size rfl 44 cs' (0, 0) _ q5 Tryz.underlying44 rfl (by rw [hsz3]; exact info44) ?_)
      | (refine znh rfl 44 (.tmp 2) (.tmp 13) rfl (W.heap.size + 1) cs' rfl rfl 44 Tryz.zeroCells44 hIr (by rw [hsz3]; exact info44) (by rw [hsz3]; kernel_rfl) q3.one ?_))
    exact z1vm hfz rfl rfl q3 q4 q6 (fun k h => (q7 k h).imp id (by omega)) hbel (by omega) (by omega) hIr hDf
  case stop =>
    rintro D c pre W' _ _ h _
    exact h.elim
theorem z20d {Fz : Nat → Prop} {W W' : World} {y : Machine} {e : Ending} (h : Turned Fz W y e W') : ∃ v Fz', e = .returned v ∧ RD Tryz.prog cd M0 Fz' W' (resD [vA zj y]) v ∧ FzOk cd Fz' W' ∧ Frz Fz W Fz' W' ∧ Below W.heap.size W W' ∧ ∀ k, Fz' k → Fz k ∨ W.heap.size ≤ k := by
  obtain ⟨cs', Fz', rfl, h1, h2, h3, h4, h5⟩ := h
  exact ⟨.agg cs', Fz', rfl, ⟨cs', rfl, h1⟩, h2, h3, h4, h5⟩
theorem z233 {Fz : Nat → Prop} {W : World} {x : Machine} {vs : List Value} (h : RVs Tryz.prog cd M0 Fz W ((aA zj aNil).enc (x, ())) vs) : ∃ cs, vs = [.agg cs] ∧ IsM Fz W x cs := by
  obtain ⟨h1, h2⟩ := h
  match vs, h1 with
  | [v], _ =>
    obtain ⟨cs, rfl, h3⟩ : RV Tryz.prog cd M0 Fz W (vA zj x) v := h2 0 _ v rfl rfl
    exact ⟨cs, rfl, h3⟩
theorem z1y9 : FnOk Tryz.prog cd 8 z1m5 := by
  refine z228 (zu z19 zd) Tryz.func8 (by kernel_rfl) (by kernel_rfl) ?_
  rintro Fz W ⟨x, u⟩ y vs hfz hr hF
  obtain ⟨cs, rfl, hm⟩ := z233 hr
  replace hF : zl3 none x = some y := hF
  unfold zl3 at hF
  split at hF
  · rename_i hc
    obtain ⟨hk, V, hVx, hV⟩ := hc
    exact (z21p hfz hm hk V hVx hV hF).mono fun e W' h => z20d h
  · cases hF
end Go.Proofs.YtfdndagnolbnhaaGreat
end
section

end
