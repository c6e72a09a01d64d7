/- How the abstract machine's states lie in memory. -/
import Derived.Test.YtjhibcebipjbcaaAbDef
import Derived.Laws.AppendOwn
import Derived.Lib.FrozenHead
namespace Go.Ab
variable {U : Nat → Type}

/-- Where a block of the abstract machine lies: a row has its element type, version, length and capacity. -/
inductive Inf
  | cells (k : Nat)
  | row (pos : Option Nat) (t ver len cap : Nat)
def Inf.blk : Inf → Option Nat
  | .cells k => some k
  | .row p _ _ _ _ => p
abbrev Mp := Nat → Option Inf
inductive Inf.Le : Inf → Inf → Prop
  | refl (i : Inf) : Inf.Le i i
  | later (p q : Option Nat) (t u v v' n m c d : Nat) : v < v' → Inf.Le (.row p t v n c) (.row q u v' m d)
theorem Inf.Le.trans {a b c : Inf} (h : Inf.Le a b) (k : Inf.Le b c) : Inf.Le a c := by
  cases h with
  | refl => exact k
  | later p q t u v v' n m c d hv =>
    cases k with
    | refl => exact .later _ _ _ _ _ _ _ _ _ _ hv
    | later _ _ _ _ _ _ _ _ _ _ hv' => exact .later _ _ _ _ _ _ _ _ _ _ (Nat.lt_trans hv hv')
def Ext (M M' : Mp) : Prop := ∀ b i, M b = some i → ∃ i', M' b = some i' ∧ Inf.Le i i'
theorem Ext.refl (M : Mp) : Ext M M := fun _ i h => ⟨i, h, .refl i⟩
theorem Ext.trans {M M' M'' : Mp} (h : Ext M M') (k : Ext M' M'') : Ext M M'' := fun b i hb =>
  let ⟨i', h1, h2⟩ := h b i hb
  let ⟨i'', k1, k2⟩ := k b i' h1
  ⟨i'', k1, h2.trans k2⟩

def Frz (Fz : Nat → Prop) (w : World) (Fz' : Nat → Prop) (w' : World) : Prop := ∀ k, Fz k → Fz' k ∧ w'.heap[k]? = w.heap[k]?
theorem Frz.refl (Fz : Nat → Prop) (w : World) : Frz Fz w Fz w := fun _ h => ⟨h, rfl⟩
theorem Frz.trans {F F' F'' : Nat → Prop} {w w' w'' : World} (h : Frz F w F' w') (k : Frz F' w' F'' w'') : Frz F w F'' w'' :=
  fun b hb => ⟨(k b (h b hb).1).1, (k b (h b hb).1).2.trans (h b hb).2⟩

def at0 (k o : Nat) : Addr := ⟨k, o, none⟩
theorem cell_heap {w w' : World} {k : Nat} (h : w'.heap[k]? = w.heap[k]?) (o : Nat) : w'.cell? (at0 k o) = w.cell? (at0 k o) := by
  simp [World.cell?, at0, h]

/-- How a cell of a row's value reads, by where the row lies. -/
def RowV (pos : Option Nat) (len cap : Nat) (val : Value) : Prop := match pos with
  | some k => val = .slice (some (at0 k 0)) len cap
  | none => ∃ a, val = .slice a 0 0
def OwnV (pos : Option Nat) (sz lo n : Nat) (val : Value) : Prop := ∃ a c, val = .slice a n c ∧ n ≤ c ∧ (0 < n → ∃ k, pos = some k ∧ a = some (at0 k (lo * sz)))

inductive R1 (P : Program) (cd : Cd U) (M : Mp) (Fz : Nat → Prop) (w : World) : C U → Value → Prop
  | unk (v : Value) : R1 P cd M Fz w .unk v
  | skp : R1 P cd M Fz w .skp undef
  | kb (b : Bool) : R1 P cd M Fz w (.kb b) (.bool b)
  | bool (b : Bool) : R1 P cd M Fz w (.bool b) (.bool b)
  | int (k : IntKind) (n : Int) : R1 P cd M Fz w (.int k n) (.int k n)
  | str (s : List UInt8) : R1 P cd M Fz w (.str s) (.string ⟨s.toArray⟩)
  | nils : R1 P cd M Fz w .nils (.slice none 0 0)
  | sl (t : Nat) (l : List (U t)) (full : Bool) (a : Option Addr) (cap : Nat) (f : Nat → Value) : (full = true → cap = l.length) → l.length ≤ cap →
      (l ≠ [] → ∃ k o, a = some (at0 k o) ∧ Fz k ∧ ∀ j c, (l.flatMap (cd.enc t))[j]? = some c → w.cell? (at0 k (o + j)) = some (f j)) →
      (∀ j c, (l.flatMap (cd.enc t))[j]? = some c → R1 P cd M Fz w c (f j)) → R1 P cd M Fz w (.sl t l full) (.slice a l.length cap)
  | row (b v : Nat) (pos : Option Nat) (t ver len cap : Nat) (val : Value) : M b = some (.row pos t ver len cap) → v ≤ ver → val.oneCell' = true →
      (v = ver → RowV pos len cap val) → R1 P cd M Fz w (.row b v) val
  | own (b v lo n : Nat) (pos : Option Nat) (t ver len cap : Nat) (val : Value) : M b = some (.row pos t ver len cap) → v ≤ ver → val.oneCell' = true →
      (v = ver → lo + n ≤ len ∧ OwnV pos (P.cellsOf t) lo n val) → R1 P cd M Fz w (.own b v lo n) val
  | ptr (b o k : Nat) : M b = some (.cells k) → R1 P cd M Fz w (.ptr b o) (.pointer (some (at0 k o)))
  | elp (b v i sub : Nat) (pos : Option Nat) (t ver len cap : Nat) (val : Value) : M b = some (.row pos t ver len cap) → v ≤ ver → val.oneCell' = true →
      (v = ver → i < len ∧ ∃ k, pos = some k ∧ val = .pointer (some (at0 k (i * P.cellsOf t + sub)))) → R1 P cd M Fz w (.elp b v i sub) val
  | ap (b o t i sub k : Nat) : M b = some (.cells k) → R1 P cd M Fz w (.ap b o t i sub) (.pointer (some (at0 k (o + i * P.cellsOf t + sub))))
  | xp (t : Nat) (x : U t) (sub k o : Nat) (f : Nat → Value) : Fz k → (∀ j c, (cd.enc t x)[j]? = some c → w.cell? (at0 k (o + j)) = some (f j)) →
      (∀ j c, (cd.enc t x)[j]? = some c → R1 P cd M Fz w c (f j)) → R1 P cd M Fz w (.xp t x sub) (.pointer (some (at0 k (o + sub))))
  | fn (f : Nat) (a c : List (C U)) (g h : Nat → Value) : (∀ j x, a[j]? = some x → R1 P cd M Fz w x (g j)) → (∀ j x, c[j]? = some x → R1 P cd M Fz w x (h j)) →
      R1 P cd M Fz w (.fn f a c) (.func (.func f) ((List.range a.length).map g).toArray ((List.range c.length).map h).toArray)
  | nilp : R1 P cd M Fz w .nilp (.pointer none)
  | mp (l : List Int) (r : Nat) (es : Array MapEntry) (ck : Nat) : Fz r → w.heap[r]? = some (.map es ck) → (∀ e ∈ es, ∃ n, e.key = .int .i64 n ∧ e.val = .bool true) → (∀ n, n ∈ l ↔ ∃ e ∈ es, e.key = .int .i64 n) →
      R1 P cd M Fz w (.mp l) (.map (some r))

section
variable {P : Program} {cd : Cd U} {M M' : Mp} {Fz Fz' : Nat → Prop} {w w' : World}

theorem R1.mono {c : C U} {v : Value} (h : R1 P cd M Fz w c v) (he : Ext M M') (hf : Frz Fz w Fz' w') : R1 P cd M' Fz' w' c v := by
  induction h with
  | unk v => exact .unk v
  | skp => exact .skp
  | kb b => exact .kb b
  | bool b => exact .bool b
  | int k n => exact .int k n
  | str s => exact .str s
  | nils => exact .nils
  | sl t l full a cap f h1 h0 h2 _ ih =>
    refine .sl t l full a cap f h1 h0 (fun hl => ?_) ih
    obtain ⟨k, o, ha, hk, hc⟩ := h2 hl
    exact ⟨k, o, ha, (hf k hk).1, fun j c hj => (cell_heap (hf k hk).2 _).trans (hc j c hj)⟩
  | row b v pos t ver len cap val h1 h2 h3 h4 =>
    obtain ⟨i', hi, hl⟩ := he b _ h1
    cases hl with
    | refl => exact .row b v pos t ver len cap val hi h2 h3 h4
    | later _ q _ u _ v' _ m _ d hv => exact .row b v q u v' m d val hi (by omega) h3 (fun e => by omega)
  | own b v lo n pos t ver len cap val h1 h2 h3 h4 =>
    obtain ⟨i', hi, hl⟩ := he b _ h1
    cases hl with
    | refl => exact .own b v lo n pos t ver len cap val hi h2 h3 h4
    | later _ q _ u _ v' _ m _ d hv => exact .own b v lo n q u v' m d val hi (by omega) h3 (fun e => by omega)
  | ptr b o k h1 =>
    obtain ⟨i', hi, hl⟩ := he b _ h1
    cases hl with
    | refl => exact .ptr b o k hi
  | elp b v i sub pos t ver len cap val h1 h2 h3 h4 =>
    obtain ⟨i', hi, hl⟩ := he b _ h1
    cases hl with
    | refl => exact .elp b v i sub pos t ver len cap val hi h2 h3 h4
    | later _ q _ u _ v' _ m _ d hv => exact .elp b v i sub q u v' m d val hi (by omega) h3 (fun e => by omega)
  | ap b o t i sub k h1 =>
    obtain ⟨i', hi, hl⟩ := he b _ h1
    cases hl with
    | refl => exact .ap b o t i sub k hi
  | xp t x sub k o f h1 h2 _ ih => exact .xp t x sub k o f (hf k h1).1 (fun j c hj => (cell_heap (hf k h1).2 _).trans (h2 j c hj)) ih
  | fn f a c g h _ _ ih1 ih2 => exact .fn f a c g h ih1 ih2
  | nilp => exact .nilp
  | mp l r es ck h1 h2 h3 h4 => exact .mp l r es ck (hf r h1).1 ((hf r h1).2.trans h2) h3 h4

theorem R1.scal {c : C U} {v : Value} (h : R1 P cd M Fz w c v) (hs : solid c = true) : v.oneCell' = true := by
  cases h <;> first | rfl | assumption | (simp [solid] at hs)


/-! ### cells side by side -/
def okA (cs : List (C U)) : Prop := ∀ t n l, C.arr t n l ∈ cs → l.length = n
/-- a cell that leads to no block -/
def plainC : C U → Bool
  | .bool _ => true
  | .int _ _ => true
  | .str _ => true
  | .sl _ _ _ => true
  | .nilp => true
  | .mp _ => true
  | _ => false
def RL (P : Program) (cd : Cd U) (M : Mp) (Fz : Nat → Prop) (w : World) (cs : List (C U)) (vs : List Value) : Prop :=
  okA cs ∧ vs.length = (leaves cd cs).length ∧ ∀ (j : Nat) (c : C U) (v : Value), (leaves cd cs)[j]? = some c → vs[j]? = some v → R1 P cd M Fz w c v

/-- What must hold of the element types. -/
structure CdOk (P : Program) (cd : Cd U) : Prop where
  len : ∀ t x, (cd.enc t x).length = P.cellsOf t
  plain : ∀ t x c, c ∈ cd.enc t x → plainC c = true
  dec : ∀ t cs x, cd.dec t cs = some x → ∀ M Fz w vs, RL P cd M Fz w cs vs → RL P cd M Fz w (cd.enc t x) vs
  bytes : ∀ t l s, cd.bytes t l = some s → P.cellsOf t = 1 ∧ ∃ ns : List Int, l.flatMap (cd.enc t) = ns.map (fun n => .int .u8 n) ∧ s = ns.map (fun n => UInt8.ofNat n.toNat)
  ofBytes : ∀ t s l, cd.ofBytes t s = some l → l.length = s.length ∧ l.flatMap (cd.enc t) = s.map (fun b => .int .u8 (b.toNat : Int))
  eq : ∀ t d x y, cd.deq t = some d → eqT P cd false 4 t (cd.enc t x) (cd.enc t y) = some (@decide (x = y) (d x y))

theorem leaves_cons (c : C U) (cs : List (C U)) : leaves cd (c :: cs) = leaf cd c ++ leaves cd cs := rfl
theorem leaves_append (a b : List (C U)) : leaves cd (a ++ b) = leaves cd a ++ leaves cd b := by simp [leaves]
theorem okA_cons {c : C U} {cs : List (C U)} : okA (c :: cs) ↔ okA [c] ∧ okA cs := by
  unfold okA
  constructor
  · exact fun h => ⟨fun t n l hm => h t n l (by simp at hm; simp [hm]), fun t n l hm => h t n l (by simp [hm])⟩
  · rintro ⟨h1, h2⟩ t n l hm
    rcases List.mem_cons.1 hm with h | h
    · exact h1 t n l (by simp [h])
    · exact h2 t n l h
theorem okA_append {a b : List (C U)} : okA (a ++ b) ↔ okA a ∧ okA b := by
  unfold okA
  constructor
  · exact fun h => ⟨fun t n l hm => h t n l (by simp [hm]), fun t n l hm => h t n l (by simp [hm])⟩
  · rintro ⟨h1, h2⟩ t n l hm
    rcases List.mem_append.1 hm with h | h
    · exact h1 t n l h
    · exact h2 t n l h
theorem flat_len (ok : CdOk P cd) (t : Nat) (l : List (U t)) : (l.flatMap (cd.enc t)).length = l.length * P.cellsOf t := by
  induction l with
  | nil => simp
  | cons x l ih => simp [ih, ok.len, Nat.add_mul, Nat.add_comm]
theorem leaf_len (ok : CdOk P cd) {c : C U} (h : okA [c]) : (leaf cd c).length = szC P c := by
  cases c <;> simp [leaf, szC]
  rename_i t n l
  rw [← h t n l (by simp)]
  have := flat_len ok t l
  simpa using this
theorem leaves_len (ok : CdOk P cd) : ∀ {cs : List (C U)}, okA cs → (leaves cd cs).length = szL P cs
  | [], _ => rfl
  | c :: cs, h => by
    obtain ⟨h1, h2⟩ := okA_cons.1 h
    rw [leaves_cons, List.length_append, leaf_len ok h1, leaves_len ok h2]
    rfl
theorem dropC_ok (ok : CdOk P cd) : ∀ {cs r : List (C U)} {o : Nat}, okA cs → dropC P cs o = some r → leaves cd r = (leaves cd cs).drop o ∧ okA r ∧ o ≤ (leaves cd cs).length
  | [], r, o, h, e => by
    cases o with
    | zero => simp [dropC] at e; subst e; exact ⟨rfl, h, by simp⟩
    | succ o => simp only [dropC, cond_eq_ite] at e; rw [if_neg (by simp)] at e; cases e
  | c :: cs, r, o, h, e => by
    obtain ⟨h1, h2⟩ := okA_cons.1 h
    cases o with
    | zero => simp [dropC] at e; subst e; exact ⟨rfl, h, by simp⟩
    | succ o =>
      simp only [dropC, cond_eq_ite] at e
      rw [if_neg (by simp)] at e
      split at e
      · rename_i hle
        have hle : szC P c ≤ o + 1 := by simpa using hle
        obtain ⟨g1, g2, g3⟩ := dropC_ok ok h2 e
        refine ⟨?_, g2, ?_⟩
        · have hl := leaf_len ok h1
          rw [g1, leaves_cons, List.drop_append, hl, (List.drop_of_length_le (by omega) : List.drop (o + 1) (leaf cd c) = [])]; rfl
        · rw [leaves_cons, List.length_append, leaf_len ok h1]; omega
      · cases e
theorem takeC_ok (ok : CdOk P cd) : ∀ {cs r : List (C U)} {n : Nat}, okA cs → takeC P cs n = some r → leaves cd r = (leaves cd cs).take n ∧ okA r ∧ n ≤ (leaves cd cs).length
  | [], r, o, h, e => by
    cases o with
    | zero => simp [takeC] at e; subst e; exact ⟨by simp [leaves], h, by simp⟩
    | succ o => simp only [takeC, cond_eq_ite] at e; rw [if_neg (by simp)] at e; cases e
  | c :: cs, r, o, h, e => by
    obtain ⟨h1, h2⟩ := okA_cons.1 h
    cases o with
    | zero => simp [takeC] at e; subst e; exact ⟨by simp [leaves], fun t n l hm => by simp at hm, by simp⟩
    | succ o =>
      simp only [takeC, cond_eq_ite] at e
      rw [if_neg (by simp)] at e
      split at e
      · rename_i hle
        have hle : szC P c ≤ o + 1 := by simpa using hle
        split at e
        · rename_i r' he
          injection e with e
          subst e
          obtain ⟨g1, g2, g3⟩ := takeC_ok ok h2 he
          refine ⟨?_, okA_cons.2 ⟨h1, g2⟩, ?_⟩
          · have hl := leaf_len ok h1
            rw [leaves_cons, g1, leaves_cons, List.take_append, hl, (List.take_of_length_le (by omega) : List.take (o + 1) (leaf cd c) = leaf cd c)]
          · rw [leaves_cons, List.length_append, leaf_len ok h1]; omega
        · cases e
      · cases e
theorem cutC_ok (ok : CdOk P cd) {cs r : List (C U)} {o n : Nat} (h : okA cs) (e : cutC P cs o n = some r) : leaves cd r = ((leaves cd cs).drop o).take n ∧ okA r ∧ o + n ≤ (leaves cd cs).length := by
  unfold cutC at e
  split at e
  · rename_i q hq
    obtain ⟨g1, g2, g3⟩ := dropC_ok ok h hq
    obtain ⟨k1, k2, k3⟩ := takeC_ok ok g2 e
    rw [g1] at k1 k3
    exact ⟨k1, k2, by simp at k3; omega⟩
  · cases e
theorem putC_ok (ok : CdOk P cd) {new : List (C U)} {n : Nat} (hn : okA new) : ∀ {cs r : List (C U)} {o : Nat}, okA cs → putC P new n cs o = some r →
    leaves cd r = (leaves cd cs).take o ++ leaves cd new ++ (leaves cd cs).drop (o + n) ∧ okA r ∧ o + n ≤ (leaves cd cs).length
  | [], r, o, h, e => by
    simp only [putC, cond_eq_ite] at e
    split at e
    · rename_i ho
      split at e
      · rename_i hn0
        have ho : o = 0 := by simpa using ho
        have hn0 : n = 0 := by simpa using hn0
        subst ho; subst hn0
        injection e with e
        subst e
        exact ⟨by simp [leaves], hn, by simp⟩
      · cases e
    · cases e
  | c :: cs, r, o, h, e => by
    obtain ⟨h1, h2⟩ := okA_cons.1 h
    simp only [putC, cond_eq_ite] at e
    split at e
    · rename_i ho
      have ho : o = 0 := by simpa using ho
      subst ho
      split at e
      · rename_i q hq
        injection e with e
        subst e
        obtain ⟨g1, g2, g3⟩ := dropC_ok ok h hq
        exact ⟨by rw [leaves_append, g1]; simp, okA_append.2 ⟨hn, g2⟩, by simpa using g3⟩
      · cases e
    · split at e
      · rename_i ho hle
        have hle : szC P c ≤ o := by simpa using hle
        split at e
        · rename_i q hq
          injection e with e
          subst e
          obtain ⟨g1, g2, g3⟩ := putC_ok ok hn h2 hq
          have hl := leaf_len ok h1
          refine ⟨?_, okA_cons.2 ⟨h1, g2⟩, ?_⟩
          · rw [leaves_cons, g1, leaves_cons, List.take_append, List.drop_append, hl, (List.take_of_length_le (by omega) : List.take o (leaf cd c) = leaf cd c), (List.drop_of_length_le (by omega) : List.drop (o + n) (leaf cd c) = [])]
            simp [show o + n - szC P c = o - szC P c + n by omega]
          · rw [leaves_cons, List.length_append, hl]; omega
        · cases e
      · cases e
theorem atC_ok (ok : CdOk P cd) {cs : List (C U)} {o : Nat} {c : C U} (h : okA cs) (e : atC P cs o = some c) : ((leaves cd cs).drop o).take (szC P c) = leaf cd c ∧ okA [c] ∧ o + szC P c ≤ (leaves cd cs).length := by
  unfold atC at e
  split at e
  · rename_i c' r hq
    injection e with e
    subst e
    obtain ⟨g1, g2, g3⟩ := dropC_ok ok h hq
    obtain ⟨k1, _⟩ := okA_cons.1 g2
    have hl := leaf_len ok k1
    rw [← g1, leaves_cons]
    refine ⟨by rw [List.take_append_of_le_length (by omega), List.take_of_length_le (by omega)], k1, ?_⟩
    have h4 : (leaves cd (c' :: r)).length = (leaves cd cs).length - o := by rw [g1]; simp
    rw [leaves_cons, List.length_append, hl] at h4
    omega
  · cases e

theorem RL.nil : RL P cd M Fz w [] [] := ⟨fun _ _ _ h => by simp at h, rfl, fun j c v h => by simp [leaves] at h⟩
theorem RL.one {c : C U} {v : Value} (hc : ∀ t n l, c ≠ .arr t n l) (h : R1 P cd M Fz w c v) : RL P cd M Fz w [c] [v] := by
  have hl : leaves cd [c] = [c] := by cases c <;> first | rfl | exact absurd rfl (hc _ _ _)
  refine ⟨fun t n l hm => ?_, by rw [hl]; rfl, fun j c' v' h1 h2 => ?_⟩
  · simp at hm; exact absurd hm.symm (hc _ _ _)
  · rw [hl] at h1
    cases j with
    | zero => simp at h1 h2; subst h1; subst h2; exact h
    | succ j => simp at h1
theorem R1.noarr {c : C U} {v : Value} (h : R1 P cd M Fz w c v) : ∀ t n l, c ≠ .arr t n l := by
  intro t n l e; subst e; cases h
theorem RL.of1 {c : C U} {v : Value} (h : R1 P cd M Fz w c v) : RL P cd M Fz w [c] [v] := RL.one h.noarr h
theorem RL.mono {cs : List (C U)} {vs : List Value} (h : RL P cd M Fz w cs vs) (he : Ext M M') (hf : Frz Fz w Fz' w') : RL P cd M' Fz' w' cs vs :=
  ⟨h.1, h.2.1, fun j c v h1 h2 => (h.2.2 j c v h1 h2).mono he hf⟩
theorem RL.append {a b : List (C U)} {vs us : List Value} (h : RL P cd M Fz w a vs) (k : RL P cd M Fz w b us) : RL P cd M Fz w (a ++ b) (vs ++ us) := by
  refine ⟨okA_append.2 ⟨h.1, k.1⟩, by rw [leaves_append, List.length_append, List.length_append, h.2.1, k.2.1], fun j c v h1 h2 => ?_⟩
  rw [leaves_append] at h1
  by_cases hj : j < (leaves cd a).length
  · rw [List.getElem?_append_left hj] at h1
    rw [List.getElem?_append_left (by rw [h.2.1]; exact hj)] at h2
    exact h.2.2 j c v h1 h2
  · rw [List.getElem?_append_right (by omega)] at h1
    rw [List.getElem?_append_right (by rw [h.2.1]; omega), h.2.1] at h2
    exact k.2.2 _ c v h1 h2
theorem RL.of_leaves {cs : List (C U)} {vs : List Value} {ls : List (C U)} {us : List Value} (h : RL P cd M Fz w cs vs) (o n : Nat) (hok : okA ls) (e : leaves cd ls = ((leaves cd cs).drop o).take n)
    (hu : us = (vs.drop o).take n) : RL P cd M Fz w ls us := by
  subst hu
  refine ⟨hok, by rw [e]; simp [h.2.1], fun j c v h1 h2 => ?_⟩
  rw [e] at h1
  rw [List.getElem?_take] at h1 h2
  split at h1
  · rename_i hj
    rw [if_pos hj] at h2
    rw [List.getElem?_drop] at h1 h2
    exact h.2.2 _ c v h1 h2
  · cases h1
theorem RL.cut (ok : CdOk P cd) {cs r : List (C U)} {vs : List Value} {o n : Nat} (h : RL P cd M Fz w cs vs) (e : cutC P cs o n = some r) : RL P cd M Fz w r ((vs.drop o).take n) ∧ o + n ≤ vs.length :=
  have hc := cutC_ok ok h.1 e
  ⟨h.of_leaves o n hc.2.1 hc.1 rfl, by rw [h.2.1]; exact hc.2.2⟩
theorem RL.put (ok : CdOk P cd) {cs r new : List (C U)} {vs us : List Value} {o n : Nat} (h : RL P cd M Fz w cs vs) (hn : RL P cd M Fz w new us) (hl : us.length = n) (e : putC P new n cs o = some r) :
    RL P cd M Fz w r (vs.take o ++ us ++ vs.drop (o + n)) ∧ o + n ≤ vs.length := by
  have hc := putC_ok ok hn.1 h.1 e
  have hle : o + n ≤ vs.length := by rw [h.2.1]; exact hc.2.2
  refine ⟨⟨hc.2.1, ?_, ?_⟩, hle⟩
  · rw [hc.1]; simp [h.2.1, hn.2.1]
  · intro j c v h1 h2
    rw [hc.1] at h1
    have e1 : ((leaves cd cs).take o).length = o := by simp; have := hc.2.2; omega
    have e2 : (vs.take o).length = o := by simp; omega
    rw [List.append_assoc] at h1 h2
    by_cases hj : j < o
    · rw [List.getElem?_append_left (by omega)] at h1 h2
      rw [List.getElem?_take, if_pos hj] at h1 h2
      exact h.2.2 j c v h1 h2
    · rw [List.getElem?_append_right (by omega)] at h1 h2
      rw [e1] at h1; rw [e2] at h2
      by_cases hk : j - o < n
      · rw [List.getElem?_append_left (by rw [← hn.2.1]; omega)] at h1
        rw [List.getElem?_append_left (by omega)] at h2
        exact hn.2.2 _ c v h1 h2
      · rw [List.getElem?_append_right (by rw [← hn.2.1]; omega)] at h1
        rw [List.getElem?_append_right (by omega)] at h2
        rw [← hn.2.1, hl] at h1; rw [hl] at h2
        rw [List.getElem?_drop] at h1 h2
        exact h.2.2 _ c v h1 h2
theorem solidL_mem : ∀ {cs : List (C U)}, solidL cs = true → ∀ c ∈ cs, solid c = true
  | [], _, c, h => by simp at h
  | d :: cs, e, c, h => by
    simp only [solidL, cond_eq_ite] at e
    split at e
    · rename_i hd
      rcases List.mem_cons.1 h with h | h
      · subst h; exact hd
      · exact solidL_mem e c h
    · cases e
theorem RL.scal (ok : CdOk P cd) {cs : List (C U)} {vs : List Value} (h : RL P cd M Fz w cs vs) (hs : solidL cs = true) : ∀ v ∈ vs, v.oneCell' = true := by
  intro v hv
  obtain ⟨j, hj⟩ := List.mem_iff_getElem?.1 hv
  have hlt : j < (leaves cd cs).length := by
    rw [← h.2.1]
    exact (List.getElem?_eq_some_iff.1 hj).1
  have hc : (leaves cd cs)[j]? = some (leaves cd cs)[j] := List.getElem?_eq_getElem hlt
  refine (h.2.2 j _ v hc hj).scal ?_
  have hm : (leaves cd cs)[j] ∈ leaves cd cs := List.getElem_mem hlt
  obtain ⟨c, hc1, hc2⟩ := List.mem_flatMap.1 hm
  have hsc := solidL_mem hs c hc1
  cases c <;> simp only [leaf, List.mem_singleton] at hc2 <;> first | (rw [hc2]; exact hsc) | skip
  obtain ⟨x, _, hx⟩ := List.mem_flatMap.1 hc2
  have := ok.plain _ x _ hx
  revert this
  generalize (leaves cd cs)[j] = q
  cases q <;> simp [plainC, solid]
end
end Go.Ab
