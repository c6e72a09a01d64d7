/- Typed values, and how they are told in cells. -/
import Derived.Test.YtjhibcebipjbcaaAbOps22
set_option linter.unusedSimpArgs false
namespace Go.Ab
variable {U : Nat → Type}

/-- How the values of a type are told in cells. -/
structure Cdc (U : Nat → Type) (α : Type) where
  enc : α → List (C U)
  dec : List (C U) → Option (α × List (C U))
def Cdc.Ok {α : Type} (c : Cdc U α) : Prop := ∀ cs x r, c.dec cs = some (x, r) → cs = c.enc x ++ r
def cBool : Cdc U Bool := ⟨fun b => [.bool b], fun | .bool b :: r => some (b, r) | _ => none⟩
def cInt (k : IntKind) : Cdc U Int := ⟨fun n => [.int k n], fun | .int k' n :: r => if k' = k then some (n, r) else none | _ => none⟩
def cStr : Cdc U (List UInt8) := ⟨fun s => [.str s], fun | .str s :: r => some (s, r) | _ => none⟩
def cSl (t : Nat) : Cdc U (List (U t)) := ⟨fun l => [.sl t l false], fun
  | .sl t' l false :: r => if h : t' = t then some (h ▸ l, r) else none
  | _ => none⟩
def cArr (t n : Nat) : Cdc U (List (U t)) := ⟨fun l => [.arr t n l], fun
  | .arr t' n' l :: r => if h : t' = t then (if n' = n then some (h ▸ l, r) else none) else none
  | _ => none⟩
def cUnit : Cdc U Unit := ⟨fun _ => [], fun cs => some ((), cs)⟩
def cPair {α β : Type} (c : Cdc U α) (d : Cdc U β) : Cdc U (α × β) := ⟨fun x => c.enc x.1 ++ d.enc x.2, fun cs => (c.dec cs).bind fun p => (d.dec p.2).map fun q => ((p.1, q.1), q.2)⟩
def cMap {α β : Type} (f : α → β) (g : β → α) (c : Cdc U α) : Cdc U β := ⟨fun x => c.enc (g x), fun cs => (c.dec cs).map fun p => (f p.1, p.2)⟩
/-- a cell that is no part of the value -/
def cLit {α : Type} (x : C U) (is : C U → Bool) (c : Cdc U α) : Cdc U α := ⟨fun y => x :: c.enc y, fun
  | z :: r => bif is z then c.dec r else none
  | [] => none⟩
theorem cBool_ok : (cBool : Cdc U Bool).Ok := by
  intro cs x r h
  simp only [cBool] at h
  split at h
  · simp only [Option.some.injEq, Prod.mk.injEq] at h; obtain ⟨rfl, rfl⟩ := h; rfl
  · cases h
theorem cInt_ok (k : IntKind) : (cInt k : Cdc U Int).Ok := by
  intro cs x r h
  simp only [cInt] at h
  split at h
  · split at h
    · rename_i e; subst e; simp only [Option.some.injEq, Prod.mk.injEq] at h; obtain ⟨rfl, rfl⟩ := h; rfl
    · cases h
  · cases h
theorem cStr_ok : (cStr : Cdc U (List UInt8)).Ok := by
  intro cs x r h
  simp only [cStr] at h
  split at h
  · simp only [Option.some.injEq, Prod.mk.injEq] at h; obtain ⟨rfl, rfl⟩ := h; rfl
  · cases h
theorem cSl_ok (t : Nat) : (cSl t : Cdc U (List (U t))).Ok := by
  intro cs x r h
  simp only [cSl] at h
  split at h
  · split at h
    · rename_i e; subst e; simp only [Option.some.injEq, Prod.mk.injEq] at h; obtain ⟨rfl, rfl⟩ := h; rfl
    · cases h
  · cases h
theorem cArr_ok (t n : Nat) : (cArr t n : Cdc U (List (U t))).Ok := by
  intro cs x r h
  simp only [cArr] at h
  split at h
  · split at h
    · rename_i e; subst e
      split at h
      · rename_i e; subst e; simp only [Option.some.injEq, Prod.mk.injEq] at h; obtain ⟨rfl, rfl⟩ := h; rfl
      · cases h
    · cases h
  · cases h
theorem cUnit_ok : (cUnit : Cdc U Unit).Ok := by
  intro cs x r h
  simp only [cUnit, Option.some.injEq, Prod.mk.injEq, true_and] at h
  subst h
  rfl
theorem cPair_ok {α β : Type} {c : Cdc U α} {d : Cdc U β} (hc : c.Ok) (hd : d.Ok) : (cPair c d).Ok := by
  intro cs x r h
  simp only [cPair] at h
  obtain ⟨p, h1, h2⟩ := Option.bind_eq_some_iff.1 h
  obtain ⟨q, h3, h4⟩ := Option.map_eq_some_iff.1 h2
  simp only [Prod.mk.injEq] at h4
  obtain ⟨rfl, rfl⟩ := h4
  rw [hc cs p.1 p.2 h1, hd p.2 q.1 q.2 h3]
  simp [cPair]
theorem cMap_ok {α β : Type} {f : α → β} {g : β → α} {c : Cdc U α} (hc : c.Ok) (hg : ∀ x, g (f x) = x) : (cMap f g c).Ok := by
  intro cs x r h
  simp only [cMap] at h
  obtain ⟨p, h1, h2⟩ := Option.map_eq_some_iff.1 h
  simp only [Prod.mk.injEq] at h2
  obtain ⟨rfl, rfl⟩ := h2
  rw [hc cs p.1 p.2 h1]
  simp [cMap, hg]
theorem cLit_ok {α : Type} {x : C U} {is : C U → Bool} {c : Cdc U α} (hc : c.Ok) (hi : ∀ z, is z = true → z = x) : (cLit x is c).Ok := by
  intro cs y r h
  simp only [cLit] at h
  split at h
  · rw [cond_eq_ite] at h
    split at h
    · rename_i h1
      rw [hi _ h1, hc _ y r h]
      rfl
    · cases h
  · cases h

/-! ### the element types -/
def findT : List (Nat × Type) → Nat → Type
  | [], _ => Empty
  | (k, α) :: l, t => match Nat.beq k t with | true => α | false => findT l t
/-- What is told of one element type. -/
structure Ent (U : Nat → Type) (α : Type) where
  c : Cdc U α
  zero : Option α
  bytes : Option ((α → Int) × (Int → α))
  deq : Option (DecidableEq α)
inductive Ents (U : Nat → Type) : List (Nat × Type) → Type 1
  | nil : Ents U []
  | cons {k : Nat} {α : Type} {l : List (Nat × Type)} (e : Ent U α) (r : Ents U l) : Ents U ((k, α) :: l)
def pickE {α β : Type} (e : Ent U α) (r : Option (Ent U β)) : (b : Bool) → Option (Ent U (match b with | true => α | false => β))
  | true => some e
  | false => r
def Ents.get : {l : List (Nat × Type)} → Ents U l → (t : Nat) → Option (Ent U (findT l t))
  | _, .nil, _ => none
  | _, .cons (k := k) (α := α) (l := l) e r, t =>
    pickE e (r.get t) (Nat.beq k t)
theorem Ents.get_none : {l : List (Nat × Type)} → (es : Ents U l) → (t : Nat) → es.get t = none → findT l t → False
  | _, .nil, _, _, x => nomatch x
  | _, .cons (k := k) (α := α) (l := l) e r, t, h, x => by
    have h : pickE e (r.get t) (Nat.beq k t) = none := h
    have x : (match Nat.beq k t with | true => α | false => findT l t) := x
    revert h x
    generalize Nat.beq k t = b
    intro h x
    cases b with
    | true => cases h
    | false => exact Ents.get_none r t h x
structure EntOk (P : Program) {α : Type} (t : Nat) (e : Ent U α) : Prop where
  ok : e.c.Ok
  len : ∀ x, (e.c.enc x).length = P.cellsOf t
  plain : ∀ x c, c ∈ e.c.enc x → plainC c = true
  bytes : ∀ f g, e.bytes = some (f, g) → P.cellsOf t = 1 ∧ (∀ x, e.c.enc x = [.int .u8 (f x)]) ∧ ∀ b : UInt8, e.c.enc (g b.toNat) = [.int .u8 b.toNat]
  eq : ∀ d, e.deq = some d → ∀ (cd : Cd U) x y, eqT P cd false 4 t (e.c.enc x) (e.c.enc y) = some (@decide (x = y) (d x y))
def EntsOk (P : Program) : {l : List (Nat × Type)} → Ents U l → Prop
  | _, .nil => True
  | _, .cons (k := k) e r => EntOk P k e ∧ EntsOk P r
theorem EntsOk.get {P : Program} : {l : List (Nat × Type)} → (es : Ents U l) → EntsOk P es → ∀ t e, es.get t = some e → EntOk P t e
  | _, .nil, _, t, e, h => by cases h
  | _, .cons (k := k) (α := α) (l := l) e0 r, ho, t, e, h => by
    have hk : Nat.beq k t = true → k = t := Nat.eq_of_beq_eq_true
    have key : ∀ (b : Bool) (e : Ent U (match b with | true => α | false => findT l t)), (b = true → k = t) → pickE e0 (r.get t) b = some e → EntOk P t e := by
      intro b e hb h
      cases b with
      | true =>
        have hkt := hb rfl
        have h : some e0 = some e := h
        injection h with h
        rw [← hkt, ← h]
        exact ho.1
      | false => exact EntsOk.get r ho.2 t e h
    exact key (Nat.beq k t) e hk h
def full {α : Type} : Option (α × List (C U)) → Option α
  | some (x, []) => some x
  | _ => none
/-- the element types as the machine wants them -/
def cdOf {l : List (Nat × Type)} (es : Ents (findT l) l) : Cd (findT l) where
  has t := (es.get t).isSome
  enc t x := match es.get t with | some e => e.c.enc x | none => []
  dec t cs := match es.get t with | some e => full (e.c.dec (cs.map canC)) | none => none
  zero t := match es.get t with | some e => e.zero | none => none
  bytes t l := match es.get t with | some e => (match e.bytes with | some (f, _) => some (l.map fun x => UInt8.ofNat (f x).toNat) | none => none) | none => none
  ofBytes t s := match es.get t with | some e => (match e.bytes with | some (_, g) => some (s.map fun b => g b.toNat) | none => none) | none => none
  deq t := match es.get t with | some e => e.deq | none => none
theorem full_some {α : Type} {o : Option (α × List (C U))} {x : α} (h : full o = some x) : o = some (x, []) := by
  unfold full at h
  split at h
  · injection h with h; subst h; rfl
  · cases h
theorem cdOf_ok {P : Program} {l : List (Nat × Type)} (es : Ents (findT l) l) (h : EntsOk P es) : CdOk P (cdOf es) := by
  have hg := EntsOk.get es h
  have plain : ∀ t x c, c ∈ (cdOf es).enc t x → plainC c = true := by
    intro t x c hc
    simp only [cdOf] at hc
    cases he : es.get t with
    | none => rw [he] at hc; simp at hc
    | some e => rw [he] at hc; exact (hg t e he).plain x c hc
  refine ⟨?_, plain, ?_, ?_, ?_, ?_⟩
  · intro t x
    simp only [cdOf]
    cases he : es.get t with
    | none => exact (Ents.get_none es t he x).elim
    | some e => exact (hg t e he).len x
  · intro t cs x hd M Fz w vs hr
    simp only [cdOf] at hd
    cases he : es.get t with
    | none => rw [he] at hd; cases hd
    | some e =>
      rw [he] at hd
      have h1 := (hg t e he).ok _ _ _ (full_some hd)
      rw [List.append_nil] at h1
      have h2 : (cdOf es).enc t x = cs.map canC := by
        simp only [cdOf, he]
        exact h1.symm
      rw [h2]
      exact RL.canp plain hr
  · intro t l s hb
    simp only [cdOf] at hb
    cases he : es.get t with
    | none => rw [he] at hb; cases hb
    | some e =>
      rw [he] at hb
      simp only [] at hb
      cases hf : e.bytes with
      | none => rw [hf] at hb; cases hb
      | some p =>
        rw [hf] at hb
        simp only [Option.some.injEq] at hb
        obtain ⟨h1, h2, _⟩ := (hg t e he).bytes p.1 p.2 (by rw [hf])
        refine ⟨h1, l.map p.1, ?_, ?_⟩
        · simp only [cdOf, he]
          rw [List.map_map]
          clear hb
          induction l with
          | nil => rfl
          | cons x l ih => rw [List.flatMap_cons, ih, h2, List.map_cons]; rfl
        · rw [← hb, List.map_map]; rfl
  · intro t s l hb
    simp only [cdOf] at hb
    cases he : es.get t with
    | none => rw [he] at hb; cases hb
    | some e =>
      rw [he] at hb
      simp only [] at hb
      cases hf : e.bytes with
      | none => rw [hf] at hb; cases hb
      | some p =>
        rw [hf] at hb
        simp only [Option.some.injEq] at hb
        obtain ⟨_, _, h3⟩ := (hg t e he).bytes p.1 p.2 (by rw [hf])
        subst hb
        refine ⟨by simp, ?_⟩
        simp only [cdOf, he]
        induction s with
        | nil => rfl
        | cons b s ih => simp [h3, ih]
  · intro t d x y hd
    simp only [cdOf] at hd
    cases he : es.get t with
    | none => rw [he] at hd; cases hd
    | some e =>
      rw [he] at hd
      have := (hg t e he).eq d hd (cdOf es) x y
      simp only [cdOf, he] at this ⊢
      exact this
end Go.Ab
