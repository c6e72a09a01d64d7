/- Operators. -/
import Derived.Test.YtjhibcebipjbcaaAbOps1
import Derived.Laws.StructEq
set_option linter.unusedSimpArgs false
namespace Go.Ab
variable {U : Nat → Type}
section
variable {P : Program} {cd : Cd U} {M M' : Mp} {Fz Fz' : Nat → Prop} {w w' : World}

def PurOk (P : Program) (cd : Cd U) (M : Mp) (Fz : Nat → Prop) (w : World) (x : Sem Value) (t : Tree (D U)) : Prop :=
  ∀ d, t.run = some d → ∃ v, x.run P w = .ok v w ∧ RD P cd M Fz w d v
theorem PurOk.one {x : Sem Value} {c : C U} {v : Value} (h : x.run P w = .ok v w) (hr : R1 P cd M Fz w c v) : PurOk P cd M Fz w x (one c) := by
  intro d hd
  simp only [Ab.one, Tree.run, Option.some.injEq] at hd
  subst hd
  exact ⟨v, h, hr⟩
theorem PurOk.fail {x : Sem Value} : PurOk P cd M Fz w x .fail := by intro d hd; cases hd
theorem PurOk.ite {x : Sem Value} {b : Bool} {t e : Tree (D U)} (h1 : b = true → PurOk P cd M Fz w x t) (h2 : b = false → PurOk P cd M Fz w x e) : PurOk P cd M Fz w x (.ite b t e) := by
  intro d hd
  simp only [Tree.run] at hd
  split at hd
  · rename_i h; exact h1 h d hd
  · rename_i h; exact h2 (by simpa using h) d hd
theorem PurOk.opt {x : Sem Value} {β : Type} {o : Option β} {f : β → Tree (D U)} (h : ∀ y, o = some y → PurOk P cd M Fz w x (f y)) : PurOk P cd M Fz w x (.opt β o f) := by
  intro d hd
  simp only [Tree.run] at hd
  cases o with
  | none => cases hd
  | some y => exact h y rfl d hd
theorem PurOk.leaf {x : Sem Value} {d : D U} {v : Value} (h : x.run P w = .ok v w) (hr : RD P cd M Fz w d v) : PurOk P cd M Fz w x (.leaf d) := by
  intro d' hd
  simp only [Tree.run, Option.some.injEq] at hd
  subst hd
  exact ⟨v, h, hr⟩

theorem R1.int_inv {k : IntKind} {n : Int} {v : Value} (h : R1 P cd M Fz w (.int k n) v) : v = .int k n := by cases h; rfl
theorem R1.str_inv {s : List UInt8} {v : Value} (h : R1 P cd M Fz w (.str s) v) : v = .string ⟨s.toArray⟩ := by cases h; rfl
theorem R1.asB_inv {c : C U} {b : Bool} {v : Value} (h : R1 P cd M Fz w c v) (hb : asB c = some b) : v = .bool b := by
  cases h <;> simp [asB] at hb <;> subst hb <;> rfl
theorem asB_bool {c : C U} {b : Bool} (hb : asB c = some b) : c = .kb b ∨ c = .bool b := by
  cases c <;> simp [asB] at hb <;> subst hb <;> simp

theorem guard_plain (op : BinOp) (t : Nat) (x y : Operand) (a b : Value) (ha : a.oneCell' = true) (hn : a ≠ .nilIface) : (eqGuard op t x y a b).run P w = .ok () w := by
  cases a <;> first
    | (simp [Value.oneCell'] at ha; done)
    | exact absurd rfl hn
    | (cases op <;> simp [eqGuard])

theorem bytes_eq (a b : List UInt8) : ((⟨a.toArray⟩ : ByteArray).toList == (⟨b.toArray⟩ : ByteArray).toList) = decide (a = b) := by
  rw [ByteArray.toList_eq, ByteArray.toList_eq]
  simp only []
  rw [Bool.eq_iff_iff]
  simp

theorem bin_int (op : BinOp) (t : Nat) (ox oy : Operand) (k k' : IntKind) (a b : Int) (tr : Tree (D U)) (h : binK P cd t op (.one (.int k a)) (.one (.int k' b)) = .pur tr) :
    PurOk P cd M Fz w (do eqGuard op t ox oy (.int k a) (.int k' b); binOp op t (.int k a) (.int k' b)) tr := by
  have hg := guard_plain (P := P) (w := w) op t ox oy (.int k a) (.int k' b) rfl (by simp)
  have sh : ∀ x, (binOp op t (.int k a) (.int k' b)).run P w = x → (do eqGuard op t ox oy (.int k a) (.int k' b); binOp op t (.int k a) (.int k' b) : Sem Value).run P w = x := by
    intro x hx
    simp only [Sem.run_bind, hg, Result.andThen, hx]
  by_cases hs : op = .shl ∨ op = .shr
  · rcases hs with rfl | rfl
    · simp only [binK, K.pur.injEq] at h
      subst h
      refine .ite (fun hb => .one (sh _ ?_) (.int _ _)) (fun _ => .fail)
      have hb : ¬ b < 0 := by have := of_decide_eq_true hb; omega
      simp [binOp, Op.shift, hb]
    · simp only [binK, K.pur.injEq] at h
      subst h
      refine .ite (fun hb => .one (sh _ ?_) (.int _ _)) (fun _ => .fail)
      have hb : ¬ b < 0 := by have := of_decide_eq_true hb; omega
      simp [binOp, Op.shift, hb]
  · have h1 : op ≠ .shl := fun e => hs (.inl e)
    have h2 : op ≠ .shr := fun e => hs (.inr e)
    cases op <;> first | exact absurd rfl h1 | exact absurd rfl h2 | skip
    all_goals
      simp only [binK, cond_eq_ite, decide_eq_true_eq] at h
      split at h
      case isFalse => injection h with h; subst h; exact .fail
      case isTrue hk =>
        subst hk
        injection h with h
        subst h
        first
          | (refine .one (sh _ ?_) (.int _ _); simp [binOp, Op.intArith]; done)
          | (refine .one (sh _ ?_) (.int _ _); simp only [binOp, ne_eq, not_true_eq_false, if_false]; rfl)
          | (refine .ite (fun _ => .fail) (fun hb => .one (sh _ ?_) (.int _ _)); have hb := of_decide_eq_false hb; simp [binOp, Op.intDiv, hb]; done)
          | (refine .one (sh _ ?_) (.bool _); simp only [binOp, Op.intCmp, ne_eq, not_true_eq_false, if_false]; first | rfl | (congr 3; rw [Bool.eq_iff_iff]; simp))
theorem bin_str (op : BinOp) (t : Nat) (ox oy : Operand) (a b : List UInt8) (tr : Tree (D U)) (h : binK P cd t op (.one (.str a)) (.one (.str b)) = .pur tr) :
    PurOk P cd M Fz w (do eqGuard op t ox oy (.string ⟨a.toArray⟩) (.string ⟨b.toArray⟩); binOp op t (.string ⟨a.toArray⟩) (.string ⟨b.toArray⟩)) tr := by
  have hg := guard_plain (P := P) (w := w) op t ox oy (.string ⟨a.toArray⟩) (.string ⟨b.toArray⟩) rfl (by simp)
  have sh : ∀ x, (binOp op t (.string ⟨a.toArray⟩) (.string ⟨b.toArray⟩)).run P w = x → (do eqGuard op t ox oy (.string ⟨a.toArray⟩) (.string ⟨b.toArray⟩); binOp op t (.string ⟨a.toArray⟩) (.string ⟨b.toArray⟩) : Sem Value).run P w = x := by
    intro x hx
    simp only [Sem.run_bind, hg, Result.andThen, hx]
  cases op <;> simp only [binK, K.pur.injEq] at h <;> subst h <;> first | exact .fail | skip
  · refine .ite (fun hb => .one (sh _ ?_) (.str _)) (fun _ => .fail)
    have hb := of_decide_eq_true hb
    have e : IntKind.i64.max = 9223372036854775807 := by decide
    have : ¬ (((⟨a.toArray⟩ : ByteArray).size + (⟨b.toArray⟩ : ByteArray).size : Nat) : Int) > IntKind.i64.max := by
      rw [e]
      have h1 : (⟨a.toArray⟩ : ByteArray).size = a.length := by simp [ByteArray.size]
      have h2 : (⟨b.toArray⟩ : ByteArray).size = b.length := by simp [ByteArray.size]
      omega
    simp only [binOp, Op.stringOp, if_neg this]
    have e2 : (⟨a.toArray⟩ : ByteArray) ++ ⟨b.toArray⟩ = ⟨(a ++ b).toArray⟩ := by
      apply ByteArray.ext
      simp
    rw [e2]
    rfl
  · refine .one (sh _ ?_) (.bool _)
    simp only [binOp, Op.stringOp, bytes_eq]
    rfl
  · refine .one (sh _ ?_) (.bool _)
    simp only [binOp, Op.stringOp, bytes_eq]
    rfl
end
end Go.Ab
