/- More codecs, and equality of elements. -/
import Derived.Test.YtjhibcebipjbcaaAbFun
set_option linter.unusedSimpArgs false
namespace Go.Ab
variable {U : Nat → Type} {α β γ : Type}
section
variable {P : Program}
theorem eqT_int (cd : Cd U) {t : Nat} {k : IntKind} (h : P.underlying t = some (.int k)) (x y : Int) : eqT P cd false 4 t [.int k x] [.int k y] = some (decide (x = y)) := by
  simp only [eqT, h, decide_true, cond_true]
theorem eqT_bool (cd : Cd U) {t : Nat} (h : P.underlying t = some .bool) (x y : Bool) : eqT P cd false 4 t [.bool x] [.bool y] = some (decide (x = y)) := by
  simp only [eqT, h, asB]
  cases x <;> cases y <;> rfl
theorem eqT_string (cd : Cd U) {t : Nat} (h : P.underlying t = some .string) (x y : List UInt8) : eqT P cd false 4 t [.str x] [.str y] = some (decide (x = y)) := by
  simp only [eqT, h]
end
/-- a place in an array, a place in a row: the index is the value -/
def cAp (b o t sub : Nat) : Cdc U Nat := ⟨fun i => [.ap b o t i sub], fun
  | .ap b' o' t' i sub' :: r => bif Nat.beq b' b && Nat.beq o' o && Nat.beq t' t && Nat.beq sub' sub then some (i, r) else none
  | _ => none⟩
theorem cAp_ok (b o t sub : Nat) : (cAp b o t sub : Cdc U Nat).Ok := by
  intro cs x r h
  simp only [cAp, cond_eq_ite] at h
  split at h
  · split at h
    · rename_i hb
      simp only [Bool.and_eq_true] at hb
      simp only [Option.some.injEq, Prod.mk.injEq] at h
      obtain ⟨rfl, rfl⟩ := h
      rw [Nat.eq_of_beq_eq_true hb.1.1.1, Nat.eq_of_beq_eq_true hb.1.1.2, Nat.eq_of_beq_eq_true hb.1.2, Nat.eq_of_beq_eq_true hb.2]
      rfl
    · cases h
  · cases h
def cElp (b v sub : Nat) : Cdc U Nat := ⟨fun i => [.elp b v i sub], fun
  | .elp b' v' i sub' :: r => bif Nat.beq b' b && Nat.beq v' v && Nat.beq sub' sub then some (i, r) else none
  | _ => none⟩
theorem cElp_ok (b v sub : Nat) : (cElp b v sub : Cdc U Nat).Ok := by
  intro cs x r h
  simp only [cElp, cond_eq_ite] at h
  split at h
  · split at h
    · rename_i hb
      simp only [Bool.and_eq_true] at hb
      simp only [Option.some.injEq, Prod.mk.injEq] at h
      obtain ⟨rfl, rfl⟩ := h
      rw [Nat.eq_of_beq_eq_true hb.1.1, Nat.eq_of_beq_eq_true hb.1.2, Nat.eq_of_beq_eq_true hb.2]
      rfl
    · cases h
  · cases h
/-- a part of a row: where it begins, and how long it is -/
def cOwn (b v : Nat) : Cdc U (Nat × Nat) := ⟨fun p => [.own b v p.1 p.2], fun
  | .own b' v' lo n :: r => bif Nat.beq b' b && Nat.beq v' v then some ((lo, n), r) else none
  | _ => none⟩
theorem cOwn_ok (b v : Nat) : (cOwn b v : Cdc U (Nat × Nat)).Ok := by
  intro cs x r h
  simp only [cOwn, cond_eq_ite] at h
  split at h
  · split at h
    · rename_i hb
      simp only [Bool.and_eq_true] at hb
      simp only [Option.some.injEq, Prod.mk.injEq] at h
      obtain ⟨rfl, rfl⟩ := h
      rw [Nat.eq_of_beq_eq_true hb.1, Nat.eq_of_beq_eq_true hb.2]
      rfl
    · cases h
  · cases h
end Go.Ab
