/- strings.Clone: the same bytes; from the library's contract. -/
import Derived.Test.YtjhibcebipjbcaaAbFresh
import Derived.Shelf.Pu.Clone
set_option linter.unusedSimpArgs false
namespace Go.Ab
open Go.Shelf Go.RowKit Go.Lib Go.Proofs
variable {U : Nat → Type}
section
variable {P : Program} {cd : Cd U} {ρ : Ren}
/-- what a clone of a string comes to -/
def strCloneF (s : List UInt8) : Option (List UInt8) := if s.length ≤ 281474976710656 then some s else none
theorem strClone_ok (L : LaysPu.n25 P ρ) {f : Nat} {fn : Func} (hf : P.funcs[f]? = some fn) (hname : (fn.name == "runtime.NumGoroutine") = false) (hb : fn.body.isSome = true) (hff : ρ.f 25 = f) : FnOk P cd f (mkSpec (aO cStr aNil : Arg U (List UInt8 × Unit)) bNil (fun x _ => strCloneF x.1) fun r => ([vO cStr r], [])) := by
  subst hff
  intro M Fz w hp args vargs hhr hargs r hs x hx p hp1
  unfold mkSpec at hs
  split at hs
  · rename_i y g h1 h2
    injection hs with hs
    subst hs
    have hx : strCloneF y.1 = some x := hx
    unfold strCloneF at hx
    split at hx
    · rename_i hlen
      injection hx with hx
      have hp1 : some (([vO cStr x], []) : List (V U) × List (Blk U)) = some p := hp1
      injection hp1 with hp1
      subst hp1
      have ha := (aO_ok cStr_ok (aNil_ok (U := U))) _ _ h1
      have hbk := (bNil_ok (U := U)) _ _ h2
      have hp0 : hp = [] := hbk
      subst hp0
      have ha : args = [.one (.str y.1)] := ha
      subst ha
      refine ⟨fn, hf, hname, hb, ?_⟩
      obtain ⟨u, rfl⟩ : ∃ u, vargs = [u] := by
        have := hargs.1
        match vargs, this with
        | [u], _ => exact ⟨u, rfl⟩
      have h0 : R1 P cd M Fz w (.str y.1) u := hargs.2 0 _ u rfl rfl
      cases h0
      have hM : ∀ b, M b = none := fun b => hhr.out b (Nat.zero_le _)
      refine (AnyPu.stringslite_Clone L ⟨y.1.toArray⟩ w (by simpa [ByteArray.size] using hlen)).mono fun e w' ⟨he, hbel⟩ => ⟨_, he, ?_⟩
      refine ⟨M, Fz, ?_, ?_, .refl _, fun k hk => ⟨hk, hbel.block k (hhr.frz k hk)⟩, ⟨hbel.os, hbel.tape, hbel.output, hbel.size, fun k hk _ => hbel.block k hk⟩, fun k hk => .inl hk, fun k hk => .inl hk⟩
      · subst hx
        exact R1.str y.1
      · refine ⟨fun b z hz => absurd hz (by simp), fun b _ => hM b, fun b b' i i' k h3 => absurd h3 (by rw [hM]; simp), fun b i k h3 => absurd h3 (by rw [hM]; simp), fun k hk => ?_, fun b i k h3 => absurd h3 (by rw [hM]; simp)⟩
        have := hhr.frz k hk
        have := hbel.size
        omega
    · cases hx
  · cases hs
end
end Go.Ab
