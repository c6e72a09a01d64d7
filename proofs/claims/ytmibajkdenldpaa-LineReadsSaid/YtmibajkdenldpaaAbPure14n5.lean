/- The law LineReads holds of the typed functions. -/
import Derived.Test.YtmibajkdenldpaaAbPure14
set_option linter.unusedSimpArgs false
namespace Go.Proofs.Ytmibajkdenldpaa
open Go Go.Ab
theorem Read2 (l : Line) : line_Read l 2 = some ({ l with rxReady := false, overrun := false }, if l.overrun then IntKind.wrap .i64 (l.rxData + 32768) else l.rxData) := by
  simp only [line_Read, Tline_Read, Tree.run]
  cases l.overrun <;> simp
theorem Read0 (l : Line) : line_Read l 0 = some (l, (if l.rxEnable then 64 else 0) + (if l.rxReady then 128 else 0)) := by
  simp only [line_Read, Tline_Read, Tree.run, status_eq, bits_def]
  simp
theorem pf_law14_LineReads (x : Line × Int × Unit) (_ : Glaw14_LineReads x) : law14_LineReads none x.1 x.2.1 = some true := by
  obtain ⟨l, b, u⟩ := x
  have hb0 : 0 ≤ b % 256 := Int.emod_nonneg _ (by omega)
  have hb1 : b % 256 < 256 := Int.emod_lt_of_pos _ (by omega)
  have hw : IntKind.wrap .i64 (b % 256 + 32768) = b % 256 + 32768 := wrap_id (by omega) (by omega)
  have h1 : (b % 256 + 32768) % 256 = b % 256 := by omega
  have h2 : b % 256 % 256 = b % 256 := by omega
  have h3 : ¬ (32768 ≤ b % 256) := by omega
  have h4 : 32768 ≤ b % 256 + 32768 := by omega
  have e1 : IntKind.wrap .i64 ((BitVec.ofInt 64 0 &&& BitVec.ofInt 64 (128 : Int)).toNat : Int) = 0 := by kernel_rfl
  have e2 : IntKind.wrap .i64 ((BitVec.ofInt 64 64 &&& BitVec.ofInt 64 (128 : Int)).toNat : Int) = 0 := by kernel_rfl
  have e3 : IntKind.wrap .i64 0 = 0 := by kernel_rfl
  obtain ⟨re, rr, ov, rx, te, tr, tx, tl, out⟩ := l
  simp only [law14_LineReads, Tlaw14_LineReads, Tree.run, ref14_Right_def, Type_eq, Type_some, Read2, Read0, Option.bind_some, and255, hw]
  by_cases hr : Rt ⟨re, rr, ov, rx, te, tr, tx, tl, out⟩
  · cases rr <;> cases ov <;> cases re <;> simp [hr, h1, h2, h3, h4, e1, e2, e3, hw, alive_true]
  · simp [hr]
end Go.Proofs.Ytmibajkdenldpaa
