/- (goes on) -/
import Derived.Test.YtfdndagnolbnhaaAb18p0
set_option linter.unusedSimpArgs false
namespace Go.Proofs.Ytfdndagnolbnhaa
open Go Go.Ab
/-- emulator/emulatorref18.Physical -/
noncomputable def Tref18_Physical (x0 : Int) : Tree Int :=
  .ite (decide ((262144 : Int) = 0))
    .fail
    (.ite (decide (((x0).tmod (262144 : Int)) < (0 : Int)))
      (.leaf (IntKind.wrap .i64 (((x0).tmod (262144 : Int)) + (262144 : Int))))
      (.leaf ((x0).tmod (262144 : Int))))
noncomputable def ref18_Physical (x0 : Int) : Option Int := (Tref18_Physical x0).run
noncomputable def Aref18_Physical : Arg U (Int × Unit) := aO (cInt .i64) (aNil)
noncomputable def Rref18_Physical (r : Int) : List (V U) × List (Blk U) := ([vO (cInt .i64) r], [])
noncomputable def Sref18_Physical : List (V U) → List (Blk U) → Option (FnOut U) := mkSpec Aref18_Physical bNil (fun x _ => ref18_Physical x.1) Rref18_Physical
noncomputable def Eref18_Physical : Env U := { P := Try.prog, cd := cd, fns := fns9, lps := noL, frz := fun _r => false, nt := 11, n0 := 0 }
theorem runref18_Physical (x : Int × Unit) (g : Unit) : execF Eref18_Physical Try.f25 (Aref18_Physical.enc x) (bNil.enc g) = (Tref18_Physical x.1).map Rref18_Physical := by kernel_rfl
theorem okref18_Physical : FnOk Try.prog cd 25 Sref18_Physical := mk_ok (E := Eref18_Physical) cd_ok fns9_ok Try.func25 (by kernel_rfl) (noLoops_body (by kernel_rfl)) (aO_ok (cInt_ok .i64) (aNil_ok)) bNil_ok (T := fun x _ => Tref18_Physical x.1) (fun _ _ => rfl) runref18_Physical
noncomputable def fns25 := addF 25 true Sref18_Physical fns9
theorem fns25_ok : ∀ f q t, fns25 f = some (q, t) → FnOk Try.prog cd f t := addF_ok okref18_Physical fns9_ok
/-- emulator/emulatorref08.access -/
noncomputable def Tref08_access (x0 : (List Int)) (x1 : Int) (x2 : Bool) : Tree Int :=
  .ite (decide (x1 < (0 : Int)))
    (.leaf ((1 : Int)))
    (.ite (decide ((IntKind.wrap .i64 ((2 : Int) * (x0.length : Int))) ≤ x1))
      (.leaf ((1 : Int)))
      (.ite (!x2)
        (.ite (decide ((2 : Int) = 0))
          .fail
          (.ite (!decide (((x1).tmod (2 : Int)) = (0 : Int)))
            (.leaf ((1 : Int)))
            (.leaf ((0 : Int)))))
        (.leaf ((0 : Int)))))
noncomputable def ref08_access (x0 : (List Int)) (x1 : Int) (x2 : Bool) : Option Int := (Tref08_access x0 x1 x2).run
noncomputable def Aref08_access : Arg U ((List Int) × Int × Bool × Unit) := aO (cSl 3) (aO (cInt .i64) (aO cBool (aNil)))
noncomputable def Rref08_access (r : Int) : List (V U) × List (Blk U) := ([vO (cInt .i64) r], [])
noncomputable def Sref08_access : List (V U) → List (Blk U) → Option (FnOut U) := mkSpec Aref08_access bNil (fun x _ => ref08_access x.1 x.2.1 x.2.2.1) Rref08_access
noncomputable def Eref08_access : Env U := { P := Try.prog, cd := cd, fns := fns25, lps := noL, frz := fun _r => false, nt := 25, n0 := 0 }
theorem runref08_access (x : (List Int) × Int × Bool × Unit) (g : Unit) : execF Eref08_access Try.f59 (Aref08_access.enc x) (bNil.enc g) = (Tref08_access x.1 x.2.1 x.2.2.1).map Rref08_access := by kernel_rfl
theorem okref08_access : FnOk Try.prog cd 59 Sref08_access := mk_ok (E := Eref08_access) cd_ok fns25_ok Try.func59 (by kernel_rfl) (noLoops_body (by kernel_rfl)) (aO_ok (cSl_ok 3) (aO_ok (cInt_ok .i64) (aO_ok cBool_ok (aNil_ok)))) bNil_ok (T := fun x _ => Tref08_access x.1 x.2.1 x.2.2.1) (fun _ _ => rfl) runref08_access
noncomputable def fns59 := addF 59 true Sref08_access fns25
theorem fns59_ok : ∀ f q t, fns59 f = some (q, t) → FnOk Try.prog cd f t := addF_ok okref08_access fns25_ok
/-- emulator/emulatorref08.Has -/
structure Sref08_Has_0 where
  t0 : (List Int)
  t1 : Int
  t5 : Int
noncomputable def Wref08_Has_0 (s : Sref08_Has_0) : Tree (Sref08_Has_0 ⊕ (Bool ⊕ Unit)) :=
  .ite (decide (s.t5 < (s.t0.length : Int)))
    (.ite (decide (0 ≤ s.t5))
      (.opt Int (s.t0[(s.t5).toNat]?) fun y181 =>
        .ite (decide (y181 = s.t1))
          (.leaf (.inr (.inl true)))
          (.leaf (.inl (Sref08_Has_0.mk s.t0 s.t1 (IntKind.wrap .i64 (s.t5 + (1 : Int)))))))
      .fail)
    (.leaf (.inr (.inr ())))
noncomputable def Lref08_Has_0 (q : Option Nat) (s : Sref08_Has_0) : Option (Bool ⊕ Unit) := limQ q (fun s => (Wref08_Has_0 s).run) s
theorem leLref08_Has_0 (k : Nat) (s : Sref08_Has_0) : Le (Lref08_Has_0 (some k) s) (Lref08_Has_0 none s) := limQ_le (fun _ => Le.rfl) s
noncomputable def Tref08_Has (q : Option Nat) (x0 : (List Int)) (x1 : Int) : Tree Bool :=
  .opt (Bool ⊕ Unit) (Lref08_Has_0 q (Sref08_Has_0.mk x0 x1 (0 : Int))) fun l182 =>
    .ite (l182.isLeft)
      (.opt Bool (l182.getLeft?) fun a183 =>
        .leaf (a183))
      (.opt Unit (l182.getRight?) fun b184 =>
        .leaf (false))
noncomputable def ref08_Has (q : Option Nat) (x0 : (List Int)) (x1 : Int) : Option Bool := (Tref08_Has q x0 x1).run
theorem leref08_Has (k : Nat) (x0 : (List Int)) (x1 : Int) : Le (ref08_Has (some k) x0 x1) (ref08_Has none x0 x1) := (TLe.opt (leLref08_Has_0 k _) fun _ => TLe.rfl)
noncomputable def Aref08_Has : Arg U ((List Int) × Int × Unit) := aO (cSl 3) (aO (cInt .i64) (aNil))
noncomputable def Rref08_Has (r : Bool) : List (V U) × List (Blk U) := ([vO cBool r], [])
noncomputable def Sref08_Has : List (V U) → List (Blk U) → Option (FnOut U) := mkSpec Aref08_Has bNil (fun x _ => ref08_Has none x.1 x.2.1) Rref08_Has
noncomputable def Pref08_Has_0 (x : ((List Int) × Unit) × (Int × Unit) × (Int × Unit) × Unit) (_g : Unit) : Sref08_Has_0 := Sref08_Has_0.mk x.1.1 x.2.1.1 x.2.2.1.1
noncomputable def tAref08_Has_0 : Tms U (((List Int) × Unit) × (Int × Unit) × (Int × Unit) × Unit) := tO 0 (cPair (cSl 3) (cUnit)) (tO 1 (cPair (cInt .i64) (cUnit)) (tO 5 (cPair (cInt .i64) (cUnit)) (tNil)))
noncomputable def tBref08_Has_0 : Bls U (Unit) := bNil
noncomputable def eSref08_Has_0 (s : Sref08_Has_0) : St U := { tm := [(0, .v (vO (cPair (cSl 3) (cUnit)) (s.t0, ()))), (1, .v (vO (cPair (cInt .i64) (cUnit)) (s.t1, ()))), (5, .v (vO (cPair (cInt .i64) (cUnit)) (s.t5, ())))], hp := [] }
noncomputable def xSref08_Has_0 : (Bool ⊕ Unit) → Ex × St U
  | .inl r => (.ret, { tm := [(4, .v (vO (cPair cBool (cUnit)) (r, ())))], hp := [] })
  | .inr r => (.exit 0, { tm := [], hp := [] })
noncomputable def xTref08_Has_0 (y : (Bool ⊕ Unit)) : Tree (Ex × St U) := .ite y.isLeft (.opt Bool y.getLeft? fun r => .leaf (.ret, { tm := [(4, .v (vO (cPair cBool (cUnit)) (r, ())))], hp := [] })) (.opt Unit y.getRight? fun r => .leaf (.exit 0, { tm := [], hp := [] }))
noncomputable def href08_Has_0 : Hd := { keep := [0, 1, 5], xkeep := [4], own := false }
noncomputable def Eref08_Has : Env U := { P := Try.prog, cd := cd, fns := fns59, lps := (addL 0 href08_Has_0 (mkLoop tAref08_Has_0 tBref08_Has_0 Pref08_Has_0 (Lref08_Has_0 none) xTref08_Has_0) noL), frz := fun _r => false, nt := 18, n0 := 0 }
noncomputable def Bref08_Has_0 : Code := (loopAt (Try.f60.body.getD .skip) 0 0).getD .skip
theorem roundref08_Has_0 (s : Sref08_Has_0) : round Eref08_Has href08_Has_0 Bref08_Has_0 0 (eSref08_Has_0 s) = (Wref08_Has_0 s).map (sumE eSref08_Has_0 xSref08_Has_0) := by kernel_rfl
theorem lpref08_Has_0 : LpOk Eref08_Has Bref08_Has_0 0 := mkLoop_ok (A := tAref08_Has_0) (B := tBref08_Has_0) (f := Pref08_Has_0) (L := Lref08_Has_0 none) (tO_ok (cPair_ok (cSl_ok 3) cUnit_ok) (tO_ok (cPair_ok (cInt_ok .i64) cUnit_ok) (tO_ok (cPair_ok (cInt_ok .i64) cUnit_ok) tNil_ok))) bNil_ok (enc := eSref08_Has_0) (out := xTref08_Has_0) (outS := xSref08_Has_0) (step := Wref08_Has_0) (fun _ => rfl) (fun _ _ => by kernel_rfl) (by kernel_rfl) (fun b => by cases b <;> rfl) roundref08_Has_0
theorem runref08_Has (x : (List Int) × Int × Unit) (g : Unit) : execF Eref08_Has Try.f60 (Aref08_Has.enc x) (bNil.enc g) = (Tref08_Has none x.1 x.2.1).map Rref08_Has := by kernel_rfl
theorem okref08_Has : FnOk Try.prog cd 60 Sref08_Has := mk_ok (E := Eref08_Has) cd_ok fns59_ok Try.func60 (by kernel_rfl) (loops_of (addL_ok lpref08_Has_0 noL_ok)) (aO_ok (cSl_ok 3) (aO_ok (cInt_ok .i64) (aNil_ok))) bNil_ok (T := fun x _ => Tref08_Has none x.1 x.2.1) (fun _ _ => rfl) runref08_Has
noncomputable def fns60 := addF 60 true Sref08_Has fns59
theorem fns60_ok : ∀ f q t, fns60 f = some (q, t) → FnOk Try.prog cd f t := addF_ok okref08_Has fns59_ok
/-- emulator/emulatorref08.Byte -/
noncomputable def Tref08_Byte (x0 : (List Int)) (x1 : Int) : Tree Int :=
  .ite (decide ((2 : Int) = 0))
    .fail
    (.ite (decide (((x1).tmod (2 : Int)) = (0 : Int)))
      (.ite (decide ((2 : Int) = 0))
        .fail
        (.ite (decide (0 ≤ IntKind.wrap .i64 ((x1).tdiv (2 : Int))))
          (.opt Int (x0[(IntKind.wrap .i64 ((x1).tdiv (2 : Int))).toNat]?) fun y185 =>
            .leaf (IntKind.wrap .i64 (((BitVec.ofInt 64 y185 &&& BitVec.ofInt 64 (255 : Int)).toNat : Int))))
          .fail))
      (.ite (decide ((2 : Int) = 0))
        .fail
        (.ite (decide (0 ≤ IntKind.wrap .i64 ((x1).tdiv (2 : Int))))
          (.opt Int (x0[(IntKind.wrap .i64 ((x1).tdiv (2 : Int))).toNat]?) fun y186 =>
            .ite (decide (0 ≤ (8 : Int)))
              (.leaf (IntKind.wrap .i64 (((BitVec.ofInt 64 ((y186).fdiv (2 ^ (min ((8 : Int)).toNat 64))) &&& BitVec.ofInt 64 (255 : Int)).toNat : Int))))
              .fail)
          .fail)))
noncomputable def ref08_Byte (x0 : (List Int)) (x1 : Int) : Option Int := (Tref08_Byte x0 x1).run
noncomputable def Aref08_Byte : Arg U ((List Int) × Int × Unit) := aO (cSl 3) (aO (cInt .i64) (aNil))
noncomputable def Rref08_Byte (r : Int) : List (V U) × List (Blk U) := ([vO (cInt .i64) r], [])
noncomputable def Sref08_Byte : List (V U) → List (Blk U) → Option (FnOut U) := mkSpec Aref08_Byte bNil (fun x _ => ref08_Byte x.1 x.2.1) Rref08_Byte
noncomputable def Eref08_Byte : Env U := { P := Try.prog, cd := cd, fns := fns60, lps := noL, frz := fun _r => false, nt := 21, n0 := 0 }
theorem runref08_Byte (x : (List Int) × Int × Unit) (g : Unit) : execF Eref08_Byte Try.f61 (Aref08_Byte.enc x) (bNil.enc g) = (Tref08_Byte x.1 x.2.1).map Rref08_Byte := by kernel_rfl
theorem okref08_Byte : FnOk Try.prog cd 61 Sref08_Byte := mk_ok (E := Eref08_Byte) cd_ok fns60_ok Try.func61 (by kernel_rfl) (noLoops_body (by kernel_rfl)) (aO_ok (cSl_ok 3) (aO_ok (cInt_ok .i64) (aNil_ok))) bNil_ok (T := fun x _ => Tref08_Byte x.1 x.2.1) (fun _ _ => rfl) runref08_Byte
noncomputable def fns61 := addF 61 true Sref08_Byte fns60
theorem fns61_ok : ∀ f q t, fns61 f = some (q, t) → FnOk Try.prog cd f t := addF_ok okref08_Byte fns60_ok
/-- emulator/emulatorref08.Read -/
noncomputable def Tref08_Read (q : Option Nat) (x0 : (List Int)) (x1 : (List Int)) (x2 : Int) (x3 : Bool) : Tree (Int × Int) :=
  .opt Int (ref08_access x0 x2 x3) fun r187 =>
    .ite (!decide (r187 = (0 : Int)))
      (.leaf (((0 : Int), r187)))
      (.ite (decide ((2 : Int) = 0))
        .fail
        (.opt Bool (ref08_Has q x1 (IntKind.wrap .i64 (x2 - ((x2).tmod (2 : Int))))) fun r188 =>
          .ite (r188)
            (.leaf (((0 : Int), (9 : Int))))
            (.ite (x3)
              (.opt Int (ref08_Byte x0 x2) fun r189 =>
                .leaf ((r189, (0 : Int))))
              (.ite (decide ((2 : Int) = 0))
                .fail
                (.ite (decide (0 ≤ IntKind.wrap .i64 ((x2).tdiv (2 : Int))))
                  (.opt Int (x0[(IntKind.wrap .i64 ((x2).tdiv (2 : Int))).toNat]?) fun y190 =>
                    .leaf ((y190, (0 : Int))))
                  .fail)))))
noncomputable def ref08_Read (q : Option Nat) (x0 : (List Int)) (x1 : (List Int)) (x2 : Int) (x3 : Bool) : Option (Int × Int) := (Tref08_Read q x0 x1 x2 x3).run
theorem leref08_Read (k : Nat) (x0 : (List Int)) (x1 : (List Int)) (x2 : Int) (x3 : Bool) : Le (ref08_Read (some k) x0 x1 x2 x3) (ref08_Read none x0 x1 x2 x3) := (TLe.opt Le.rfl fun _ => (TLe.ite TLe.rfl (TLe.ite TLe.rfl (TLe.opt (leref08_Has k _ _) fun _ => TLe.rfl))))
noncomputable def Aref08_Read : Arg U ((List Int) × (List Int) × Int × Bool × Unit) := aO (cSl 3) (aO (cSl 3) (aO (cInt .i64) (aO cBool (aNil))))
noncomputable def Rref08_Read (r : (Int × Int)) : List (V U) × List (Blk U) := ([vO (cInt .i64) r.1, vO (cInt .i64) r.2], [])
noncomputable def Sref08_Read : List (V U) → List (Blk U) → Option (FnOut U) := mkSpec Aref08_Read bNil (fun x _ => ref08_Read none x.1 x.2.1 x.2.2.1 x.2.2.2.1) Rref08_Read
noncomputable def Eref08_Read : Env U := { P := Try.prog, cd := cd, fns := fns61, lps := noL, frz := fun _r => false, nt := 33, n0 := 0 }
theorem runref08_Read (x : (List Int) × (List Int) × Int × Bool × Unit) (g : Unit) : execF Eref08_Read Try.f26 (Aref08_Read.enc x) (bNil.enc g) = (Tref08_Read none x.1 x.2.1 x.2.2.1 x.2.2.2.1).map Rref08_Read := by kernel_rfl
theorem okref08_Read : FnOk Try.prog cd 26 Sref08_Read := mk_ok (E := Eref08_Read) cd_ok fns61_ok Try.func26 (by kernel_rfl) (noLoops_body (by kernel_rfl)) (aO_ok (cSl_ok 3) (aO_ok (cSl_ok 3) (aO_ok (cInt_ok .i64) (aO_ok cBool_ok (aNil_ok))))) bNil_ok (T := fun x _ => Tref08_Read none x.1 x.2.1 x.2.2.1 x.2.2.2.1) (fun _ _ => rfl) runref08_Read
noncomputable def fns26 := addF 26 true Sref08_Read fns61
theorem fns26_ok : ∀ f q t, fns26 f = some (q, t) → FnOk Try.prog cd f t := addF_ok okref08_Read fns61_ok
/-- emulator/emulatorref18.isLine -/
noncomputable def Tref18_isLine (x0 : Machine) (x1 : Int) : Tree Bool :=
  .ite (decide ((512 : Int) ≤ x1))
    (.leaf (decide (x1 < (IntKind.wrap .i64 ((512 : Int) + (IntKind.wrap .i64 ((8 : Int) * (x0.lines.length : Int))))))))
    (.leaf (false))
noncomputable def ref18_isLine (x0 : Machine) (x1 : Int) : Option Bool := (Tref18_isLine x0 x1).run
noncomputable def Aref18_isLine : Arg U (Machine × Int × Unit) := aA cMachine (aO (cInt .i64) (aNil))
noncomputable def Rref18_isLine (r : Bool) : List (V U) × List (Blk U) := ([vO cBool r], [])
noncomputable def Sref18_isLine : List (V U) → List (Blk U) → Option (FnOut U) := mkSpec Aref18_isLine bNil (fun x _ => ref18_isLine x.1 x.2.1) Rref18_isLine
noncomputable def Eref18_isLine : Env U := { P := Try.prog, cd := cd, fns := fns26, lps := noL, frz := fun _r => false, nt := 16, n0 := 0 }
theorem runref18_isLine (x : Machine × Int × Unit) (g : Unit) : execF Eref18_isLine Try.f62 (Aref18_isLine.enc x) (bNil.enc g) = (Tref18_isLine x.1 x.2.1).map Rref18_isLine := by kernel_rfl
theorem okref18_isLine : FnOk Try.prog cd 62 Sref18_isLine := mk_ok (E := Eref18_isLine) cd_ok fns26_ok Try.func62 (by kernel_rfl) (noLoops_body (by kernel_rfl)) (aA_ok cMachine_ok (aO_ok (cInt_ok .i64) (aNil_ok))) bNil_ok (T := fun x _ => Tref18_isLine x.1 x.2.1) (fun _ _ => rfl) runref18_isLine
noncomputable def fns62 := addF 62 true Sref18_isLine fns26
theorem fns62_ok : ∀ f q t, fns62 f = some (q, t) → FnOk Try.prog cd f t := addF_ok okref18_isLine fns26_ok
/-- emulator/emulatorref14.bits -/
noncomputable def Tref14_bits (x0 : Bool) (x1 : Bool) : Tree Int :=
  .ite (x0)
    (.ite (x1)
      (.leaf (IntKind.wrap .i64 ((IntKind.wrap .i64 ((0 : Int) + (64 : Int))) + (128 : Int))))
      (.leaf (IntKind.wrap .i64 ((0 : Int) + (64 : Int)))))
    (.ite (x1)
      (.leaf (IntKind.wrap .i64 ((0 : Int) + (128 : Int))))
      (.leaf ((0 : Int))))
noncomputable def ref14_bits (x0 : Bool) (x1 : Bool) : Option Int := (Tref14_bits x0 x1).run
noncomputable def Aref14_bits : Arg U (Bool × Bool × Unit) := aO cBool (aO cBool (aNil))
noncomputable def Rref14_bits (r : Int) : List (V U) × List (Blk U) := ([vO (cInt .i64) r], [])
noncomputable def Sref14_bits : List (V U) → List (Blk U) → Option (FnOut U) := mkSpec Aref14_bits bNil (fun x _ => ref14_bits x.1 x.2.1) Rref14_bits
noncomputable def Eref14_bits : Env U := { P := Try.prog, cd := cd, fns := fns62, lps := noL, frz := fun _r => false, nt := 13, n0 := 0 }
theorem runref14_bits (x : Bool × Bool × Unit) (g : Unit) : execF Eref14_bits Try.f104 (Aref14_bits.enc x) (bNil.enc g) = (Tref14_bits x.1 x.2.1).map Rref14_bits := by kernel_rfl
theorem okref14_bits : FnOk Try.prog cd 104 Sref14_bits := mk_ok (E := Eref14_bits) cd_ok fns62_ok Try.func104 (by kernel_rfl) (noLoops_body (by kernel_rfl)) (aO_ok cBool_ok (aO_ok cBool_ok (aNil_ok))) bNil_ok (T := fun x _ => Tref14_bits x.1 x.2.1) (fun _ _ => rfl) runref14_bits
noncomputable def fns104 := addF 104 true Sref14_bits fns62
theorem fns104_ok : ∀ f q t, fns104 f = some (q, t) → FnOk Try.prog cd f t := addF_ok okref14_bits fns62_ok
/-- emulator/emulatorref14.Read -/
noncomputable def Tref14_Read (x0 : Line) (x1 : Int) : Tree (Line × Int) :=
  .ite (decide (x1 = (0 : Int)))
    (.opt Int (ref14_bits x0.rxEnable x0.rxReady) fun r191 =>
      .leaf ((x0, r191)))
    (.ite (decide (x1 = (2 : Int)))
      (.ite (x0.overrun)
        (.leaf ((Line.mk x0.rxEnable false false x0.rxData x0.txEnable x0.txReady x0.txData x0.txLeft x0.out, IntKind.wrap .i64 (x0.rxData + (32768 : Int)))))
        (.leaf ((Line.mk x0.rxEnable false false x0.rxData x0.txEnable x0.txReady x0.txData x0.txLeft x0.out, x0.rxData))))
      (.ite (decide (x1 = (4 : Int)))
        (.opt Int (ref14_bits x0.txEnable x0.txReady) fun r192 =>
          .leaf ((x0, r192)))
        (.leaf ((x0, (0 : Int))))))
noncomputable def ref14_Read (x0 : Line) (x1 : Int) : Option (Line × Int) := (Tref14_Read x0 x1).run
noncomputable def Aref14_Read : Arg U (Line × Int × Unit) := aA cLine (aO (cInt .i64) (aNil))
noncomputable def Rref14_Read (r : (Line × Int)) : List (V U) × List (Blk U) := ([vA cLine r.1, vO (cInt .i64) r.2], [])
noncomputable def Sref14_Read : List (V U) → List (Blk U) → Option (FnOut U) := mkSpec Aref14_Read bNil (fun x _ => ref14_Read x.1 x.2.1) Rref14_Read
noncomputable def Eref14_Read : Env U := { P := Try.prog, cd := cd, fns := fns104, lps := noL, frz := fun _r => false, nt := 37, n0 := 0 }
theorem runref14_Read (x : Line × Int × Unit) (g : Unit) : execF Eref14_Read Try.f63 (Aref14_Read.enc x) (bNil.enc g) = (Tref14_Read x.1 x.2.1).map Rref14_Read := by kernel_rfl
theorem okref14_Read : FnOk Try.prog cd 63 Sref14_Read := mk_ok (E := Eref14_Read) cd_ok fns104_ok Try.func63 (by kernel_rfl) (noLoops_body (by kernel_rfl)) (aA_ok cLine_ok (aO_ok (cInt_ok .i64) (aNil_ok))) bNil_ok (T := fun x _ => Tref14_Read x.1 x.2.1) (fun _ _ => rfl) runref14_Read
noncomputable def fns63 := addF 63 true Sref14_Read fns104
theorem fns63_ok : ∀ f q t, fns63 f = some (q, t) → FnOk Try.prog cd f t := addF_ok okref14_Read fns104_ok
/-- emulator/emulatorref18.withLine -/
noncomputable def Tref18_withLine (x0 : Machine) (x1 : Int) (x2 : Line) : Tree Machine :=
  .ite (decide ((([] : List Line).length + x0.lines.length) * 56 ≤ 140737488355328))
    (.ite (decide (0 ≤ x1))
      (.ite (decide (x1 < ((([] : List Line) ++ x0.lines).length : Int)))
        (.opt Line ((([] : List Line) ++ x0.lines)[(x1).toNat]?) fun y193 =>
          .leaf (Machine.mk x0.cpu x0.mem x0.bad x0.mmu x0.clock ((([] : List Line) ++ x0.lines).set ((x1).toNat) x2) x0.disk x0.tape x0.now x0.halted x0.waiting x0.power x0.powerTrap))
        .fail)
      .fail)
    .fail
noncomputable def ref18_withLine (x0 : Machine) (x1 : Int) (x2 : Line) : Option Machine := (Tref18_withLine x0 x1 x2).run
noncomputable def Aref18_withLine : Arg U (Machine × Int × Line × Unit) := aA cMachine (aO (cInt .i64) (aA cLine (aNil)))
noncomputable def Rref18_withLine (r : Machine) : List (V U) × List (Blk U) := ([vA cMachine r], [])
noncomputable def Sref18_withLine : List (V U) → List (Blk U) → Option (FnOut U) := mkSpec Aref18_withLine bNil (fun x _ => ref18_withLine x.1 x.2.1 x.2.2.1) Rref18_withLine
noncomputable def Eref18_withLine : Env U := { P := Try.prog, cd := cd, fns := fns63, lps := noL, frz := fun _r => false, nt := 19, n0 := 0 }
theorem runref18_withLine (x : Machine × Int × Line × Unit) (g : Unit) : execF Eref18_withLine Try.f64 (Aref18_withLine.enc x) (bNil.enc g) = (Tref18_withLine x.1 x.2.1 x.2.2.1).map Rref18_withLine := by kernel_rfl
theorem okref18_withLine : FnOk Try.prog cd 64 Sref18_withLine := mk_ok (E := Eref18_withLine) cd_ok fns63_ok Try.func64 (by kernel_rfl) (noLoops_body (by kernel_rfl)) (aA_ok cMachine_ok (aO_ok (cInt_ok .i64) (aA_ok cLine_ok (aNil_ok)))) bNil_ok (T := fun x _ => Tref18_withLine x.1 x.2.1 x.2.2.1) (fun _ _ => rfl) runref18_withLine
noncomputable def fns64 := addF 64 true Sref18_withLine fns63
theorem fns64_ok : ∀ f q t, fns64 f = some (q, t) → FnOk Try.prog cd f t := addF_ok okref18_withLine fns63_ok
/-- emulator/emulatorref13.Read -/
noncomputable def Tref13_Read (x0 : Clock) : Tree Int :=
  .ite (x0.enable)
    (.ite (x0.ready)
      (.leaf (IntKind.wrap .i64 ((IntKind.wrap .i64 ((0 : Int) + (64 : Int))) + (128 : Int))))
      (.leaf (IntKind.wrap .i64 ((0 : Int) + (64 : Int)))))
    (.ite (x0.ready)
      (.leaf (IntKind.wrap .i64 ((0 : Int) + (128 : Int))))
      (.leaf ((0 : Int))))
noncomputable def ref13_Read (x0 : Clock) : Option Int := (Tref13_Read x0).run
noncomputable def Aref13_Read : Arg U (Clock × Unit) := aA cClock (aNil)
noncomputable def Rref13_Read (r : Int) : List (V U) × List (Blk U) := ([vO (cInt .i64) r], [])
noncomputable def Sref13_Read : List (V U) → List (Blk U) → Option (FnOut U) := mkSpec Aref13_Read bNil (fun x _ => ref13_Read x.1) Rref13_Read
noncomputable def Eref13_Read : Env U := { P := Try.prog, cd := cd, fns := fns64, lps := noL, frz := fun _r => false, nt := 13, n0 := 0 }
theorem runref13_Read (x : Clock × Unit) (g : Unit) : execF Eref13_Read Try.f65 (Aref13_Read.enc x) (bNil.enc g) = (Tref13_Read x.1).map Rref13_Read := by kernel_rfl
theorem okref13_Read : FnOk Try.prog cd 65 Sref13_Read := mk_ok (E := Eref13_Read) cd_ok fns64_ok Try.func65 (by kernel_rfl) (noLoops_body (by kernel_rfl)) (aA_ok cClock_ok (aNil_ok)) bNil_ok (T := fun x _ => Tref13_Read x.1) (fun _ _ => rfl) runref13_Read
noncomputable def fns65 := addF 65 true Sref13_Read fns64
theorem fns65_ok : ∀ f q t, fns65 f = some (q, t) → FnOk Try.prog cd f t := addF_ok okref13_Read fns64_ok
/-- emulator/emulatorref16.Read -/
noncomputable def Tref16_Read (x0 : Disk) (x1 : Int) : Tree (Int × Bool) :=
  .ite (decide (x1 = (2 : Int)))
    (.leaf ((x0.words, true)))
    (.ite (decide (x1 = (4 : Int)))
      (.leaf ((x0.addr, true)))
      (.ite (decide (x1 = (6 : Int)))
        (.leaf ((x0.start, true)))
        (.ite (!decide (x1 = (0 : Int)))
          (.leaf (((0 : Int), false)))
          (.ite (x0.enable)
            (.ite (x0.ready)
              (.ite (x0.error)
                (.leaf ((IntKind.wrap .i64 ((IntKind.wrap .i64 ((IntKind.wrap .i64 ((IntKind.wrap .i64 ((2 : Int) * x0.command)) + (64 : Int))) + (128 : Int))) + (32768 : Int)), true)))
                (.leaf ((IntKind.wrap .i64 ((IntKind.wrap .i64 ((IntKind.wrap .i64 ((2 : Int) * x0.command)) + (64 : Int))) + (128 : Int)), true))))
              (.ite (x0.error)
                (.leaf ((IntKind.wrap .i64 ((IntKind.wrap .i64 ((IntKind.wrap .i64 ((2 : Int) * x0.command)) + (64 : Int))) + (32768 : Int)), true)))
                (.leaf ((IntKind.wrap .i64 ((IntKind.wrap .i64 ((2 : Int) * x0.command)) + (64 : Int)), true)))))
            (.ite (x0.ready)
              (.ite (x0.error)
                (.leaf ((IntKind.wrap .i64 ((IntKind.wrap .i64 ((IntKind.wrap .i64 ((2 : Int) * x0.command)) + (128 : Int))) + (32768 : Int)), true)))
                (.leaf ((IntKind.wrap .i64 ((IntKind.wrap .i64 ((2 : Int) * x0.command)) + (128 : Int)), true))))
              (.ite (x0.error)
                (.leaf ((IntKind.wrap .i64 ((IntKind.wrap .i64 ((2 : Int) * x0.command)) + (32768 : Int)), true)))
                (.leaf ((IntKind.wrap .i64 ((2 : Int) * x0.command), true)))))))))
noncomputable def ref16_Read (x0 : Disk) (x1 : Int) : Option (Int × Bool) := (Tref16_Read x0 x1).run
noncomputable def Aref16_Read : Arg U (Disk × Int × Unit) := aA cDisk (aO (cInt .i64) (aNil))
noncomputable def Rref16_Read (r : (Int × Bool)) : List (V U) × List (Blk U) := ([vO (cInt .i64) r.1, vO cBool r.2], [])
noncomputable def Sref16_Read : List (V U) → List (Blk U) → Option (FnOut U) := mkSpec Aref16_Read bNil (fun x _ => ref16_Read x.1 x.2.1) Rref16_Read
noncomputable def Eref16_Read : Env U := { P := Try.prog, cd := cd, fns := fns65, lps := noL, frz := fun _r => false, nt := 37, n0 := 0 }
theorem runref16_Read (x : Disk × Int × Unit) (g : Unit) : execF Eref16_Read Try.f66 (Aref16_Read.enc x) (bNil.enc g) = (Tref16_Read x.1 x.2.1).map Rref16_Read := by kernel_rfl
theorem okref16_Read : FnOk Try.prog cd 66 Sref16_Read := mk_ok (E := Eref16_Read) cd_ok fns65_ok Try.func66 (by kernel_rfl) (noLoops_body (by kernel_rfl)) (aA_ok cDisk_ok (aO_ok (cInt_ok .i64) (aNil_ok))) bNil_ok (T := fun x _ => Tref16_Read x.1 x.2.1) (fun _ _ => rfl) runref16_Read
noncomputable def fns66 := addF 66 true Sref16_Read fns65
theorem fns66_ok : ∀ f q t, fns66 f = some (q, t) → FnOk Try.prog cd f t := addF_ok okref16_Read fns65_ok
/-- emulator/emulatorref17.bit -/
noncomputable def Tref17_bit (x0 : Bool) (x1 : Int) : Tree Int :=
  .ite (x0)
    (.leaf (x1))
    (.leaf ((0 : Int)))
noncomputable def ref17_bit (x0 : Bool) (x1 : Int) : Option Int := (Tref17_bit x0 x1).run
noncomputable def Aref17_bit : Arg U (Bool × Int × Unit) := aO cBool (aO (cInt .i64) (aNil))
noncomputable def Rref17_bit (r : Int) : List (V U) × List (Blk U) := ([vO (cInt .i64) r], [])
noncomputable def Sref17_bit : List (V U) → List (Blk U) → Option (FnOut U) := mkSpec Aref17_bit bNil (fun x _ => ref17_bit x.1 x.2.1) Rref17_bit
noncomputable def Eref17_bit : Env U := { P := Try.prog, cd := cd, fns := fns66, lps := noL, frz := fun _r => false, nt := 7, n0 := 0 }
theorem runref17_bit (x : Bool × Int × Unit) (g : Unit) : execF Eref17_bit Try.f105 (Aref17_bit.enc x) (bNil.enc g) = (Tref17_bit x.1 x.2.1).map Rref17_bit := by kernel_rfl
theorem okref17_bit : FnOk Try.prog cd 105 Sref17_bit := mk_ok (E := Eref17_bit) cd_ok fns66_ok Try.func105 (by kernel_rfl) (noLoops_body (by kernel_rfl)) (aO_ok cBool_ok (aO_ok (cInt_ok .i64) (aNil_ok))) bNil_ok (T := fun x _ => Tref17_bit x.1 x.2.1) (fun _ _ => rfl) runref17_bit
noncomputable def fns105 := addF 105 true Sref17_bit fns66
theorem fns105_ok : ∀ f q t, fns105 f = some (q, t) → FnOk Try.prog cd f t := addF_ok okref17_bit fns66_ok
/-- emulator/emulatorref17.Read -/
noncomputable def Tref17_Read (x0 : Tape) (x1 : Int) : Tree (Int × Bool) :=
  .ite (decide (x1 = (0 : Int)))
    (.opt Int (ref17_bit x0.enable (64 : Int)) fun r194 =>
      .opt Int (ref17_bit x0.ready (128 : Int)) fun r195 =>
        .opt Int (ref17_bit x0.mark (256 : Int)) fun r196 =>
          .opt Int (ref17_bit x0.end_ (512 : Int)) fun r197 =>
            .opt Int (ref17_bit x0.error (32768 : Int)) fun r198 =>
              .leaf ((IntKind.wrap .i64 ((IntKind.wrap .i64 ((IntKind.wrap .i64 ((IntKind.wrap .i64 ((IntKind.wrap .i64 ((IntKind.wrap .i64 ((2 : Int) * x0.command)) + r194)) + r195)) + r196)) + r197)) + r198), true)))
    (.ite (decide (x1 = (2 : Int)))
      (.leaf ((x0.count, true)))
      (.ite (decide (x1 = (4 : Int)))
        (.leaf ((x0.addr, true)))
        (.leaf (((0 : Int), false)))))
noncomputable def ref17_Read (x0 : Tape) (x1 : Int) : Option (Int × Bool) := (Tref17_Read x0 x1).run
noncomputable def Aref17_Read : Arg U (Tape × Int × Unit) := aA cTape (aO (cInt .i64) (aNil))
noncomputable def Rref17_Read (r : (Int × Bool)) : List (V U) × List (Blk U) := ([vO (cInt .i64) r.1, vO cBool r.2], [])
noncomputable def Sref17_Read : List (V U) → List (Blk U) → Option (FnOut U) := mkSpec Aref17_Read bNil (fun x _ => ref17_Read x.1 x.2.1) Rref17_Read
noncomputable def Eref17_Read : Env U := { P := Try.prog, cd := cd, fns := fns105, lps := noL, frz := fun _r => false, nt := 40, n0 := 0 }
theorem runref17_Read (x : Tape × Int × Unit) (g : Unit) : execF Eref17_Read Try.f67 (Aref17_Read.enc x) (bNil.enc g) = (Tref17_Read x.1 x.2.1).map Rref17_Read := by kernel_rfl
theorem okref17_Read : FnOk Try.prog cd 67 Sref17_Read := mk_ok (E := Eref17_Read) cd_ok fns105_ok Try.func67 (by kernel_rfl) (noLoops_body (by kernel_rfl)) (aA_ok cTape_ok (aO_ok (cInt_ok .i64) (aNil_ok))) bNil_ok (T := fun x _ => Tref17_Read x.1 x.2.1) (fun _ _ => rfl) runref17_Read
noncomputable def fns67 := addF 67 true Sref17_Read fns105
theorem fns67_ok : ∀ f q t, fns67 f = some (q, t) → FnOk Try.prog cd f t := addF_ok okref17_Read fns105_ok
/-- emulator/emulatorref09.page -/
noncomputable def Tref09_page (x0 : Int) : Tree (Int × Int × Bool × Bool) :=
  .ite (decide (x0 < (16 : Int)))
    (.leaf (((0 : Int), (0 : Int), false, false)))
    (.ite (decide ((80 : Int) ≤ x0))
      (.leaf (((0 : Int), (0 : Int), false, false)))
      (.ite (decide ((2 : Int) = 0))
        .fail
        (.ite (!decide (((x0).tmod (2 : Int)) = (0 : Int)))
          (.leaf (((0 : Int), (0 : Int), false, false)))
          (.ite (decide ((32 : Int) = 0))
            .fail
            (.ite (decide ((32 : Int) = 0))
              .fail
              (.ite (decide ((4 : Int) = 0))
                .fail
                (.ite (decide ((4 : Int) = 0))
                  .fail
                  (.leaf ((IntKind.wrap .i64 (((IntKind.wrap .i64 (x0 - (16 : Int)))).tdiv (32 : Int)), IntKind.wrap .i64 (((((IntKind.wrap .i64 (x0 - (16 : Int)))).tmod (32 : Int))).tdiv (4 : Int)), decide ((((IntKind.wrap .i64 (x0 - (16 : Int)))).tmod (4 : Int)) = (2 : Int)), true))))))))))
noncomputable def ref09_page (x0 : Int) : Option (Int × Int × Bool × Bool) := (Tref09_page x0).run
noncomputable def Aref09_page : Arg U (Int × Unit) := aO (cInt .i64) (aNil)
noncomputable def Rref09_page (r : (Int × Int × Bool × Bool)) : List (V U) × List (Blk U) := ([vO (cInt .i64) r.1, vO (cInt .i64) r.2.1, vO cBool r.2.2.1, vO cBool r.2.2.2], [])
noncomputable def Sref09_page : List (V U) → List (Blk U) → Option (FnOut U) := mkSpec Aref09_page bNil (fun x _ => ref09_page x.1) Rref09_page
noncomputable def Eref09_page : Env U := { P := Try.prog, cd := cd, fns := fns67, lps := noL, frz := fun _r => false, nt := 28, n0 := 0 }
theorem runref09_page (x : Int × Unit) (g : Unit) : execF Eref09_page Try.f106 (Aref09_page.enc x) (bNil.enc g) = (Tref09_page x.1).map Rref09_page := by kernel_rfl
theorem okref09_page : FnOk Try.prog cd 106 Sref09_page := mk_ok (E := Eref09_page) cd_ok fns67_ok Try.func106 (by kernel_rfl) (noLoops_body (by kernel_rfl)) (aO_ok (cInt_ok .i64) (aNil_ok)) bNil_ok (T := fun x _ => Tref09_page x.1) (fun _ _ => rfl) runref09_page
noncomputable def fns106 := addF 106 true Sref09_page fns67
theorem fns106_ok : ∀ f q t, fns106 f = some (q, t) → FnOk Try.prog cd f t := addF_ok okref09_page fns67_ok
/-- emulator/emulatorref09.Read -/
noncomputable def Tref09_Read (x0 : Mmu) (x1 : Int) : Tree (Int × Bool) :=
  .ite (decide (x1 = (0 : Int)))
    (.ite (x0.on)
      (.leaf ((IntKind.wrap .i64 ((IntKind.wrap .i64 ((2 : Int) * x0.status)) + (1 : Int)), true)))
      (.leaf ((IntKind.wrap .i64 ((2 : Int) * x0.status), true))))
    (.ite (decide (x1 = (2 : Int)))
      (.leaf ((x0.addr, true)))
      (.opt (Int × Int × Bool × Bool) (ref09_page x1) fun r199 =>
        .ite (!r199.2.2.2)
          (.leaf (((0 : Int), false)))
          (.ite (decide (0 ≤ r199.1))
            (.ite (decide (r199.1 < (2 : Int)))
              (.ite (decide (0 ≤ r199.2.1))
                (.ite (decide (r199.2.1 < (8 : Int)))
                  (.opt Page (x0.pages[(r199.1).toNat * 8 + (r199.2.1).toNat * 1]?) fun y200 =>
                    .ite (!r199.2.2.1)
                      (.leaf ((y200.base, true)))
                      (.ite (y200.written)
                        (.leaf ((IntKind.wrap .i64 ((IntKind.wrap .i64 (y200.length + (IntKind.wrap .i64 ((256 : Int) * y200.access)))) + (32768 : Int)), true)))
                        (.leaf ((IntKind.wrap .i64 (y200.length + (IntKind.wrap .i64 ((256 : Int) * y200.access))), true)))))
                  .fail)
                .fail)
              .fail)
            .fail)))
noncomputable def ref09_Read (x0 : Mmu) (x1 : Int) : Option (Int × Bool) := (Tref09_Read x0 x1).run
noncomputable def Aref09_Read : Arg U (Mmu × Int × Unit) := aA cMmu (aO (cInt .i64) (aNil))
noncomputable def Rref09_Read (r : (Int × Bool)) : List (V U) × List (Blk U) := ([vO (cInt .i64) r.1, vO cBool r.2], [])
noncomputable def Sref09_Read : List (V U) → List (Blk U) → Option (FnOut U) := mkSpec Aref09_Read bNil (fun x _ => ref09_Read x.1 x.2.1) Rref09_Read
noncomputable def Eref09_Read : Env U := { P := Try.prog, cd := cd, fns := fns106, lps := noL, frz := fun _r => false, nt := 57, n0 := 0 }
theorem runref09_Read (x : Mmu × Int × Unit) (g : Unit) : execF Eref09_Read Try.f68 (Aref09_Read.enc x) (bNil.enc g) = (Tref09_Read x.1 x.2.1).map Rref09_Read := by kernel_rfl
theorem okref09_Read : FnOk Try.prog cd 68 Sref09_Read := mk_ok (E := Eref09_Read) cd_ok fns106_ok Try.func68 (by kernel_rfl) (noLoops_body (by kernel_rfl)) (aA_ok cMmu_ok (aO_ok (cInt_ok .i64) (aNil_ok))) bNil_ok (T := fun x _ => Tref09_Read x.1 x.2.1) (fun _ _ => rfl) runref09_Read
noncomputable def fns68 := addF 68 true Sref09_Read fns106
theorem fns68_ok : ∀ f q t, fns68 f = some (q, t) → FnOk Try.prog cd f t := addF_ok okref09_Read fns106_ok
/-- emulator/emulatorref18.readReg -/
noncomputable def Tref18_readReg (x0 : Machine) (x1 : Int) : Tree (Machine × Int × Bool) :=
  .opt Bool (ref18_isLine x0 x1) fun r201 =>
    .ite (r201)
      (.ite (decide ((8 : Int) = 0))
        .fail
        (.ite (decide (0 ≤ IntKind.wrap .i64 (((IntKind.wrap .i64 (x1 - (512 : Int)))).tdiv (8 : Int))))
          (.opt Line (x0.lines[(IntKind.wrap .i64 (((IntKind.wrap .i64 (x1 - (512 : Int)))).tdiv (8 : Int))).toNat]?) fun y202 =>
            .ite (decide ((8 : Int) = 0))
              .fail
              (.opt (Line × Int) (ref14_Read y202 (((IntKind.wrap .i64 (x1 - (512 : Int)))).tmod (8 : Int))) fun r203 =>
                .opt Machine (ref18_withLine x0 (IntKind.wrap .i64 (((IntKind.wrap .i64 (x1 - (512 : Int)))).tdiv (8 : Int))) r203.1) fun r204 =>
                  .leaf ((r204, r203.2, true))))
          .fail))
      (.ite (decide (x1 = (256 : Int)))
        (.opt Int (ref13_Read x0.clock) fun r205 =>
          .leaf ((x0, r205, true)))
        (.ite (decide ((768 : Int) ≤ x1))
          (.ite (decide (x1 ≤ (774 : Int)))
            (.opt (Int × Bool) (ref16_Read x0.disk (IntKind.wrap .i64 (x1 - (768 : Int)))) fun r206 =>
              .leaf ((x0, r206.1, r206.2)))
            (.ite (decide ((800 : Int) ≤ x1))
              (.ite (decide (x1 ≤ (804 : Int)))
                (.opt (Int × Bool) (ref17_Read x0.tape (IntKind.wrap .i64 (x1 - (800 : Int)))) fun r207 =>
                  .leaf ((x0, r207.1, r207.2)))
                (.opt (Int × Bool) (ref09_Read x0.mmu x1) fun r208 =>
                  .leaf ((x0, r208.1, r208.2))))
              (.opt (Int × Bool) (ref09_Read x0.mmu x1) fun r209 =>
                .leaf ((x0, r209.1, r209.2)))))
          (.ite (decide ((800 : Int) ≤ x1))
            (.ite (decide (x1 ≤ (804 : Int)))
              (.opt (Int × Bool) (ref17_Read x0.tape (IntKind.wrap .i64 (x1 - (800 : Int)))) fun r210 =>
                .leaf ((x0, r210.1, r210.2)))
              (.opt (Int × Bool) (ref09_Read x0.mmu x1) fun r211 =>
                .leaf ((x0, r211.1, r211.2))))
            (.opt (Int × Bool) (ref09_Read x0.mmu x1) fun r212 =>
              .leaf ((x0, r212.1, r212.2))))))
noncomputable def ref18_readReg (x0 : Machine) (x1 : Int) : Option (Machine × Int × Bool) := (Tref18_readReg x0 x1).run
noncomputable def Aref18_readReg : Arg U (Machine × Int × Unit) := aA cMachine (aO (cInt .i64) (aNil))
noncomputable def Rref18_readReg (r : (Machine × Int × Bool)) : List (V U) × List (Blk U) := ([vA cMachine r.1, vO (cInt .i64) r.2.1, vO cBool r.2.2], [])
noncomputable def Sref18_readReg : List (V U) → List (Blk U) → Option (FnOut U) := mkSpec Aref18_readReg bNil (fun x _ => ref18_readReg x.1 x.2.1) Rref18_readReg
noncomputable def Eref18_readReg : Env U := { P := Try.prog, cd := cd, fns := fns68, lps := noL, frz := fun _r => false, nt := 89, n0 := 0 }
theorem runref18_readReg (x : Machine × Int × Unit) (g : Unit) : execF Eref18_readReg Try.f27 (Aref18_readReg.enc x) (bNil.enc g) = (Tref18_readReg x.1 x.2.1).map Rref18_readReg := by kernel_rfl
theorem okref18_readReg : FnOk Try.prog cd 27 Sref18_readReg := mk_ok (E := Eref18_readReg) cd_ok fns68_ok Try.func27 (by kernel_rfl) (noLoops_body (by kernel_rfl)) (aA_ok cMachine_ok (aO_ok (cInt_ok .i64) (aNil_ok))) bNil_ok (T := fun x _ => Tref18_readReg x.1 x.2.1) (fun _ _ => rfl) runref18_readReg
noncomputable def fns27 := addF 27 true Sref18_readReg fns68
theorem fns27_ok : ∀ f q t, fns27 f = some (q, t) → FnOk Try.prog cd f t := addF_ok okref18_readReg fns68_ok
/-- emulator/emulatorref18.Read -/
noncomputable def Tref18_Read (q : Option Nat) (x0 : Machine) (x1 : Int) (x2 : Bool) : Tree (Machine × Int × Int) :=
  .opt Int (ref18_Physical x1) fun r213 =>
    .ite (decide (r213 < (253952 : Int)))
      (.opt (Int × Int) (ref08_Read q x0.mem x0.bad r213 x2) fun r214 =>
        .leaf ((x0, r214.1, r214.2)))
      (.ite (!x2)
        (.ite (decide ((2 : Int) = 0))
          .fail
          (.ite (decide ((((IntKind.wrap .i64 (r213 - (253952 : Int)))).tmod (2 : Int)) = (1 : Int)))
            (.leaf ((x0, (0 : Int), (1 : Int))))
            (.ite (decide ((2 : Int) = 0))
              .fail
              (.opt (Machine × Int × Bool) (ref18_readReg x0 (IntKind.wrap .i64 ((IntKind.wrap .i64 (r213 - (253952 : Int))) - (((IntKind.wrap .i64 (r213 - (253952 : Int)))).tmod (2 : Int))))) fun r215 =>
                .ite (!r215.2.2)
                  (.leaf ((x0, (0 : Int), (1 : Int))))
                  (.ite (!x2)
                    (.leaf ((r215.1, r215.2.1, (0 : Int))))
                    (.ite (decide ((2 : Int) = 0))
                      .fail
                      (.ite (decide ((((IntKind.wrap .i64 (r213 - (253952 : Int)))).tmod (2 : Int)) = (1 : Int)))
                        (.ite (decide ((256 : Int) = 0))
                          .fail
                          (.leaf ((r215.1, IntKind.wrap .i64 ((r215.2.1).tdiv (256 : Int)), (0 : Int)))))
                        (.ite (decide ((256 : Int) = 0))
                          .fail
                          (.leaf ((r215.1, (r215.2.1).tmod (256 : Int), (0 : Int))))))))))))
        (.ite (decide ((2 : Int) = 0))
          .fail
          (.opt (Machine × Int × Bool) (ref18_readReg x0 (IntKind.wrap .i64 ((IntKind.wrap .i64 (r213 - (253952 : Int))) - (((IntKind.wrap .i64 (r213 - (253952 : Int)))).tmod (2 : Int))))) fun r216 =>
            .ite (!r216.2.2)
              (.leaf ((x0, (0 : Int), (1 : Int))))
              (.ite (!x2)
                (.leaf ((r216.1, r216.2.1, (0 : Int))))
                (.ite (decide ((2 : Int) = 0))
                  .fail
                  (.ite (decide ((((IntKind.wrap .i64 (r213 - (253952 : Int)))).tmod (2 : Int)) = (1 : Int)))
                    (.ite (decide ((256 : Int) = 0))
                      .fail
                      (.leaf ((r216.1, IntKind.wrap .i64 ((r216.2.1).tdiv (256 : Int)), (0 : Int)))))
                    (.ite (decide ((256 : Int) = 0))
                      .fail
                      (.leaf ((r216.1, (r216.2.1).tmod (256 : Int), (0 : Int)))))))))))
noncomputable def ref18_Read (q : Option Nat) (x0 : Machine) (x1 : Int) (x2 : Bool) : Option (Machine × Int × Int) := (Tref18_Read q x0 x1 x2).run
theorem leref18_Read (k : Nat) (x0 : Machine) (x1 : Int) (x2 : Bool) : Le (ref18_Read (some k) x0 x1 x2) (ref18_Read none x0 x1 x2) := (TLe.opt Le.rfl fun _ => (TLe.ite (TLe.opt (leref08_Read k _ _ _ _) fun _ => TLe.rfl) TLe.rfl))
noncomputable def Aref18_Read : Arg U (Machine × Int × Bool × Unit) := aA cMachine (aO (cInt .i64) (aO cBool (aNil)))
noncomputable def Rref18_Read (r : (Machine × Int × Int)) : List (V U) × List (Blk U) := ([vA cMachine r.1, vO (cInt .i64) r.2.1, vO (cInt .i64) r.2.2], [])
noncomputable def Sref18_Read : List (V U) → List (Blk U) → Option (FnOut U) := mkSpec Aref18_Read bNil (fun x _ => ref18_Read none x.1 x.2.1 x.2.2.1) Rref18_Read
noncomputable def Eref18_Read : Env U := { P := Try.prog, cd := cd, fns := fns27, lps := noL, frz := fun _r => false, nt := 69, n0 := 0 }
theorem runref18_Read (x : Machine × Int × Bool × Unit) (g : Unit) : execF Eref18_Read Try.f11 (Aref18_Read.enc x) (bNil.enc g) = (Tref18_Read none x.1 x.2.1 x.2.2.1).map Rref18_Read := by kernel_rfl
theorem okref18_Read : FnOk Try.prog cd 11 Sref18_Read := mk_ok (E := Eref18_Read) cd_ok fns27_ok Try.func11 (by kernel_rfl) (noLoops_body (by kernel_rfl)) (aA_ok cMachine_ok (aO_ok (cInt_ok .i64) (aO_ok cBool_ok (aNil_ok)))) bNil_ok (T := fun x _ => Tref18_Read none x.1 x.2.1 x.2.2.1) (fun _ _ => rfl) runref18_Read
noncomputable def fns11 := addF 11 true Sref18_Read fns27
theorem fns11_ok : ∀ f q t, fns11 f = some (q, t) → FnOk Try.prog cd f t := addF_ok okref18_Read fns27_ok
/-- emulator/emulatorref08.Same -/
structure Sref08_Same_0 where
  t0 : (List Int)
  t1 : (List Int)
  t5 : Int
noncomputable def Wref08_Same_0 (s : Sref08_Same_0) : Tree (Sref08_Same_0 ⊕ (Bool ⊕ Unit)) :=
  .ite (decide (s.t5 < (s.t0.length : Int)))
    (.ite (decide (0 ≤ s.t5))
      (.opt Int (s.t0[(s.t5).toNat]?) fun y217 =>
        .ite (decide (0 ≤ s.t5))
          (.opt Int (s.t1[(s.t5).toNat]?) fun y218 =>
            .ite (!decide (y217 = y218))
              (.leaf (.inr (.inl false)))
              (.leaf (.inl (Sref08_Same_0.mk s.t0 s.t1 (IntKind.wrap .i64 (s.t5 + (1 : Int)))))))
          .fail)
      .fail)
    (.leaf (.inr (.inr ())))
noncomputable def Lref08_Same_0 (q : Option Nat) (s : Sref08_Same_0) : Option (Bool ⊕ Unit) := limQ q (fun s => (Wref08_Same_0 s).run) s
theorem leLref08_Same_0 (k : Nat) (s : Sref08_Same_0) : Le (Lref08_Same_0 (some k) s) (Lref08_Same_0 none s) := limQ_le (fun _ => Le.rfl) s
noncomputable def Tref08_Same (q : Option Nat) (x0 : (List Int)) (x1 : (List Int)) : Tree Bool :=
  .ite (!decide ((x0.length : Int) = (x1.length : Int)))
    (.leaf (false))
    (.opt (Bool ⊕ Unit) (Lref08_Same_0 q (Sref08_Same_0.mk x0 x1 (0 : Int))) fun l219 =>
      .ite (l219.isLeft)
        (.opt Bool (l219.getLeft?) fun a220 =>
          .leaf (a220))
        (.opt Unit (l219.getRight?) fun b221 =>
          .leaf (true)))
noncomputable def ref08_Same (q : Option Nat) (x0 : (List Int)) (x1 : (List Int)) : Option Bool := (Tref08_Same q x0 x1).run
theorem leref08_Same (k : Nat) (x0 : (List Int)) (x1 : (List Int)) : Le (ref08_Same (some k) x0 x1) (ref08_Same none x0 x1) := (TLe.ite TLe.rfl (TLe.opt (leLref08_Same_0 k _) fun _ => TLe.rfl))
noncomputable def Aref08_Same : Arg U ((List Int) × (List Int) × Unit) := aO (cSl 3) (aO (cSl 3) (aNil))
noncomputable def Rref08_Same (r : Bool) : List (V U) × List (Blk U) := ([vO cBool r], [])
noncomputable def Sref08_Same : List (V U) → List (Blk U) → Option (FnOut U) := mkSpec Aref08_Same bNil (fun x _ => ref08_Same none x.1 x.2.1) Rref08_Same
noncomputable def Pref08_Same_0 (x : ((List Int) × Unit) × ((List Int) × Unit) × (Int × Unit) × Unit) (_g : Unit) : Sref08_Same_0 := Sref08_Same_0.mk x.1.1 x.2.1.1 x.2.2.1.1
noncomputable def tAref08_Same_0 : Tms U (((List Int) × Unit) × ((List Int) × Unit) × (Int × Unit) × Unit) := tO 0 (cPair (cSl 3) (cUnit)) (tO 1 (cPair (cSl 3) (cUnit)) (tO 5 (cPair (cInt .i64) (cUnit)) (tNil)))
noncomputable def tBref08_Same_0 : Bls U (Unit) := bNil
noncomputable def eSref08_Same_0 (s : Sref08_Same_0) : St U := { tm := [(0, .v (vO (cPair (cSl 3) (cUnit)) (s.t0, ()))), (1, .v (vO (cPair (cSl 3) (cUnit)) (s.t1, ()))), (5, .v (vO (cPair (cInt .i64) (cUnit)) (s.t5, ())))], hp := [] }
noncomputable def xSref08_Same_0 : (Bool ⊕ Unit) → Ex × St U
  | .inl r => (.ret, { tm := [(4, .v (vO (cPair cBool (cUnit)) (r, ())))], hp := [] })
  | .inr r => (.exit 0, { tm := [], hp := [] })
noncomputable def xTref08_Same_0 (y : (Bool ⊕ Unit)) : Tree (Ex × St U) := .ite y.isLeft (.opt Bool y.getLeft? fun r => .leaf (.ret, { tm := [(4, .v (vO (cPair cBool (cUnit)) (r, ())))], hp := [] })) (.opt Unit y.getRight? fun r => .leaf (.exit 0, { tm := [], hp := [] }))
noncomputable def href08_Same_0 : Hd := { keep := [0, 1, 5], xkeep := [4], own := false }
noncomputable def Eref08_Same : Env U := { P := Try.prog, cd := cd, fns := fns11, lps := (addL 0 href08_Same_0 (mkLoop tAref08_Same_0 tBref08_Same_0 Pref08_Same_0 (Lref08_Same_0 none) xTref08_Same_0) noL), frz := fun _r => false, nt := 26, n0 := 0 }
noncomputable def Bref08_Same_0 : Code := (loopAt (Try.f69.body.getD .skip) 0 0).getD .skip
theorem roundref08_Same_0 (s : Sref08_Same_0) : round Eref08_Same href08_Same_0 Bref08_Same_0 0 (eSref08_Same_0 s) = (Wref08_Same_0 s).map (sumE eSref08_Same_0 xSref08_Same_0) := by kernel_rfl
theorem lpref08_Same_0 : LpOk Eref08_Same Bref08_Same_0 0 := mkLoop_ok (A := tAref08_Same_0) (B := tBref08_Same_0) (f := Pref08_Same_0) (L := Lref08_Same_0 none) (tO_ok (cPair_ok (cSl_ok 3) cUnit_ok) (tO_ok (cPair_ok (cSl_ok 3) cUnit_ok) (tO_ok (cPair_ok (cInt_ok .i64) cUnit_ok) tNil_ok))) bNil_ok (enc := eSref08_Same_0) (out := xTref08_Same_0) (outS := xSref08_Same_0) (step := Wref08_Same_0) (fun _ => rfl) (fun _ _ => by kernel_rfl) (by kernel_rfl) (fun b => by cases b <;> rfl) roundref08_Same_0
theorem runref08_Same (x : (List Int) × (List Int) × Unit) (g : Unit) : execF Eref08_Same Try.f69 (Aref08_Same.enc x) (bNil.enc g) = (Tref08_Same none x.1 x.2.1).map Rref08_Same := by kernel_rfl
theorem okref08_Same : FnOk Try.prog cd 69 Sref08_Same := mk_ok (E := Eref08_Same) cd_ok fns11_ok Try.func69 (by kernel_rfl) (loops_of (addL_ok lpref08_Same_0 noL_ok)) (aO_ok (cSl_ok 3) (aO_ok (cSl_ok 3) (aNil_ok))) bNil_ok (T := fun x _ => Tref08_Same none x.1 x.2.1) (fun _ _ => rfl) runref08_Same
noncomputable def fns69 := addF 69 true Sref08_Same fns11
theorem fns69_ok : ∀ f q t, fns69 f = some (q, t) → FnOk Try.prog cd f t := addF_ok okref08_Same fns11_ok
/-- emulator/emulatorref23.SameLines -/
structure Sref23_SameLines_0 where
  t0 : (List Line)
  t1 : (List Line)
  t5 : Int
noncomputable def Wref23_SameLines_0 (s : Sref23_SameLines_0) : Tree (Sref23_SameLines_0 ⊕ (Bool ⊕ Unit)) :=
  .ite (decide (s.t5 < (s.t0.length : Int)))
    (.ite (decide (0 ≤ s.t5))
      (.opt Line (s.t0[(s.t5).toNat]?) fun y222 =>
        .ite (decide (0 ≤ s.t5))
          (.opt Line (s.t1[(s.t5).toNat]?) fun y223 =>
            .ite (!((y222.rxEnable == y223.rxEnable) && ((y222.rxReady == y223.rxReady) && ((y222.overrun == y223.overrun) && ((decide (y222.rxData = y223.rxData)) && ((y222.txEnable == y223.txEnable) && ((y222.txReady == y223.txReady) && ((decide (y222.txData = y223.txData)) && ((decide (y222.txLeft = y223.txLeft)) && (decide (y222.out = y223.out)))))))))))
              (.leaf (.inr (.inl false)))
              (.leaf (.inl (Sref23_SameLines_0.mk s.t0 s.t1 (IntKind.wrap .i64 (s.t5 + (1 : Int)))))))
          .fail)
      .fail)
    (.leaf (.inr (.inr ())))
noncomputable def Lref23_SameLines_0 (q : Option Nat) (s : Sref23_SameLines_0) : Option (Bool ⊕ Unit) := limQ q (fun s => (Wref23_SameLines_0 s).run) s
theorem leLref23_SameLines_0 (k : Nat) (s : Sref23_SameLines_0) : Le (Lref23_SameLines_0 (some k) s) (Lref23_SameLines_0 none s) := limQ_le (fun _ => Le.rfl) s
noncomputable def Tref23_SameLines (q : Option Nat) (x0 : (List Line)) (x1 : (List Line)) : Tree Bool :=
  .ite (!decide ((x0.length : Int) = (x1.length : Int)))
    (.leaf (false))
    (.opt (Bool ⊕ Unit) (Lref23_SameLines_0 q (Sref23_SameLines_0.mk x0 x1 (0 : Int))) fun l224 =>
      .ite (l224.isLeft)
        (.opt Bool (l224.getLeft?) fun a225 =>
          .leaf (a225))
        (.opt Unit (l224.getRight?) fun b226 =>
          .leaf (true)))
noncomputable def ref23_SameLines (q : Option Nat) (x0 : (List Line)) (x1 : (List Line)) : Option Bool := (Tref23_SameLines q x0 x1).run
theorem leref23_SameLines (k : Nat) (x0 : (List Line)) (x1 : (List Line)) : Le (ref23_SameLines (some k) x0 x1) (ref23_SameLines none x0 x1) := (TLe.ite TLe.rfl (TLe.opt (leLref23_SameLines_0 k _) fun _ => TLe.rfl))
noncomputable def Aref23_SameLines : Arg U ((List Line) × (List Line) × Unit) := aO (cSl 59) (aO (cSl 59) (aNil))
noncomputable def Rref23_SameLines (r : Bool) : List (V U) × List (Blk U) := ([vO cBool r], [])
noncomputable def Sref23_SameLines : List (V U) → List (Blk U) → Option (FnOut U) := mkSpec Aref23_SameLines bNil (fun x _ => ref23_SameLines none x.1 x.2.1) Rref23_SameLines
noncomputable def Pref23_SameLines_0 (x : ((List Line) × Unit) × ((List Line) × Unit) × (Int × Unit) × Unit) (_g : Unit) : Sref23_SameLines_0 := Sref23_SameLines_0.mk x.1.1 x.2.1.1 x.2.2.1.1
noncomputable def tAref23_SameLines_0 : Tms U (((List Line) × Unit) × ((List Line) × Unit) × (Int × Unit) × Unit) := tO 0 (cPair (cSl 59) (cUnit)) (tO 1 (cPair (cSl 59) (cUnit)) (tO 5 (cPair (cInt .i64) (cUnit)) (tNil)))
noncomputable def tBref23_SameLines_0 : Bls U (Unit) := bNil
noncomputable def eSref23_SameLines_0 (s : Sref23_SameLines_0) : St U := { tm := [(0, .v (vO (cPair (cSl 59) (cUnit)) (s.t0, ()))), (1, .v (vO (cPair (cSl 59) (cUnit)) (s.t1, ()))), (5, .v (vO (cPair (cInt .i64) (cUnit)) (s.t5, ())))], hp := [] }
noncomputable def xSref23_SameLines_0 : (Bool ⊕ Unit) → Ex × St U
  | .inl r => (.ret, { tm := [(4, .v (vO (cPair cBool (cUnit)) (r, ())))], hp := [] })
  | .inr r => (.exit 0, { tm := [], hp := [] })
noncomputable def xTref23_SameLines_0 (y : (Bool ⊕ Unit)) : Tree (Ex × St U) := .ite y.isLeft (.opt Bool y.getLeft? fun r => .leaf (.ret, { tm := [(4, .v (vO (cPair cBool (cUnit)) (r, ())))], hp := [] })) (.opt Unit y.getRight? fun r => .leaf (.exit 0, { tm := [], hp := [] }))
noncomputable def href23_SameLines_0 : Hd := { keep := [0, 1, 5], xkeep := [4], own := false }
noncomputable def Eref23_SameLines : Env U := { P := Try.prog, cd := cd, fns := fns69, lps := (addL 0 href23_SameLines_0 (mkLoop tAref23_SameLines_0 tBref23_SameLines_0 Pref23_SameLines_0 (Lref23_SameLines_0 none) xTref23_SameLines_0) noL), frz := fun _r => false, nt := 26, n0 := 0 }
noncomputable def Bref23_SameLines_0 : Code := (loopAt (Try.f70.body.getD .skip) 0 0).getD .skip
theorem roundref23_SameLines_0 (s : Sref23_SameLines_0) : round Eref23_SameLines href23_SameLines_0 Bref23_SameLines_0 0 (eSref23_SameLines_0 s) = (Wref23_SameLines_0 s).map (sumE eSref23_SameLines_0 xSref23_SameLines_0) := by kernel_rfl
theorem lpref23_SameLines_0 : LpOk Eref23_SameLines Bref23_SameLines_0 0 := mkLoop_ok (A := tAref23_SameLines_0) (B := tBref23_SameLines_0) (f := Pref23_SameLines_0) (L := Lref23_SameLines_0 none) (tO_ok (cPair_ok (cSl_ok 59) cUnit_ok) (tO_ok (cPair_ok (cSl_ok 59) cUnit_ok) (tO_ok (cPair_ok (cInt_ok .i64) cUnit_ok) tNil_ok))) bNil_ok (enc := eSref23_SameLines_0) (out := xTref23_SameLines_0) (outS := xSref23_SameLines_0) (step := Wref23_SameLines_0) (fun _ => rfl) (fun _ _ => by kernel_rfl) (by kernel_rfl) (fun b => by cases b <;> rfl) roundref23_SameLines_0
theorem runref23_SameLines (x : (List Line) × (List Line) × Unit) (g : Unit) : execF Eref23_SameLines Try.f70 (Aref23_SameLines.enc x) (bNil.enc g) = (Tref23_SameLines none x.1 x.2.1).map Rref23_SameLines := by kernel_rfl
theorem okref23_SameLines : FnOk Try.prog cd 70 Sref23_SameLines := mk_ok (E := Eref23_SameLines) cd_ok fns69_ok Try.func70 (by kernel_rfl) (loops_of (addL_ok lpref23_SameLines_0 noL_ok)) (aO_ok (cSl_ok 59) (aO_ok (cSl_ok 59) (aNil_ok))) bNil_ok (T := fun x _ => Tref23_SameLines none x.1 x.2.1) (fun _ _ => rfl) runref23_SameLines
noncomputable def fns70 := addF 70 true Sref23_SameLines fns69
theorem fns70_ok : ∀ f q t, fns70 f = some (q, t) → FnOk Try.prog cd f t := addF_ok okref23_SameLines fns69_ok
/-- emulator/emulatorref17.SameTexts -/
structure Sref17_SameTexts_0 where
  t0 : (List (List UInt8))
  t1 : (List (List UInt8))
  t5 : Int
noncomputable def Wref17_SameTexts_0 (s : Sref17_SameTexts_0) : Tree (Sref17_SameTexts_0 ⊕ (Bool ⊕ Unit)) :=
  .ite (decide (s.t5 < (s.t0.length : Int)))
    (.ite (decide (0 ≤ s.t5))
      (.opt (List UInt8) (s.t0[(s.t5).toNat]?) fun y227 =>
        .ite (decide (0 ≤ s.t5))
          (.opt (List UInt8) (s.t1[(s.t5).toNat]?) fun y228 =>
            .ite (!decide (y227 = y228))
              (.leaf (.inr (.inl false)))
              (.leaf (.inl (Sref17_SameTexts_0.mk s.t0 s.t1 (IntKind.wrap .i64 (s.t5 + (1 : Int)))))))
          .fail)
      .fail)
    (.leaf (.inr (.inr ())))
noncomputable def Lref17_SameTexts_0 (q : Option Nat) (s : Sref17_SameTexts_0) : Option (Bool ⊕ Unit) := limQ q (fun s => (Wref17_SameTexts_0 s).run) s
theorem leLref17_SameTexts_0 (k : Nat) (s : Sref17_SameTexts_0) : Le (Lref17_SameTexts_0 (some k) s) (Lref17_SameTexts_0 none s) := limQ_le (fun _ => Le.rfl) s
noncomputable def Tref17_SameTexts (q : Option Nat) (x0 : (List (List UInt8))) (x1 : (List (List UInt8))) : Tree Bool :=
  .ite (!decide ((x0.length : Int) = (x1.length : Int)))
    (.leaf (false))
    (.opt (Bool ⊕ Unit) (Lref17_SameTexts_0 q (Sref17_SameTexts_0.mk x0 x1 (0 : Int))) fun l229 =>
      .ite (l229.isLeft)
        (.opt Bool (l229.getLeft?) fun a230 =>
          .leaf (a230))
        (.opt Unit (l229.getRight?) fun b231 =>
          .leaf (true)))
noncomputable def ref17_SameTexts (q : Option Nat) (x0 : (List (List UInt8))) (x1 : (List (List UInt8))) : Option Bool := (Tref17_SameTexts q x0 x1).run
theorem leref17_SameTexts (k : Nat) (x0 : (List (List UInt8))) (x1 : (List (List UInt8))) : Le (ref17_SameTexts (some k) x0 x1) (ref17_SameTexts none x0 x1) := (TLe.ite TLe.rfl (TLe.opt (leLref17_SameTexts_0 k _) fun _ => TLe.rfl))
noncomputable def Aref17_SameTexts : Arg U ((List (List UInt8)) × (List (List UInt8)) × Unit) := aO (cSl 9) (aO (cSl 9) (aNil))
noncomputable def Rref17_SameTexts (r : Bool) : List (V U) × List (Blk U) := ([vO cBool r], [])
noncomputable def Sref17_SameTexts : List (V U) → List (Blk U) → Option (FnOut U) := mkSpec Aref17_SameTexts bNil (fun x _ => ref17_SameTexts none x.1 x.2.1) Rref17_SameTexts
noncomputable def Pref17_SameTexts_0 (x : ((List (List UInt8)) × Unit) × ((List (List UInt8)) × Unit) × (Int × Unit) × Unit) (_g : Unit) : Sref17_SameTexts_0 := Sref17_SameTexts_0.mk x.1.1 x.2.1.1 x.2.2.1.1
noncomputable def tAref17_SameTexts_0 : Tms U (((List (List UInt8)) × Unit) × ((List (List UInt8)) × Unit) × (Int × Unit) × Unit) := tO 0 (cPair (cSl 9) (cUnit)) (tO 1 (cPair (cSl 9) (cUnit)) (tO 5 (cPair (cInt .i64) (cUnit)) (tNil)))
noncomputable def tBref17_SameTexts_0 : Bls U (Unit) := bNil
noncomputable def eSref17_SameTexts_0 (s : Sref17_SameTexts_0) : St U := { tm := [(0, .v (vO (cPair (cSl 9) (cUnit)) (s.t0, ()))), (1, .v (vO (cPair (cSl 9) (cUnit)) (s.t1, ()))), (5, .v (vO (cPair (cInt .i64) (cUnit)) (s.t5, ())))], hp := [] }
noncomputable def xSref17_SameTexts_0 : (Bool ⊕ Unit) → Ex × St U
  | .inl r => (.ret, { tm := [(4, .v (vO (cPair cBool (cUnit)) (r, ())))], hp := [] })
  | .inr r => (.exit 0, { tm := [], hp := [] })
noncomputable def xTref17_SameTexts_0 (y : (Bool ⊕ Unit)) : Tree (Ex × St U) := .ite y.isLeft (.opt Bool y.getLeft? fun r => .leaf (.ret, { tm := [(4, .v (vO (cPair cBool (cUnit)) (r, ())))], hp := [] })) (.opt Unit y.getRight? fun r => .leaf (.exit 0, { tm := [], hp := [] }))
noncomputable def href17_SameTexts_0 : Hd := { keep := [0, 1, 5], xkeep := [4], own := false }
noncomputable def Eref17_SameTexts : Env U := { P := Try.prog, cd := cd, fns := fns70, lps := (addL 0 href17_SameTexts_0 (mkLoop tAref17_SameTexts_0 tBref17_SameTexts_0 Pref17_SameTexts_0 (Lref17_SameTexts_0 none) xTref17_SameTexts_0) noL), frz := fun _r => false, nt := 26, n0 := 0 }
noncomputable def Bref17_SameTexts_0 : Code := (loopAt (Try.f107.body.getD .skip) 0 0).getD .skip
theorem roundref17_SameTexts_0 (s : Sref17_SameTexts_0) : round Eref17_SameTexts href17_SameTexts_0 Bref17_SameTexts_0 0 (eSref17_SameTexts_0 s) = (Wref17_SameTexts_0 s).map (sumE eSref17_SameTexts_0 xSref17_SameTexts_0) := by kernel_rfl
theorem lpref17_SameTexts_0 : LpOk Eref17_SameTexts Bref17_SameTexts_0 0 := mkLoop_ok (A := tAref17_SameTexts_0) (B := tBref17_SameTexts_0) (f := Pref17_SameTexts_0) (L := Lref17_SameTexts_0 none) (tO_ok (cPair_ok (cSl_ok 9) cUnit_ok) (tO_ok (cPair_ok (cSl_ok 9) cUnit_ok) (tO_ok (cPair_ok (cInt_ok .i64) cUnit_ok) tNil_ok))) bNil_ok (enc := eSref17_SameTexts_0) (out := xTref17_SameTexts_0) (outS := xSref17_SameTexts_0) (step := Wref17_SameTexts_0) (fun _ => rfl) (fun _ _ => by kernel_rfl) (by kernel_rfl) (fun b => by cases b <;> rfl) roundref17_SameTexts_0
theorem runref17_SameTexts (x : (List (List UInt8)) × (List (List UInt8)) × Unit) (g : Unit) : execF Eref17_SameTexts Try.f107 (Aref17_SameTexts.enc x) (bNil.enc g) = (Tref17_SameTexts none x.1 x.2.1).map Rref17_SameTexts := by kernel_rfl
theorem okref17_SameTexts : FnOk Try.prog cd 107 Sref17_SameTexts := mk_ok (E := Eref17_SameTexts) cd_ok fns70_ok Try.func107 (by kernel_rfl) (loops_of (addL_ok lpref17_SameTexts_0 noL_ok)) (aO_ok (cSl_ok 9) (aO_ok (cSl_ok 9) (aNil_ok))) bNil_ok (T := fun x _ => Tref17_SameTexts none x.1 x.2.1) (fun _ _ => rfl) runref17_SameTexts
noncomputable def fns107 := addF 107 true Sref17_SameTexts fns70
theorem fns107_ok : ∀ f q t, fns107 f = some (q, t) → FnOk Try.prog cd f t := addF_ok okref17_SameTexts fns70_ok
/-- emulator/emulatorref23.SameDisk -/
noncomputable def Tref23_SameDisk (q : Option Nat) (x0 : Disk) (x1 : Disk) : Tree Bool :=
  .opt Bool (ref17_SameTexts q x0.drive.sectors x1.drive.sectors) fun r232 =>
    .ite (!r232)
      (.leaf (false))
      (.opt Bool (ref08_Same q x0.drive.bad x1.drive.bad) fun r233 =>
        .ite (!r233)
          (.leaf (false))
          (.ite (!(x0.enable == x1.enable))
            (.leaf (false))
            (.ite (!(x0.ready == x1.ready))
              (.leaf (false))
              (.ite (!(x0.error == x1.error))
                (.leaf (false))
                (.ite (decide (x0.command = x1.command))
                  (.ite (decide (x0.words = x1.words))
                    (.ite (decide (x0.addr = x1.addr))
                      (.ite (decide (x0.start = x1.start))
                        (.leaf (decide (x0.left = x1.left)))
                        (.leaf (false)))
                      (.leaf (false)))
                    (.leaf (false)))
                  (.leaf (false)))))))
noncomputable def ref23_SameDisk (q : Option Nat) (x0 : Disk) (x1 : Disk) : Option Bool := (Tref23_SameDisk q x0 x1).run
theorem leref23_SameDisk (k : Nat) (x0 : Disk) (x1 : Disk) : Le (ref23_SameDisk (some k) x0 x1) (ref23_SameDisk none x0 x1) := (TLe.opt (leref17_SameTexts k _ _) fun _ => (TLe.ite TLe.rfl (TLe.opt (leref08_Same k _ _) fun _ => TLe.rfl)))
noncomputable def Aref23_SameDisk : Arg U (Disk × Disk × Unit) := aA cDisk (aA cDisk (aNil))
noncomputable def Rref23_SameDisk (r : Bool) : List (V U) × List (Blk U) := ([vO cBool r], [])
noncomputable def Sref23_SameDisk : List (V U) → List (Blk U) → Option (FnOut U) := mkSpec Aref23_SameDisk bNil (fun x _ => ref23_SameDisk none x.1 x.2.1) Rref23_SameDisk
noncomputable def Eref23_SameDisk : Env U := { P := Try.prog, cd := cd, fns := fns107, lps := noL, frz := fun _r => false, nt := 77, n0 := 0 }
theorem runref23_SameDisk (x : Disk × Disk × Unit) (g : Unit) : execF Eref23_SameDisk Try.f71 (Aref23_SameDisk.enc x) (bNil.enc g) = (Tref23_SameDisk none x.1 x.2.1).map Rref23_SameDisk := by kernel_rfl
theorem okref23_SameDisk : FnOk Try.prog cd 71 Sref23_SameDisk := mk_ok (E := Eref23_SameDisk) cd_ok fns107_ok Try.func71 (by kernel_rfl) (noLoops_body (by kernel_rfl)) (aA_ok cDisk_ok (aA_ok cDisk_ok (aNil_ok))) bNil_ok (T := fun x _ => Tref23_SameDisk none x.1 x.2.1) (fun _ _ => rfl) runref23_SameDisk
noncomputable def fns71 := addF 71 true Sref23_SameDisk fns107
theorem fns71_ok : ∀ f q t, fns71 f = some (q, t) → FnOk Try.prog cd f t := addF_ok okref23_SameDisk fns107_ok
/-- emulator/emulatorref17.Same -/
noncomputable def Tref17_Same (q : Option Nat) (x0 : Tape) (x1 : Tape) : Tree Bool :=
  .opt Bool (ref17_SameTexts q x0.records x1.records) fun r234 =>
    .ite (!r234)
      (.leaf (false))
      (.ite (!decide (x0.pos = x1.pos))
        (.leaf (false))
        (.ite (!(x0.enable == x1.enable))
          (.leaf (false))
          (.ite (!(x0.ready == x1.ready))
            (.leaf (false))
            (.ite (!(x0.error == x1.error))
              (.leaf (false))
              (.ite ((x0.mark == x1.mark))
                (.ite ((x0.end_ == x1.end_))
                  (.ite (decide (x0.command = x1.command))
                    (.ite (decide (x0.count = x1.count))
                      (.ite (decide (x0.addr = x1.addr))
                        (.leaf (decide (x0.left = x1.left)))
                        (.leaf (false)))
                      (.leaf (false)))
                    (.leaf (false)))
                  (.leaf (false)))
                (.leaf (false)))))))
noncomputable def ref17_Same (q : Option Nat) (x0 : Tape) (x1 : Tape) : Option Bool := (Tref17_Same q x0 x1).run
theorem leref17_Same (k : Nat) (x0 : Tape) (x1 : Tape) : Le (ref17_Same (some k) x0 x1) (ref17_Same none x0 x1) := (TLe.opt (leref17_SameTexts k _ _) fun _ => TLe.rfl)
noncomputable def Aref17_Same : Arg U (Tape × Tape × Unit) := aA cTape (aA cTape (aNil))
noncomputable def Rref17_Same (r : Bool) : List (V U) × List (Blk U) := ([vO cBool r], [])
noncomputable def Sref17_Same : List (V U) → List (Blk U) → Option (FnOut U) := mkSpec Aref17_Same bNil (fun x _ => ref17_Same none x.1 x.2.1) Rref17_Same
noncomputable def Eref17_Same : Env U := { P := Try.prog, cd := cd, fns := fns71, lps := noL, frz := fun _r => false, nt := 79, n0 := 0 }
theorem runref17_Same (x : Tape × Tape × Unit) (g : Unit) : execF Eref17_Same Try.f72 (Aref17_Same.enc x) (bNil.enc g) = (Tref17_Same none x.1 x.2.1).map Rref17_Same := by kernel_rfl
theorem okref17_Same : FnOk Try.prog cd 72 Sref17_Same := mk_ok (E := Eref17_Same) cd_ok fns71_ok Try.func72 (by kernel_rfl) (noLoops_body (by kernel_rfl)) (aA_ok cTape_ok (aA_ok cTape_ok (aNil_ok))) bNil_ok (T := fun x _ => Tref17_Same none x.1 x.2.1) (fun _ _ => rfl) runref17_Same
noncomputable def fns72 := addF 72 true Sref17_Same fns71
theorem fns72_ok : ∀ f q t, fns72 f = some (q, t) → FnOk Try.prog cd f t := addF_ok okref17_Same fns71_ok
/-- emulator/emulatorref23.Diff -/
structure Sref23_Diff_0 where
  t8 : Int
  b0 : (List (List UInt8))
  b1 : (List Bool)
  b2 : (List (List UInt8))
noncomputable def Wref23_Diff_0 (s : Sref23_Diff_0) : Tree (Sref23_Diff_0 ⊕ (List (List UInt8))) :=
  .ite (decide (s.t8 < (s.b0.length : Int)))
    (.ite (decide (0 ≤ s.t8))
      (.ite (decide (s.t8 < (s.b1.length : Int)))
        (.opt Bool (s.b1[(s.t8).toNat]?) fun y240 =>
          .ite (!y240)
            (.ite (decide (0 ≤ s.t8))
              (.ite (decide (s.t8 < (s.b0.length : Int)))
                (.opt (List UInt8) (s.b0[(s.t8).toNat]?) fun y241 =>
                  .ite (decide ((s.b2.length + ([y241]).length) * 16 ≤ 140737488355328))
                    (.leaf (.inl (Sref23_Diff_0.mk (IntKind.wrap .i64 (s.t8 + (1 : Int))) s.b0 s.b1 (s.b2 ++ ([y241])))))
                    .fail)
                .fail)
              .fail)
            (.leaf (.inl (Sref23_Diff_0.mk (IntKind.wrap .i64 (s.t8 + (1 : Int))) s.b0 s.b1 s.b2))))
        .fail)
      .fail)
    (.leaf (.inr s.b2))
noncomputable def Lref23_Diff_0 (q : Option Nat) (s : Sref23_Diff_0) : Option (List (List UInt8)) := limQ q (fun s => (Wref23_Diff_0 s).run) s
theorem leLref23_Diff_0 (k : Nat) (s : Sref23_Diff_0) : Le (Lref23_Diff_0 (some k) s) (Lref23_Diff_0 none s) := limQ_le (fun _ => Le.rfl) s
noncomputable def Tref23_Diff (q : Option Nat) (x0 : Machine) (x1 : Machine) : Tree (List (List UInt8)) :=
  .opt Bool (ref08_Same q x0.mem x1.mem) fun r235 =>
    .opt Bool (ref08_Same q x0.bad x1.bad) fun r236 =>
      .opt Bool (ref23_SameLines q x0.lines x1.lines) fun r237 =>
        .opt Bool (ref23_SameDisk q x0.disk x1.disk) fun r238 =>
          .opt Bool (ref17_Same q x0.tape x1.tape) fun r239 =>
            .opt (List (List UInt8)) (Lref23_Diff_0 q (Sref23_Diff_0.mk (0 : Int) ([[67, 112, 117], [77, 101, 109], [66, 97, 100], [77, 109, 117], [67, 108, 111, 99, 107], [76, 105, 110, 101, 115], [68, 105, 115, 107], [84, 97, 112, 101], [78, 111, 119], [72, 97, 108, 116, 101, 100], [87, 97, 105, 116, 105, 110, 103], [80, 111, 119, 101, 114], [80, 111, 119, 101, 114, 84, 114, 97, 112]]) ([((decide (x0.cpu.r = x1.cpu.r)) && ((decide (x0.cpu.sP = x1.cpu.sP)) && ((decide (x0.cpu.pC = x1.cpu.pC)) && (decide (x0.cpu.pSW = x1.cpu.pSW))))), r235, r236, ((x0.mmu.on == x1.mmu.on) && ((decide (x0.mmu.pages = x1.mmu.pages)) && ((decide (x0.mmu.status = x1.mmu.status)) && (decide (x0.mmu.addr = x1.mmu.addr))))), ((x0.clock.enable == x1.clock.enable) && ((x0.clock.ready == x1.clock.ready) && ((decide (x0.clock.period = x1.clock.period)) && (decide (x0.clock.left = x1.clock.left))))), r237, r238, r239, decide (x0.now = x1.now), (x0.halted == x1.halted), (x0.waiting == x1.waiting), decide (x0.power = x1.power), (x0.powerTrap == x1.powerTrap)]) ([]))) fun l242 =>
              .leaf (l242)
noncomputable def ref23_Diff (q : Option Nat) (x0 : Machine) (x1 : Machine) : Option (List (List UInt8)) := (Tref23_Diff q x0 x1).run
theorem leref23_Diff (k : Nat) (x0 : Machine) (x1 : Machine) : Le (ref23_Diff (some k) x0 x1) (ref23_Diff none x0 x1) := (TLe.opt (leref08_Same k _ _) fun _ => (TLe.opt (leref08_Same k _ _) fun _ => (TLe.opt (leref23_SameLines k _ _) fun _ => (TLe.opt (leref23_SameDisk k _ _) fun _ => (TLe.opt (leref17_Same k _ _) fun _ => (TLe.opt (leLref23_Diff_0 k _) fun _ => TLe.rfl))))))
noncomputable def Aref23_Diff : Arg U (Machine × Machine × Unit) := aA cMachine (aA cMachine (aNil))
noncomputable def Rref23_Diff (r : (List (List UInt8))) : List (V U) × List (Blk U) := ([vO (cSl 9) r], [])
noncomputable def Sref23_Diff : List (V U) → List (Blk U) → Option (FnOut U) := mkSpec Aref23_Diff bNil (fun x _ => ref23_Diff none x.1 x.2.1) Rref23_Diff
noncomputable def Pref23_Diff_0 (x : (Unit) × (Unit) × (Unit) × (Int × Unit) × Unit) (g : (List (List UInt8)) × (List Bool) × (List (List UInt8)) × Unit) : Sref23_Diff_0 := Sref23_Diff_0.mk x.2.2.2.1.1 g.1 g.2.1 g.2.2.1
noncomputable def tAref23_Diff_0 : Tms U ((Unit) × (Unit) × (Unit) × (Int × Unit) × Unit) := tO 5 (cK (.row 0 0) (cUnit)) (tO 6 (cK (.row 1 0) (cUnit)) (tO 7 (cK (.row 2 0) (cUnit)) (tO 8 (cPair (cInt .i64) (cUnit)) (tNil))))
noncomputable def tBref23_Diff_0 : Bls U ((List (List UInt8)) × (List Bool) × (List (List UInt8)) × Unit) := bRv 9 0 (bRv 4 0 (bRv 9 0 (bNil)))
noncomputable def eSref23_Diff_0 (s : Sref23_Diff_0) : St U := { tm := [(5, .v (vO (cK (.row 0 0) (cUnit)) (()))), (6, .v (vO (cK (.row 1 0) (cUnit)) (()))), (7, .v (vO (cK (.row 2 0) (cUnit)) (()))), (8, .v (vO (cPair (cInt .i64) (cUnit)) (s.t8, ())))], hp := [.row 9 0 s.b0, .row 4 0 s.b1, .row 9 0 s.b2] }
noncomputable def xSref23_Diff_0 (r : (List (List UInt8))) : Ex × St U := (.exit 0, { tm := [(7, .v (vO (cK (.row 0 0) (cUnit)) (())))], hp := [.row 9 0 r] })
noncomputable def xTref23_Diff_0 (r : (List (List UInt8))) : Tree (Ex × St U) := .leaf (xSref23_Diff_0 r)
noncomputable def href23_Diff_0 : Hd := { keep := [5, 6, 7, 8], xkeep := [4, 7], own := true }
noncomputable def Eref23_Diff : Env U := { P := Try.prog, cd := cd, fns := fns72, lps := (addL 0 href23_Diff_0 (mkLoop tAref23_Diff_0 tBref23_Diff_0 Pref23_Diff_0 (Lref23_Diff_0 none) xTref23_Diff_0) noL), frz := fun _r => false, nt := 95, n0 := 0 }
noncomputable def Bref23_Diff_0 : Code := (loopAt (Try.f28.body.getD .skip) 0 0).getD .skip
theorem roundref23_Diff_0 (s : Sref23_Diff_0) : round Eref23_Diff href23_Diff_0 Bref23_Diff_0 0 (eSref23_Diff_0 s) = (Wref23_Diff_0 s).map (sumE eSref23_Diff_0 xSref23_Diff_0) := by kernel_rfl
theorem lpref23_Diff_0 : LpOk Eref23_Diff Bref23_Diff_0 0 := mkLoop_ok (A := tAref23_Diff_0) (B := tBref23_Diff_0) (f := Pref23_Diff_0) (L := Lref23_Diff_0 none) (tO_ok (cK_ok cUnit_ok) (tO_ok (cK_ok cUnit_ok) (tO_ok (cK_ok cUnit_ok) (tO_ok (cPair_ok (cInt_ok .i64) cUnit_ok) tNil_ok)))) (bRv_ok (bRv_ok (bRv_ok bNil_ok))) (enc := eSref23_Diff_0) (out := xTref23_Diff_0) (outS := xSref23_Diff_0) (step := Wref23_Diff_0) (fun _ => rfl) (fun _ _ => by kernel_rfl) (by kernel_rfl) (fun _ => rfl) roundref23_Diff_0
theorem runref23_Diff (x : Machine × Machine × Unit) (g : Unit) : execF Eref23_Diff Try.f28 (Aref23_Diff.enc x) (bNil.enc g) = (Tref23_Diff none x.1 x.2.1).map Rref23_Diff := by kernel_rfl
theorem okref23_Diff : FnOk Try.prog cd 28 Sref23_Diff := mk_ok (E := Eref23_Diff) cd_ok fns72_ok Try.func28 (by kernel_rfl) (loops_of (addL_ok lpref23_Diff_0 noL_ok)) (aA_ok cMachine_ok (aA_ok cMachine_ok (aNil_ok))) bNil_ok (T := fun x _ => Tref23_Diff none x.1 x.2.1) (fun _ _ => rfl) runref23_Diff
noncomputable def fns28 := addF 28 true Sref23_Diff fns72
theorem fns28_ok : ∀ f q t, fns28 f = some (q, t) → FnOk Try.prog cd f t := addF_ok okref23_Diff fns72_ok
/-- emulator/emulatorref23.Same -/
noncomputable def Tref23_Same (q : Option Nat) (x0 : Machine) (x1 : Machine) : Tree Bool :=
  .opt (List (List UInt8)) (ref23_Diff q x0 x1) fun r243 =>
    .leaf (decide ((r243.length : Int) = (0 : Int)))
noncomputable def ref23_Same (q : Option Nat) (x0 : Machine) (x1 : Machine) : Option Bool := (Tref23_Same q x0 x1).run
theorem leref23_Same (k : Nat) (x0 : Machine) (x1 : Machine) : Le (ref23_Same (some k) x0 x1) (ref23_Same none x0 x1) := (TLe.opt (leref23_Diff k _ _) fun _ => TLe.rfl)
noncomputable def Aref23_Same : Arg U (Machine × Machine × Unit) := aA cMachine (aA cMachine (aNil))
noncomputable def Rref23_Same (r : Bool) : List (V U) × List (Blk U) := ([vO cBool r], [])
noncomputable def Sref23_Same : List (V U) → List (Blk U) → Option (FnOut U) := mkSpec Aref23_Same bNil (fun x _ => ref23_Same none x.1 x.2.1) Rref23_Same
noncomputable def Eref23_Same : Env U := { P := Try.prog, cd := cd, fns := fns28, lps := noL, frz := fun _r => false, nt := 10, n0 := 0 }
theorem runref23_Same (x : Machine × Machine × Unit) (g : Unit) : execF Eref23_Same Try.f12 (Aref23_Same.enc x) (bNil.enc g) = (Tref23_Same none x.1 x.2.1).map Rref23_Same := by kernel_rfl
theorem okref23_Same : FnOk Try.prog cd 12 Sref23_Same := mk_ok (E := Eref23_Same) cd_ok fns28_ok Try.func12 (by kernel_rfl) (noLoops_body (by kernel_rfl)) (aA_ok cMachine_ok (aA_ok cMachine_ok (aNil_ok))) bNil_ok (T := fun x _ => Tref23_Same none x.1 x.2.1) (fun _ _ => rfl) runref23_Same
noncomputable def fns12 := addF 12 true Sref23_Same fns28
theorem fns12_ok : ∀ f q t, fns12 f = some (q, t) → FnOk Try.prog cd f t := addF_ok okref23_Same fns28_ok
/-- emulator/emulatorlaw18.BusReads -/
noncomputable def Tlaw18_BusReads (q : Option Nat) (x0 : Machine) (x1 : Int) (x2 : Bool) : Tree Bool :=
  .opt Bool (law18_Small q x0) fun r244 =>
    .ite (!r244)
      (.opt Bool (law18_alive q) fun r246 =>
        .leaf (r246))
      (.opt Bool (ref18_Right q x0) fun r245 =>
        .ite (!r245)
          (.opt Bool (law18_alive q) fun r247 =>
            .leaf (r247))
          (.opt (Machine × Int × Int) (bus_Read q x0 x1 x2) fun r248 =>
            .opt (Machine × Int × Int) (ref18_Read q x0 x1 x2) fun r249 =>
              .opt Bool (law18_alive q) fun r250 =>
                .ite (r250)
                  (.opt Bool (ref23_Same q r248.1 r249.1) fun r251 =>
                    .ite (r251)
                      (.ite (decide (r248.2.1 = r249.2.1))
                        (.leaf (decide (r248.2.2 = r249.2.2)))
                        (.leaf (false)))
                      (.leaf (false)))
                  (.leaf (false))))
noncomputable def law18_BusReads (q : Option Nat) (x0 : Machine) (x1 : Int) (x2 : Bool) : Option Bool := (Tlaw18_BusReads q x0 x1 x2).run
theorem lelaw18_BusReads (k : Nat) (x0 : Machine) (x1 : Int) (x2 : Bool) : Le (law18_BusReads (some k) x0 x1 x2) (law18_BusReads none x0 x1 x2) := (TLe.opt (lelaw18_Small k _) fun _ => (TLe.ite (TLe.opt (lelaw18_alive k) fun _ => TLe.rfl) (TLe.opt (leref18_Right k _) fun _ => (TLe.ite (TLe.opt (lelaw18_alive k) fun _ => TLe.rfl) (TLe.opt (lebus_Read k _ _ _) fun _ => (TLe.opt (leref18_Read k _ _ _) fun _ => (TLe.opt (lelaw18_alive k) fun _ => (TLe.ite (TLe.opt (leref23_Same k _ _) fun _ => TLe.rfl) TLe.rfl))))))))
noncomputable def Alaw18_BusReads : Arg U (Machine × Int × Bool × Unit) := aA cMachine (aO (cInt .i64) (aO cBool (aNil)))
noncomputable def Rlaw18_BusReads (r : Bool) : List (V U) × List (Blk U) := ([vO cBool r], [])
noncomputable def Slaw18_BusReads : List (V U) → List (Blk U) → Option (FnOut U) := mkSpec Alaw18_BusReads bNil (fun x _ => law18_BusReads none x.1 x.2.1 x.2.2.1) Rlaw18_BusReads
noncomputable def Elaw18_BusReads : Env U := { P := Try.prog, cd := cd, fns := fns12, lps := noL, frz := fun _r => false, nt := 54, n0 := 0 }
theorem runlaw18_BusReads (x : Machine × Int × Bool × Unit) (g : Unit) : execF Elaw18_BusReads Try.f3 (Alaw18_BusReads.enc x) (bNil.enc g) = (Tlaw18_BusReads none x.1 x.2.1 x.2.2.1).map Rlaw18_BusReads := by kernel_rfl
theorem oklaw18_BusReads : FnOk Try.prog cd 3 Slaw18_BusReads := mk_ok (E := Elaw18_BusReads) cd_ok fns12_ok Try.func3 (by kernel_rfl) (noLoops_body (by kernel_rfl)) (aA_ok cMachine_ok (aO_ok (cInt_ok .i64) (aO_ok cBool_ok (aNil_ok)))) bNil_ok (T := fun x _ => Tlaw18_BusReads none x.1 x.2.1 x.2.2.1) (fun _ _ => rfl) runlaw18_BusReads
noncomputable def fns3 := addF 3 true Slaw18_BusReads fns12
theorem fns3_ok : ∀ f q t, fns3 f = some (q, t) → FnOk Try.prog cd f t := addF_ok oklaw18_BusReads fns12_ok
/-- emulator/emulatorlaw18.BusSeparate -/
structure Slaw18_BusSeparate_0 where
  t1 : Int
  t12 : Int
  b0 : Machine
  b1 : Machine
  b2 : Machine
noncomputable def Wlaw18_BusSeparate_0 (s : Slaw18_BusSeparate_0) : Tree (Slaw18_BusSeparate_0 ⊕ ((Int × Bool × Machine × Machine) ⊕ (Int × Machine × Machine))) :=
  .ite (decide (s.t12 < (s.b0.mem.length : Int)))
    (.ite (decide (0 ≤ s.t12))
      (.opt Int (s.b1.mem[(s.t12).toNat]?) fun y260 =>
        .ite (decide (0 ≤ s.t12))
          (.opt Int (s.b0.mem[(s.t12).toNat]?) fun y261 =>
            .ite (!decide (y260 = y261))
              (.leaf (.inr (.inl (s.t1, false, s.b0, s.b1))))
              (.ite (decide ((2 : Int) = 0))
                .fail
                (.ite (!decide (s.t12 = (IntKind.wrap .i64 ((s.t1).tdiv (2 : Int)))))
                  (.ite (decide (0 ≤ s.t12))
                    (.opt Int (s.b2.mem[(s.t12).toNat]?) fun y262 =>
                      .ite (decide (0 ≤ s.t12))
                        (.opt Int (s.b0.mem[(s.t12).toNat]?) fun y263 =>
                          .ite (!decide (y262 = y263))
                            (.leaf (.inr (.inl (s.t1, false, s.b0, s.b1))))
                            (.leaf (.inl (Slaw18_BusSeparate_0.mk s.t1 (IntKind.wrap .i64 (s.t12 + (1 : Int))) s.b0 s.b1 s.b2))))
                        .fail)
                    .fail)
                  (.leaf (.inl (Slaw18_BusSeparate_0.mk s.t1 (IntKind.wrap .i64 (s.t12 + (1 : Int))) s.b0 s.b1 s.b2))))))
          .fail)
      .fail)
    (.leaf (.inr (.inr (s.t1, s.b0, s.b1))))
noncomputable def Llaw18_BusSeparate_0 (q : Option Nat) (s : Slaw18_BusSeparate_0) : Option ((Int × Bool × Machine × Machine) ⊕ (Int × Machine × Machine)) := limQ q (fun s => (Wlaw18_BusSeparate_0 s).run) s
theorem leLlaw18_BusSeparate_0 (k : Nat) (s : Slaw18_BusSeparate_0) : Le (Llaw18_BusSeparate_0 (some k) s) (Llaw18_BusSeparate_0 none s) := limQ_le (fun _ => Le.rfl) s
noncomputable def Tlaw18_BusSeparate (q : Option Nat) (x0 : Machine) (x1 : Int) (x2 : Int) : Tree Bool :=
  .opt Bool (law18_Small q x0) fun r252 =>
    .ite (!r252)
      (.opt Bool (law18_alive q) fun r254 =>
        .leaf (r254))
      (.opt Bool (ref18_Right q x0) fun r253 =>
        .ite (!r253)
          (.opt Bool (law18_alive q) fun r255 =>
            .leaf (r255))
          (.ite (decide (x1 < (0 : Int)))
            (.opt Bool (law18_alive q) fun r256 =>
              .leaf (r256))
            (.ite (decide ((262144 : Int) ≤ x1))
              (.opt Bool (law18_alive q) fun r257 =>
                .leaf (r257))
              (.opt (Machine × Int × Int) (bus_Read q x0 x1 true) fun r258 =>
                .opt (Machine × Int) (bus_Write q x0 x1 true x2) fun r259 =>
                  .ite (!decide ((r258.1.mem.length : Int) = (x0.mem.length : Int)))
                    (.leaf (false))
                    (.ite (!decide ((r259.1.mem.length : Int) = (x0.mem.length : Int)))
                      (.leaf (false))
                      (.opt ((Int × Bool × Machine × Machine) ⊕ (Int × Machine × Machine)) (Llaw18_BusSeparate_0 q (Slaw18_BusSeparate_0.mk x1 (0 : Int) x0 r258.1 r259.1)) fun l264 =>
                        .ite (l264.isLeft)
                          (.opt (Int × Bool × Machine × Machine) (l264.getLeft?) fun a265 =>
                            .leaf (a265.2.1))
                          (.opt (Int × Machine × Machine) (l264.getRight?) fun b266 =>
                            .opt Bool (law18_alive q) fun r267 =>
                              .ite (r267)
                                (.ite (decide ((253952 : Int) ≤ b266.1))
                                  (.leaf (true))
                                  (.opt Bool (ref23_Same q b266.2.2 b266.2.1) fun r268 =>
                                    .leaf (r268)))
                                (.leaf (false)))))))))
noncomputable def law18_BusSeparate (q : Option Nat) (x0 : Machine) (x1 : Int) (x2 : Int) : Option Bool := (Tlaw18_BusSeparate q x0 x1 x2).run
theorem lelaw18_BusSeparate (k : Nat) (x0 : Machine) (x1 : Int) (x2 : Int) : Le (law18_BusSeparate (some k) x0 x1 x2) (law18_BusSeparate none x0 x1 x2) := (TLe.opt (lelaw18_Small k _) fun _ => (TLe.ite (TLe.opt (lelaw18_alive k) fun _ => TLe.rfl) (TLe.opt (leref18_Right k _) fun _ => (TLe.ite (TLe.opt (lelaw18_alive k) fun _ => TLe.rfl) (TLe.ite (TLe.opt (lelaw18_alive k) fun _ => TLe.rfl) (TLe.ite (TLe.opt (lelaw18_alive k) fun _ => TLe.rfl) (TLe.opt (lebus_Read k _ _ _) fun _ => (TLe.opt (lebus_Write k _ _ _ _) fun _ => (TLe.ite TLe.rfl (TLe.ite TLe.rfl (TLe.opt (leLlaw18_BusSeparate_0 k _) fun _ => (TLe.ite TLe.rfl (TLe.opt Le.rfl fun _ => (TLe.opt (lelaw18_alive k) fun _ => (TLe.ite (TLe.ite TLe.rfl (TLe.opt (leref23_Same k _ _) fun _ => TLe.rfl)) TLe.rfl)))))))))))))))
noncomputable def Alaw18_BusSeparate : Arg U (Machine × Int × Int × Unit) := aA cMachine (aO (cInt .i64) (aO (cInt .i64) (aNil)))
noncomputable def Rlaw18_BusSeparate (r : Bool) : List (V U) × List (Blk U) := ([vO cBool r], [])
noncomputable def Slaw18_BusSeparate : List (V U) → List (Blk U) → Option (FnOut U) := mkSpec Alaw18_BusSeparate bNil (fun x _ => law18_BusSeparate none x.1 x.2.1 x.2.2.1) Rlaw18_BusSeparate
noncomputable def Plaw18_BusSeparate_0 (x : (Int × Unit) × (Unit) × (Unit) × (Unit) × (Int × Unit) × Unit) (g : (Machine × Unit) × (Machine × Unit) × (Machine × Unit) × Unit) : Slaw18_BusSeparate_0 := Slaw18_BusSeparate_0.mk x.1.1 x.2.2.2.2.1.1 g.1.1 g.2.1.1 g.2.2.1.1
noncomputable def tAlaw18_BusSeparate_0 : Tms U ((Int × Unit) × (Unit) × (Unit) × (Unit) × (Int × Unit) × Unit) := tO 1 (cPair (cInt .i64) (cUnit)) (tO 3 (cK (.ptr 0 0) (cUnit)) (tO 7 (cK (.ptr 1 0) (cUnit)) (tO 10 (cK (.ptr 2 0) (cUnit)) (tO 12 (cPair (cInt .i64) (cUnit)) (tNil)))))
noncomputable def tBlaw18_BusSeparate_0 : Bls U ((Machine × Unit) × (Machine × Unit) × (Machine × Unit) × Unit) := bC (cPair cMachine (cUnit)) (bC (cPair cMachine (cUnit)) (bC (cPair cMachine (cUnit)) (bNil)))
noncomputable def eSlaw18_BusSeparate_0 (s : Slaw18_BusSeparate_0) : St U := { tm := [(1, .v (vO (cPair (cInt .i64) (cUnit)) (s.t1, ()))), (3, .v (vO (cK (.ptr 0 0) (cUnit)) (()))), (7, .v (vO (cK (.ptr 1 0) (cUnit)) (()))), (10, .v (vO (cK (.ptr 2 0) (cUnit)) (()))), (12, .v (vO (cPair (cInt .i64) (cUnit)) (s.t12, ())))], hp := [.cells ((cPair cMachine (cUnit) : Cdc U (Machine × Unit)).enc (s.b0, ())), .cells ((cPair cMachine (cUnit) : Cdc U (Machine × Unit)).enc (s.b1, ())), .cells ((cPair cMachine (cUnit) : Cdc U (Machine × Unit)).enc (s.b2, ()))] }
noncomputable def xSlaw18_BusSeparate_0 : ((Int × Bool × Machine × Machine) ⊕ (Int × Machine × Machine)) → Ex × St U
  | .inl r => (.ret, { tm := [(1, .v (vO (cPair (cInt .i64) (cUnit)) (r.1, ()))), (3, .v (vO (cK (.ptr 0 0) (cUnit)) (()))), (6, .v (vO (cPair cBool (cUnit)) (r.2.1, ()))), (7, .v (vO (cK (.ptr 1 0) (cUnit)) (())))], hp := [.cells ((cPair cMachine (cUnit) : Cdc U (Machine × Unit)).enc (r.2.2.1, ())), .cells ((cPair cMachine (cUnit) : Cdc U (Machine × Unit)).enc (r.2.2.2, ()))] })
  | .inr r => (.exit 0, { tm := [(1, .v (vO (cPair (cInt .i64) (cUnit)) (r.1, ()))), (3, .v (vO (cK (.ptr 0 0) (cUnit)) (()))), (7, .v (vO (cK (.ptr 1 0) (cUnit)) (())))], hp := [.cells ((cPair cMachine (cUnit) : Cdc U (Machine × Unit)).enc (r.2.1, ())), .cells ((cPair cMachine (cUnit) : Cdc U (Machine × Unit)).enc (r.2.2, ()))] })
noncomputable def xTlaw18_BusSeparate_0 (y : ((Int × Bool × Machine × Machine) ⊕ (Int × Machine × Machine))) : Tree (Ex × St U) := .ite y.isLeft (.opt (Int × Bool × Machine × Machine) y.getLeft? fun r => .leaf (.ret, { tm := [(1, .v (vO (cPair (cInt .i64) (cUnit)) (r.1, ()))), (3, .v (vO (cK (.ptr 0 0) (cUnit)) (()))), (6, .v (vO (cPair cBool (cUnit)) (r.2.1, ()))), (7, .v (vO (cK (.ptr 1 0) (cUnit)) (())))], hp := [.cells ((cPair cMachine (cUnit) : Cdc U (Machine × Unit)).enc (r.2.2.1, ())), .cells ((cPair cMachine (cUnit) : Cdc U (Machine × Unit)).enc (r.2.2.2, ()))] })) (.opt (Int × Machine × Machine) y.getRight? fun r => .leaf (.exit 0, { tm := [(1, .v (vO (cPair (cInt .i64) (cUnit)) (r.1, ()))), (3, .v (vO (cK (.ptr 0 0) (cUnit)) (()))), (7, .v (vO (cK (.ptr 1 0) (cUnit)) (())))], hp := [.cells ((cPair cMachine (cUnit) : Cdc U (Machine × Unit)).enc (r.2.1, ())), .cells ((cPair cMachine (cUnit) : Cdc U (Machine × Unit)).enc (r.2.2, ()))] }))
noncomputable def hlaw18_BusSeparate_0 : Hd := { keep := [1, 3, 7, 10, 12], xkeep := [1, 3, 6, 7], own := false }
noncomputable def Elaw18_BusSeparate : Env U := { P := Try.prog, cd := cd, fns := fns3, lps := (addL 0 hlaw18_BusSeparate_0 (mkLoop tAlaw18_BusSeparate_0 tBlaw18_BusSeparate_0 Plaw18_BusSeparate_0 (Llaw18_BusSeparate_0 none) xTlaw18_BusSeparate_0) noL), frz := fun _r => false, nt := 107, n0 := 0 }
noncomputable def Blaw18_BusSeparate_0 : Code := (loopAt (Try.f4.body.getD .skip) 0 0).getD .skip
theorem roundlaw18_BusSeparate_0 (s : Slaw18_BusSeparate_0) : round Elaw18_BusSeparate hlaw18_BusSeparate_0 Blaw18_BusSeparate_0 0 (eSlaw18_BusSeparate_0 s) = (Wlaw18_BusSeparate_0 s).map (sumE eSlaw18_BusSeparate_0 xSlaw18_BusSeparate_0) := by kernel_rfl
theorem lplaw18_BusSeparate_0 : LpOk Elaw18_BusSeparate Blaw18_BusSeparate_0 0 := mkLoop_ok (A := tAlaw18_BusSeparate_0) (B := tBlaw18_BusSeparate_0) (f := Plaw18_BusSeparate_0) (L := Llaw18_BusSeparate_0 none) (tO_ok (cPair_ok (cInt_ok .i64) cUnit_ok) (tO_ok (cK_ok cUnit_ok) (tO_ok (cK_ok cUnit_ok) (tO_ok (cK_ok cUnit_ok) (tO_ok (cPair_ok (cInt_ok .i64) cUnit_ok) tNil_ok))))) (bC_ok (cPair_ok cMachine_ok cUnit_ok) (bC_ok (cPair_ok cMachine_ok cUnit_ok) (bC_ok (cPair_ok cMachine_ok cUnit_ok) bNil_ok))) (enc := eSlaw18_BusSeparate_0) (out := xTlaw18_BusSeparate_0) (outS := xSlaw18_BusSeparate_0) (step := Wlaw18_BusSeparate_0) (fun _ => rfl) (fun _ _ => by kernel_rfl) (by kernel_rfl) (fun b => by cases b <;> rfl) roundlaw18_BusSeparate_0
theorem runlaw18_BusSeparate (x : Machine × Int × Int × Unit) (g : Unit) : execF Elaw18_BusSeparate Try.f4 (Alaw18_BusSeparate.enc x) (bNil.enc g) = (Tlaw18_BusSeparate none x.1 x.2.1 x.2.2.1).map Rlaw18_BusSeparate := by kernel_rfl
theorem oklaw18_BusSeparate : FnOk Try.prog cd 4 Slaw18_BusSeparate := mk_ok (E := Elaw18_BusSeparate) cd_ok fns3_ok Try.func4 (by kernel_rfl) (loops_of (addL_ok lplaw18_BusSeparate_0 noL_ok)) (aA_ok cMachine_ok (aO_ok (cInt_ok .i64) (aO_ok (cInt_ok .i64) (aNil_ok)))) bNil_ok (T := fun x _ => Tlaw18_BusSeparate none x.1 x.2.1 x.2.2.1) (fun _ _ => rfl) runlaw18_BusSeparate
noncomputable def fns4 := addF 4 true Slaw18_BusSeparate fns3
theorem fns4_ok : ∀ f q t, fns4 f = some (q, t) → FnOk Try.prog cd f t := addF_ok oklaw18_BusSeparate fns3_ok
/-- emulator/memory.sized -/
noncomputable def Tmemory_sized (x0 : Int) : Tree Bool :=
  .ite (decide ((256 : Int) ≤ x0))
    (.ite (decide (x0 ≤ (32768 : Int)))
      (.ite (decide ((64 : Int) = 0))
        .fail
        (.leaf (decide (((x0).tmod (64 : Int)) = (0 : Int)))))
      (.leaf (false)))
    (.leaf (false))
noncomputable def memory_sized (x0 : Int) : Option Bool := (Tmemory_sized x0).run
noncomputable def Amemory_sized : Arg U (Int × Unit) := aO (cInt .i64) (aNil)
noncomputable def Rmemory_sized (r : Bool) : List (V U) × List (Blk U) := ([vO cBool r], [])
noncomputable def Smemory_sized : List (V U) → List (Blk U) → Option (FnOut U) := mkSpec Amemory_sized bNil (fun x _ => memory_sized x.1) Rmemory_sized
noncomputable def Ememory_sized : Env U := { P := Try.prog, cd := cd, fns := fns4, lps := noL, frz := fun _r => false, nt := 14, n0 := 0 }
theorem runmemory_sized (x : Int × Unit) (g : Unit) : execF Ememory_sized Try.f82 (Amemory_sized.enc x) (bNil.enc g) = (Tmemory_sized x.1).map Rmemory_sized := by kernel_rfl
theorem okmemory_sized : FnOk Try.prog cd 82 Smemory_sized := mk_ok (E := Ememory_sized) cd_ok fns4_ok Try.func82 (by kernel_rfl) (noLoops_body (by kernel_rfl)) (aO_ok (cInt_ok .i64) (aNil_ok)) bNil_ok (T := fun x _ => Tmemory_sized x.1) (fun _ _ => rfl) runmemory_sized
noncomputable def fns82 := addF 82 true Smemory_sized fns4
theorem fns82_ok : ∀ f q t, fns82 f = some (q, t) → FnOk Try.prog cd f t := addF_ok okmemory_sized fns4_ok
/-- emulator/memory.Right -/
structure Smemory_Right_0 where
  t0 : (List Int)
  t1 : (List Int)
  t15 : (List Int)
  t16 : Int
  t17 : Int
noncomputable def Wmemory_Right_0 (s : Smemory_Right_0) : Tree (Smemory_Right_0 ⊕ (((List Int) × (List Int) × Bool) ⊕ ((List Int) × (List Int)))) :=
  .ite (decide (s.t17 < s.t16))
    (.ite (decide (0 ≤ s.t17))
      (.opt Int (s.t15[(s.t17).toNat]?) fun y270 =>
        .ite (!decide ((IntKind.wrap .i64 (((BitVec.ofInt 64 y270 &&& BitVec.ofInt 64 (65535 : Int)).toNat : Int))) = y270))
          (.leaf (.inr (.inl (s.t0, s.t1, false))))
          (.leaf (.inl (Smemory_Right_0.mk s.t0 s.t1 s.t15 s.t16 (IntKind.wrap .i64 (s.t17 + (1 : Int)))))))
      .fail)
    (.leaf (.inr (.inr (s.t0, s.t1))))
noncomputable def Lmemory_Right_0 (q : Option Nat) (s : Smemory_Right_0) : Option (((List Int) × (List Int) × Bool) ⊕ ((List Int) × (List Int))) := limQ q (fun s => (Wmemory_Right_0 s).run) s
theorem leLmemory_Right_0 (k : Nat) (s : Smemory_Right_0) : Le (Lmemory_Right_0 (some k) s) (Lmemory_Right_0 none s) := limQ_le (fun _ => Le.rfl) s
structure Smemory_Right_1 where
  t0 : (List Int)
  t7 : Int
  t26 : (List Int)
  t27 : Int
  t28 : Int
noncomputable def Wmemory_Right_1 (s : Smemory_Right_1) : Tree (Smemory_Right_1 ⊕ (Bool ⊕ Unit)) :=
  .ite (decide (s.t28 < s.t27))
    (.ite (decide (0 ≤ s.t28))
      (.opt Int (s.t26[(s.t28).toNat]?) fun y274 =>
        .ite (decide (y274 ≤ s.t7))
          (.leaf (.inr (.inl false)))
          (.ite (decide ((2 : Int) = 0))
            .fail
            (.ite (!decide (((y274).tmod (2 : Int)) = (0 : Int)))
              (.leaf (.inr (.inl false)))
              (.ite (decide ((IntKind.wrap .i64 ((2 : Int) * (s.t0.length : Int))) ≤ y274))
                (.leaf (.inr (.inl false)))
                (.leaf (.inl (Smemory_Right_1.mk s.t0 y274 s.t26 s.t27 (IntKind.wrap .i64 (s.t28 + (1 : Int))))))))))
      .fail)
    (.leaf (.inr (.inr ())))
noncomputable def Lmemory_Right_1 (q : Option Nat) (s : Smemory_Right_1) : Option (Bool ⊕ Unit) := limQ q (fun s => (Wmemory_Right_1 s).run) s
theorem leLmemory_Right_1 (k : Nat) (s : Smemory_Right_1) : Le (Lmemory_Right_1 (some k) s) (Lmemory_Right_1 none s) := limQ_le (fun _ => Le.rfl) s
noncomputable def Tmemory_Right (q : Option Nat) (x0 : (List Int)) (x1 : (List Int)) : Tree Bool :=
  .opt Bool (memory_sized (IntKind.wrap .i64 ((2 : Int) * (x0.length : Int)))) fun r269 =>
    .ite (!r269)
      (.leaf (false))
      (.opt (((List Int) × (List Int) × Bool) ⊕ ((List Int) × (List Int))) (Lmemory_Right_0 q (Smemory_Right_0.mk x0 x1 x0 (x0.length : Int) (0 : Int))) fun l271 =>
        .ite (l271.isLeft)
          (.opt ((List Int) × (List Int) × Bool) (l271.getLeft?) fun a272 =>
            .leaf (a272.2.2))
          (.opt ((List Int) × (List Int)) (l271.getRight?) fun b273 =>
            .opt (Bool ⊕ Unit) (Lmemory_Right_1 q (Smemory_Right_1.mk b273.1 (-1 : Int) b273.2 (b273.2.length : Int) (0 : Int))) fun l275 =>
              .ite (l275.isLeft)
                (.opt Bool (l275.getLeft?) fun a276 =>
                  .leaf (a276))
                (.opt Unit (l275.getRight?) fun b277 =>
                  .leaf (true))))
noncomputable def memory_Right (q : Option Nat) (x0 : (List Int)) (x1 : (List Int)) : Option Bool := (Tmemory_Right q x0 x1).run
theorem lememory_Right (k : Nat) (x0 : (List Int)) (x1 : (List Int)) : Le (memory_Right (some k) x0 x1) (memory_Right none x0 x1) := (TLe.opt Le.rfl fun _ => (TLe.ite TLe.rfl (TLe.opt (leLmemory_Right_0 k _) fun _ => (TLe.ite TLe.rfl (TLe.opt Le.rfl fun _ => (TLe.opt (leLmemory_Right_1 k _) fun _ => TLe.rfl))))))
noncomputable def Amemory_Right : Arg U ((List Int) × (List Int) × Unit) := aO (cSl 3) (aO (cSl 3) (aNil))
noncomputable def Rmemory_Right (r : Bool) : List (V U) × List (Blk U) := ([vO cBool r], [])
noncomputable def Smemory_Right : List (V U) → List (Blk U) → Option (FnOut U) := mkSpec Amemory_Right bNil (fun x _ => memory_Right none x.1 x.2.1) Rmemory_Right
noncomputable def Pmemory_Right_0 (x : ((List Int) × Unit) × ((List Int) × Unit) × ((List Int) × Unit) × (Int × Unit) × (Int × Unit) × Unit) (_g : Unit) : Smemory_Right_0 := Smemory_Right_0.mk x.1.1 x.2.1.1 x.2.2.1.1 x.2.2.2.1.1 x.2.2.2.2.1.1
noncomputable def tAmemory_Right_0 : Tms U (((List Int) × Unit) × ((List Int) × Unit) × ((List Int) × Unit) × (Int × Unit) × (Int × Unit) × Unit) := tO 0 (cPair (cSl 3) (cUnit)) (tO 1 (cPair (cSl 3) (cUnit)) (tO 15 (cPair (cSl 3) (cUnit)) (tO 16 (cPair (cInt .i64) (cUnit)) (tO 17 (cPair (cInt .i64) (cUnit)) (tNil)))))
noncomputable def tBmemory_Right_0 : Bls U (Unit) := bNil
noncomputable def eSmemory_Right_0 (s : Smemory_Right_0) : St U := { tm := [(0, .v (vO (cPair (cSl 3) (cUnit)) (s.t0, ()))), (1, .v (vO (cPair (cSl 3) (cUnit)) (s.t1, ()))), (15, .v (vO (cPair (cSl 3) (cUnit)) (s.t15, ()))), (16, .v (vO (cPair (cInt .i64) (cUnit)) (s.t16, ()))), (17, .v (vO (cPair (cInt .i64) (cUnit)) (s.t17, ())))], hp := [] }
noncomputable def xSmemory_Right_0 : (((List Int) × (List Int) × Bool) ⊕ ((List Int) × (List Int))) → Ex × St U
  | .inl r => (.ret, { tm := [(0, .v (vO (cPair (cSl 3) (cUnit)) (r.1, ()))), (1, .v (vO (cPair (cSl 3) (cUnit)) (r.2.1, ()))), (4, .v (vO (cPair cBool (cUnit)) (r.2.2, ())))], hp := [] })
  | .inr r => (.exit 0, { tm := [(0, .v (vO (cPair (cSl 3) (cUnit)) (r.1, ()))), (1, .v (vO (cPair (cSl 3) (cUnit)) (r.2, ())))], hp := [] })
noncomputable def xTmemory_Right_0 (y : (((List Int) × (List Int) × Bool) ⊕ ((List Int) × (List Int)))) : Tree (Ex × St U) := .ite y.isLeft (.opt ((List Int) × (List Int) × Bool) y.getLeft? fun r => .leaf (.ret, { tm := [(0, .v (vO (cPair (cSl 3) (cUnit)) (r.1, ()))), (1, .v (vO (cPair (cSl 3) (cUnit)) (r.2.1, ()))), (4, .v (vO (cPair cBool (cUnit)) (r.2.2, ())))], hp := [] })) (.opt ((List Int) × (List Int)) y.getRight? fun r => .leaf (.exit 0, { tm := [(0, .v (vO (cPair (cSl 3) (cUnit)) (r.1, ()))), (1, .v (vO (cPair (cSl 3) (cUnit)) (r.2, ())))], hp := [] }))
noncomputable def hmemory_Right_0 : Hd := { keep := [0, 1, 15, 16, 17], xkeep := [0, 1, 4], own := false }
noncomputable def Pmemory_Right_1 (x : ((List Int) × Unit) × (Int × Unit) × ((List Int) × Unit) × (Int × Unit) × (Int × Unit) × Unit) (_g : Unit) : Smemory_Right_1 := Smemory_Right_1.mk x.1.1 x.2.1.1 x.2.2.1.1 x.2.2.2.1.1 x.2.2.2.2.1.1
noncomputable def tAmemory_Right_1 : Tms U (((List Int) × Unit) × (Int × Unit) × ((List Int) × Unit) × (Int × Unit) × (Int × Unit) × Unit) := tO 0 (cPair (cSl 3) (cUnit)) (tO 7 (cPair (cInt .i64) (cUnit)) (tO 26 (cPair (cSl 3) (cUnit)) (tO 27 (cPair (cInt .i64) (cUnit)) (tO 28 (cPair (cInt .i64) (cUnit)) (tNil)))))
noncomputable def tBmemory_Right_1 : Bls U (Unit) := bNil
noncomputable def eSmemory_Right_1 (s : Smemory_Right_1) : St U := { tm := [(0, .v (vO (cPair (cSl 3) (cUnit)) (s.t0, ()))), (7, .v (vO (cPair (cInt .i64) (cUnit)) (s.t7, ()))), (26, .v (vO (cPair (cSl 3) (cUnit)) (s.t26, ()))), (27, .v (vO (cPair (cInt .i64) (cUnit)) (s.t27, ()))), (28, .v (vO (cPair (cInt .i64) (cUnit)) (s.t28, ())))], hp := [] }
noncomputable def xSmemory_Right_1 : (Bool ⊕ Unit) → Ex × St U
  | .inl r => (.ret, { tm := [(4, .v (vO (cPair cBool (cUnit)) (r, ())))], hp := [] })
  | .inr r => (.exit 2, { tm := [], hp := [] })
noncomputable def xTmemory_Right_1 (y : (Bool ⊕ Unit)) : Tree (Ex × St U) := .ite y.isLeft (.opt Bool y.getLeft? fun r => .leaf (.ret, { tm := [(4, .v (vO (cPair cBool (cUnit)) (r, ())))], hp := [] })) (.opt Unit y.getRight? fun r => .leaf (.exit 2, { tm := [], hp := [] }))
noncomputable def hmemory_Right_1 : Hd := { keep := [0, 7, 26, 27, 28], xkeep := [4], own := false }
noncomputable def Ememory_Right : Env U := { P := Try.prog, cd := cd, fns := fns82, lps := (addL 0 hmemory_Right_0 (mkLoop tAmemory_Right_0 tBmemory_Right_0 Pmemory_Right_0 (Lmemory_Right_0 none) xTmemory_Right_0) (addL 1 hmemory_Right_1 (mkLoop tAmemory_Right_1 tBmemory_Right_1 Pmemory_Right_1 (Lmemory_Right_1 none) xTmemory_Right_1) noL)), frz := fun _r => false, nt := 49, n0 := 0 }
noncomputable def Bmemory_Right_0 : Code := (loopAt (Try.f31.body.getD .skip) 0 0).getD .skip
theorem roundmemory_Right_0 (s : Smemory_Right_0) : round Ememory_Right hmemory_Right_0 Bmemory_Right_0 0 (eSmemory_Right_0 s) = (Wmemory_Right_0 s).map (sumE eSmemory_Right_0 xSmemory_Right_0) := by kernel_rfl
theorem lpmemory_Right_0 : LpOk Ememory_Right Bmemory_Right_0 0 := mkLoop_ok (A := tAmemory_Right_0) (B := tBmemory_Right_0) (f := Pmemory_Right_0) (L := Lmemory_Right_0 none) (tO_ok (cPair_ok (cSl_ok 3) cUnit_ok) (tO_ok (cPair_ok (cSl_ok 3) cUnit_ok) (tO_ok (cPair_ok (cSl_ok 3) cUnit_ok) (tO_ok (cPair_ok (cInt_ok .i64) cUnit_ok) (tO_ok (cPair_ok (cInt_ok .i64) cUnit_ok) tNil_ok))))) bNil_ok (enc := eSmemory_Right_0) (out := xTmemory_Right_0) (outS := xSmemory_Right_0) (step := Wmemory_Right_0) (fun _ => rfl) (fun _ _ => by kernel_rfl) (by kernel_rfl) (fun b => by cases b <;> rfl) roundmemory_Right_0
noncomputable def Bmemory_Right_1 : Code := (loopAt (Try.f31.body.getD .skip) 0 1).getD .skip
theorem roundmemory_Right_1 (s : Smemory_Right_1) : round Ememory_Right hmemory_Right_1 Bmemory_Right_1 1 (eSmemory_Right_1 s) = (Wmemory_Right_1 s).map (sumE eSmemory_Right_1 xSmemory_Right_1) := by kernel_rfl
theorem lpmemory_Right_1 : LpOk Ememory_Right Bmemory_Right_1 1 := mkLoop_ok (A := tAmemory_Right_1) (B := tBmemory_Right_1) (f := Pmemory_Right_1) (L := Lmemory_Right_1 none) (tO_ok (cPair_ok (cSl_ok 3) cUnit_ok) (tO_ok (cPair_ok (cInt_ok .i64) cUnit_ok) (tO_ok (cPair_ok (cSl_ok 3) cUnit_ok) (tO_ok (cPair_ok (cInt_ok .i64) cUnit_ok) (tO_ok (cPair_ok (cInt_ok .i64) cUnit_ok) tNil_ok))))) bNil_ok (enc := eSmemory_Right_1) (out := xTmemory_Right_1) (outS := xSmemory_Right_1) (step := Wmemory_Right_1) (fun _ => rfl) (fun _ _ => by kernel_rfl) (by kernel_rfl) (fun b => by cases b <;> rfl) roundmemory_Right_1
theorem runmemory_Right (x : (List Int) × (List Int) × Unit) (g : Unit) : execF Ememory_Right Try.f31 (Amemory_Right.enc x) (bNil.enc g) = (Tmemory_Right none x.1 x.2.1).map Rmemory_Right := by kernel_rfl
theorem okmemory_Right : FnOk Try.prog cd 31 Smemory_Right := mk_ok (E := Ememory_Right) cd_ok fns82_ok Try.func31 (by kernel_rfl) (loops_of (addL_ok lpmemory_Right_0 (addL_ok lpmemory_Right_1 noL_ok))) (aO_ok (cSl_ok 3) (aO_ok (cSl_ok 3) (aNil_ok))) bNil_ok (T := fun x _ => Tmemory_Right none x.1 x.2.1) (fun _ _ => rfl) runmemory_Right
noncomputable def fns31 := addF 31 true Smemory_Right fns82
theorem fns31_ok : ∀ f q t, fns31 f = some (q, t) → FnOk Try.prog cd f t := addF_ok okmemory_Right fns82_ok
/-- emulator/mmu.Right -/
structure Smmu_Right_1 where
  t8_0 : (List Page)
  t9 : Int
  t12_0 : (List Page)
  t13 : Int
  b0 : Mmu
noncomputable def Wmmu_Right_1 (s : Smmu_Right_1) : Tree (Smmu_Right_1 ⊕ ((Bool × (List Page) × Int × Mmu) ⊕ ((List Page) × Int × Mmu))) :=
  .ite (decide (s.t13 < (8 : Int)))
    (.ite (decide (0 ≤ s.t13))
      (.ite (decide (s.t13 < (8 : Int)))
        (.opt Page (s.t12_0[(s.t13).toNat]?) fun y278 =>
          .opt Bool (mmu_from y278.base (4095 : Int)) fun r279 =>
            .ite (!r279)
              (.leaf (.inr (.inl (false, s.t8_0, s.t9, s.b0))))
              (.opt Bool (mmu_from y278.length (128 : Int)) fun r280 =>
                .ite (!r280)
                  (.leaf (.inr (.inl (false, s.t8_0, s.t9, s.b0))))
                  (.opt Bool (mmu_from y278.access (2 : Int)) fun r281 =>
                    .ite (!r281)
                      (.leaf (.inr (.inl (false, s.t8_0, s.t9, s.b0))))
                      (.leaf (.inl (Smmu_Right_1.mk s.t8_0 s.t9 s.t12_0 (IntKind.wrap .i64 (s.t13 + (1 : Int))) s.b0))))))
        .fail)
      .fail)
    (.leaf (.inr (.inr (s.t8_0, s.t9, s.b0))))
noncomputable def Lmmu_Right_1 (q : Option Nat) (s : Smmu_Right_1) : Option ((Bool × (List Page) × Int × Mmu) ⊕ ((List Page) × Int × Mmu)) := limQ q (fun s => (Wmmu_Right_1 s).run) s
theorem leLmmu_Right_1 (k : Nat) (s : Smmu_Right_1) : Le (Lmmu_Right_1 (some k) s) (Lmmu_Right_1 none s) := limQ_le (fun _ => Le.rfl) s
structure Smmu_Right_0 where
  t8_0 : (List Page)
  t9 : Int
  b0 : Mmu
noncomputable def Wmmu_Right_0 (q : Option Nat) (s : Smmu_Right_0) : Tree (Smmu_Right_0 ⊕ ((Bool × Mmu) ⊕ Mmu)) :=
  .ite (decide (s.t9 < (2 : Int)))
    (.ite (decide (0 ≤ s.t9))
      (.ite (decide (s.t9 < (2 : Int)))
        (.ite (decide ((s.t9).toNat * 8 + 8 ≤ s.t8_0.length))
          (.opt ((Bool × (List Page) × Int × Mmu) ⊕ ((List Page) × Int × Mmu)) (Lmmu_Right_1 q (Smmu_Right_1.mk s.t8_0 s.t9 ((s.t8_0.drop ((s.t9).toNat * 8)).take 8) (0 : Int) s.b0)) fun l282 =>
            .ite (l282.isLeft)
              (.opt (Bool × (List Page) × Int × Mmu) (l282.getLeft?) fun a283 =>
                .leaf (.inr (.inl (a283.1, a283.2.2.2))))
              (.opt ((List Page) × Int × Mmu) (l282.getRight?) fun b284 =>
                .leaf (.inl (Smmu_Right_0.mk b284.1 (IntKind.wrap .i64 (b284.2.1 + (1 : Int))) b284.2.2))))
          .fail)
        .fail)
      .fail)
    (.leaf (.inr (.inr s.b0)))
noncomputable def Lmmu_Right_0 (q : Option Nat) (s : Smmu_Right_0) : Option ((Bool × Mmu) ⊕ Mmu) := limQ q (fun s => (Wmmu_Right_0 q s).run) s
theorem leLmmu_Right_0 (k : Nat) (s : Smmu_Right_0) : Le (Lmmu_Right_0 (some k) s) (Lmmu_Right_0 none s) := limQ_le (fun s => (TLe.ite (TLe.ite (TLe.ite (TLe.ite (TLe.opt (leLmmu_Right_1 k _) fun _ => TLe.rfl) TLe.rfl) TLe.rfl) TLe.rfl) TLe.rfl)) s
noncomputable def Tmmu_Right (q : Option Nat) (x0 : Mmu) : Tree Bool :=
  .opt ((Bool × Mmu) ⊕ Mmu) (Lmmu_Right_0 q (Smmu_Right_0.mk x0.pages (0 : Int) x0)) fun l285 =>
    .ite (l285.isLeft)
      (.opt (Bool × Mmu) (l285.getLeft?) fun a286 =>
        .leaf (a286.1))
      (.opt Mmu (l285.getRight?) fun b287 =>
        .opt Bool (mmu_from b287.status (3 : Int)) fun r288 =>
          .ite (r288)
            (.opt Bool (mmu_from b287.addr (65535 : Int)) fun r289 =>
              .leaf (r289))
            (.leaf (false)))
noncomputable def mmu_Right (q : Option Nat) (x0 : Mmu) : Option Bool := (Tmmu_Right q x0).run
theorem lemmu_Right (k : Nat) (x0 : Mmu) : Le (mmu_Right (some k) x0) (mmu_Right none x0) := (TLe.opt (leLmmu_Right_0 k _) fun _ => TLe.rfl)
noncomputable def Ammu_Right : Arg U (Mmu × Unit) := aA cMmu (aNil)
noncomputable def Rmmu_Right (r : Bool) : List (V U) × List (Blk U) := ([vO cBool r], [])
noncomputable def Smmu_Right : List (V U) → List (Blk U) → Option (FnOut U) := mkSpec Ammu_Right bNil (fun x _ => mmu_Right none x.1) Rmmu_Right
noncomputable def Pmmu_Right_0 (x : (Unit) × ((List Page) × Unit) × (Int × Unit) × Unit) (g : (Mmu × Unit) × Unit) : Smmu_Right_0 := Smmu_Right_0.mk x.2.1.1 x.2.2.1.1 g.1.1
noncomputable def tAmmu_Right_0 : Tms U ((Unit) × ((List Page) × Unit) × (Int × Unit) × Unit) := tO 1 (cK (.ptr 0 0) (cUnit)) (tA 8 (cPair (cArr 28 16) (cUnit)) (tO 9 (cPair (cInt .i64) (cUnit)) (tNil)))
noncomputable def tBmmu_Right_0 : Bls U ((Mmu × Unit) × Unit) := bC (cPair cMmu (cUnit)) (bNil)
noncomputable def eSmmu_Right_0 (s : Smmu_Right_0) : St U := { tm := [(1, .v (vO (cK (.ptr 0 0) (cUnit)) (()))), (8, .v (vA (cPair (cArr 28 16) (cUnit)) (s.t8_0, ()))), (9, .v (vO (cPair (cInt .i64) (cUnit)) (s.t9, ())))], hp := [.cells ((cPair cMmu (cUnit) : Cdc U (Mmu × Unit)).enc (s.b0, ()))] }
noncomputable def xSmmu_Right_0 : ((Bool × Mmu) ⊕ Mmu) → Ex × St U
  | .inl r => (.ret, { tm := [(1, .v (vO (cK (.ptr 0 0) (cUnit)) (()))), (2, .v (vO (cPair cBool (cUnit)) (r.1, ())))], hp := [.cells ((cPair cMmu (cUnit) : Cdc U (Mmu × Unit)).enc (r.2, ()))] })
  | .inr r => (.exit 0, { tm := [(1, .v (vO (cK (.ptr 0 0) (cUnit)) (())))], hp := [.cells ((cPair cMmu (cUnit) : Cdc U (Mmu × Unit)).enc (r, ()))] })
noncomputable def xTmmu_Right_0 (y : ((Bool × Mmu) ⊕ Mmu)) : Tree (Ex × St U) := .ite y.isLeft (.opt (Bool × Mmu) y.getLeft? fun r => .leaf (.ret, { tm := [(1, .v (vO (cK (.ptr 0 0) (cUnit)) (()))), (2, .v (vO (cPair cBool (cUnit)) (r.1, ())))], hp := [.cells ((cPair cMmu (cUnit) : Cdc U (Mmu × Unit)).enc (r.2, ()))] })) (.opt Mmu y.getRight? fun r => .leaf (.exit 0, { tm := [(1, .v (vO (cK (.ptr 0 0) (cUnit)) (())))], hp := [.cells ((cPair cMmu (cUnit) : Cdc U (Mmu × Unit)).enc (r, ()))] }))
noncomputable def hmmu_Right_0 : Hd := { keep := [1, 8, 9], xkeep := [1, 2], own := false }
noncomputable def Pmmu_Right_1 (x : (Unit) × ((List Page) × Unit) × (Int × Unit) × ((List Page) × Unit) × (Int × Unit) × Unit) (g : (Mmu × Unit) × Unit) : Smmu_Right_1 := Smmu_Right_1.mk x.2.1.1 x.2.2.1.1 x.2.2.2.1.1 x.2.2.2.2.1.1 g.1.1
noncomputable def tAmmu_Right_1 : Tms U ((Unit) × ((List Page) × Unit) × (Int × Unit) × ((List Page) × Unit) × (Int × Unit) × Unit) := tO 1 (cK (.ptr 0 0) (cUnit)) (tA 8 (cPair (cArr 28 16) (cUnit)) (tO 9 (cPair (cInt .i64) (cUnit)) (tA 12 (cPair (cArr 28 8) (cUnit)) (tO 13 (cPair (cInt .i64) (cUnit)) (tNil)))))
noncomputable def tBmmu_Right_1 : Bls U ((Mmu × Unit) × Unit) := bC (cPair cMmu (cUnit)) (bNil)
noncomputable def eSmmu_Right_1 (s : Smmu_Right_1) : St U := { tm := [(1, .v (vO (cK (.ptr 0 0) (cUnit)) (()))), (8, .v (vA (cPair (cArr 28 16) (cUnit)) (s.t8_0, ()))), (9, .v (vO (cPair (cInt .i64) (cUnit)) (s.t9, ()))), (12, .v (vA (cPair (cArr 28 8) (cUnit)) (s.t12_0, ()))), (13, .v (vO (cPair (cInt .i64) (cUnit)) (s.t13, ())))], hp := [.cells ((cPair cMmu (cUnit) : Cdc U (Mmu × Unit)).enc (s.b0, ()))] }
noncomputable def xSmmu_Right_1 : ((Bool × (List Page) × Int × Mmu) ⊕ ((List Page) × Int × Mmu)) → Ex × St U
  | .inl r => (.ret, { tm := [(1, .v (vO (cK (.ptr 0 0) (cUnit)) (()))), (2, .v (vO (cPair cBool (cUnit)) (r.1, ()))), (8, .v (vA (cPair (cArr 28 16) (cUnit)) (r.2.1, ()))), (9, .v (vO (cPair (cInt .i64) (cUnit)) (r.2.2.1, ())))], hp := [.cells ((cPair cMmu (cUnit) : Cdc U (Mmu × Unit)).enc (r.2.2.2, ()))] })
  | .inr r => (.exit 2, { tm := [(1, .v (vO (cK (.ptr 0 0) (cUnit)) (()))), (8, .v (vA (cPair (cArr 28 16) (cUnit)) (r.1, ()))), (9, .v (vO (cPair (cInt .i64) (cUnit)) (r.2.1, ())))], hp := [.cells ((cPair cMmu (cUnit) : Cdc U (Mmu × Unit)).enc (r.2.2, ()))] })
noncomputable def xTmmu_Right_1 (y : ((Bool × (List Page) × Int × Mmu) ⊕ ((List Page) × Int × Mmu))) : Tree (Ex × St U) := .ite y.isLeft (.opt (Bool × (List Page) × Int × Mmu) y.getLeft? fun r => .leaf (.ret, { tm := [(1, .v (vO (cK (.ptr 0 0) (cUnit)) (()))), (2, .v (vO (cPair cBool (cUnit)) (r.1, ()))), (8, .v (vA (cPair (cArr 28 16) (cUnit)) (r.2.1, ()))), (9, .v (vO (cPair (cInt .i64) (cUnit)) (r.2.2.1, ())))], hp := [.cells ((cPair cMmu (cUnit) : Cdc U (Mmu × Unit)).enc (r.2.2.2, ()))] })) (.opt ((List Page) × Int × Mmu) y.getRight? fun r => .leaf (.exit 2, { tm := [(1, .v (vO (cK (.ptr 0 0) (cUnit)) (()))), (8, .v (vA (cPair (cArr 28 16) (cUnit)) (r.1, ()))), (9, .v (vO (cPair (cInt .i64) (cUnit)) (r.2.1, ())))], hp := [.cells ((cPair cMmu (cUnit) : Cdc U (Mmu × Unit)).enc (r.2.2, ()))] }))
noncomputable def hmmu_Right_1 : Hd := { keep := [1, 8, 9, 12, 13], xkeep := [1, 2, 8, 9], own := false }
noncomputable def Emmu_Right : Env U := { P := Try.prog, cd := cd, fns := fns31, lps := (addL 0 hmmu_Right_0 (mkLoop tAmmu_Right_0 tBmmu_Right_0 Pmmu_Right_0 (Lmmu_Right_0 none) xTmmu_Right_0) (addL 1 hmmu_Right_1 (mkLoop tAmmu_Right_1 tBmmu_Right_1 Pmmu_Right_1 (Lmmu_Right_1 none) xTmmu_Right_1) noL)), frz := fun _r => false, nt := 42, n0 := 0 }
noncomputable def Bmmu_Right_0 : Code := (loopAt (Try.f32.body.getD .skip) 0 0).getD .skip
theorem roundmmu_Right_0 (s : Smmu_Right_0) : round Emmu_Right hmmu_Right_0 Bmmu_Right_0 0 (eSmmu_Right_0 s) = (Wmmu_Right_0 none s).map (sumE eSmmu_Right_0 xSmmu_Right_0) := by kernel_rfl
theorem lpmmu_Right_0 : LpOk Emmu_Right Bmmu_Right_0 0 := mkLoop_ok (A := tAmmu_Right_0) (B := tBmmu_Right_0) (f := Pmmu_Right_0) (L := Lmmu_Right_0 none) (tO_ok (cK_ok cUnit_ok) (tA_ok (cPair_ok (cArr_ok 28 16) cUnit_ok) (tO_ok (cPair_ok (cInt_ok .i64) cUnit_ok) tNil_ok))) (bC_ok (cPair_ok cMmu_ok cUnit_ok) bNil_ok) (enc := eSmmu_Right_0) (out := xTmmu_Right_0) (outS := xSmmu_Right_0) (step := Wmmu_Right_0 none) (fun _ => rfl) (fun _ _ => by kernel_rfl) (by kernel_rfl) (fun b => by cases b <;> rfl) roundmmu_Right_0
noncomputable def Bmmu_Right_1 : Code := (loopAt (Try.f32.body.getD .skip) 0 1).getD .skip
theorem roundmmu_Right_1 (s : Smmu_Right_1) : round Emmu_Right hmmu_Right_1 Bmmu_Right_1 1 (eSmmu_Right_1 s) = (Wmmu_Right_1 s).map (sumE eSmmu_Right_1 xSmmu_Right_1) := by kernel_rfl
theorem lpmmu_Right_1 : LpOk Emmu_Right Bmmu_Right_1 1 := mkLoop_ok (A := tAmmu_Right_1) (B := tBmmu_Right_1) (f := Pmmu_Right_1) (L := Lmmu_Right_1 none) (tO_ok (cK_ok cUnit_ok) (tA_ok (cPair_ok (cArr_ok 28 16) cUnit_ok) (tO_ok (cPair_ok (cInt_ok .i64) cUnit_ok) (tA_ok (cPair_ok (cArr_ok 28 8) cUnit_ok) (tO_ok (cPair_ok (cInt_ok .i64) cUnit_ok) tNil_ok))))) (bC_ok (cPair_ok cMmu_ok cUnit_ok) bNil_ok) (enc := eSmmu_Right_1) (out := xTmmu_Right_1) (outS := xSmmu_Right_1) (step := Wmmu_Right_1) (fun _ => rfl) (fun _ _ => by kernel_rfl) (by kernel_rfl) (fun b => by cases b <;> rfl) roundmmu_Right_1
theorem runmmu_Right (x : Mmu × Unit) (g : Unit) : execF Emmu_Right Try.f32 (Ammu_Right.enc x) (bNil.enc g) = (Tmmu_Right none x.1).map Rmmu_Right := by kernel_rfl
theorem okmmu_Right : FnOk Try.prog cd 32 Smmu_Right := mk_ok (E := Emmu_Right) cd_ok fns31_ok Try.func32 (by kernel_rfl) (loops_of (addL_ok lpmmu_Right_0 (addL_ok lpmmu_Right_1 noL_ok))) (aA_ok cMmu_ok (aNil_ok)) bNil_ok (T := fun x _ => Tmmu_Right none x.1) (fun _ _ => rfl) runmmu_Right
noncomputable def fns32 := addF 32 true Smmu_Right fns31
theorem fns32_ok : ∀ f q t, fns32 f = some (q, t) → FnOk Try.prog cd f t := addF_ok okmmu_Right fns31_ok
/-- emulator/clock.Right -/
noncomputable def Tclock_Right (x0 : Clock) : Tree Bool :=
  .ite (decide ((1 : Int) ≤ x0.period))
    (.ite (decide (x0.period ≤ (65535 : Int)))
      (.ite (decide ((1 : Int) ≤ x0.left))
        (.leaf (decide (x0.left ≤ x0.period)))
        (.leaf (false)))
      (.leaf (false)))
    (.leaf (false))
noncomputable def clock_Right (x0 : Clock) : Option Bool := (Tclock_Right x0).run
noncomputable def Aclock_Right : Arg U (Clock × Unit) := aA cClock (aNil)
noncomputable def Rclock_Right (r : Bool) : List (V U) × List (Blk U) := ([vO cBool r], [])
noncomputable def Sclock_Right : List (V U) → List (Blk U) → Option (FnOut U) := mkSpec Aclock_Right bNil (fun x _ => clock_Right x.1) Rclock_Right
noncomputable def Eclock_Right : Env U := { P := Try.prog, cd := cd, fns := fns32, lps := noL, frz := fun _r => false, nt := 23, n0 := 0 }
theorem runclock_Right (x : Clock × Unit) (g : Unit) : execF Eclock_Right Try.f33 (Aclock_Right.enc x) (bNil.enc g) = (Tclock_Right x.1).map Rclock_Right := by kernel_rfl
theorem okclock_Right : FnOk Try.prog cd 33 Sclock_Right := mk_ok (E := Eclock_Right) cd_ok fns32_ok Try.func33 (by kernel_rfl) (noLoops_body (by kernel_rfl)) (aA_ok cClock_ok (aNil_ok)) bNil_ok (T := fun x _ => Tclock_Right x.1) (fun _ _ => rfl) runclock_Right
noncomputable def fns33 := addF 33 true Sclock_Right fns32
theorem fns33_ok : ∀ f q t, fns33 f = some (q, t) → FnOk Try.prog cd f t := addF_ok okclock_Right fns32_ok
/-- emulator/line.isByte -/
noncomputable def Tline_isByte (x0 : Int) : Tree Bool :=
  .leaf (decide ((IntKind.wrap .i64 (((BitVec.ofInt 64 x0 &&& BitVec.ofInt 64 (255 : Int)).toNat : Int))) = x0))
noncomputable def line_isByte (x0 : Int) : Option Bool := (Tline_isByte x0).run
noncomputable def Aline_isByte : Arg U (Int × Unit) := aO (cInt .i64) (aNil)
noncomputable def Rline_isByte (r : Bool) : List (V U) × List (Blk U) := ([vO cBool r], [])
noncomputable def Sline_isByte : List (V U) → List (Blk U) → Option (FnOut U) := mkSpec Aline_isByte bNil (fun x _ => line_isByte x.1) Rline_isByte
noncomputable def Eline_isByte : Env U := { P := Try.prog, cd := cd, fns := fns33, lps := noL, frz := fun _r => false, nt := 7, n0 := 0 }
theorem runline_isByte (x : Int × Unit) (g : Unit) : execF Eline_isByte Try.f84 (Aline_isByte.enc x) (bNil.enc g) = (Tline_isByte x.1).map Rline_isByte := by kernel_rfl
theorem okline_isByte : FnOk Try.prog cd 84 Sline_isByte := mk_ok (E := Eline_isByte) cd_ok fns33_ok Try.func84 (by kernel_rfl) (noLoops_body (by kernel_rfl)) (aO_ok (cInt_ok .i64) (aNil_ok)) bNil_ok (T := fun x _ => Tline_isByte x.1) (fun _ _ => rfl) runline_isByte
noncomputable def fns84 := addF 84 true Sline_isByte fns33
theorem fns84_ok : ∀ f q t, fns84 f = some (q, t) → FnOk Try.prog cd f t := addF_ok okline_isByte fns33_ok
/-- emulator/line.Right -/
noncomputable def Tline_Right (x0 : Line) : Tree Bool :=
  .opt Bool (line_isByte x0.rxData) fun r290 =>
    .ite (r290)
      (.opt Bool (line_isByte x0.txData) fun r291 =>
        .ite (r291)
          (.ite (decide ((0 : Int) ≤ x0.txLeft))
            (.ite (decide (x0.txLeft ≤ (4 : Int)))
              (.ite ((x0.txReady == (decide (x0.txLeft = (0 : Int)))))
                (.leaf (decide ((x0.out.length : Int) ≤ (4096 : Int))))
                (.leaf (false)))
              (.leaf (false)))
            (.leaf (false)))
          (.leaf (false)))
      (.leaf (false))
noncomputable def line_Right (x0 : Line) : Option Bool := (Tline_Right x0).run
noncomputable def Aline_Right : Arg U (Line × Unit) := aA cLine (aNil)
noncomputable def Rline_Right (r : Bool) : List (V U) × List (Blk U) := ([vO cBool r], [])
noncomputable def Sline_Right : List (V U) → List (Blk U) → Option (FnOut U) := mkSpec Aline_Right bNil (fun x _ => line_Right x.1) Rline_Right
noncomputable def Eline_Right : Env U := { P := Try.prog, cd := cd, fns := fns84, lps := noL, frz := fun _r => false, nt := 35, n0 := 0 }
theorem runline_Right (x : Line × Unit) (g : Unit) : execF Eline_Right Try.f34 (Aline_Right.enc x) (bNil.enc g) = (Tline_Right x.1).map Rline_Right := by kernel_rfl
theorem okline_Right : FnOk Try.prog cd 34 Sline_Right := mk_ok (E := Eline_Right) cd_ok fns84_ok Try.func34 (by kernel_rfl) (noLoops_body (by kernel_rfl)) (aA_ok cLine_ok (aNil_ok)) bNil_ok (T := fun x _ => Tline_Right x.1) (fun _ _ => rfl) runline_Right
noncomputable def fns34 := addF 34 true Sline_Right fns84
theorem fns34_ok : ∀ f q t, fns34 f = some (q, t) → FnOk Try.prog cd f t := addF_ok okline_Right fns84_ok
/-- emulator/drive.Right -/
structure Sdrive_Right_0 where
  t19 : (List (List UInt8))
  t20 : Int
  t21 : Int
  b0 : Drive
noncomputable def Wdrive_Right_0 (s : Sdrive_Right_0) : Tree (Sdrive_Right_0 ⊕ ((Bool × Drive) ⊕ Drive)) :=
  .ite (decide (s.t21 < s.t20))
    (.ite (decide (0 ≤ s.t21))
      (.opt (List UInt8) (s.t19[(s.t21).toNat]?) fun y292 =>
        .ite (!decide ((y292.length : Int) = (128 : Int)))
          (.leaf (.inr (.inl (false, s.b0))))
          (.leaf (.inl (Sdrive_Right_0.mk s.t19 s.t20 (IntKind.wrap .i64 (s.t21 + (1 : Int))) s.b0))))
      .fail)
    (.leaf (.inr (.inr s.b0)))
noncomputable def Ldrive_Right_0 (q : Option Nat) (s : Sdrive_Right_0) : Option ((Bool × Drive) ⊕ Drive) := limQ q (fun s => (Wdrive_Right_0 s).run) s
theorem leLdrive_Right_0 (k : Nat) (s : Sdrive_Right_0) : Le (Ldrive_Right_0 (some k) s) (Ldrive_Right_0 none s) := limQ_le (fun _ => Le.rfl) s
structure Sdrive_Right_1 where
  t5 : Int
  t30 : (List Int)
  t31 : Int
  t32 : Int
  b0 : Drive
noncomputable def Wdrive_Right_1 (s : Sdrive_Right_1) : Tree (Sdrive_Right_1 ⊕ (Bool ⊕ Unit)) :=
  .ite (decide (s.t32 < s.t31))
    (.ite (decide (0 ≤ s.t32))
      (.opt Int (s.t30[(s.t32).toNat]?) fun y296 =>
        .ite (decide (y296 ≤ s.t5))
          (.leaf (.inr (.inl false)))
          (.ite (decide ((s.b0.sectors.length : Int) ≤ y296))
            (.leaf (.inr (.inl false)))
            (.leaf (.inl (Sdrive_Right_1.mk y296 s.t30 s.t31 (IntKind.wrap .i64 (s.t32 + (1 : Int))) s.b0)))))
      .fail)
    (.leaf (.inr (.inr ())))
noncomputable def Ldrive_Right_1 (q : Option Nat) (s : Sdrive_Right_1) : Option (Bool ⊕ Unit) := limQ q (fun s => (Wdrive_Right_1 s).run) s
theorem leLdrive_Right_1 (k : Nat) (s : Sdrive_Right_1) : Le (Ldrive_Right_1 (some k) s) (Ldrive_Right_1 none s) := limQ_le (fun _ => Le.rfl) s
noncomputable def Tdrive_Right (q : Option Nat) (x0 : Drive) : Tree Bool :=
  .ite (decide ((x0.sectors.length : Int) < (1 : Int)))
    (.leaf (false))
    (.ite (decide ((256 : Int) < (x0.sectors.length : Int)))
      (.leaf (false))
      (.opt ((Bool × Drive) ⊕ Drive) (Ldrive_Right_0 q (Sdrive_Right_0.mk x0.sectors (x0.sectors.length : Int) (0 : Int) x0)) fun l293 =>
        .ite (l293.isLeft)
          (.opt (Bool × Drive) (l293.getLeft?) fun a294 =>
            .leaf (a294.1))
          (.opt Drive (l293.getRight?) fun b295 =>
            .opt (Bool ⊕ Unit) (Ldrive_Right_1 q (Sdrive_Right_1.mk (-1 : Int) b295.bad (b295.bad.length : Int) (0 : Int) b295)) fun l297 =>
              .ite (l297.isLeft)
                (.opt Bool (l297.getLeft?) fun a298 =>
                  .leaf (a298))
                (.opt Unit (l297.getRight?) fun b299 =>
                  .leaf (true)))))
noncomputable def drive_Right (q : Option Nat) (x0 : Drive) : Option Bool := (Tdrive_Right q x0).run
theorem ledrive_Right (k : Nat) (x0 : Drive) : Le (drive_Right (some k) x0) (drive_Right none x0) := (TLe.ite TLe.rfl (TLe.ite TLe.rfl (TLe.opt (leLdrive_Right_0 k _) fun _ => (TLe.ite TLe.rfl (TLe.opt Le.rfl fun _ => (TLe.opt (leLdrive_Right_1 k _) fun _ => TLe.rfl))))))
noncomputable def Adrive_Right : Arg U (Drive × Unit) := aA cDrive (aNil)
noncomputable def Rdrive_Right (r : Bool) : List (V U) × List (Blk U) := ([vO cBool r], [])
noncomputable def Sdrive_Right : List (V U) → List (Blk U) → Option (FnOut U) := mkSpec Adrive_Right bNil (fun x _ => drive_Right none x.1) Rdrive_Right
noncomputable def Pdrive_Right_0 (x : (Unit) × ((List (List UInt8)) × Unit) × (Int × Unit) × (Int × Unit) × Unit) (g : (Drive × Unit) × Unit) : Sdrive_Right_0 := Sdrive_Right_0.mk x.2.1.1 x.2.2.1.1 x.2.2.2.1.1 g.1.1
noncomputable def tAdrive_Right_0 : Tms U ((Unit) × ((List (List UInt8)) × Unit) × (Int × Unit) × (Int × Unit) × Unit) := tO 1 (cK (.ptr 0 0) (cUnit)) (tO 19 (cPair (cSl 9) (cUnit)) (tO 20 (cPair (cInt .i64) (cUnit)) (tO 21 (cPair (cInt .i64) (cUnit)) (tNil))))
noncomputable def tBdrive_Right_0 : Bls U ((Drive × Unit) × Unit) := bC (cPair cDrive (cUnit)) (bNil)
noncomputable def eSdrive_Right_0 (s : Sdrive_Right_0) : St U := { tm := [(1, .v (vO (cK (.ptr 0 0) (cUnit)) (()))), (19, .v (vO (cPair (cSl 9) (cUnit)) (s.t19, ()))), (20, .v (vO (cPair (cInt .i64) (cUnit)) (s.t20, ()))), (21, .v (vO (cPair (cInt .i64) (cUnit)) (s.t21, ())))], hp := [.cells ((cPair cDrive (cUnit) : Cdc U (Drive × Unit)).enc (s.b0, ()))] }
noncomputable def xSdrive_Right_0 : ((Bool × Drive) ⊕ Drive) → Ex × St U
  | .inl r => (.ret, { tm := [(1, .v (vO (cK (.ptr 0 0) (cUnit)) (()))), (2, .v (vO (cPair cBool (cUnit)) (r.1, ())))], hp := [.cells ((cPair cDrive (cUnit) : Cdc U (Drive × Unit)).enc (r.2, ()))] })
  | .inr r => (.exit 0, { tm := [(1, .v (vO (cK (.ptr 0 0) (cUnit)) (())))], hp := [.cells ((cPair cDrive (cUnit) : Cdc U (Drive × Unit)).enc (r, ()))] })
noncomputable def xTdrive_Right_0 (y : ((Bool × Drive) ⊕ Drive)) : Tree (Ex × St U) := .ite y.isLeft (.opt (Bool × Drive) y.getLeft? fun r => .leaf (.ret, { tm := [(1, .v (vO (cK (.ptr 0 0) (cUnit)) (()))), (2, .v (vO (cPair cBool (cUnit)) (r.1, ())))], hp := [.cells ((cPair cDrive (cUnit) : Cdc U (Drive × Unit)).enc (r.2, ()))] })) (.opt Drive y.getRight? fun r => .leaf (.exit 0, { tm := [(1, .v (vO (cK (.ptr 0 0) (cUnit)) (())))], hp := [.cells ((cPair cDrive (cUnit) : Cdc U (Drive × Unit)).enc (r, ()))] }))
noncomputable def hdrive_Right_0 : Hd := { keep := [1, 19, 20, 21], xkeep := [1, 2], own := false }
noncomputable def Pdrive_Right_1 (x : (Unit) × (Int × Unit) × ((List Int) × Unit) × (Int × Unit) × (Int × Unit) × Unit) (g : (Drive × Unit) × Unit) : Sdrive_Right_1 := Sdrive_Right_1.mk x.2.1.1 x.2.2.1.1 x.2.2.2.1.1 x.2.2.2.2.1.1 g.1.1
noncomputable def tAdrive_Right_1 : Tms U ((Unit) × (Int × Unit) × ((List Int) × Unit) × (Int × Unit) × (Int × Unit) × Unit) := tO 1 (cK (.ptr 0 0) (cUnit)) (tO 5 (cPair (cInt .i64) (cUnit)) (tO 30 (cPair (cSl 3) (cUnit)) (tO 31 (cPair (cInt .i64) (cUnit)) (tO 32 (cPair (cInt .i64) (cUnit)) (tNil)))))
noncomputable def tBdrive_Right_1 : Bls U ((Drive × Unit) × Unit) := bC (cPair cDrive (cUnit)) (bNil)
noncomputable def eSdrive_Right_1 (s : Sdrive_Right_1) : St U := { tm := [(1, .v (vO (cK (.ptr 0 0) (cUnit)) (()))), (5, .v (vO (cPair (cInt .i64) (cUnit)) (s.t5, ()))), (30, .v (vO (cPair (cSl 3) (cUnit)) (s.t30, ()))), (31, .v (vO (cPair (cInt .i64) (cUnit)) (s.t31, ()))), (32, .v (vO (cPair (cInt .i64) (cUnit)) (s.t32, ())))], hp := [.cells ((cPair cDrive (cUnit) : Cdc U (Drive × Unit)).enc (s.b0, ()))] }
noncomputable def xSdrive_Right_1 : (Bool ⊕ Unit) → Ex × St U
  | .inl r => (.ret, { tm := [(2, .v (vO (cPair cBool (cUnit)) (r, ())))], hp := [] })
  | .inr r => (.exit 2, { tm := [], hp := [] })
noncomputable def xTdrive_Right_1 (y : (Bool ⊕ Unit)) : Tree (Ex × St U) := .ite y.isLeft (.opt Bool y.getLeft? fun r => .leaf (.ret, { tm := [(2, .v (vO (cPair cBool (cUnit)) (r, ())))], hp := [] })) (.opt Unit y.getRight? fun r => .leaf (.exit 2, { tm := [], hp := [] }))
noncomputable def hdrive_Right_1 : Hd := { keep := [1, 5, 30, 31, 32], xkeep := [2], own := false }
noncomputable def Edrive_Right : Env U := { P := Try.prog, cd := cd, fns := fns34, lps := (addL 0 hdrive_Right_0 (mkLoop tAdrive_Right_0 tBdrive_Right_0 Pdrive_Right_0 (Ldrive_Right_0 none) xTdrive_Right_0) (addL 1 hdrive_Right_1 (mkLoop tAdrive_Right_1 tBdrive_Right_1 Pdrive_Right_1 (Ldrive_Right_1 none) xTdrive_Right_1) noL)), frz := fun _r => false, nt := 48, n0 := 0 }
noncomputable def Bdrive_Right_0 : Code := (loopAt (Try.f85.body.getD .skip) 0 0).getD .skip
theorem rounddrive_Right_0 (s : Sdrive_Right_0) : round Edrive_Right hdrive_Right_0 Bdrive_Right_0 0 (eSdrive_Right_0 s) = (Wdrive_Right_0 s).map (sumE eSdrive_Right_0 xSdrive_Right_0) := by kernel_rfl
theorem lpdrive_Right_0 : LpOk Edrive_Right Bdrive_Right_0 0 := mkLoop_ok (A := tAdrive_Right_0) (B := tBdrive_Right_0) (f := Pdrive_Right_0) (L := Ldrive_Right_0 none) (tO_ok (cK_ok cUnit_ok) (tO_ok (cPair_ok (cSl_ok 9) cUnit_ok) (tO_ok (cPair_ok (cInt_ok .i64) cUnit_ok) (tO_ok (cPair_ok (cInt_ok .i64) cUnit_ok) tNil_ok)))) (bC_ok (cPair_ok cDrive_ok cUnit_ok) bNil_ok) (enc := eSdrive_Right_0) (out := xTdrive_Right_0) (outS := xSdrive_Right_0) (step := Wdrive_Right_0) (fun _ => rfl) (fun _ _ => by kernel_rfl) (by kernel_rfl) (fun b => by cases b <;> rfl) rounddrive_Right_0
noncomputable def Bdrive_Right_1 : Code := (loopAt (Try.f85.body.getD .skip) 0 1).getD .skip
theorem rounddrive_Right_1 (s : Sdrive_Right_1) : round Edrive_Right hdrive_Right_1 Bdrive_Right_1 1 (eSdrive_Right_1 s) = (Wdrive_Right_1 s).map (sumE eSdrive_Right_1 xSdrive_Right_1) := by kernel_rfl
theorem lpdrive_Right_1 : LpOk Edrive_Right Bdrive_Right_1 1 := mkLoop_ok (A := tAdrive_Right_1) (B := tBdrive_Right_1) (f := Pdrive_Right_1) (L := Ldrive_Right_1 none) (tO_ok (cK_ok cUnit_ok) (tO_ok (cPair_ok (cInt_ok .i64) cUnit_ok) (tO_ok (cPair_ok (cSl_ok 3) cUnit_ok) (tO_ok (cPair_ok (cInt_ok .i64) cUnit_ok) (tO_ok (cPair_ok (cInt_ok .i64) cUnit_ok) tNil_ok))))) (bC_ok (cPair_ok cDrive_ok cUnit_ok) bNil_ok) (enc := eSdrive_Right_1) (out := xTdrive_Right_1) (outS := xSdrive_Right_1) (step := Wdrive_Right_1) (fun _ => rfl) (fun _ _ => by kernel_rfl) (by kernel_rfl) (fun b => by cases b <;> rfl) rounddrive_Right_1
theorem rundrive_Right (x : Drive × Unit) (g : Unit) : execF Edrive_Right Try.f85 (Adrive_Right.enc x) (bNil.enc g) = (Tdrive_Right none x.1).map Rdrive_Right := by kernel_rfl
theorem okdrive_Right : FnOk Try.prog cd 85 Sdrive_Right := mk_ok (E := Edrive_Right) cd_ok fns34_ok Try.func85 (by kernel_rfl) (loops_of (addL_ok lpdrive_Right_0 (addL_ok lpdrive_Right_1 noL_ok))) (aA_ok cDrive_ok (aNil_ok)) bNil_ok (T := fun x _ => Tdrive_Right none x.1) (fun _ _ => rfl) rundrive_Right
noncomputable def fns85 := addF 85 true Sdrive_Right fns34
theorem fns85_ok : ∀ f q t, fns85 f = some (q, t) → FnOk Try.prog cd f t := addF_ok okdrive_Right fns34_ok
/-- emulator/diskctl.isWord -/
noncomputable def Tdiskctl_isWord (x0 : Int) : Tree Bool :=
  .leaf (decide ((IntKind.wrap .i64 (((BitVec.ofInt 64 x0 &&& BitVec.ofInt 64 (65535 : Int)).toNat : Int))) = x0))
noncomputable def diskctl_isWord (x0 : Int) : Option Bool := (Tdiskctl_isWord x0).run
noncomputable def Adiskctl_isWord : Arg U (Int × Unit) := aO (cInt .i64) (aNil)
noncomputable def Rdiskctl_isWord (r : Bool) : List (V U) × List (Blk U) := ([vO cBool r], [])
noncomputable def Sdiskctl_isWord : List (V U) → List (Blk U) → Option (FnOut U) := mkSpec Adiskctl_isWord bNil (fun x _ => diskctl_isWord x.1) Rdiskctl_isWord
noncomputable def Ediskctl_isWord : Env U := { P := Try.prog, cd := cd, fns := fns85, lps := noL, frz := fun _r => false, nt := 7, n0 := 0 }
theorem rundiskctl_isWord (x : Int × Unit) (g : Unit) : execF Ediskctl_isWord Try.f86 (Adiskctl_isWord.enc x) (bNil.enc g) = (Tdiskctl_isWord x.1).map Rdiskctl_isWord := by kernel_rfl
theorem okdiskctl_isWord : FnOk Try.prog cd 86 Sdiskctl_isWord := mk_ok (E := Ediskctl_isWord) cd_ok fns85_ok Try.func86 (by kernel_rfl) (noLoops_body (by kernel_rfl)) (aO_ok (cInt_ok .i64) (aNil_ok)) bNil_ok (T := fun x _ => Tdiskctl_isWord x.1) (fun _ _ => rfl) rundiskctl_isWord
noncomputable def fns86 := addF 86 true Sdiskctl_isWord fns85
theorem fns86_ok : ∀ f q t, fns86 f = some (q, t) → FnOk Try.prog cd f t := addF_ok okdiskctl_isWord fns85_ok
/-- emulator/diskctl.Right -/
noncomputable def Tdiskctl_Right (q : Option Nat) (x0 : Disk) : Tree Bool :=
  .opt Bool (drive_Right q x0.drive) fun r300 =>
    .ite (!r300)
      (.leaf (false))
      (.ite (decide (x0.command < (0 : Int)))
        (.leaf (false))
        (.ite (decide ((3 : Int) < x0.command))
          (.leaf (false))
          (.opt Bool (diskctl_isWord x0.words) fun r301 =>
            .ite (!r301)
              (.leaf (false))
              (.opt Bool (diskctl_isWord x0.addr) fun r302 =>
                .ite (!r302)
                  (.leaf (false))
                  (.opt Bool (diskctl_isWord x0.start) fun r303 =>
                    .ite (!r303)
                      (.leaf (false))
                      (.ite (decide ((2 : Int) = 0))
                        .fail
                        (.ite (decide (((x0.addr).tmod (2 : Int)) = (1 : Int)))
                          (.leaf (false))
                          (.ite (decide (x0.left < (0 : Int)))
                            (.leaf (false))
                            (.ite (decide ((8 : Int) < x0.left))
                              (.leaf (false))
                              (.ite (!(x0.ready == (decide (x0.left = (0 : Int)))))
                                (.leaf (false))
                                (.ite (decide (x0.left = (0 : Int)))
                                  (.leaf (true))
                                  (.ite (!decide (x0.command = (0 : Int)))
                                    (.leaf (!decide (x0.words = (0 : Int))))
                                    (.leaf (false))))))))))))))
noncomputable def diskctl_Right (q : Option Nat) (x0 : Disk) : Option Bool := (Tdiskctl_Right q x0).run
theorem lediskctl_Right (k : Nat) (x0 : Disk) : Le (diskctl_Right (some k) x0) (diskctl_Right none x0) := (TLe.opt (ledrive_Right k _) fun _ => TLe.rfl)
noncomputable def Adiskctl_Right : Arg U (Disk × Unit) := aA cDisk (aNil)
noncomputable def Rdiskctl_Right (r : Bool) : List (V U) × List (Blk U) := ([vO cBool r], [])
noncomputable def Sdiskctl_Right : List (V U) → List (Blk U) → Option (FnOut U) := mkSpec Adiskctl_Right bNil (fun x _ => diskctl_Right none x.1) Rdiskctl_Right
noncomputable def Ediskctl_Right : Env U := { P := Try.prog, cd := cd, fns := fns86, lps := noL, frz := fun _r => false, nt := 70, n0 := 0 }
theorem rundiskctl_Right (x : Disk × Unit) (g : Unit) : execF Ediskctl_Right Try.f35 (Adiskctl_Right.enc x) (bNil.enc g) = (Tdiskctl_Right none x.1).map Rdiskctl_Right := by kernel_rfl
theorem okdiskctl_Right : FnOk Try.prog cd 35 Sdiskctl_Right := mk_ok (E := Ediskctl_Right) cd_ok fns86_ok Try.func35 (by kernel_rfl) (noLoops_body (by kernel_rfl)) (aA_ok cDisk_ok (aNil_ok)) bNil_ok (T := fun x _ => Tdiskctl_Right none x.1) (fun _ _ => rfl) rundiskctl_Right
noncomputable def fns35 := addF 35 true Sdiskctl_Right fns86
theorem fns35_ok : ∀ f q t, fns35 f = some (q, t) → FnOk Try.prog cd f t := addF_ok okdiskctl_Right fns86_ok
/-- emulator/tape.long -/
noncomputable def Ttape_long (x0 : (List UInt8)) : Tree Bool :=
  .leaf (decide ((512 : Int) < (x0.length : Int)))
noncomputable def tape_long (x0 : (List UInt8)) : Option Bool := (Ttape_long x0).run
noncomputable def Atape_long : Arg U ((List UInt8) × Unit) := aO cStr (aNil)
noncomputable def Rtape_long (r : Bool) : List (V U) × List (Blk U) := ([vO cBool r], [])
noncomputable def Stape_long : List (V U) → List (Blk U) → Option (FnOut U) := mkSpec Atape_long bNil (fun x _ => tape_long x.1) Rtape_long
noncomputable def Etape_long : Env U := { P := Try.prog, cd := cd, fns := fns35, lps := noL, frz := fun _r => false, nt := 6, n0 := 0 }
theorem runtape_long (x : (List UInt8) × Unit) (g : Unit) : execF Etape_long Try.f88 (Atape_long.enc x) (bNil.enc g) = (Ttape_long x.1).map Rtape_long := by kernel_rfl
theorem oktape_long : FnOk Try.prog cd 88 Stape_long := mk_ok (E := Etape_long) cd_ok fns35_ok Try.func88 (by kernel_rfl) (noLoops_body (by kernel_rfl)) (aO_ok cStr_ok (aNil_ok)) bNil_ok (T := fun x _ => Ttape_long x.1) (fun _ _ => rfl) runtape_long
noncomputable def fns88 := addF 88 true Stape_long fns35
theorem fns88_ok : ∀ f q t, fns88 f = some (q, t) → FnOk Try.prog cd f t := addF_ok oktape_long fns35_ok
/-- emulator/tape.isWord -/
noncomputable def Ttape_isWord (x0 : Int) : Tree Bool :=
  .leaf (decide ((IntKind.wrap .i64 (((BitVec.ofInt 64 x0 &&& BitVec.ofInt 64 (65535 : Int)).toNat : Int))) = x0))
noncomputable def tape_isWord (x0 : Int) : Option Bool := (Ttape_isWord x0).run
noncomputable def Atape_isWord : Arg U (Int × Unit) := aO (cInt .i64) (aNil)
noncomputable def Rtape_isWord (r : Bool) : List (V U) × List (Blk U) := ([vO cBool r], [])
noncomputable def Stape_isWord : List (V U) → List (Blk U) → Option (FnOut U) := mkSpec Atape_isWord bNil (fun x _ => tape_isWord x.1) Rtape_isWord
noncomputable def Etape_isWord : Env U := { P := Try.prog, cd := cd, fns := fns88, lps := noL, frz := fun _r => false, nt := 7, n0 := 0 }
theorem runtape_isWord (x : Int × Unit) (g : Unit) : execF Etape_isWord Try.f89 (Atape_isWord.enc x) (bNil.enc g) = (Ttape_isWord x.1).map Rtape_isWord := by kernel_rfl
theorem oktape_isWord : FnOk Try.prog cd 89 Stape_isWord := mk_ok (E := Etape_isWord) cd_ok fns88_ok Try.func89 (by kernel_rfl) (noLoops_body (by kernel_rfl)) (aO_ok (cInt_ok .i64) (aNil_ok)) bNil_ok (T := fun x _ => Ttape_isWord x.1) (fun _ _ => rfl) runtape_isWord
noncomputable def fns89 := addF 89 true Stape_isWord fns88
theorem fns89_ok : ∀ f q t, fns89 f = some (q, t) → FnOk Try.prog cd f t := addF_ok oktape_isWord fns88_ok
/-- slices.IndexFunc[[]string,string] -/
structure Sslices_IndexFunc_string_string_0 where
  t0 : (List (List UInt8))
  t7 : Int
  t8 : Int
noncomputable def Wslices_IndexFunc_string_string_0 (s : Sslices_IndexFunc_string_string_0) : Tree (Sslices_IndexFunc_string_string_0 ⊕ (Int ⊕ Unit)) :=
  .ite (decide (s.t8 < s.t7))
    (.ite (decide (0 ≤ s.t8))
      (.opt (List UInt8) (s.t0[(s.t8).toNat]?) fun y304 =>
        .opt Bool (tape_long y304) fun r305 =>
          .ite (r305)
            (.leaf (.inr (.inl s.t8)))
            (.leaf (.inl (Sslices_IndexFunc_string_string_0.mk s.t0 s.t7 (IntKind.wrap .i64 (s.t8 + (1 : Int)))))))
      .fail)
    (.leaf (.inr (.inr ())))
noncomputable def Lslices_IndexFunc_string_string_0 (q : Option Nat) (s : Sslices_IndexFunc_string_string_0) : Option (Int ⊕ Unit) := limQ q (fun s => (Wslices_IndexFunc_string_string_0 s).run) s
theorem leLslices_IndexFunc_string_string_0 (k : Nat) (s : Sslices_IndexFunc_string_string_0) : Le (Lslices_IndexFunc_string_string_0 (some k) s) (Lslices_IndexFunc_string_string_0 none s) := limQ_le (fun _ => Le.rfl) s
noncomputable def Tslices_IndexFunc_string_string (q : Option Nat) (x0 : (List (List UInt8))) : Tree Int :=
  .opt (Int ⊕ Unit) (Lslices_IndexFunc_string_string_0 q (Sslices_IndexFunc_string_string_0.mk x0 (x0.length : Int) (0 : Int))) fun l306 =>
    .ite (l306.isLeft)
      (.opt Int (l306.getLeft?) fun a307 =>
        .leaf (a307))
      (.opt Unit (l306.getRight?) fun b308 =>
        .leaf ((-1 : Int)))
noncomputable def slices_IndexFunc_string_string (q : Option Nat) (x0 : (List (List UInt8))) : Option Int := (Tslices_IndexFunc_string_string q x0).run
theorem leslices_IndexFunc_string_string (k : Nat) (x0 : (List (List UInt8))) : Le (slices_IndexFunc_string_string (some k) x0) (slices_IndexFunc_string_string none x0) := (TLe.opt (leLslices_IndexFunc_string_string_0 k _) fun _ => TLe.rfl)
noncomputable def Aslices_IndexFunc_string_string : Arg U ((List (List UInt8)) × Unit) := aO (cSl 9) (aF 88 [] (aNil))
noncomputable def Gslices_IndexFunc_string_string : Bls U (Unit) := bNil
noncomputable def Rslices_IndexFunc_string_string (_x : (List (List UInt8)) × Unit) (_g : Unit) (r : Int) : List (V U) × List (Blk U) := ([vO (cPair (cInt .i64) (cUnit)) (r, ())], [])
noncomputable def Sslices_IndexFunc_string_string : List (V U) → List (Blk U) → Option (FnOut U) := mkSpecG Aslices_IndexFunc_string_string Gslices_IndexFunc_string_string (fun x _ => slices_IndexFunc_string_string none x.1) Rslices_IndexFunc_string_string
noncomputable def Pslices_IndexFunc_string_string_0 (x : ((List (List UInt8)) × Unit) × (Unit) × (Int × Unit) × (Int × Unit) × Unit) (_g : Unit) : Sslices_IndexFunc_string_string_0 := Sslices_IndexFunc_string_string_0.mk x.1.1 x.2.2.1.1 x.2.2.2.1.1
noncomputable def tAslices_IndexFunc_string_string_0 : Tms U (((List (List UInt8)) × Unit) × (Unit) × (Int × Unit) × (Int × Unit) × Unit) := tO 0 (cPair (cSl 9) (cUnit)) (tO 1 (cK2 (.fn 88 [] []) (cUnit)) (tO 7 (cPair (cInt .i64) (cUnit)) (tO 8 (cPair (cInt .i64) (cUnit)) (tNil))))
noncomputable def tBslices_IndexFunc_string_string_0 : Bls U (Unit) := bNil
noncomputable def eSslices_IndexFunc_string_string_0 (s : Sslices_IndexFunc_string_string_0) : St U := { tm := [(0, .v (vO (cPair (cSl 9) (cUnit)) (s.t0, ()))), (1, .v (vO (cK2 (.fn 88 [] []) (cUnit)) (()))), (7, .v (vO (cPair (cInt .i64) (cUnit)) (s.t7, ()))), (8, .v (vO (cPair (cInt .i64) (cUnit)) (s.t8, ())))], hp := [] }
noncomputable def xSslices_IndexFunc_string_string_0 : (Int ⊕ Unit) → Ex × St U
  | .inl r => (.ret, { tm := [(4, .v (vO (cPair (cInt .i64) (cUnit)) (r, ())))], hp := [] })
  | .inr r => (.exit 0, { tm := [], hp := [] })
noncomputable def xTslices_IndexFunc_string_string_0 (y : (Int ⊕ Unit)) : Tree (Ex × St U) := .ite y.isLeft (.opt Int y.getLeft? fun r => .leaf (.ret, { tm := [(4, .v (vO (cPair (cInt .i64) (cUnit)) (r, ())))], hp := [] })) (.opt Unit y.getRight? fun r => .leaf (.exit 0, { tm := [], hp := [] }))
noncomputable def hslices_IndexFunc_string_string_0 : Hd := { keep := [0, 1, 7, 8], xkeep := [4], own := false }
noncomputable def Eslices_IndexFunc_string_string : Env U := { P := Try.prog, cd := cd, fns := fns89, lps := (addL 0 hslices_IndexFunc_string_string_0 (mkLoop tAslices_IndexFunc_string_string_0 tBslices_IndexFunc_string_string_0 Pslices_IndexFunc_string_string_0 (Lslices_IndexFunc_string_string_0 none) xTslices_IndexFunc_string_string_0) noL), frz := fun _r => false, nt := 19, n0 := 0 }
noncomputable def Bslices_IndexFunc_string_string_0 : Code := (loopAt (Try.f111.body.getD .skip) 0 0).getD .skip
theorem roundslices_IndexFunc_string_string_0 (s : Sslices_IndexFunc_string_string_0) : round Eslices_IndexFunc_string_string hslices_IndexFunc_string_string_0 Bslices_IndexFunc_string_string_0 0 (eSslices_IndexFunc_string_string_0 s) = (Wslices_IndexFunc_string_string_0 s).map (sumE eSslices_IndexFunc_string_string_0 xSslices_IndexFunc_string_string_0) := by kernel_rfl
theorem lpslices_IndexFunc_string_string_0 : LpOk Eslices_IndexFunc_string_string Bslices_IndexFunc_string_string_0 0 := mkLoop_ok (A := tAslices_IndexFunc_string_string_0) (B := tBslices_IndexFunc_string_string_0) (f := Pslices_IndexFunc_string_string_0) (L := Lslices_IndexFunc_string_string_0 none) (tO_ok (cPair_ok (cSl_ok 9) cUnit_ok) (tO_ok (cK2_ok cUnit_ok) (tO_ok (cPair_ok (cInt_ok .i64) cUnit_ok) (tO_ok (cPair_ok (cInt_ok .i64) cUnit_ok) tNil_ok)))) bNil_ok (enc := eSslices_IndexFunc_string_string_0) (out := xTslices_IndexFunc_string_string_0) (outS := xSslices_IndexFunc_string_string_0) (step := Wslices_IndexFunc_string_string_0) (fun _ => rfl) (fun _ _ => by kernel_rfl) (by kernel_rfl) (fun b => by cases b <;> rfl) roundslices_IndexFunc_string_string_0
theorem rnslices_IndexFunc_string_string (x0 : (List (List UInt8))) : execX false Eslices_IndexFunc_string_string Try.f111 (Aslices_IndexFunc_string_string.enc (x0, ())) (Gslices_IndexFunc_string_string.enc ()) = (Tslices_IndexFunc_string_string none x0).map (Rslices_IndexFunc_string_string (x0, ()) ()) := by kernel_rfl
theorem runslices_IndexFunc_string_string : ∀ (x : (List (List UInt8)) × Unit) (g : Unit), execX false Eslices_IndexFunc_string_string Try.f111 (Aslices_IndexFunc_string_string.enc x) (Gslices_IndexFunc_string_string.enc g) = (Tslices_IndexFunc_string_string none x.1).map (Rslices_IndexFunc_string_string x g)
  | (x0, ()), () => rnslices_IndexFunc_string_string x0
theorem okslices_IndexFunc_string_string : FnOk Try.prog cd 111 Sslices_IndexFunc_string_string := mk_okG (E := Eslices_IndexFunc_string_string) (A := Aslices_IndexFunc_string_string) (B := Gslices_IndexFunc_string_string) false cd_ok fns89_ok Try.func111 (by kernel_rfl) (loops_of (addL_ok lpslices_IndexFunc_string_string_0 noL_ok)) (aO_ok (cSl_ok 9) (aF_ok (aNil_ok))) bNil_ok (T := fun (x : (List (List UInt8)) × Unit) (_ : Unit) => Tslices_IndexFunc_string_string none x.1) (fun _ _ => rfl) runslices_IndexFunc_string_string
/-- slices.ContainsFunc[[]string,string] -/
noncomputable def Tslices_ContainsFunc_string_string (q : Option Nat) (x0 : (List (List UInt8))) : Tree Bool :=
  .opt Int (slices_IndexFunc_string_string q x0) fun r309 =>
    .leaf (decide ((0 : Int) ≤ r309))
noncomputable def slices_ContainsFunc_string_string (q : Option Nat) (x0 : (List (List UInt8))) : Option Bool := (Tslices_ContainsFunc_string_string q x0).run
theorem leslices_ContainsFunc_string_string (k : Nat) (x0 : (List (List UInt8))) : Le (slices_ContainsFunc_string_string (some k) x0) (slices_ContainsFunc_string_string none x0) := (TLe.opt (leslices_IndexFunc_string_string k _) fun _ => TLe.rfl)
noncomputable def Aslices_ContainsFunc_string_string : Arg U ((List (List UInt8)) × Unit) := aO (cSl 9) (aF 88 [] (aNil))
noncomputable def Gslices_ContainsFunc_string_string : Bls U (Unit) := bNil
noncomputable def Rslices_ContainsFunc_string_string (_x : (List (List UInt8)) × Unit) (_g : Unit) (r : Bool) : List (V U) × List (Blk U) := ([vO (cPair cBool (cUnit)) (r, ())], [])
noncomputable def Sslices_ContainsFunc_string_string : List (V U) → List (Blk U) → Option (FnOut U) := mkSpecG Aslices_ContainsFunc_string_string Gslices_ContainsFunc_string_string (fun x _ => slices_ContainsFunc_string_string none x.1) Rslices_ContainsFunc_string_string
noncomputable def Eslices_ContainsFunc_string_string : Env U := { P := Try.prog, cd := cd, fns := (addF 111 false (Sslices_IndexFunc_string_string) fns89), lps := noL, frz := fun _r => false, nt := 9, n0 := 0 }
theorem rnslices_ContainsFunc_string_string (x0 : (List (List UInt8))) : execX false Eslices_ContainsFunc_string_string Try.f87 (Aslices_ContainsFunc_string_string.enc (x0, ())) (Gslices_ContainsFunc_string_string.enc ()) = (Tslices_ContainsFunc_string_string none x0).map (Rslices_ContainsFunc_string_string (x0, ()) ()) := by kernel_rfl
theorem runslices_ContainsFunc_string_string : ∀ (x : (List (List UInt8)) × Unit) (g : Unit), execX false Eslices_ContainsFunc_string_string Try.f87 (Aslices_ContainsFunc_string_string.enc x) (Gslices_ContainsFunc_string_string.enc g) = (Tslices_ContainsFunc_string_string none x.1).map (Rslices_ContainsFunc_string_string x g)
  | (x0, ()), () => rnslices_ContainsFunc_string_string x0
theorem okslices_ContainsFunc_string_string : FnOk Try.prog cd 87 Sslices_ContainsFunc_string_string := mk_okG (E := Eslices_ContainsFunc_string_string) (A := Aslices_ContainsFunc_string_string) (B := Gslices_ContainsFunc_string_string) false cd_ok (addF_ok okslices_IndexFunc_string_string fns89_ok) Try.func87 (by kernel_rfl) (noLoops_body (by kernel_rfl)) (aO_ok (cSl_ok 9) (aF_ok (aNil_ok))) bNil_ok (T := fun (x : (List (List UInt8)) × Unit) (_ : Unit) => Tslices_ContainsFunc_string_string none x.1) (fun _ _ => rfl) runslices_ContainsFunc_string_string
/-- emulator/tape.Right -/
noncomputable def Ttape_Right (q : Option Nat) (x0 : Tape) : Tree Bool :=
  .ite (decide ((64 : Int) < (x0.records.length : Int)))
    (.leaf (false))
    (.opt Bool (slices_ContainsFunc_string_string q x0.records) fun r310 =>
      .ite (r310)
        (.leaf (false))
        (.ite (decide (x0.pos < (0 : Int)))
          (.leaf (false))
          (.ite (decide ((x0.records.length : Int) < x0.pos))
            (.leaf (false))
            (.ite (decide ((0 : Int) ≤ x0.command))
              (.ite (decide (x0.command ≤ (6 : Int)))
                (.opt Bool (tape_isWord x0.count) fun r311 =>
                  .ite (r311)
                    (.opt Bool (tape_isWord x0.addr) fun r312 =>
                      .ite (r312)
                        (.ite (decide ((0 : Int) ≤ x0.left))
                          (.ite (decide (x0.left ≤ (16 : Int)))
                            (.leaf ((x0.ready == (decide (x0.left = (0 : Int))))))
                            (.leaf (false)))
                          (.leaf (false)))
                        (.leaf (false)))
                    (.leaf (false)))
                (.leaf (false)))
              (.leaf (false))))))
noncomputable def tape_Right (q : Option Nat) (x0 : Tape) : Option Bool := (Ttape_Right q x0).run
theorem letape_Right (k : Nat) (x0 : Tape) : Le (tape_Right (some k) x0) (tape_Right none x0) := (TLe.ite TLe.rfl (TLe.opt (leslices_ContainsFunc_string_string k _) fun _ => TLe.rfl))
noncomputable def Atape_Right : Arg U (Tape × Unit) := aA cTape (aNil)
noncomputable def Rtape_Right (r : Bool) : List (V U) × List (Blk U) := ([vO cBool r], [])
noncomputable def Stape_Right : List (V U) → List (Blk U) → Option (FnOut U) := mkSpec Atape_Right bNil (fun x _ => tape_Right none x.1) Rtape_Right
noncomputable def Etape_Right : Env U := { P := Try.prog, cd := cd, fns := (addF 87 false (Sslices_ContainsFunc_string_string) fns89), lps := noL, frz := fun _r => false, nt := 61, n0 := 0 }
theorem runtape_Right (x : Tape × Unit) (g : Unit) : execF Etape_Right Try.f36 (Atape_Right.enc x) (bNil.enc g) = (Ttape_Right none x.1).map Rtape_Right := by kernel_rfl
theorem oktape_Right : FnOk Try.prog cd 36 Stape_Right := mk_ok (E := Etape_Right) cd_ok (addF_ok okslices_ContainsFunc_string_string fns89_ok) Try.func36 (by kernel_rfl) (noLoops_body (by kernel_rfl)) (aA_ok cTape_ok (aNil_ok)) bNil_ok (T := fun x _ => Ttape_Right none x.1) (fun _ _ => rfl) runtape_Right
noncomputable def fns36 := addF 36 true Stape_Right fns89
theorem fns36_ok : ∀ f q t, fns36 f = some (q, t) → FnOk Try.prog cd f t := addF_ok oktape_Right fns89_ok
/-- emulator/bus.Right -/
structure Sbus_Right_0 where
  t30 : (List Line)
  t31 : Int
  t32 : Int
  b0 : Machine
noncomputable def Wbus_Right_0 (s : Sbus_Right_0) : Tree (Sbus_Right_0 ⊕ ((Bool × Machine) ⊕ Machine)) :=
  .ite (decide (s.t32 < s.t31))
    (.ite (decide (0 ≤ s.t32))
      (.opt Line (s.t30[(s.t32).toNat]?) fun y316 =>
        .opt Bool (line_Right y316) fun r317 =>
          .ite (!r317)
            (.leaf (.inr (.inl (false, s.b0))))
            (.leaf (.inl (Sbus_Right_0.mk s.t30 s.t31 (IntKind.wrap .i64 (s.t32 + (1 : Int))) s.b0))))
      .fail)
    (.leaf (.inr (.inr s.b0)))
noncomputable def Lbus_Right_0 (q : Option Nat) (s : Sbus_Right_0) : Option ((Bool × Machine) ⊕ Machine) := limQ q (fun s => (Wbus_Right_0 s).run) s
theorem leLbus_Right_0 (k : Nat) (s : Sbus_Right_0) : Le (Lbus_Right_0 (some k) s) (Lbus_Right_0 none s) := limQ_le (fun _ => Le.rfl) s
noncomputable def Tbus_Right (q : Option Nat) (x0 : Machine) : Tree Bool :=
  .ite (decide ((4 : Int) < (x0.lines.length : Int)))
    (.leaf (false))
    (.opt Bool (memory_Right q x0.mem x0.bad) fun r313 =>
      .ite (!r313)
        (.leaf (false))
        (.opt Bool (mmu_Right q x0.mmu) fun r314 =>
          .ite (!r314)
            (.leaf (false))
            (.opt Bool (clock_Right x0.clock) fun r315 =>
              .ite (!r315)
                (.leaf (false))
                (.opt ((Bool × Machine) ⊕ Machine) (Lbus_Right_0 q (Sbus_Right_0.mk x0.lines (x0.lines.length : Int) (0 : Int) x0)) fun l318 =>
                  .ite (l318.isLeft)
                    (.opt (Bool × Machine) (l318.getLeft?) fun a319 =>
                      .leaf (a319.1))
                    (.opt Machine (l318.getRight?) fun b320 =>
                      .opt Bool (diskctl_Right q b320.disk) fun r321 =>
                        .ite (r321)
                          (.opt Bool (tape_Right q b320.tape) fun r322 =>
                            .leaf (r322))
                          (.leaf (false)))))))
noncomputable def bus_Right (q : Option Nat) (x0 : Machine) : Option Bool := (Tbus_Right q x0).run
theorem lebus_Right (k : Nat) (x0 : Machine) : Le (bus_Right (some k) x0) (bus_Right none x0) := (TLe.ite TLe.rfl (TLe.opt (lememory_Right k _ _) fun _ => (TLe.ite TLe.rfl (TLe.opt (lemmu_Right k _) fun _ => (TLe.ite TLe.rfl (TLe.opt Le.rfl fun _ => (TLe.ite TLe.rfl (TLe.opt (leLbus_Right_0 k _) fun _ => (TLe.ite TLe.rfl (TLe.opt Le.rfl fun _ => (TLe.opt (lediskctl_Right k _) fun _ => (TLe.ite (TLe.opt (letape_Right k _) fun _ => TLe.rfl) TLe.rfl))))))))))))
noncomputable def Abus_Right : Arg U (Machine × Unit) := aA cMachine (aNil)
noncomputable def Rbus_Right (r : Bool) : List (V U) × List (Blk U) := ([vO cBool r], [])
noncomputable def Sbus_Right : List (V U) → List (Blk U) → Option (FnOut U) := mkSpec Abus_Right bNil (fun x _ => bus_Right none x.1) Rbus_Right
noncomputable def Pbus_Right_0 (x : (Unit) × ((List Line) × Unit) × (Int × Unit) × (Int × Unit) × Unit) (g : (Machine × Unit) × Unit) : Sbus_Right_0 := Sbus_Right_0.mk x.2.1.1 x.2.2.1.1 x.2.2.2.1.1 g.1.1
noncomputable def tAbus_Right_0 : Tms U ((Unit) × ((List Line) × Unit) × (Int × Unit) × (Int × Unit) × Unit) := tO 1 (cK (.ptr 0 0) (cUnit)) (tO 30 (cPair (cSl 59) (cUnit)) (tO 31 (cPair (cInt .i64) (cUnit)) (tO 32 (cPair (cInt .i64) (cUnit)) (tNil))))
noncomputable def tBbus_Right_0 : Bls U ((Machine × Unit) × Unit) := bC (cPair cMachine (cUnit)) (bNil)
noncomputable def eSbus_Right_0 (s : Sbus_Right_0) : St U := { tm := [(1, .v (vO (cK (.ptr 0 0) (cUnit)) (()))), (30, .v (vO (cPair (cSl 59) (cUnit)) (s.t30, ()))), (31, .v (vO (cPair (cInt .i64) (cUnit)) (s.t31, ()))), (32, .v (vO (cPair (cInt .i64) (cUnit)) (s.t32, ())))], hp := [.cells ((cPair cMachine (cUnit) : Cdc U (Machine × Unit)).enc (s.b0, ()))] }
noncomputable def xSbus_Right_0 : ((Bool × Machine) ⊕ Machine) → Ex × St U
  | .inl r => (.ret, { tm := [(1, .v (vO (cK (.ptr 0 0) (cUnit)) (()))), (2, .v (vO (cPair cBool (cUnit)) (r.1, ())))], hp := [.cells ((cPair cMachine (cUnit) : Cdc U (Machine × Unit)).enc (r.2, ()))] })
  | .inr r => (.exit 0, { tm := [(1, .v (vO (cK (.ptr 0 0) (cUnit)) (())))], hp := [.cells ((cPair cMachine (cUnit) : Cdc U (Machine × Unit)).enc (r, ()))] })
noncomputable def xTbus_Right_0 (y : ((Bool × Machine) ⊕ Machine)) : Tree (Ex × St U) := .ite y.isLeft (.opt (Bool × Machine) y.getLeft? fun r => .leaf (.ret, { tm := [(1, .v (vO (cK (.ptr 0 0) (cUnit)) (()))), (2, .v (vO (cPair cBool (cUnit)) (r.1, ())))], hp := [.cells ((cPair cMachine (cUnit) : Cdc U (Machine × Unit)).enc (r.2, ()))] })) (.opt Machine y.getRight? fun r => .leaf (.exit 0, { tm := [(1, .v (vO (cK (.ptr 0 0) (cUnit)) (())))], hp := [.cells ((cPair cMachine (cUnit) : Cdc U (Machine × Unit)).enc (r, ()))] }))
noncomputable def hbus_Right_0 : Hd := { keep := [1, 30, 31, 32], xkeep := [1, 2], own := false }
noncomputable def Ebus_Right : Env U := { P := Try.prog, cd := cd, fns := fns36, lps := (addL 0 hbus_Right_0 (mkLoop tAbus_Right_0 tBbus_Right_0 Pbus_Right_0 (Lbus_Right_0 none) xTbus_Right_0) noL), frz := fun _r => false, nt := 48, n0 := 0 }
noncomputable def Bbus_Right_0 : Code := (loopAt (Try.f14.body.getD .skip) 0 0).getD .skip
theorem roundbus_Right_0 (s : Sbus_Right_0) : round Ebus_Right hbus_Right_0 Bbus_Right_0 0 (eSbus_Right_0 s) = (Wbus_Right_0 s).map (sumE eSbus_Right_0 xSbus_Right_0) := by kernel_rfl
theorem lpbus_Right_0 : LpOk Ebus_Right Bbus_Right_0 0 := mkLoop_ok (A := tAbus_Right_0) (B := tBbus_Right_0) (f := Pbus_Right_0) (L := Lbus_Right_0 none) (tO_ok (cK_ok cUnit_ok) (tO_ok (cPair_ok (cSl_ok 59) cUnit_ok) (tO_ok (cPair_ok (cInt_ok .i64) cUnit_ok) (tO_ok (cPair_ok (cInt_ok .i64) cUnit_ok) tNil_ok)))) (bC_ok (cPair_ok cMachine_ok cUnit_ok) bNil_ok) (enc := eSbus_Right_0) (out := xTbus_Right_0) (outS := xSbus_Right_0) (step := Wbus_Right_0) (fun _ => rfl) (fun _ _ => by kernel_rfl) (by kernel_rfl) (fun b => by cases b <;> rfl) roundbus_Right_0
theorem runbus_Right (x : Machine × Unit) (g : Unit) : execF Ebus_Right Try.f14 (Abus_Right.enc x) (bNil.enc g) = (Tbus_Right none x.1).map Rbus_Right := by kernel_rfl
theorem okbus_Right : FnOk Try.prog cd 14 Sbus_Right := mk_ok (E := Ebus_Right) cd_ok fns36_ok Try.func14 (by kernel_rfl) (loops_of (addL_ok lpbus_Right_0 noL_ok)) (aA_ok cMachine_ok (aNil_ok)) bNil_ok (T := fun x _ => Tbus_Right none x.1) (fun _ _ => rfl) runbus_Right
noncomputable def fns14 := addF 14 true Sbus_Right fns36
theorem fns14_ok : ∀ f q t, fns14 f = some (q, t) → FnOk Try.prog cd f t := addF_ok okbus_Right fns36_ok
/-- emulator/emulatorlaw18.BusRight -/
noncomputable def Tlaw18_BusRight (q : Option Nat) (x0 : Machine) : Tree Bool :=
  .opt Bool (law18_alive q) fun r323 =>
    .ite (r323)
      (.opt Bool (law18_Small q x0) fun r324 =>
        .ite (!r324)
          (.leaf (true))
          (.opt Bool (bus_Right q x0) fun r325 =>
            .opt Bool (ref18_Right q x0) fun r326 =>
              .leaf ((r325 == r326))))
      (.leaf (false))
noncomputable def law18_BusRight (q : Option Nat) (x0 : Machine) : Option Bool := (Tlaw18_BusRight q x0).run
theorem lelaw18_BusRight (k : Nat) (x0 : Machine) : Le (law18_BusRight (some k) x0) (law18_BusRight none x0) := (TLe.opt (lelaw18_alive k) fun _ => (TLe.ite (TLe.opt (lelaw18_Small k _) fun _ => (TLe.ite TLe.rfl (TLe.opt (lebus_Right k _) fun _ => (TLe.opt (leref18_Right k _) fun _ => TLe.rfl)))) TLe.rfl))
noncomputable def Alaw18_BusRight : Arg U (Machine × Unit) := aA cMachine (aNil)
noncomputable def Rlaw18_BusRight (r : Bool) : List (V U) × List (Blk U) := ([vO cBool r], [])
noncomputable def Slaw18_BusRight : List (V U) → List (Blk U) → Option (FnOut U) := mkSpec Alaw18_BusRight bNil (fun x _ => law18_BusRight none x.1) Rlaw18_BusRight
noncomputable def Elaw18_BusRight : Env U := { P := Try.prog, cd := cd, fns := fns14, lps := noL, frz := fun _r => false, nt := 16, n0 := 0 }
theorem runlaw18_BusRight (x : Machine × Unit) (g : Unit) : execF Elaw18_BusRight Try.f5 (Alaw18_BusRight.enc x) (bNil.enc g) = (Tlaw18_BusRight none x.1).map Rlaw18_BusRight := by kernel_rfl
theorem oklaw18_BusRight : FnOk Try.prog cd 5 Slaw18_BusRight := mk_ok (E := Elaw18_BusRight) cd_ok fns14_ok Try.func5 (by kernel_rfl) (noLoops_body (by kernel_rfl)) (aA_ok cMachine_ok (aNil_ok)) bNil_ok (T := fun x _ => Tlaw18_BusRight none x.1) (fun _ _ => rfl) runlaw18_BusRight
noncomputable def fns5 := addF 5 true Slaw18_BusRight fns14
theorem fns5_ok : ∀ f q t, fns5 f = some (q, t) → FnOk Try.prog cd f t := addF_ok oklaw18_BusRight fns14_ok
/-- emulator/emulatorref08.Without -/
structure Sref08_Without_0 where
  t0 : (List Int)
  t1 : Int
  t6 : Int
  b0 : (List Int)
noncomputable def Wref08_Without_0 (s : Sref08_Without_0) : Tree (Sref08_Without_0 ⊕ (List Int)) :=
  .ite (decide (s.t6 < (s.t0.length : Int)))
    (.ite (decide (0 ≤ s.t6))
      (.opt Int (s.t0[(s.t6).toNat]?) fun y330 =>
        .ite (!decide (y330 = s.t1))
          (.ite (decide (0 ≤ s.t6))
            (.opt Int (s.t0[(s.t6).toNat]?) fun y331 =>
              .ite (decide ((s.b0.length + ([y331]).length) * 8 ≤ 140737488355328))
                (.leaf (.inl (Sref08_Without_0.mk s.t0 s.t1 (IntKind.wrap .i64 (s.t6 + (1 : Int))) (s.b0 ++ ([y331])))))
                .fail)
            .fail)
          (.leaf (.inl (Sref08_Without_0.mk s.t0 s.t1 (IntKind.wrap .i64 (s.t6 + (1 : Int))) s.b0))))
      .fail)
    (.leaf (.inr s.b0))
noncomputable def Lref08_Without_0 (q : Option Nat) (s : Sref08_Without_0) : Option (List Int) := limQ q (fun s => (Wref08_Without_0 s).run) s
theorem leLref08_Without_0 (k : Nat) (s : Sref08_Without_0) : Le (Lref08_Without_0 (some k) s) (Lref08_Without_0 none s) := limQ_le (fun _ => Le.rfl) s
noncomputable def Tref08_Without (q : Option Nat) (x0 : (List Int)) (x1 : Int) : Tree (List Int) :=
  .opt (List Int) (Lref08_Without_0 q (Sref08_Without_0.mk x0 x1 (0 : Int) ([]))) fun l332 =>
    .leaf (l332)
noncomputable def ref08_Without (q : Option Nat) (x0 : (List Int)) (x1 : Int) : Option (List Int) := (Tref08_Without q x0 x1).run
theorem leref08_Without (k : Nat) (x0 : (List Int)) (x1 : Int) : Le (ref08_Without (some k) x0 x1) (ref08_Without none x0 x1) := (TLe.opt (leLref08_Without_0 k _) fun _ => TLe.rfl)
noncomputable def Aref08_Without : Arg U ((List Int) × Int × Unit) := aO (cSl 3) (aO (cInt .i64) (aNil))
noncomputable def Rref08_Without (r : (List Int)) : List (V U) × List (Blk U) := ([vO (cSl 3) r], [])
noncomputable def Sref08_Without : List (V U) → List (Blk U) → Option (FnOut U) := mkSpec Aref08_Without bNil (fun x _ => ref08_Without none x.1 x.2.1) Rref08_Without
noncomputable def Pref08_Without_0 (x : ((List Int) × Unit) × (Int × Unit) × (Unit) × (Int × Unit) × Unit) (g : (List Int) × Unit) : Sref08_Without_0 := Sref08_Without_0.mk x.1.1 x.2.1.1 x.2.2.2.1.1 g.1
noncomputable def tAref08_Without_0 : Tms U (((List Int) × Unit) × (Int × Unit) × (Unit) × (Int × Unit) × Unit) := tO 0 (cPair (cSl 3) (cUnit)) (tO 1 (cPair (cInt .i64) (cUnit)) (tO 5 (cK (.row 0 0) (cUnit)) (tO 6 (cPair (cInt .i64) (cUnit)) (tNil))))
noncomputable def tBref08_Without_0 : Bls U ((List Int) × Unit) := bRv 3 0 (bNil)
noncomputable def eSref08_Without_0 (s : Sref08_Without_0) : St U := { tm := [(0, .v (vO (cPair (cSl 3) (cUnit)) (s.t0, ()))), (1, .v (vO (cPair (cInt .i64) (cUnit)) (s.t1, ()))), (5, .v (vO (cK (.row 0 0) (cUnit)) (()))), (6, .v (vO (cPair (cInt .i64) (cUnit)) (s.t6, ())))], hp := [.row 3 0 s.b0] }
noncomputable def xSref08_Without_0 (r : (List Int)) : Ex × St U := (.exit 0, { tm := [(5, .v (vO (cK (.row 0 0) (cUnit)) (())))], hp := [.row 3 0 r] })
noncomputable def xTref08_Without_0 (r : (List Int)) : Tree (Ex × St U) := .leaf (xSref08_Without_0 r)
noncomputable def href08_Without_0 : Hd := { keep := [0, 1, 5, 6], xkeep := [4, 5], own := true }
noncomputable def Eref08_Without : Env U := { P := Try.prog, cd := cd, fns := fns5, lps := (addL 0 href08_Without_0 (mkLoop tAref08_Without_0 tBref08_Without_0 Pref08_Without_0 (Lref08_Without_0 none) xTref08_Without_0) noL), frz := fun _r => false, nt := 27, n0 := 0 }
noncomputable def Bref08_Without_0 : Code := (loopAt (Try.f91.body.getD .skip) 0 0).getD .skip
theorem roundref08_Without_0 (s : Sref08_Without_0) : round Eref08_Without href08_Without_0 Bref08_Without_0 0 (eSref08_Without_0 s) = (Wref08_Without_0 s).map (sumE eSref08_Without_0 xSref08_Without_0) := by kernel_rfl
theorem lpref08_Without_0 : LpOk Eref08_Without Bref08_Without_0 0 := mkLoop_ok (A := tAref08_Without_0) (B := tBref08_Without_0) (f := Pref08_Without_0) (L := Lref08_Without_0 none) (tO_ok (cPair_ok (cSl_ok 3) cUnit_ok) (tO_ok (cPair_ok (cInt_ok .i64) cUnit_ok) (tO_ok (cK_ok cUnit_ok) (tO_ok (cPair_ok (cInt_ok .i64) cUnit_ok) tNil_ok)))) (bRv_ok bNil_ok) (enc := eSref08_Without_0) (out := xTref08_Without_0) (outS := xSref08_Without_0) (step := Wref08_Without_0) (fun _ => rfl) (fun _ _ => by kernel_rfl) (by kernel_rfl) (fun _ => rfl) roundref08_Without_0
theorem runref08_Without (x : (List Int) × Int × Unit) (g : Unit) : execF Eref08_Without Try.f91 (Aref08_Without.enc x) (bNil.enc g) = (Tref08_Without none x.1 x.2.1).map Rref08_Without := by kernel_rfl
theorem okref08_Without : FnOk Try.prog cd 91 Sref08_Without := mk_ok (E := Eref08_Without) cd_ok fns5_ok Try.func91 (by kernel_rfl) (loops_of (addL_ok lpref08_Without_0 noL_ok)) (aO_ok (cSl_ok 3) (aO_ok (cInt_ok .i64) (aNil_ok))) bNil_ok (T := fun x _ => Tref08_Without none x.1 x.2.1) (fun _ _ => rfl) runref08_Without
noncomputable def fns91 := addF 91 true Sref08_Without fns5
theorem fns91_ok : ∀ f q t, fns91 f = some (q, t) → FnOk Try.prog cd f t := addF_ok okref08_Without fns5_ok
/-- emulator/emulatorref08.set -/
noncomputable def Tref08_set (x1 : Int) (x2 : Int) (g0 : (List Int)) : Tree (List Int) :=
  .ite (decide ((2 : Int) = 0))
    .fail
    (.ite (decide (0 ≤ IntKind.wrap .i64 ((x1).tdiv (2 : Int))))
      (.ite (decide (IntKind.wrap .i64 ((x1).tdiv (2 : Int)) < (g0.length : Int)))
        (.opt Int (g0[(IntKind.wrap .i64 ((x1).tdiv (2 : Int))).toNat]?) fun y334 =>
          .ite (decide ((2 : Int) = 0))
            .fail
            (.ite (decide (((x1).tmod (2 : Int)) = (0 : Int)))
              (.ite (decide ((2 : Int) = 0))
                .fail
                (.ite (decide (0 ≤ IntKind.wrap .i64 ((x1).tdiv (2 : Int))))
                  (.ite (decide (IntKind.wrap .i64 ((x1).tdiv (2 : Int)) < (g0.length : Int)))
                    (.opt Int (g0[(IntKind.wrap .i64 ((x1).tdiv (2 : Int))).toNat]?) fun y335 =>
                      .leaf (g0.set ((IntKind.wrap .i64 ((x1).tdiv (2 : Int))).toNat) (IntKind.wrap .i64 (((BitVec.ofInt 64 (IntKind.wrap .i64 (((BitVec.ofInt 64 y334 &&& BitVec.ofInt 64 (65280 : Int)).toNat : Int))) ||| BitVec.ofInt 64 x2).toNat : Int)))))
                    .fail)
                  .fail))
              (.ite (decide ((2 : Int) = 0))
                .fail
                (.ite (decide (0 ≤ (8 : Int)))
                  (.ite (decide (0 ≤ IntKind.wrap .i64 ((x1).tdiv (2 : Int))))
                    (.ite (decide (IntKind.wrap .i64 ((x1).tdiv (2 : Int)) < (g0.length : Int)))
                      (.opt Int (g0[(IntKind.wrap .i64 ((x1).tdiv (2 : Int))).toNat]?) fun y336 =>
                        .leaf (g0.set ((IntKind.wrap .i64 ((x1).tdiv (2 : Int))).toNat) (IntKind.wrap .i64 (((BitVec.ofInt 64 (IntKind.wrap .i64 (((BitVec.ofInt 64 y334 &&& BitVec.ofInt 64 (255 : Int)).toNat : Int))) ||| BitVec.ofInt 64 (IntKind.wrap .i64 (x2 * 2 ^ (min ((8 : Int)).toNat 64)))).toNat : Int)))))
                      .fail)
                    .fail)
                  .fail))))
        .fail)
      .fail)
noncomputable def ref08_set (x1 : Int) (x2 : Int) (g0 : (List Int)) : Option (List Int) := (Tref08_set x1 x2 g0).run
noncomputable def Aref08_set : Arg U (Int × Int × Unit) := aR 0 (aO (cInt .i64) (aO (cInt .i64) (aNil)))
noncomputable def Gref08_set : Bls U ((List Int) × Unit) := bR 3 (bNil)
noncomputable def Rref08_set (_x : Int × Int × Unit) (_g : (List Int) × Unit) (r : (List Int)) : List (V U) × List (Blk U) := ([], [.row 3 0 r])
noncomputable def Sref08_set : List (V U) → List (Blk U) → Option (FnOut U) := mkSpecG Aref08_set Gref08_set (fun x g => ref08_set x.1 x.2.1 g.1) Rref08_set
noncomputable def Eref08_set : Env U := { P := Try.prog, cd := cd, fns := fns91, lps := noL, frz := fun _r => false, nt := 32, n0 := 1 }
theorem rnref08_set (x1 : Int) (x2 : Int) (g0 : (List Int)) : execX false Eref08_set Try.f90 (Aref08_set.enc (x1, x2, ())) (Gref08_set.enc (g0, ())) = (Tref08_set x1 x2 g0).map (Rref08_set (x1, x2, ()) (g0, ())) := by kernel_rfl
theorem runref08_set : ∀ (x : Int × Int × Unit) (g : (List Int) × Unit), execX false Eref08_set Try.f90 (Aref08_set.enc x) (Gref08_set.enc g) = (Tref08_set x.1 x.2.1 g.1).map (Rref08_set x g)
  | (x1, x2, ()), (g0, ()) => rnref08_set x1 x2 g0
theorem okref08_set : FnOk Try.prog cd 90 Sref08_set := mk_okG (E := Eref08_set) (A := Aref08_set) (B := Gref08_set) false cd_ok fns91_ok Try.func90 (by kernel_rfl) (noLoops_body (by kernel_rfl)) (aR_ok (aO_ok (cInt_ok .i64) (aO_ok (cInt_ok .i64) (aNil_ok)))) (bR_ok bNil_ok) (T := fun (x : Int × Int × Unit) (g : (List Int) × Unit) => Tref08_set x.1 x.2.1 g.1) (fun _ _ => rfl) runref08_set
/-- emulator/emulatorref08.Write -/
noncomputable def Tref08_Write (q : Option Nat) (x0 : (List Int)) (x1 : (List Int)) (x2 : Int) (x3 : Bool) (x4 : Int) : Tree ((List Int) × (List Int) × Int) :=
  .opt Int (ref08_access x0 x2 x3) fun r337 =>
    .ite (!decide (r337 = (0 : Int)))
      (.leaf (([], [], r337)))
      (.ite (decide ((([] : List Int).length + x0.length) * 8 ≤ 140737488355328))
        (.ite (x3)
          (.opt (List Int) (ref08_set x2 (IntKind.wrap .i64 (((BitVec.ofInt 64 x4 &&& BitVec.ofInt 64 (255 : Int)).toNat : Int))) (([] : List Int) ++ x0)) fun r338 =>
            .ite (decide ((2 : Int) = 0))
              .fail
              (.opt (List Int) (ref08_Without q x1 (IntKind.wrap .i64 (x2 - ((x2).tmod (2 : Int))))) fun r340 =>
                .leaf ((r338, r340, (0 : Int)))))
          (.ite (decide ((2 : Int) = 0))
            .fail
            (.ite (decide (0 ≤ IntKind.wrap .i64 ((x2).tdiv (2 : Int))))
              (.ite (decide (IntKind.wrap .i64 ((x2).tdiv (2 : Int)) < ((([] : List Int) ++ x0).length : Int)))
                (.opt Int ((([] : List Int) ++ x0)[(IntKind.wrap .i64 ((x2).tdiv (2 : Int))).toNat]?) fun y339 =>
                  .ite (decide ((2 : Int) = 0))
                    .fail
                    (.opt (List Int) (ref08_Without q x1 (IntKind.wrap .i64 (x2 - ((x2).tmod (2 : Int))))) fun r341 =>
                      .leaf (((([] : List Int) ++ x0).set ((IntKind.wrap .i64 ((x2).tdiv (2 : Int))).toNat) (IntKind.wrap .i64 (((BitVec.ofInt 64 x4 &&& BitVec.ofInt 64 (65535 : Int)).toNat : Int))), r341, (0 : Int)))))
                .fail)
              .fail)))
        .fail)
noncomputable def ref08_Write (q : Option Nat) (x0 : (List Int)) (x1 : (List Int)) (x2 : Int) (x3 : Bool) (x4 : Int) : Option ((List Int) × (List Int) × Int) := (Tref08_Write q x0 x1 x2 x3 x4).run
theorem leref08_Write (k : Nat) (x0 : (List Int)) (x1 : (List Int)) (x2 : Int) (x3 : Bool) (x4 : Int) : Le (ref08_Write (some k) x0 x1 x2 x3 x4) (ref08_Write none x0 x1 x2 x3 x4) := (TLe.opt Le.rfl fun _ => (TLe.ite TLe.rfl (TLe.ite (TLe.ite (TLe.opt Le.rfl fun _ => (TLe.ite TLe.rfl (TLe.opt (leref08_Without k _ _) fun _ => TLe.rfl))) (TLe.ite TLe.rfl (TLe.ite (TLe.ite (TLe.opt Le.rfl fun _ => (TLe.ite TLe.rfl (TLe.opt (leref08_Without k _ _) fun _ => TLe.rfl))) TLe.rfl) TLe.rfl))) TLe.rfl)))
noncomputable def Aref08_Write : Arg U ((List Int) × (List Int) × Int × Bool × Int × Unit) := aO (cSl 3) (aO (cSl 3) (aO (cInt .i64) (aO cBool (aO (cInt .i64) (aNil)))))
noncomputable def Rref08_Write (r : ((List Int) × (List Int) × Int)) : List (V U) × List (Blk U) := ([vO (cSl 3) r.1, vO (cSl 3) r.2.1, vO (cInt .i64) r.2.2], [])
noncomputable def Sref08_Write : List (V U) → List (Blk U) → Option (FnOut U) := mkSpec Aref08_Write bNil (fun x _ => ref08_Write none x.1 x.2.1 x.2.2.1 x.2.2.2.1 x.2.2.2.2.1) Rref08_Write
noncomputable def Eref08_Write : Env U := { P := Try.prog, cd := cd, fns := (addF 90 false (Sref08_set) fns91), lps := noL, frz := fun _r => false, nt := 44, n0 := 0 }
theorem runref08_Write (x : (List Int) × (List Int) × Int × Bool × Int × Unit) (g : Unit) : execF Eref08_Write Try.f37 (Aref08_Write.enc x) (bNil.enc g) = (Tref08_Write none x.1 x.2.1 x.2.2.1 x.2.2.2.1 x.2.2.2.2.1).map Rref08_Write := by kernel_rfl
theorem okref08_Write : FnOk Try.prog cd 37 Sref08_Write := mk_ok (E := Eref08_Write) cd_ok (addF_ok okref08_set fns91_ok) Try.func37 (by kernel_rfl) (noLoops_body (by kernel_rfl)) (aO_ok (cSl_ok 3) (aO_ok (cSl_ok 3) (aO_ok (cInt_ok .i64) (aO_ok cBool_ok (aO_ok (cInt_ok .i64) (aNil_ok)))))) bNil_ok (T := fun x _ => Tref08_Write none x.1 x.2.1 x.2.2.1 x.2.2.2.1 x.2.2.2.2.1) (fun _ _ => rfl) runref08_Write
noncomputable def fns37 := addF 37 true Sref08_Write fns91
theorem fns37_ok : ∀ f q t, fns37 f = some (q, t) → FnOk Try.prog cd f t := addF_ok okref08_Write fns91_ok
/-- emulator/emulatorref18.low -/
noncomputable def Tref18_low (x0 : Int) (x1 : Bool) : Tree Int :=
  .ite (x1)
    (.leaf (IntKind.wrap .i64 (((BitVec.ofInt 64 x0 &&& BitVec.ofInt 64 (255 : Int)).toNat : Int))))
    (.leaf (IntKind.wrap .i64 (((BitVec.ofInt 64 x0 &&& BitVec.ofInt 64 (65535 : Int)).toNat : Int))))
noncomputable def ref18_low (x0 : Int) (x1 : Bool) : Option Int := (Tref18_low x0 x1).run
noncomputable def Aref18_low : Arg U (Int × Bool × Unit) := aO (cInt .i64) (aO cBool (aNil))
noncomputable def Rref18_low (r : Int) : List (V U) × List (Blk U) := ([vO (cInt .i64) r], [])
noncomputable def Sref18_low : List (V U) → List (Blk U) → Option (FnOut U) := mkSpec Aref18_low bNil (fun x _ => ref18_low x.1 x.2.1) Rref18_low
noncomputable def Eref18_low : Env U := { P := Try.prog, cd := cd, fns := fns37, lps := noL, frz := fun _r => false, nt := 10, n0 := 0 }
theorem runref18_low (x : Int × Bool × Unit) (g : Unit) : execF Eref18_low Try.f38 (Aref18_low.enc x) (bNil.enc g) = (Tref18_low x.1 x.2.1).map Rref18_low := by kernel_rfl
theorem okref18_low : FnOk Try.prog cd 38 Sref18_low := mk_ok (E := Eref18_low) cd_ok fns37_ok Try.func38 (by kernel_rfl) (noLoops_body (by kernel_rfl)) (aO_ok (cInt_ok .i64) (aO_ok cBool_ok (aNil_ok))) bNil_ok (T := fun x _ => Tref18_low x.1 x.2.1) (fun _ _ => rfl) runref18_low
noncomputable def fns38 := addF 38 true Sref18_low fns37
theorem fns38_ok : ∀ f q t, fns38 f = some (q, t) → FnOk Try.prog cd f t := addF_ok okref18_low fns37_ok
/-- emulator/emulatorref14.Write -/
noncomputable def Tref14_Write (x0 : Line) (x1 : Int) (x2 : Int) : Tree Line :=
  .ite (decide (x1 = (0 : Int)))
    (.leaf (Line.mk (!decide ((IntKind.wrap .i64 (((BitVec.ofInt 64 x2 &&& BitVec.ofInt 64 (64 : Int)).toNat : Int))) = (0 : Int))) x0.rxReady x0.overrun x0.rxData x0.txEnable x0.txReady x0.txData x0.txLeft x0.out))
    (.ite (decide (x1 = (4 : Int)))
      (.leaf (Line.mk x0.rxEnable x0.rxReady x0.overrun x0.rxData (!decide ((IntKind.wrap .i64 (((BitVec.ofInt 64 x2 &&& BitVec.ofInt 64 (64 : Int)).toNat : Int))) = (0 : Int))) x0.txReady x0.txData x0.txLeft x0.out))
      (.ite (decide (x1 = (6 : Int)))
        (.ite (x0.txReady)
          (.leaf (Line.mk x0.rxEnable x0.rxReady x0.overrun x0.rxData x0.txEnable false (IntKind.wrap .i64 (((BitVec.ofInt 64 x2 &&& BitVec.ofInt 64 (255 : Int)).toNat : Int))) (4 : Int) x0.out))
          (.leaf (x0)))
        (.leaf (x0))))
noncomputable def ref14_Write (x0 : Line) (x1 : Int) (x2 : Int) : Option Line := (Tref14_Write x0 x1 x2).run
noncomputable def Aref14_Write : Arg U (Line × Int × Int × Unit) := aA cLine (aO (cInt .i64) (aO (cInt .i64) (aNil)))
noncomputable def Rref14_Write (r : Line) : List (V U) × List (Blk U) := ([vA cLine r], [])
noncomputable def Sref14_Write : List (V U) → List (Blk U) → Option (FnOut U) := mkSpec Aref14_Write bNil (fun x _ => ref14_Write x.1 x.2.1 x.2.2.1) Rref14_Write
noncomputable def Eref14_Write : Env U := { P := Try.prog, cd := cd, fns := fns38, lps := noL, frz := fun _r => false, nt := 30, n0 := 0 }
theorem runref14_Write (x : Line × Int × Int × Unit) (g : Unit) : execF Eref14_Write Try.f92 (Aref14_Write.enc x) (bNil.enc g) = (Tref14_Write x.1 x.2.1 x.2.2.1).map Rref14_Write := by kernel_rfl
theorem okref14_Write : FnOk Try.prog cd 92 Sref14_Write := mk_ok (E := Eref14_Write) cd_ok fns38_ok Try.func92 (by kernel_rfl) (noLoops_body (by kernel_rfl)) (aA_ok cLine_ok (aO_ok (cInt_ok .i64) (aO_ok (cInt_ok .i64) (aNil_ok)))) bNil_ok (T := fun x _ => Tref14_Write x.1 x.2.1 x.2.2.1) (fun _ _ => rfl) runref14_Write
noncomputable def fns92 := addF 92 true Sref14_Write fns38
theorem fns92_ok : ∀ f q t, fns92 f = some (q, t) → FnOk Try.prog cd f t := addF_ok okref14_Write fns38_ok
/-- emulator/emulatorref13.Write -/
noncomputable def Tref13_Write (x0 : Clock) (x1 : Int) : Tree Clock :=
  .ite (x0.ready)
    (.leaf (Clock.mk (!decide ((IntKind.wrap .i64 (((BitVec.ofInt 64 x1 &&& BitVec.ofInt 64 (64 : Int)).toNat : Int))) = (0 : Int))) (!decide ((IntKind.wrap .i64 (((BitVec.ofInt 64 x1 &&& BitVec.ofInt 64 (128 : Int)).toNat : Int))) = (0 : Int))) x0.period x0.left))
    (.leaf (Clock.mk (!decide ((IntKind.wrap .i64 (((BitVec.ofInt 64 x1 &&& BitVec.ofInt 64 (64 : Int)).toNat : Int))) = (0 : Int))) false x0.period x0.left))
noncomputable def ref13_Write (x0 : Clock) (x1 : Int) : Option Clock := (Tref13_Write x0 x1).run
noncomputable def Aref13_Write : Arg U (Clock × Int × Unit) := aA cClock (aO (cInt .i64) (aNil))
noncomputable def Rref13_Write (r : Clock) : List (V U) × List (Blk U) := ([vA cClock r], [])
noncomputable def Sref13_Write : List (V U) → List (Blk U) → Option (FnOut U) := mkSpec Aref13_Write bNil (fun x _ => ref13_Write x.1 x.2.1) Rref13_Write
noncomputable def Eref13_Write : Env U := { P := Try.prog, cd := cd, fns := fns92, lps := noL, frz := fun _r => false, nt := 18, n0 := 0 }
theorem runref13_Write (x : Clock × Int × Unit) (g : Unit) : execF Eref13_Write Try.f93 (Aref13_Write.enc x) (bNil.enc g) = (Tref13_Write x.1 x.2.1).map Rref13_Write := by kernel_rfl
theorem okref13_Write : FnOk Try.prog cd 93 Sref13_Write := mk_ok (E := Eref13_Write) cd_ok fns92_ok Try.func93 (by kernel_rfl) (noLoops_body (by kernel_rfl)) (aA_ok cClock_ok (aO_ok (cInt_ok .i64) (aNil_ok))) bNil_ok (T := fun x _ => Tref13_Write x.1 x.2.1) (fun _ _ => rfl) runref13_Write
noncomputable def fns93 := addF 93 true Sref13_Write fns92
theorem fns93_ok : ∀ f q t, fns93 f = some (q, t) → FnOk Try.prog cd f t := addF_ok okref13_Write fns92_ok
/-- emulator/emulatorref16.Write -/
noncomputable def Tref16_Write (x0 : Disk) (x1 : Int) (x2 : Int) : Tree (Disk × Bool) :=
  .ite (!decide (x1 = (0 : Int)))
    (.ite (!decide (x1 = (2 : Int)))
      (.ite (!decide (x1 = (4 : Int)))
        (.ite (!decide (x1 = (6 : Int)))
          (.leaf ((Disk.mk (Drive.mk ([]) ([])) false false false 0 0 0 0 0, false)))
          (.ite (decide (x1 = (0 : Int)))
            (.ite (x0.ready)
              (.ite (!decide ((IntKind.wrap .i64 (((BitVec.ofInt 64 x2 &&& BitVec.ofInt 64 (1 : Int)).toNat : Int))) = (0 : Int)))
                (.ite (decide (0 ≤ (1 : Int)))
                  (.ite (!decide ((IntKind.wrap .i64 (((BitVec.ofInt 64 ((x2).fdiv (2 ^ (min ((1 : Int)).toNat 64))) &&& BitVec.ofInt 64 (3 : Int)).toNat : Int))) = (0 : Int)))
                    (.ite (!decide (x0.words = (0 : Int)))
                      (.leaf ((Disk.mk x0.drive (!decide ((IntKind.wrap .i64 (((BitVec.ofInt 64 x2 &&& BitVec.ofInt 64 (64 : Int)).toNat : Int))) = (0 : Int))) false false (IntKind.wrap .i64 (((BitVec.ofInt 64 ((x2).fdiv (2 ^ (min ((1 : Int)).toNat 64))) &&& BitVec.ofInt 64 (3 : Int)).toNat : Int))) x0.words x0.addr x0.start (8 : Int), true)))
                      (.leaf ((Disk.mk x0.drive (!decide ((IntKind.wrap .i64 (((BitVec.ofInt 64 x2 &&& BitVec.ofInt 64 (64 : Int)).toNat : Int))) = (0 : Int))) x0.ready false (IntKind.wrap .i64 (((BitVec.ofInt 64 ((x2).fdiv (2 ^ (min ((1 : Int)).toNat 64))) &&& BitVec.ofInt 64 (3 : Int)).toNat : Int))) x0.words x0.addr x0.start x0.left, true))))
                    (.leaf ((Disk.mk x0.drive (!decide ((IntKind.wrap .i64 (((BitVec.ofInt 64 x2 &&& BitVec.ofInt 64 (64 : Int)).toNat : Int))) = (0 : Int))) x0.ready false (IntKind.wrap .i64 (((BitVec.ofInt 64 ((x2).fdiv (2 ^ (min ((1 : Int)).toNat 64))) &&& BitVec.ofInt 64 (3 : Int)).toNat : Int))) x0.words x0.addr x0.start x0.left, true))))
                  .fail)
                (.leaf ((Disk.mk x0.drive (!decide ((IntKind.wrap .i64 (((BitVec.ofInt 64 x2 &&& BitVec.ofInt 64 (64 : Int)).toNat : Int))) = (0 : Int))) x0.ready x0.error x0.command x0.words x0.addr x0.start x0.left, true))))
              (.leaf ((Disk.mk x0.drive (!decide ((IntKind.wrap .i64 (((BitVec.ofInt 64 x2 &&& BitVec.ofInt 64 (64 : Int)).toNat : Int))) = (0 : Int))) x0.ready x0.error x0.command x0.words x0.addr x0.start x0.left, true))))
            (.ite (!x0.ready)
              (.leaf ((x0, true)))
              (.ite (decide (x1 = (2 : Int)))
                (.ite (decide (x1 = (4 : Int)))
                  (.ite (decide (x1 = (6 : Int)))
                    (.leaf ((Disk.mk x0.drive x0.enable x0.ready x0.error x0.command (IntKind.wrap .i64 (((BitVec.ofInt 64 x2 &&& BitVec.ofInt 64 (65535 : Int)).toNat : Int))) (IntKind.wrap .i64 (((BitVec.ofInt 64 x2 &&& BitVec.ofInt 64 (65534 : Int)).toNat : Int))) (IntKind.wrap .i64 (((BitVec.ofInt 64 x2 &&& BitVec.ofInt 64 (65535 : Int)).toNat : Int))) x0.left, true)))
                    (.leaf ((Disk.mk x0.drive x0.enable x0.ready x0.error x0.command (IntKind.wrap .i64 (((BitVec.ofInt 64 x2 &&& BitVec.ofInt 64 (65535 : Int)).toNat : Int))) (IntKind.wrap .i64 (((BitVec.ofInt 64 x2 &&& BitVec.ofInt 64 (65534 : Int)).toNat : Int))) x0.start x0.left, true))))
                  (.ite (decide (x1 = (6 : Int)))
                    (.leaf ((Disk.mk x0.drive x0.enable x0.ready x0.error x0.command (IntKind.wrap .i64 (((BitVec.ofInt 64 x2 &&& BitVec.ofInt 64 (65535 : Int)).toNat : Int))) x0.addr (IntKind.wrap .i64 (((BitVec.ofInt 64 x2 &&& BitVec.ofInt 64 (65535 : Int)).toNat : Int))) x0.left, true)))
                    (.leaf ((Disk.mk x0.drive x0.enable x0.ready x0.error x0.command (IntKind.wrap .i64 (((BitVec.ofInt 64 x2 &&& BitVec.ofInt 64 (65535 : Int)).toNat : Int))) x0.addr x0.start x0.left, true)))))
                (.ite (decide (x1 = (4 : Int)))
                  (.ite (decide (x1 = (6 : Int)))
                    (.leaf ((Disk.mk x0.drive x0.enable x0.ready x0.error x0.command x0.words (IntKind.wrap .i64 (((BitVec.ofInt 64 x2 &&& BitVec.ofInt 64 (65534 : Int)).toNat : Int))) (IntKind.wrap .i64 (((BitVec.ofInt 64 x2 &&& BitVec.ofInt 64 (65535 : Int)).toNat : Int))) x0.left, true)))
                    (.leaf ((Disk.mk x0.drive x0.enable x0.ready x0.error x0.command x0.words (IntKind.wrap .i64 (((BitVec.ofInt 64 x2 &&& BitVec.ofInt 64 (65534 : Int)).toNat : Int))) x0.start x0.left, true))))
                  (.ite (decide (x1 = (6 : Int)))
                    (.leaf ((Disk.mk x0.drive x0.enable x0.ready x0.error x0.command x0.words x0.addr (IntKind.wrap .i64 (((BitVec.ofInt 64 x2 &&& BitVec.ofInt 64 (65535 : Int)).toNat : Int))) x0.left, true)))
                    (.leaf ((x0, true)))))))))
        (.ite (decide (x1 = (0 : Int)))
          (.ite (x0.ready)
            (.ite (!decide ((IntKind.wrap .i64 (((BitVec.ofInt 64 x2 &&& BitVec.ofInt 64 (1 : Int)).toNat : Int))) = (0 : Int)))
              (.ite (decide (0 ≤ (1 : Int)))
                (.ite (!decide ((IntKind.wrap .i64 (((BitVec.ofInt 64 ((x2).fdiv (2 ^ (min ((1 : Int)).toNat 64))) &&& BitVec.ofInt 64 (3 : Int)).toNat : Int))) = (0 : Int)))
                  (.ite (!decide (x0.words = (0 : Int)))
                    (.leaf ((Disk.mk x0.drive (!decide ((IntKind.wrap .i64 (((BitVec.ofInt 64 x2 &&& BitVec.ofInt 64 (64 : Int)).toNat : Int))) = (0 : Int))) false false (IntKind.wrap .i64 (((BitVec.ofInt 64 ((x2).fdiv (2 ^ (min ((1 : Int)).toNat 64))) &&& BitVec.ofInt 64 (3 : Int)).toNat : Int))) x0.words x0.addr x0.start (8 : Int), true)))
                    (.leaf ((Disk.mk x0.drive (!decide ((IntKind.wrap .i64 (((BitVec.ofInt 64 x2 &&& BitVec.ofInt 64 (64 : Int)).toNat : Int))) = (0 : Int))) x0.ready false (IntKind.wrap .i64 (((BitVec.ofInt 64 ((x2).fdiv (2 ^ (min ((1 : Int)).toNat 64))) &&& BitVec.ofInt 64 (3 : Int)).toNat : Int))) x0.words x0.addr x0.start x0.left, true))))
                  (.leaf ((Disk.mk x0.drive (!decide ((IntKind.wrap .i64 (((BitVec.ofInt 64 x2 &&& BitVec.ofInt 64 (64 : Int)).toNat : Int))) = (0 : Int))) x0.ready false (IntKind.wrap .i64 (((BitVec.ofInt 64 ((x2).fdiv (2 ^ (min ((1 : Int)).toNat 64))) &&& BitVec.ofInt 64 (3 : Int)).toNat : Int))) x0.words x0.addr x0.start x0.left, true))))
                .fail)
              (.leaf ((Disk.mk x0.drive (!decide ((IntKind.wrap .i64 (((BitVec.ofInt 64 x2 &&& BitVec.ofInt 64 (64 : Int)).toNat : Int))) = (0 : Int))) x0.ready x0.error x0.command x0.words x0.addr x0.start x0.left, true))))
            (.leaf ((Disk.mk x0.drive (!decide ((IntKind.wrap .i64 (((BitVec.ofInt 64 x2 &&& BitVec.ofInt 64 (64 : Int)).toNat : Int))) = (0 : Int))) x0.ready x0.error x0.command x0.words x0.addr x0.start x0.left, true))))
          (.ite (!x0.ready)
            (.leaf ((x0, true)))
            (.ite (decide (x1 = (2 : Int)))
              (.ite (decide (x1 = (4 : Int)))
                (.ite (decide (x1 = (6 : Int)))
                  (.leaf ((Disk.mk x0.drive x0.enable x0.ready x0.error x0.command (IntKind.wrap .i64 (((BitVec.ofInt 64 x2 &&& BitVec.ofInt 64 (65535 : Int)).toNat : Int))) (IntKind.wrap .i64 (((BitVec.ofInt 64 x2 &&& BitVec.ofInt 64 (65534 : Int)).toNat : Int))) (IntKind.wrap .i64 (((BitVec.ofInt 64 x2 &&& BitVec.ofInt 64 (65535 : Int)).toNat : Int))) x0.left, true)))
                  (.leaf ((Disk.mk x0.drive x0.enable x0.ready x0.error x0.command (IntKind.wrap .i64 (((BitVec.ofInt 64 x2 &&& BitVec.ofInt 64 (65535 : Int)).toNat : Int))) (IntKind.wrap .i64 (((BitVec.ofInt 64 x2 &&& BitVec.ofInt 64 (65534 : Int)).toNat : Int))) x0.start x0.left, true))))
                (.ite (decide (x1 = (6 : Int)))
                  (.leaf ((Disk.mk x0.drive x0.enable x0.ready x0.error x0.command (IntKind.wrap .i64 (((BitVec.ofInt 64 x2 &&& BitVec.ofInt 64 (65535 : Int)).toNat : Int))) x0.addr (IntKind.wrap .i64 (((BitVec.ofInt 64 x2 &&& BitVec.ofInt 64 (65535 : Int)).toNat : Int))) x0.left, true)))
                  (.leaf ((Disk.mk x0.drive x0.enable x0.ready x0.error x0.command (IntKind.wrap .i64 (((BitVec.ofInt 64 x2 &&& BitVec.ofInt 64 (65535 : Int)).toNat : Int))) x0.addr x0.start x0.left, true)))))
              (.ite (decide (x1 = (4 : Int)))
                (.ite (decide (x1 = (6 : Int)))
                  (.leaf ((Disk.mk x0.drive x0.enable x0.ready x0.error x0.command x0.words (IntKind.wrap .i64 (((BitVec.ofInt 64 x2 &&& BitVec.ofInt 64 (65534 : Int)).toNat : Int))) (IntKind.wrap .i64 (((BitVec.ofInt 64 x2 &&& BitVec.ofInt 64 (65535 : Int)).toNat : Int))) x0.left, true)))
                  (.leaf ((Disk.mk x0.drive x0.enable x0.ready x0.error x0.command x0.words (IntKind.wrap .i64 (((BitVec.ofInt 64 x2 &&& BitVec.ofInt 64 (65534 : Int)).toNat : Int))) x0.start x0.left, true))))
                (.ite (decide (x1 = (6 : Int)))
                  (.leaf ((Disk.mk x0.drive x0.enable x0.ready x0.error x0.command x0.words x0.addr (IntKind.wrap .i64 (((BitVec.ofInt 64 x2 &&& BitVec.ofInt 64 (65535 : Int)).toNat : Int))) x0.left, true)))
                  (.leaf ((x0, true)))))))))
      (.ite (decide (x1 = (0 : Int)))
        (.ite (x0.ready)
          (.ite (!decide ((IntKind.wrap .i64 (((BitVec.ofInt 64 x2 &&& BitVec.ofInt 64 (1 : Int)).toNat : Int))) = (0 : Int)))
            (.ite (decide (0 ≤ (1 : Int)))
              (.ite (!decide ((IntKind.wrap .i64 (((BitVec.ofInt 64 ((x2).fdiv (2 ^ (min ((1 : Int)).toNat 64))) &&& BitVec.ofInt 64 (3 : Int)).toNat : Int))) = (0 : Int)))
                (.ite (!decide (x0.words = (0 : Int)))
                  (.leaf ((Disk.mk x0.drive (!decide ((IntKind.wrap .i64 (((BitVec.ofInt 64 x2 &&& BitVec.ofInt 64 (64 : Int)).toNat : Int))) = (0 : Int))) false false (IntKind.wrap .i64 (((BitVec.ofInt 64 ((x2).fdiv (2 ^ (min ((1 : Int)).toNat 64))) &&& BitVec.ofInt 64 (3 : Int)).toNat : Int))) x0.words x0.addr x0.start (8 : Int), true)))
                  (.leaf ((Disk.mk x0.drive (!decide ((IntKind.wrap .i64 (((BitVec.ofInt 64 x2 &&& BitVec.ofInt 64 (64 : Int)).toNat : Int))) = (0 : Int))) x0.ready false (IntKind.wrap .i64 (((BitVec.ofInt 64 ((x2).fdiv (2 ^ (min ((1 : Int)).toNat 64))) &&& BitVec.ofInt 64 (3 : Int)).toNat : Int))) x0.words x0.addr x0.start x0.left, true))))
                (.leaf ((Disk.mk x0.drive (!decide ((IntKind.wrap .i64 (((BitVec.ofInt 64 x2 &&& BitVec.ofInt 64 (64 : Int)).toNat : Int))) = (0 : Int))) x0.ready false (IntKind.wrap .i64 (((BitVec.ofInt 64 ((x2).fdiv (2 ^ (min ((1 : Int)).toNat 64))) &&& BitVec.ofInt 64 (3 : Int)).toNat : Int))) x0.words x0.addr x0.start x0.left, true))))
              .fail)
            (.leaf ((Disk.mk x0.drive (!decide ((IntKind.wrap .i64 (((BitVec.ofInt 64 x2 &&& BitVec.ofInt 64 (64 : Int)).toNat : Int))) = (0 : Int))) x0.ready x0.error x0.command x0.words x0.addr x0.start x0.left, true))))
          (.leaf ((Disk.mk x0.drive (!decide ((IntKind.wrap .i64 (((BitVec.ofInt 64 x2 &&& BitVec.ofInt 64 (64 : Int)).toNat : Int))) = (0 : Int))) x0.ready x0.error x0.command x0.words x0.addr x0.start x0.left, true))))
        (.ite (!x0.ready)
          (.leaf ((x0, true)))
          (.ite (decide (x1 = (2 : Int)))
            (.ite (decide (x1 = (4 : Int)))
              (.ite (decide (x1 = (6 : Int)))
                (.leaf ((Disk.mk x0.drive x0.enable x0.ready x0.error x0.command (IntKind.wrap .i64 (((BitVec.ofInt 64 x2 &&& BitVec.ofInt 64 (65535 : Int)).toNat : Int))) (IntKind.wrap .i64 (((BitVec.ofInt 64 x2 &&& BitVec.ofInt 64 (65534 : Int)).toNat : Int))) (IntKind.wrap .i64 (((BitVec.ofInt 64 x2 &&& BitVec.ofInt 64 (65535 : Int)).toNat : Int))) x0.left, true)))
                (.leaf ((Disk.mk x0.drive x0.enable x0.ready x0.error x0.command (IntKind.wrap .i64 (((BitVec.ofInt 64 x2 &&& BitVec.ofInt 64 (65535 : Int)).toNat : Int))) (IntKind.wrap .i64 (((BitVec.ofInt 64 x2 &&& BitVec.ofInt 64 (65534 : Int)).toNat : Int))) x0.start x0.left, true))))
              (.ite (decide (x1 = (6 : Int)))
                (.leaf ((Disk.mk x0.drive x0.enable x0.ready x0.error x0.command (IntKind.wrap .i64 (((BitVec.ofInt 64 x2 &&& BitVec.ofInt 64 (65535 : Int)).toNat : Int))) x0.addr (IntKind.wrap .i64 (((BitVec.ofInt 64 x2 &&& BitVec.ofInt 64 (65535 : Int)).toNat : Int))) x0.left, true)))
                (.leaf ((Disk.mk x0.drive x0.enable x0.ready x0.error x0.command (IntKind.wrap .i64 (((BitVec.ofInt 64 x2 &&& BitVec.ofInt 64 (65535 : Int)).toNat : Int))) x0.addr x0.start x0.left, true)))))
            (.ite (decide (x1 = (4 : Int)))
              (.ite (decide (x1 = (6 : Int)))
                (.leaf ((Disk.mk x0.drive x0.enable x0.ready x0.error x0.command x0.words (IntKind.wrap .i64 (((BitVec.ofInt 64 x2 &&& BitVec.ofInt 64 (65534 : Int)).toNat : Int))) (IntKind.wrap .i64 (((BitVec.ofInt 64 x2 &&& BitVec.ofInt 64 (65535 : Int)).toNat : Int))) x0.left, true)))
                (.leaf ((Disk.mk x0.drive x0.enable x0.ready x0.error x0.command x0.words (IntKind.wrap .i64 (((BitVec.ofInt 64 x2 &&& BitVec.ofInt 64 (65534 : Int)).toNat : Int))) x0.start x0.left, true))))
              (.ite (decide (x1 = (6 : Int)))
                (.leaf ((Disk.mk x0.drive x0.enable x0.ready x0.error x0.command x0.words x0.addr (IntKind.wrap .i64 (((BitVec.ofInt 64 x2 &&& BitVec.ofInt 64 (65535 : Int)).toNat : Int))) x0.left, true)))
                (.leaf ((x0, true)))))))))
    (.ite (decide (x1 = (0 : Int)))
      (.ite (x0.ready)
        (.ite (!decide ((IntKind.wrap .i64 (((BitVec.ofInt 64 x2 &&& BitVec.ofInt 64 (1 : Int)).toNat : Int))) = (0 : Int)))
          (.ite (decide (0 ≤ (1 : Int)))
            (.ite (!decide ((IntKind.wrap .i64 (((BitVec.ofInt 64 ((x2).fdiv (2 ^ (min ((1 : Int)).toNat 64))) &&& BitVec.ofInt 64 (3 : Int)).toNat : Int))) = (0 : Int)))
              (.ite (!decide (x0.words = (0 : Int)))
                (.leaf ((Disk.mk x0.drive (!decide ((IntKind.wrap .i64 (((BitVec.ofInt 64 x2 &&& BitVec.ofInt 64 (64 : Int)).toNat : Int))) = (0 : Int))) false false (IntKind.wrap .i64 (((BitVec.ofInt 64 ((x2).fdiv (2 ^ (min ((1 : Int)).toNat 64))) &&& BitVec.ofInt 64 (3 : Int)).toNat : Int))) x0.words x0.addr x0.start (8 : Int), true)))
                (.leaf ((Disk.mk x0.drive (!decide ((IntKind.wrap .i64 (((BitVec.ofInt 64 x2 &&& BitVec.ofInt 64 (64 : Int)).toNat : Int))) = (0 : Int))) x0.ready false (IntKind.wrap .i64 (((BitVec.ofInt 64 ((x2).fdiv (2 ^ (min ((1 : Int)).toNat 64))) &&& BitVec.ofInt 64 (3 : Int)).toNat : Int))) x0.words x0.addr x0.start x0.left, true))))
              (.leaf ((Disk.mk x0.drive (!decide ((IntKind.wrap .i64 (((BitVec.ofInt 64 x2 &&& BitVec.ofInt 64 (64 : Int)).toNat : Int))) = (0 : Int))) x0.ready false (IntKind.wrap .i64 (((BitVec.ofInt 64 ((x2).fdiv (2 ^ (min ((1 : Int)).toNat 64))) &&& BitVec.ofInt 64 (3 : Int)).toNat : Int))) x0.words x0.addr x0.start x0.left, true))))
            .fail)
          (.leaf ((Disk.mk x0.drive (!decide ((IntKind.wrap .i64 (((BitVec.ofInt 64 x2 &&& BitVec.ofInt 64 (64 : Int)).toNat : Int))) = (0 : Int))) x0.ready x0.error x0.command x0.words x0.addr x0.start x0.left, true))))
        (.leaf ((Disk.mk x0.drive (!decide ((IntKind.wrap .i64 (((BitVec.ofInt 64 x2 &&& BitVec.ofInt 64 (64 : Int)).toNat : Int))) = (0 : Int))) x0.ready x0.error x0.command x0.words x0.addr x0.start x0.left, true))))
      (.ite (!x0.ready)
        (.leaf ((x0, true)))
        (.ite (decide (x1 = (2 : Int)))
          (.ite (decide (x1 = (4 : Int)))
            (.ite (decide (x1 = (6 : Int)))
              (.leaf ((Disk.mk x0.drive x0.enable x0.ready x0.error x0.command (IntKind.wrap .i64 (((BitVec.ofInt 64 x2 &&& BitVec.ofInt 64 (65535 : Int)).toNat : Int))) (IntKind.wrap .i64 (((BitVec.ofInt 64 x2 &&& BitVec.ofInt 64 (65534 : Int)).toNat : Int))) (IntKind.wrap .i64 (((BitVec.ofInt 64 x2 &&& BitVec.ofInt 64 (65535 : Int)).toNat : Int))) x0.left, true)))
              (.leaf ((Disk.mk x0.drive x0.enable x0.ready x0.error x0.command (IntKind.wrap .i64 (((BitVec.ofInt 64 x2 &&& BitVec.ofInt 64 (65535 : Int)).toNat : Int))) (IntKind.wrap .i64 (((BitVec.ofInt 64 x2 &&& BitVec.ofInt 64 (65534 : Int)).toNat : Int))) x0.start x0.left, true))))
            (.ite (decide (x1 = (6 : Int)))
              (.leaf ((Disk.mk x0.drive x0.enable x0.ready x0.error x0.command (IntKind.wrap .i64 (((BitVec.ofInt 64 x2 &&& BitVec.ofInt 64 (65535 : Int)).toNat : Int))) x0.addr (IntKind.wrap .i64 (((BitVec.ofInt 64 x2 &&& BitVec.ofInt 64 (65535 : Int)).toNat : Int))) x0.left, true)))
              (.leaf ((Disk.mk x0.drive x0.enable x0.ready x0.error x0.command (IntKind.wrap .i64 (((BitVec.ofInt 64 x2 &&& BitVec.ofInt 64 (65535 : Int)).toNat : Int))) x0.addr x0.start x0.left, true)))))
          (.ite (decide (x1 = (4 : Int)))
            (.ite (decide (x1 = (6 : Int)))
              (.leaf ((Disk.mk x0.drive x0.enable x0.ready x0.error x0.command x0.words (IntKind.wrap .i64 (((BitVec.ofInt 64 x2 &&& BitVec.ofInt 64 (65534 : Int)).toNat : Int))) (IntKind.wrap .i64 (((BitVec.ofInt 64 x2 &&& BitVec.ofInt 64 (65535 : Int)).toNat : Int))) x0.left, true)))
              (.leaf ((Disk.mk x0.drive x0.enable x0.ready x0.error x0.command x0.words (IntKind.wrap .i64 (((BitVec.ofInt 64 x2 &&& BitVec.ofInt 64 (65534 : Int)).toNat : Int))) x0.start x0.left, true))))
            (.ite (decide (x1 = (6 : Int)))
              (.leaf ((Disk.mk x0.drive x0.enable x0.ready x0.error x0.command x0.words x0.addr (IntKind.wrap .i64 (((BitVec.ofInt 64 x2 &&& BitVec.ofInt 64 (65535 : Int)).toNat : Int))) x0.left, true)))
              (.leaf ((x0, true))))))))
noncomputable def ref16_Write (x0 : Disk) (x1 : Int) (x2 : Int) : Option (Disk × Bool) := (Tref16_Write x0 x1 x2).run
noncomputable def Aref16_Write : Arg U (Disk × Int × Int × Unit) := aA cDisk (aO (cInt .i64) (aO (cInt .i64) (aNil)))
noncomputable def Rref16_Write (r : (Disk × Bool)) : List (V U) × List (Blk U) := ([vA cDisk r.1, vO cBool r.2], [])
noncomputable def Sref16_Write : List (V U) → List (Blk U) → Option (FnOut U) := mkSpec Aref16_Write bNil (fun x _ => ref16_Write x.1 x.2.1 x.2.2.1) Rref16_Write
noncomputable def Eref16_Write : Env U := { P := Try.prog, cd := cd, fns := fns93, lps := noL, frz := fun _r => false, nt := 72, n0 := 0 }
theorem runref16_Write (x : Disk × Int × Int × Unit) (g : Unit) : execF Eref16_Write Try.f94 (Aref16_Write.enc x) (bNil.enc g) = (Tref16_Write x.1 x.2.1 x.2.2.1).map Rref16_Write := by kernel_rfl
theorem okref16_Write : FnOk Try.prog cd 94 Sref16_Write := mk_ok (E := Eref16_Write) cd_ok fns93_ok Try.func94 (by kernel_rfl) (noLoops_body (by kernel_rfl)) (aA_ok cDisk_ok (aO_ok (cInt_ok .i64) (aO_ok (cInt_ok .i64) (aNil_ok)))) bNil_ok (T := fun x _ => Tref16_Write x.1 x.2.1 x.2.2.1) (fun _ _ => rfl) runref16_Write
noncomputable def fns94 := addF 94 true Sref16_Write fns93
theorem fns94_ok : ∀ f q t, fns94 f = some (q, t) → FnOk Try.prog cd f t := addF_ok okref16_Write fns93_ok
/-- emulator/emulatorref17.start -/
noncomputable def Tref17_start (x0 : Tape) (x1 : Int) : Tree Tape :=
  .ite (decide (x1 = (7 : Int)))
    (.ite (!decide ((0 : Int) = (0 : Int)))
      (.leaf (Tape.mk x0.records x0.pos x0.enable false false false false (0 : Int) x0.count x0.addr (16 : Int)))
      (.leaf (Tape.mk x0.records x0.pos x0.enable x0.ready false false false (0 : Int) x0.count x0.addr x0.left)))
    (.ite (!decide (x1 = (0 : Int)))
      (.leaf (Tape.mk x0.records x0.pos x0.enable false false false false x1 x0.count x0.addr (16 : Int)))
      (.leaf (Tape.mk x0.records x0.pos x0.enable x0.ready false false false x1 x0.count x0.addr x0.left)))
noncomputable def ref17_start (x0 : Tape) (x1 : Int) : Option Tape := (Tref17_start x0 x1).run
noncomputable def Aref17_start : Arg U (Tape × Int × Unit) := aA cTape (aO (cInt .i64) (aNil))
noncomputable def Rref17_start (r : Tape) : List (V U) × List (Blk U) := ([vA cTape r], [])
noncomputable def Sref17_start : List (V U) → List (Blk U) → Option (FnOut U) := mkSpec Aref17_start bNil (fun x _ => ref17_start x.1 x.2.1) Rref17_start
noncomputable def Eref17_start : Env U := { P := Try.prog, cd := cd, fns := fns94, lps := noL, frz := fun _r => false, nt := 19, n0 := 0 }
theorem runref17_start (x : Tape × Int × Unit) (g : Unit) : execF Eref17_start Try.f112 (Aref17_start.enc x) (bNil.enc g) = (Tref17_start x.1 x.2.1).map Rref17_start := by kernel_rfl
theorem okref17_start : FnOk Try.prog cd 112 Sref17_start := mk_ok (E := Eref17_start) cd_ok fns94_ok Try.func112 (by kernel_rfl) (noLoops_body (by kernel_rfl)) (aA_ok cTape_ok (aO_ok (cInt_ok .i64) (aNil_ok))) bNil_ok (T := fun x _ => Tref17_start x.1 x.2.1) (fun _ _ => rfl) runref17_start
noncomputable def fns112 := addF 112 true Sref17_start fns94
theorem fns112_ok : ∀ f q t, fns112 f = some (q, t) → FnOk Try.prog cd f t := addF_ok okref17_start fns94_ok
/-- emulator/emulatorref17.Write -/
noncomputable def Tref17_Write (x0 : Tape) (x1 : Int) (x2 : Int) : Tree (Tape × Bool) :=
  .ite (decide (x1 = (0 : Int)))
    (.ite (x0.ready)
      (.ite (!decide ((IntKind.wrap .i64 (((BitVec.ofInt 64 x2 &&& BitVec.ofInt 64 (1 : Int)).toNat : Int))) = (0 : Int)))
        (.ite (decide (0 ≤ (1 : Int)))
          (.opt Tape (ref17_start (Tape.mk x0.records x0.pos (!decide ((IntKind.wrap .i64 (((BitVec.ofInt 64 x2 &&& BitVec.ofInt 64 (64 : Int)).toNat : Int))) = (0 : Int))) x0.ready x0.error x0.mark x0.end_ x0.command x0.count x0.addr x0.left) (IntKind.wrap .i64 (((BitVec.ofInt 64 ((x2).fdiv (2 ^ (min ((1 : Int)).toNat 64))) &&& BitVec.ofInt 64 (7 : Int)).toNat : Int)))) fun r342 =>
            .leaf ((r342, true)))
          .fail)
        (.leaf ((Tape.mk x0.records x0.pos (!decide ((IntKind.wrap .i64 (((BitVec.ofInt 64 x2 &&& BitVec.ofInt 64 (64 : Int)).toNat : Int))) = (0 : Int))) x0.ready x0.error x0.mark x0.end_ x0.command x0.count x0.addr x0.left, true))))
      (.leaf ((Tape.mk x0.records x0.pos (!decide ((IntKind.wrap .i64 (((BitVec.ofInt 64 x2 &&& BitVec.ofInt 64 (64 : Int)).toNat : Int))) = (0 : Int))) x0.ready x0.error x0.mark x0.end_ x0.command x0.count x0.addr x0.left, true))))
    (.ite (decide (x1 = (2 : Int)))
      (.ite (x0.ready)
        (.leaf ((Tape.mk x0.records x0.pos x0.enable x0.ready x0.error x0.mark x0.end_ x0.command (IntKind.wrap .i64 (((BitVec.ofInt 64 x2 &&& BitVec.ofInt 64 (65535 : Int)).toNat : Int))) x0.addr x0.left, true)))
        (.leaf ((x0, true))))
      (.ite (decide (x1 = (4 : Int)))
        (.ite (x0.ready)
          (.leaf ((Tape.mk x0.records x0.pos x0.enable x0.ready x0.error x0.mark x0.end_ x0.command x0.count (IntKind.wrap .i64 (((BitVec.ofInt 64 x2 &&& BitVec.ofInt 64 (65535 : Int)).toNat : Int))) x0.left, true)))
          (.leaf ((x0, true))))
        (.leaf ((x0, false)))))
noncomputable def ref17_Write (x0 : Tape) (x1 : Int) (x2 : Int) : Option (Tape × Bool) := (Tref17_Write x0 x1 x2).run
noncomputable def Aref17_Write : Arg U (Tape × Int × Int × Unit) := aA cTape (aO (cInt .i64) (aO (cInt .i64) (aNil)))
noncomputable def Rref17_Write (r : (Tape × Bool)) : List (V U) × List (Blk U) := ([vA cTape r.1, vO cBool r.2], [])
noncomputable def Sref17_Write : List (V U) → List (Blk U) → Option (FnOut U) := mkSpec Aref17_Write bNil (fun x _ => ref17_Write x.1 x.2.1 x.2.2.1) Rref17_Write
noncomputable def Eref17_Write : Env U := { P := Try.prog, cd := cd, fns := fns112, lps := noL, frz := fun _r => false, nt := 45, n0 := 0 }
theorem runref17_Write (x : Tape × Int × Int × Unit) (g : Unit) : execF Eref17_Write Try.f95 (Aref17_Write.enc x) (bNil.enc g) = (Tref17_Write x.1 x.2.1 x.2.2.1).map Rref17_Write := by kernel_rfl
theorem okref17_Write : FnOk Try.prog cd 95 Sref17_Write := mk_ok (E := Eref17_Write) cd_ok fns112_ok Try.func95 (by kernel_rfl) (noLoops_body (by kernel_rfl)) (aA_ok cTape_ok (aO_ok (cInt_ok .i64) (aO_ok (cInt_ok .i64) (aNil_ok)))) bNil_ok (T := fun x _ => Tref17_Write x.1 x.2.1 x.2.2.1) (fun _ _ => rfl) runref17_Write
noncomputable def fns95 := addF 95 true Sref17_Write fns112
theorem fns95_ok : ∀ f q t, fns95 f = some (q, t) → FnOk Try.prog cd f t := addF_ok okref17_Write fns112_ok
/-- emulator/emulatorref09.word -/
noncomputable def Tref09_word (x0 : Int) : Tree Int :=
  .ite (decide ((65536 : Int) = 0))
    .fail
    (.ite (decide (((x0).tmod (65536 : Int)) < (0 : Int)))
      (.leaf (IntKind.wrap .i64 (((x0).tmod (65536 : Int)) + (65536 : Int))))
      (.leaf ((x0).tmod (65536 : Int))))
noncomputable def ref09_word (x0 : Int) : Option Int := (Tref09_word x0).run
noncomputable def Aref09_word : Arg U (Int × Unit) := aO (cInt .i64) (aNil)
noncomputable def Rref09_word (r : Int) : List (V U) × List (Blk U) := ([vO (cInt .i64) r], [])
noncomputable def Sref09_word : List (V U) → List (Blk U) → Option (FnOut U) := mkSpec Aref09_word bNil (fun x _ => ref09_word x.1) Rref09_word
noncomputable def Eref09_word : Env U := { P := Try.prog, cd := cd, fns := fns95, lps := noL, frz := fun _r => false, nt := 10, n0 := 0 }
theorem runref09_word (x : Int × Unit) (g : Unit) : execF Eref09_word Try.f113 (Aref09_word.enc x) (bNil.enc g) = (Tref09_word x.1).map Rref09_word := by kernel_rfl
theorem okref09_word : FnOk Try.prog cd 113 Sref09_word := mk_ok (E := Eref09_word) cd_ok fns95_ok Try.func113 (by kernel_rfl) (noLoops_body (by kernel_rfl)) (aO_ok (cInt_ok .i64) (aNil_ok)) bNil_ok (T := fun x _ => Tref09_word x.1) (fun _ _ => rfl) runref09_word
noncomputable def fns113 := addF 113 true Sref09_word fns95
theorem fns113_ok : ∀ f q t, fns113 f = some (q, t) → FnOk Try.prog cd f t := addF_ok okref09_word fns95_ok
/-- emulator/emulatorref09.Write -/
noncomputable def Tref09_Write (x0 : Mmu) (x1 : Int) (x2 : Int) : Tree (Mmu × Bool) :=
  .opt Int (ref09_word x2) fun r343 =>
    .ite (decide (x1 = (0 : Int)))
      (.ite (decide ((2 : Int) = 0))
        .fail
        (.ite (decide ((2 : Int) = 0))
          .fail
          (.ite (decide ((4 : Int) = 0))
            .fail
            (.leaf ((Mmu.mk (decide (((r343).tmod (2 : Int)) = (1 : Int))) x0.pages (((IntKind.wrap .i64 ((r343).tdiv (2 : Int)))).tmod (4 : Int)) x0.addr, true))))))
      (.ite (decide (x1 = (2 : Int)))
        (.leaf ((x0, true)))
        (.opt (Int × Int × Bool × Bool) (ref09_page x1) fun r344 =>
          .ite (!r344.2.2.2)
            (.leaf ((x0, false)))
            (.ite (!r344.2.2.1)
              (.ite (decide ((4096 : Int) = 0))
                .fail
                (.ite (decide (0 ≤ r344.1))
                  (.ite (decide (r344.1 < (2 : Int)))
                    (.ite (decide (0 ≤ r344.2.1))
                      (.ite (decide (r344.2.1 < (8 : Int)))
                        (.opt Page (x0.pages[(r344.1).toNat * 8 + (r344.2.1).toNat * 1]?) fun y345 =>
                          .leaf ((Mmu.mk x0.on (x0.pages.set ((r344.1).toNat * 8 + (r344.2.1).toNat * 1) (Page.mk ((r343).tmod (4096 : Int)) y345.length y345.access y345.written)) x0.status x0.addr, true)))
                        .fail)
                      .fail)
                    .fail)
                  .fail))
              (.ite (decide ((256 : Int) = 0))
                .fail
                (.ite (decide (0 ≤ r344.1))
                  (.ite (decide (r344.1 < (2 : Int)))
                    (.ite (decide (0 ≤ r344.2.1))
                      (.ite (decide (r344.2.1 < (8 : Int)))
                        (.opt Page (x0.pages[(r344.1).toNat * 8 + (r344.2.1).toNat * 1]?) fun y346 =>
                          .ite (decide ((256 : Int) = 0))
                            .fail
                            (.ite (decide ((4 : Int) = 0))
                              .fail
                              (.ite (decide (0 ≤ r344.1))
                                (.ite (decide (r344.1 < (2 : Int)))
                                  (.ite (decide (0 ≤ r344.2.1))
                                    (.ite (decide (r344.2.1 < (8 : Int)))
                                      (.opt Page ((x0.pages.set ((r344.1).toNat * 8 + (r344.2.1).toNat * 1) (Page.mk y346.base (if (128 : Int) < (r343).tmod (256 : Int) then (128 : Int) else (r343).tmod (256 : Int)) y346.access y346.written))[(r344.1).toNat * 8 + (r344.2.1).toNat * 1]?) fun y347 =>
                                        .ite (decide (0 ≤ r344.1))
                                          (.ite (decide (r344.1 < (2 : Int)))
                                            (.ite (decide (0 ≤ r344.2.1))
                                              (.ite (decide (r344.2.1 < (8 : Int)))
                                                (.opt Page (((x0.pages.set ((r344.1).toNat * 8 + (r344.2.1).toNat * 1) (Page.mk y346.base (if (128 : Int) < (r343).tmod (256 : Int) then (128 : Int) else (r343).tmod (256 : Int)) y346.access y346.written)).set ((r344.1).toNat * 8 + (r344.2.1).toNat * 1) (Page.mk y347.base y347.length (if (2 : Int) < ((IntKind.wrap .i64 ((r343).tdiv (256 : Int)))).tmod (4 : Int) then (2 : Int) else ((IntKind.wrap .i64 ((r343).tdiv (256 : Int)))).tmod (4 : Int)) y347.written))[(r344.1).toNat * 8 + (r344.2.1).toNat * 1]?) fun y348 =>
                                                  .leaf ((Mmu.mk x0.on (((x0.pages.set ((r344.1).toNat * 8 + (r344.2.1).toNat * 1) (Page.mk y346.base (if (128 : Int) < (r343).tmod (256 : Int) then (128 : Int) else (r343).tmod (256 : Int)) y346.access y346.written)).set ((r344.1).toNat * 8 + (r344.2.1).toNat * 1) (Page.mk y347.base y347.length (if (2 : Int) < ((IntKind.wrap .i64 ((r343).tdiv (256 : Int)))).tmod (4 : Int) then (2 : Int) else ((IntKind.wrap .i64 ((r343).tdiv (256 : Int)))).tmod (4 : Int)) y347.written)).set ((r344.1).toNat * 8 + (r344.2.1).toNat * 1) (Page.mk y348.base y348.length y348.access false)) x0.status x0.addr, true)))
                                                .fail)
                                              .fail)
                                            .fail)
                                          .fail)
                                      .fail)
                                    .fail)
                                  .fail)
                                .fail)))
                        .fail)
                      .fail)
                    .fail)
                  .fail)))))
noncomputable def ref09_Write (x0 : Mmu) (x1 : Int) (x2 : Int) : Option (Mmu × Bool) := (Tref09_Write x0 x1 x2).run
noncomputable def Aref09_Write : Arg U (Mmu × Int × Int × Unit) := aA cMmu (aO (cInt .i64) (aO (cInt .i64) (aNil)))
noncomputable def Rref09_Write (r : (Mmu × Bool)) : List (V U) × List (Blk U) := ([vA cMmu r.1, vO cBool r.2], [])
noncomputable def Sref09_Write : List (V U) → List (Blk U) → Option (FnOut U) := mkSpec Aref09_Write bNil (fun x _ => ref09_Write x.1 x.2.1 x.2.2.1) Rref09_Write
noncomputable def Eref09_Write : Env U := { P := Try.prog, cd := cd, fns := fns113, lps := noL, frz := fun _r => false, nt := 76, n0 := 0 }
theorem runref09_Write (x : Mmu × Int × Int × Unit) (g : Unit) : execF Eref09_Write Try.f96 (Aref09_Write.enc x) (bNil.enc g) = (Tref09_Write x.1 x.2.1 x.2.2.1).map Rref09_Write := by kernel_rfl
theorem okref09_Write : FnOk Try.prog cd 96 Sref09_Write := mk_ok (E := Eref09_Write) cd_ok fns113_ok Try.func96 (by kernel_rfl) (noLoops_body (by kernel_rfl)) (aA_ok cMmu_ok (aO_ok (cInt_ok .i64) (aO_ok (cInt_ok .i64) (aNil_ok)))) bNil_ok (T := fun x _ => Tref09_Write x.1 x.2.1 x.2.2.1) (fun _ _ => rfl) runref09_Write
noncomputable def fns96 := addF 96 true Sref09_Write fns113
theorem fns96_ok : ∀ f q t, fns96 f = some (q, t) → FnOk Try.prog cd f t := addF_ok okref09_Write fns113_ok
/-- emulator/emulatorref18.writeReg -/
noncomputable def Tref18_writeReg (x0 : Machine) (x1 : Int) (x2 : Int) : Tree (Machine × Bool) :=
  .opt Bool (ref18_isLine x0 x1) fun r349 =>
    .ite (r349)
      (.ite (decide ((8 : Int) = 0))
        .fail
        (.ite (decide (0 ≤ IntKind.wrap .i64 (((IntKind.wrap .i64 (x1 - (512 : Int)))).tdiv (8 : Int))))
          (.opt Line (x0.lines[(IntKind.wrap .i64 (((IntKind.wrap .i64 (x1 - (512 : Int)))).tdiv (8 : Int))).toNat]?) fun y350 =>
            .ite (decide ((8 : Int) = 0))
              .fail
              (.opt Line (ref14_Write y350 (((IntKind.wrap .i64 (x1 - (512 : Int)))).tmod (8 : Int)) x2) fun r351 =>
                .opt Machine (ref18_withLine x0 (IntKind.wrap .i64 (((IntKind.wrap .i64 (x1 - (512 : Int)))).tdiv (8 : Int))) r351) fun r352 =>
                  .leaf ((r352, true))))
          .fail))
      (.ite (decide (x1 = (256 : Int)))
        (.opt Clock (ref13_Write x0.clock x2) fun r353 =>
          .leaf ((Machine.mk x0.cpu x0.mem x0.bad x0.mmu r353 x0.lines x0.disk x0.tape x0.now x0.halted x0.waiting x0.power x0.powerTrap, true)))
        (.ite (decide ((768 : Int) ≤ x1))
          (.ite (decide (x1 ≤ (774 : Int)))
            (.opt (Disk × Bool) (ref16_Write x0.disk (IntKind.wrap .i64 (x1 - (768 : Int))) x2) fun r354 =>
              .leaf ((Machine.mk x0.cpu x0.mem x0.bad x0.mmu x0.clock x0.lines r354.1 x0.tape x0.now x0.halted x0.waiting x0.power x0.powerTrap, r354.2)))
            (.ite (decide ((800 : Int) ≤ x1))
              (.ite (decide (x1 ≤ (804 : Int)))
                (.opt (Tape × Bool) (ref17_Write x0.tape (IntKind.wrap .i64 (x1 - (800 : Int))) x2) fun r355 =>
                  .leaf ((Machine.mk x0.cpu x0.mem x0.bad x0.mmu x0.clock x0.lines x0.disk r355.1 x0.now x0.halted x0.waiting x0.power x0.powerTrap, r355.2)))
                (.opt (Mmu × Bool) (ref09_Write x0.mmu x1 x2) fun r356 =>
                  .leaf ((Machine.mk x0.cpu x0.mem x0.bad r356.1 x0.clock x0.lines x0.disk x0.tape x0.now x0.halted x0.waiting x0.power x0.powerTrap, r356.2))))
              (.opt (Mmu × Bool) (ref09_Write x0.mmu x1 x2) fun r357 =>
                .leaf ((Machine.mk x0.cpu x0.mem x0.bad r357.1 x0.clock x0.lines x0.disk x0.tape x0.now x0.halted x0.waiting x0.power x0.powerTrap, r357.2)))))
          (.ite (decide ((800 : Int) ≤ x1))
            (.ite (decide (x1 ≤ (804 : Int)))
              (.opt (Tape × Bool) (ref17_Write x0.tape (IntKind.wrap .i64 (x1 - (800 : Int))) x2) fun r358 =>
                .leaf ((Machine.mk x0.cpu x0.mem x0.bad x0.mmu x0.clock x0.lines x0.disk r358.1 x0.now x0.halted x0.waiting x0.power x0.powerTrap, r358.2)))
              (.opt (Mmu × Bool) (ref09_Write x0.mmu x1 x2) fun r359 =>
                .leaf ((Machine.mk x0.cpu x0.mem x0.bad r359.1 x0.clock x0.lines x0.disk x0.tape x0.now x0.halted x0.waiting x0.power x0.powerTrap, r359.2))))
            (.opt (Mmu × Bool) (ref09_Write x0.mmu x1 x2) fun r360 =>
              .leaf ((Machine.mk x0.cpu x0.mem x0.bad r360.1 x0.clock x0.lines x0.disk x0.tape x0.now x0.halted x0.waiting x0.power x0.powerTrap, r360.2))))))
noncomputable def ref18_writeReg (x0 : Machine) (x1 : Int) (x2 : Int) : Option (Machine × Bool) := (Tref18_writeReg x0 x1 x2).run
noncomputable def Aref18_writeReg : Arg U (Machine × Int × Int × Unit) := aA cMachine (aO (cInt .i64) (aO (cInt .i64) (aNil)))
noncomputable def Rref18_writeReg (r : (Machine × Bool)) : List (V U) × List (Blk U) := ([vA cMachine r.1, vO cBool r.2], [])
noncomputable def Sref18_writeReg : List (V U) → List (Blk U) → Option (FnOut U) := mkSpec Aref18_writeReg bNil (fun x _ => ref18_writeReg x.1 x.2.1 x.2.2.1) Rref18_writeReg
noncomputable def Eref18_writeReg : Env U := { P := Try.prog, cd := cd, fns := fns96, lps := noL, frz := fun _r => false, nt := 92, n0 := 0 }
theorem runref18_writeReg (x : Machine × Int × Int × Unit) (g : Unit) : execF Eref18_writeReg Try.f39 (Aref18_writeReg.enc x) (bNil.enc g) = (Tref18_writeReg x.1 x.2.1 x.2.2.1).map Rref18_writeReg := by kernel_rfl
theorem okref18_writeReg : FnOk Try.prog cd 39 Sref18_writeReg := mk_ok (E := Eref18_writeReg) cd_ok fns96_ok Try.func39 (by kernel_rfl) (noLoops_body (by kernel_rfl)) (aA_ok cMachine_ok (aO_ok (cInt_ok .i64) (aO_ok (cInt_ok .i64) (aNil_ok)))) bNil_ok (T := fun x _ => Tref18_writeReg x.1 x.2.1 x.2.2.1) (fun _ _ => rfl) runref18_writeReg
noncomputable def fns39 := addF 39 true Sref18_writeReg fns96
theorem fns39_ok : ∀ f q t, fns39 f = some (q, t) → FnOk Try.prog cd f t := addF_ok okref18_writeReg fns96_ok
/-- emulator/emulatorref18.Write -/
noncomputable def Tref18_Write (q : Option Nat) (x0 : Machine) (x1 : Int) (x2 : Bool) (x3 : Int) : Tree (Machine × Int) :=
  .opt Int (ref18_Physical x1) fun r361 =>
    .ite (decide (r361 < (253952 : Int)))
      (.opt Int (ref18_low x3 x2) fun r362 =>
        .opt ((List Int) × (List Int) × Int) (ref08_Write q x0.mem x0.bad r361 x2 r362) fun r363 =>
          .ite (!decide (r363.2.2 = (0 : Int)))
            (.leaf ((x0, r363.2.2)))
            (.leaf ((Machine.mk x0.cpu r363.1 r363.2.1 x0.mmu x0.clock x0.lines x0.disk x0.tape x0.now x0.halted x0.waiting x0.power x0.powerTrap, (0 : Int)))))
      (.ite (decide ((2 : Int) = 0))
        .fail
        (.ite (decide ((((IntKind.wrap .i64 (r361 - (253952 : Int)))).tmod (2 : Int)) = (1 : Int)))
          (.leaf ((x0, (1 : Int))))
          (.opt Int (ref18_low x3 x2) fun r364 =>
            .opt (Machine × Bool) (ref18_writeReg x0 (IntKind.wrap .i64 (r361 - (253952 : Int))) r364) fun r365 =>
              .ite (!r365.2)
                (.leaf ((x0, (1 : Int))))
                (.leaf ((r365.1, (0 : Int)))))))
noncomputable def ref18_Write (q : Option Nat) (x0 : Machine) (x1 : Int) (x2 : Bool) (x3 : Int) : Option (Machine × Int) := (Tref18_Write q x0 x1 x2 x3).run
theorem leref18_Write (k : Nat) (x0 : Machine) (x1 : Int) (x2 : Bool) (x3 : Int) : Le (ref18_Write (some k) x0 x1 x2 x3) (ref18_Write none x0 x1 x2 x3) := (TLe.opt Le.rfl fun _ => (TLe.ite (TLe.opt Le.rfl fun _ => (TLe.opt (leref08_Write k _ _ _ _ _) fun _ => TLe.rfl)) TLe.rfl))
noncomputable def Aref18_Write : Arg U (Machine × Int × Bool × Int × Unit) := aA cMachine (aO (cInt .i64) (aO cBool (aO (cInt .i64) (aNil))))
noncomputable def Rref18_Write (r : (Machine × Int)) : List (V U) × List (Blk U) := ([vA cMachine r.1, vO (cInt .i64) r.2], [])
noncomputable def Sref18_Write : List (V U) → List (Blk U) → Option (FnOut U) := mkSpec Aref18_Write bNil (fun x _ => ref18_Write none x.1 x.2.1 x.2.2.1 x.2.2.2.1) Rref18_Write
noncomputable def Eref18_Write : Env U := { P := Try.prog, cd := cd, fns := fns39, lps := noL, frz := fun _r => false, nt := 63, n0 := 0 }
theorem runref18_Write (x : Machine × Int × Bool × Int × Unit) (g : Unit) : execF Eref18_Write Try.f15 (Aref18_Write.enc x) (bNil.enc g) = (Tref18_Write none x.1 x.2.1 x.2.2.1 x.2.2.2.1).map Rref18_Write := by kernel_rfl
theorem okref18_Write : FnOk Try.prog cd 15 Sref18_Write := mk_ok (E := Eref18_Write) cd_ok fns39_ok Try.func15 (by kernel_rfl) (noLoops_body (by kernel_rfl)) (aA_ok cMachine_ok (aO_ok (cInt_ok .i64) (aO_ok cBool_ok (aO_ok (cInt_ok .i64) (aNil_ok))))) bNil_ok (T := fun x _ => Tref18_Write none x.1 x.2.1 x.2.2.1 x.2.2.2.1) (fun _ _ => rfl) runref18_Write
noncomputable def fns15 := addF 15 true Sref18_Write fns39
theorem fns15_ok : ∀ f q t, fns15 f = some (q, t) → FnOk Try.prog cd f t := addF_ok okref18_Write fns39_ok
/-- emulator/emulatorlaw18.BusWrites -/
noncomputable def Tlaw18_BusWrites (q : Option Nat) (x0 : Machine) (x1 : Access) : Tree Bool :=
  .opt Bool (law18_Small q x0) fun r366 =>
    .ite (!r366)
      (.opt Bool (law18_alive q) fun r368 =>
        .leaf (r368))
      (.opt Bool (ref18_Right q x0) fun r367 =>
        .ite (!r367)
          (.opt Bool (law18_alive q) fun r369 =>
            .leaf (r369))
          (.opt (Machine × Int) (bus_Write q x0 x1.phys x1.byte x1.v) fun r370 =>
            .opt (Machine × Int) (ref18_Write q x0 x1.phys x1.byte x1.v) fun r371 =>
              .opt Bool (law18_alive q) fun r372 =>
                .ite (r372)
                  (.opt Bool (ref23_Same q r370.1 r371.1) fun r373 =>
                    .ite (r373)
                      (.ite (decide (r370.2 = r371.2))
                        (.opt Bool (bus_Right q r370.1) fun r374 =>
                          .leaf (r374))
                        (.leaf (false)))
                      (.leaf (false)))
                  (.leaf (false))))
noncomputable def law18_BusWrites (q : Option Nat) (x0 : Machine) (x1 : Access) : Option Bool := (Tlaw18_BusWrites q x0 x1).run
theorem lelaw18_BusWrites (k : Nat) (x0 : Machine) (x1 : Access) : Le (law18_BusWrites (some k) x0 x1) (law18_BusWrites none x0 x1) := (TLe.opt (lelaw18_Small k _) fun _ => (TLe.ite (TLe.opt (lelaw18_alive k) fun _ => TLe.rfl) (TLe.opt (leref18_Right k _) fun _ => (TLe.ite (TLe.opt (lelaw18_alive k) fun _ => TLe.rfl) (TLe.opt (lebus_Write k _ _ _ _) fun _ => (TLe.opt (leref18_Write k _ _ _ _) fun _ => (TLe.opt (lelaw18_alive k) fun _ => (TLe.ite (TLe.opt (leref23_Same k _ _) fun _ => (TLe.ite (TLe.ite (TLe.opt (lebus_Right k _) fun _ => TLe.rfl) TLe.rfl) TLe.rfl)) TLe.rfl))))))))
noncomputable def Alaw18_BusWrites : Arg U (Machine × Access × Unit) := aA cMachine (aA cAccess (aNil))
noncomputable def Rlaw18_BusWrites (r : Bool) : List (V U) × List (Blk U) := ([vO cBool r], [])
noncomputable def Slaw18_BusWrites : List (V U) → List (Blk U) → Option (FnOut U) := mkSpec Alaw18_BusWrites bNil (fun x _ => law18_BusWrites none x.1 x.2.1) Rlaw18_BusWrites
noncomputable def Elaw18_BusWrites : Env U := { P := Try.prog, cd := cd, fns := fns15, lps := noL, frz := fun _r => false, nt := 55, n0 := 0 }
theorem runlaw18_BusWrites (x : Machine × Access × Unit) (g : Unit) : execF Elaw18_BusWrites Try.f6 (Alaw18_BusWrites.enc x) (bNil.enc g) = (Tlaw18_BusWrites none x.1 x.2.1).map Rlaw18_BusWrites := by kernel_rfl
theorem oklaw18_BusWrites : FnOk Try.prog cd 6 Slaw18_BusWrites := mk_ok (E := Elaw18_BusWrites) cd_ok fns15_ok Try.func6 (by kernel_rfl) (noLoops_body (by kernel_rfl)) (aA_ok cMachine_ok (aA_ok cAccess_ok (aNil_ok))) bNil_ok (T := fun x _ => Tlaw18_BusWrites none x.1 x.2.1) (fun _ _ => rfl) runlaw18_BusWrites
noncomputable def fns6 := addF 6 true Slaw18_BusWrites fns15
theorem fns6_ok : ∀ f q t, fns6 f = some (q, t) → FnOk Try.prog cd f t := addF_ok oklaw18_BusWrites fns15_ok
end Go.Proofs.Ytfdndagnolbnhaa
