/- (goes on) -/
import Derived.Test.YtfdndagnolbnhaaGreatXAbA18xp0
set_option linter.unusedSimpArgs false
namespace Go.Proofs.YtfdndagnolbnhaaGreat
open Go Go.Ab
/-- emulator/emulatorref08.Same -/
structure Sref08_Same_0 where
  t0 : (List Int)
  t1 : (List Int)
  t5 : Int
noncomputable def Wref08_Same_0 (s : Sref08_Same_0) : Tree (Sref08_Same_0 ⊕ (Bool ⊕ Unit)) :=
  .ite (decide (s.t5 < (s.t0.length : Int)))
    (.ite (decide (0 ≤ s.t5))
      (.opt Int (s.t0[(s.t5).toNat]?) fun y179 =>
        .ite (decide (0 ≤ s.t5))
          (.opt Int (s.t1[(s.t5).toNat]?) fun y180 =>
            .ite (!decide (y179 = y180))
              (.leaf (.inr (.inl false)))
              (.leaf (.inl (Sref08_Same_0.mk s.t0 s.t1 (IntKind.wrap .i64 (s.t5 + (1 : Int)))))))
          .fail)
      .fail)
    (.leaf (.inr (.inr ())))
noncomputable def Lref08_Same_0 (q : Option Nat) (s : Sref08_Same_0) : Option (Bool ⊕ Unit) := limQ q (fun s => (Wref08_Same_0 s).run) s
noncomputable def Tref08_Same (q : Option Nat) (x0 : (List Int)) (x1 : (List Int)) : Tree Bool :=
  .ite (!decide ((x0.length : Int) = (x1.length : Int)))
    (.leaf (false))
    (.opt (Bool ⊕ Unit) (Lref08_Same_0 q (Sref08_Same_0.mk x0 x1 (0 : Int))) fun l181 =>
      .ite (l181.isLeft)
        (.opt Bool (l181.getLeft?) fun a182 =>
          .leaf (a182))
        (.opt Unit (l181.getRight?) fun b183 =>
          .leaf (true)))
noncomputable def ref08_Same (q : Option Nat) (x0 : (List Int)) (x1 : (List Int)) : Option Bool := (Tref08_Same q x0 x1).run
noncomputable def Aref08_Same : Arg U ((List Int) × (List Int) × Unit) := aO (cSl 3) (aO (cSl 3) (aNil))
noncomputable def Rref08_Same (r : Bool) : List (V U) × List (Blk U) := ([vO cBool r], [])
noncomputable def Sref08_Same : List (V U) → List (Blk U) → Option (FnOut U) := mkSpec Aref08_Same bNil (fun x _ => ref08_Same none x.1 x.2.1) Rref08_Same
noncomputable def Pref08_Same_0 (x : ((List Int) × Unit) × ((List Int) × Unit) × (Int × Unit) × Unit) (_g : Unit) : Sref08_Same_0 := Sref08_Same_0.mk x.1.1 x.2.1.1 x.2.2.1.1
noncomputable def tAref08_Same_0 : Tms U (((List Int) × Unit) × ((List Int) × Unit) × (Int × Unit) × Unit) := tO 0 (cPair (cSl 3) (cUnit)) (tO 1 (cPair (cSl 3) (cUnit)) (tO 5 (cPair (cInt .i64) (cUnit)) (tNil)))
noncomputable def tBref08_Same_0 : Bls U (Unit) := bNil
noncomputable def eSref08_Same_0 (s : Sref08_Same_0) : St U := { tm := [(0, .v (vO (cPair (cSl 3) (cUnit)) (s.t0, ()))), (1, .v (vO (cPair (cSl 3) (cUnit)) (s.t1, ()))), (5, .v (vO (cPair (cInt .i64) (cUnit)) (s.t5, ())))], hp := [] }
noncomputable def xSref08_Same_0 : (Bool ⊕ Unit) → Ex × St U
  | .inl r => (.ret, { tm := [(4, .v (vO (cPair cBool (cUnit)) (r, ())))], hp := [] })
  | .inr r => (.exit 0, { tm := [], hp := [] })
noncomputable def xTref08_Same_0 (y : (Bool ⊕ Unit)) : Tree (Ex × St U) := .ite y.isLeft (.opt Bool y.getLeft? fun r => .leaf (.ret, { tm := [(4, .v (vO (cPair cBool (cUnit)) (r, ())))], hp := [] })) (.opt Unit y.getRight? fun r => .leaf (.exit 0, { tm := [], hp := [] }))
noncomputable def href08_Same_0 : Hd := { keep := [0, 1, 5], xkeep := [4], own := false }
noncomputable def Eref08_Same : Env U := { P := Tryz.prog, cd := cd, fns := fns7, lps := (addL 0 href08_Same_0 (mkLoop tAref08_Same_0 tBref08_Same_0 Pref08_Same_0 (Lref08_Same_0 none) xTref08_Same_0) noL), frz := fun _r => false, nt := 26, n0 := 0 }
noncomputable def Bref08_Same_0 : Code := (loopAt (Tryz.f85.body.getD .skip) 0 0).getD .skip
theorem roundref08_Same_0 (s : Sref08_Same_0) : round Eref08_Same href08_Same_0 Bref08_Same_0 0 (eSref08_Same_0 s) = (Wref08_Same_0 s).map (sumE eSref08_Same_0 xSref08_Same_0) := by kernel_rfl
theorem lpref08_Same_0 : LpOk Eref08_Same Bref08_Same_0 0 := mkLoop_ok (A := tAref08_Same_0) (B := tBref08_Same_0) (f := Pref08_Same_0) (L := Lref08_Same_0 none) (tO_ok (cPair_ok (cSl_ok 3) cUnit_ok) (tO_ok (cPair_ok (cSl_ok 3) cUnit_ok) (tO_ok (cPair_ok (cInt_ok .i64) cUnit_ok) tNil_ok))) bNil_ok (enc := eSref08_Same_0) (out := xTref08_Same_0) (outS := xSref08_Same_0) (step := Wref08_Same_0) (fun _ => rfl) (fun _ _ => by kernel_rfl) (by kernel_rfl) (fun b => by cases b <;> rfl) roundref08_Same_0
theorem runref08_Same (x : (List Int) × (List Int) × Unit) (g : Unit) : execF Eref08_Same Tryz.f85 (Aref08_Same.enc x) (bNil.enc g) = (Tref08_Same none x.1 x.2.1).map Rref08_Same := by kernel_rfl
theorem okref08_Same : FnOk Tryz.prog cd 85 Sref08_Same := mk_ok (E := Eref08_Same) cd_ok fns7_ok Tryz.func85 (by kernel_rfl) (loops_of (addL_ok lpref08_Same_0 noL_ok)) (aO_ok (cSl_ok 3) (aO_ok (cSl_ok 3) (aNil_ok))) bNil_ok (T := fun x _ => Tref08_Same none x.1 x.2.1) (fun _ _ => rfl) runref08_Same
noncomputable def fns85 := addF 85 true Sref08_Same fns7
theorem fns85_ok : ∀ f q t, fns85 f = some (q, t) → FnOk Tryz.prog cd f t := addF_ok okref08_Same fns7_ok
/-- emulator/emulatorref23.SameLines -/
structure Sref23_SameLines_0 where
  t0 : (List Line)
  t1 : (List Line)
  t5 : Int
noncomputable def Wref23_SameLines_0 (s : Sref23_SameLines_0) : Tree (Sref23_SameLines_0 ⊕ (Bool ⊕ Unit)) :=
  .ite (decide (s.t5 < (s.t0.length : Int)))
    (.ite (decide (0 ≤ s.t5))
      (.opt Line (s.t0[(s.t5).toNat]?) fun y184 =>
        .ite (decide (0 ≤ s.t5))
          (.opt Line (s.t1[(s.t5).toNat]?) fun y185 =>
            .ite (!((y184.rxEnable == y185.rxEnable) && ((y184.rxReady == y185.rxReady) && ((y184.overrun == y185.overrun) && ((decide (y184.rxData = y185.rxData)) && ((y184.txEnable == y185.txEnable) && ((y184.txReady == y185.txReady) && ((decide (y184.txData = y185.txData)) && ((decide (y184.txLeft = y185.txLeft)) && (decide (y184.out = y185.out)))))))))))
              (.leaf (.inr (.inl false)))
              (.leaf (.inl (Sref23_SameLines_0.mk s.t0 s.t1 (IntKind.wrap .i64 (s.t5 + (1 : Int)))))))
          .fail)
      .fail)
    (.leaf (.inr (.inr ())))
noncomputable def Lref23_SameLines_0 (q : Option Nat) (s : Sref23_SameLines_0) : Option (Bool ⊕ Unit) := limQ q (fun s => (Wref23_SameLines_0 s).run) s
noncomputable def Tref23_SameLines (q : Option Nat) (x0 : (List Line)) (x1 : (List Line)) : Tree Bool :=
  .ite (!decide ((x0.length : Int) = (x1.length : Int)))
    (.leaf (false))
    (.opt (Bool ⊕ Unit) (Lref23_SameLines_0 q (Sref23_SameLines_0.mk x0 x1 (0 : Int))) fun l186 =>
      .ite (l186.isLeft)
        (.opt Bool (l186.getLeft?) fun a187 =>
          .leaf (a187))
        (.opt Unit (l186.getRight?) fun b188 =>
          .leaf (true)))
noncomputable def ref23_SameLines (q : Option Nat) (x0 : (List Line)) (x1 : (List Line)) : Option Bool := (Tref23_SameLines q x0 x1).run
noncomputable def Aref23_SameLines : Arg U ((List Line) × (List Line) × Unit) := aO (cSl 55) (aO (cSl 55) (aNil))
noncomputable def Rref23_SameLines (r : Bool) : List (V U) × List (Blk U) := ([vO cBool r], [])
noncomputable def Sref23_SameLines : List (V U) → List (Blk U) → Option (FnOut U) := mkSpec Aref23_SameLines bNil (fun x _ => ref23_SameLines none x.1 x.2.1) Rref23_SameLines
noncomputable def Pref23_SameLines_0 (x : ((List Line) × Unit) × ((List Line) × Unit) × (Int × Unit) × Unit) (_g : Unit) : Sref23_SameLines_0 := Sref23_SameLines_0.mk x.1.1 x.2.1.1 x.2.2.1.1
noncomputable def tAref23_SameLines_0 : Tms U (((List Line) × Unit) × ((List Line) × Unit) × (Int × Unit) × Unit) := tO 0 (cPair (cSl 55) (cUnit)) (tO 1 (cPair (cSl 55) (cUnit)) (tO 5 (cPair (cInt .i64) (cUnit)) (tNil)))
noncomputable def tBref23_SameLines_0 : Bls U (Unit) := bNil
noncomputable def eSref23_SameLines_0 (s : Sref23_SameLines_0) : St U := { tm := [(0, .v (vO (cPair (cSl 55) (cUnit)) (s.t0, ()))), (1, .v (vO (cPair (cSl 55) (cUnit)) (s.t1, ()))), (5, .v (vO (cPair (cInt .i64) (cUnit)) (s.t5, ())))], hp := [] }
noncomputable def xSref23_SameLines_0 : (Bool ⊕ Unit) → Ex × St U
  | .inl r => (.ret, { tm := [(4, .v (vO (cPair cBool (cUnit)) (r, ())))], hp := [] })
  | .inr r => (.exit 0, { tm := [], hp := [] })
noncomputable def xTref23_SameLines_0 (y : (Bool ⊕ Unit)) : Tree (Ex × St U) := .ite y.isLeft (.opt Bool y.getLeft? fun r => .leaf (.ret, { tm := [(4, .v (vO (cPair cBool (cUnit)) (r, ())))], hp := [] })) (.opt Unit y.getRight? fun r => .leaf (.exit 0, { tm := [], hp := [] }))
noncomputable def href23_SameLines_0 : Hd := { keep := [0, 1, 5], xkeep := [4], own := false }
noncomputable def Eref23_SameLines : Env U := { P := Tryz.prog, cd := cd, fns := fns85, lps := (addL 0 href23_SameLines_0 (mkLoop tAref23_SameLines_0 tBref23_SameLines_0 Pref23_SameLines_0 (Lref23_SameLines_0 none) xTref23_SameLines_0) noL), frz := fun _r => false, nt := 26, n0 := 0 }
noncomputable def Bref23_SameLines_0 : Code := (loopAt (Tryz.f86.body.getD .skip) 0 0).getD .skip
theorem roundref23_SameLines_0 (s : Sref23_SameLines_0) : round Eref23_SameLines href23_SameLines_0 Bref23_SameLines_0 0 (eSref23_SameLines_0 s) = (Wref23_SameLines_0 s).map (sumE eSref23_SameLines_0 xSref23_SameLines_0) := by kernel_rfl
theorem lpref23_SameLines_0 : LpOk Eref23_SameLines Bref23_SameLines_0 0 := mkLoop_ok (A := tAref23_SameLines_0) (B := tBref23_SameLines_0) (f := Pref23_SameLines_0) (L := Lref23_SameLines_0 none) (tO_ok (cPair_ok (cSl_ok 55) cUnit_ok) (tO_ok (cPair_ok (cSl_ok 55) cUnit_ok) (tO_ok (cPair_ok (cInt_ok .i64) cUnit_ok) tNil_ok))) bNil_ok (enc := eSref23_SameLines_0) (out := xTref23_SameLines_0) (outS := xSref23_SameLines_0) (step := Wref23_SameLines_0) (fun _ => rfl) (fun _ _ => by kernel_rfl) (by kernel_rfl) (fun b => by cases b <;> rfl) roundref23_SameLines_0
theorem runref23_SameLines (x : (List Line) × (List Line) × Unit) (g : Unit) : execF Eref23_SameLines Tryz.f86 (Aref23_SameLines.enc x) (bNil.enc g) = (Tref23_SameLines none x.1 x.2.1).map Rref23_SameLines := by kernel_rfl
theorem okref23_SameLines : FnOk Tryz.prog cd 86 Sref23_SameLines := mk_ok (E := Eref23_SameLines) cd_ok fns85_ok Tryz.func86 (by kernel_rfl) (loops_of (addL_ok lpref23_SameLines_0 noL_ok)) (aO_ok (cSl_ok 55) (aO_ok (cSl_ok 55) (aNil_ok))) bNil_ok (T := fun x _ => Tref23_SameLines none x.1 x.2.1) (fun _ _ => rfl) runref23_SameLines
noncomputable def fns86 := addF 86 true Sref23_SameLines fns85
theorem fns86_ok : ∀ f q t, fns86 f = some (q, t) → FnOk Tryz.prog cd f t := addF_ok okref23_SameLines fns85_ok
/-- emulator/emulatorref17.SameTexts -/
structure Sref17_SameTexts_0 where
  t0 : (List (List UInt8))
  t1 : (List (List UInt8))
  t5 : Int
noncomputable def Wref17_SameTexts_0 (s : Sref17_SameTexts_0) : Tree (Sref17_SameTexts_0 ⊕ (Bool ⊕ Unit)) :=
  .ite (decide (s.t5 < (s.t0.length : Int)))
    (.ite (decide (0 ≤ s.t5))
      (.opt (List UInt8) (s.t0[(s.t5).toNat]?) fun y189 =>
        .ite (decide (0 ≤ s.t5))
          (.opt (List UInt8) (s.t1[(s.t5).toNat]?) fun y190 =>
            .ite (!decide (y189 = y190))
              (.leaf (.inr (.inl false)))
              (.leaf (.inl (Sref17_SameTexts_0.mk s.t0 s.t1 (IntKind.wrap .i64 (s.t5 + (1 : Int)))))))
          .fail)
      .fail)
    (.leaf (.inr (.inr ())))
noncomputable def Lref17_SameTexts_0 (q : Option Nat) (s : Sref17_SameTexts_0) : Option (Bool ⊕ Unit) := limQ q (fun s => (Wref17_SameTexts_0 s).run) s
noncomputable def Tref17_SameTexts (q : Option Nat) (x0 : (List (List UInt8))) (x1 : (List (List UInt8))) : Tree Bool :=
  .ite (!decide ((x0.length : Int) = (x1.length : Int)))
    (.leaf (false))
    (.opt (Bool ⊕ Unit) (Lref17_SameTexts_0 q (Sref17_SameTexts_0.mk x0 x1 (0 : Int))) fun l191 =>
      .ite (l191.isLeft)
        (.opt Bool (l191.getLeft?) fun a192 =>
          .leaf (a192))
        (.opt Unit (l191.getRight?) fun b193 =>
          .leaf (true)))
noncomputable def ref17_SameTexts (q : Option Nat) (x0 : (List (List UInt8))) (x1 : (List (List UInt8))) : Option Bool := (Tref17_SameTexts q x0 x1).run
noncomputable def Aref17_SameTexts : Arg U ((List (List UInt8)) × (List (List UInt8)) × Unit) := aO (cSl 9) (aO (cSl 9) (aNil))
noncomputable def Rref17_SameTexts (r : Bool) : List (V U) × List (Blk U) := ([vO cBool r], [])
noncomputable def Sref17_SameTexts : List (V U) → List (Blk U) → Option (FnOut U) := mkSpec Aref17_SameTexts bNil (fun x _ => ref17_SameTexts none x.1 x.2.1) Rref17_SameTexts
noncomputable def Pref17_SameTexts_0 (x : ((List (List UInt8)) × Unit) × ((List (List UInt8)) × Unit) × (Int × Unit) × Unit) (_g : Unit) : Sref17_SameTexts_0 := Sref17_SameTexts_0.mk x.1.1 x.2.1.1 x.2.2.1.1
noncomputable def tAref17_SameTexts_0 : Tms U (((List (List UInt8)) × Unit) × ((List (List UInt8)) × Unit) × (Int × Unit) × Unit) := tO 0 (cPair (cSl 9) (cUnit)) (tO 1 (cPair (cSl 9) (cUnit)) (tO 5 (cPair (cInt .i64) (cUnit)) (tNil)))
noncomputable def tBref17_SameTexts_0 : Bls U (Unit) := bNil
noncomputable def eSref17_SameTexts_0 (s : Sref17_SameTexts_0) : St U := { tm := [(0, .v (vO (cPair (cSl 9) (cUnit)) (s.t0, ()))), (1, .v (vO (cPair (cSl 9) (cUnit)) (s.t1, ()))), (5, .v (vO (cPair (cInt .i64) (cUnit)) (s.t5, ())))], hp := [] }
noncomputable def xSref17_SameTexts_0 : (Bool ⊕ Unit) → Ex × St U
  | .inl r => (.ret, { tm := [(4, .v (vO (cPair cBool (cUnit)) (r, ())))], hp := [] })
  | .inr r => (.exit 0, { tm := [], hp := [] })
noncomputable def xTref17_SameTexts_0 (y : (Bool ⊕ Unit)) : Tree (Ex × St U) := .ite y.isLeft (.opt Bool y.getLeft? fun r => .leaf (.ret, { tm := [(4, .v (vO (cPair cBool (cUnit)) (r, ())))], hp := [] })) (.opt Unit y.getRight? fun r => .leaf (.exit 0, { tm := [], hp := [] }))
noncomputable def href17_SameTexts_0 : Hd := { keep := [0, 1, 5], xkeep := [4], own := false }
noncomputable def Eref17_SameTexts : Env U := { P := Tryz.prog, cd := cd, fns := fns86, lps := (addL 0 href17_SameTexts_0 (mkLoop tAref17_SameTexts_0 tBref17_SameTexts_0 Pref17_SameTexts_0 (Lref17_SameTexts_0 none) xTref17_SameTexts_0) noL), frz := fun _r => false, nt := 26, n0 := 0 }
noncomputable def Bref17_SameTexts_0 : Code := (loopAt (Tryz.f158.body.getD .skip) 0 0).getD .skip
theorem roundref17_SameTexts_0 (s : Sref17_SameTexts_0) : round Eref17_SameTexts href17_SameTexts_0 Bref17_SameTexts_0 0 (eSref17_SameTexts_0 s) = (Wref17_SameTexts_0 s).map (sumE eSref17_SameTexts_0 xSref17_SameTexts_0) := by kernel_rfl
theorem lpref17_SameTexts_0 : LpOk Eref17_SameTexts Bref17_SameTexts_0 0 := mkLoop_ok (A := tAref17_SameTexts_0) (B := tBref17_SameTexts_0) (f := Pref17_SameTexts_0) (L := Lref17_SameTexts_0 none) (tO_ok (cPair_ok (cSl_ok 9) cUnit_ok) (tO_ok (cPair_ok (cSl_ok 9) cUnit_ok) (tO_ok (cPair_ok (cInt_ok .i64) cUnit_ok) tNil_ok))) bNil_ok (enc := eSref17_SameTexts_0) (out := xTref17_SameTexts_0) (outS := xSref17_SameTexts_0) (step := Wref17_SameTexts_0) (fun _ => rfl) (fun _ _ => by kernel_rfl) (by kernel_rfl) (fun b => by cases b <;> rfl) roundref17_SameTexts_0
theorem runref17_SameTexts (x : (List (List UInt8)) × (List (List UInt8)) × Unit) (g : Unit) : execF Eref17_SameTexts Tryz.f158 (Aref17_SameTexts.enc x) (bNil.enc g) = (Tref17_SameTexts none x.1 x.2.1).map Rref17_SameTexts := by kernel_rfl
theorem okref17_SameTexts : FnOk Tryz.prog cd 158 Sref17_SameTexts := mk_ok (E := Eref17_SameTexts) cd_ok fns86_ok Tryz.func158 (by kernel_rfl) (loops_of (addL_ok lpref17_SameTexts_0 noL_ok)) (aO_ok (cSl_ok 9) (aO_ok (cSl_ok 9) (aNil_ok))) bNil_ok (T := fun x _ => Tref17_SameTexts none x.1 x.2.1) (fun _ _ => rfl) runref17_SameTexts
noncomputable def fns158 := addF 158 true Sref17_SameTexts fns86
theorem fns158_ok : ∀ f q t, fns158 f = some (q, t) → FnOk Tryz.prog cd f t := addF_ok okref17_SameTexts fns86_ok
/-- emulator/emulatorref23.SameDisk -/
noncomputable def Tref23_SameDisk (q : Option Nat) (x0 : Disk) (x1 : Disk) : Tree Bool :=
  .opt Bool (ref17_SameTexts q x0.drive.sectors x1.drive.sectors) fun r194 =>
    .ite (!r194)
      (.leaf (false))
      (.opt Bool (ref08_Same q x0.drive.bad x1.drive.bad) fun r195 =>
        .ite (!r195)
          (.leaf (false))
          (.ite (!(x0.enable == x1.enable))
            (.leaf (false))
            (.ite (!(x0.ready == x1.ready))
              (.leaf (false))
              (.ite (!(x0.error == x1.error))
                (.leaf (false))
                (.ite (decide (x0.command = x1.command))
                  (.ite (decide (x0.words = x1.words))
                    (.ite (decide (x0.addr = x1.addr))
                      (.ite (decide (x0.start = x1.start))
                        (.leaf (decide (x0.left = x1.left)))
                        (.leaf (false)))
                      (.leaf (false)))
                    (.leaf (false)))
                  (.leaf (false)))))))
noncomputable def ref23_SameDisk (q : Option Nat) (x0 : Disk) (x1 : Disk) : Option Bool := (Tref23_SameDisk q x0 x1).run
noncomputable def Aref23_SameDisk : Arg U (Disk × Disk × Unit) := aA cDisk (aA cDisk (aNil))
noncomputable def Rref23_SameDisk (r : Bool) : List (V U) × List (Blk U) := ([vO cBool r], [])
noncomputable def Sref23_SameDisk : List (V U) → List (Blk U) → Option (FnOut U) := mkSpec Aref23_SameDisk bNil (fun x _ => ref23_SameDisk none x.1 x.2.1) Rref23_SameDisk
noncomputable def Eref23_SameDisk : Env U := { P := Tryz.prog, cd := cd, fns := fns158, lps := noL, frz := fun _r => false, nt := 77, n0 := 0 }
theorem runref23_SameDisk (x : Disk × Disk × Unit) (g : Unit) : execF Eref23_SameDisk Tryz.f87 (Aref23_SameDisk.enc x) (bNil.enc g) = (Tref23_SameDisk none x.1 x.2.1).map Rref23_SameDisk := by kernel_rfl
theorem okref23_SameDisk : FnOk Tryz.prog cd 87 Sref23_SameDisk := mk_ok (E := Eref23_SameDisk) cd_ok fns158_ok Tryz.func87 (by kernel_rfl) (noLoops_body (by kernel_rfl)) (aA_ok cDisk_ok (aA_ok cDisk_ok (aNil_ok))) bNil_ok (T := fun x _ => Tref23_SameDisk none x.1 x.2.1) (fun _ _ => rfl) runref23_SameDisk
noncomputable def fns87 := addF 87 true Sref23_SameDisk fns158
theorem fns87_ok : ∀ f q t, fns87 f = some (q, t) → FnOk Tryz.prog cd f t := addF_ok okref23_SameDisk fns158_ok
/-- emulator/emulatorref17.Same -/
noncomputable def Tref17_Same (q : Option Nat) (x0 : Tape) (x1 : Tape) : Tree Bool :=
  .opt Bool (ref17_SameTexts q x0.records x1.records) fun r196 =>
    .ite (!r196)
      (.leaf (false))
      (.ite (!decide (x0.pos = x1.pos))
        (.leaf (false))
        (.ite (!(x0.enable == x1.enable))
          (.leaf (false))
          (.ite (!(x0.ready == x1.ready))
            (.leaf (false))
            (.ite (!(x0.error == x1.error))
              (.leaf (false))
              (.ite ((x0.mark == x1.mark))
                (.ite ((x0.end_ == x1.end_))
                  (.ite (decide (x0.command = x1.command))
                    (.ite (decide (x0.count = x1.count))
                      (.ite (decide (x0.addr = x1.addr))
                        (.leaf (decide (x0.left = x1.left)))
                        (.leaf (false)))
                      (.leaf (false)))
                    (.leaf (false)))
                  (.leaf (false)))
                (.leaf (false)))))))
noncomputable def ref17_Same (q : Option Nat) (x0 : Tape) (x1 : Tape) : Option Bool := (Tref17_Same q x0 x1).run
noncomputable def Aref17_Same : Arg U (Tape × Tape × Unit) := aA cTape (aA cTape (aNil))
noncomputable def Rref17_Same (r : Bool) : List (V U) × List (Blk U) := ([vO cBool r], [])
noncomputable def Sref17_Same : List (V U) → List (Blk U) → Option (FnOut U) := mkSpec Aref17_Same bNil (fun x _ => ref17_Same none x.1 x.2.1) Rref17_Same
noncomputable def Eref17_Same : Env U := { P := Tryz.prog, cd := cd, fns := fns87, lps := noL, frz := fun _r => false, nt := 79, n0 := 0 }
theorem runref17_Same (x : Tape × Tape × Unit) (g : Unit) : execF Eref17_Same Tryz.f88 (Aref17_Same.enc x) (bNil.enc g) = (Tref17_Same none x.1 x.2.1).map Rref17_Same := by kernel_rfl
theorem okref17_Same : FnOk Tryz.prog cd 88 Sref17_Same := mk_ok (E := Eref17_Same) cd_ok fns87_ok Tryz.func88 (by kernel_rfl) (noLoops_body (by kernel_rfl)) (aA_ok cTape_ok (aA_ok cTape_ok (aNil_ok))) bNil_ok (T := fun x _ => Tref17_Same none x.1 x.2.1) (fun _ _ => rfl) runref17_Same
noncomputable def fns88 := addF 88 true Sref17_Same fns87
theorem fns88_ok : ∀ f q t, fns88 f = some (q, t) → FnOk Tryz.prog cd f t := addF_ok okref17_Same fns87_ok
/-- emulator/emulatorref23.Diff -/
structure Sref23_Diff_0 where
  t8 : Int
  b0 : (List (List UInt8))
  b1 : (List Bool)
  b2 : (List (List UInt8))
noncomputable def Wref23_Diff_0 (s : Sref23_Diff_0) : Tree (Sref23_Diff_0 ⊕ (List (List UInt8))) :=
  .ite (decide (s.t8 < (s.b0.length : Int)))
    (.ite (decide (0 ≤ s.t8))
      (.ite (decide (s.t8 < (s.b1.length : Int)))
        (.opt Bool (s.b1[(s.t8).toNat]?) fun y202 =>
          .ite (!y202)
            (.ite (decide (0 ≤ s.t8))
              (.ite (decide (s.t8 < (s.b0.length : Int)))
                (.opt (List UInt8) (s.b0[(s.t8).toNat]?) fun y203 =>
                  .ite (decide ((s.b2.length + ([y203]).length) * 16 ≤ 140737488355328))
                    (.leaf (.inl (Sref23_Diff_0.mk (IntKind.wrap .i64 (s.t8 + (1 : Int))) s.b0 s.b1 (s.b2 ++ ([y203])))))
                    .fail)
                .fail)
              .fail)
            (.leaf (.inl (Sref23_Diff_0.mk (IntKind.wrap .i64 (s.t8 + (1 : Int))) s.b0 s.b1 s.b2))))
        .fail)
      .fail)
    (.leaf (.inr s.b2))
noncomputable def Lref23_Diff_0 (q : Option Nat) (s : Sref23_Diff_0) : Option (List (List UInt8)) := limQ q (fun s => (Wref23_Diff_0 s).run) s
theorem leLref23_Diff_0 (k : Nat) (s : Sref23_Diff_0) : Le (Lref23_Diff_0 (some k) s) (Lref23_Diff_0 none s) := limQ_le (fun _ => Le.rfl) s
noncomputable def Tref23_Diff (q : Option Nat) (x0 : Machine) (x1 : Machine) : Tree (List (List UInt8)) :=
  .opt Bool (ref08_Same q x0.mem x1.mem) fun r197 =>
    .opt Bool (ref08_Same q x0.bad x1.bad) fun r198 =>
      .opt Bool (ref23_SameLines q x0.lines x1.lines) fun r199 =>
        .opt Bool (ref23_SameDisk q x0.disk x1.disk) fun r200 =>
          .opt Bool (ref17_Same q x0.tape x1.tape) fun r201 =>
            .opt (List (List UInt8)) (Lref23_Diff_0 q (Sref23_Diff_0.mk (0 : Int) ([([67, 112, 117] : List UInt8), ([77, 101, 109] : List UInt8), ([66, 97, 100] : List UInt8), ([77, 109, 117] : List UInt8), ([67, 108, 111, 99, 107] : List UInt8), ([76, 105, 110, 101, 115] : List UInt8), ([68, 105, 115, 107] : List UInt8), ([84, 97, 112, 101] : List UInt8), ([78, 111, 119] : List UInt8), ([72, 97, 108, 116, 101, 100] : List UInt8), ([87, 97, 105, 116, 105, 110, 103] : List UInt8), ([80, 111, 119, 101, 114] : List UInt8), ([80, 111, 119, 101, 114, 84, 114, 97, 112] : List UInt8)]) ([((decide (x0.cpu.r = x1.cpu.r)) && ((decide (x0.cpu.sP = x1.cpu.sP)) && ((decide (x0.cpu.pC = x1.cpu.pC)) && (decide (x0.cpu.pSW = x1.cpu.pSW))))), r197, r198, ((x0.mmu.on == x1.mmu.on) && ((decide (x0.mmu.pages = x1.mmu.pages)) && ((decide (x0.mmu.status = x1.mmu.status)) && (decide (x0.mmu.addr = x1.mmu.addr))))), ((x0.clock.enable == x1.clock.enable) && ((x0.clock.ready == x1.clock.ready) && ((decide (x0.clock.period = x1.clock.period)) && (decide (x0.clock.left = x1.clock.left))))), r199, r200, r201, decide (x0.now = x1.now), (x0.halted == x1.halted), (x0.waiting == x1.waiting), decide (x0.power = x1.power), (x0.powerTrap == x1.powerTrap)]) ([]))) fun l204 =>
              .leaf (l204)
noncomputable def ref23_Diff (q : Option Nat) (x0 : Machine) (x1 : Machine) : Option (List (List UInt8)) := (Tref23_Diff q x0 x1).run
noncomputable def Aref23_Diff : Arg U (Machine × Machine × Unit) := aA cMachine (aA cMachine (aNil))
noncomputable def Rref23_Diff (r : (List (List UInt8))) : List (V U) × List (Blk U) := ([vO (cSl 9) r], [])
noncomputable def Sref23_Diff : List (V U) → List (Blk U) → Option (FnOut U) := mkSpec Aref23_Diff bNil (fun x _ => ref23_Diff none x.1 x.2.1) Rref23_Diff
noncomputable def Pref23_Diff_0 (x : (Unit) × (Unit) × (Unit) × (Int × Unit) × Unit) (g : (List (List UInt8)) × (List Bool) × (List (List UInt8)) × Unit) : Sref23_Diff_0 := Sref23_Diff_0.mk x.2.2.2.1.1 g.1 g.2.1 g.2.2.1
noncomputable def tAref23_Diff_0 : Tms U ((Unit) × (Unit) × (Unit) × (Int × Unit) × Unit) := tO 5 (cK (.row 0 0) (cUnit)) (tO 6 (cK (.row 1 0) (cUnit)) (tO 7 (cK (.row 2 0) (cUnit)) (tO 8 (cPair (cInt .i64) (cUnit)) (tNil))))
noncomputable def tBref23_Diff_0 : Bls U ((List (List UInt8)) × (List Bool) × (List (List UInt8)) × Unit) := bRv 9 0 (bRv 4 0 (bRv 9 0 (bNil)))
noncomputable def eSref23_Diff_0 (s : Sref23_Diff_0) : St U := { tm := [(5, .v (vO (cK (.row 0 0) (cUnit)) (()))), (6, .v (vO (cK (.row 1 0) (cUnit)) (()))), (7, .v (vO (cK (.row 2 0) (cUnit)) (()))), (8, .v (vO (cPair (cInt .i64) (cUnit)) (s.t8, ())))], hp := [.row 9 0 s.b0, .row 4 0 s.b1, .row 9 0 s.b2] }
noncomputable def xSref23_Diff_0 (r : (List (List UInt8))) : Ex × St U := (.exit 0, { tm := [(7, .v (vO (cK (.row 0 0) (cUnit)) (())))], hp := [.row 9 0 r] })
noncomputable def xTref23_Diff_0 (r : (List (List UInt8))) : Tree (Ex × St U) := .leaf (xSref23_Diff_0 r)
noncomputable def href23_Diff_0 : Hd := { keep := [5, 6, 7, 8], xkeep := [4, 7], own := true }
noncomputable def Eref23_Diff : Env U := { P := Tryz.prog, cd := cd, fns := fns88, lps := (addL 0 href23_Diff_0 (mkLoop tAref23_Diff_0 tBref23_Diff_0 Pref23_Diff_0 (Lref23_Diff_0 none) xTref23_Diff_0) noL), frz := fun _r => false, nt := 95, n0 := 0 }
noncomputable def Bref23_Diff_0 : Code := (loopAt (Tryz.f33.body.getD .skip) 0 0).getD .skip
theorem roundref23_Diff_0 (s : Sref23_Diff_0) : round Eref23_Diff href23_Diff_0 Bref23_Diff_0 0 (eSref23_Diff_0 s) = (Wref23_Diff_0 s).map (sumE eSref23_Diff_0 xSref23_Diff_0) := by kernel_rfl
theorem lpref23_Diff_0 : LpOk Eref23_Diff Bref23_Diff_0 0 := mkLoop_ok (A := tAref23_Diff_0) (B := tBref23_Diff_0) (f := Pref23_Diff_0) (L := Lref23_Diff_0 none) (tO_ok (cK_ok cUnit_ok) (tO_ok (cK_ok cUnit_ok) (tO_ok (cK_ok cUnit_ok) (tO_ok (cPair_ok (cInt_ok .i64) cUnit_ok) tNil_ok)))) (bRv_ok (bRv_ok (bRv_ok bNil_ok))) (enc := eSref23_Diff_0) (out := xTref23_Diff_0) (outS := xSref23_Diff_0) (step := Wref23_Diff_0) (fun _ => rfl) (fun _ _ => by kernel_rfl) (by kernel_rfl) (fun _ => rfl) roundref23_Diff_0
theorem runref23_Diff (x : Machine × Machine × Unit) (g : Unit) : execF Eref23_Diff Tryz.f33 (Aref23_Diff.enc x) (bNil.enc g) = (Tref23_Diff none x.1 x.2.1).map Rref23_Diff := by kernel_rfl
theorem okref23_Diff : FnOk Tryz.prog cd 33 Sref23_Diff := mk_ok (E := Eref23_Diff) cd_ok fns88_ok Tryz.func33 (by kernel_rfl) (loops_of (addL_ok lpref23_Diff_0 noL_ok)) (aA_ok cMachine_ok (aA_ok cMachine_ok (aNil_ok))) bNil_ok (T := fun x _ => Tref23_Diff none x.1 x.2.1) (fun _ _ => rfl) runref23_Diff
noncomputable def fns33 := addF 33 true Sref23_Diff fns88
theorem fns33_ok : ∀ f q t, fns33 f = some (q, t) → FnOk Tryz.prog cd f t := addF_ok okref23_Diff fns88_ok
/-- emulator/emulatorref23.Same -/
noncomputable def Tref23_Same (q : Option Nat) (x0 : Machine) (x1 : Machine) : Tree Bool :=
  .opt (List (List UInt8)) (ref23_Diff q x0 x1) fun r205 =>
    .leaf (decide ((r205.length : Int) = (0 : Int)))
noncomputable def ref23_Same (q : Option Nat) (x0 : Machine) (x1 : Machine) : Option Bool := (Tref23_Same q x0 x1).run
noncomputable def Aref23_Same : Arg U (Machine × Machine × Unit) := aA cMachine (aA cMachine (aNil))
noncomputable def Rref23_Same (r : Bool) : List (V U) × List (Blk U) := ([vO cBool r], [])
noncomputable def Sref23_Same : List (V U) → List (Blk U) → Option (FnOut U) := mkSpec Aref23_Same bNil (fun x _ => ref23_Same none x.1 x.2.1) Rref23_Same
noncomputable def Eref23_Same : Env U := { P := Tryz.prog, cd := cd, fns := fns33, lps := noL, frz := fun _r => false, nt := 10, n0 := 0 }
theorem runref23_Same (x : Machine × Machine × Unit) (g : Unit) : execF Eref23_Same Tryz.f10 (Aref23_Same.enc x) (bNil.enc g) = (Tref23_Same none x.1 x.2.1).map Rref23_Same := by kernel_rfl
theorem okref23_Same : FnOk Tryz.prog cd 10 Sref23_Same := mk_ok (E := Eref23_Same) cd_ok fns33_ok Tryz.func10 (by kernel_rfl) (noLoops_body (by kernel_rfl)) (aA_ok cMachine_ok (aA_ok cMachine_ok (aNil_ok))) bNil_ok (T := fun x _ => Tref23_Same none x.1 x.2.1) (fun _ _ => rfl) runref23_Same
noncomputable def fns10 := addF 10 true Sref23_Same fns33
theorem fns10_ok : ∀ f q t, fns10 f = some (q, t) → FnOk Tryz.prog cd f t := addF_ok okref23_Same fns33_ok
/-- emulator/memory.sized -/
noncomputable def Tmemory_sized (x0 : Int) : Tree Bool :=
  .ite (decide ((256 : Int) ≤ x0))
    (.ite (decide (x0 ≤ (32768 : Int)))
      (.ite (decide ((64 : Int) = 0))
        .fail
        (.leaf (decide (((x0).tmod (64 : Int)) = (0 : Int)))))
      (.leaf (false)))
    (.leaf (false))
noncomputable def memory_sized (x0 : Int) : Option Bool := (Tmemory_sized x0).run
noncomputable def Amemory_sized : Arg U (Int × Unit) := aO (cInt .i64) (aNil)
noncomputable def Rmemory_sized (r : Bool) : List (V U) × List (Blk U) := ([vO cBool r], [])
noncomputable def Smemory_sized : List (V U) → List (Blk U) → Option (FnOut U) := mkSpec Amemory_sized bNil (fun x _ => memory_sized x.1) Rmemory_sized
noncomputable def Ememory_sized : Env U := { P := Tryz.prog, cd := cd, fns := fns10, lps := noL, frz := fun _r => false, nt := 14, n0 := 0 }
theorem runmemory_sized (x : Int × Unit) (g : Unit) : execF Ememory_sized Tryz.f89 (Amemory_sized.enc x) (bNil.enc g) = (Tmemory_sized x.1).map Rmemory_sized := by kernel_rfl
theorem okmemory_sized : FnOk Tryz.prog cd 89 Smemory_sized := mk_ok (E := Ememory_sized) cd_ok fns10_ok Tryz.func89 (by kernel_rfl) (noLoops_body (by kernel_rfl)) (aO_ok (cInt_ok .i64) (aNil_ok)) bNil_ok (T := fun x _ => Tmemory_sized x.1) (fun _ _ => rfl) runmemory_sized
noncomputable def fns89 := addF 89 true Smemory_sized fns10
theorem fns89_ok : ∀ f q t, fns89 f = some (q, t) → FnOk Tryz.prog cd f t := addF_ok okmemory_sized fns10_ok
/-- emulator/memory.Right -/
structure Smemory_Right_0 where
  t0 : (List Int)
  t1 : (List Int)
  t15 : (List Int)
  t16 : Int
  t17 : Int
noncomputable def Wmemory_Right_0 (s : Smemory_Right_0) : Tree (Smemory_Right_0 ⊕ (((List Int) × (List Int) × Bool) ⊕ ((List Int) × (List Int)))) :=
  .ite (decide (s.t17 < s.t16))
    (.ite (decide (0 ≤ s.t17))
      (.opt Int (s.t15[(s.t17).toNat]?) fun y207 =>
        .ite (!decide ((IntKind.wrap .i64 (((BitVec.ofInt 64 y207 &&& BitVec.ofInt 64 (65535 : Int)).toNat : Int))) = y207))
          (.leaf (.inr (.inl (s.t0, s.t1, false))))
          (.leaf (.inl (Smemory_Right_0.mk s.t0 s.t1 s.t15 s.t16 (IntKind.wrap .i64 (s.t17 + (1 : Int)))))))
      .fail)
    (.leaf (.inr (.inr (s.t0, s.t1))))
noncomputable def Lmemory_Right_0 (q : Option Nat) (s : Smemory_Right_0) : Option (((List Int) × (List Int) × Bool) ⊕ ((List Int) × (List Int))) := limQ q (fun s => (Wmemory_Right_0 s).run) s
structure Smemory_Right_1 where
  t0 : (List Int)
  t7 : Int
  t26 : (List Int)
  t27 : Int
  t28 : Int
noncomputable def Wmemory_Right_1 (s : Smemory_Right_1) : Tree (Smemory_Right_1 ⊕ (Bool ⊕ Unit)) :=
  .ite (decide (s.t28 < s.t27))
    (.ite (decide (0 ≤ s.t28))
      (.opt Int (s.t26[(s.t28).toNat]?) fun y211 =>
        .ite (decide (y211 ≤ s.t7))
          (.leaf (.inr (.inl false)))
          (.ite (decide ((2 : Int) = 0))
            .fail
            (.ite (!decide (((y211).tmod (2 : Int)) = (0 : Int)))
              (.leaf (.inr (.inl false)))
              (.ite (decide ((IntKind.wrap .i64 ((2 : Int) * (s.t0.length : Int))) ≤ y211))
                (.leaf (.inr (.inl false)))
                (.leaf (.inl (Smemory_Right_1.mk s.t0 y211 s.t26 s.t27 (IntKind.wrap .i64 (s.t28 + (1 : Int))))))))))
      .fail)
    (.leaf (.inr (.inr ())))
noncomputable def Lmemory_Right_1 (q : Option Nat) (s : Smemory_Right_1) : Option (Bool ⊕ Unit) := limQ q (fun s => (Wmemory_Right_1 s).run) s
noncomputable def Tmemory_Right (q : Option Nat) (x0 : (List Int)) (x1 : (List Int)) : Tree Bool :=
  .opt Bool (memory_sized (IntKind.wrap .i64 ((2 : Int) * (x0.length : Int)))) fun r206 =>
    .ite (!r206)
      (.leaf (false))
      (.opt (((List Int) × (List Int) × Bool) ⊕ ((List Int) × (List Int))) (Lmemory_Right_0 q (Smemory_Right_0.mk x0 x1 x0 (x0.length : Int) (0 : Int))) fun l208 =>
        .ite (l208.isLeft)
          (.opt ((List Int) × (List Int) × Bool) (l208.getLeft?) fun a209 =>
            .leaf (a209.2.2))
          (.opt ((List Int) × (List Int)) (l208.getRight?) fun b210 =>
            .opt (Bool ⊕ Unit) (Lmemory_Right_1 q (Smemory_Right_1.mk b210.1 (-1 : Int) b210.2 (b210.2.length : Int) (0 : Int))) fun l212 =>
              .ite (l212.isLeft)
                (.opt Bool (l212.getLeft?) fun a213 =>
                  .leaf (a213))
                (.opt Unit (l212.getRight?) fun b214 =>
                  .leaf (true))))
noncomputable def memory_Right (q : Option Nat) (x0 : (List Int)) (x1 : (List Int)) : Option Bool := (Tmemory_Right q x0 x1).run
noncomputable def Amemory_Right : Arg U ((List Int) × (List Int) × Unit) := aO (cSl 3) (aO (cSl 3) (aNil))
noncomputable def Rmemory_Right (r : Bool) : List (V U) × List (Blk U) := ([vO cBool r], [])
noncomputable def Smemory_Right : List (V U) → List (Blk U) → Option (FnOut U) := mkSpec Amemory_Right bNil (fun x _ => memory_Right none x.1 x.2.1) Rmemory_Right
noncomputable def Pmemory_Right_0 (x : ((List Int) × Unit) × ((List Int) × Unit) × ((List Int) × Unit) × (Int × Unit) × (Int × Unit) × Unit) (_g : Unit) : Smemory_Right_0 := Smemory_Right_0.mk x.1.1 x.2.1.1 x.2.2.1.1 x.2.2.2.1.1 x.2.2.2.2.1.1
noncomputable def tAmemory_Right_0 : Tms U (((List Int) × Unit) × ((List Int) × Unit) × ((List Int) × Unit) × (Int × Unit) × (Int × Unit) × Unit) := tO 0 (cPair (cSl 3) (cUnit)) (tO 1 (cPair (cSl 3) (cUnit)) (tO 15 (cPair (cSl 3) (cUnit)) (tO 16 (cPair (cInt .i64) (cUnit)) (tO 17 (cPair (cInt .i64) (cUnit)) (tNil)))))
noncomputable def tBmemory_Right_0 : Bls U (Unit) := bNil
noncomputable def eSmemory_Right_0 (s : Smemory_Right_0) : St U := { tm := [(0, .v (vO (cPair (cSl 3) (cUnit)) (s.t0, ()))), (1, .v (vO (cPair (cSl 3) (cUnit)) (s.t1, ()))), (15, .v (vO (cPair (cSl 3) (cUnit)) (s.t15, ()))), (16, .v (vO (cPair (cInt .i64) (cUnit)) (s.t16, ()))), (17, .v (vO (cPair (cInt .i64) (cUnit)) (s.t17, ())))], hp := [] }
noncomputable def xSmemory_Right_0 : (((List Int) × (List Int) × Bool) ⊕ ((List Int) × (List Int))) → Ex × St U
  | .inl r => (.ret, { tm := [(0, .v (vO (cPair (cSl 3) (cUnit)) (r.1, ()))), (1, .v (vO (cPair (cSl 3) (cUnit)) (r.2.1, ()))), (4, .v (vO (cPair cBool (cUnit)) (r.2.2, ())))], hp := [] })
  | .inr r => (.exit 0, { tm := [(0, .v (vO (cPair (cSl 3) (cUnit)) (r.1, ()))), (1, .v (vO (cPair (cSl 3) (cUnit)) (r.2, ())))], hp := [] })
noncomputable def xTmemory_Right_0 (y : (((List Int) × (List Int) × Bool) ⊕ ((List Int) × (List Int)))) : Tree (Ex × St U) := .ite y.isLeft (.opt ((List Int) × (List Int) × Bool) y.getLeft? fun r => .leaf (.ret, { tm := [(0, .v (vO (cPair (cSl 3) (cUnit)) (r.1, ()))), (1, .v (vO (cPair (cSl 3) (cUnit)) (r.2.1, ()))), (4, .v (vO (cPair cBool (cUnit)) (r.2.2, ())))], hp := [] })) (.opt ((List Int) × (List Int)) y.getRight? fun r => .leaf (.exit 0, { tm := [(0, .v (vO (cPair (cSl 3) (cUnit)) (r.1, ()))), (1, .v (vO (cPair (cSl 3) (cUnit)) (r.2, ())))], hp := [] }))
noncomputable def hmemory_Right_0 : Hd := { keep := [0, 1, 15, 16, 17], xkeep := [0, 1, 4], own := false }
noncomputable def Pmemory_Right_1 (x : ((List Int) × Unit) × (Int × Unit) × ((List Int) × Unit) × (Int × Unit) × (Int × Unit) × Unit) (_g : Unit) : Smemory_Right_1 := Smemory_Right_1.mk x.1.1 x.2.1.1 x.2.2.1.1 x.2.2.2.1.1 x.2.2.2.2.1.1
noncomputable def tAmemory_Right_1 : Tms U (((List Int) × Unit) × (Int × Unit) × ((List Int) × Unit) × (Int × Unit) × (Int × Unit) × Unit) := tO 0 (cPair (cSl 3) (cUnit)) (tO 7 (cPair (cInt .i64) (cUnit)) (tO 26 (cPair (cSl 3) (cUnit)) (tO 27 (cPair (cInt .i64) (cUnit)) (tO 28 (cPair (cInt .i64) (cUnit)) (tNil)))))
noncomputable def tBmemory_Right_1 : Bls U (Unit) := bNil
noncomputable def eSmemory_Right_1 (s : Smemory_Right_1) : St U := { tm := [(0, .v (vO (cPair (cSl 3) (cUnit)) (s.t0, ()))), (7, .v (vO (cPair (cInt .i64) (cUnit)) (s.t7, ()))), (26, .v (vO (cPair (cSl 3) (cUnit)) (s.t26, ()))), (27, .v (vO (cPair (cInt .i64) (cUnit)) (s.t27, ()))), (28, .v (vO (cPair (cInt .i64) (cUnit)) (s.t28, ())))], hp := [] }
noncomputable def xSmemory_Right_1 : (Bool ⊕ Unit) → Ex × St U
  | .inl r => (.ret, { tm := [(4, .v (vO (cPair cBool (cUnit)) (r, ())))], hp := [] })
  | .inr r => (.exit 2, { tm := [], hp := [] })
noncomputable def xTmemory_Right_1 (y : (Bool ⊕ Unit)) : Tree (Ex × St U) := .ite y.isLeft (.opt Bool y.getLeft? fun r => .leaf (.ret, { tm := [(4, .v (vO (cPair cBool (cUnit)) (r, ())))], hp := [] })) (.opt Unit y.getRight? fun r => .leaf (.exit 2, { tm := [], hp := [] }))
noncomputable def hmemory_Right_1 : Hd := { keep := [0, 7, 26, 27, 28], xkeep := [4], own := false }
noncomputable def Ememory_Right : Env U := { P := Tryz.prog, cd := cd, fns := fns89, lps := (addL 0 hmemory_Right_0 (mkLoop tAmemory_Right_0 tBmemory_Right_0 Pmemory_Right_0 (Lmemory_Right_0 none) xTmemory_Right_0) (addL 1 hmemory_Right_1 (mkLoop tAmemory_Right_1 tBmemory_Right_1 Pmemory_Right_1 (Lmemory_Right_1 none) xTmemory_Right_1) noL)), frz := fun _r => false, nt := 49, n0 := 0 }
noncomputable def Bmemory_Right_0 : Code := (loopAt (Tryz.f34.body.getD .skip) 0 0).getD .skip
theorem roundmemory_Right_0 (s : Smemory_Right_0) : round Ememory_Right hmemory_Right_0 Bmemory_Right_0 0 (eSmemory_Right_0 s) = (Wmemory_Right_0 s).map (sumE eSmemory_Right_0 xSmemory_Right_0) := by kernel_rfl
theorem lpmemory_Right_0 : LpOk Ememory_Right Bmemory_Right_0 0 := mkLoop_ok (A := tAmemory_Right_0) (B := tBmemory_Right_0) (f := Pmemory_Right_0) (L := Lmemory_Right_0 none) (tO_ok (cPair_ok (cSl_ok 3) cUnit_ok) (tO_ok (cPair_ok (cSl_ok 3) cUnit_ok) (tO_ok (cPair_ok (cSl_ok 3) cUnit_ok) (tO_ok (cPair_ok (cInt_ok .i64) cUnit_ok) (tO_ok (cPair_ok (cInt_ok .i64) cUnit_ok) tNil_ok))))) bNil_ok (enc := eSmemory_Right_0) (out := xTmemory_Right_0) (outS := xSmemory_Right_0) (step := Wmemory_Right_0) (fun _ => rfl) (fun _ _ => by kernel_rfl) (by kernel_rfl) (fun b => by cases b <;> rfl) roundmemory_Right_0
noncomputable def Bmemory_Right_1 : Code := (loopAt (Tryz.f34.body.getD .skip) 0 1).getD .skip
theorem roundmemory_Right_1 (s : Smemory_Right_1) : round Ememory_Right hmemory_Right_1 Bmemory_Right_1 1 (eSmemory_Right_1 s) = (Wmemory_Right_1 s).map (sumE eSmemory_Right_1 xSmemory_Right_1) := by kernel_rfl
theorem lpmemory_Right_1 : LpOk Ememory_Right Bmemory_Right_1 1 := mkLoop_ok (A := tAmemory_Right_1) (B := tBmemory_Right_1) (f := Pmemory_Right_1) (L := Lmemory_Right_1 none) (tO_ok (cPair_ok (cSl_ok 3) cUnit_ok) (tO_ok (cPair_ok (cInt_ok .i64) cUnit_ok) (tO_ok (cPair_ok (cSl_ok 3) cUnit_ok) (tO_ok (cPair_ok (cInt_ok .i64) cUnit_ok) (tO_ok (cPair_ok (cInt_ok .i64) cUnit_ok) tNil_ok))))) bNil_ok (enc := eSmemory_Right_1) (out := xTmemory_Right_1) (outS := xSmemory_Right_1) (step := Wmemory_Right_1) (fun _ => rfl) (fun _ _ => by kernel_rfl) (by kernel_rfl) (fun b => by cases b <;> rfl) roundmemory_Right_1
theorem runmemory_Right (x : (List Int) × (List Int) × Unit) (g : Unit) : execF Ememory_Right Tryz.f34 (Amemory_Right.enc x) (bNil.enc g) = (Tmemory_Right none x.1 x.2.1).map Rmemory_Right := by kernel_rfl
theorem okmemory_Right : FnOk Tryz.prog cd 34 Smemory_Right := mk_ok (E := Ememory_Right) cd_ok fns89_ok Tryz.func34 (by kernel_rfl) (loops_of (addL_ok lpmemory_Right_0 (addL_ok lpmemory_Right_1 noL_ok))) (aO_ok (cSl_ok 3) (aO_ok (cSl_ok 3) (aNil_ok))) bNil_ok (T := fun x _ => Tmemory_Right none x.1 x.2.1) (fun _ _ => rfl) runmemory_Right
noncomputable def fns34 := addF 34 true Smemory_Right fns89
theorem fns34_ok : ∀ f q t, fns34 f = some (q, t) → FnOk Tryz.prog cd f t := addF_ok okmemory_Right fns89_ok
/-- emulator/mmu.Right -/
structure Smmu_Right_1 where
  t8_0 : (List Page)
  t9 : Int
  t12_0 : (List Page)
  t13 : Int
  b0 : Mmu
noncomputable def Wmmu_Right_1 (s : Smmu_Right_1) : Tree (Smmu_Right_1 ⊕ ((Bool × (List Page) × Int × Mmu) ⊕ ((List Page) × Int × Mmu))) :=
  .ite (decide (s.t13 < (8 : Int)))
    (.ite (decide (0 ≤ s.t13))
      (.ite (decide (s.t13 < (8 : Int)))
        (.opt Page (s.t12_0[(s.t13).toNat]?) fun y215 =>
          .opt Bool (mmu_from y215.base (4095 : Int)) fun r216 =>
            .ite (!r216)
              (.leaf (.inr (.inl (false, s.t8_0, s.t9, s.b0))))
              (.opt Bool (mmu_from y215.length (128 : Int)) fun r217 =>
                .ite (!r217)
                  (.leaf (.inr (.inl (false, s.t8_0, s.t9, s.b0))))
                  (.opt Bool (mmu_from y215.access (2 : Int)) fun r218 =>
                    .ite (!r218)
                      (.leaf (.inr (.inl (false, s.t8_0, s.t9, s.b0))))
                      (.leaf (.inl (Smmu_Right_1.mk s.t8_0 s.t9 s.t12_0 (IntKind.wrap .i64 (s.t13 + (1 : Int))) s.b0))))))
        .fail)
      .fail)
    (.leaf (.inr (.inr (s.t8_0, s.t9, s.b0))))
noncomputable def Lmmu_Right_1 (q : Option Nat) (s : Smmu_Right_1) : Option ((Bool × (List Page) × Int × Mmu) ⊕ ((List Page) × Int × Mmu)) := limQ q (fun s => (Wmmu_Right_1 s).run) s
structure Smmu_Right_0 where
  t8_0 : (List Page)
  t9 : Int
  b0 : Mmu
noncomputable def Wmmu_Right_0 (q : Option Nat) (s : Smmu_Right_0) : Tree (Smmu_Right_0 ⊕ ((Bool × Mmu) ⊕ Mmu)) :=
  .ite (decide (s.t9 < (2 : Int)))
    (.ite (decide (0 ≤ s.t9))
      (.ite (decide (s.t9 < (2 : Int)))
        (.ite (decide ((s.t9).toNat * 8 + 8 ≤ s.t8_0.length))
          (.opt ((Bool × (List Page) × Int × Mmu) ⊕ ((List Page) × Int × Mmu)) (Lmmu_Right_1 q (Smmu_Right_1.mk s.t8_0 s.t9 ((s.t8_0.drop ((s.t9).toNat * 8)).take 8) (0 : Int) s.b0)) fun l219 =>
            .ite (l219.isLeft)
              (.opt (Bool × (List Page) × Int × Mmu) (l219.getLeft?) fun a220 =>
                .leaf (.inr (.inl (a220.1, a220.2.2.2))))
              (.opt ((List Page) × Int × Mmu) (l219.getRight?) fun b221 =>
                .leaf (.inl (Smmu_Right_0.mk b221.1 (IntKind.wrap .i64 (b221.2.1 + (1 : Int))) b221.2.2))))
          .fail)
        .fail)
      .fail)
    (.leaf (.inr (.inr s.b0)))
noncomputable def Lmmu_Right_0 (q : Option Nat) (s : Smmu_Right_0) : Option ((Bool × Mmu) ⊕ Mmu) := limQ q (fun s => (Wmmu_Right_0 q s).run) s
noncomputable def Tmmu_Right (q : Option Nat) (x0 : Mmu) : Tree Bool :=
  .opt ((Bool × Mmu) ⊕ Mmu) (Lmmu_Right_0 q (Smmu_Right_0.mk x0.pages (0 : Int) x0)) fun l222 =>
    .ite (l222.isLeft)
      (.opt (Bool × Mmu) (l222.getLeft?) fun a223 =>
        .leaf (a223.1))
      (.opt Mmu (l222.getRight?) fun b224 =>
        .opt Bool (mmu_from b224.status (3 : Int)) fun r225 =>
          .ite (r225)
            (.opt Bool (mmu_from b224.addr (65535 : Int)) fun r226 =>
              .leaf (r226))
            (.leaf (false)))
noncomputable def mmu_Right (q : Option Nat) (x0 : Mmu) : Option Bool := (Tmmu_Right q x0).run
noncomputable def Ammu_Right : Arg U (Mmu × Unit) := aA cMmu (aNil)
noncomputable def Rmmu_Right (r : Bool) : List (V U) × List (Blk U) := ([vO cBool r], [])
noncomputable def Smmu_Right : List (V U) → List (Blk U) → Option (FnOut U) := mkSpec Ammu_Right bNil (fun x _ => mmu_Right none x.1) Rmmu_Right
noncomputable def Pmmu_Right_0 (x : (Unit) × ((List Page) × Unit) × (Int × Unit) × Unit) (g : (Mmu × Unit) × Unit) : Smmu_Right_0 := Smmu_Right_0.mk x.2.1.1 x.2.2.1.1 g.1.1
noncomputable def tAmmu_Right_0 : Tms U ((Unit) × ((List Page) × Unit) × (Int × Unit) × Unit) := tO 1 (cK (.ptr 0 0) (cUnit)) (tA 8 (cPair (cArr 28 16) (cUnit)) (tO 9 (cPair (cInt .i64) (cUnit)) (tNil)))
noncomputable def tBmmu_Right_0 : Bls U ((Mmu × Unit) × Unit) := bC (cPair cMmu (cUnit)) (bNil)
noncomputable def eSmmu_Right_0 (s : Smmu_Right_0) : St U := { tm := [(1, .v (vO (cK (.ptr 0 0) (cUnit)) (()))), (8, .v (vA (cPair (cArr 28 16) (cUnit)) (s.t8_0, ()))), (9, .v (vO (cPair (cInt .i64) (cUnit)) (s.t9, ())))], hp := [.cells ((cPair cMmu (cUnit) : Cdc U (Mmu × Unit)).enc (s.b0, ())) none] }
noncomputable def xSmmu_Right_0 : ((Bool × Mmu) ⊕ Mmu) → Ex × St U
  | .inl r => (.ret, { tm := [(1, .v (vO (cK (.ptr 0 0) (cUnit)) (()))), (2, .v (vO (cPair cBool (cUnit)) (r.1, ())))], hp := [.cells ((cPair cMmu (cUnit) : Cdc U (Mmu × Unit)).enc (r.2, ())) none] })
  | .inr r => (.exit 0, { tm := [(1, .v (vO (cK (.ptr 0 0) (cUnit)) (())))], hp := [.cells ((cPair cMmu (cUnit) : Cdc U (Mmu × Unit)).enc (r, ())) none] })
noncomputable def xTmmu_Right_0 (y : ((Bool × Mmu) ⊕ Mmu)) : Tree (Ex × St U) := .ite y.isLeft (.opt (Bool × Mmu) y.getLeft? fun r => .leaf (.ret, { tm := [(1, .v (vO (cK (.ptr 0 0) (cUnit)) (()))), (2, .v (vO (cPair cBool (cUnit)) (r.1, ())))], hp := [.cells ((cPair cMmu (cUnit) : Cdc U (Mmu × Unit)).enc (r.2, ())) none] })) (.opt Mmu y.getRight? fun r => .leaf (.exit 0, { tm := [(1, .v (vO (cK (.ptr 0 0) (cUnit)) (())))], hp := [.cells ((cPair cMmu (cUnit) : Cdc U (Mmu × Unit)).enc (r, ())) none] }))
noncomputable def hmmu_Right_0 : Hd := { keep := [1, 8, 9], xkeep := [1, 2], own := false }
noncomputable def Pmmu_Right_1 (x : (Unit) × ((List Page) × Unit) × (Int × Unit) × ((List Page) × Unit) × (Int × Unit) × Unit) (g : (Mmu × Unit) × Unit) : Smmu_Right_1 := Smmu_Right_1.mk x.2.1.1 x.2.2.1.1 x.2.2.2.1.1 x.2.2.2.2.1.1 g.1.1
noncomputable def tAmmu_Right_1 : Tms U ((Unit) × ((List Page) × Unit) × (Int × Unit) × ((List Page) × Unit) × (Int × Unit) × Unit) := tO 1 (cK (.ptr 0 0) (cUnit)) (tA 8 (cPair (cArr 28 16) (cUnit)) (tO 9 (cPair (cInt .i64) (cUnit)) (tA 12 (cPair (cArr 28 8) (cUnit)) (tO 13 (cPair (cInt .i64) (cUnit)) (tNil)))))
noncomputable def tBmmu_Right_1 : Bls U ((Mmu × Unit) × Unit) := bC (cPair cMmu (cUnit)) (bNil)
noncomputable def eSmmu_Right_1 (s : Smmu_Right_1) : St U := { tm := [(1, .v (vO (cK (.ptr 0 0) (cUnit)) (()))), (8, .v (vA (cPair (cArr 28 16) (cUnit)) (s.t8_0, ()))), (9, .v (vO (cPair (cInt .i64) (cUnit)) (s.t9, ()))), (12, .v (vA (cPair (cArr 28 8) (cUnit)) (s.t12_0, ()))), (13, .v (vO (cPair (cInt .i64) (cUnit)) (s.t13, ())))], hp := [.cells ((cPair cMmu (cUnit) : Cdc U (Mmu × Unit)).enc (s.b0, ())) none] }
noncomputable def xSmmu_Right_1 : ((Bool × (List Page) × Int × Mmu) ⊕ ((List Page) × Int × Mmu)) → Ex × St U
  | .inl r => (.ret, { tm := [(1, .v (vO (cK (.ptr 0 0) (cUnit)) (()))), (2, .v (vO (cPair cBool (cUnit)) (r.1, ()))), (8, .v (vA (cPair (cArr 28 16) (cUnit)) (r.2.1, ()))), (9, .v (vO (cPair (cInt .i64) (cUnit)) (r.2.2.1, ())))], hp := [.cells ((cPair cMmu (cUnit) : Cdc U (Mmu × Unit)).enc (r.2.2.2, ())) none] })
  | .inr r => (.exit 2, { tm := [(1, .v (vO (cK (.ptr 0 0) (cUnit)) (()))), (8, .v (vA (cPair (cArr 28 16) (cUnit)) (r.1, ()))), (9, .v (vO (cPair (cInt .i64) (cUnit)) (r.2.1, ())))], hp := [.cells ((cPair cMmu (cUnit) : Cdc U (Mmu × Unit)).enc (r.2.2, ())) none] })
noncomputable def xTmmu_Right_1 (y : ((Bool × (List Page) × Int × Mmu) ⊕ ((List Page) × Int × Mmu))) : Tree (Ex × St U) := .ite y.isLeft (.opt (Bool × (List Page) × Int × Mmu) y.getLeft? fun r => .leaf (.ret, { tm := [(1, .v (vO (cK (.ptr 0 0) (cUnit)) (()))), (2, .v (vO (cPair cBool (cUnit)) (r.1, ()))), (8, .v (vA (cPair (cArr 28 16) (cUnit)) (r.2.1, ()))), (9, .v (vO (cPair (cInt .i64) (cUnit)) (r.2.2.1, ())))], hp := [.cells ((cPair cMmu (cUnit) : Cdc U (Mmu × Unit)).enc (r.2.2.2, ())) none] })) (.opt ((List Page) × Int × Mmu) y.getRight? fun r => .leaf (.exit 2, { tm := [(1, .v (vO (cK (.ptr 0 0) (cUnit)) (()))), (8, .v (vA (cPair (cArr 28 16) (cUnit)) (r.1, ()))), (9, .v (vO (cPair (cInt .i64) (cUnit)) (r.2.1, ())))], hp := [.cells ((cPair cMmu (cUnit) : Cdc U (Mmu × Unit)).enc (r.2.2, ())) none] }))
noncomputable def hmmu_Right_1 : Hd := { keep := [1, 8, 9, 12, 13], xkeep := [1, 2, 8, 9], own := false }
noncomputable def Emmu_Right : Env U := { P := Tryz.prog, cd := cd, fns := fns34, lps := (addL 0 hmmu_Right_0 (mkLoop tAmmu_Right_0 tBmmu_Right_0 Pmmu_Right_0 (Lmmu_Right_0 none) xTmmu_Right_0) (addL 1 hmmu_Right_1 (mkLoop tAmmu_Right_1 tBmmu_Right_1 Pmmu_Right_1 (Lmmu_Right_1 none) xTmmu_Right_1) noL)), frz := fun _r => false, nt := 42, n0 := 0 }
noncomputable def Bmmu_Right_0 : Code := (loopAt (Tryz.f35.body.getD .skip) 0 0).getD .skip
theorem roundmmu_Right_0 (s : Smmu_Right_0) : round Emmu_Right hmmu_Right_0 Bmmu_Right_0 0 (eSmmu_Right_0 s) = (Wmmu_Right_0 none s).map (sumE eSmmu_Right_0 xSmmu_Right_0) := by kernel_rfl
theorem lpmmu_Right_0 : LpOk Emmu_Right Bmmu_Right_0 0 := mkLoop_ok (A := tAmmu_Right_0) (B := tBmmu_Right_0) (f := Pmmu_Right_0) (L := Lmmu_Right_0 none) (tO_ok (cK_ok cUnit_ok) (tA_ok (cPair_ok (cArr_ok 28 16) cUnit_ok) (tO_ok (cPair_ok (cInt_ok .i64) cUnit_ok) tNil_ok))) (bC_ok (cPair_ok cMmu_ok cUnit_ok) bNil_ok) (enc := eSmmu_Right_0) (out := xTmmu_Right_0) (outS := xSmmu_Right_0) (step := Wmmu_Right_0 none) (fun _ => rfl) (fun _ _ => by kernel_rfl) (by kernel_rfl) (fun b => by cases b <;> rfl) roundmmu_Right_0
noncomputable def Bmmu_Right_1 : Code := (loopAt (Tryz.f35.body.getD .skip) 0 1).getD .skip
theorem roundmmu_Right_1 (s : Smmu_Right_1) : round Emmu_Right hmmu_Right_1 Bmmu_Right_1 1 (eSmmu_Right_1 s) = (Wmmu_Right_1 s).map (sumE eSmmu_Right_1 xSmmu_Right_1) := by kernel_rfl
theorem lpmmu_Right_1 : LpOk Emmu_Right Bmmu_Right_1 1 := mkLoop_ok (A := tAmmu_Right_1) (B := tBmmu_Right_1) (f := Pmmu_Right_1) (L := Lmmu_Right_1 none) (tO_ok (cK_ok cUnit_ok) (tA_ok (cPair_ok (cArr_ok 28 16) cUnit_ok) (tO_ok (cPair_ok (cInt_ok .i64) cUnit_ok) (tA_ok (cPair_ok (cArr_ok 28 8) cUnit_ok) (tO_ok (cPair_ok (cInt_ok .i64) cUnit_ok) tNil_ok))))) (bC_ok (cPair_ok cMmu_ok cUnit_ok) bNil_ok) (enc := eSmmu_Right_1) (out := xTmmu_Right_1) (outS := xSmmu_Right_1) (step := Wmmu_Right_1) (fun _ => rfl) (fun _ _ => by kernel_rfl) (by kernel_rfl) (fun b => by cases b <;> rfl) roundmmu_Right_1
theorem runmmu_Right (x : Mmu × Unit) (g : Unit) : execF Emmu_Right Tryz.f35 (Ammu_Right.enc x) (bNil.enc g) = (Tmmu_Right none x.1).map Rmmu_Right := by kernel_rfl
theorem okmmu_Right : FnOk Tryz.prog cd 35 Smmu_Right := mk_ok (E := Emmu_Right) cd_ok fns34_ok Tryz.func35 (by kernel_rfl) (loops_of (addL_ok lpmmu_Right_0 (addL_ok lpmmu_Right_1 noL_ok))) (aA_ok cMmu_ok (aNil_ok)) bNil_ok (T := fun x _ => Tmmu_Right none x.1) (fun _ _ => rfl) runmmu_Right
noncomputable def fns35 := addF 35 true Smmu_Right fns34
theorem fns35_ok : ∀ f q t, fns35 f = some (q, t) → FnOk Tryz.prog cd f t := addF_ok okmmu_Right fns34_ok
/-- emulator/clock.Right -/
noncomputable def Tclock_Right (x0 : Clock) : Tree Bool :=
  .ite (decide ((1 : Int) ≤ x0.period))
    (.ite (decide (x0.period ≤ (65535 : Int)))
      (.ite (decide ((1 : Int) ≤ x0.left))
        (.leaf (decide (x0.left ≤ x0.period)))
        (.leaf (false)))
      (.leaf (false)))
    (.leaf (false))
noncomputable def clock_Right (x0 : Clock) : Option Bool := (Tclock_Right x0).run
noncomputable def Aclock_Right : Arg U (Clock × Unit) := aA cClock (aNil)
noncomputable def Rclock_Right (r : Bool) : List (V U) × List (Blk U) := ([vO cBool r], [])
noncomputable def Sclock_Right : List (V U) → List (Blk U) → Option (FnOut U) := mkSpec Aclock_Right bNil (fun x _ => clock_Right x.1) Rclock_Right
noncomputable def Eclock_Right : Env U := { P := Tryz.prog, cd := cd, fns := fns35, lps := noL, frz := fun _r => false, nt := 23, n0 := 0 }
theorem runclock_Right (x : Clock × Unit) (g : Unit) : execF Eclock_Right Tryz.f36 (Aclock_Right.enc x) (bNil.enc g) = (Tclock_Right x.1).map Rclock_Right := by kernel_rfl
theorem okclock_Right : FnOk Tryz.prog cd 36 Sclock_Right := mk_ok (E := Eclock_Right) cd_ok fns35_ok Tryz.func36 (by kernel_rfl) (noLoops_body (by kernel_rfl)) (aA_ok cClock_ok (aNil_ok)) bNil_ok (T := fun x _ => Tclock_Right x.1) (fun _ _ => rfl) runclock_Right
noncomputable def fns36 := addF 36 true Sclock_Right fns35
theorem fns36_ok : ∀ f q t, fns36 f = some (q, t) → FnOk Tryz.prog cd f t := addF_ok okclock_Right fns35_ok
/-- emulator/line.isByte -/
noncomputable def Tline_isByte (x0 : Int) : Tree Bool :=
  .leaf (decide ((IntKind.wrap .i64 (((BitVec.ofInt 64 x0 &&& BitVec.ofInt 64 (255 : Int)).toNat : Int))) = x0))
noncomputable def line_isByte (x0 : Int) : Option Bool := (Tline_isByte x0).run
noncomputable def Aline_isByte : Arg U (Int × Unit) := aO (cInt .i64) (aNil)
noncomputable def Rline_isByte (r : Bool) : List (V U) × List (Blk U) := ([vO cBool r], [])
noncomputable def Sline_isByte : List (V U) → List (Blk U) → Option (FnOut U) := mkSpec Aline_isByte bNil (fun x _ => line_isByte x.1) Rline_isByte
noncomputable def Eline_isByte : Env U := { P := Tryz.prog, cd := cd, fns := fns36, lps := noL, frz := fun _r => false, nt := 7, n0 := 0 }
theorem runline_isByte (x : Int × Unit) (g : Unit) : execF Eline_isByte Tryz.f91 (Aline_isByte.enc x) (bNil.enc g) = (Tline_isByte x.1).map Rline_isByte := by kernel_rfl
theorem okline_isByte : FnOk Tryz.prog cd 91 Sline_isByte := mk_ok (E := Eline_isByte) cd_ok fns36_ok Tryz.func91 (by kernel_rfl) (noLoops_body (by kernel_rfl)) (aO_ok (cInt_ok .i64) (aNil_ok)) bNil_ok (T := fun x _ => Tline_isByte x.1) (fun _ _ => rfl) runline_isByte
noncomputable def fns91 := addF 91 true Sline_isByte fns36
theorem fns91_ok : ∀ f q t, fns91 f = some (q, t) → FnOk Tryz.prog cd f t := addF_ok okline_isByte fns36_ok
/-- emulator/line.Right -/
noncomputable def Tline_Right (x0 : Line) : Tree Bool :=
  .opt Bool (line_isByte x0.rxData) fun r227 =>
    .ite (r227)
      (.opt Bool (line_isByte x0.txData) fun r228 =>
        .ite (r228)
          (.ite (decide ((0 : Int) ≤ x0.txLeft))
            (.ite (decide (x0.txLeft ≤ (4 : Int)))
              (.ite ((x0.txReady == (decide (x0.txLeft = (0 : Int)))))
                (.leaf (decide ((x0.out.length : Int) ≤ (4096 : Int))))
                (.leaf (false)))
              (.leaf (false)))
            (.leaf (false)))
          (.leaf (false)))
      (.leaf (false))
noncomputable def line_Right (x0 : Line) : Option Bool := (Tline_Right x0).run
noncomputable def Aline_Right : Arg U (Line × Unit) := aA cLine (aNil)
noncomputable def Rline_Right (r : Bool) : List (V U) × List (Blk U) := ([vO cBool r], [])
noncomputable def Sline_Right : List (V U) → List (Blk U) → Option (FnOut U) := mkSpec Aline_Right bNil (fun x _ => line_Right x.1) Rline_Right
noncomputable def Eline_Right : Env U := { P := Tryz.prog, cd := cd, fns := fns91, lps := noL, frz := fun _r => false, nt := 35, n0 := 0 }
theorem runline_Right (x : Line × Unit) (g : Unit) : execF Eline_Right Tryz.f37 (Aline_Right.enc x) (bNil.enc g) = (Tline_Right x.1).map Rline_Right := by kernel_rfl
theorem okline_Right : FnOk Tryz.prog cd 37 Sline_Right := mk_ok (E := Eline_Right) cd_ok fns91_ok Tryz.func37 (by kernel_rfl) (noLoops_body (by kernel_rfl)) (aA_ok cLine_ok (aNil_ok)) bNil_ok (T := fun x _ => Tline_Right x.1) (fun _ _ => rfl) runline_Right
noncomputable def fns37 := addF 37 true Sline_Right fns91
theorem fns37_ok : ∀ f q t, fns37 f = some (q, t) → FnOk Tryz.prog cd f t := addF_ok okline_Right fns91_ok
/-- emulator/drive.Right -/
structure Sdrive_Right_0 where
  t19 : (List (List UInt8))
  t20 : Int
  t21 : Int
  b0 : Drive
noncomputable def Wdrive_Right_0 (s : Sdrive_Right_0) : Tree (Sdrive_Right_0 ⊕ ((Bool × Drive) ⊕ Drive)) :=
  .ite (decide (s.t21 < s.t20))
    (.ite (decide (0 ≤ s.t21))
      (.opt (List UInt8) (s.t19[(s.t21).toNat]?) fun y229 =>
        .ite (!decide ((y229.length : Int) = (128 : Int)))
          (.leaf (.inr (.inl (false, s.b0))))
          (.leaf (.inl (Sdrive_Right_0.mk s.t19 s.t20 (IntKind.wrap .i64 (s.t21 + (1 : Int))) s.b0))))
      .fail)
    (.leaf (.inr (.inr s.b0)))
noncomputable def Ldrive_Right_0 (q : Option Nat) (s : Sdrive_Right_0) : Option ((Bool × Drive) ⊕ Drive) := limQ q (fun s => (Wdrive_Right_0 s).run) s
structure Sdrive_Right_1 where
  t5 : Int
  t30 : (List Int)
  t31 : Int
  t32 : Int
  b0 : Drive
noncomputable def Wdrive_Right_1 (s : Sdrive_Right_1) : Tree (Sdrive_Right_1 ⊕ (Bool ⊕ Unit)) :=
  .ite (decide (s.t32 < s.t31))
    (.ite (decide (0 ≤ s.t32))
      (.opt Int (s.t30[(s.t32).toNat]?) fun y233 =>
        .ite (decide (y233 ≤ s.t5))
          (.leaf (.inr (.inl false)))
          (.ite (decide ((s.b0.sectors.length : Int) ≤ y233))
            (.leaf (.inr (.inl false)))
            (.leaf (.inl (Sdrive_Right_1.mk y233 s.t30 s.t31 (IntKind.wrap .i64 (s.t32 + (1 : Int))) s.b0)))))
      .fail)
    (.leaf (.inr (.inr ())))
noncomputable def Ldrive_Right_1 (q : Option Nat) (s : Sdrive_Right_1) : Option (Bool ⊕ Unit) := limQ q (fun s => (Wdrive_Right_1 s).run) s
noncomputable def Tdrive_Right (q : Option Nat) (x0 : Drive) : Tree Bool :=
  .ite (decide ((x0.sectors.length : Int) < (1 : Int)))
    (.leaf (false))
    (.ite (decide ((256 : Int) < (x0.sectors.length : Int)))
      (.leaf (false))
      (.opt ((Bool × Drive) ⊕ Drive) (Ldrive_Right_0 q (Sdrive_Right_0.mk x0.sectors (x0.sectors.length : Int) (0 : Int) x0)) fun l230 =>
        .ite (l230.isLeft)
          (.opt (Bool × Drive) (l230.getLeft?) fun a231 =>
            .leaf (a231.1))
          (.opt Drive (l230.getRight?) fun b232 =>
            .opt (Bool ⊕ Unit) (Ldrive_Right_1 q (Sdrive_Right_1.mk (-1 : Int) b232.bad (b232.bad.length : Int) (0 : Int) b232)) fun l234 =>
              .ite (l234.isLeft)
                (.opt Bool (l234.getLeft?) fun a235 =>
                  .leaf (a235))
                (.opt Unit (l234.getRight?) fun b236 =>
                  .leaf (true)))))
noncomputable def drive_Right (q : Option Nat) (x0 : Drive) : Option Bool := (Tdrive_Right q x0).run
noncomputable def Adrive_Right : Arg U (Drive × Unit) := aA cDrive (aNil)
noncomputable def Rdrive_Right (r : Bool) : List (V U) × List (Blk U) := ([vO cBool r], [])
noncomputable def Sdrive_Right : List (V U) → List (Blk U) → Option (FnOut U) := mkSpec Adrive_Right bNil (fun x _ => drive_Right none x.1) Rdrive_Right
noncomputable def Pdrive_Right_0 (x : (Unit) × ((List (List UInt8)) × Unit) × (Int × Unit) × (Int × Unit) × Unit) (g : (Drive × Unit) × Unit) : Sdrive_Right_0 := Sdrive_Right_0.mk x.2.1.1 x.2.2.1.1 x.2.2.2.1.1 g.1.1
noncomputable def tAdrive_Right_0 : Tms U ((Unit) × ((List (List UInt8)) × Unit) × (Int × Unit) × (Int × Unit) × Unit) := tO 1 (cK (.ptr 0 0) (cUnit)) (tO 19 (cPair (cSl 9) (cUnit)) (tO 20 (cPair (cInt .i64) (cUnit)) (tO 21 (cPair (cInt .i64) (cUnit)) (tNil))))
noncomputable def tBdrive_Right_0 : Bls U ((Drive × Unit) × Unit) := bC (cPair cDrive (cUnit)) (bNil)
noncomputable def eSdrive_Right_0 (s : Sdrive_Right_0) : St U := { tm := [(1, .v (vO (cK (.ptr 0 0) (cUnit)) (()))), (19, .v (vO (cPair (cSl 9) (cUnit)) (s.t19, ()))), (20, .v (vO (cPair (cInt .i64) (cUnit)) (s.t20, ()))), (21, .v (vO (cPair (cInt .i64) (cUnit)) (s.t21, ())))], hp := [.cells ((cPair cDrive (cUnit) : Cdc U (Drive × Unit)).enc (s.b0, ())) none] }
noncomputable def xSdrive_Right_0 : ((Bool × Drive) ⊕ Drive) → Ex × St U
  | .inl r => (.ret, { tm := [(1, .v (vO (cK (.ptr 0 0) (cUnit)) (()))), (2, .v (vO (cPair cBool (cUnit)) (r.1, ())))], hp := [.cells ((cPair cDrive (cUnit) : Cdc U (Drive × Unit)).enc (r.2, ())) none] })
  | .inr r => (.exit 0, { tm := [(1, .v (vO (cK (.ptr 0 0) (cUnit)) (())))], hp := [.cells ((cPair cDrive (cUnit) : Cdc U (Drive × Unit)).enc (r, ())) none] })
noncomputable def xTdrive_Right_0 (y : ((Bool × Drive) ⊕ Drive)) : Tree (Ex × St U) := .ite y.isLeft (.opt (Bool × Drive) y.getLeft? fun r => .leaf (.ret, { tm := [(1, .v (vO (cK (.ptr 0 0) (cUnit)) (()))), (2, .v (vO (cPair cBool (cUnit)) (r.1, ())))], hp := [.cells ((cPair cDrive (cUnit) : Cdc U (Drive × Unit)).enc (r.2, ())) none] })) (.opt Drive y.getRight? fun r => .leaf (.exit 0, { tm := [(1, .v (vO (cK (.ptr 0 0) (cUnit)) (())))], hp := [.cells ((cPair cDrive (cUnit) : Cdc U (Drive × Unit)).enc (r, ())) none] }))
noncomputable def hdrive_Right_0 : Hd := { keep := [1, 19, 20, 21], xkeep := [1, 2], own := false }
noncomputable def Pdrive_Right_1 (x : (Unit) × (Int × Unit) × ((List Int) × Unit) × (Int × Unit) × (Int × Unit) × Unit) (g : (Drive × Unit) × Unit) : Sdrive_Right_1 := Sdrive_Right_1.mk x.2.1.1 x.2.2.1.1 x.2.2.2.1.1 x.2.2.2.2.1.1 g.1.1
noncomputable def tAdrive_Right_1 : Tms U ((Unit) × (Int × Unit) × ((List Int) × Unit) × (Int × Unit) × (Int × Unit) × Unit) := tO 1 (cK (.ptr 0 0) (cUnit)) (tO 5 (cPair (cInt .i64) (cUnit)) (tO 30 (cPair (cSl 3) (cUnit)) (tO 31 (cPair (cInt .i64) (cUnit)) (tO 32 (cPair (cInt .i64) (cUnit)) (tNil)))))
noncomputable def tBdrive_Right_1 : Bls U ((Drive × Unit) × Unit) := bC (cPair cDrive (cUnit)) (bNil)
noncomputable def eSdrive_Right_1 (s : Sdrive_Right_1) : St U := { tm := [(1, .v (vO (cK (.ptr 0 0) (cUnit)) (()))), (5, .v (vO (cPair (cInt .i64) (cUnit)) (s.t5, ()))), (30, .v (vO (cPair (cSl 3) (cUnit)) (s.t30, ()))), (31, .v (vO (cPair (cInt .i64) (cUnit)) (s.t31, ()))), (32, .v (vO (cPair (cInt .i64) (cUnit)) (s.t32, ())))], hp := [.cells ((cPair cDrive (cUnit) : Cdc U (Drive × Unit)).enc (s.b0, ())) none] }
noncomputable def xSdrive_Right_1 : (Bool ⊕ Unit) → Ex × St U
  | .inl r => (.ret, { tm := [(2, .v (vO (cPair cBool (cUnit)) (r, ())))], hp := [] })
  | .inr r => (.exit 2, { tm := [], hp := [] })
noncomputable def xTdrive_Right_1 (y : (Bool ⊕ Unit)) : Tree (Ex × St U) := .ite y.isLeft (.opt Bool y.getLeft? fun r => .leaf (.ret, { tm := [(2, .v (vO (cPair cBool (cUnit)) (r, ())))], hp := [] })) (.opt Unit y.getRight? fun r => .leaf (.exit 2, { tm := [], hp := [] }))
noncomputable def hdrive_Right_1 : Hd := { keep := [1, 5, 30, 31, 32], xkeep := [2], own := false }
noncomputable def Edrive_Right : Env U := { P := Tryz.prog, cd := cd, fns := fns37, lps := (addL 0 hdrive_Right_0 (mkLoop tAdrive_Right_0 tBdrive_Right_0 Pdrive_Right_0 (Ldrive_Right_0 none) xTdrive_Right_0) (addL 1 hdrive_Right_1 (mkLoop tAdrive_Right_1 tBdrive_Right_1 Pdrive_Right_1 (Ldrive_Right_1 none) xTdrive_Right_1) noL)), frz := fun _r => false, nt := 48, n0 := 0 }
noncomputable def Bdrive_Right_0 : Code := (loopAt (Tryz.f92.body.getD .skip) 0 0).getD .skip
theorem rounddrive_Right_0 (s : Sdrive_Right_0) : round Edrive_Right hdrive_Right_0 Bdrive_Right_0 0 (eSdrive_Right_0 s) = (Wdrive_Right_0 s).map (sumE eSdrive_Right_0 xSdrive_Right_0) := by kernel_rfl
theorem lpdrive_Right_0 : LpOk Edrive_Right Bdrive_Right_0 0 := mkLoop_ok (A := tAdrive_Right_0) (B := tBdrive_Right_0) (f := Pdrive_Right_0) (L := Ldrive_Right_0 none) (tO_ok (cK_ok cUnit_ok) (tO_ok (cPair_ok (cSl_ok 9) cUnit_ok) (tO_ok (cPair_ok (cInt_ok .i64) cUnit_ok) (tO_ok (cPair_ok (cInt_ok .i64) cUnit_ok) tNil_ok)))) (bC_ok (cPair_ok cDrive_ok cUnit_ok) bNil_ok) (enc := eSdrive_Right_0) (out := xTdrive_Right_0) (outS := xSdrive_Right_0) (step := Wdrive_Right_0) (fun _ => rfl) (fun _ _ => by kernel_rfl) (by kernel_rfl) (fun b => by cases b <;> rfl) rounddrive_Right_0
noncomputable def Bdrive_Right_1 : Code := (loopAt (Tryz.f92.body.getD .skip) 0 1).getD .skip
theorem rounddrive_Right_1 (s : Sdrive_Right_1) : round Edrive_Right hdrive_Right_1 Bdrive_Right_1 1 (eSdrive_Right_1 s) = (Wdrive_Right_1 s).map (sumE eSdrive_Right_1 xSdrive_Right_1) := by kernel_rfl
theorem lpdrive_Right_1 : LpOk Edrive_Right Bdrive_Right_1 1 := mkLoop_ok (A := tAdrive_Right_1) (B := tBdrive_Right_1) (f := Pdrive_Right_1) (L := Ldrive_Right_1 none) (tO_ok (cK_ok cUnit_ok) (tO_ok (cPair_ok (cInt_ok .i64) cUnit_ok) (tO_ok (cPair_ok (cSl_ok 3) cUnit_ok) (tO_ok (cPair_ok (cInt_ok .i64) cUnit_ok) (tO_ok (cPair_ok (cInt_ok .i64) cUnit_ok) tNil_ok))))) (bC_ok (cPair_ok cDrive_ok cUnit_ok) bNil_ok) (enc := eSdrive_Right_1) (out := xTdrive_Right_1) (outS := xSdrive_Right_1) (step := Wdrive_Right_1) (fun _ => rfl) (fun _ _ => by kernel_rfl) (by kernel_rfl) (fun b => by cases b <;> rfl) rounddrive_Right_1
theorem rundrive_Right (x : Drive × Unit) (g : Unit) : execF Edrive_Right Tryz.f92 (Adrive_Right.enc x) (bNil.enc g) = (Tdrive_Right none x.1).map Rdrive_Right := by kernel_rfl
theorem okdrive_Right : FnOk Tryz.prog cd 92 Sdrive_Right := mk_ok (E := Edrive_Right) cd_ok fns37_ok Tryz.func92 (by kernel_rfl) (loops_of (addL_ok lpdrive_Right_0 (addL_ok lpdrive_Right_1 noL_ok))) (aA_ok cDrive_ok (aNil_ok)) bNil_ok (T := fun x _ => Tdrive_Right none x.1) (fun _ _ => rfl) rundrive_Right
noncomputable def fns92 := addF 92 true Sdrive_Right fns37
theorem fns92_ok : ∀ f q t, fns92 f = some (q, t) → FnOk Tryz.prog cd f t := addF_ok okdrive_Right fns37_ok
/-- emulator/diskctl.isWord -/
noncomputable def Tdiskctl_isWord (x0 : Int) : Tree Bool :=
  .leaf (decide ((IntKind.wrap .i64 (((BitVec.ofInt 64 x0 &&& BitVec.ofInt 64 (65535 : Int)).toNat : Int))) = x0))
noncomputable def diskctl_isWord (x0 : Int) : Option Bool := (Tdiskctl_isWord x0).run
noncomputable def Adiskctl_isWord : Arg U (Int × Unit) := aO (cInt .i64) (aNil)
noncomputable def Rdiskctl_isWord (r : Bool) : List (V U) × List (Blk U) := ([vO cBool r], [])
noncomputable def Sdiskctl_isWord : List (V U) → List (Blk U) → Option (FnOut U) := mkSpec Adiskctl_isWord bNil (fun x _ => diskctl_isWord x.1) Rdiskctl_isWord
noncomputable def Ediskctl_isWord : Env U := { P := Tryz.prog, cd := cd, fns := fns92, lps := noL, frz := fun _r => false, nt := 7, n0 := 0 }
theorem rundiskctl_isWord (x : Int × Unit) (g : Unit) : execF Ediskctl_isWord Tryz.f93 (Adiskctl_isWord.enc x) (bNil.enc g) = (Tdiskctl_isWord x.1).map Rdiskctl_isWord := by kernel_rfl
theorem okdiskctl_isWord : FnOk Tryz.prog cd 93 Sdiskctl_isWord := mk_ok (E := Ediskctl_isWord) cd_ok fns92_ok Tryz.func93 (by kernel_rfl) (noLoops_body (by kernel_rfl)) (aO_ok (cInt_ok .i64) (aNil_ok)) bNil_ok (T := fun x _ => Tdiskctl_isWord x.1) (fun _ _ => rfl) rundiskctl_isWord
noncomputable def fns93 := addF 93 true Sdiskctl_isWord fns92
theorem fns93_ok : ∀ f q t, fns93 f = some (q, t) → FnOk Tryz.prog cd f t := addF_ok okdiskctl_isWord fns92_ok
/-- emulator/diskctl.Right -/
noncomputable def Tdiskctl_Right (q : Option Nat) (x0 : Disk) : Tree Bool :=
  .opt Bool (drive_Right q x0.drive) fun r237 =>
    .ite (!r237)
      (.leaf (false))
      (.ite (decide (x0.command < (0 : Int)))
        (.leaf (false))
        (.ite (decide ((3 : Int) < x0.command))
          (.leaf (false))
          (.opt Bool (diskctl_isWord x0.words) fun r238 =>
            .ite (!r238)
              (.leaf (false))
              (.opt Bool (diskctl_isWord x0.addr) fun r239 =>
                .ite (!r239)
                  (.leaf (false))
                  (.opt Bool (diskctl_isWord x0.start) fun r240 =>
                    .ite (!r240)
                      (.leaf (false))
                      (.ite (decide ((2 : Int) = 0))
                        .fail
                        (.ite (decide (((x0.addr).tmod (2 : Int)) = (1 : Int)))
                          (.leaf (false))
                          (.ite (decide (x0.left < (0 : Int)))
                            (.leaf (false))
                            (.ite (decide ((8 : Int) < x0.left))
                              (.leaf (false))
                              (.ite (!(x0.ready == (decide (x0.left = (0 : Int)))))
                                (.leaf (false))
                                (.ite (decide (x0.left = (0 : Int)))
                                  (.leaf (true))
                                  (.ite (!decide (x0.command = (0 : Int)))
                                    (.leaf (!decide (x0.words = (0 : Int))))
                                    (.leaf (false))))))))))))))
noncomputable def diskctl_Right (q : Option Nat) (x0 : Disk) : Option Bool := (Tdiskctl_Right q x0).run
noncomputable def Adiskctl_Right : Arg U (Disk × Unit) := aA cDisk (aNil)
noncomputable def Rdiskctl_Right (r : Bool) : List (V U) × List (Blk U) := ([vO cBool r], [])
noncomputable def Sdiskctl_Right : List (V U) → List (Blk U) → Option (FnOut U) := mkSpec Adiskctl_Right bNil (fun x _ => diskctl_Right none x.1) Rdiskctl_Right
noncomputable def Ediskctl_Right : Env U := { P := Tryz.prog, cd := cd, fns := fns93, lps := noL, frz := fun _r => false, nt := 70, n0 := 0 }
theorem rundiskctl_Right (x : Disk × Unit) (g : Unit) : execF Ediskctl_Right Tryz.f38 (Adiskctl_Right.enc x) (bNil.enc g) = (Tdiskctl_Right none x.1).map Rdiskctl_Right := by kernel_rfl
theorem okdiskctl_Right : FnOk Tryz.prog cd 38 Sdiskctl_Right := mk_ok (E := Ediskctl_Right) cd_ok fns93_ok Tryz.func38 (by kernel_rfl) (noLoops_body (by kernel_rfl)) (aA_ok cDisk_ok (aNil_ok)) bNil_ok (T := fun x _ => Tdiskctl_Right none x.1) (fun _ _ => rfl) rundiskctl_Right
noncomputable def fns38 := addF 38 true Sdiskctl_Right fns93
theorem fns38_ok : ∀ f q t, fns38 f = some (q, t) → FnOk Tryz.prog cd f t := addF_ok okdiskctl_Right fns93_ok
/-- emulator/tape.long -/
noncomputable def Ttape_long (x0 : (List UInt8)) : Tree Bool :=
  .leaf (decide ((512 : Int) < (x0.length : Int)))
noncomputable def tape_long (x0 : (List UInt8)) : Option Bool := (Ttape_long x0).run
noncomputable def Atape_long : Arg U ((List UInt8) × Unit) := aO cStr (aNil)
noncomputable def Rtape_long (r : Bool) : List (V U) × List (Blk U) := ([vO cBool r], [])
noncomputable def Stape_long : List (V U) → List (Blk U) → Option (FnOut U) := mkSpec Atape_long bNil (fun x _ => tape_long x.1) Rtape_long
noncomputable def Etape_long : Env U := { P := Tryz.prog, cd := cd, fns := fns38, lps := noL, frz := fun _r => false, nt := 6, n0 := 0 }
theorem runtape_long (x : (List UInt8) × Unit) (g : Unit) : execF Etape_long Tryz.f95 (Atape_long.enc x) (bNil.enc g) = (Ttape_long x.1).map Rtape_long := by kernel_rfl
theorem oktape_long : FnOk Tryz.prog cd 95 Stape_long := mk_ok (E := Etape_long) cd_ok fns38_ok Tryz.func95 (by kernel_rfl) (noLoops_body (by kernel_rfl)) (aO_ok cStr_ok (aNil_ok)) bNil_ok (T := fun x _ => Ttape_long x.1) (fun _ _ => rfl) runtape_long
noncomputable def fns95 := addF 95 true Stape_long fns38
theorem fns95_ok : ∀ f q t, fns95 f = some (q, t) → FnOk Tryz.prog cd f t := addF_ok oktape_long fns38_ok
/-- emulator/tape.isWord -/
noncomputable def Ttape_isWord (x0 : Int) : Tree Bool :=
  .leaf (decide ((IntKind.wrap .i64 (((BitVec.ofInt 64 x0 &&& BitVec.ofInt 64 (65535 : Int)).toNat : Int))) = x0))
noncomputable def tape_isWord (x0 : Int) : Option Bool := (Ttape_isWord x0).run
noncomputable def Atape_isWord : Arg U (Int × Unit) := aO (cInt .i64) (aNil)
noncomputable def Rtape_isWord (r : Bool) : List (V U) × List (Blk U) := ([vO cBool r], [])
noncomputable def Stape_isWord : List (V U) → List (Blk U) → Option (FnOut U) := mkSpec Atape_isWord bNil (fun x _ => tape_isWord x.1) Rtape_isWord
noncomputable def Etape_isWord : Env U := { P := Tryz.prog, cd := cd, fns := fns95, lps := noL, frz := fun _r => false, nt := 7, n0 := 0 }
theorem runtape_isWord (x : Int × Unit) (g : Unit) : execF Etape_isWord Tryz.f96 (Atape_isWord.enc x) (bNil.enc g) = (Ttape_isWord x.1).map Rtape_isWord := by kernel_rfl
theorem oktape_isWord : FnOk Tryz.prog cd 96 Stape_isWord := mk_ok (E := Etape_isWord) cd_ok fns95_ok Tryz.func96 (by kernel_rfl) (noLoops_body (by kernel_rfl)) (aO_ok (cInt_ok .i64) (aNil_ok)) bNil_ok (T := fun x _ => Ttape_isWord x.1) (fun _ _ => rfl) runtape_isWord
noncomputable def fns96 := addF 96 true Stape_isWord fns95
theorem fns96_ok : ∀ f q t, fns96 f = some (q, t) → FnOk Tryz.prog cd f t := addF_ok oktape_isWord fns95_ok
/-- slices.IndexFunc[[]string,string] -/
structure Sslices_IndexFunc_string_string_0 where
  t0 : (List (List UInt8))
  t7 : Int
  t8 : Int
noncomputable def Wslices_IndexFunc_string_string_0 (s : Sslices_IndexFunc_string_string_0) : Tree (Sslices_IndexFunc_string_string_0 ⊕ (Int ⊕ Unit)) :=
  .ite (decide (s.t8 < s.t7))
    (.ite (decide (0 ≤ s.t8))
      (.opt (List UInt8) (s.t0[(s.t8).toNat]?) fun y241 =>
        .opt Bool (tape_long y241) fun r242 =>
          .ite (r242)
            (.leaf (.inr (.inl s.t8)))
            (.leaf (.inl (Sslices_IndexFunc_string_string_0.mk s.t0 s.t7 (IntKind.wrap .i64 (s.t8 + (1 : Int)))))))
      .fail)
    (.leaf (.inr (.inr ())))
noncomputable def Lslices_IndexFunc_string_string_0 (q : Option Nat) (s : Sslices_IndexFunc_string_string_0) : Option (Int ⊕ Unit) := limQ q (fun s => (Wslices_IndexFunc_string_string_0 s).run) s
noncomputable def Tslices_IndexFunc_string_string (q : Option Nat) (x0 : (List (List UInt8))) : Tree Int :=
  .opt (Int ⊕ Unit) (Lslices_IndexFunc_string_string_0 q (Sslices_IndexFunc_string_string_0.mk x0 (x0.length : Int) (0 : Int))) fun l243 =>
    .ite (l243.isLeft)
      (.opt Int (l243.getLeft?) fun a244 =>
        .leaf (a244))
      (.opt Unit (l243.getRight?) fun b245 =>
        .leaf ((-1 : Int)))
noncomputable def slices_IndexFunc_string_string (q : Option Nat) (x0 : (List (List UInt8))) : Option Int := (Tslices_IndexFunc_string_string q x0).run
noncomputable def Aslices_IndexFunc_string_string : Arg U ((List (List UInt8)) × Unit) := aO (cSl 9) (aF 95 [] (aNil))
noncomputable def Gslices_IndexFunc_string_string : Bls U (Unit) := bNil
noncomputable def Rslices_IndexFunc_string_string (_x : (List (List UInt8)) × Unit) (_g : Unit) (r : Int) : List (V U) × List (Blk U) := ([vO (cPair (cInt .i64) (cUnit)) (r, ())], [])
noncomputable def Sslices_IndexFunc_string_string : List (V U) → List (Blk U) → Option (FnOut U) := mkSpecG Aslices_IndexFunc_string_string Gslices_IndexFunc_string_string (fun x _ => slices_IndexFunc_string_string none x.1) Rslices_IndexFunc_string_string
noncomputable def Pslices_IndexFunc_string_string_0 (x : ((List (List UInt8)) × Unit) × (Unit) × (Int × Unit) × (Int × Unit) × Unit) (_g : Unit) : Sslices_IndexFunc_string_string_0 := Sslices_IndexFunc_string_string_0.mk x.1.1 x.2.2.1.1 x.2.2.2.1.1
noncomputable def tAslices_IndexFunc_string_string_0 : Tms U (((List (List UInt8)) × Unit) × (Unit) × (Int × Unit) × (Int × Unit) × Unit) := tO 0 (cPair (cSl 9) (cUnit)) (tO 1 (cK2 (.fn 95 [] []) (cUnit)) (tO 7 (cPair (cInt .i64) (cUnit)) (tO 8 (cPair (cInt .i64) (cUnit)) (tNil))))
noncomputable def tBslices_IndexFunc_string_string_0 : Bls U (Unit) := bNil
noncomputable def eSslices_IndexFunc_string_string_0 (s : Sslices_IndexFunc_string_string_0) : St U := { tm := [(0, .v (vO (cPair (cSl 9) (cUnit)) (s.t0, ()))), (1, .v (vO (cK2 (.fn 95 [] []) (cUnit)) (()))), (7, .v (vO (cPair (cInt .i64) (cUnit)) (s.t7, ()))), (8, .v (vO (cPair (cInt .i64) (cUnit)) (s.t8, ())))], hp := [] }
noncomputable def xSslices_IndexFunc_string_string_0 : (Int ⊕ Unit) → Ex × St U
  | .inl r => (.ret, { tm := [(4, .v (vO (cPair (cInt .i64) (cUnit)) (r, ())))], hp := [] })
  | .inr r => (.exit 0, { tm := [], hp := [] })
noncomputable def xTslices_IndexFunc_string_string_0 (y : (Int ⊕ Unit)) : Tree (Ex × St U) := .ite y.isLeft (.opt Int y.getLeft? fun r => .leaf (.ret, { tm := [(4, .v (vO (cPair (cInt .i64) (cUnit)) (r, ())))], hp := [] })) (.opt Unit y.getRight? fun r => .leaf (.exit 0, { tm := [], hp := [] }))
noncomputable def hslices_IndexFunc_string_string_0 : Hd := { keep := [0, 1, 7, 8], xkeep := [4], own := false }
noncomputable def Eslices_IndexFunc_string_string : Env U := { P := Tryz.prog, cd := cd, fns := fns96, lps := (addL 0 hslices_IndexFunc_string_string_0 (mkLoop tAslices_IndexFunc_string_string_0 tBslices_IndexFunc_string_string_0 Pslices_IndexFunc_string_string_0 (Lslices_IndexFunc_string_string_0 none) xTslices_IndexFunc_string_string_0) noL), frz := fun _r => false, nt := 19, n0 := 0 }
noncomputable def Bslices_IndexFunc_string_string_0 : Code := (loopAt (Tryz.f159.body.getD .skip) 0 0).getD .skip
theorem roundslices_IndexFunc_string_string_0 (s : Sslices_IndexFunc_string_string_0) : round Eslices_IndexFunc_string_string hslices_IndexFunc_string_string_0 Bslices_IndexFunc_string_string_0 0 (eSslices_IndexFunc_string_string_0 s) = (Wslices_IndexFunc_string_string_0 s).map (sumE eSslices_IndexFunc_string_string_0 xSslices_IndexFunc_string_string_0) := by kernel_rfl
theorem lpslices_IndexFunc_string_string_0 : LpOk Eslices_IndexFunc_string_string Bslices_IndexFunc_string_string_0 0 := mkLoop_ok (A := tAslices_IndexFunc_string_string_0) (B := tBslices_IndexFunc_string_string_0) (f := Pslices_IndexFunc_string_string_0) (L := Lslices_IndexFunc_string_string_0 none) (tO_ok (cPair_ok (cSl_ok 9) cUnit_ok) (tO_ok (cK2_ok cUnit_ok) (tO_ok (cPair_ok (cInt_ok .i64) cUnit_ok) (tO_ok (cPair_ok (cInt_ok .i64) cUnit_ok) tNil_ok)))) bNil_ok (enc := eSslices_IndexFunc_string_string_0) (out := xTslices_IndexFunc_string_string_0) (outS := xSslices_IndexFunc_string_string_0) (step := Wslices_IndexFunc_string_string_0) (fun _ => rfl) (fun _ _ => by kernel_rfl) (by kernel_rfl) (fun b => by cases b <;> rfl) roundslices_IndexFunc_string_string_0
theorem rnslices_IndexFunc_string_string (x0 : (List (List UInt8))) : execX false Eslices_IndexFunc_string_string Tryz.f159 (Aslices_IndexFunc_string_string.enc (x0, ())) (Gslices_IndexFunc_string_string.enc ()) = (Tslices_IndexFunc_string_string none x0).map (Rslices_IndexFunc_string_string (x0, ()) ()) := by kernel_rfl
theorem runslices_IndexFunc_string_string : ∀ (x : (List (List UInt8)) × Unit) (g : Unit), execX false Eslices_IndexFunc_string_string Tryz.f159 (Aslices_IndexFunc_string_string.enc x) (Gslices_IndexFunc_string_string.enc g) = (Tslices_IndexFunc_string_string none x.1).map (Rslices_IndexFunc_string_string x g)
  | (x0, ()), () => rnslices_IndexFunc_string_string x0
theorem okslices_IndexFunc_string_string : FnOk Tryz.prog cd 159 Sslices_IndexFunc_string_string := mk_okG (E := Eslices_IndexFunc_string_string) (A := Aslices_IndexFunc_string_string) (B := Gslices_IndexFunc_string_string) false cd_ok fns96_ok Tryz.func159 (by kernel_rfl) (loops_of (addL_ok lpslices_IndexFunc_string_string_0 noL_ok)) (aO_ok (cSl_ok 9) (aF_ok (aNil_ok))) bNil_ok (T := fun (x : (List (List UInt8)) × Unit) (_ : Unit) => Tslices_IndexFunc_string_string none x.1) (fun _ _ => rfl) runslices_IndexFunc_string_string
/-- slices.ContainsFunc[[]string,string] -/
noncomputable def Tslices_ContainsFunc_string_string (q : Option Nat) (x0 : (List (List UInt8))) : Tree Bool :=
  .opt Int (slices_IndexFunc_string_string q x0) fun r246 =>
    .leaf (decide ((0 : Int) ≤ r246))
noncomputable def slices_ContainsFunc_string_string (q : Option Nat) (x0 : (List (List UInt8))) : Option Bool := (Tslices_ContainsFunc_string_string q x0).run
noncomputable def Aslices_ContainsFunc_string_string : Arg U ((List (List UInt8)) × Unit) := aO (cSl 9) (aF 95 [] (aNil))
noncomputable def Gslices_ContainsFunc_string_string : Bls U (Unit) := bNil
noncomputable def Rslices_ContainsFunc_string_string (_x : (List (List UInt8)) × Unit) (_g : Unit) (r : Bool) : List (V U) × List (Blk U) := ([vO (cPair cBool (cUnit)) (r, ())], [])
noncomputable def Sslices_ContainsFunc_string_string : List (V U) → List (Blk U) → Option (FnOut U) := mkSpecG Aslices_ContainsFunc_string_string Gslices_ContainsFunc_string_string (fun x _ => slices_ContainsFunc_string_string none x.1) Rslices_ContainsFunc_string_string
noncomputable def Eslices_ContainsFunc_string_string : Env U := { P := Tryz.prog, cd := cd, fns := (addF 159 false (Sslices_IndexFunc_string_string) fns96), lps := noL, frz := fun _r => false, nt := 9, n0 := 0 }
theorem rnslices_ContainsFunc_string_string (x0 : (List (List UInt8))) : execX false Eslices_ContainsFunc_string_string Tryz.f94 (Aslices_ContainsFunc_string_string.enc (x0, ())) (Gslices_ContainsFunc_string_string.enc ()) = (Tslices_ContainsFunc_string_string none x0).map (Rslices_ContainsFunc_string_string (x0, ()) ()) := by kernel_rfl
theorem runslices_ContainsFunc_string_string : ∀ (x : (List (List UInt8)) × Unit) (g : Unit), execX false Eslices_ContainsFunc_string_string Tryz.f94 (Aslices_ContainsFunc_string_string.enc x) (Gslices_ContainsFunc_string_string.enc g) = (Tslices_ContainsFunc_string_string none x.1).map (Rslices_ContainsFunc_string_string x g)
  | (x0, ()), () => rnslices_ContainsFunc_string_string x0
theorem okslices_ContainsFunc_string_string : FnOk Tryz.prog cd 94 Sslices_ContainsFunc_string_string := mk_okG (E := Eslices_ContainsFunc_string_string) (A := Aslices_ContainsFunc_string_string) (B := Gslices_ContainsFunc_string_string) false cd_ok (addF_ok okslices_IndexFunc_string_string fns96_ok) Tryz.func94 (by kernel_rfl) (noLoops_body (by kernel_rfl)) (aO_ok (cSl_ok 9) (aF_ok (aNil_ok))) bNil_ok (T := fun (x : (List (List UInt8)) × Unit) (_ : Unit) => Tslices_ContainsFunc_string_string none x.1) (fun _ _ => rfl) runslices_ContainsFunc_string_string
/-- emulator/tape.Right -/
noncomputable def Ttape_Right (q : Option Nat) (x0 : Tape) : Tree Bool :=
  .ite (decide ((64 : Int) < (x0.records.length : Int)))
    (.leaf (false))
    (.opt Bool (slices_ContainsFunc_string_string q x0.records) fun r247 =>
      .ite (r247)
        (.leaf (false))
        (.ite (decide (x0.pos < (0 : Int)))
          (.leaf (false))
          (.ite (decide ((x0.records.length : Int) < x0.pos))
            (.leaf (false))
            (.ite (decide ((0 : Int) ≤ x0.command))
              (.ite (decide (x0.command ≤ (6 : Int)))
                (.opt Bool (tape_isWord x0.count) fun r248 =>
                  .ite (r248)
                    (.opt Bool (tape_isWord x0.addr) fun r249 =>
                      .ite (r249)
                        (.ite (decide ((0 : Int) ≤ x0.left))
                          (.ite (decide (x0.left ≤ (16 : Int)))
                            (.leaf ((x0.ready == (decide (x0.left = (0 : Int))))))
                            (.leaf (false)))
                          (.leaf (false)))
                        (.leaf (false)))
                    (.leaf (false)))
                (.leaf (false)))
              (.leaf (false))))))
noncomputable def tape_Right (q : Option Nat) (x0 : Tape) : Option Bool := (Ttape_Right q x0).run
noncomputable def Atape_Right : Arg U (Tape × Unit) := aA cTape (aNil)
noncomputable def Rtape_Right (r : Bool) : List (V U) × List (Blk U) := ([vO cBool r], [])
noncomputable def Stape_Right : List (V U) → List (Blk U) → Option (FnOut U) := mkSpec Atape_Right bNil (fun x _ => tape_Right none x.1) Rtape_Right
noncomputable def Etape_Right : Env U := { P := Tryz.prog, cd := cd, fns := (addF 94 false (Sslices_ContainsFunc_string_string) fns96), lps := noL, frz := fun _r => false, nt := 61, n0 := 0 }
theorem runtape_Right (x : Tape × Unit) (g : Unit) : execF Etape_Right Tryz.f39 (Atape_Right.enc x) (bNil.enc g) = (Ttape_Right none x.1).map Rtape_Right := by kernel_rfl
theorem oktape_Right : FnOk Tryz.prog cd 39 Stape_Right := mk_ok (E := Etape_Right) cd_ok (addF_ok okslices_ContainsFunc_string_string fns96_ok) Tryz.func39 (by kernel_rfl) (noLoops_body (by kernel_rfl)) (aA_ok cTape_ok (aNil_ok)) bNil_ok (T := fun x _ => Ttape_Right none x.1) (fun _ _ => rfl) runtape_Right
noncomputable def fns39 := addF 39 true Stape_Right fns96
theorem fns39_ok : ∀ f q t, fns39 f = some (q, t) → FnOk Tryz.prog cd f t := addF_ok oktape_Right fns96_ok
/-- emulator/bus.Right -/
structure Sbus_Right_0 where
  t30 : (List Line)
  t31 : Int
  t32 : Int
  b0 : Machine
noncomputable def Wbus_Right_0 (s : Sbus_Right_0) : Tree (Sbus_Right_0 ⊕ ((Bool × Machine) ⊕ Machine)) :=
  .ite (decide (s.t32 < s.t31))
    (.ite (decide (0 ≤ s.t32))
      (.opt Line (s.t30[(s.t32).toNat]?) fun y253 =>
        .opt Bool (line_Right y253) fun r254 =>
          .ite (!r254)
            (.leaf (.inr (.inl (false, s.b0))))
            (.leaf (.inl (Sbus_Right_0.mk s.t30 s.t31 (IntKind.wrap .i64 (s.t32 + (1 : Int))) s.b0))))
      .fail)
    (.leaf (.inr (.inr s.b0)))
noncomputable def Lbus_Right_0 (q : Option Nat) (s : Sbus_Right_0) : Option ((Bool × Machine) ⊕ Machine) := limQ q (fun s => (Wbus_Right_0 s).run) s
noncomputable def Tbus_Right (q : Option Nat) (x0 : Machine) : Tree Bool :=
  .ite (decide ((4 : Int) < (x0.lines.length : Int)))
    (.leaf (false))
    (.opt Bool (memory_Right q x0.mem x0.bad) fun r250 =>
      .ite (!r250)
        (.leaf (false))
        (.opt Bool (mmu_Right q x0.mmu) fun r251 =>
          .ite (!r251)
            (.leaf (false))
            (.opt Bool (clock_Right x0.clock) fun r252 =>
              .ite (!r252)
                (.leaf (false))
                (.opt ((Bool × Machine) ⊕ Machine) (Lbus_Right_0 q (Sbus_Right_0.mk x0.lines (x0.lines.length : Int) (0 : Int) x0)) fun l255 =>
                  .ite (l255.isLeft)
                    (.opt (Bool × Machine) (l255.getLeft?) fun a256 =>
                      .leaf (a256.1))
                    (.opt Machine (l255.getRight?) fun b257 =>
                      .opt Bool (diskctl_Right q b257.disk) fun r258 =>
                        .ite (r258)
                          (.opt Bool (tape_Right q b257.tape) fun r259 =>
                            .leaf (r259))
                          (.leaf (false)))))))
noncomputable def bus_Right (q : Option Nat) (x0 : Machine) : Option Bool := (Tbus_Right q x0).run
noncomputable def Abus_Right : Arg U (Machine × Unit) := aA cMachine (aNil)
noncomputable def Rbus_Right (r : Bool) : List (V U) × List (Blk U) := ([vO cBool r], [])
noncomputable def Sbus_Right : List (V U) → List (Blk U) → Option (FnOut U) := mkSpec Abus_Right bNil (fun x _ => bus_Right none x.1) Rbus_Right
noncomputable def Pbus_Right_0 (x : (Unit) × ((List Line) × Unit) × (Int × Unit) × (Int × Unit) × Unit) (g : (Machine × Unit) × Unit) : Sbus_Right_0 := Sbus_Right_0.mk x.2.1.1 x.2.2.1.1 x.2.2.2.1.1 g.1.1
noncomputable def tAbus_Right_0 : Tms U ((Unit) × ((List Line) × Unit) × (Int × Unit) × (Int × Unit) × Unit) := tO 1 (cK (.ptr 0 0) (cUnit)) (tO 30 (cPair (cSl 55) (cUnit)) (tO 31 (cPair (cInt .i64) (cUnit)) (tO 32 (cPair (cInt .i64) (cUnit)) (tNil))))
noncomputable def tBbus_Right_0 : Bls U ((Machine × Unit) × Unit) := bC (cPair cMachine (cUnit)) (bNil)
noncomputable def eSbus_Right_0 (s : Sbus_Right_0) : St U := { tm := [(1, .v (vO (cK (.ptr 0 0) (cUnit)) (()))), (30, .v (vO (cPair (cSl 55) (cUnit)) (s.t30, ()))), (31, .v (vO (cPair (cInt .i64) (cUnit)) (s.t31, ()))), (32, .v (vO (cPair (cInt .i64) (cUnit)) (s.t32, ())))], hp := [.cells ((cPair cMachine (cUnit) : Cdc U (Machine × Unit)).enc (s.b0, ())) none] }
noncomputable def xSbus_Right_0 : ((Bool × Machine) ⊕ Machine) → Ex × St U
  | .inl r => (.ret, { tm := [(1, .v (vO (cK (.ptr 0 0) (cUnit)) (()))), (2, .v (vO (cPair cBool (cUnit)) (r.1, ())))], hp := [.cells ((cPair cMachine (cUnit) : Cdc U (Machine × Unit)).enc (r.2, ())) none] })
  | .inr r => (.exit 0, { tm := [(1, .v (vO (cK (.ptr 0 0) (cUnit)) (())))], hp := [.cells ((cPair cMachine (cUnit) : Cdc U (Machine × Unit)).enc (r, ())) none] })
noncomputable def xTbus_Right_0 (y : ((Bool × Machine) ⊕ Machine)) : Tree (Ex × St U) := .ite y.isLeft (.opt (Bool × Machine) y.getLeft? fun r => .leaf (.ret, { tm := [(1, .v (vO (cK (.ptr 0 0) (cUnit)) (()))), (2, .v (vO (cPair cBool (cUnit)) (r.1, ())))], hp := [.cells ((cPair cMachine (cUnit) : Cdc U (Machine × Unit)).enc (r.2, ())) none] })) (.opt Machine y.getRight? fun r => .leaf (.exit 0, { tm := [(1, .v (vO (cK (.ptr 0 0) (cUnit)) (())))], hp := [.cells ((cPair cMachine (cUnit) : Cdc U (Machine × Unit)).enc (r, ())) none] }))
noncomputable def hbus_Right_0 : Hd := { keep := [1, 30, 31, 32], xkeep := [1, 2], own := false }
noncomputable def Ebus_Right : Env U := { P := Tryz.prog, cd := cd, fns := fns39, lps := (addL 0 hbus_Right_0 (mkLoop tAbus_Right_0 tBbus_Right_0 Pbus_Right_0 (Lbus_Right_0 none) xTbus_Right_0) noL), frz := fun _r => false, nt := 48, n0 := 0 }
noncomputable def Bbus_Right_0 : Code := (loopAt (Tryz.f11.body.getD .skip) 0 0).getD .skip
theorem roundbus_Right_0 (s : Sbus_Right_0) : round Ebus_Right hbus_Right_0 Bbus_Right_0 0 (eSbus_Right_0 s) = (Wbus_Right_0 s).map (sumE eSbus_Right_0 xSbus_Right_0) := by kernel_rfl
theorem lpbus_Right_0 : LpOk Ebus_Right Bbus_Right_0 0 := mkLoop_ok (A := tAbus_Right_0) (B := tBbus_Right_0) (f := Pbus_Right_0) (L := Lbus_Right_0 none) (tO_ok (cK_ok cUnit_ok) (tO_ok (cPair_ok (cSl_ok 55) cUnit_ok) (tO_ok (cPair_ok (cInt_ok .i64) cUnit_ok) (tO_ok (cPair_ok (cInt_ok .i64) cUnit_ok) tNil_ok)))) (bC_ok (cPair_ok cMachine_ok cUnit_ok) bNil_ok) (enc := eSbus_Right_0) (out := xTbus_Right_0) (outS := xSbus_Right_0) (step := Wbus_Right_0) (fun _ => rfl) (fun _ _ => by kernel_rfl) (by kernel_rfl) (fun b => by cases b <;> rfl) roundbus_Right_0
theorem runbus_Right (x : Machine × Unit) (g : Unit) : execF Ebus_Right Tryz.f11 (Abus_Right.enc x) (bNil.enc g) = (Tbus_Right none x.1).map Rbus_Right := by kernel_rfl
theorem okbus_Right : FnOk Tryz.prog cd 11 Sbus_Right := mk_ok (E := Ebus_Right) cd_ok fns39_ok Tryz.func11 (by kernel_rfl) (loops_of (addL_ok lpbus_Right_0 noL_ok)) (aA_ok cMachine_ok (aNil_ok)) bNil_ok (T := fun x _ => Tbus_Right none x.1) (fun _ _ => rfl) runbus_Right
noncomputable def fns11 := addF 11 true Sbus_Right fns39
theorem fns11_ok : ∀ f q t, fns11 f = some (q, t) → FnOk Tryz.prog cd f t := addF_ok okbus_Right fns39_ok
/-- emulator/clock.Requests -/
noncomputable def Tclock_Requests (x0 : Clock) : Tree (List Request) :=
  .ite (!x0.enable)
    (.leaf ([]))
    (.ite (!x0.ready)
      (.leaf ([]))
      (.leaf ([Request.mk (6 : Int) (64 : Int)])))
noncomputable def clock_Requests (x0 : Clock) : Option (List Request) := (Tclock_Requests x0).run
noncomputable def Aclock_Requests : Arg U (Clock × Unit) := aA cClock (aNil)
noncomputable def Rclock_Requests (r : (List Request)) : List (V U) × List (Blk U) := ([vO (cSl 84) r], [])
noncomputable def Sclock_Requests : List (V U) → List (Blk U) → Option (FnOut U) := mkSpec Aclock_Requests bNil (fun x _ => clock_Requests x.1) Rclock_Requests
noncomputable def Eclock_Requests : Env U := { P := Tryz.prog, cd := cd, fns := fns11, lps := noL, frz := fun _r => false, nt := 13, n0 := 0 }
theorem runclock_Requests (x : Clock × Unit) (g : Unit) : execF Eclock_Requests Tryz.f120 (Aclock_Requests.enc x) (bNil.enc g) = (Tclock_Requests x.1).map Rclock_Requests := by kernel_rfl
theorem okclock_Requests : FnOk Tryz.prog cd 120 Sclock_Requests := mk_ok (E := Eclock_Requests) cd_ok fns11_ok Tryz.func120 (by kernel_rfl) (noLoops_body (by kernel_rfl)) (aA_ok cClock_ok (aNil_ok)) bNil_ok (T := fun x _ => Tclock_Requests x.1) (fun _ _ => rfl) runclock_Requests
noncomputable def fns120 := addF 120 true Sclock_Requests fns11
theorem fns120_ok : ∀ f q t, fns120 f = some (q, t) → FnOk Tryz.prog cd f t := addF_ok okclock_Requests fns11_ok
/-- emulator/bus.theClock$3 -/
noncomputable def Tbus_theClock_3 (x0 : Machine) : Tree (List Request) :=
  .opt (List Request) (clock_Requests x0.clock) fun r260 =>
    .leaf (r260)
noncomputable def bus_theClock_3 (x0 : Machine) : Option (List Request) := (Tbus_theClock_3 x0).run
noncomputable def Abus_theClock_3 : Arg U (Machine × Unit) := aA cMachine (aNil)
noncomputable def Rbus_theClock_3 (r : (List Request)) : List (V U) × List (Blk U) := ([vO (cSl 84) r], [])
noncomputable def Sbus_theClock_3 : List (V U) → List (Blk U) → Option (FnOut U) := mkSpec Abus_theClock_3 bNil (fun x _ => bus_theClock_3 x.1) Rbus_theClock_3
noncomputable def Ebus_theClock_3 : Env U := { P := Tryz.prog, cd := cd, fns := fns120, lps := noL, frz := fun _r => false, nt := 6, n0 := 0 }
theorem runbus_theClock_3 (x : Machine × Unit) (g : Unit) : execF Ebus_theClock_3 Tryz.f119 (Abus_theClock_3.enc x) (bNil.enc g) = (Tbus_theClock_3 x.1).map Rbus_theClock_3 := by kernel_rfl
theorem okbus_theClock_3 : FnOk Tryz.prog cd 119 Sbus_theClock_3 := mk_ok (E := Ebus_theClock_3) cd_ok fns120_ok Tryz.func119 (by kernel_rfl) (noLoops_body (by kernel_rfl)) (aA_ok cMachine_ok (aNil_ok)) bNil_ok (T := fun x _ => Tbus_theClock_3 x.1) (fun _ _ => rfl) runbus_theClock_3
noncomputable def fns119 := addF 119 true Sbus_theClock_3 fns120
theorem fns119_ok : ∀ f q t, fns119 f = some (q, t) → FnOk Tryz.prog cd f t := addF_ok okbus_theClock_3 fns120_ok
/-- emulator/diskctl.Requests -/
noncomputable def Tdiskctl_Requests (x0 : Disk) : Tree (List Request) :=
  .ite (!x0.enable)
    (.leaf ([]))
    (.ite (!x0.ready)
      (.leaf ([]))
      (.leaf ([Request.mk (5 : Int) (160 : Int)])))
noncomputable def diskctl_Requests (x0 : Disk) : Option (List Request) := (Tdiskctl_Requests x0).run
noncomputable def Adiskctl_Requests : Arg U (Disk × Unit) := aA cDisk (aNil)
noncomputable def Rdiskctl_Requests (r : (List Request)) : List (V U) × List (Blk U) := ([vO (cSl 84) r], [])
noncomputable def Sdiskctl_Requests : List (V U) → List (Blk U) → Option (FnOut U) := mkSpec Adiskctl_Requests bNil (fun x _ => diskctl_Requests x.1) Rdiskctl_Requests
noncomputable def Ediskctl_Requests : Env U := { P := Tryz.prog, cd := cd, fns := fns119, lps := noL, frz := fun _r => false, nt := 13, n0 := 0 }
theorem rundiskctl_Requests (x : Disk × Unit) (g : Unit) : execF Ediskctl_Requests Tryz.f129 (Adiskctl_Requests.enc x) (bNil.enc g) = (Tdiskctl_Requests x.1).map Rdiskctl_Requests := by kernel_rfl
theorem okdiskctl_Requests : FnOk Tryz.prog cd 129 Sdiskctl_Requests := mk_ok (E := Ediskctl_Requests) cd_ok fns119_ok Tryz.func129 (by kernel_rfl) (noLoops_body (by kernel_rfl)) (aA_ok cDisk_ok (aNil_ok)) bNil_ok (T := fun x _ => Tdiskctl_Requests x.1) (fun _ _ => rfl) rundiskctl_Requests
noncomputable def fns129 := addF 129 true Sdiskctl_Requests fns119
theorem fns129_ok : ∀ f q t, fns129 f = some (q, t) → FnOk Tryz.prog cd f t := addF_ok okdiskctl_Requests fns119_ok
/-- emulator/bus.theDisk$3 -/
noncomputable def Tbus_theDisk_3 (x0 : Machine) : Tree (List Request) :=
  .opt (List Request) (diskctl_Requests x0.disk) fun r261 =>
    .leaf (r261)
noncomputable def bus_theDisk_3 (x0 : Machine) : Option (List Request) := (Tbus_theDisk_3 x0).run
noncomputable def Abus_theDisk_3 : Arg U (Machine × Unit) := aA cMachine (aNil)
noncomputable def Rbus_theDisk_3 (r : (List Request)) : List (V U) × List (Blk U) := ([vO (cSl 84) r], [])
noncomputable def Sbus_theDisk_3 : List (V U) → List (Blk U) → Option (FnOut U) := mkSpec Abus_theDisk_3 bNil (fun x _ => bus_theDisk_3 x.1) Rbus_theDisk_3
noncomputable def Ebus_theDisk_3 : Env U := { P := Tryz.prog, cd := cd, fns := fns129, lps := noL, frz := fun _r => false, nt := 6, n0 := 0 }
theorem runbus_theDisk_3 (x : Machine × Unit) (g : Unit) : execF Ebus_theDisk_3 Tryz.f128 (Abus_theDisk_3.enc x) (bNil.enc g) = (Tbus_theDisk_3 x.1).map Rbus_theDisk_3 := by kernel_rfl
theorem okbus_theDisk_3 : FnOk Tryz.prog cd 128 Sbus_theDisk_3 := mk_ok (E := Ebus_theDisk_3) cd_ok fns129_ok Tryz.func128 (by kernel_rfl) (noLoops_body (by kernel_rfl)) (aA_ok cMachine_ok (aNil_ok)) bNil_ok (T := fun x _ => Tbus_theDisk_3 x.1) (fun _ _ => rfl) runbus_theDisk_3
noncomputable def fns128 := addF 128 true Sbus_theDisk_3 fns129
theorem fns128_ok : ∀ f q t, fns128 f = some (q, t) → FnOk Tryz.prog cd f t := addF_ok okbus_theDisk_3 fns129_ok
/-- emulator/tape.Requests -/
noncomputable def Ttape_Requests (x0 : Tape) : Tree (List Request) :=
  .ite (!x0.enable)
    (.leaf ([]))
    (.ite (!x0.ready)
      (.leaf ([]))
      (.leaf ([Request.mk (5 : Int) (164 : Int)])))
noncomputable def tape_Requests (x0 : Tape) : Option (List Request) := (Ttape_Requests x0).run
noncomputable def Atape_Requests : Arg U (Tape × Unit) := aA cTape (aNil)
noncomputable def Rtape_Requests (r : (List Request)) : List (V U) × List (Blk U) := ([vO (cSl 84) r], [])
noncomputable def Stape_Requests : List (V U) → List (Blk U) → Option (FnOut U) := mkSpec Atape_Requests bNil (fun x _ => tape_Requests x.1) Rtape_Requests
noncomputable def Etape_Requests : Env U := { P := Tryz.prog, cd := cd, fns := fns128, lps := noL, frz := fun _r => false, nt := 13, n0 := 0 }
theorem runtape_Requests (x : Tape × Unit) (g : Unit) : execF Etape_Requests Tryz.f138 (Atape_Requests.enc x) (bNil.enc g) = (Ttape_Requests x.1).map Rtape_Requests := by kernel_rfl
theorem oktape_Requests : FnOk Tryz.prog cd 138 Stape_Requests := mk_ok (E := Etape_Requests) cd_ok fns128_ok Tryz.func138 (by kernel_rfl) (noLoops_body (by kernel_rfl)) (aA_ok cTape_ok (aNil_ok)) bNil_ok (T := fun x _ => Ttape_Requests x.1) (fun _ _ => rfl) runtape_Requests
noncomputable def fns138 := addF 138 true Stape_Requests fns128
theorem fns138_ok : ∀ f q t, fns138 f = some (q, t) → FnOk Tryz.prog cd f t := addF_ok oktape_Requests fns128_ok
/-- emulator/bus.theTape$3 -/
noncomputable def Tbus_theTape_3 (x0 : Machine) : Tree (List Request) :=
  .opt (List Request) (tape_Requests x0.tape) fun r262 =>
    .leaf (r262)
noncomputable def bus_theTape_3 (x0 : Machine) : Option (List Request) := (Tbus_theTape_3 x0).run
noncomputable def Abus_theTape_3 : Arg U (Machine × Unit) := aA cMachine (aNil)
noncomputable def Rbus_theTape_3 (r : (List Request)) : List (V U) × List (Blk U) := ([vO (cSl 84) r], [])
noncomputable def Sbus_theTape_3 : List (V U) → List (Blk U) → Option (FnOut U) := mkSpec Abus_theTape_3 bNil (fun x _ => bus_theTape_3 x.1) Rbus_theTape_3
noncomputable def Ebus_theTape_3 : Env U := { P := Tryz.prog, cd := cd, fns := fns138, lps := noL, frz := fun _r => false, nt := 6, n0 := 0 }
theorem runbus_theTape_3 (x : Machine × Unit) (g : Unit) : execF Ebus_theTape_3 Tryz.f137 (Abus_theTape_3.enc x) (bNil.enc g) = (Tbus_theTape_3 x.1).map Rbus_theTape_3 := by kernel_rfl
theorem okbus_theTape_3 : FnOk Tryz.prog cd 137 Sbus_theTape_3 := mk_ok (E := Ebus_theTape_3) cd_ok fns138_ok Tryz.func137 (by kernel_rfl) (noLoops_body (by kernel_rfl)) (aA_ok cMachine_ok (aNil_ok)) bNil_ok (T := fun x _ => Tbus_theTape_3 x.1) (fun _ _ => rfl) runbus_theTape_3
noncomputable def fns137 := addF 137 true Sbus_theTape_3 fns138
theorem fns137_ok : ∀ f q t, fns137 f = some (q, t) → FnOk Tryz.prog cd f t := addF_ok okbus_theTape_3 fns138_ok
/-- emulator/line.Requests -/
noncomputable def Tline_Requests (x0 : Line) (x1 : Int) : Tree (List Request) :=
  .ite (decide (x1 < (0 : Int)))
    (.leaf ([]))
    (.ite (decide ((4 : Int) ≤ x1))
      (.leaf ([]))
      (.ite (x0.rxEnable)
        (.ite (x0.rxReady)
          (.ite (decide (([Request.mk (4 : Int) (IntKind.wrap .i64 ((128 : Int) + (IntKind.wrap .i64 ((8 : Int) * x1))))]).length * 16 ≤ 140737488355328))
            (.ite (x0.txEnable)
              (.ite (x0.txReady)
                (.ite (decide ((([Request.mk (4 : Int) (IntKind.wrap .i64 ((128 : Int) + (IntKind.wrap .i64 ((8 : Int) * x1))))]).length + ([Request.mk (4 : Int) (IntKind.wrap .i64 ((132 : Int) + (IntKind.wrap .i64 ((8 : Int) * x1))))]).length) * 16 ≤ 140737488355328))
                  (.leaf (([Request.mk (4 : Int) (IntKind.wrap .i64 ((128 : Int) + (IntKind.wrap .i64 ((8 : Int) * x1))))]) ++ ([Request.mk (4 : Int) (IntKind.wrap .i64 ((132 : Int) + (IntKind.wrap .i64 ((8 : Int) * x1))))])))
                  .fail)
                (.leaf ([Request.mk (4 : Int) (IntKind.wrap .i64 ((128 : Int) + (IntKind.wrap .i64 ((8 : Int) * x1))))])))
              (.leaf ([Request.mk (4 : Int) (IntKind.wrap .i64 ((128 : Int) + (IntKind.wrap .i64 ((8 : Int) * x1))))])))
            .fail)
          (.ite (x0.txEnable)
            (.ite (x0.txReady)
              (.ite (decide (([Request.mk (4 : Int) (IntKind.wrap .i64 ((132 : Int) + (IntKind.wrap .i64 ((8 : Int) * x1))))]).length * 16 ≤ 140737488355328))
                (.leaf ([Request.mk (4 : Int) (IntKind.wrap .i64 ((132 : Int) + (IntKind.wrap .i64 ((8 : Int) * x1))))]))
                .fail)
              (.leaf ([])))
            (.leaf ([]))))
        (.ite (x0.txEnable)
          (.ite (x0.txReady)
            (.ite (decide (([Request.mk (4 : Int) (IntKind.wrap .i64 ((132 : Int) + (IntKind.wrap .i64 ((8 : Int) * x1))))]).length * 16 ≤ 140737488355328))
              (.leaf ([Request.mk (4 : Int) (IntKind.wrap .i64 ((132 : Int) + (IntKind.wrap .i64 ((8 : Int) * x1))))]))
              .fail)
            (.leaf ([])))
          (.leaf ([])))))
noncomputable def line_Requests (x0 : Line) (x1 : Int) : Option (List Request) := (Tline_Requests x0 x1).run
noncomputable def Aline_Requests : Arg U (Line × Int × Unit) := aA cLine (aO (cInt .i64) (aNil))
noncomputable def Rline_Requests (r : (List Request)) : List (V U) × List (Blk U) := ([vO (cSl 84) r], [])
noncomputable def Sline_Requests : List (V U) → List (Blk U) → Option (FnOut U) := mkSpec Aline_Requests bNil (fun x _ => line_Requests x.1 x.2.1) Rline_Requests
noncomputable def Eline_Requests : Env U := { P := Tryz.prog, cd := cd, fns := fns137, lps := noL, frz := fun _r => false, nt := 39, n0 := 0 }
theorem runline_Requests (x : Line × Int × Unit) (g : Unit) : execF Eline_Requests Tryz.f147 (Aline_Requests.enc x) (bNil.enc g) = (Tline_Requests x.1 x.2.1).map Rline_Requests := by kernel_rfl
theorem okline_Requests : FnOk Tryz.prog cd 147 Sline_Requests := mk_ok (E := Eline_Requests) cd_ok fns137_ok Tryz.func147 (by kernel_rfl) (noLoops_body (by kernel_rfl)) (aA_ok cLine_ok (aO_ok (cInt_ok .i64) (aNil_ok))) bNil_ok (T := fun x _ => Tline_Requests x.1 x.2.1) (fun _ _ => rfl) runline_Requests
noncomputable def fns147 := addF 147 true Sline_Requests fns137
theorem fns147_ok : ∀ f q t, fns147 f = some (q, t) → FnOk Tryz.prog cd f t := addF_ok okline_Requests fns137_ok
/-- emulator/clock.Accept -/
noncomputable def Tclock_Accept (x0 : Clock) (x1 : Int) : Tree Clock :=
  .ite (x0.ready)
    (.leaf (Clock.mk x0.enable (!decide (x1 = (64 : Int))) x0.period x0.left))
    (.leaf (Clock.mk x0.enable false x0.period x0.left))
noncomputable def clock_Accept (x0 : Clock) (x1 : Int) : Option Clock := (Tclock_Accept x0 x1).run
noncomputable def Aclock_Accept : Arg U (Clock × Int × Unit) := aA cClock (aO (cInt .i64) (aNil))
noncomputable def Rclock_Accept (r : Clock) : List (V U) × List (Blk U) := ([vA cClock r], [])
noncomputable def Sclock_Accept : List (V U) → List (Blk U) → Option (FnOut U) := mkSpec Aclock_Accept bNil (fun x _ => clock_Accept x.1 x.2.1) Rclock_Accept
noncomputable def Eclock_Accept : Env U := { P := Tryz.prog, cd := cd, fns := fns147, lps := noL, frz := fun _r => false, nt := 13, n0 := 0 }
theorem runclock_Accept (x : Clock × Int × Unit) (g : Unit) : execF Eclock_Accept Tryz.f122 (Aclock_Accept.enc x) (bNil.enc g) = (Tclock_Accept x.1 x.2.1).map Rclock_Accept := by kernel_rfl
theorem okclock_Accept : FnOk Tryz.prog cd 122 Sclock_Accept := mk_ok (E := Eclock_Accept) cd_ok fns147_ok Tryz.func122 (by kernel_rfl) (noLoops_body (by kernel_rfl)) (aA_ok cClock_ok (aO_ok (cInt_ok .i64) (aNil_ok))) bNil_ok (T := fun x _ => Tclock_Accept x.1 x.2.1) (fun _ _ => rfl) runclock_Accept
noncomputable def fns122 := addF 122 true Sclock_Accept fns147
theorem fns122_ok : ∀ f q t, fns122 f = some (q, t) → FnOk Tryz.prog cd f t := addF_ok okclock_Accept fns147_ok
/-- emulator/bus.theClock$1 -/
noncomputable def Tbus_theClock_1 (x0 : Machine) (x1 : Clock) : Tree Machine :=
  .leaf (Machine.mk x0.cpu x0.mem x0.bad x0.mmu x1 x0.lines x0.disk x0.tape x0.now x0.halted x0.waiting x0.power x0.powerTrap)
noncomputable def bus_theClock_1 (x0 : Machine) (x1 : Clock) : Option Machine := (Tbus_theClock_1 x0 x1).run
noncomputable def Abus_theClock_1 : Arg U (Machine × Clock × Unit) := aA cMachine (aA cClock (aNil))
noncomputable def Rbus_theClock_1 (r : Machine) : List (V U) × List (Blk U) := ([vA cMachine r], [])
noncomputable def Sbus_theClock_1 : List (V U) → List (Blk U) → Option (FnOut U) := mkSpec Abus_theClock_1 bNil (fun x _ => bus_theClock_1 x.1 x.2.1) Rbus_theClock_1
noncomputable def Ebus_theClock_1 : Env U := { P := Tryz.prog, cd := cd, fns := fns122, lps := noL, frz := fun _r => false, nt := 8, n0 := 0 }
theorem runbus_theClock_1 (x : Machine × Clock × Unit) (g : Unit) : execF Ebus_theClock_1 Tryz.f116 (Abus_theClock_1.enc x) (bNil.enc g) = (Tbus_theClock_1 x.1 x.2.1).map Rbus_theClock_1 := by kernel_rfl
theorem okbus_theClock_1 : FnOk Tryz.prog cd 116 Sbus_theClock_1 := mk_ok (E := Ebus_theClock_1) cd_ok fns122_ok Tryz.func116 (by kernel_rfl) (noLoops_body (by kernel_rfl)) (aA_ok cMachine_ok (aA_ok cClock_ok (aNil_ok))) bNil_ok (T := fun x _ => Tbus_theClock_1 x.1 x.2.1) (fun _ _ => rfl) runbus_theClock_1
noncomputable def fns116 := addF 116 true Sbus_theClock_1 fns122
theorem fns116_ok : ∀ f q t, fns116 f = some (q, t) → FnOk Tryz.prog cd f t := addF_ok okbus_theClock_1 fns122_ok
/-- emulator/diskctl.Accept -/
noncomputable def Tdiskctl_Accept (x0 : Disk) (x1 : Int) : Tree Disk :=
  .ite (x0.enable)
    (.leaf (Disk.mk x0.drive (!decide (x1 = (160 : Int))) x0.ready x0.error x0.command x0.words x0.addr x0.start x0.left))
    (.leaf (Disk.mk x0.drive false x0.ready x0.error x0.command x0.words x0.addr x0.start x0.left))
noncomputable def diskctl_Accept (x0 : Disk) (x1 : Int) : Option Disk := (Tdiskctl_Accept x0 x1).run
noncomputable def Adiskctl_Accept : Arg U (Disk × Int × Unit) := aA cDisk (aO (cInt .i64) (aNil))
noncomputable def Rdiskctl_Accept (r : Disk) : List (V U) × List (Blk U) := ([vA cDisk r], [])
noncomputable def Sdiskctl_Accept : List (V U) → List (Blk U) → Option (FnOut U) := mkSpec Adiskctl_Accept bNil (fun x _ => diskctl_Accept x.1 x.2.1) Rdiskctl_Accept
noncomputable def Ediskctl_Accept : Env U := { P := Tryz.prog, cd := cd, fns := fns116, lps := noL, frz := fun _r => false, nt := 13, n0 := 0 }
theorem rundiskctl_Accept (x : Disk × Int × Unit) (g : Unit) : execF Ediskctl_Accept Tryz.f131 (Adiskctl_Accept.enc x) (bNil.enc g) = (Tdiskctl_Accept x.1 x.2.1).map Rdiskctl_Accept := by kernel_rfl
theorem okdiskctl_Accept : FnOk Tryz.prog cd 131 Sdiskctl_Accept := mk_ok (E := Ediskctl_Accept) cd_ok fns116_ok Tryz.func131 (by kernel_rfl) (noLoops_body (by kernel_rfl)) (aA_ok cDisk_ok (aO_ok (cInt_ok .i64) (aNil_ok))) bNil_ok (T := fun x _ => Tdiskctl_Accept x.1 x.2.1) (fun _ _ => rfl) rundiskctl_Accept
noncomputable def fns131 := addF 131 true Sdiskctl_Accept fns116
theorem fns131_ok : ∀ f q t, fns131 f = some (q, t) → FnOk Tryz.prog cd f t := addF_ok okdiskctl_Accept fns116_ok
/-- emulator/bus.theDisk$1 -/
noncomputable def Tbus_theDisk_1 (x0 : Machine) (x1 : Disk) : Tree Machine :=
  .leaf (Machine.mk x0.cpu x0.mem x0.bad x0.mmu x0.clock x0.lines x1 x0.tape x0.now x0.halted x0.waiting x0.power x0.powerTrap)
noncomputable def bus_theDisk_1 (x0 : Machine) (x1 : Disk) : Option Machine := (Tbus_theDisk_1 x0 x1).run
noncomputable def Abus_theDisk_1 : Arg U (Machine × Disk × Unit) := aA cMachine (aA cDisk (aNil))
noncomputable def Rbus_theDisk_1 (r : Machine) : List (V U) × List (Blk U) := ([vA cMachine r], [])
noncomputable def Sbus_theDisk_1 : List (V U) → List (Blk U) → Option (FnOut U) := mkSpec Abus_theDisk_1 bNil (fun x _ => bus_theDisk_1 x.1 x.2.1) Rbus_theDisk_1
noncomputable def Ebus_theDisk_1 : Env U := { P := Tryz.prog, cd := cd, fns := fns131, lps := noL, frz := fun _r => false, nt := 8, n0 := 0 }
theorem runbus_theDisk_1 (x : Machine × Disk × Unit) (g : Unit) : execF Ebus_theDisk_1 Tryz.f125 (Abus_theDisk_1.enc x) (bNil.enc g) = (Tbus_theDisk_1 x.1 x.2.1).map Rbus_theDisk_1 := by kernel_rfl
theorem okbus_theDisk_1 : FnOk Tryz.prog cd 125 Sbus_theDisk_1 := mk_ok (E := Ebus_theDisk_1) cd_ok fns131_ok Tryz.func125 (by kernel_rfl) (noLoops_body (by kernel_rfl)) (aA_ok cMachine_ok (aA_ok cDisk_ok (aNil_ok))) bNil_ok (T := fun x _ => Tbus_theDisk_1 x.1 x.2.1) (fun _ _ => rfl) runbus_theDisk_1
noncomputable def fns125 := addF 125 true Sbus_theDisk_1 fns131
theorem fns125_ok : ∀ f q t, fns125 f = some (q, t) → FnOk Tryz.prog cd f t := addF_ok okbus_theDisk_1 fns131_ok
/-- emulator/tape.Accept -/
noncomputable def Ttape_Accept (x0 : Tape) (x1 : Int) : Tree Tape :=
  .ite (x0.enable)
    (.leaf (Tape.mk x0.records x0.pos (!decide (x1 = (164 : Int))) x0.ready x0.error x0.mark x0.end_ x0.command x0.count x0.addr x0.left))
    (.leaf (Tape.mk x0.records x0.pos false x0.ready x0.error x0.mark x0.end_ x0.command x0.count x0.addr x0.left))
noncomputable def tape_Accept (x0 : Tape) (x1 : Int) : Option Tape := (Ttape_Accept x0 x1).run
noncomputable def Atape_Accept : Arg U (Tape × Int × Unit) := aA cTape (aO (cInt .i64) (aNil))
noncomputable def Rtape_Accept (r : Tape) : List (V U) × List (Blk U) := ([vA cTape r], [])
noncomputable def Stape_Accept : List (V U) → List (Blk U) → Option (FnOut U) := mkSpec Atape_Accept bNil (fun x _ => tape_Accept x.1 x.2.1) Rtape_Accept
noncomputable def Etape_Accept : Env U := { P := Tryz.prog, cd := cd, fns := fns125, lps := noL, frz := fun _r => false, nt := 13, n0 := 0 }
theorem runtape_Accept (x : Tape × Int × Unit) (g : Unit) : execF Etape_Accept Tryz.f140 (Atape_Accept.enc x) (bNil.enc g) = (Ttape_Accept x.1 x.2.1).map Rtape_Accept := by kernel_rfl
theorem oktape_Accept : FnOk Tryz.prog cd 140 Stape_Accept := mk_ok (E := Etape_Accept) cd_ok fns125_ok Tryz.func140 (by kernel_rfl) (noLoops_body (by kernel_rfl)) (aA_ok cTape_ok (aO_ok (cInt_ok .i64) (aNil_ok))) bNil_ok (T := fun x _ => Ttape_Accept x.1 x.2.1) (fun _ _ => rfl) runtape_Accept
noncomputable def fns140 := addF 140 true Stape_Accept fns125
theorem fns140_ok : ∀ f q t, fns140 f = some (q, t) → FnOk Tryz.prog cd f t := addF_ok oktape_Accept fns125_ok
/-- emulator/bus.theTape$1 -/
noncomputable def Tbus_theTape_1 (x0 : Machine) (x1 : Tape) : Tree Machine :=
  .leaf (Machine.mk x0.cpu x0.mem x0.bad x0.mmu x0.clock x0.lines x0.disk x1 x0.now x0.halted x0.waiting x0.power x0.powerTrap)
noncomputable def bus_theTape_1 (x0 : Machine) (x1 : Tape) : Option Machine := (Tbus_theTape_1 x0 x1).run
noncomputable def Abus_theTape_1 : Arg U (Machine × Tape × Unit) := aA cMachine (aA cTape (aNil))
noncomputable def Rbus_theTape_1 (r : Machine) : List (V U) × List (Blk U) := ([vA cMachine r], [])
noncomputable def Sbus_theTape_1 : List (V U) → List (Blk U) → Option (FnOut U) := mkSpec Abus_theTape_1 bNil (fun x _ => bus_theTape_1 x.1 x.2.1) Rbus_theTape_1
noncomputable def Ebus_theTape_1 : Env U := { P := Tryz.prog, cd := cd, fns := fns140, lps := noL, frz := fun _r => false, nt := 8, n0 := 0 }
theorem runbus_theTape_1 (x : Machine × Tape × Unit) (g : Unit) : execF Ebus_theTape_1 Tryz.f134 (Abus_theTape_1.enc x) (bNil.enc g) = (Tbus_theTape_1 x.1 x.2.1).map Rbus_theTape_1 := by kernel_rfl
theorem okbus_theTape_1 : FnOk Tryz.prog cd 134 Sbus_theTape_1 := mk_ok (E := Ebus_theTape_1) cd_ok fns140_ok Tryz.func134 (by kernel_rfl) (noLoops_body (by kernel_rfl)) (aA_ok cMachine_ok (aA_ok cTape_ok (aNil_ok))) bNil_ok (T := fun x _ => Tbus_theTape_1 x.1 x.2.1) (fun _ _ => rfl) runbus_theTape_1
noncomputable def fns134 := addF 134 true Sbus_theTape_1 fns140
theorem fns134_ok : ∀ f q t, fns134 f = some (q, t) → FnOk Tryz.prog cd f t := addF_ok okbus_theTape_1 fns140_ok
/-- emulator/bus.withLine -/
noncomputable def Tbus_withLine (x0 : Machine) (x1 : Int) (x2 : Line) : Tree Machine :=
  .opt (List Line) (cloneF 56 x0.lines) fun r263 =>
    .ite (decide (0 ≤ x1))
      (.ite (decide (x1 < (r263.length : Int)))
        (.opt Line (r263[(x1).toNat]?) fun y264 =>
          .leaf (Machine.mk x0.cpu x0.mem x0.bad x0.mmu x0.clock (r263.set ((x1).toNat) x2) x0.disk x0.tape x0.now x0.halted x0.waiting x0.power x0.powerTrap))
        .fail)
      .fail
noncomputable def bus_withLine (x0 : Machine) (x1 : Int) (x2 : Line) : Option Machine := (Tbus_withLine x0 x1 x2).run
noncomputable def Abus_withLine : Arg U (Machine × Int × Line × Unit) := aA cMachine (aO (cInt .i64) (aA cLine (aNil)))
noncomputable def Rbus_withLine (r : Machine) : List (V U) × List (Blk U) := ([vA cMachine r], [])
noncomputable def Sbus_withLine : List (V U) → List (Blk U) → Option (FnOut U) := mkSpec Abus_withLine bNil (fun x _ => bus_withLine x.1 x.2.1 x.2.2.1) Rbus_withLine
noncomputable def Ebus_withLine : Env U := { P := Tryz.prog, cd := cd, fns := (addF 104 false (cloneSpec 55 56) fns134), lps := noL, frz := fun _r => false, nt := 17, n0 := 0 }
theorem runbus_withLine (x : Machine × Int × Line × Unit) (g : Unit) : execF Ebus_withLine Tryz.f144 (Abus_withLine.enc x) (bNil.enc g) = (Tbus_withLine x.1 x.2.1 x.2.2.1).map Rbus_withLine := by kernel_rfl
theorem okbus_withLine : FnOk Tryz.prog cd 144 Sbus_withLine := mk_ok (E := Ebus_withLine) cd_ok (addF_ok okslices_Clone_api_Line_api_Line fns134_ok) Tryz.func144 (by kernel_rfl) (noLoops_body (by kernel_rfl)) (aA_ok cMachine_ok (aO_ok (cInt_ok .i64) (aA_ok cLine_ok (aNil_ok)))) bNil_ok (T := fun x _ => Tbus_withLine x.1 x.2.1 x.2.2.1) (fun _ _ => rfl) runbus_withLine
noncomputable def fns144 := addF 144 true Sbus_withLine fns134
theorem fns144_ok : ∀ f q t, fns144 f = some (q, t) → FnOk Tryz.prog cd f t := addF_ok okbus_withLine fns134_ok
/-- emulator/line.Accept -/
noncomputable def Tline_Accept (x0 : Line) (x1 : Int) (x2 : Int) : Tree Line :=
  .leaf (x0)
noncomputable def line_Accept (x0 : Line) (x1 : Int) (x2 : Int) : Option Line := (Tline_Accept x0 x1 x2).run
noncomputable def Aline_Accept : Arg U (Line × Int × Int × Unit) := aA cLine (aO (cInt .i64) (aO (cInt .i64) (aNil)))
noncomputable def Rline_Accept (r : Line) : List (V U) × List (Blk U) := ([vA cLine r], [])
noncomputable def Sline_Accept : List (V U) → List (Blk U) → Option (FnOut U) := mkSpec Aline_Accept bNil (fun x _ => line_Accept x.1 x.2.1 x.2.2.1) Rline_Accept
noncomputable def Eline_Accept : Env U := { P := Tryz.prog, cd := cd, fns := fns144, lps := noL, frz := fun _r => false, nt := 8, n0 := 0 }
theorem runline_Accept (x : Line × Int × Int × Unit) (g : Unit) : execF Eline_Accept Tryz.f149 (Aline_Accept.enc x) (bNil.enc g) = (Tline_Accept x.1 x.2.1 x.2.2.1).map Rline_Accept := by kernel_rfl
theorem okline_Accept : FnOk Tryz.prog cd 149 Sline_Accept := mk_ok (E := Eline_Accept) cd_ok fns144_ok Tryz.func149 (by kernel_rfl) (noLoops_body (by kernel_rfl)) (aA_ok cLine_ok (aO_ok (cInt_ok .i64) (aO_ok (cInt_ok .i64) (aNil_ok)))) bNil_ok (T := fun x _ => Tline_Accept x.1 x.2.1 x.2.2.1) (fun _ _ => rfl) runline_Accept
noncomputable def fns149 := addF 149 true Sline_Accept fns144
theorem fns149_ok : ∀ f q t, fns149 f = some (q, t) → FnOk Tryz.prog cd f t := addF_ok okline_Accept fns144_ok
/-- emulator/clock.Reset -/
noncomputable def Tclock_Reset (x0 : Clock) : Tree Clock :=
  .leaf (Clock.mk false false x0.period x0.period)
noncomputable def clock_Reset (x0 : Clock) : Option Clock := (Tclock_Reset x0).run
noncomputable def Aclock_Reset : Arg U (Clock × Unit) := aA cClock (aNil)
noncomputable def Rclock_Reset (r : Clock) : List (V U) × List (Blk U) := ([vA cClock r], [])
noncomputable def Sclock_Reset : List (V U) → List (Blk U) → Option (FnOut U) := mkSpec Aclock_Reset bNil (fun x _ => clock_Reset x.1) Rclock_Reset
noncomputable def Eclock_Reset : Env U := { P := Tryz.prog, cd := cd, fns := fns149, lps := noL, frz := fun _r => false, nt := 8, n0 := 0 }
theorem runclock_Reset (x : Clock × Unit) (g : Unit) : execF Eclock_Reset Tryz.f124 (Aclock_Reset.enc x) (bNil.enc g) = (Tclock_Reset x.1).map Rclock_Reset := by kernel_rfl
theorem okclock_Reset : FnOk Tryz.prog cd 124 Sclock_Reset := mk_ok (E := Eclock_Reset) cd_ok fns149_ok Tryz.func124 (by kernel_rfl) (noLoops_body (by kernel_rfl)) (aA_ok cClock_ok (aNil_ok)) bNil_ok (T := fun x _ => Tclock_Reset x.1) (fun _ _ => rfl) runclock_Reset
noncomputable def fns124 := addF 124 true Sclock_Reset fns149
theorem fns124_ok : ∀ f q t, fns124 f = some (q, t) → FnOk Tryz.prog cd f t := addF_ok okclock_Reset fns149_ok
/-- emulator/diskctl.Reset -/
noncomputable def Tdiskctl_Reset (x0 : Disk) : Tree Disk :=
  .leaf (Disk.mk x0.drive false true false 0 x0.words x0.addr x0.start 0)
noncomputable def diskctl_Reset (x0 : Disk) : Option Disk := (Tdiskctl_Reset x0).run
noncomputable def Adiskctl_Reset : Arg U (Disk × Unit) := aA cDisk (aNil)
noncomputable def Rdiskctl_Reset (r : Disk) : List (V U) × List (Blk U) := ([vA cDisk r], [])
noncomputable def Sdiskctl_Reset : List (V U) → List (Blk U) → Option (FnOut U) := mkSpec Adiskctl_Reset bNil (fun x _ => diskctl_Reset x.1) Rdiskctl_Reset
noncomputable def Ediskctl_Reset : Env U := { P := Tryz.prog, cd := cd, fns := fns124, lps := noL, frz := fun _r => false, nt := 12, n0 := 0 }
theorem rundiskctl_Reset (x : Disk × Unit) (g : Unit) : execF Ediskctl_Reset Tryz.f133 (Adiskctl_Reset.enc x) (bNil.enc g) = (Tdiskctl_Reset x.1).map Rdiskctl_Reset := by kernel_rfl
theorem okdiskctl_Reset : FnOk Tryz.prog cd 133 Sdiskctl_Reset := mk_ok (E := Ediskctl_Reset) cd_ok fns124_ok Tryz.func133 (by kernel_rfl) (noLoops_body (by kernel_rfl)) (aA_ok cDisk_ok (aNil_ok)) bNil_ok (T := fun x _ => Tdiskctl_Reset x.1) (fun _ _ => rfl) rundiskctl_Reset
noncomputable def fns133 := addF 133 true Sdiskctl_Reset fns124
theorem fns133_ok : ∀ f q t, fns133 f = some (q, t) → FnOk Tryz.prog cd f t := addF_ok okdiskctl_Reset fns124_ok
/-- emulator/tape.Reset -/
noncomputable def Ttape_Reset (x0 : Tape) : Tree Tape :=
  .leaf (Tape.mk x0.records x0.pos false true false false false 0 x0.count x0.addr 0)
noncomputable def tape_Reset (x0 : Tape) : Option Tape := (Ttape_Reset x0).run
noncomputable def Atape_Reset : Arg U (Tape × Unit) := aA cTape (aNil)
noncomputable def Rtape_Reset (r : Tape) : List (V U) × List (Blk U) := ([vA cTape r], [])
noncomputable def Stape_Reset : List (V U) → List (Blk U) → Option (FnOut U) := mkSpec Atape_Reset bNil (fun x _ => tape_Reset x.1) Rtape_Reset
noncomputable def Etape_Reset : Env U := { P := Tryz.prog, cd := cd, fns := fns133, lps := noL, frz := fun _r => false, nt := 12, n0 := 0 }
theorem runtape_Reset (x : Tape × Unit) (g : Unit) : execF Etape_Reset Tryz.f142 (Atape_Reset.enc x) (bNil.enc g) = (Ttape_Reset x.1).map Rtape_Reset := by kernel_rfl
theorem oktape_Reset : FnOk Tryz.prog cd 142 Stape_Reset := mk_ok (E := Etape_Reset) cd_ok fns133_ok Tryz.func142 (by kernel_rfl) (noLoops_body (by kernel_rfl)) (aA_ok cTape_ok (aNil_ok)) bNil_ok (T := fun x _ => Ttape_Reset x.1) (fun _ _ => rfl) runtape_Reset
noncomputable def fns142 := addF 142 true Stape_Reset fns133
theorem fns142_ok : ∀ f q t, fns142 f = some (q, t) → FnOk Tryz.prog cd f t := addF_ok oktape_Reset fns133_ok
/-- emulator/line.Reset -/
noncomputable def Tline_Reset (x0 : Line) : Tree Line :=
  .leaf (Line.mk false false false x0.rxData false true x0.txData 0 x0.out)
noncomputable def line_Reset (x0 : Line) : Option Line := (Tline_Reset x0).run
noncomputable def Aline_Reset : Arg U (Line × Unit) := aA cLine (aNil)
noncomputable def Rline_Reset (r : Line) : List (V U) × List (Blk U) := ([vA cLine r], [])
noncomputable def Sline_Reset : List (V U) → List (Blk U) → Option (FnOut U) := mkSpec Aline_Reset bNil (fun x _ => line_Reset x.1) Rline_Reset
noncomputable def Eline_Reset : Env U := { P := Tryz.prog, cd := cd, fns := fns142, lps := noL, frz := fun _r => false, nt := 10, n0 := 0 }
theorem runline_Reset (x : Line × Unit) (g : Unit) : execF Eline_Reset Tryz.f151 (Aline_Reset.enc x) (bNil.enc g) = (Tline_Reset x.1).map Rline_Reset := by kernel_rfl
theorem okline_Reset : FnOk Tryz.prog cd 151 Sline_Reset := mk_ok (E := Eline_Reset) cd_ok fns142_ok Tryz.func151 (by kernel_rfl) (noLoops_body (by kernel_rfl)) (aA_ok cLine_ok (aNil_ok)) bNil_ok (T := fun x _ => Tline_Reset x.1) (fun _ _ => rfl) runline_Reset
noncomputable def fns151 := addF 151 true Sline_Reset fns142
theorem fns151_ok : ∀ f q t, fns151 f = some (q, t) → FnOk Tryz.prog cd f t := addF_ok okline_Reset fns142_ok
/-- emulator/mmu.Reset -/
noncomputable def Tmmu_Reset (x0 : Mmu) : Tree Mmu :=
  .leaf (Mmu.mk false (List.replicate 16 (Page.mk (0 : Int) (0 : Int) (0 : Int) false)) 0 0)
noncomputable def mmu_Reset (x0 : Mmu) : Option Mmu := (Tmmu_Reset x0).run
noncomputable def Ammu_Reset : Arg U (Mmu × Unit) := aA cMmu (aNil)
noncomputable def Rmmu_Reset (r : Mmu) : List (V U) × List (Blk U) := ([vA cMmu r], [])
noncomputable def Smmu_Reset : List (V U) → List (Blk U) → Option (FnOut U) := mkSpec Ammu_Reset bNil (fun x _ => mmu_Reset x.1) Rmmu_Reset
noncomputable def Emmu_Reset : Env U := { P := Tryz.prog, cd := cd, fns := fns151, lps := noL, frz := fun _r => false, nt := 4, n0 := 0 }
theorem runmmu_Reset (x : Mmu × Unit) (g : Unit) : execF Emmu_Reset Tryz.f40 (Ammu_Reset.enc x) (bNil.enc g) = (Tmmu_Reset x.1).map Rmmu_Reset := by kernel_rfl
theorem okmmu_Reset : FnOk Tryz.prog cd 40 Smmu_Reset := mk_ok (E := Emmu_Reset) cd_ok fns151_ok Tryz.func40 (by kernel_rfl) (noLoops_body (by kernel_rfl)) (aA_ok cMmu_ok (aNil_ok)) bNil_ok (T := fun x _ => Tmmu_Reset x.1) (fun _ _ => rfl) runmmu_Reset
noncomputable def fns40 := addF 40 true Smmu_Reset fns151
theorem fns40_ok : ∀ f q t, fns40 f = some (q, t) → FnOk Tryz.prog cd f t := addF_ok okmmu_Reset fns151_ok
/-- emulator/bus.theLine$2 -/
noncomputable def Tbus_theLine_2 (x0 : Machine) (g0 : Int) : Tree (List Request) :=
  .ite (decide (0 ≤ g0))
    (.opt Line (x0.lines[(g0).toNat]?) fun y265 =>
      .opt (List Request) (line_Requests y265 g0) fun r266 =>
        .leaf (r266))
    .fail
noncomputable def bus_theLine_2 (x0 : Machine) (g0 : Int) : Option (List Request) := (Tbus_theLine_2 x0 g0).run
noncomputable def Abus_theLine_2 : Arg U (Machine × Unit) := aA cMachine (aP 0 0 (aNil))
noncomputable def Gbus_theLine_2 : Bls U (Int × Unit) := bT (some 3) (cInt .i64) (bNil)
noncomputable def Rbus_theLine_2 (_x : Machine × Unit) (g : Int × Unit) (r : (List Request)) : List (V U) × List (Blk U) := ([vO (cPair (cSl 84) (cUnit)) (r, ())], [.cells (((cInt .i64) : Cdc U Int).enc g.1) (some 3)])
noncomputable def Sbus_theLine_2 : List (V U) → List (Blk U) → Option (FnOut U) := mkSpecG Abus_theLine_2 Gbus_theLine_2 (fun x g => bus_theLine_2 x.1 g.1) Rbus_theLine_2
noncomputable def Ebus_theLine_2 : Env U := { P := Tryz.prog, cd := cd, fns := fns40, lps := noL, frz := fun _r => false, nt := 11, n0 := 1 }
theorem rnbus_theLine_2 (x0 : Machine) (g0 : Int) : execX false Ebus_theLine_2 Tryz.f146 (Abus_theLine_2.enc (x0, ())) (Gbus_theLine_2.enc (g0, ())) = (Tbus_theLine_2 x0 g0).map (Rbus_theLine_2 (x0, ()) (g0, ())) := by kernel_rfl
theorem runbus_theLine_2 : ∀ (x : Machine × Unit) (g : Int × Unit), execX false Ebus_theLine_2 Tryz.f146 (Abus_theLine_2.enc x) (Gbus_theLine_2.enc g) = (Tbus_theLine_2 x.1 g.1).map (Rbus_theLine_2 x g)
  | (x0, ()), (g0, ()) => rnbus_theLine_2 x0 g0
theorem okbus_theLine_2 : FnOk Tryz.prog cd 146 Sbus_theLine_2 := mk_okG (E := Ebus_theLine_2) (A := Abus_theLine_2) (B := Gbus_theLine_2) false cd_ok fns40_ok Tryz.func146 (by kernel_rfl) (noLoops_body (by kernel_rfl)) (aA_ok cMachine_ok (aP_ok (aNil_ok))) (bT_ok (cInt_ok .i64) bNil_ok) (T := fun (x : Machine × Unit) (g : Int × Unit) => Tbus_theLine_2 x.1 g.1) (fun _ _ => rfl) runbus_theLine_2
/-- emulator/bus.theClock$4 -/
noncomputable def Tbus_theClock_4 (x0 : Machine) (x1 : Int) (g0 : Unit) : Tree Machine :=
  .opt Clock (clock_Accept x0.clock x1) fun r267 =>
    .opt Machine (bus_theClock_1 x0 r267) fun r268 =>
      .leaf (r268)
noncomputable def bus_theClock_4 (x0 : Machine) (x1 : Int) (g0 : Unit) : Option Machine := (Tbus_theClock_4 x0 x1 g0).run
noncomputable def Abus_theClock_4 : Arg U (Machine × Int × Unit) := aA cMachine (aO (cInt .i64) (aP 0 0 (aNil)))
noncomputable def Gbus_theClock_4 : Bls U (Unit × Unit) := bT (some 159) (cK2 (.fn 116 [] []) (cUnit)) (bNil)
noncomputable def Rbus_theClock_4 (_x : Machine × Int × Unit) (_g : Unit × Unit) (r : Machine) : List (V U) × List (Blk U) := ([vA (cPair cMachine (cUnit)) (r, ())], [.cells ((cK2 (.fn 116 [] []) (cUnit) : Cdc U Unit).enc ()) (some 159)])
noncomputable def Sbus_theClock_4 : List (V U) → List (Blk U) → Option (FnOut U) := mkSpecG Abus_theClock_4 Gbus_theClock_4 (fun x g => bus_theClock_4 x.1 x.2.1 g.1) Rbus_theClock_4
noncomputable def Ebus_theClock_4 : Env U := { P := Tryz.prog, cd := cd, fns := fns40, lps := noL, frz := fun _r => false, nt := 13, n0 := 1 }
theorem rnbus_theClock_4 (x0 : Machine) (x1 : Int) (g0 : Unit) : execX false Ebus_theClock_4 Tryz.f121 (Abus_theClock_4.enc (x0, x1, ())) (Gbus_theClock_4.enc (g0, ())) = (Tbus_theClock_4 x0 x1 g0).map (Rbus_theClock_4 (x0, x1, ()) (g0, ())) := by kernel_rfl
theorem runbus_theClock_4 : ∀ (x : Machine × Int × Unit) (g : Unit × Unit), execX false Ebus_theClock_4 Tryz.f121 (Abus_theClock_4.enc x) (Gbus_theClock_4.enc g) = (Tbus_theClock_4 x.1 x.2.1 g.1).map (Rbus_theClock_4 x g)
  | (x0, x1, ()), (g0, ()) => rnbus_theClock_4 x0 x1 g0
theorem okbus_theClock_4 : FnOk Tryz.prog cd 121 Sbus_theClock_4 := mk_okG (E := Ebus_theClock_4) (A := Abus_theClock_4) (B := Gbus_theClock_4) false cd_ok fns40_ok Tryz.func121 (by kernel_rfl) (noLoops_body (by kernel_rfl)) (aA_ok cMachine_ok (aO_ok (cInt_ok .i64) (aP_ok (aNil_ok)))) (bT_ok (cK2_ok cUnit_ok) bNil_ok) (T := fun (x : Machine × Int × Unit) (g : Unit × Unit) => Tbus_theClock_4 x.1 x.2.1 g.1) (fun _ _ => rfl) runbus_theClock_4
/-- emulator/bus.theDisk$4 -/
noncomputable def Tbus_theDisk_4 (x0 : Machine) (x1 : Int) (g0 : Unit) : Tree Machine :=
  .opt Disk (diskctl_Accept x0.disk x1) fun r269 =>
    .opt Machine (bus_theDisk_1 x0 r269) fun r270 =>
      .leaf (r270)
noncomputable def bus_theDisk_4 (x0 : Machine) (x1 : Int) (g0 : Unit) : Option Machine := (Tbus_theDisk_4 x0 x1 g0).run
noncomputable def Abus_theDisk_4 : Arg U (Machine × Int × Unit) := aA cMachine (aO (cInt .i64) (aP 0 0 (aNil)))
noncomputable def Gbus_theDisk_4 : Bls U (Unit × Unit) := bT (some 160) (cK2 (.fn 125 [] []) (cUnit)) (bNil)
noncomputable def Rbus_theDisk_4 (_x : Machine × Int × Unit) (_g : Unit × Unit) (r : Machine) : List (V U) × List (Blk U) := ([vA (cPair cMachine (cUnit)) (r, ())], [.cells ((cK2 (.fn 125 [] []) (cUnit) : Cdc U Unit).enc ()) (some 160)])
noncomputable def Sbus_theDisk_4 : List (V U) → List (Blk U) → Option (FnOut U) := mkSpecG Abus_theDisk_4 Gbus_theDisk_4 (fun x g => bus_theDisk_4 x.1 x.2.1 g.1) Rbus_theDisk_4
noncomputable def Ebus_theDisk_4 : Env U := { P := Tryz.prog, cd := cd, fns := fns40, lps := noL, frz := fun _r => false, nt := 13, n0 := 1 }
theorem rnbus_theDisk_4 (x0 : Machine) (x1 : Int) (g0 : Unit) : execX false Ebus_theDisk_4 Tryz.f130 (Abus_theDisk_4.enc (x0, x1, ())) (Gbus_theDisk_4.enc (g0, ())) = (Tbus_theDisk_4 x0 x1 g0).map (Rbus_theDisk_4 (x0, x1, ()) (g0, ())) := by kernel_rfl
theorem runbus_theDisk_4 : ∀ (x : Machine × Int × Unit) (g : Unit × Unit), execX false Ebus_theDisk_4 Tryz.f130 (Abus_theDisk_4.enc x) (Gbus_theDisk_4.enc g) = (Tbus_theDisk_4 x.1 x.2.1 g.1).map (Rbus_theDisk_4 x g)
  | (x0, x1, ()), (g0, ()) => rnbus_theDisk_4 x0 x1 g0
theorem okbus_theDisk_4 : FnOk Tryz.prog cd 130 Sbus_theDisk_4 := mk_okG (E := Ebus_theDisk_4) (A := Abus_theDisk_4) (B := Gbus_theDisk_4) false cd_ok fns40_ok Tryz.func130 (by kernel_rfl) (noLoops_body (by kernel_rfl)) (aA_ok cMachine_ok (aO_ok (cInt_ok .i64) (aP_ok (aNil_ok)))) (bT_ok (cK2_ok cUnit_ok) bNil_ok) (T := fun (x : Machine × Int × Unit) (g : Unit × Unit) => Tbus_theDisk_4 x.1 x.2.1 g.1) (fun _ _ => rfl) runbus_theDisk_4
/-- emulator/bus.theTape$4 -/
noncomputable def Tbus_theTape_4 (x0 : Machine) (x1 : Int) (g0 : Unit) : Tree Machine :=
  .opt Tape (tape_Accept x0.tape x1) fun r271 =>
    .opt Machine (bus_theTape_1 x0 r271) fun r272 =>
      .leaf (r272)
noncomputable def bus_theTape_4 (x0 : Machine) (x1 : Int) (g0 : Unit) : Option Machine := (Tbus_theTape_4 x0 x1 g0).run
noncomputable def Abus_theTape_4 : Arg U (Machine × Int × Unit) := aA cMachine (aO (cInt .i64) (aP 0 0 (aNil)))
noncomputable def Gbus_theTape_4 : Bls U (Unit × Unit) := bT (some 161) (cK2 (.fn 134 [] []) (cUnit)) (bNil)
noncomputable def Rbus_theTape_4 (_x : Machine × Int × Unit) (_g : Unit × Unit) (r : Machine) : List (V U) × List (Blk U) := ([vA (cPair cMachine (cUnit)) (r, ())], [.cells ((cK2 (.fn 134 [] []) (cUnit) : Cdc U Unit).enc ()) (some 161)])
noncomputable def Sbus_theTape_4 : List (V U) → List (Blk U) → Option (FnOut U) := mkSpecG Abus_theTape_4 Gbus_theTape_4 (fun x g => bus_theTape_4 x.1 x.2.1 g.1) Rbus_theTape_4
noncomputable def Ebus_theTape_4 : Env U := { P := Tryz.prog, cd := cd, fns := fns40, lps := noL, frz := fun _r => false, nt := 13, n0 := 1 }
theorem rnbus_theTape_4 (x0 : Machine) (x1 : Int) (g0 : Unit) : execX false Ebus_theTape_4 Tryz.f139 (Abus_theTape_4.enc (x0, x1, ())) (Gbus_theTape_4.enc (g0, ())) = (Tbus_theTape_4 x0 x1 g0).map (Rbus_theTape_4 (x0, x1, ()) (g0, ())) := by kernel_rfl
theorem runbus_theTape_4 : ∀ (x : Machine × Int × Unit) (g : Unit × Unit), execX false Ebus_theTape_4 Tryz.f139 (Abus_theTape_4.enc x) (Gbus_theTape_4.enc g) = (Tbus_theTape_4 x.1 x.2.1 g.1).map (Rbus_theTape_4 x g)
  | (x0, x1, ()), (g0, ()) => rnbus_theTape_4 x0 x1 g0
theorem okbus_theTape_4 : FnOk Tryz.prog cd 139 Sbus_theTape_4 := mk_okG (E := Ebus_theTape_4) (A := Abus_theTape_4) (B := Gbus_theTape_4) false cd_ok fns40_ok Tryz.func139 (by kernel_rfl) (noLoops_body (by kernel_rfl)) (aA_ok cMachine_ok (aO_ok (cInt_ok .i64) (aP_ok (aNil_ok)))) (bT_ok (cK2_ok cUnit_ok) bNil_ok) (T := fun (x : Machine × Int × Unit) (g : Unit × Unit) => Tbus_theTape_4 x.1 x.2.1 g.1) (fun _ _ => rfl) runbus_theTape_4
/-- emulator/bus.theLine$3 -/
noncomputable def Tbus_theLine_3 (x0 : Machine) (x1 : Int) (g0 : Int) : Tree Machine :=
  .ite (decide (0 ≤ g0))
    (.opt Line (x0.lines[(g0).toNat]?) fun y273 =>
      .opt Line (line_Accept y273 g0 x1) fun r274 =>
        .opt Machine (bus_withLine x0 g0 r274) fun r275 =>
          .leaf (r275))
    .fail
noncomputable def bus_theLine_3 (x0 : Machine) (x1 : Int) (g0 : Int) : Option Machine := (Tbus_theLine_3 x0 x1 g0).run
noncomputable def Abus_theLine_3 : Arg U (Machine × Int × Unit) := aA cMachine (aO (cInt .i64) (aP 0 0 (aNil)))
noncomputable def Gbus_theLine_3 : Bls U (Int × Unit) := bT (some 3) (cInt .i64) (bNil)
noncomputable def Rbus_theLine_3 (_x : Machine × Int × Unit) (g : Int × Unit) (r : Machine) : List (V U) × List (Blk U) := ([vA (cPair cMachine (cUnit)) (r, ())], [.cells (((cInt .i64) : Cdc U Int).enc g.1) (some 3)])
noncomputable def Sbus_theLine_3 : List (V U) → List (Blk U) → Option (FnOut U) := mkSpecG Abus_theLine_3 Gbus_theLine_3 (fun x g => bus_theLine_3 x.1 x.2.1 g.1) Rbus_theLine_3
noncomputable def Ebus_theLine_3 : Env U := { P := Tryz.prog, cd := cd, fns := fns40, lps := noL, frz := fun _r => false, nt := 17, n0 := 1 }
theorem rnbus_theLine_3 (x0 : Machine) (x1 : Int) (g0 : Int) : execX false Ebus_theLine_3 Tryz.f148 (Abus_theLine_3.enc (x0, x1, ())) (Gbus_theLine_3.enc (g0, ())) = (Tbus_theLine_3 x0 x1 g0).map (Rbus_theLine_3 (x0, x1, ()) (g0, ())) := by kernel_rfl
theorem runbus_theLine_3 : ∀ (x : Machine × Int × Unit) (g : Int × Unit), execX false Ebus_theLine_3 Tryz.f148 (Abus_theLine_3.enc x) (Gbus_theLine_3.enc g) = (Tbus_theLine_3 x.1 x.2.1 g.1).map (Rbus_theLine_3 x g)
  | (x0, x1, ()), (g0, ()) => rnbus_theLine_3 x0 x1 g0
theorem okbus_theLine_3 : FnOk Tryz.prog cd 148 Sbus_theLine_3 := mk_okG (E := Ebus_theLine_3) (A := Abus_theLine_3) (B := Gbus_theLine_3) false cd_ok fns40_ok Tryz.func148 (by kernel_rfl) (noLoops_body (by kernel_rfl)) (aA_ok cMachine_ok (aO_ok (cInt_ok .i64) (aP_ok (aNil_ok)))) (bT_ok (cInt_ok .i64) bNil_ok) (T := fun (x : Machine × Int × Unit) (g : Int × Unit) => Tbus_theLine_3 x.1 x.2.1 g.1) (fun _ _ => rfl) runbus_theLine_3
/-- emulator/bus.theClock$5 -/
noncomputable def Tbus_theClock_5 (x0 : Machine) (g0 : Unit) : Tree Machine :=
  .opt Clock (clock_Reset x0.clock) fun r276 =>
    .opt Machine (bus_theClock_1 x0 r276) fun r277 =>
      .leaf (r277)
noncomputable def bus_theClock_5 (x0 : Machine) (g0 : Unit) : Option Machine := (Tbus_theClock_5 x0 g0).run
noncomputable def Abus_theClock_5 : Arg U (Machine × Unit) := aA cMachine (aP 0 0 (aNil))
noncomputable def Gbus_theClock_5 : Bls U (Unit × Unit) := bT (some 159) (cK2 (.fn 116 [] []) (cUnit)) (bNil)
noncomputable def Rbus_theClock_5 (_x : Machine × Unit) (_g : Unit × Unit) (r : Machine) : List (V U) × List (Blk U) := ([vA (cPair cMachine (cUnit)) (r, ())], [.cells ((cK2 (.fn 116 [] []) (cUnit) : Cdc U Unit).enc ()) (some 159)])
noncomputable def Sbus_theClock_5 : List (V U) → List (Blk U) → Option (FnOut U) := mkSpecG Abus_theClock_5 Gbus_theClock_5 (fun x g => bus_theClock_5 x.1 g.1) Rbus_theClock_5
noncomputable def Ebus_theClock_5 : Env U := { P := Tryz.prog, cd := cd, fns := fns40, lps := noL, frz := fun _r => false, nt := 10, n0 := 1 }
theorem rnbus_theClock_5 (x0 : Machine) (g0 : Unit) : execX false Ebus_theClock_5 Tryz.f123 (Abus_theClock_5.enc (x0, ())) (Gbus_theClock_5.enc (g0, ())) = (Tbus_theClock_5 x0 g0).map (Rbus_theClock_5 (x0, ()) (g0, ())) := by kernel_rfl
theorem runbus_theClock_5 : ∀ (x : Machine × Unit) (g : Unit × Unit), execX false Ebus_theClock_5 Tryz.f123 (Abus_theClock_5.enc x) (Gbus_theClock_5.enc g) = (Tbus_theClock_5 x.1 g.1).map (Rbus_theClock_5 x g)
  | (x0, ()), (g0, ()) => rnbus_theClock_5 x0 g0
theorem okbus_theClock_5 : FnOk Tryz.prog cd 123 Sbus_theClock_5 := mk_okG (E := Ebus_theClock_5) (A := Abus_theClock_5) (B := Gbus_theClock_5) false cd_ok fns40_ok Tryz.func123 (by kernel_rfl) (noLoops_body (by kernel_rfl)) (aA_ok cMachine_ok (aP_ok (aNil_ok))) (bT_ok (cK2_ok cUnit_ok) bNil_ok) (T := fun (x : Machine × Unit) (g : Unit × Unit) => Tbus_theClock_5 x.1 g.1) (fun _ _ => rfl) runbus_theClock_5
/-- emulator/bus.theDisk$5 -/
noncomputable def Tbus_theDisk_5 (x0 : Machine) (g0 : Unit) : Tree Machine :=
  .opt Disk (diskctl_Reset x0.disk) fun r278 =>
    .opt Machine (bus_theDisk_1 x0 r278) fun r279 =>
      .leaf (r279)
noncomputable def bus_theDisk_5 (x0 : Machine) (g0 : Unit) : Option Machine := (Tbus_theDisk_5 x0 g0).run
noncomputable def Abus_theDisk_5 : Arg U (Machine × Unit) := aA cMachine (aP 0 0 (aNil))
noncomputable def Gbus_theDisk_5 : Bls U (Unit × Unit) := bT (some 160) (cK2 (.fn 125 [] []) (cUnit)) (bNil)
noncomputable def Rbus_theDisk_5 (_x : Machine × Unit) (_g : Unit × Unit) (r : Machine) : List (V U) × List (Blk U) := ([vA (cPair cMachine (cUnit)) (r, ())], [.cells ((cK2 (.fn 125 [] []) (cUnit) : Cdc U Unit).enc ()) (some 160)])
noncomputable def Sbus_theDisk_5 : List (V U) → List (Blk U) → Option (FnOut U) := mkSpecG Abus_theDisk_5 Gbus_theDisk_5 (fun x g => bus_theDisk_5 x.1 g.1) Rbus_theDisk_5
noncomputable def Ebus_theDisk_5 : Env U := { P := Tryz.prog, cd := cd, fns := fns40, lps := noL, frz := fun _r => false, nt := 10, n0 := 1 }
theorem rnbus_theDisk_5 (x0 : Machine) (g0 : Unit) : execX false Ebus_theDisk_5 Tryz.f132 (Abus_theDisk_5.enc (x0, ())) (Gbus_theDisk_5.enc (g0, ())) = (Tbus_theDisk_5 x0 g0).map (Rbus_theDisk_5 (x0, ()) (g0, ())) := by kernel_rfl
theorem runbus_theDisk_5 : ∀ (x : Machine × Unit) (g : Unit × Unit), execX false Ebus_theDisk_5 Tryz.f132 (Abus_theDisk_5.enc x) (Gbus_theDisk_5.enc g) = (Tbus_theDisk_5 x.1 g.1).map (Rbus_theDisk_5 x g)
  | (x0, ()), (g0, ()) => rnbus_theDisk_5 x0 g0
theorem okbus_theDisk_5 : FnOk Tryz.prog cd 132 Sbus_theDisk_5 := mk_okG (E := Ebus_theDisk_5) (A := Abus_theDisk_5) (B := Gbus_theDisk_5) false cd_ok fns40_ok Tryz.func132 (by kernel_rfl) (noLoops_body (by kernel_rfl)) (aA_ok cMachine_ok (aP_ok (aNil_ok))) (bT_ok (cK2_ok cUnit_ok) bNil_ok) (T := fun (x : Machine × Unit) (g : Unit × Unit) => Tbus_theDisk_5 x.1 g.1) (fun _ _ => rfl) runbus_theDisk_5
/-- emulator/bus.theTape$5 -/
noncomputable def Tbus_theTape_5 (x0 : Machine) (g0 : Unit) : Tree Machine :=
  .opt Tape (tape_Reset x0.tape) fun r280 =>
    .opt Machine (bus_theTape_1 x0 r280) fun r281 =>
      .leaf (r281)
noncomputable def bus_theTape_5 (x0 : Machine) (g0 : Unit) : Option Machine := (Tbus_theTape_5 x0 g0).run
noncomputable def Abus_theTape_5 : Arg U (Machine × Unit) := aA cMachine (aP 0 0 (aNil))
noncomputable def Gbus_theTape_5 : Bls U (Unit × Unit) := bT (some 161) (cK2 (.fn 134 [] []) (cUnit)) (bNil)
noncomputable def Rbus_theTape_5 (_x : Machine × Unit) (_g : Unit × Unit) (r : Machine) : List (V U) × List (Blk U) := ([vA (cPair cMachine (cUnit)) (r, ())], [.cells ((cK2 (.fn 134 [] []) (cUnit) : Cdc U Unit).enc ()) (some 161)])
noncomputable def Sbus_theTape_5 : List (V U) → List (Blk U) → Option (FnOut U) := mkSpecG Abus_theTape_5 Gbus_theTape_5 (fun x g => bus_theTape_5 x.1 g.1) Rbus_theTape_5
noncomputable def Ebus_theTape_5 : Env U := { P := Tryz.prog, cd := cd, fns := fns40, lps := noL, frz := fun _r => false, nt := 10, n0 := 1 }
theorem rnbus_theTape_5 (x0 : Machine) (g0 : Unit) : execX false Ebus_theTape_5 Tryz.f141 (Abus_theTape_5.enc (x0, ())) (Gbus_theTape_5.enc (g0, ())) = (Tbus_theTape_5 x0 g0).map (Rbus_theTape_5 (x0, ()) (g0, ())) := by kernel_rfl
theorem runbus_theTape_5 : ∀ (x : Machine × Unit) (g : Unit × Unit), execX false Ebus_theTape_5 Tryz.f141 (Abus_theTape_5.enc x) (Gbus_theTape_5.enc g) = (Tbus_theTape_5 x.1 g.1).map (Rbus_theTape_5 x g)
  | (x0, ()), (g0, ()) => rnbus_theTape_5 x0 g0
theorem okbus_theTape_5 : FnOk Tryz.prog cd 141 Sbus_theTape_5 := mk_okG (E := Ebus_theTape_5) (A := Abus_theTape_5) (B := Gbus_theTape_5) false cd_ok fns40_ok Tryz.func141 (by kernel_rfl) (noLoops_body (by kernel_rfl)) (aA_ok cMachine_ok (aP_ok (aNil_ok))) (bT_ok (cK2_ok cUnit_ok) bNil_ok) (T := fun (x : Machine × Unit) (g : Unit × Unit) => Tbus_theTape_5 x.1 g.1) (fun _ _ => rfl) runbus_theTape_5
/-- emulator/bus.theLine$4 -/
noncomputable def Tbus_theLine_4 (x0 : Machine) (g0 : Int) : Tree Machine :=
  .ite (decide (0 ≤ g0))
    (.opt Line (x0.lines[(g0).toNat]?) fun y282 =>
      .opt Line (line_Reset y282) fun r283 =>
        .opt Machine (bus_withLine x0 g0 r283) fun r284 =>
          .leaf (r284))
    .fail
noncomputable def bus_theLine_4 (x0 : Machine) (g0 : Int) : Option Machine := (Tbus_theLine_4 x0 g0).run
noncomputable def Abus_theLine_4 : Arg U (Machine × Unit) := aA cMachine (aP 0 0 (aNil))
noncomputable def Gbus_theLine_4 : Bls U (Int × Unit) := bT (some 3) (cInt .i64) (bNil)
noncomputable def Rbus_theLine_4 (_x : Machine × Unit) (g : Int × Unit) (r : Machine) : List (V U) × List (Blk U) := ([vA (cPair cMachine (cUnit)) (r, ())], [.cells (((cInt .i64) : Cdc U Int).enc g.1) (some 3)])
noncomputable def Sbus_theLine_4 : List (V U) → List (Blk U) → Option (FnOut U) := mkSpecG Abus_theLine_4 Gbus_theLine_4 (fun x g => bus_theLine_4 x.1 g.1) Rbus_theLine_4
noncomputable def Ebus_theLine_4 : Env U := { P := Tryz.prog, cd := cd, fns := fns40, lps := noL, frz := fun _r => false, nt := 13, n0 := 1 }
theorem rnbus_theLine_4 (x0 : Machine) (g0 : Int) : execX false Ebus_theLine_4 Tryz.f150 (Abus_theLine_4.enc (x0, ())) (Gbus_theLine_4.enc (g0, ())) = (Tbus_theLine_4 x0 g0).map (Rbus_theLine_4 (x0, ()) (g0, ())) := by kernel_rfl
theorem runbus_theLine_4 : ∀ (x : Machine × Unit) (g : Int × Unit), execX false Ebus_theLine_4 Tryz.f150 (Abus_theLine_4.enc x) (Gbus_theLine_4.enc g) = (Tbus_theLine_4 x.1 g.1).map (Rbus_theLine_4 x g)
  | (x0, ()), (g0, ()) => rnbus_theLine_4 x0 g0
theorem okbus_theLine_4 : FnOk Tryz.prog cd 150 Sbus_theLine_4 := mk_okG (E := Ebus_theLine_4) (A := Abus_theLine_4) (B := Gbus_theLine_4) false cd_ok fns40_ok Tryz.func150 (by kernel_rfl) (noLoops_body (by kernel_rfl)) (aA_ok cMachine_ok (aP_ok (aNil_ok))) (bT_ok (cInt_ok .i64) bNil_ok) (T := fun (x : Machine × Unit) (g : Int × Unit) => Tbus_theLine_4 x.1 g.1) (fun _ _ => rfl) runbus_theLine_4
end Go.Proofs.YtfdndagnolbnhaaGreat
