/- (goes on) -/
import Derived.Test.YtenckckimagkkaaAb16p0
set_option linter.unusedSimpArgs false
namespace Go.Proofs.Ytenckckimagkkaa
open Go Go.Ab
/-- emulator/emulatorref15.Read -/
noncomputable def Tref15_Read (q : Option Nat) (x0 : Drive) (x1 : Int) : Tree ((List UInt8) × Int) :=
  .ite (decide (x1 < (0 : Int)))
    (.leaf ((([] : List UInt8), (2 : Int))))
    (.ite (decide ((x0.sectors.length : Int) ≤ x1))
      (.leaf ((([] : List UInt8), (2 : Int))))
      (.opt Bool (ref15_Isbad q x0 x1) fun r199 =>
        .ite (r199)
          (.leaf ((([] : List UInt8), (21 : Int))))
          (.ite (decide (0 ≤ x1))
            (.opt (List UInt8) (x0.sectors[(x1).toNat]?) fun y200 =>
              .leaf ((y200, (0 : Int))))
            .fail)))
noncomputable def ref15_Read (q : Option Nat) (x0 : Drive) (x1 : Int) : Option ((List UInt8) × Int) := (Tref15_Read q x0 x1).run
theorem leref15_Read (k : Nat) (x0 : Drive) (x1 : Int) : Le (ref15_Read (some k) x0 x1) (ref15_Read none x0 x1) := (TLe.ite TLe.rfl (TLe.ite TLe.rfl (TLe.opt (leref15_Isbad k _ _) fun _ => TLe.rfl)))
noncomputable def Aref15_Read : Arg U (Drive × Int × Unit) := aA cDrive (aO (cInt .i64) (aNil))
noncomputable def Rref15_Read (r : ((List UInt8) × Int)) : List (V U) × List (Blk U) := ([vO cStr r.1, vO (cInt .i64) r.2], [])
noncomputable def Sref15_Read : List (V U) → List (Blk U) → Option (FnOut U) := mkSpec Aref15_Read bNil (fun x _ => ref15_Read none x.1 x.2.1) Rref15_Read
noncomputable def Eref15_Read : Env U := { P := Try.prog, cd := cd, fns := fns59, lps := noL, frz := fun _r => false, nt := 23, n0 := 0 }
theorem runref15_Read (x : Drive × Int × Unit) (g : Unit) : execF Eref15_Read Try.f36 (Aref15_Read.enc x) (bNil.enc g) = (Tref15_Read none x.1 x.2.1).map Rref15_Read := by kernel_rfl
theorem okref15_Read : FnOk Try.prog cd 36 Sref15_Read := mk_ok (E := Eref15_Read) cd_ok fns59_ok Try.func36 (by kernel_rfl) (noLoops_body (by kernel_rfl)) (aA_ok cDrive_ok (aO_ok (cInt_ok .i64) (aNil_ok))) bNil_ok (T := fun x _ => Tref15_Read none x.1 x.2.1) (fun _ _ => rfl) runref15_Read
noncomputable def fns36 := addF 36 true Sref15_Read fns59
theorem fns36_ok : ∀ f q t, fns36 f = some (q, t) → FnOk Try.prog cd f t := addF_ok okref15_Read fns59_ok
/-- emulator/emulatorref16.spoilt -/
structure Sref16_spoilt_0 where
  t0 : (List Int)
  t1 : Int
  t2 : Int
  t7 : Int
noncomputable def Wref16_spoilt_0 (s : Sref16_spoilt_0) : Tree (Sref16_spoilt_0 ⊕ (Bool ⊕ Unit)) :=
  .ite (decide (s.t7 < (s.t0.length : Int)))
    (.ite (decide (0 ≤ s.t7))
      (.opt Int (s.t0[(s.t7).toNat]?) fun y201 =>
        .ite (decide (s.t1 ≤ y201))
          (.ite (decide (0 ≤ s.t7))
            (.opt Int (s.t0[(s.t7).toNat]?) fun y202 =>
              .ite (decide (y202 < (IntKind.wrap .i64 (s.t1 + (IntKind.wrap .i64 ((2 : Int) * s.t2))))))
                (.leaf (.inr (.inl true)))
                (.leaf (.inl (Sref16_spoilt_0.mk s.t0 s.t1 s.t2 (IntKind.wrap .i64 (s.t7 + (1 : Int)))))))
            .fail)
          (.leaf (.inl (Sref16_spoilt_0.mk s.t0 s.t1 s.t2 (IntKind.wrap .i64 (s.t7 + (1 : Int)))))))
      .fail)
    (.leaf (.inr (.inr ())))
noncomputable def Lref16_spoilt_0 (q : Option Nat) (s : Sref16_spoilt_0) : Option (Bool ⊕ Unit) := limQ q (fun s => (Wref16_spoilt_0 s).run) s
theorem leLref16_spoilt_0 (k : Nat) (s : Sref16_spoilt_0) : Le (Lref16_spoilt_0 (some k) s) (Lref16_spoilt_0 none s) := limQ_le (fun _ => Le.rfl) s
noncomputable def Tref16_spoilt (q : Option Nat) (x0 : (List Int)) (x1 : Int) (x2 : Int) : Tree Bool :=
  .opt (Bool ⊕ Unit) (Lref16_spoilt_0 q (Sref16_spoilt_0.mk x0 x1 x2 (0 : Int))) fun l203 =>
    .ite (l203.isLeft)
      (.opt Bool (l203.getLeft?) fun a204 =>
        .leaf (a204))
      (.opt Unit (l203.getRight?) fun b205 =>
        .leaf (false))
noncomputable def ref16_spoilt (q : Option Nat) (x0 : (List Int)) (x1 : Int) (x2 : Int) : Option Bool := (Tref16_spoilt q x0 x1 x2).run
theorem leref16_spoilt (k : Nat) (x0 : (List Int)) (x1 : Int) (x2 : Int) : Le (ref16_spoilt (some k) x0 x1 x2) (ref16_spoilt none x0 x1 x2) := (TLe.opt (leLref16_spoilt_0 k _) fun _ => TLe.rfl)
noncomputable def Aref16_spoilt : Arg U ((List Int) × Int × Int × Unit) := aO (cSl 3) (aO (cInt .i64) (aO (cInt .i64) (aNil)))
noncomputable def Rref16_spoilt (r : Bool) : List (V U) × List (Blk U) := ([vO cBool r], [])
noncomputable def Sref16_spoilt : List (V U) → List (Blk U) → Option (FnOut U) := mkSpec Aref16_spoilt bNil (fun x _ => ref16_spoilt none x.1 x.2.1 x.2.2.1) Rref16_spoilt
noncomputable def Pref16_spoilt_0 (x : ((List Int) × Unit) × (Int × Unit) × (Int × Unit) × (Int × Unit) × Unit) (_g : Unit) : Sref16_spoilt_0 := Sref16_spoilt_0.mk x.1.1 x.2.1.1 x.2.2.1.1 x.2.2.2.1.1
noncomputable def tAref16_spoilt_0 : Tms U (((List Int) × Unit) × (Int × Unit) × (Int × Unit) × (Int × Unit) × Unit) := tO 0 (cPair (cSl 3) (cUnit)) (tO 1 (cPair (cInt .i64) (cUnit)) (tO 2 (cPair (cInt .i64) (cUnit)) (tO 7 (cPair (cInt .i64) (cUnit)) (tNil))))
noncomputable def tBref16_spoilt_0 : Bls U (Unit) := bNil
noncomputable def eSref16_spoilt_0 (s : Sref16_spoilt_0) : St U := { tm := [(0, .v (vO (cPair (cSl 3) (cUnit)) (s.t0, ()))), (1, .v (vO (cPair (cInt .i64) (cUnit)) (s.t1, ()))), (2, .v (vO (cPair (cInt .i64) (cUnit)) (s.t2, ()))), (7, .v (vO (cPair (cInt .i64) (cUnit)) (s.t7, ())))], hp := [] }
noncomputable def xSref16_spoilt_0 : (Bool ⊕ Unit) → Ex × St U
  | .inl r => (.ret, { tm := [(6, .v (vO (cPair cBool (cUnit)) (r, ())))], hp := [] })
  | .inr r => (.exit 0, { tm := [], hp := [] })
noncomputable def xTref16_spoilt_0 (y : (Bool ⊕ Unit)) : Tree (Ex × St U) := .ite y.isLeft (.opt Bool y.getLeft? fun r => .leaf (.ret, { tm := [(6, .v (vO (cPair cBool (cUnit)) (r, ())))], hp := [] })) (.opt Unit y.getRight? fun r => .leaf (.exit 0, { tm := [], hp := [] }))
noncomputable def href16_spoilt_0 : Hd := { keep := [0, 1, 2, 7], xkeep := [6], own := false }
noncomputable def Eref16_spoilt : Env U := { P := Try.prog, cd := cd, fns := fns36, lps := (addL 0 href16_spoilt_0 (mkLoop tAref16_spoilt_0 tBref16_spoilt_0 Pref16_spoilt_0 (Lref16_spoilt_0 none) xTref16_spoilt_0) noL), frz := fun _r => false, nt := 31, n0 := 0 }
noncomputable def Bref16_spoilt_0 : Code := (loopAt (Try.f37.body.getD .skip) 0 0).getD .skip
theorem roundref16_spoilt_0 (s : Sref16_spoilt_0) : round Eref16_spoilt href16_spoilt_0 Bref16_spoilt_0 0 (eSref16_spoilt_0 s) = (Wref16_spoilt_0 s).map (sumE eSref16_spoilt_0 xSref16_spoilt_0) := by kernel_rfl
theorem lpref16_spoilt_0 : LpOk Eref16_spoilt Bref16_spoilt_0 0 := mkLoop_ok (A := tAref16_spoilt_0) (B := tBref16_spoilt_0) (f := Pref16_spoilt_0) (L := Lref16_spoilt_0 none) (tO_ok (cPair_ok (cSl_ok 3) cUnit_ok) (tO_ok (cPair_ok (cInt_ok .i64) cUnit_ok) (tO_ok (cPair_ok (cInt_ok .i64) cUnit_ok) (tO_ok (cPair_ok (cInt_ok .i64) cUnit_ok) tNil_ok)))) bNil_ok (enc := eSref16_spoilt_0) (out := xTref16_spoilt_0) (outS := xSref16_spoilt_0) (step := Wref16_spoilt_0) (fun _ => rfl) (fun _ _ => by kernel_rfl) (by kernel_rfl) (fun b => by cases b <;> rfl) roundref16_spoilt_0
theorem runref16_spoilt (x : (List Int) × Int × Int × Unit) (g : Unit) : execF Eref16_spoilt Try.f37 (Aref16_spoilt.enc x) (bNil.enc g) = (Tref16_spoilt none x.1 x.2.1 x.2.2.1).map Rref16_spoilt := by kernel_rfl
theorem okref16_spoilt : FnOk Try.prog cd 37 Sref16_spoilt := mk_ok (E := Eref16_spoilt) cd_ok fns36_ok Try.func37 (by kernel_rfl) (loops_of (addL_ok lpref16_spoilt_0 noL_ok)) (aO_ok (cSl_ok 3) (aO_ok (cInt_ok .i64) (aO_ok (cInt_ok .i64) (aNil_ok)))) bNil_ok (T := fun x _ => Tref16_spoilt none x.1 x.2.1 x.2.2.1) (fun _ _ => rfl) runref16_spoilt
noncomputable def fns37 := addF 37 true Sref16_spoilt fns36
theorem fns37_ok : ∀ f q t, fns37 f = some (q, t) → FnOk Try.prog cd f t := addF_ok okref16_spoilt fns36_ok
/-- emulator/emulatorref16.at -/
noncomputable def Tref16_at (x0 : (List UInt8)) (x1 : Int) : Tree Int :=
  .ite (decide (0 ≤ IntKind.wrap .i64 ((2 : Int) * x1)))
    (.opt UInt8 (x0[(IntKind.wrap .i64 ((2 : Int) * x1)).toNat]?) fun y206 =>
      .ite (decide (0 ≤ IntKind.wrap .i64 ((IntKind.wrap .i64 ((2 : Int) * x1)) + (1 : Int))))
        (.opt UInt8 (x0[(IntKind.wrap .i64 ((IntKind.wrap .i64 ((2 : Int) * x1)) + (1 : Int))).toNat]?) fun y207 =>
          .leaf (IntKind.wrap .i64 ((IntKind.wrap .i64 (y206.toNat : Int)) + (IntKind.wrap .i64 ((256 : Int) * (IntKind.wrap .i64 (y207.toNat : Int)))))))
        .fail)
    .fail
noncomputable def ref16_at (x0 : (List UInt8)) (x1 : Int) : Option Int := (Tref16_at x0 x1).run
noncomputable def Aref16_at : Arg U ((List UInt8) × Int × Unit) := aO cStr (aO (cInt .i64) (aNil))
noncomputable def Rref16_at (r : Int) : List (V U) × List (Blk U) := ([vO (cInt .i64) r], [])
noncomputable def Sref16_at : List (V U) → List (Blk U) → Option (FnOut U) := mkSpec Aref16_at bNil (fun x _ => ref16_at x.1 x.2.1) Rref16_at
noncomputable def Eref16_at : Env U := { P := Try.prog, cd := cd, fns := fns37, lps := noL, frz := fun _r => false, nt := 18, n0 := 0 }
theorem runref16_at (x : (List UInt8) × Int × Unit) (g : Unit) : execF Eref16_at Try.f41 (Aref16_at.enc x) (bNil.enc g) = (Tref16_at x.1 x.2.1).map Rref16_at := by kernel_rfl
theorem okref16_at : FnOk Try.prog cd 41 Sref16_at := mk_ok (E := Eref16_at) cd_ok fns37_ok Try.func41 (by kernel_rfl) (noLoops_body (by kernel_rfl)) (aO_ok cStr_ok (aO_ok (cInt_ok .i64) (aNil_ok))) bNil_ok (T := fun x _ => Tref16_at x.1 x.2.1) (fun _ _ => rfl) runref16_at
noncomputable def fns41 := addF 41 true Sref16_at fns37
theorem fns41_ok : ∀ f q t, fns41 f = some (q, t) → FnOk Try.prog cd f t := addF_ok okref16_at fns37_ok
/-- emulator/emulatorref16.differs -/
structure Sref16_differs_0 where
  t0 : (List Int)
  t1 : Int
  t2 : Int
  t3 : (List UInt8)
  t9 : Int
noncomputable def Wref16_differs_0 (s : Sref16_differs_0) : Tree (Sref16_differs_0 ⊕ (Bool ⊕ Unit)) :=
  .ite (decide (s.t9 < s.t2))
    (.ite (decide ((2 : Int) = 0))
      .fail
      (.ite (decide (0 ≤ IntKind.wrap .i64 ((IntKind.wrap .i64 ((s.t1).tdiv (2 : Int))) + s.t9)))
        (.opt Int (s.t0[(IntKind.wrap .i64 ((IntKind.wrap .i64 ((s.t1).tdiv (2 : Int))) + s.t9)).toNat]?) fun y208 =>
          .opt Int (ref16_at s.t3 s.t9) fun r209 =>
            .ite (!decide (y208 = r209))
              (.leaf (.inr (.inl true)))
              (.leaf (.inl (Sref16_differs_0.mk s.t0 s.t1 s.t2 s.t3 (IntKind.wrap .i64 (s.t9 + (1 : Int)))))))
        .fail))
    (.leaf (.inr (.inr ())))
noncomputable def Lref16_differs_0 (q : Option Nat) (s : Sref16_differs_0) : Option (Bool ⊕ Unit) := limQ q (fun s => (Wref16_differs_0 s).run) s
theorem leLref16_differs_0 (k : Nat) (s : Sref16_differs_0) : Le (Lref16_differs_0 (some k) s) (Lref16_differs_0 none s) := limQ_le (fun _ => Le.rfl) s
noncomputable def Tref16_differs (q : Option Nat) (x0 : (List Int)) (x1 : Int) (x2 : Int) (x3 : (List UInt8)) : Tree Bool :=
  .opt (Bool ⊕ Unit) (Lref16_differs_0 q (Sref16_differs_0.mk x0 x1 x2 x3 (0 : Int))) fun l210 =>
    .ite (l210.isLeft)
      (.opt Bool (l210.getLeft?) fun a211 =>
        .leaf (a211))
      (.opt Unit (l210.getRight?) fun b212 =>
        .leaf (false))
noncomputable def ref16_differs (q : Option Nat) (x0 : (List Int)) (x1 : Int) (x2 : Int) (x3 : (List UInt8)) : Option Bool := (Tref16_differs q x0 x1 x2 x3).run
theorem leref16_differs (k : Nat) (x0 : (List Int)) (x1 : Int) (x2 : Int) (x3 : (List UInt8)) : Le (ref16_differs (some k) x0 x1 x2 x3) (ref16_differs none x0 x1 x2 x3) := (TLe.opt (leLref16_differs_0 k _) fun _ => TLe.rfl)
noncomputable def Aref16_differs : Arg U ((List Int) × Int × Int × (List UInt8) × Unit) := aO (cSl 3) (aO (cInt .i64) (aO (cInt .i64) (aO cStr (aNil))))
noncomputable def Rref16_differs (r : Bool) : List (V U) × List (Blk U) := ([vO cBool r], [])
noncomputable def Sref16_differs : List (V U) → List (Blk U) → Option (FnOut U) := mkSpec Aref16_differs bNil (fun x _ => ref16_differs none x.1 x.2.1 x.2.2.1 x.2.2.2.1) Rref16_differs
noncomputable def Pref16_differs_0 (x : ((List Int) × Unit) × (Int × Unit) × (Int × Unit) × ((List UInt8) × Unit) × (Int × Unit) × Unit) (_g : Unit) : Sref16_differs_0 := Sref16_differs_0.mk x.1.1 x.2.1.1 x.2.2.1.1 x.2.2.2.1.1 x.2.2.2.2.1.1
noncomputable def tAref16_differs_0 : Tms U (((List Int) × Unit) × (Int × Unit) × (Int × Unit) × ((List UInt8) × Unit) × (Int × Unit) × Unit) := tO 0 (cPair (cSl 3) (cUnit)) (tO 1 (cPair (cInt .i64) (cUnit)) (tO 2 (cPair (cInt .i64) (cUnit)) (tO 3 (cPair cStr (cUnit)) (tO 9 (cPair (cInt .i64) (cUnit)) (tNil)))))
noncomputable def tBref16_differs_0 : Bls U (Unit) := bNil
noncomputable def eSref16_differs_0 (s : Sref16_differs_0) : St U := { tm := [(0, .v (vO (cPair (cSl 3) (cUnit)) (s.t0, ()))), (1, .v (vO (cPair (cInt .i64) (cUnit)) (s.t1, ()))), (2, .v (vO (cPair (cInt .i64) (cUnit)) (s.t2, ()))), (3, .v (vO (cPair cStr (cUnit)) (s.t3, ()))), (9, .v (vO (cPair (cInt .i64) (cUnit)) (s.t9, ())))], hp := [] }
noncomputable def xSref16_differs_0 : (Bool ⊕ Unit) → Ex × St U
  | .inl r => (.ret, { tm := [(8, .v (vO (cPair cBool (cUnit)) (r, ())))], hp := [] })
  | .inr r => (.exit 0, { tm := [], hp := [] })
noncomputable def xTref16_differs_0 (y : (Bool ⊕ Unit)) : Tree (Ex × St U) := .ite y.isLeft (.opt Bool y.getLeft? fun r => .leaf (.ret, { tm := [(8, .v (vO (cPair cBool (cUnit)) (r, ())))], hp := [] })) (.opt Unit y.getRight? fun r => .leaf (.exit 0, { tm := [], hp := [] }))
noncomputable def href16_differs_0 : Hd := { keep := [0, 1, 2, 3, 9], xkeep := [8], own := false }
noncomputable def Eref16_differs : Env U := { P := Try.prog, cd := cd, fns := fns41, lps := (addL 0 href16_differs_0 (mkLoop tAref16_differs_0 tBref16_differs_0 Pref16_differs_0 (Lref16_differs_0 none) xTref16_differs_0) noL), frz := fun _r => false, nt := 26, n0 := 0 }
noncomputable def Bref16_differs_0 : Code := (loopAt (Try.f38.body.getD .skip) 0 0).getD .skip
theorem roundref16_differs_0 (s : Sref16_differs_0) : round Eref16_differs href16_differs_0 Bref16_differs_0 0 (eSref16_differs_0 s) = (Wref16_differs_0 s).map (sumE eSref16_differs_0 xSref16_differs_0) := by kernel_rfl
theorem lpref16_differs_0 : LpOk Eref16_differs Bref16_differs_0 0 := mkLoop_ok (A := tAref16_differs_0) (B := tBref16_differs_0) (f := Pref16_differs_0) (L := Lref16_differs_0 none) (tO_ok (cPair_ok (cSl_ok 3) cUnit_ok) (tO_ok (cPair_ok (cInt_ok .i64) cUnit_ok) (tO_ok (cPair_ok (cInt_ok .i64) cUnit_ok) (tO_ok (cPair_ok cStr_ok cUnit_ok) (tO_ok (cPair_ok (cInt_ok .i64) cUnit_ok) tNil_ok))))) bNil_ok (enc := eSref16_differs_0) (out := xTref16_differs_0) (outS := xSref16_differs_0) (step := Wref16_differs_0) (fun _ => rfl) (fun _ _ => by kernel_rfl) (by kernel_rfl) (fun b => by cases b <;> rfl) roundref16_differs_0
theorem runref16_differs (x : (List Int) × Int × Int × (List UInt8) × Unit) (g : Unit) : execF Eref16_differs Try.f38 (Aref16_differs.enc x) (bNil.enc g) = (Tref16_differs none x.1 x.2.1 x.2.2.1 x.2.2.2.1).map Rref16_differs := by kernel_rfl
theorem okref16_differs : FnOk Try.prog cd 38 Sref16_differs := mk_ok (E := Eref16_differs) cd_ok fns41_ok Try.func38 (by kernel_rfl) (loops_of (addL_ok lpref16_differs_0 noL_ok)) (aO_ok (cSl_ok 3) (aO_ok (cInt_ok .i64) (aO_ok (cInt_ok .i64) (aO_ok cStr_ok (aNil_ok))))) bNil_ok (T := fun x _ => Tref16_differs none x.1 x.2.1 x.2.2.1 x.2.2.2.1) (fun _ _ => rfl) runref16_differs
noncomputable def fns38 := addF 38 true Sref16_differs fns41
theorem fns38_ok : ∀ f q t, fns38 f = some (q, t) → FnOk Try.prog cd f t := addF_ok okref16_differs fns41_ok
/-- emulator/emulatorref15.zeros -/
structure Sref15_zeros_0 where
  t0 : Int
  t4 : Int
  b0 : (List Int)
noncomputable def Wref15_zeros_0 (s : Sref15_zeros_0) : Tree (Sref15_zeros_0 ⊕ (List Int)) :=
  .ite (decide (s.t4 < s.t0))
    (.ite (decide ((s.b0.length + ([(0 : Int)]).length) * 1 ≤ 140737488355328))
      (.leaf (.inl (Sref15_zeros_0.mk s.t0 (IntKind.wrap .i64 (s.t4 + (1 : Int))) (s.b0 ++ ([(0 : Int)])))))
      .fail)
    (.leaf (.inr s.b0))
noncomputable def Lref15_zeros_0 (q : Option Nat) (s : Sref15_zeros_0) : Option (List Int) := limQ q (fun s => (Wref15_zeros_0 s).run) s
theorem leLref15_zeros_0 (k : Nat) (s : Sref15_zeros_0) : Le (Lref15_zeros_0 (some k) s) (Lref15_zeros_0 none s) := limQ_le (fun _ => Le.rfl) s
noncomputable def Tref15_zeros (q : Option Nat) (x0 : Int) : Tree (List UInt8) :=
  .opt (List Int) (Lref15_zeros_0 q (Sref15_zeros_0.mk x0 (0 : Int) ([]))) fun l213 =>
    .leaf (l213.map fun x => UInt8.ofNat x.toNat)
noncomputable def ref15_zeros (q : Option Nat) (x0 : Int) : Option (List UInt8) := (Tref15_zeros q x0).run
theorem leref15_zeros (k : Nat) (x0 : Int) : Le (ref15_zeros (some k) x0) (ref15_zeros none x0) := (TLe.opt (leLref15_zeros_0 k _) fun _ => TLe.rfl)
noncomputable def Aref15_zeros : Arg U (Int × Unit) := aO (cInt .i64) (aNil)
noncomputable def Rref15_zeros (r : (List UInt8)) : List (V U) × List (Blk U) := ([vO cStr r], [])
noncomputable def Sref15_zeros : List (V U) → List (Blk U) → Option (FnOut U) := mkSpec Aref15_zeros bNil (fun x _ => ref15_zeros none x.1) Rref15_zeros
noncomputable def Pref15_zeros_0 (x : (Int × Unit) × (Unit) × (Int × Unit) × Unit) (g : (List Int) × Unit) : Sref15_zeros_0 := Sref15_zeros_0.mk x.1.1 x.2.2.1.1 g.1
noncomputable def tAref15_zeros_0 : Tms U ((Int × Unit) × (Unit) × (Int × Unit) × Unit) := tO 0 (cPair (cInt .i64) (cUnit)) (tO 3 (cK (.row 0 0) (cUnit)) (tO 4 (cPair (cInt .i64) (cUnit)) (tNil)))
noncomputable def tBref15_zeros_0 : Bls U ((List Int) × Unit) := bRv 5 0 (bNil)
noncomputable def eSref15_zeros_0 (s : Sref15_zeros_0) : St U := { tm := [(0, .v (vO (cPair (cInt .i64) (cUnit)) (s.t0, ()))), (3, .v (vO (cK (.row 0 0) (cUnit)) (()))), (4, .v (vO (cPair (cInt .i64) (cUnit)) (s.t4, ())))], hp := [.row 5 0 s.b0] }
noncomputable def xSref15_zeros_0 (r : (List Int)) : Ex × St U := (.exit 0, { tm := [(3, .v (vO (cK (.row 0 0) (cUnit)) (())))], hp := [.row 5 0 r] })
noncomputable def xTref15_zeros_0 (r : (List Int)) : Tree (Ex × St U) := .leaf (xSref15_zeros_0 r)
noncomputable def href15_zeros_0 : Hd := { keep := [0, 3, 4], xkeep := [2, 3], own := true }
noncomputable def Eref15_zeros : Env U := { P := Try.prog, cd := cd, fns := fns38, lps := (addL 0 href15_zeros_0 (mkLoop tAref15_zeros_0 tBref15_zeros_0 Pref15_zeros_0 (Lref15_zeros_0 none) xTref15_zeros_0) noL), frz := fun _r => false, nt := 15, n0 := 0 }
noncomputable def Bref15_zeros_0 : Code := (loopAt (Try.f60.body.getD .skip) 0 0).getD .skip
theorem roundref15_zeros_0 (s : Sref15_zeros_0) : round Eref15_zeros href15_zeros_0 Bref15_zeros_0 0 (eSref15_zeros_0 s) = (Wref15_zeros_0 s).map (sumE eSref15_zeros_0 xSref15_zeros_0) := by kernel_rfl
theorem lpref15_zeros_0 : LpOk Eref15_zeros Bref15_zeros_0 0 := mkLoop_ok (A := tAref15_zeros_0) (B := tBref15_zeros_0) (f := Pref15_zeros_0) (L := Lref15_zeros_0 none) (tO_ok (cPair_ok (cInt_ok .i64) cUnit_ok) (tO_ok (cK_ok cUnit_ok) (tO_ok (cPair_ok (cInt_ok .i64) cUnit_ok) tNil_ok))) (bRv_ok bNil_ok) (enc := eSref15_zeros_0) (out := xTref15_zeros_0) (outS := xSref15_zeros_0) (step := Wref15_zeros_0) (fun _ => rfl) (fun _ _ => by kernel_rfl) (by kernel_rfl) (fun _ => rfl) roundref15_zeros_0
theorem runref15_zeros (x : Int × Unit) (g : Unit) : execF Eref15_zeros Try.f60 (Aref15_zeros.enc x) (bNil.enc g) = (Tref15_zeros none x.1).map Rref15_zeros := by kernel_rfl
theorem okref15_zeros : FnOk Try.prog cd 60 Sref15_zeros := mk_ok (E := Eref15_zeros) cd_ok fns38_ok Try.func60 (by kernel_rfl) (loops_of (addL_ok lpref15_zeros_0 noL_ok)) (aO_ok (cInt_ok .i64) (aNil_ok)) bNil_ok (T := fun x _ => Tref15_zeros none x.1) (fun _ _ => rfl) runref15_zeros
noncomputable def fns60 := addF 60 true Sref15_zeros fns38
theorem fns60_ok : ∀ f q t, fns60 f = some (q, t) → FnOk Try.prog cd f t := addF_ok okref15_zeros fns38_ok
/-- emulator/emulatorref15.Write -/
noncomputable def Tref15_Write (q : Option Nat) (x0 : Drive) (x1 : Int) (x2 : (List UInt8)) : Tree (Drive × Int) :=
  .ite (decide (x1 < (0 : Int)))
    (.leaf ((Drive.mk ([]) ([]), (2 : Int))))
    (.ite (decide ((x0.sectors.length : Int) ≤ x1))
      (.leaf ((Drive.mk ([]) ([]), (2 : Int))))
      (.ite (decide ((128 : Int) < (x2.length : Int)))
        (.leaf ((Drive.mk ([]) ([]), (7 : Int))))
        (.opt Bool (ref15_Isbad q x0 x1) fun r214 =>
          .ite (r214)
            (.leaf ((Drive.mk ([]) ([]), (21 : Int))))
            (.ite (decide ((([] : List (List UInt8)).length + x0.sectors.length) * 16 ≤ 140737488355328))
              (.opt (List UInt8) (ref15_zeros q (IntKind.wrap .i64 ((128 : Int) - (x2.length : Int)))) fun r215 =>
                .ite (decide (x2.length + r215.length ≤ 9223372036854775807))
                  (.ite (decide (0 ≤ x1))
                    (.ite (decide (x1 < ((([] : List (List UInt8)) ++ x0.sectors).length : Int)))
                      (.opt (List UInt8) ((([] : List (List UInt8)) ++ x0.sectors)[(x1).toNat]?) fun y216 =>
                        .leaf ((Drive.mk ((([] : List (List UInt8)) ++ x0.sectors).set ((x1).toNat) (x2 ++ r215)) x0.bad, (0 : Int))))
                      .fail)
                    .fail)
                  .fail)
              .fail))))
noncomputable def ref15_Write (q : Option Nat) (x0 : Drive) (x1 : Int) (x2 : (List UInt8)) : Option (Drive × Int) := (Tref15_Write q x0 x1 x2).run
theorem leref15_Write (k : Nat) (x0 : Drive) (x1 : Int) (x2 : (List UInt8)) : Le (ref15_Write (some k) x0 x1 x2) (ref15_Write none x0 x1 x2) := (TLe.ite TLe.rfl (TLe.ite TLe.rfl (TLe.ite TLe.rfl (TLe.opt (leref15_Isbad k _ _) fun _ => (TLe.ite TLe.rfl (TLe.ite (TLe.opt (leref15_zeros k _) fun _ => TLe.rfl) TLe.rfl))))))
noncomputable def Aref15_Write : Arg U (Drive × Int × (List UInt8) × Unit) := aA cDrive (aO (cInt .i64) (aO cStr (aNil)))
noncomputable def Rref15_Write (r : (Drive × Int)) : List (V U) × List (Blk U) := ([vA cDrive r.1, vO (cInt .i64) r.2], [])
noncomputable def Sref15_Write : List (V U) → List (Blk U) → Option (FnOut U) := mkSpec Aref15_Write bNil (fun x _ => ref15_Write none x.1 x.2.1 x.2.2.1) Rref15_Write
noncomputable def Eref15_Write : Env U := { P := Try.prog, cd := cd, fns := fns60, lps := noL, frz := fun _r => false, nt := 43, n0 := 0 }
theorem runref15_Write (x : Drive × Int × (List UInt8) × Unit) (g : Unit) : execF Eref15_Write Try.f39 (Aref15_Write.enc x) (bNil.enc g) = (Tref15_Write none x.1 x.2.1 x.2.2.1).map Rref15_Write := by kernel_rfl
theorem okref15_Write : FnOk Try.prog cd 39 Sref15_Write := mk_ok (E := Eref15_Write) cd_ok fns60_ok Try.func39 (by kernel_rfl) (noLoops_body (by kernel_rfl)) (aA_ok cDrive_ok (aO_ok (cInt_ok .i64) (aO_ok cStr_ok (aNil_ok)))) bNil_ok (T := fun x _ => Tref15_Write none x.1 x.2.1 x.2.2.1) (fun _ _ => rfl) runref15_Write
noncomputable def fns39 := addF 39 true Sref15_Write fns60
theorem fns39_ok : ∀ f q t, fns39 f = some (q, t) → FnOk Try.prog cd f t := addF_ok okref15_Write fns60_ok
/-- emulator/emulatorref16.sector -/
structure Sref16_sector_0 where
  t0 : (List Int)
  t1 : Int
  t2 : Int
  t8 : Int
  b0 : (List Int)
noncomputable def Wref16_sector_0 (s : Sref16_sector_0) : Tree (Sref16_sector_0 ⊕ (List Int)) :=
  .ite (decide (s.t8 < s.t2))
    (.ite (decide ((2 : Int) = 0))
      .fail
      (.ite (decide (0 ≤ IntKind.wrap .i64 ((IntKind.wrap .i64 ((s.t1).tdiv (2 : Int))) + s.t8)))
        (.opt Int (s.t0[(IntKind.wrap .i64 ((IntKind.wrap .i64 ((s.t1).tdiv (2 : Int))) + s.t8)).toNat]?) fun y217 =>
          .ite (decide (0 ≤ (8 : Int)))
            (.ite (decide ((s.b0.length + ([IntKind.wrap .u8 (IntKind.wrap .i64 (((BitVec.ofInt 64 y217 &&& BitVec.ofInt 64 (255 : Int)).toNat : Int))), IntKind.wrap .u8 ((y217).fdiv (2 ^ (min ((8 : Int)).toNat 64)))]).length) * 1 ≤ 140737488355328))
              (.leaf (.inl (Sref16_sector_0.mk s.t0 s.t1 s.t2 (IntKind.wrap .i64 (s.t8 + (1 : Int))) (s.b0 ++ ([IntKind.wrap .u8 (IntKind.wrap .i64 (((BitVec.ofInt 64 y217 &&& BitVec.ofInt 64 (255 : Int)).toNat : Int))), IntKind.wrap .u8 ((y217).fdiv (2 ^ (min ((8 : Int)).toNat 64)))])))))
              .fail)
            .fail)
        .fail))
    (.leaf (.inr s.b0))
noncomputable def Lref16_sector_0 (q : Option Nat) (s : Sref16_sector_0) : Option (List Int) := limQ q (fun s => (Wref16_sector_0 s).run) s
theorem leLref16_sector_0 (k : Nat) (s : Sref16_sector_0) : Le (Lref16_sector_0 (some k) s) (Lref16_sector_0 none s) := limQ_le (fun _ => Le.rfl) s
structure Sref16_sector_1 where
  b0 : (List Int)
noncomputable def Wref16_sector_1 (s : Sref16_sector_1) : Tree (Sref16_sector_1 ⊕ (List Int)) :=
  .ite (decide ((s.b0.length : Int) < (128 : Int)))
    (.ite (decide ((s.b0.length + ([(0 : Int)]).length) * 1 ≤ 140737488355328))
      (.leaf (.inl (Sref16_sector_1.mk (s.b0 ++ ([(0 : Int)])))))
      .fail)
    (.leaf (.inr s.b0))
noncomputable def Lref16_sector_1 (q : Option Nat) (s : Sref16_sector_1) : Option (List Int) := limQ q (fun s => (Wref16_sector_1 s).run) s
theorem leLref16_sector_1 (k : Nat) (s : Sref16_sector_1) : Le (Lref16_sector_1 (some k) s) (Lref16_sector_1 none s) := limQ_le (fun _ => Le.rfl) s
noncomputable def Tref16_sector (q : Option Nat) (x0 : (List Int)) (x1 : Int) (x2 : Int) : Tree (List UInt8) :=
  .opt (List Int) (Lref16_sector_0 q (Sref16_sector_0.mk x0 x1 x2 (0 : Int) ([]))) fun l218 =>
    .opt (List Int) (Lref16_sector_1 q (Sref16_sector_1.mk l218)) fun l219 =>
      .leaf (l219.map fun x => UInt8.ofNat x.toNat)
noncomputable def ref16_sector (q : Option Nat) (x0 : (List Int)) (x1 : Int) (x2 : Int) : Option (List UInt8) := (Tref16_sector q x0 x1 x2).run
theorem leref16_sector (k : Nat) (x0 : (List Int)) (x1 : Int) (x2 : Int) : Le (ref16_sector (some k) x0 x1 x2) (ref16_sector none x0 x1 x2) := (TLe.opt (leLref16_sector_0 k _) fun _ => (TLe.opt (leLref16_sector_1 k _) fun _ => TLe.rfl))
noncomputable def Aref16_sector : Arg U ((List Int) × Int × Int × Unit) := aO (cSl 3) (aO (cInt .i64) (aO (cInt .i64) (aNil)))
noncomputable def Rref16_sector (r : (List UInt8)) : List (V U) × List (Blk U) := ([vO cStr r], [])
noncomputable def Sref16_sector : List (V U) → List (Blk U) → Option (FnOut U) := mkSpec Aref16_sector bNil (fun x _ => ref16_sector none x.1 x.2.1 x.2.2.1) Rref16_sector
noncomputable def Pref16_sector_0 (x : ((List Int) × Unit) × (Int × Unit) × (Int × Unit) × (Unit) × (Int × Unit) × Unit) (g : (List Int) × Unit) : Sref16_sector_0 := Sref16_sector_0.mk x.1.1 x.2.1.1 x.2.2.1.1 x.2.2.2.2.1.1 g.1
noncomputable def tAref16_sector_0 : Tms U (((List Int) × Unit) × (Int × Unit) × (Int × Unit) × (Unit) × (Int × Unit) × Unit) := tO 0 (cPair (cSl 3) (cUnit)) (tO 1 (cPair (cInt .i64) (cUnit)) (tO 2 (cPair (cInt .i64) (cUnit)) (tO 7 (cK (.row 0 0) (cUnit)) (tO 8 (cPair (cInt .i64) (cUnit)) (tNil)))))
noncomputable def tBref16_sector_0 : Bls U ((List Int) × Unit) := bRv 5 0 (bNil)
noncomputable def eSref16_sector_0 (s : Sref16_sector_0) : St U := { tm := [(0, .v (vO (cPair (cSl 3) (cUnit)) (s.t0, ()))), (1, .v (vO (cPair (cInt .i64) (cUnit)) (s.t1, ()))), (2, .v (vO (cPair (cInt .i64) (cUnit)) (s.t2, ()))), (7, .v (vO (cK (.row 0 0) (cUnit)) (()))), (8, .v (vO (cPair (cInt .i64) (cUnit)) (s.t8, ())))], hp := [.row 5 0 s.b0] }
noncomputable def xSref16_sector_0 (r : (List Int)) : Ex × St U := (.exit 0, { tm := [(7, .v (vO (cK (.row 0 0) (cUnit)) (())))], hp := [.row 5 0 r] })
noncomputable def xTref16_sector_0 (r : (List Int)) : Tree (Ex × St U) := .leaf (xSref16_sector_0 r)
noncomputable def href16_sector_0 : Hd := { keep := [0, 1, 2, 7, 8], xkeep := [6, 7], own := true }
noncomputable def Pref16_sector_1 (x : (Unit) × Unit) (g : (List Int) × Unit) : Sref16_sector_1 := Sref16_sector_1.mk g.1
noncomputable def tAref16_sector_1 : Tms U ((Unit) × Unit) := tO 7 (cK (.row 0 0) (cUnit)) (tNil)
noncomputable def tBref16_sector_1 : Bls U ((List Int) × Unit) := bRv 5 0 (bNil)
noncomputable def eSref16_sector_1 (s : Sref16_sector_1) : St U := { tm := [(7, .v (vO (cK (.row 0 0) (cUnit)) (())))], hp := [.row 5 0 s.b0] }
noncomputable def xSref16_sector_1 (r : (List Int)) : Ex × St U := (.exit 2, { tm := [(7, .v (vO (cK (.row 0 0) (cUnit)) (())))], hp := [.row 5 0 r] })
noncomputable def xTref16_sector_1 (r : (List Int)) : Tree (Ex × St U) := .leaf (xSref16_sector_1 r)
noncomputable def href16_sector_1 : Hd := { keep := [7], xkeep := [6, 7], own := false }
noncomputable def Eref16_sector : Env U := { P := Try.prog, cd := cd, fns := fns39, lps := (addL 0 href16_sector_0 (mkLoop tAref16_sector_0 tBref16_sector_0 Pref16_sector_0 (Lref16_sector_0 none) xTref16_sector_0) (addL 1 href16_sector_1 (mkLoop tAref16_sector_1 tBref16_sector_1 Pref16_sector_1 (Lref16_sector_1 none) xTref16_sector_1) noL)), frz := fun _r => false, nt := 39, n0 := 0 }
noncomputable def Bref16_sector_0 : Code := (loopAt (Try.f40.body.getD .skip) 0 0).getD .skip
theorem roundref16_sector_0 (s : Sref16_sector_0) : round Eref16_sector href16_sector_0 Bref16_sector_0 0 (eSref16_sector_0 s) = (Wref16_sector_0 s).map (sumE eSref16_sector_0 xSref16_sector_0) := by kernel_rfl
theorem lpref16_sector_0 : LpOk Eref16_sector Bref16_sector_0 0 := mkLoop_ok (A := tAref16_sector_0) (B := tBref16_sector_0) (f := Pref16_sector_0) (L := Lref16_sector_0 none) (tO_ok (cPair_ok (cSl_ok 3) cUnit_ok) (tO_ok (cPair_ok (cInt_ok .i64) cUnit_ok) (tO_ok (cPair_ok (cInt_ok .i64) cUnit_ok) (tO_ok (cK_ok cUnit_ok) (tO_ok (cPair_ok (cInt_ok .i64) cUnit_ok) tNil_ok))))) (bRv_ok bNil_ok) (enc := eSref16_sector_0) (out := xTref16_sector_0) (outS := xSref16_sector_0) (step := Wref16_sector_0) (fun _ => rfl) (fun _ _ => by kernel_rfl) (by kernel_rfl) (fun _ => rfl) roundref16_sector_0
noncomputable def Bref16_sector_1 : Code := (loopAt (Try.f40.body.getD .skip) 0 1).getD .skip
theorem roundref16_sector_1 (s : Sref16_sector_1) : round Eref16_sector href16_sector_1 Bref16_sector_1 1 (eSref16_sector_1 s) = (Wref16_sector_1 s).map (sumE eSref16_sector_1 xSref16_sector_1) := by kernel_rfl
theorem lpref16_sector_1 : LpOk Eref16_sector Bref16_sector_1 1 := mkLoop_ok (A := tAref16_sector_1) (B := tBref16_sector_1) (f := Pref16_sector_1) (L := Lref16_sector_1 none) (tO_ok (cK_ok cUnit_ok) tNil_ok) (bRv_ok bNil_ok) (enc := eSref16_sector_1) (out := xTref16_sector_1) (outS := xSref16_sector_1) (step := Wref16_sector_1) (fun _ => rfl) (fun _ _ => by kernel_rfl) (by kernel_rfl) (fun _ => rfl) roundref16_sector_1
theorem runref16_sector (x : (List Int) × Int × Int × Unit) (g : Unit) : execF Eref16_sector Try.f40 (Aref16_sector.enc x) (bNil.enc g) = (Tref16_sector none x.1 x.2.1 x.2.2.1).map Rref16_sector := by kernel_rfl
theorem okref16_sector : FnOk Try.prog cd 40 Sref16_sector := mk_ok (E := Eref16_sector) cd_ok fns39_ok Try.func40 (by kernel_rfl) (loops_of (addL_ok lpref16_sector_0 (addL_ok lpref16_sector_1 noL_ok))) (aO_ok (cSl_ok 3) (aO_ok (cInt_ok .i64) (aO_ok (cInt_ok .i64) (aNil_ok)))) bNil_ok (T := fun x _ => Tref16_sector none x.1 x.2.1 x.2.2.1) (fun _ _ => rfl) runref16_sector
noncomputable def fns40 := addF 40 true Sref16_sector fns39
theorem fns40_ok : ∀ f q t, fns40 f = some (q, t) → FnOk Try.prog cd f t := addF_ok okref16_sector fns39_ok
/-- emulator/emulatorref16.Tick -/
structure Sref16_Tick_0 where
  t2 : (List Int)
  t9 : Int
  t10 : (List UInt8)
  t14 : Int
  b0 : (List Int)
  b1 : Disk
  b2 : Disk
noncomputable def Wref16_Tick_0 (s : Sref16_Tick_0) : Tree (Sref16_Tick_0 ⊕ ((List Int) × Int × (List Int) × Disk × Disk)) :=
  .ite (decide (s.t14 < s.t9))
    (.ite (decide ((2 : Int) = 0))
      .fail
      (.opt Int (ref16_at s.t10 s.t14) fun r230 =>
        .ite (decide (0 ≤ IntKind.wrap .i64 ((IntKind.wrap .i64 ((s.b1.addr).tdiv (2 : Int))) + s.t14)))
          (.ite (decide (IntKind.wrap .i64 ((IntKind.wrap .i64 ((s.b1.addr).tdiv (2 : Int))) + s.t14) < (s.b0.length : Int)))
            (.opt Int (s.b0[(IntKind.wrap .i64 ((IntKind.wrap .i64 ((s.b1.addr).tdiv (2 : Int))) + s.t14)).toNat]?) fun y231 =>
              .leaf (.inl (Sref16_Tick_0.mk s.t2 s.t9 s.t10 (IntKind.wrap .i64 (s.t14 + (1 : Int))) (s.b0.set ((IntKind.wrap .i64 ((IntKind.wrap .i64 ((s.b1.addr).tdiv (2 : Int))) + s.t14)).toNat) r230) s.b1 s.b2)))
            .fail)
          .fail))
    (.leaf (.inr (s.t2, s.t9, s.b0, s.b1, s.b2)))
noncomputable def Lref16_Tick_0 (q : Option Nat) (s : Sref16_Tick_0) : Option ((List Int) × Int × (List Int) × Disk × Disk) := limQ q (fun s => (Wref16_Tick_0 s).run) s
theorem leLref16_Tick_0 (k : Nat) (s : Sref16_Tick_0) : Le (Lref16_Tick_0 (some k) s) (Lref16_Tick_0 none s) := limQ_le (fun _ => Le.rfl) s
structure Sref16_Tick_1 where
  t2 : (List Int)
  t9 : Int
  t16 : Int
  b0 : (List Int)
  b1 : Disk
  b2 : Disk
  b3 : (List Int)
noncomputable def Wref16_Tick_1 (s : Sref16_Tick_1) : Tree (Sref16_Tick_1 ⊕ (Int × (List Int) × Disk × Disk × (List Int))) :=
  .ite (decide (s.t16 < (s.t2.length : Int)))
    (.ite (decide (0 ≤ s.t16))
      (.opt Int (s.t2[(s.t16).toNat]?) fun y233 =>
        .ite (decide (y233 < s.b1.addr))
          (.ite (decide (0 ≤ s.t16))
            (.opt Int (s.t2[(s.t16).toNat]?) fun y235 =>
              .ite (decide ((s.b3.length + ([y235]).length) * 8 ≤ 140737488355328))
                (.leaf (.inl (Sref16_Tick_1.mk s.t2 s.t9 (IntKind.wrap .i64 (s.t16 + (1 : Int))) s.b0 s.b1 s.b2 (s.b3 ++ ([y235])))))
                .fail)
            .fail)
          (.ite (decide (0 ≤ s.t16))
            (.opt Int (s.t2[(s.t16).toNat]?) fun y234 =>
              .ite (decide ((IntKind.wrap .i64 (s.b1.addr + (IntKind.wrap .i64 ((2 : Int) * s.t9)))) ≤ y234))
                (.ite (decide (0 ≤ s.t16))
                  (.opt Int (s.t2[(s.t16).toNat]?) fun y236 =>
                    .ite (decide ((s.b3.length + ([y236]).length) * 8 ≤ 140737488355328))
                      (.leaf (.inl (Sref16_Tick_1.mk s.t2 s.t9 (IntKind.wrap .i64 (s.t16 + (1 : Int))) s.b0 s.b1 s.b2 (s.b3 ++ ([y236])))))
                      .fail)
                  .fail)
                (.leaf (.inl (Sref16_Tick_1.mk s.t2 s.t9 (IntKind.wrap .i64 (s.t16 + (1 : Int))) s.b0 s.b1 s.b2 s.b3))))
            .fail))
      .fail)
    (.leaf (.inr (s.t9, s.b0, s.b1, s.b2, s.b3)))
noncomputable def Lref16_Tick_1 (q : Option Nat) (s : Sref16_Tick_1) : Option (Int × (List Int) × Disk × Disk × (List Int)) := limQ q (fun s => (Wref16_Tick_1 s).run) s
theorem leLref16_Tick_1 (k : Nat) (s : Sref16_Tick_1) : Le (Lref16_Tick_1 (some k) s) (Lref16_Tick_1 none s) := limQ_le (fun _ => Le.rfl) s
noncomputable def Tref16_Tick (q : Option Nat) (x0 : Disk) (x1 : (List Int)) (x2 : (List Int)) : Tree (Disk × (List Int) × (List Int)) :=
  .ite (decide (x0.left = (0 : Int)))
    (.leaf ((x0, x1, x2)))
    (.ite (decide ((0 : Int) < (IntKind.wrap .i64 (x0.left - (1 : Int)))))
      (.leaf ((Disk.mk x0.drive x0.enable x0.ready x0.error x0.command x0.words x0.addr x0.start (IntKind.wrap .i64 (x0.left - (1 : Int))), x1, x2)))
      (.ite (decide ((64 : Int) < x0.words))
        (.ite (decide ((IntKind.wrap .i64 ((2 : Int) * (x1.length : Int))) < (IntKind.wrap .i64 (x0.addr + (IntKind.wrap .i64 ((2 : Int) * (64 : Int)))))))
          (.opt Disk (ref16_failed (Disk.mk x0.drive x0.enable x0.ready x0.error x0.command x0.words x0.addr x0.start (IntKind.wrap .i64 (x0.left - (1 : Int))))) fun r220 =>
            .leaf ((r220, x1, x2)))
          (.opt ((List UInt8) × Int) (ref15_Read q x0.drive x0.start) fun r221 =>
            .ite (!decide (x0.command = (2 : Int)))
              (.ite (!decide (r221.2 = (0 : Int)))
                (.opt Disk (ref16_failed (Disk.mk x0.drive x0.enable x0.ready x0.error x0.command x0.words x0.addr x0.start (IntKind.wrap .i64 (x0.left - (1 : Int))))) fun r222 =>
                  .leaf ((r222, x1, x2)))
                (.ite (!decide (x0.command = (1 : Int)))
                  (.opt Bool (ref16_spoilt q x2 x0.addr (64 : Int)) fun r223 =>
                    .ite (r223)
                      (.opt Disk (ref16_failed (Disk.mk x0.drive x0.enable x0.ready x0.error x0.command x0.words x0.addr x0.start (IntKind.wrap .i64 (x0.left - (1 : Int))))) fun r224 =>
                        .leaf ((r224, x1, x2)))
                      (.ite (decide (x0.command = (3 : Int)))
                        (.opt Bool (ref16_differs q x1 x0.addr (64 : Int) r221.1) fun r225 =>
                          .ite (r225)
                            (.opt Disk (ref16_failed (Disk.mk x0.drive x0.enable x0.ready x0.error x0.command x0.words x0.addr x0.start (IntKind.wrap .i64 (x0.left - (1 : Int))))) fun r226 =>
                              .leaf ((r226, x1, x2)))
                            (.ite (decide (x0.command = (2 : Int)))
                              (.opt (List UInt8) (ref16_sector q x1 x0.addr (64 : Int)) fun r227 =>
                                .opt (Drive × Int) (ref15_Write q x0.drive x0.start r227) fun r228 =>
                                  .ite (!decide (r228.2 = (0 : Int)))
                                    (.opt Disk (ref16_failed (Disk.mk x0.drive x0.enable x0.ready x0.error x0.command x0.words x0.addr x0.start (IntKind.wrap .i64 (x0.left - (1 : Int))))) fun r229 =>
                                      .leaf ((r229, x1, x2)))
                                    (.ite (decide (x0.command = (1 : Int)))
                                      (.ite (decide ((([] : List Int).length + x1.length) * 8 ≤ 140737488355328))
                                        (.opt ((List Int) × Int × (List Int) × Disk × Disk) (Lref16_Tick_0 q (Sref16_Tick_0.mk x2 (64 : Int) r221.1 (0 : Int) (([] : List Int) ++ x1) (Disk.mk r228.1 x0.enable x0.ready x0.error x0.command x0.words x0.addr x0.start (IntKind.wrap .i64 (x0.left - (1 : Int)))) (Disk.mk (Drive.mk ([]) ([])) false false false 0 0 0 0 0))) fun l232 =>
                                          .opt (Int × (List Int) × Disk × Disk × (List Int)) (Lref16_Tick_1 q (Sref16_Tick_1.mk l232.1 l232.2.1 (0 : Int) l232.2.2.1 l232.2.2.2.1 l232.2.2.2.2 ([]))) fun l237 =>
                                            .ite (decide ((65536 : Int) = 0))
                                              .fail
                                              (.ite (decide ((65536 : Int) = 0))
                                                .fail
                                                (.ite (decide ((IntKind.wrap .i64 (l237.2.2.1.words - l237.1)) = (0 : Int)))
                                                  (.leaf ((Disk.mk l237.2.2.1.drive l237.2.2.1.enable true l237.2.2.1.error l237.2.2.1.command (IntKind.wrap .i64 (l237.2.2.1.words - l237.1)) (((IntKind.wrap .i64 (l237.2.2.1.addr + (IntKind.wrap .i64 ((2 : Int) * l237.1))))).tmod (65536 : Int)) (((IntKind.wrap .i64 (l237.2.2.1.start + (1 : Int)))).tmod (65536 : Int)) l237.2.2.1.left, l237.2.1, l237.2.2.2.2)))
                                                  (.leaf ((Disk.mk l237.2.2.1.drive l237.2.2.1.enable l237.2.2.1.ready l237.2.2.1.error l237.2.2.1.command (IntKind.wrap .i64 (l237.2.2.1.words - l237.1)) (((IntKind.wrap .i64 (l237.2.2.1.addr + (IntKind.wrap .i64 ((2 : Int) * l237.1))))).tmod (65536 : Int)) (((IntKind.wrap .i64 (l237.2.2.1.start + (1 : Int)))).tmod (65536 : Int)) (8 : Int), l237.2.1, l237.2.2.2.2))))))
                                        .fail)
                                      (.ite (decide ((65536 : Int) = 0))
                                        .fail
                                        (.ite (decide ((65536 : Int) = 0))
                                          .fail
                                          (.ite (decide ((IntKind.wrap .i64 (x0.words - (64 : Int))) = (0 : Int)))
                                            (.leaf ((Disk.mk r228.1 x0.enable true x0.error x0.command (IntKind.wrap .i64 (x0.words - (64 : Int))) (((IntKind.wrap .i64 (x0.addr + (IntKind.wrap .i64 ((2 : Int) * (64 : Int)))))).tmod (65536 : Int)) (((IntKind.wrap .i64 (x0.start + (1 : Int)))).tmod (65536 : Int)) (IntKind.wrap .i64 (x0.left - (1 : Int))), x1, x2)))
                                            (.leaf ((Disk.mk r228.1 x0.enable x0.ready x0.error x0.command (IntKind.wrap .i64 (x0.words - (64 : Int))) (((IntKind.wrap .i64 (x0.addr + (IntKind.wrap .i64 ((2 : Int) * (64 : Int)))))).tmod (65536 : Int)) (((IntKind.wrap .i64 (x0.start + (1 : Int)))).tmod (65536 : Int)) (8 : Int), x1, x2))))))))
                              (.ite (decide (x0.command = (1 : Int)))
                                (.ite (decide ((([] : List Int).length + x1.length) * 8 ≤ 140737488355328))
                                  (.opt ((List Int) × Int × (List Int) × Disk × Disk) (Lref16_Tick_0 q (Sref16_Tick_0.mk x2 (64 : Int) r221.1 (0 : Int) (([] : List Int) ++ x1) (Disk.mk x0.drive x0.enable x0.ready x0.error x0.command x0.words x0.addr x0.start (IntKind.wrap .i64 (x0.left - (1 : Int)))) (Disk.mk (Drive.mk ([]) ([])) false false false 0 0 0 0 0))) fun l238 =>
                                    .opt (Int × (List Int) × Disk × Disk × (List Int)) (Lref16_Tick_1 q (Sref16_Tick_1.mk l238.1 l238.2.1 (0 : Int) l238.2.2.1 l238.2.2.2.1 l238.2.2.2.2 ([]))) fun l239 =>
                                      .ite (decide ((65536 : Int) = 0))
                                        .fail
                                        (.ite (decide ((65536 : Int) = 0))
                                          .fail
                                          (.ite (decide ((IntKind.wrap .i64 (l239.2.2.1.words - l239.1)) = (0 : Int)))
                                            (.leaf ((Disk.mk l239.2.2.1.drive l239.2.2.1.enable true l239.2.2.1.error l239.2.2.1.command (IntKind.wrap .i64 (l239.2.2.1.words - l239.1)) (((IntKind.wrap .i64 (l239.2.2.1.addr + (IntKind.wrap .i64 ((2 : Int) * l239.1))))).tmod (65536 : Int)) (((IntKind.wrap .i64 (l239.2.2.1.start + (1 : Int)))).tmod (65536 : Int)) l239.2.2.1.left, l239.2.1, l239.2.2.2.2)))
                                            (.leaf ((Disk.mk l239.2.2.1.drive l239.2.2.1.enable l239.2.2.1.ready l239.2.2.1.error l239.2.2.1.command (IntKind.wrap .i64 (l239.2.2.1.words - l239.1)) (((IntKind.wrap .i64 (l239.2.2.1.addr + (IntKind.wrap .i64 ((2 : Int) * l239.1))))).tmod (65536 : Int)) (((IntKind.wrap .i64 (l239.2.2.1.start + (1 : Int)))).tmod (65536 : Int)) (8 : Int), l239.2.1, l239.2.2.2.2))))))
                                  .fail)
                                (.ite (decide ((65536 : Int) = 0))
                                  .fail
                                  (.ite (decide ((65536 : Int) = 0))
                                    .fail
                                    (.ite (decide ((IntKind.wrap .i64 (x0.words - (64 : Int))) = (0 : Int)))
                                      (.leaf ((Disk.mk x0.drive x0.enable true x0.error x0.command (IntKind.wrap .i64 (x0.words - (64 : Int))) (((IntKind.wrap .i64 (x0.addr + (IntKind.wrap .i64 ((2 : Int) * (64 : Int)))))).tmod (65536 : Int)) (((IntKind.wrap .i64 (x0.start + (1 : Int)))).tmod (65536 : Int)) (IntKind.wrap .i64 (x0.left - (1 : Int))), x1, x2)))
                                      (.leaf ((Disk.mk x0.drive x0.enable x0.ready x0.error x0.command (IntKind.wrap .i64 (x0.words - (64 : Int))) (((IntKind.wrap .i64 (x0.addr + (IntKind.wrap .i64 ((2 : Int) * (64 : Int)))))).tmod (65536 : Int)) (((IntKind.wrap .i64 (x0.start + (1 : Int)))).tmod (65536 : Int)) (8 : Int), x1, x2)))))))))
                        (.ite (decide (x0.command = (2 : Int)))
                          (.opt (List UInt8) (ref16_sector q x1 x0.addr (64 : Int)) fun r240 =>
                            .opt (Drive × Int) (ref15_Write q x0.drive x0.start r240) fun r241 =>
                              .ite (!decide (r241.2 = (0 : Int)))
                                (.opt Disk (ref16_failed (Disk.mk x0.drive x0.enable x0.ready x0.error x0.command x0.words x0.addr x0.start (IntKind.wrap .i64 (x0.left - (1 : Int))))) fun r242 =>
                                  .leaf ((r242, x1, x2)))
                                (.ite (decide (x0.command = (1 : Int)))
                                  (.ite (decide ((([] : List Int).length + x1.length) * 8 ≤ 140737488355328))
                                    (.opt ((List Int) × Int × (List Int) × Disk × Disk) (Lref16_Tick_0 q (Sref16_Tick_0.mk x2 (64 : Int) r221.1 (0 : Int) (([] : List Int) ++ x1) (Disk.mk r241.1 x0.enable x0.ready x0.error x0.command x0.words x0.addr x0.start (IntKind.wrap .i64 (x0.left - (1 : Int)))) (Disk.mk (Drive.mk ([]) ([])) false false false 0 0 0 0 0))) fun l243 =>
                                      .opt (Int × (List Int) × Disk × Disk × (List Int)) (Lref16_Tick_1 q (Sref16_Tick_1.mk l243.1 l243.2.1 (0 : Int) l243.2.2.1 l243.2.2.2.1 l243.2.2.2.2 ([]))) fun l244 =>
                                        .ite (decide ((65536 : Int) = 0))
                                          .fail
                                          (.ite (decide ((65536 : Int) = 0))
                                            .fail
                                            (.ite (decide ((IntKind.wrap .i64 (l244.2.2.1.words - l244.1)) = (0 : Int)))
                                              (.leaf ((Disk.mk l244.2.2.1.drive l244.2.2.1.enable true l244.2.2.1.error l244.2.2.1.command (IntKind.wrap .i64 (l244.2.2.1.words - l244.1)) (((IntKind.wrap .i64 (l244.2.2.1.addr + (IntKind.wrap .i64 ((2 : Int) * l244.1))))).tmod (65536 : Int)) (((IntKind.wrap .i64 (l244.2.2.1.start + (1 : Int)))).tmod (65536 : Int)) l244.2.2.1.left, l244.2.1, l244.2.2.2.2)))
                                              (.leaf ((Disk.mk l244.2.2.1.drive l244.2.2.1.enable l244.2.2.1.ready l244.2.2.1.error l244.2.2.1.command (IntKind.wrap .i64 (l244.2.2.1.words - l244.1)) (((IntKind.wrap .i64 (l244.2.2.1.addr + (IntKind.wrap .i64 ((2 : Int) * l244.1))))).tmod (65536 : Int)) (((IntKind.wrap .i64 (l244.2.2.1.start + (1 : Int)))).tmod (65536 : Int)) (8 : Int), l244.2.1, l244.2.2.2.2))))))
                                    .fail)
                                  (.ite (decide ((65536 : Int) = 0))
                                    .fail
                                    (.ite (decide ((65536 : Int) = 0))
                                      .fail
                                      (.ite (decide ((IntKind.wrap .i64 (x0.words - (64 : Int))) = (0 : Int)))
                                        (.leaf ((Disk.mk r241.1 x0.enable true x0.error x0.command (IntKind.wrap .i64 (x0.words - (64 : Int))) (((IntKind.wrap .i64 (x0.addr + (IntKind.wrap .i64 ((2 : Int) * (64 : Int)))))).tmod (65536 : Int)) (((IntKind.wrap .i64 (x0.start + (1 : Int)))).tmod (65536 : Int)) (IntKind.wrap .i64 (x0.left - (1 : Int))), x1, x2)))
                                        (.leaf ((Disk.mk r241.1 x0.enable x0.ready x0.error x0.command (IntKind.wrap .i64 (x0.words - (64 : Int))) (((IntKind.wrap .i64 (x0.addr + (IntKind.wrap .i64 ((2 : Int) * (64 : Int)))))).tmod (65536 : Int)) (((IntKind.wrap .i64 (x0.start + (1 : Int)))).tmod (65536 : Int)) (8 : Int), x1, x2))))))))
                          (.ite (decide (x0.command = (1 : Int)))
                            (.ite (decide ((([] : List Int).length + x1.length) * 8 ≤ 140737488355328))
                              (.opt ((List Int) × Int × (List Int) × Disk × Disk) (Lref16_Tick_0 q (Sref16_Tick_0.mk x2 (64 : Int) r221.1 (0 : Int) (([] : List Int) ++ x1) (Disk.mk x0.drive x0.enable x0.ready x0.error x0.command x0.words x0.addr x0.start (IntKind.wrap .i64 (x0.left - (1 : Int)))) (Disk.mk (Drive.mk ([]) ([])) false false false 0 0 0 0 0))) fun l245 =>
                                .opt (Int × (List Int) × Disk × Disk × (List Int)) (Lref16_Tick_1 q (Sref16_Tick_1.mk l245.1 l245.2.1 (0 : Int) l245.2.2.1 l245.2.2.2.1 l245.2.2.2.2 ([]))) fun l246 =>
                                  .ite (decide ((65536 : Int) = 0))
                                    .fail
                                    (.ite (decide ((65536 : Int) = 0))
                                      .fail
                                      (.ite (decide ((IntKind.wrap .i64 (l246.2.2.1.words - l246.1)) = (0 : Int)))
                                        (.leaf ((Disk.mk l246.2.2.1.drive l246.2.2.1.enable true l246.2.2.1.error l246.2.2.1.command (IntKind.wrap .i64 (l246.2.2.1.words - l246.1)) (((IntKind.wrap .i64 (l246.2.2.1.addr + (IntKind.wrap .i64 ((2 : Int) * l246.1))))).tmod (65536 : Int)) (((IntKind.wrap .i64 (l246.2.2.1.start + (1 : Int)))).tmod (65536 : Int)) l246.2.2.1.left, l246.2.1, l246.2.2.2.2)))
                                        (.leaf ((Disk.mk l246.2.2.1.drive l246.2.2.1.enable l246.2.2.1.ready l246.2.2.1.error l246.2.2.1.command (IntKind.wrap .i64 (l246.2.2.1.words - l246.1)) (((IntKind.wrap .i64 (l246.2.2.1.addr + (IntKind.wrap .i64 ((2 : Int) * l246.1))))).tmod (65536 : Int)) (((IntKind.wrap .i64 (l246.2.2.1.start + (1 : Int)))).tmod (65536 : Int)) (8 : Int), l246.2.1, l246.2.2.2.2))))))
                              .fail)
                            (.ite (decide ((65536 : Int) = 0))
                              .fail
                              (.ite (decide ((65536 : Int) = 0))
                                .fail
                                (.ite (decide ((IntKind.wrap .i64 (x0.words - (64 : Int))) = (0 : Int)))
                                  (.leaf ((Disk.mk x0.drive x0.enable true x0.error x0.command (IntKind.wrap .i64 (x0.words - (64 : Int))) (((IntKind.wrap .i64 (x0.addr + (IntKind.wrap .i64 ((2 : Int) * (64 : Int)))))).tmod (65536 : Int)) (((IntKind.wrap .i64 (x0.start + (1 : Int)))).tmod (65536 : Int)) (IntKind.wrap .i64 (x0.left - (1 : Int))), x1, x2)))
                                  (.leaf ((Disk.mk x0.drive x0.enable x0.ready x0.error x0.command (IntKind.wrap .i64 (x0.words - (64 : Int))) (((IntKind.wrap .i64 (x0.addr + (IntKind.wrap .i64 ((2 : Int) * (64 : Int)))))).tmod (65536 : Int)) (((IntKind.wrap .i64 (x0.start + (1 : Int)))).tmod (65536 : Int)) (8 : Int), x1, x2))))))))))
                  (.ite (decide (x0.command = (3 : Int)))
                    (.opt Bool (ref16_differs q x1 x0.addr (64 : Int) r221.1) fun r247 =>
                      .ite (r247)
                        (.opt Disk (ref16_failed (Disk.mk x0.drive x0.enable x0.ready x0.error x0.command x0.words x0.addr x0.start (IntKind.wrap .i64 (x0.left - (1 : Int))))) fun r248 =>
                          .leaf ((r248, x1, x2)))
                        (.ite (decide (x0.command = (2 : Int)))
                          (.opt (List UInt8) (ref16_sector q x1 x0.addr (64 : Int)) fun r249 =>
                            .opt (Drive × Int) (ref15_Write q x0.drive x0.start r249) fun r250 =>
                              .ite (!decide (r250.2 = (0 : Int)))
                                (.opt Disk (ref16_failed (Disk.mk x0.drive x0.enable x0.ready x0.error x0.command x0.words x0.addr x0.start (IntKind.wrap .i64 (x0.left - (1 : Int))))) fun r251 =>
                                  .leaf ((r251, x1, x2)))
                                (.ite (decide (x0.command = (1 : Int)))
                                  (.ite (decide ((([] : List Int).length + x1.length) * 8 ≤ 140737488355328))
                                    (.opt ((List Int) × Int × (List Int) × Disk × Disk) (Lref16_Tick_0 q (Sref16_Tick_0.mk x2 (64 : Int) r221.1 (0 : Int) (([] : List Int) ++ x1) (Disk.mk r250.1 x0.enable x0.ready x0.error x0.command x0.words x0.addr x0.start (IntKind.wrap .i64 (x0.left - (1 : Int)))) (Disk.mk (Drive.mk ([]) ([])) false false false 0 0 0 0 0))) fun l252 =>
                                      .opt (Int × (List Int) × Disk × Disk × (List Int)) (Lref16_Tick_1 q (Sref16_Tick_1.mk l252.1 l252.2.1 (0 : Int) l252.2.2.1 l252.2.2.2.1 l252.2.2.2.2 ([]))) fun l253 =>
                                        .ite (decide ((65536 : Int) = 0))
                                          .fail
                                          (.ite (decide ((65536 : Int) = 0))
                                            .fail
                                            (.ite (decide ((IntKind.wrap .i64 (l253.2.2.1.words - l253.1)) = (0 : Int)))
                                              (.leaf ((Disk.mk l253.2.2.1.drive l253.2.2.1.enable true l253.2.2.1.error l253.2.2.1.command (IntKind.wrap .i64 (l253.2.2.1.words - l253.1)) (((IntKind.wrap .i64 (l253.2.2.1.addr + (IntKind.wrap .i64 ((2 : Int) * l253.1))))).tmod (65536 : Int)) (((IntKind.wrap .i64 (l253.2.2.1.start + (1 : Int)))).tmod (65536 : Int)) l253.2.2.1.left, l253.2.1, l253.2.2.2.2)))
                                              (.leaf ((Disk.mk l253.2.2.1.drive l253.2.2.1.enable l253.2.2.1.ready l253.2.2.1.error l253.2.2.1.command (IntKind.wrap .i64 (l253.2.2.1.words - l253.1)) (((IntKind.wrap .i64 (l253.2.2.1.addr + (IntKind.wrap .i64 ((2 : Int) * l253.1))))).tmod (65536 : Int)) (((IntKind.wrap .i64 (l253.2.2.1.start + (1 : Int)))).tmod (65536 : Int)) (8 : Int), l253.2.1, l253.2.2.2.2))))))
                                    .fail)
                                  (.ite (decide ((65536 : Int) = 0))
                                    .fail
                                    (.ite (decide ((65536 : Int) = 0))
                                      .fail
                                      (.ite (decide ((IntKind.wrap .i64 (x0.words - (64 : Int))) = (0 : Int)))
                                        (.leaf ((Disk.mk r250.1 x0.enable true x0.error x0.command (IntKind.wrap .i64 (x0.words - (64 : Int))) (((IntKind.wrap .i64 (x0.addr + (IntKind.wrap .i64 ((2 : Int) * (64 : Int)))))).tmod (65536 : Int)) (((IntKind.wrap .i64 (x0.start + (1 : Int)))).tmod (65536 : Int)) (IntKind.wrap .i64 (x0.left - (1 : Int))), x1, x2)))
                                        (.leaf ((Disk.mk r250.1 x0.enable x0.ready x0.error x0.command (IntKind.wrap .i64 (x0.words - (64 : Int))) (((IntKind.wrap .i64 (x0.addr + (IntKind.wrap .i64 ((2 : Int) * (64 : Int)))))).tmod (65536 : Int)) (((IntKind.wrap .i64 (x0.start + (1 : Int)))).tmod (65536 : Int)) (8 : Int), x1, x2))))))))
                          (.ite (decide (x0.command = (1 : Int)))
                            (.ite (decide ((([] : List Int).length + x1.length) * 8 ≤ 140737488355328))
                              (.opt ((List Int) × Int × (List Int) × Disk × Disk) (Lref16_Tick_0 q (Sref16_Tick_0.mk x2 (64 : Int) r221.1 (0 : Int) (([] : List Int) ++ x1) (Disk.mk x0.drive x0.enable x0.ready x0.error x0.command x0.words x0.addr x0.start (IntKind.wrap .i64 (x0.left - (1 : Int)))) (Disk.mk (Drive.mk ([]) ([])) false false false 0 0 0 0 0))) fun l254 =>
                                .opt (Int × (List Int) × Disk × Disk × (List Int)) (Lref16_Tick_1 q (Sref16_Tick_1.mk l254.1 l254.2.1 (0 : Int) l254.2.2.1 l254.2.2.2.1 l254.2.2.2.2 ([]))) fun l255 =>
                                  .ite (decide ((65536 : Int) = 0))
                                    .fail
                                    (.ite (decide ((65536 : Int) = 0))
                                      .fail
                                      (.ite (decide ((IntKind.wrap .i64 (l255.2.2.1.words - l255.1)) = (0 : Int)))
                                        (.leaf ((Disk.mk l255.2.2.1.drive l255.2.2.1.enable true l255.2.2.1.error l255.2.2.1.command (IntKind.wrap .i64 (l255.2.2.1.words - l255.1)) (((IntKind.wrap .i64 (l255.2.2.1.addr + (IntKind.wrap .i64 ((2 : Int) * l255.1))))).tmod (65536 : Int)) (((IntKind.wrap .i64 (l255.2.2.1.start + (1 : Int)))).tmod (65536 : Int)) l255.2.2.1.left, l255.2.1, l255.2.2.2.2)))
                                        (.leaf ((Disk.mk l255.2.2.1.drive l255.2.2.1.enable l255.2.2.1.ready l255.2.2.1.error l255.2.2.1.command (IntKind.wrap .i64 (l255.2.2.1.words - l255.1)) (((IntKind.wrap .i64 (l255.2.2.1.addr + (IntKind.wrap .i64 ((2 : Int) * l255.1))))).tmod (65536 : Int)) (((IntKind.wrap .i64 (l255.2.2.1.start + (1 : Int)))).tmod (65536 : Int)) (8 : Int), l255.2.1, l255.2.2.2.2))))))
                              .fail)
                            (.ite (decide ((65536 : Int) = 0))
                              .fail
                              (.ite (decide ((65536 : Int) = 0))
                                .fail
                                (.ite (decide ((IntKind.wrap .i64 (x0.words - (64 : Int))) = (0 : Int)))
                                  (.leaf ((Disk.mk x0.drive x0.enable true x0.error x0.command (IntKind.wrap .i64 (x0.words - (64 : Int))) (((IntKind.wrap .i64 (x0.addr + (IntKind.wrap .i64 ((2 : Int) * (64 : Int)))))).tmod (65536 : Int)) (((IntKind.wrap .i64 (x0.start + (1 : Int)))).tmod (65536 : Int)) (IntKind.wrap .i64 (x0.left - (1 : Int))), x1, x2)))
                                  (.leaf ((Disk.mk x0.drive x0.enable x0.ready x0.error x0.command (IntKind.wrap .i64 (x0.words - (64 : Int))) (((IntKind.wrap .i64 (x0.addr + (IntKind.wrap .i64 ((2 : Int) * (64 : Int)))))).tmod (65536 : Int)) (((IntKind.wrap .i64 (x0.start + (1 : Int)))).tmod (65536 : Int)) (8 : Int), x1, x2)))))))))
                    (.ite (decide (x0.command = (2 : Int)))
                      (.opt (List UInt8) (ref16_sector q x1 x0.addr (64 : Int)) fun r256 =>
                        .opt (Drive × Int) (ref15_Write q x0.drive x0.start r256) fun r257 =>
                          .ite (!decide (r257.2 = (0 : Int)))
                            (.opt Disk (ref16_failed (Disk.mk x0.drive x0.enable x0.ready x0.error x0.command x0.words x0.addr x0.start (IntKind.wrap .i64 (x0.left - (1 : Int))))) fun r258 =>
                              .leaf ((r258, x1, x2)))
                            (.ite (decide (x0.command = (1 : Int)))
                              (.ite (decide ((([] : List Int).length + x1.length) * 8 ≤ 140737488355328))
                                (.opt ((List Int) × Int × (List Int) × Disk × Disk) (Lref16_Tick_0 q (Sref16_Tick_0.mk x2 (64 : Int) r221.1 (0 : Int) (([] : List Int) ++ x1) (Disk.mk r257.1 x0.enable x0.ready x0.error x0.command x0.words x0.addr x0.start (IntKind.wrap .i64 (x0.left - (1 : Int)))) (Disk.mk (Drive.mk ([]) ([])) false false false 0 0 0 0 0))) fun l259 =>
                                  .opt (Int × (List Int) × Disk × Disk × (List Int)) (Lref16_Tick_1 q (Sref16_Tick_1.mk l259.1 l259.2.1 (0 : Int) l259.2.2.1 l259.2.2.2.1 l259.2.2.2.2 ([]))) fun l260 =>
                                    .ite (decide ((65536 : Int) = 0))
                                      .fail
                                      (.ite (decide ((65536 : Int) = 0))
                                        .fail
                                        (.ite (decide ((IntKind.wrap .i64 (l260.2.2.1.words - l260.1)) = (0 : Int)))
                                          (.leaf ((Disk.mk l260.2.2.1.drive l260.2.2.1.enable true l260.2.2.1.error l260.2.2.1.command (IntKind.wrap .i64 (l260.2.2.1.words - l260.1)) (((IntKind.wrap .i64 (l260.2.2.1.addr + (IntKind.wrap .i64 ((2 : Int) * l260.1))))).tmod (65536 : Int)) (((IntKind.wrap .i64 (l260.2.2.1.start + (1 : Int)))).tmod (65536 : Int)) l260.2.2.1.left, l260.2.1, l260.2.2.2.2)))
                                          (.leaf ((Disk.mk l260.2.2.1.drive l260.2.2.1.enable l260.2.2.1.ready l260.2.2.1.error l260.2.2.1.command (IntKind.wrap .i64 (l260.2.2.1.words - l260.1)) (((IntKind.wrap .i64 (l260.2.2.1.addr + (IntKind.wrap .i64 ((2 : Int) * l260.1))))).tmod (65536 : Int)) (((IntKind.wrap .i64 (l260.2.2.1.start + (1 : Int)))).tmod (65536 : Int)) (8 : Int), l260.2.1, l260.2.2.2.2))))))
                                .fail)
                              (.ite (decide ((65536 : Int) = 0))
                                .fail
                                (.ite (decide ((65536 : Int) = 0))
                                  .fail
                                  (.ite (decide ((IntKind.wrap .i64 (x0.words - (64 : Int))) = (0 : Int)))
                                    (.leaf ((Disk.mk r257.1 x0.enable true x0.error x0.command (IntKind.wrap .i64 (x0.words - (64 : Int))) (((IntKind.wrap .i64 (x0.addr + (IntKind.wrap .i64 ((2 : Int) * (64 : Int)))))).tmod (65536 : Int)) (((IntKind.wrap .i64 (x0.start + (1 : Int)))).tmod (65536 : Int)) (IntKind.wrap .i64 (x0.left - (1 : Int))), x1, x2)))
                                    (.leaf ((Disk.mk r257.1 x0.enable x0.ready x0.error x0.command (IntKind.wrap .i64 (x0.words - (64 : Int))) (((IntKind.wrap .i64 (x0.addr + (IntKind.wrap .i64 ((2 : Int) * (64 : Int)))))).tmod (65536 : Int)) (((IntKind.wrap .i64 (x0.start + (1 : Int)))).tmod (65536 : Int)) (8 : Int), x1, x2))))))))
                      (.ite (decide (x0.command = (1 : Int)))
                        (.ite (decide ((([] : List Int).length + x1.length) * 8 ≤ 140737488355328))
                          (.opt ((List Int) × Int × (List Int) × Disk × Disk) (Lref16_Tick_0 q (Sref16_Tick_0.mk x2 (64 : Int) r221.1 (0 : Int) (([] : List Int) ++ x1) (Disk.mk x0.drive x0.enable x0.ready x0.error x0.command x0.words x0.addr x0.start (IntKind.wrap .i64 (x0.left - (1 : Int)))) (Disk.mk (Drive.mk ([]) ([])) false false false 0 0 0 0 0))) fun l261 =>
                            .opt (Int × (List Int) × Disk × Disk × (List Int)) (Lref16_Tick_1 q (Sref16_Tick_1.mk l261.1 l261.2.1 (0 : Int) l261.2.2.1 l261.2.2.2.1 l261.2.2.2.2 ([]))) fun l262 =>
                              .ite (decide ((65536 : Int) = 0))
                                .fail
                                (.ite (decide ((65536 : Int) = 0))
                                  .fail
                                  (.ite (decide ((IntKind.wrap .i64 (l262.2.2.1.words - l262.1)) = (0 : Int)))
                                    (.leaf ((Disk.mk l262.2.2.1.drive l262.2.2.1.enable true l262.2.2.1.error l262.2.2.1.command (IntKind.wrap .i64 (l262.2.2.1.words - l262.1)) (((IntKind.wrap .i64 (l262.2.2.1.addr + (IntKind.wrap .i64 ((2 : Int) * l262.1))))).tmod (65536 : Int)) (((IntKind.wrap .i64 (l262.2.2.1.start + (1 : Int)))).tmod (65536 : Int)) l262.2.2.1.left, l262.2.1, l262.2.2.2.2)))
                                    (.leaf ((Disk.mk l262.2.2.1.drive l262.2.2.1.enable l262.2.2.1.ready l262.2.2.1.error l262.2.2.1.command (IntKind.wrap .i64 (l262.2.2.1.words - l262.1)) (((IntKind.wrap .i64 (l262.2.2.1.addr + (IntKind.wrap .i64 ((2 : Int) * l262.1))))).tmod (65536 : Int)) (((IntKind.wrap .i64 (l262.2.2.1.start + (1 : Int)))).tmod (65536 : Int)) (8 : Int), l262.2.1, l262.2.2.2.2))))))
                          .fail)
                        (.ite (decide ((65536 : Int) = 0))
                          .fail
                          (.ite (decide ((65536 : Int) = 0))
                            .fail
                            (.ite (decide ((IntKind.wrap .i64 (x0.words - (64 : Int))) = (0 : Int)))
                              (.leaf ((Disk.mk x0.drive x0.enable true x0.error x0.command (IntKind.wrap .i64 (x0.words - (64 : Int))) (((IntKind.wrap .i64 (x0.addr + (IntKind.wrap .i64 ((2 : Int) * (64 : Int)))))).tmod (65536 : Int)) (((IntKind.wrap .i64 (x0.start + (1 : Int)))).tmod (65536 : Int)) (IntKind.wrap .i64 (x0.left - (1 : Int))), x1, x2)))
                              (.leaf ((Disk.mk x0.drive x0.enable x0.ready x0.error x0.command (IntKind.wrap .i64 (x0.words - (64 : Int))) (((IntKind.wrap .i64 (x0.addr + (IntKind.wrap .i64 ((2 : Int) * (64 : Int)))))).tmod (65536 : Int)) (((IntKind.wrap .i64 (x0.start + (1 : Int)))).tmod (65536 : Int)) (8 : Int), x1, x2)))))))))))
              (.ite (!decide (x0.command = (1 : Int)))
                (.opt Bool (ref16_spoilt q x2 x0.addr (64 : Int)) fun r263 =>
                  .ite (r263)
                    (.opt Disk (ref16_failed (Disk.mk x0.drive x0.enable x0.ready x0.error x0.command x0.words x0.addr x0.start (IntKind.wrap .i64 (x0.left - (1 : Int))))) fun r264 =>
                      .leaf ((r264, x1, x2)))
                    (.ite (decide (x0.command = (3 : Int)))
                      (.opt Bool (ref16_differs q x1 x0.addr (64 : Int) r221.1) fun r265 =>
                        .ite (r265)
                          (.opt Disk (ref16_failed (Disk.mk x0.drive x0.enable x0.ready x0.error x0.command x0.words x0.addr x0.start (IntKind.wrap .i64 (x0.left - (1 : Int))))) fun r266 =>
                            .leaf ((r266, x1, x2)))
                          (.ite (decide (x0.command = (2 : Int)))
                            (.opt (List UInt8) (ref16_sector q x1 x0.addr (64 : Int)) fun r267 =>
                              .opt (Drive × Int) (ref15_Write q x0.drive x0.start r267) fun r268 =>
                                .ite (!decide (r268.2 = (0 : Int)))
                                  (.opt Disk (ref16_failed (Disk.mk x0.drive x0.enable x0.ready x0.error x0.command x0.words x0.addr x0.start (IntKind.wrap .i64 (x0.left - (1 : Int))))) fun r269 =>
                                    .leaf ((r269, x1, x2)))
                                  (.ite (decide (x0.command = (1 : Int)))
                                    (.ite (decide ((([] : List Int).length + x1.length) * 8 ≤ 140737488355328))
                                      (.opt ((List Int) × Int × (List Int) × Disk × Disk) (Lref16_Tick_0 q (Sref16_Tick_0.mk x2 (64 : Int) r221.1 (0 : Int) (([] : List Int) ++ x1) (Disk.mk r268.1 x0.enable x0.ready x0.error x0.command x0.words x0.addr x0.start (IntKind.wrap .i64 (x0.left - (1 : Int)))) (Disk.mk (Drive.mk ([]) ([])) false false false 0 0 0 0 0))) fun l270 =>
                                        .opt (Int × (List Int) × Disk × Disk × (List Int)) (Lref16_Tick_1 q (Sref16_Tick_1.mk l270.1 l270.2.1 (0 : Int) l270.2.2.1 l270.2.2.2.1 l270.2.2.2.2 ([]))) fun l271 =>
                                          .ite (decide ((65536 : Int) = 0))
                                            .fail
                                            (.ite (decide ((65536 : Int) = 0))
                                              .fail
                                              (.ite (decide ((IntKind.wrap .i64 (l271.2.2.1.words - l271.1)) = (0 : Int)))
                                                (.leaf ((Disk.mk l271.2.2.1.drive l271.2.2.1.enable true l271.2.2.1.error l271.2.2.1.command (IntKind.wrap .i64 (l271.2.2.1.words - l271.1)) (((IntKind.wrap .i64 (l271.2.2.1.addr + (IntKind.wrap .i64 ((2 : Int) * l271.1))))).tmod (65536 : Int)) (((IntKind.wrap .i64 (l271.2.2.1.start + (1 : Int)))).tmod (65536 : Int)) l271.2.2.1.left, l271.2.1, l271.2.2.2.2)))
                                                (.leaf ((Disk.mk l271.2.2.1.drive l271.2.2.1.enable l271.2.2.1.ready l271.2.2.1.error l271.2.2.1.command (IntKind.wrap .i64 (l271.2.2.1.words - l271.1)) (((IntKind.wrap .i64 (l271.2.2.1.addr + (IntKind.wrap .i64 ((2 : Int) * l271.1))))).tmod (65536 : Int)) (((IntKind.wrap .i64 (l271.2.2.1.start + (1 : Int)))).tmod (65536 : Int)) (8 : Int), l271.2.1, l271.2.2.2.2))))))
                                      .fail)
                                    (.ite (decide ((65536 : Int) = 0))
                                      .fail
                                      (.ite (decide ((65536 : Int) = 0))
                                        .fail
                                        (.ite (decide ((IntKind.wrap .i64 (x0.words - (64 : Int))) = (0 : Int)))
                                          (.leaf ((Disk.mk r268.1 x0.enable true x0.error x0.command (IntKind.wrap .i64 (x0.words - (64 : Int))) (((IntKind.wrap .i64 (x0.addr + (IntKind.wrap .i64 ((2 : Int) * (64 : Int)))))).tmod (65536 : Int)) (((IntKind.wrap .i64 (x0.start + (1 : Int)))).tmod (65536 : Int)) (IntKind.wrap .i64 (x0.left - (1 : Int))), x1, x2)))
                                          (.leaf ((Disk.mk r268.1 x0.enable x0.ready x0.error x0.command (IntKind.wrap .i64 (x0.words - (64 : Int))) (((IntKind.wrap .i64 (x0.addr + (IntKind.wrap .i64 ((2 : Int) * (64 : Int)))))).tmod (65536 : Int)) (((IntKind.wrap .i64 (x0.start + (1 : Int)))).tmod (65536 : Int)) (8 : Int), x1, x2))))))))
                            (.ite (decide (x0.command = (1 : Int)))
                              (.ite (decide ((([] : List Int).length + x1.length) * 8 ≤ 140737488355328))
                                (.opt ((List Int) × Int × (List Int) × Disk × Disk) (Lref16_Tick_0 q (Sref16_Tick_0.mk x2 (64 : Int) r221.1 (0 : Int) (([] : List Int) ++ x1) (Disk.mk x0.drive x0.enable x0.ready x0.error x0.command x0.words x0.addr x0.start (IntKind.wrap .i64 (x0.left - (1 : Int)))) (Disk.mk (Drive.mk ([]) ([])) false false false 0 0 0 0 0))) fun l272 =>
                                  .opt (Int × (List Int) × Disk × Disk × (List Int)) (Lref16_Tick_1 q (Sref16_Tick_1.mk l272.1 l272.2.1 (0 : Int) l272.2.2.1 l272.2.2.2.1 l272.2.2.2.2 ([]))) fun l273 =>
                                    .ite (decide ((65536 : Int) = 0))
                                      .fail
                                      (.ite (decide ((65536 : Int) = 0))
                                        .fail
                                        (.ite (decide ((IntKind.wrap .i64 (l273.2.2.1.words - l273.1)) = (0 : Int)))
                                          (.leaf ((Disk.mk l273.2.2.1.drive l273.2.2.1.enable true l273.2.2.1.error l273.2.2.1.command (IntKind.wrap .i64 (l273.2.2.1.words - l273.1)) (((IntKind.wrap .i64 (l273.2.2.1.addr + (IntKind.wrap .i64 ((2 : Int) * l273.1))))).tmod (65536 : Int)) (((IntKind.wrap .i64 (l273.2.2.1.start + (1 : Int)))).tmod (65536 : Int)) l273.2.2.1.left, l273.2.1, l273.2.2.2.2)))
                                          (.leaf ((Disk.mk l273.2.2.1.drive l273.2.2.1.enable l273.2.2.1.ready l273.2.2.1.error l273.2.2.1.command (IntKind.wrap .i64 (l273.2.2.1.words - l273.1)) (((IntKind.wrap .i64 (l273.2.2.1.addr + (IntKind.wrap .i64 ((2 : Int) * l273.1))))).tmod (65536 : Int)) (((IntKind.wrap .i64 (l273.2.2.1.start + (1 : Int)))).tmod (65536 : Int)) (8 : Int), l273.2.1, l273.2.2.2.2))))))
                                .fail)
                              (.ite (decide ((65536 : Int) = 0))
                                .fail
                                (.ite (decide ((65536 : Int) = 0))
                                  .fail
                                  (.ite (decide ((IntKind.wrap .i64 (x0.words - (64 : Int))) = (0 : Int)))
                                    (.leaf ((Disk.mk x0.drive x0.enable true x0.error x0.command (IntKind.wrap .i64 (x0.words - (64 : Int))) (((IntKind.wrap .i64 (x0.addr + (IntKind.wrap .i64 ((2 : Int) * (64 : Int)))))).tmod (65536 : Int)) (((IntKind.wrap .i64 (x0.start + (1 : Int)))).tmod (65536 : Int)) (IntKind.wrap .i64 (x0.left - (1 : Int))), x1, x2)))
                                    (.leaf ((Disk.mk x0.drive x0.enable x0.ready x0.error x0.command (IntKind.wrap .i64 (x0.words - (64 : Int))) (((IntKind.wrap .i64 (x0.addr + (IntKind.wrap .i64 ((2 : Int) * (64 : Int)))))).tmod (65536 : Int)) (((IntKind.wrap .i64 (x0.start + (1 : Int)))).tmod (65536 : Int)) (8 : Int), x1, x2)))))))))
                      (.ite (decide (x0.command = (2 : Int)))
                        (.opt (List UInt8) (ref16_sector q x1 x0.addr (64 : Int)) fun r274 =>
                          .opt (Drive × Int) (ref15_Write q x0.drive x0.start r274) fun r275 =>
                            .ite (!decide (r275.2 = (0 : Int)))
                              (.opt Disk (ref16_failed (Disk.mk x0.drive x0.enable x0.ready x0.error x0.command x0.words x0.addr x0.start (IntKind.wrap .i64 (x0.left - (1 : Int))))) fun r276 =>
                                .leaf ((r276, x1, x2)))
                              (.ite (decide (x0.command = (1 : Int)))
                                (.ite (decide ((([] : List Int).length + x1.length) * 8 ≤ 140737488355328))
                                  (.opt ((List Int) × Int × (List Int) × Disk × Disk) (Lref16_Tick_0 q (Sref16_Tick_0.mk x2 (64 : Int) r221.1 (0 : Int) (([] : List Int) ++ x1) (Disk.mk r275.1 x0.enable x0.ready x0.error x0.command x0.words x0.addr x0.start (IntKind.wrap .i64 (x0.left - (1 : Int)))) (Disk.mk (Drive.mk ([]) ([])) false false false 0 0 0 0 0))) fun l277 =>
                                    .opt (Int × (List Int) × Disk × Disk × (List Int)) (Lref16_Tick_1 q (Sref16_Tick_1.mk l277.1 l277.2.1 (0 : Int) l277.2.2.1 l277.2.2.2.1 l277.2.2.2.2 ([]))) fun l278 =>
                                      .ite (decide ((65536 : Int) = 0))
                                        .fail
                                        (.ite (decide ((65536 : Int) = 0))
                                          .fail
                                          (.ite (decide ((IntKind.wrap .i64 (l278.2.2.1.words - l278.1)) = (0 : Int)))
                                            (.leaf ((Disk.mk l278.2.2.1.drive l278.2.2.1.enable true l278.2.2.1.error l278.2.2.1.command (IntKind.wrap .i64 (l278.2.2.1.words - l278.1)) (((IntKind.wrap .i64 (l278.2.2.1.addr + (IntKind.wrap .i64 ((2 : Int) * l278.1))))).tmod (65536 : Int)) (((IntKind.wrap .i64 (l278.2.2.1.start + (1 : Int)))).tmod (65536 : Int)) l278.2.2.1.left, l278.2.1, l278.2.2.2.2)))
                                            (.leaf ((Disk.mk l278.2.2.1.drive l278.2.2.1.enable l278.2.2.1.ready l278.2.2.1.error l278.2.2.1.command (IntKind.wrap .i64 (l278.2.2.1.words - l278.1)) (((IntKind.wrap .i64 (l278.2.2.1.addr + (IntKind.wrap .i64 ((2 : Int) * l278.1))))).tmod (65536 : Int)) (((IntKind.wrap .i64 (l278.2.2.1.start + (1 : Int)))).tmod (65536 : Int)) (8 : Int), l278.2.1, l278.2.2.2.2))))))
                                  .fail)
                                (.ite (decide ((65536 : Int) = 0))
                                  .fail
                                  (.ite (decide ((65536 : Int) = 0))
                                    .fail
                                    (.ite (decide ((IntKind.wrap .i64 (x0.words - (64 : Int))) = (0 : Int)))
                                      (.leaf ((Disk.mk r275.1 x0.enable true x0.error x0.command (IntKind.wrap .i64 (x0.words - (64 : Int))) (((IntKind.wrap .i64 (x0.addr + (IntKind.wrap .i64 ((2 : Int) * (64 : Int)))))).tmod (65536 : Int)) (((IntKind.wrap .i64 (x0.start + (1 : Int)))).tmod (65536 : Int)) (IntKind.wrap .i64 (x0.left - (1 : Int))), x1, x2)))
                                      (.leaf ((Disk.mk r275.1 x0.enable x0.ready x0.error x0.command (IntKind.wrap .i64 (x0.words - (64 : Int))) (((IntKind.wrap .i64 (x0.addr + (IntKind.wrap .i64 ((2 : Int) * (64 : Int)))))).tmod (65536 : Int)) (((IntKind.wrap .i64 (x0.start + (1 : Int)))).tmod (65536 : Int)) (8 : Int), x1, x2))))))))
                        (.ite (decide (x0.command = (1 : Int)))
                          (.ite (decide ((([] : List Int).length + x1.length) * 8 ≤ 140737488355328))
                            (.opt ((List Int) × Int × (List Int) × Disk × Disk) (Lref16_Tick_0 q (Sref16_Tick_0.mk x2 (64 : Int) r221.1 (0 : Int) (([] : List Int) ++ x1) (Disk.mk x0.drive x0.enable x0.ready x0.error x0.command x0.words x0.addr x0.start (IntKind.wrap .i64 (x0.left - (1 : Int)))) (Disk.mk (Drive.mk ([]) ([])) false false false 0 0 0 0 0))) fun l279 =>
                              .opt (Int × (List Int) × Disk × Disk × (List Int)) (Lref16_Tick_1 q (Sref16_Tick_1.mk l279.1 l279.2.1 (0 : Int) l279.2.2.1 l279.2.2.2.1 l279.2.2.2.2 ([]))) fun l280 =>
                                .ite (decide ((65536 : Int) = 0))
                                  .fail
                                  (.ite (decide ((65536 : Int) = 0))
                                    .fail
                                    (.ite (decide ((IntKind.wrap .i64 (l280.2.2.1.words - l280.1)) = (0 : Int)))
                                      (.leaf ((Disk.mk l280.2.2.1.drive l280.2.2.1.enable true l280.2.2.1.error l280.2.2.1.command (IntKind.wrap .i64 (l280.2.2.1.words - l280.1)) (((IntKind.wrap .i64 (l280.2.2.1.addr + (IntKind.wrap .i64 ((2 : Int) * l280.1))))).tmod (65536 : Int)) (((IntKind.wrap .i64 (l280.2.2.1.start + (1 : Int)))).tmod (65536 : Int)) l280.2.2.1.left, l280.2.1, l280.2.2.2.2)))
                                      (.leaf ((Disk.mk l280.2.2.1.drive l280.2.2.1.enable l280.2.2.1.ready l280.2.2.1.error l280.2.2.1.command (IntKind.wrap .i64 (l280.2.2.1.words - l280.1)) (((IntKind.wrap .i64 (l280.2.2.1.addr + (IntKind.wrap .i64 ((2 : Int) * l280.1))))).tmod (65536 : Int)) (((IntKind.wrap .i64 (l280.2.2.1.start + (1 : Int)))).tmod (65536 : Int)) (8 : Int), l280.2.1, l280.2.2.2.2))))))
                            .fail)
                          (.ite (decide ((65536 : Int) = 0))
                            .fail
                            (.ite (decide ((65536 : Int) = 0))
                              .fail
                              (.ite (decide ((IntKind.wrap .i64 (x0.words - (64 : Int))) = (0 : Int)))
                                (.leaf ((Disk.mk x0.drive x0.enable true x0.error x0.command (IntKind.wrap .i64 (x0.words - (64 : Int))) (((IntKind.wrap .i64 (x0.addr + (IntKind.wrap .i64 ((2 : Int) * (64 : Int)))))).tmod (65536 : Int)) (((IntKind.wrap .i64 (x0.start + (1 : Int)))).tmod (65536 : Int)) (IntKind.wrap .i64 (x0.left - (1 : Int))), x1, x2)))
                                (.leaf ((Disk.mk x0.drive x0.enable x0.ready x0.error x0.command (IntKind.wrap .i64 (x0.words - (64 : Int))) (((IntKind.wrap .i64 (x0.addr + (IntKind.wrap .i64 ((2 : Int) * (64 : Int)))))).tmod (65536 : Int)) (((IntKind.wrap .i64 (x0.start + (1 : Int)))).tmod (65536 : Int)) (8 : Int), x1, x2))))))))))
                (.ite (decide (x0.command = (3 : Int)))
                  (.opt Bool (ref16_differs q x1 x0.addr (64 : Int) r221.1) fun r281 =>
                    .ite (r281)
                      (.opt Disk (ref16_failed (Disk.mk x0.drive x0.enable x0.ready x0.error x0.command x0.words x0.addr x0.start (IntKind.wrap .i64 (x0.left - (1 : Int))))) fun r282 =>
                        .leaf ((r282, x1, x2)))
                      (.ite (decide (x0.command = (2 : Int)))
                        (.opt (List UInt8) (ref16_sector q x1 x0.addr (64 : Int)) fun r283 =>
                          .opt (Drive × Int) (ref15_Write q x0.drive x0.start r283) fun r284 =>
                            .ite (!decide (r284.2 = (0 : Int)))
                              (.opt Disk (ref16_failed (Disk.mk x0.drive x0.enable x0.ready x0.error x0.command x0.words x0.addr x0.start (IntKind.wrap .i64 (x0.left - (1 : Int))))) fun r285 =>
                                .leaf ((r285, x1, x2)))
                              (.ite (decide (x0.command = (1 : Int)))
                                (.ite (decide ((([] : List Int).length + x1.length) * 8 ≤ 140737488355328))
                                  (.opt ((List Int) × Int × (List Int) × Disk × Disk) (Lref16_Tick_0 q (Sref16_Tick_0.mk x2 (64 : Int) r221.1 (0 : Int) (([] : List Int) ++ x1) (Disk.mk r284.1 x0.enable x0.ready x0.error x0.command x0.words x0.addr x0.start (IntKind.wrap .i64 (x0.left - (1 : Int)))) (Disk.mk (Drive.mk ([]) ([])) false false false 0 0 0 0 0))) fun l286 =>
                                    .opt (Int × (List Int) × Disk × Disk × (List Int)) (Lref16_Tick_1 q (Sref16_Tick_1.mk l286.1 l286.2.1 (0 : Int) l286.2.2.1 l286.2.2.2.1 l286.2.2.2.2 ([]))) fun l287 =>
                                      .ite (decide ((65536 : Int) = 0))
                                        .fail
                                        (.ite (decide ((65536 : Int) = 0))
                                          .fail
                                          (.ite (decide ((IntKind.wrap .i64 (l287.2.2.1.words - l287.1)) = (0 : Int)))
                                            (.leaf ((Disk.mk l287.2.2.1.drive l287.2.2.1.enable true l287.2.2.1.error l287.2.2.1.command (IntKind.wrap .i64 (l287.2.2.1.words - l287.1)) (((IntKind.wrap .i64 (l287.2.2.1.addr + (IntKind.wrap .i64 ((2 : Int) * l287.1))))).tmod (65536 : Int)) (((IntKind.wrap .i64 (l287.2.2.1.start + (1 : Int)))).tmod (65536 : Int)) l287.2.2.1.left, l287.2.1, l287.2.2.2.2)))
                                            (.leaf ((Disk.mk l287.2.2.1.drive l287.2.2.1.enable l287.2.2.1.ready l287.2.2.1.error l287.2.2.1.command (IntKind.wrap .i64 (l287.2.2.1.words - l287.1)) (((IntKind.wrap .i64 (l287.2.2.1.addr + (IntKind.wrap .i64 ((2 : Int) * l287.1))))).tmod (65536 : Int)) (((IntKind.wrap .i64 (l287.2.2.1.start + (1 : Int)))).tmod (65536 : Int)) (8 : Int), l287.2.1, l287.2.2.2.2))))))
                                  .fail)
                                (.ite (decide ((65536 : Int) = 0))
                                  .fail
                                  (.ite (decide ((65536 : Int) = 0))
                                    .fail
                                    (.ite (decide ((IntKind.wrap .i64 (x0.words - (64 : Int))) = (0 : Int)))
                                      (.leaf ((Disk.mk r284.1 x0.enable true x0.error x0.command (IntKind.wrap .i64 (x0.words - (64 : Int))) (((IntKind.wrap .i64 (x0.addr + (IntKind.wrap .i64 ((2 : Int) * (64 : Int)))))).tmod (65536 : Int)) (((IntKind.wrap .i64 (x0.start + (1 : Int)))).tmod (65536 : Int)) (IntKind.wrap .i64 (x0.left - (1 : Int))), x1, x2)))
                                      (.leaf ((Disk.mk r284.1 x0.enable x0.ready x0.error x0.command (IntKind.wrap .i64 (x0.words - (64 : Int))) (((IntKind.wrap .i64 (x0.addr + (IntKind.wrap .i64 ((2 : Int) * (64 : Int)))))).tmod (65536 : Int)) (((IntKind.wrap .i64 (x0.start + (1 : Int)))).tmod (65536 : Int)) (8 : Int), x1, x2))))))))
                        (.ite (decide (x0.command = (1 : Int)))
                          (.ite (decide ((([] : List Int).length + x1.length) * 8 ≤ 140737488355328))
                            (.opt ((List Int) × Int × (List Int) × Disk × Disk) (Lref16_Tick_0 q (Sref16_Tick_0.mk x2 (64 : Int) r221.1 (0 : Int) (([] : List Int) ++ x1) (Disk.mk x0.drive x0.enable x0.ready x0.error x0.command x0.words x0.addr x0.start (IntKind.wrap .i64 (x0.left - (1 : Int)))) (Disk.mk (Drive.mk ([]) ([])) false false false 0 0 0 0 0))) fun l288 =>
                              .opt (Int × (List Int) × Disk × Disk × (List Int)) (Lref16_Tick_1 q (Sref16_Tick_1.mk l288.1 l288.2.1 (0 : Int) l288.2.2.1 l288.2.2.2.1 l288.2.2.2.2 ([]))) fun l289 =>
                                .ite (decide ((65536 : Int) = 0))
                                  .fail
                                  (.ite (decide ((65536 : Int) = 0))
                                    .fail
                                    (.ite (decide ((IntKind.wrap .i64 (l289.2.2.1.words - l289.1)) = (0 : Int)))
                                      (.leaf ((Disk.mk l289.2.2.1.drive l289.2.2.1.enable true l289.2.2.1.error l289.2.2.1.command (IntKind.wrap .i64 (l289.2.2.1.words - l289.1)) (((IntKind.wrap .i64 (l289.2.2.1.addr + (IntKind.wrap .i64 ((2 : Int) * l289.1))))).tmod (65536 : Int)) (((IntKind.wrap .i64 (l289.2.2.1.start + (1 : Int)))).tmod (65536 : Int)) l289.2.2.1.left, l289.2.1, l289.2.2.2.2)))
                                      (.leaf ((Disk.mk l289.2.2.1.drive l289.2.2.1.enable l289.2.2.1.ready l289.2.2.1.error l289.2.2.1.command (IntKind.wrap .i64 (l289.2.2.1.words - l289.1)) (((IntKind.wrap .i64 (l289.2.2.1.addr + (IntKind.wrap .i64 ((2 : Int) * l289.1))))).tmod (65536 : Int)) (((IntKind.wrap .i64 (l289.2.2.1.start + (1 : Int)))).tmod (65536 : Int)) (8 : Int), l289.2.1, l289.2.2.2.2))))))
                            .fail)
                          (.ite (decide ((65536 : Int) = 0))
                            .fail
                            (.ite (decide ((65536 : Int) = 0))
                              .fail
                              (.ite (decide ((IntKind.wrap .i64 (x0.words - (64 : Int))) = (0 : Int)))
                                (.leaf ((Disk.mk x0.drive x0.enable true x0.error x0.command (IntKind.wrap .i64 (x0.words - (64 : Int))) (((IntKind.wrap .i64 (x0.addr + (IntKind.wrap .i64 ((2 : Int) * (64 : Int)))))).tmod (65536 : Int)) (((IntKind.wrap .i64 (x0.start + (1 : Int)))).tmod (65536 : Int)) (IntKind.wrap .i64 (x0.left - (1 : Int))), x1, x2)))
                                (.leaf ((Disk.mk x0.drive x0.enable x0.ready x0.error x0.command (IntKind.wrap .i64 (x0.words - (64 : Int))) (((IntKind.wrap .i64 (x0.addr + (IntKind.wrap .i64 ((2 : Int) * (64 : Int)))))).tmod (65536 : Int)) (((IntKind.wrap .i64 (x0.start + (1 : Int)))).tmod (65536 : Int)) (8 : Int), x1, x2)))))))))
                  (.ite (decide (x0.command = (2 : Int)))
                    (.opt (List UInt8) (ref16_sector q x1 x0.addr (64 : Int)) fun r290 =>
                      .opt (Drive × Int) (ref15_Write q x0.drive x0.start r290) fun r291 =>
                        .ite (!decide (r291.2 = (0 : Int)))
                          (.opt Disk (ref16_failed (Disk.mk x0.drive x0.enable x0.ready x0.error x0.command x0.words x0.addr x0.start (IntKind.wrap .i64 (x0.left - (1 : Int))))) fun r292 =>
                            .leaf ((r292, x1, x2)))
                          (.ite (decide (x0.command = (1 : Int)))
                            (.ite (decide ((([] : List Int).length + x1.length) * 8 ≤ 140737488355328))
                              (.opt ((List Int) × Int × (List Int) × Disk × Disk) (Lref16_Tick_0 q (Sref16_Tick_0.mk x2 (64 : Int) r221.1 (0 : Int) (([] : List Int) ++ x1) (Disk.mk r291.1 x0.enable x0.ready x0.error x0.command x0.words x0.addr x0.start (IntKind.wrap .i64 (x0.left - (1 : Int)))) (Disk.mk (Drive.mk ([]) ([])) false false false 0 0 0 0 0))) fun l293 =>
                                .opt (Int × (List Int) × Disk × Disk × (List Int)) (Lref16_Tick_1 q (Sref16_Tick_1.mk l293.1 l293.2.1 (0 : Int) l293.2.2.1 l293.2.2.2.1 l293.2.2.2.2 ([]))) fun l294 =>
                                  .ite (decide ((65536 : Int) = 0))
                                    .fail
                                    (.ite (decide ((65536 : Int) = 0))
                                      .fail
                                      (.ite (decide ((IntKind.wrap .i64 (l294.2.2.1.words - l294.1)) = (0 : Int)))
                                        (.leaf ((Disk.mk l294.2.2.1.drive l294.2.2.1.enable true l294.2.2.1.error l294.2.2.1.command (IntKind.wrap .i64 (l294.2.2.1.words - l294.1)) (((IntKind.wrap .i64 (l294.2.2.1.addr + (IntKind.wrap .i64 ((2 : Int) * l294.1))))).tmod (65536 : Int)) (((IntKind.wrap .i64 (l294.2.2.1.start + (1 : Int)))).tmod (65536 : Int)) l294.2.2.1.left, l294.2.1, l294.2.2.2.2)))
                                        (.leaf ((Disk.mk l294.2.2.1.drive l294.2.2.1.enable l294.2.2.1.ready l294.2.2.1.error l294.2.2.1.command (IntKind.wrap .i64 (l294.2.2.1.words - l294.1)) (((IntKind.wrap .i64 (l294.2.2.1.addr + (IntKind.wrap .i64 ((2 : Int) * l294.1))))).tmod (65536 : Int)) (((IntKind.wrap .i64 (l294.2.2.1.start + (1 : Int)))).tmod (65536 : Int)) (8 : Int), l294.2.1, l294.2.2.2.2))))))
                              .fail)
                            (.ite (decide ((65536 : Int) = 0))
                              .fail
                              (.ite (decide ((65536 : Int) = 0))
                                .fail
                                (.ite (decide ((IntKind.wrap .i64 (x0.words - (64 : Int))) = (0 : Int)))
                                  (.leaf ((Disk.mk r291.1 x0.enable true x0.error x0.command (IntKind.wrap .i64 (x0.words - (64 : Int))) (((IntKind.wrap .i64 (x0.addr + (IntKind.wrap .i64 ((2 : Int) * (64 : Int)))))).tmod (65536 : Int)) (((IntKind.wrap .i64 (x0.start + (1 : Int)))).tmod (65536 : Int)) (IntKind.wrap .i64 (x0.left - (1 : Int))), x1, x2)))
                                  (.leaf ((Disk.mk r291.1 x0.enable x0.ready x0.error x0.command (IntKind.wrap .i64 (x0.words - (64 : Int))) (((IntKind.wrap .i64 (x0.addr + (IntKind.wrap .i64 ((2 : Int) * (64 : Int)))))).tmod (65536 : Int)) (((IntKind.wrap .i64 (x0.start + (1 : Int)))).tmod (65536 : Int)) (8 : Int), x1, x2))))))))
                    (.ite (decide (x0.command = (1 : Int)))
                      (.ite (decide ((([] : List Int).length + x1.length) * 8 ≤ 140737488355328))
                        (.opt ((List Int) × Int × (List Int) × Disk × Disk) (Lref16_Tick_0 q (Sref16_Tick_0.mk x2 (64 : Int) r221.1 (0 : Int) (([] : List Int) ++ x1) (Disk.mk x0.drive x0.enable x0.ready x0.error x0.command x0.words x0.addr x0.start (IntKind.wrap .i64 (x0.left - (1 : Int)))) (Disk.mk (Drive.mk ([]) ([])) false false false 0 0 0 0 0))) fun l295 =>
                          .opt (Int × (List Int) × Disk × Disk × (List Int)) (Lref16_Tick_1 q (Sref16_Tick_1.mk l295.1 l295.2.1 (0 : Int) l295.2.2.1 l295.2.2.2.1 l295.2.2.2.2 ([]))) fun l296 =>
                            .ite (decide ((65536 : Int) = 0))
                              .fail
                              (.ite (decide ((65536 : Int) = 0))
                                .fail
                                (.ite (decide ((IntKind.wrap .i64 (l296.2.2.1.words - l296.1)) = (0 : Int)))
                                  (.leaf ((Disk.mk l296.2.2.1.drive l296.2.2.1.enable true l296.2.2.1.error l296.2.2.1.command (IntKind.wrap .i64 (l296.2.2.1.words - l296.1)) (((IntKind.wrap .i64 (l296.2.2.1.addr + (IntKind.wrap .i64 ((2 : Int) * l296.1))))).tmod (65536 : Int)) (((IntKind.wrap .i64 (l296.2.2.1.start + (1 : Int)))).tmod (65536 : Int)) l296.2.2.1.left, l296.2.1, l296.2.2.2.2)))
                                  (.leaf ((Disk.mk l296.2.2.1.drive l296.2.2.1.enable l296.2.2.1.ready l296.2.2.1.error l296.2.2.1.command (IntKind.wrap .i64 (l296.2.2.1.words - l296.1)) (((IntKind.wrap .i64 (l296.2.2.1.addr + (IntKind.wrap .i64 ((2 : Int) * l296.1))))).tmod (65536 : Int)) (((IntKind.wrap .i64 (l296.2.2.1.start + (1 : Int)))).tmod (65536 : Int)) (8 : Int), l296.2.1, l296.2.2.2.2))))))
                        .fail)
                      (.ite (decide ((65536 : Int) = 0))
                        .fail
                        (.ite (decide ((65536 : Int) = 0))
                          .fail
                          (.ite (decide ((IntKind.wrap .i64 (x0.words - (64 : Int))) = (0 : Int)))
                            (.leaf ((Disk.mk x0.drive x0.enable true x0.error x0.command (IntKind.wrap .i64 (x0.words - (64 : Int))) (((IntKind.wrap .i64 (x0.addr + (IntKind.wrap .i64 ((2 : Int) * (64 : Int)))))).tmod (65536 : Int)) (((IntKind.wrap .i64 (x0.start + (1 : Int)))).tmod (65536 : Int)) (IntKind.wrap .i64 (x0.left - (1 : Int))), x1, x2)))
                            (.leaf ((Disk.mk x0.drive x0.enable x0.ready x0.error x0.command (IntKind.wrap .i64 (x0.words - (64 : Int))) (((IntKind.wrap .i64 (x0.addr + (IntKind.wrap .i64 ((2 : Int) * (64 : Int)))))).tmod (65536 : Int)) (((IntKind.wrap .i64 (x0.start + (1 : Int)))).tmod (65536 : Int)) (8 : Int), x1, x2))))))))))))
        (.ite (decide ((IntKind.wrap .i64 ((2 : Int) * (x1.length : Int))) < (IntKind.wrap .i64 (x0.addr + (IntKind.wrap .i64 ((2 : Int) * x0.words))))))
          (.opt Disk (ref16_failed (Disk.mk x0.drive x0.enable x0.ready x0.error x0.command x0.words x0.addr x0.start (IntKind.wrap .i64 (x0.left - (1 : Int))))) fun r297 =>
            .leaf ((r297, x1, x2)))
          (.opt ((List UInt8) × Int) (ref15_Read q x0.drive x0.start) fun r298 =>
            .ite (!decide (x0.command = (2 : Int)))
              (.ite (!decide (r298.2 = (0 : Int)))
                (.opt Disk (ref16_failed (Disk.mk x0.drive x0.enable x0.ready x0.error x0.command x0.words x0.addr x0.start (IntKind.wrap .i64 (x0.left - (1 : Int))))) fun r299 =>
                  .leaf ((r299, x1, x2)))
                (.ite (!decide (x0.command = (1 : Int)))
                  (.opt Bool (ref16_spoilt q x2 x0.addr x0.words) fun r300 =>
                    .ite (r300)
                      (.opt Disk (ref16_failed (Disk.mk x0.drive x0.enable x0.ready x0.error x0.command x0.words x0.addr x0.start (IntKind.wrap .i64 (x0.left - (1 : Int))))) fun r301 =>
                        .leaf ((r301, x1, x2)))
                      (.ite (decide (x0.command = (3 : Int)))
                        (.opt Bool (ref16_differs q x1 x0.addr x0.words r298.1) fun r302 =>
                          .ite (r302)
                            (.opt Disk (ref16_failed (Disk.mk x0.drive x0.enable x0.ready x0.error x0.command x0.words x0.addr x0.start (IntKind.wrap .i64 (x0.left - (1 : Int))))) fun r303 =>
                              .leaf ((r303, x1, x2)))
                            (.ite (decide (x0.command = (2 : Int)))
                              (.opt (List UInt8) (ref16_sector q x1 x0.addr x0.words) fun r304 =>
                                .opt (Drive × Int) (ref15_Write q x0.drive x0.start r304) fun r305 =>
                                  .ite (!decide (r305.2 = (0 : Int)))
                                    (.opt Disk (ref16_failed (Disk.mk x0.drive x0.enable x0.ready x0.error x0.command x0.words x0.addr x0.start (IntKind.wrap .i64 (x0.left - (1 : Int))))) fun r306 =>
                                      .leaf ((r306, x1, x2)))
                                    (.ite (decide (x0.command = (1 : Int)))
                                      (.ite (decide ((([] : List Int).length + x1.length) * 8 ≤ 140737488355328))
                                        (.opt ((List Int) × Int × (List Int) × Disk × Disk) (Lref16_Tick_0 q (Sref16_Tick_0.mk x2 x0.words r298.1 (0 : Int) (([] : List Int) ++ x1) (Disk.mk r305.1 x0.enable x0.ready x0.error x0.command x0.words x0.addr x0.start (IntKind.wrap .i64 (x0.left - (1 : Int)))) (Disk.mk (Drive.mk ([]) ([])) false false false 0 0 0 0 0))) fun l307 =>
                                          .opt (Int × (List Int) × Disk × Disk × (List Int)) (Lref16_Tick_1 q (Sref16_Tick_1.mk l307.1 l307.2.1 (0 : Int) l307.2.2.1 l307.2.2.2.1 l307.2.2.2.2 ([]))) fun l308 =>
                                            .ite (decide ((65536 : Int) = 0))
                                              .fail
                                              (.ite (decide ((65536 : Int) = 0))
                                                .fail
                                                (.ite (decide ((IntKind.wrap .i64 (l308.2.2.1.words - l308.1)) = (0 : Int)))
                                                  (.leaf ((Disk.mk l308.2.2.1.drive l308.2.2.1.enable true l308.2.2.1.error l308.2.2.1.command (IntKind.wrap .i64 (l308.2.2.1.words - l308.1)) (((IntKind.wrap .i64 (l308.2.2.1.addr + (IntKind.wrap .i64 ((2 : Int) * l308.1))))).tmod (65536 : Int)) (((IntKind.wrap .i64 (l308.2.2.1.start + (1 : Int)))).tmod (65536 : Int)) l308.2.2.1.left, l308.2.1, l308.2.2.2.2)))
                                                  (.leaf ((Disk.mk l308.2.2.1.drive l308.2.2.1.enable l308.2.2.1.ready l308.2.2.1.error l308.2.2.1.command (IntKind.wrap .i64 (l308.2.2.1.words - l308.1)) (((IntKind.wrap .i64 (l308.2.2.1.addr + (IntKind.wrap .i64 ((2 : Int) * l308.1))))).tmod (65536 : Int)) (((IntKind.wrap .i64 (l308.2.2.1.start + (1 : Int)))).tmod (65536 : Int)) (8 : Int), l308.2.1, l308.2.2.2.2))))))
                                        .fail)
                                      (.ite (decide ((65536 : Int) = 0))
                                        .fail
                                        (.ite (decide ((65536 : Int) = 0))
                                          .fail
                                          (.ite (decide ((IntKind.wrap .i64 (x0.words - x0.words)) = (0 : Int)))
                                            (.leaf ((Disk.mk r305.1 x0.enable true x0.error x0.command (IntKind.wrap .i64 (x0.words - x0.words)) (((IntKind.wrap .i64 (x0.addr + (IntKind.wrap .i64 ((2 : Int) * x0.words))))).tmod (65536 : Int)) (((IntKind.wrap .i64 (x0.start + (1 : Int)))).tmod (65536 : Int)) (IntKind.wrap .i64 (x0.left - (1 : Int))), x1, x2)))
                                            (.leaf ((Disk.mk r305.1 x0.enable x0.ready x0.error x0.command (IntKind.wrap .i64 (x0.words - x0.words)) (((IntKind.wrap .i64 (x0.addr + (IntKind.wrap .i64 ((2 : Int) * x0.words))))).tmod (65536 : Int)) (((IntKind.wrap .i64 (x0.start + (1 : Int)))).tmod (65536 : Int)) (8 : Int), x1, x2))))))))
                              (.ite (decide (x0.command = (1 : Int)))
                                (.ite (decide ((([] : List Int).length + x1.length) * 8 ≤ 140737488355328))
                                  (.opt ((List Int) × Int × (List Int) × Disk × Disk) (Lref16_Tick_0 q (Sref16_Tick_0.mk x2 x0.words r298.1 (0 : Int) (([] : List Int) ++ x1) (Disk.mk x0.drive x0.enable x0.ready x0.error x0.command x0.words x0.addr x0.start (IntKind.wrap .i64 (x0.left - (1 : Int)))) (Disk.mk (Drive.mk ([]) ([])) false false false 0 0 0 0 0))) fun l309 =>
                                    .opt (Int × (List Int) × Disk × Disk × (List Int)) (Lref16_Tick_1 q (Sref16_Tick_1.mk l309.1 l309.2.1 (0 : Int) l309.2.2.1 l309.2.2.2.1 l309.2.2.2.2 ([]))) fun l310 =>
                                      .ite (decide ((65536 : Int) = 0))
                                        .fail
                                        (.ite (decide ((65536 : Int) = 0))
                                          .fail
                                          (.ite (decide ((IntKind.wrap .i64 (l310.2.2.1.words - l310.1)) = (0 : Int)))
                                            (.leaf ((Disk.mk l310.2.2.1.drive l310.2.2.1.enable true l310.2.2.1.error l310.2.2.1.command (IntKind.wrap .i64 (l310.2.2.1.words - l310.1)) (((IntKind.wrap .i64 (l310.2.2.1.addr + (IntKind.wrap .i64 ((2 : Int) * l310.1))))).tmod (65536 : Int)) (((IntKind.wrap .i64 (l310.2.2.1.start + (1 : Int)))).tmod (65536 : Int)) l310.2.2.1.left, l310.2.1, l310.2.2.2.2)))
                                            (.leaf ((Disk.mk l310.2.2.1.drive l310.2.2.1.enable l310.2.2.1.ready l310.2.2.1.error l310.2.2.1.command (IntKind.wrap .i64 (l310.2.2.1.words - l310.1)) (((IntKind.wrap .i64 (l310.2.2.1.addr + (IntKind.wrap .i64 ((2 : Int) * l310.1))))).tmod (65536 : Int)) (((IntKind.wrap .i64 (l310.2.2.1.start + (1 : Int)))).tmod (65536 : Int)) (8 : Int), l310.2.1, l310.2.2.2.2))))))
                                  .fail)
                                (.ite (decide ((65536 : Int) = 0))
                                  .fail
                                  (.ite (decide ((65536 : Int) = 0))
                                    .fail
                                    (.ite (decide ((IntKind.wrap .i64 (x0.words - x0.words)) = (0 : Int)))
                                      (.leaf ((Disk.mk x0.drive x0.enable true x0.error x0.command (IntKind.wrap .i64 (x0.words - x0.words)) (((IntKind.wrap .i64 (x0.addr + (IntKind.wrap .i64 ((2 : Int) * x0.words))))).tmod (65536 : Int)) (((IntKind.wrap .i64 (x0.start + (1 : Int)))).tmod (65536 : Int)) (IntKind.wrap .i64 (x0.left - (1 : Int))), x1, x2)))
                                      (.leaf ((Disk.mk x0.drive x0.enable x0.ready x0.error x0.command (IntKind.wrap .i64 (x0.words - x0.words)) (((IntKind.wrap .i64 (x0.addr + (IntKind.wrap .i64 ((2 : Int) * x0.words))))).tmod (65536 : Int)) (((IntKind.wrap .i64 (x0.start + (1 : Int)))).tmod (65536 : Int)) (8 : Int), x1, x2)))))))))
                        (.ite (decide (x0.command = (2 : Int)))
                          (.opt (List UInt8) (ref16_sector q x1 x0.addr x0.words) fun r311 =>
                            .opt (Drive × Int) (ref15_Write q x0.drive x0.start r311) fun r312 =>
                              .ite (!decide (r312.2 = (0 : Int)))
                                (.opt Disk (ref16_failed (Disk.mk x0.drive x0.enable x0.ready x0.error x0.command x0.words x0.addr x0.start (IntKind.wrap .i64 (x0.left - (1 : Int))))) fun r313 =>
                                  .leaf ((r313, x1, x2)))
                                (.ite (decide (x0.command = (1 : Int)))
                                  (.ite (decide ((([] : List Int).length + x1.length) * 8 ≤ 140737488355328))
                                    (.opt ((List Int) × Int × (List Int) × Disk × Disk) (Lref16_Tick_0 q (Sref16_Tick_0.mk x2 x0.words r298.1 (0 : Int) (([] : List Int) ++ x1) (Disk.mk r312.1 x0.enable x0.ready x0.error x0.command x0.words x0.addr x0.start (IntKind.wrap .i64 (x0.left - (1 : Int)))) (Disk.mk (Drive.mk ([]) ([])) false false false 0 0 0 0 0))) fun l314 =>
                                      .opt (Int × (List Int) × Disk × Disk × (List Int)) (Lref16_Tick_1 q (Sref16_Tick_1.mk l314.1 l314.2.1 (0 : Int) l314.2.2.1 l314.2.2.2.1 l314.2.2.2.2 ([]))) fun l315 =>
                                        .ite (decide ((65536 : Int) = 0))
                                          .fail
                                          (.ite (decide ((65536 : Int) = 0))
                                            .fail
                                            (.ite (decide ((IntKind.wrap .i64 (l315.2.2.1.words - l315.1)) = (0 : Int)))
                                              (.leaf ((Disk.mk l315.2.2.1.drive l315.2.2.1.enable true l315.2.2.1.error l315.2.2.1.command (IntKind.wrap .i64 (l315.2.2.1.words - l315.1)) (((IntKind.wrap .i64 (l315.2.2.1.addr + (IntKind.wrap .i64 ((2 : Int) * l315.1))))).tmod (65536 : Int)) (((IntKind.wrap .i64 (l315.2.2.1.start + (1 : Int)))).tmod (65536 : Int)) l315.2.2.1.left, l315.2.1, l315.2.2.2.2)))
                                              (.leaf ((Disk.mk l315.2.2.1.drive l315.2.2.1.enable l315.2.2.1.ready l315.2.2.1.error l315.2.2.1.command (IntKind.wrap .i64 (l315.2.2.1.words - l315.1)) (((IntKind.wrap .i64 (l315.2.2.1.addr + (IntKind.wrap .i64 ((2 : Int) * l315.1))))).tmod (65536 : Int)) (((IntKind.wrap .i64 (l315.2.2.1.start + (1 : Int)))).tmod (65536 : Int)) (8 : Int), l315.2.1, l315.2.2.2.2))))))
                                    .fail)
                                  (.ite (decide ((65536 : Int) = 0))
                                    .fail
                                    (.ite (decide ((65536 : Int) = 0))
                                      .fail
                                      (.ite (decide ((IntKind.wrap .i64 (x0.words - x0.words)) = (0 : Int)))
                                        (.leaf ((Disk.mk r312.1 x0.enable true x0.error x0.command (IntKind.wrap .i64 (x0.words - x0.words)) (((IntKind.wrap .i64 (x0.addr + (IntKind.wrap .i64 ((2 : Int) * x0.words))))).tmod (65536 : Int)) (((IntKind.wrap .i64 (x0.start + (1 : Int)))).tmod (65536 : Int)) (IntKind.wrap .i64 (x0.left - (1 : Int))), x1, x2)))
                                        (.leaf ((Disk.mk r312.1 x0.enable x0.ready x0.error x0.command (IntKind.wrap .i64 (x0.words - x0.words)) (((IntKind.wrap .i64 (x0.addr + (IntKind.wrap .i64 ((2 : Int) * x0.words))))).tmod (65536 : Int)) (((IntKind.wrap .i64 (x0.start + (1 : Int)))).tmod (65536 : Int)) (8 : Int), x1, x2))))))))
                          (.ite (decide (x0.command = (1 : Int)))
                            (.ite (decide ((([] : List Int).length + x1.length) * 8 ≤ 140737488355328))
                              (.opt ((List Int) × Int × (List Int) × Disk × Disk) (Lref16_Tick_0 q (Sref16_Tick_0.mk x2 x0.words r298.1 (0 : Int) (([] : List Int) ++ x1) (Disk.mk x0.drive x0.enable x0.ready x0.error x0.command x0.words x0.addr x0.start (IntKind.wrap .i64 (x0.left - (1 : Int)))) (Disk.mk (Drive.mk ([]) ([])) false false false 0 0 0 0 0))) fun l316 =>
                                .opt (Int × (List Int) × Disk × Disk × (List Int)) (Lref16_Tick_1 q (Sref16_Tick_1.mk l316.1 l316.2.1 (0 : Int) l316.2.2.1 l316.2.2.2.1 l316.2.2.2.2 ([]))) fun l317 =>
                                  .ite (decide ((65536 : Int) = 0))
                                    .fail
                                    (.ite (decide ((65536 : Int) = 0))
                                      .fail
                                      (.ite (decide ((IntKind.wrap .i64 (l317.2.2.1.words - l317.1)) = (0 : Int)))
                                        (.leaf ((Disk.mk l317.2.2.1.drive l317.2.2.1.enable true l317.2.2.1.error l317.2.2.1.command (IntKind.wrap .i64 (l317.2.2.1.words - l317.1)) (((IntKind.wrap .i64 (l317.2.2.1.addr + (IntKind.wrap .i64 ((2 : Int) * l317.1))))).tmod (65536 : Int)) (((IntKind.wrap .i64 (l317.2.2.1.start + (1 : Int)))).tmod (65536 : Int)) l317.2.2.1.left, l317.2.1, l317.2.2.2.2)))
                                        (.leaf ((Disk.mk l317.2.2.1.drive l317.2.2.1.enable l317.2.2.1.ready l317.2.2.1.error l317.2.2.1.command (IntKind.wrap .i64 (l317.2.2.1.words - l317.1)) (((IntKind.wrap .i64 (l317.2.2.1.addr + (IntKind.wrap .i64 ((2 : Int) * l317.1))))).tmod (65536 : Int)) (((IntKind.wrap .i64 (l317.2.2.1.start + (1 : Int)))).tmod (65536 : Int)) (8 : Int), l317.2.1, l317.2.2.2.2))))))
                              .fail)
                            (.ite (decide ((65536 : Int) = 0))
                              .fail
                              (.ite (decide ((65536 : Int) = 0))
                                .fail
                                (.ite (decide ((IntKind.wrap .i64 (x0.words - x0.words)) = (0 : Int)))
                                  (.leaf ((Disk.mk x0.drive x0.enable true x0.error x0.command (IntKind.wrap .i64 (x0.words - x0.words)) (((IntKind.wrap .i64 (x0.addr + (IntKind.wrap .i64 ((2 : Int) * x0.words))))).tmod (65536 : Int)) (((IntKind.wrap .i64 (x0.start + (1 : Int)))).tmod (65536 : Int)) (IntKind.wrap .i64 (x0.left - (1 : Int))), x1, x2)))
                                  (.leaf ((Disk.mk x0.drive x0.enable x0.ready x0.error x0.command (IntKind.wrap .i64 (x0.words - x0.words)) (((IntKind.wrap .i64 (x0.addr + (IntKind.wrap .i64 ((2 : Int) * x0.words))))).tmod (65536 : Int)) (((IntKind.wrap .i64 (x0.start + (1 : Int)))).tmod (65536 : Int)) (8 : Int), x1, x2))))))))))
                  (.ite (decide (x0.command = (3 : Int)))
                    (.opt Bool (ref16_differs q x1 x0.addr x0.words r298.1) fun r318 =>
                      .ite (r318)
                        (.opt Disk (ref16_failed (Disk.mk x0.drive x0.enable x0.ready x0.error x0.command x0.words x0.addr x0.start (IntKind.wrap .i64 (x0.left - (1 : Int))))) fun r319 =>
                          .leaf ((r319, x1, x2)))
                        (.ite (decide (x0.command = (2 : Int)))
                          (.opt (List UInt8) (ref16_sector q x1 x0.addr x0.words) fun r320 =>
                            .opt (Drive × Int) (ref15_Write q x0.drive x0.start r320) fun r321 =>
                              .ite (!decide (r321.2 = (0 : Int)))
                                (.opt Disk (ref16_failed (Disk.mk x0.drive x0.enable x0.ready x0.error x0.command x0.words x0.addr x0.start (IntKind.wrap .i64 (x0.left - (1 : Int))))) fun r322 =>
                                  .leaf ((r322, x1, x2)))
                                (.ite (decide (x0.command = (1 : Int)))
                                  (.ite (decide ((([] : List Int).length + x1.length) * 8 ≤ 140737488355328))
                                    (.opt ((List Int) × Int × (List Int) × Disk × Disk) (Lref16_Tick_0 q (Sref16_Tick_0.mk x2 x0.words r298.1 (0 : Int) (([] : List Int) ++ x1) (Disk.mk r321.1 x0.enable x0.ready x0.error x0.command x0.words x0.addr x0.start (IntKind.wrap .i64 (x0.left - (1 : Int)))) (Disk.mk (Drive.mk ([]) ([])) false false false 0 0 0 0 0))) fun l323 =>
                                      .opt (Int × (List Int) × Disk × Disk × (List Int)) (Lref16_Tick_1 q (Sref16_Tick_1.mk l323.1 l323.2.1 (0 : Int) l323.2.2.1 l323.2.2.2.1 l323.2.2.2.2 ([]))) fun l324 =>
                                        .ite (decide ((65536 : Int) = 0))
                                          .fail
                                          (.ite (decide ((65536 : Int) = 0))
                                            .fail
                                            (.ite (decide ((IntKind.wrap .i64 (l324.2.2.1.words - l324.1)) = (0 : Int)))
                                              (.leaf ((Disk.mk l324.2.2.1.drive l324.2.2.1.enable true l324.2.2.1.error l324.2.2.1.command (IntKind.wrap .i64 (l324.2.2.1.words - l324.1)) (((IntKind.wrap .i64 (l324.2.2.1.addr + (IntKind.wrap .i64 ((2 : Int) * l324.1))))).tmod (65536 : Int)) (((IntKind.wrap .i64 (l324.2.2.1.start + (1 : Int)))).tmod (65536 : Int)) l324.2.2.1.left, l324.2.1, l324.2.2.2.2)))
                                              (.leaf ((Disk.mk l324.2.2.1.drive l324.2.2.1.enable l324.2.2.1.ready l324.2.2.1.error l324.2.2.1.command (IntKind.wrap .i64 (l324.2.2.1.words - l324.1)) (((IntKind.wrap .i64 (l324.2.2.1.addr + (IntKind.wrap .i64 ((2 : Int) * l324.1))))).tmod (65536 : Int)) (((IntKind.wrap .i64 (l324.2.2.1.start + (1 : Int)))).tmod (65536 : Int)) (8 : Int), l324.2.1, l324.2.2.2.2))))))
                                    .fail)
                                  (.ite (decide ((65536 : Int) = 0))
                                    .fail
                                    (.ite (decide ((65536 : Int) = 0))
                                      .fail
                                      (.ite (decide ((IntKind.wrap .i64 (x0.words - x0.words)) = (0 : Int)))
                                        (.leaf ((Disk.mk r321.1 x0.enable true x0.error x0.command (IntKind.wrap .i64 (x0.words - x0.words)) (((IntKind.wrap .i64 (x0.addr + (IntKind.wrap .i64 ((2 : Int) * x0.words))))).tmod (65536 : Int)) (((IntKind.wrap .i64 (x0.start + (1 : Int)))).tmod (65536 : Int)) (IntKind.wrap .i64 (x0.left - (1 : Int))), x1, x2)))
                                        (.leaf ((Disk.mk r321.1 x0.enable x0.ready x0.error x0.command (IntKind.wrap .i64 (x0.words - x0.words)) (((IntKind.wrap .i64 (x0.addr + (IntKind.wrap .i64 ((2 : Int) * x0.words))))).tmod (65536 : Int)) (((IntKind.wrap .i64 (x0.start + (1 : Int)))).tmod (65536 : Int)) (8 : Int), x1, x2))))))))
                          (.ite (decide (x0.command = (1 : Int)))
                            (.ite (decide ((([] : List Int).length + x1.length) * 8 ≤ 140737488355328))
                              (.opt ((List Int) × Int × (List Int) × Disk × Disk) (Lref16_Tick_0 q (Sref16_Tick_0.mk x2 x0.words r298.1 (0 : Int) (([] : List Int) ++ x1) (Disk.mk x0.drive x0.enable x0.ready x0.error x0.command x0.words x0.addr x0.start (IntKind.wrap .i64 (x0.left - (1 : Int)))) (Disk.mk (Drive.mk ([]) ([])) false false false 0 0 0 0 0))) fun l325 =>
                                .opt (Int × (List Int) × Disk × Disk × (List Int)) (Lref16_Tick_1 q (Sref16_Tick_1.mk l325.1 l325.2.1 (0 : Int) l325.2.2.1 l325.2.2.2.1 l325.2.2.2.2 ([]))) fun l326 =>
                                  .ite (decide ((65536 : Int) = 0))
                                    .fail
                                    (.ite (decide ((65536 : Int) = 0))
                                      .fail
                                      (.ite (decide ((IntKind.wrap .i64 (l326.2.2.1.words - l326.1)) = (0 : Int)))
                                        (.leaf ((Disk.mk l326.2.2.1.drive l326.2.2.1.enable true l326.2.2.1.error l326.2.2.1.command (IntKind.wrap .i64 (l326.2.2.1.words - l326.1)) (((IntKind.wrap .i64 (l326.2.2.1.addr + (IntKind.wrap .i64 ((2 : Int) * l326.1))))).tmod (65536 : Int)) (((IntKind.wrap .i64 (l326.2.2.1.start + (1 : Int)))).tmod (65536 : Int)) l326.2.2.1.left, l326.2.1, l326.2.2.2.2)))
                                        (.leaf ((Disk.mk l326.2.2.1.drive l326.2.2.1.enable l326.2.2.1.ready l326.2.2.1.error l326.2.2.1.command (IntKind.wrap .i64 (l326.2.2.1.words - l326.1)) (((IntKind.wrap .i64 (l326.2.2.1.addr + (IntKind.wrap .i64 ((2 : Int) * l326.1))))).tmod (65536 : Int)) (((IntKind.wrap .i64 (l326.2.2.1.start + (1 : Int)))).tmod (65536 : Int)) (8 : Int), l326.2.1, l326.2.2.2.2))))))
                              .fail)
                            (.ite (decide ((65536 : Int) = 0))
                              .fail
                              (.ite (decide ((65536 : Int) = 0))
                                .fail
                                (.ite (decide ((IntKind.wrap .i64 (x0.words - x0.words)) = (0 : Int)))
                                  (.leaf ((Disk.mk x0.drive x0.enable true x0.error x0.command (IntKind.wrap .i64 (x0.words - x0.words)) (((IntKind.wrap .i64 (x0.addr + (IntKind.wrap .i64 ((2 : Int) * x0.words))))).tmod (65536 : Int)) (((IntKind.wrap .i64 (x0.start + (1 : Int)))).tmod (65536 : Int)) (IntKind.wrap .i64 (x0.left - (1 : Int))), x1, x2)))
                                  (.leaf ((Disk.mk x0.drive x0.enable x0.ready x0.error x0.command (IntKind.wrap .i64 (x0.words - x0.words)) (((IntKind.wrap .i64 (x0.addr + (IntKind.wrap .i64 ((2 : Int) * x0.words))))).tmod (65536 : Int)) (((IntKind.wrap .i64 (x0.start + (1 : Int)))).tmod (65536 : Int)) (8 : Int), x1, x2)))))))))
                    (.ite (decide (x0.command = (2 : Int)))
                      (.opt (List UInt8) (ref16_sector q x1 x0.addr x0.words) fun r327 =>
                        .opt (Drive × Int) (ref15_Write q x0.drive x0.start r327) fun r328 =>
                          .ite (!decide (r328.2 = (0 : Int)))
                            (.opt Disk (ref16_failed (Disk.mk x0.drive x0.enable x0.ready x0.error x0.command x0.words x0.addr x0.start (IntKind.wrap .i64 (x0.left - (1 : Int))))) fun r329 =>
                              .leaf ((r329, x1, x2)))
                            (.ite (decide (x0.command = (1 : Int)))
                              (.ite (decide ((([] : List Int).length + x1.length) * 8 ≤ 140737488355328))
                                (.opt ((List Int) × Int × (List Int) × Disk × Disk) (Lref16_Tick_0 q (Sref16_Tick_0.mk x2 x0.words r298.1 (0 : Int) (([] : List Int) ++ x1) (Disk.mk r328.1 x0.enable x0.ready x0.error x0.command x0.words x0.addr x0.start (IntKind.wrap .i64 (x0.left - (1 : Int)))) (Disk.mk (Drive.mk ([]) ([])) false false false 0 0 0 0 0))) fun l330 =>
                                  .opt (Int × (List Int) × Disk × Disk × (List Int)) (Lref16_Tick_1 q (Sref16_Tick_1.mk l330.1 l330.2.1 (0 : Int) l330.2.2.1 l330.2.2.2.1 l330.2.2.2.2 ([]))) fun l331 =>
                                    .ite (decide ((65536 : Int) = 0))
                                      .fail
                                      (.ite (decide ((65536 : Int) = 0))
                                        .fail
                                        (.ite (decide ((IntKind.wrap .i64 (l331.2.2.1.words - l331.1)) = (0 : Int)))
                                          (.leaf ((Disk.mk l331.2.2.1.drive l331.2.2.1.enable true l331.2.2.1.error l331.2.2.1.command (IntKind.wrap .i64 (l331.2.2.1.words - l331.1)) (((IntKind.wrap .i64 (l331.2.2.1.addr + (IntKind.wrap .i64 ((2 : Int) * l331.1))))).tmod (65536 : Int)) (((IntKind.wrap .i64 (l331.2.2.1.start + (1 : Int)))).tmod (65536 : Int)) l331.2.2.1.left, l331.2.1, l331.2.2.2.2)))
                                          (.leaf ((Disk.mk l331.2.2.1.drive l331.2.2.1.enable l331.2.2.1.ready l331.2.2.1.error l331.2.2.1.command (IntKind.wrap .i64 (l331.2.2.1.words - l331.1)) (((IntKind.wrap .i64 (l331.2.2.1.addr + (IntKind.wrap .i64 ((2 : Int) * l331.1))))).tmod (65536 : Int)) (((IntKind.wrap .i64 (l331.2.2.1.start + (1 : Int)))).tmod (65536 : Int)) (8 : Int), l331.2.1, l331.2.2.2.2))))))
                                .fail)
                              (.ite (decide ((65536 : Int) = 0))
                                .fail
                                (.ite (decide ((65536 : Int) = 0))
                                  .fail
                                  (.ite (decide ((IntKind.wrap .i64 (x0.words - x0.words)) = (0 : Int)))
                                    (.leaf ((Disk.mk r328.1 x0.enable true x0.error x0.command (IntKind.wrap .i64 (x0.words - x0.words)) (((IntKind.wrap .i64 (x0.addr + (IntKind.wrap .i64 ((2 : Int) * x0.words))))).tmod (65536 : Int)) (((IntKind.wrap .i64 (x0.start + (1 : Int)))).tmod (65536 : Int)) (IntKind.wrap .i64 (x0.left - (1 : Int))), x1, x2)))
                                    (.leaf ((Disk.mk r328.1 x0.enable x0.ready x0.error x0.command (IntKind.wrap .i64 (x0.words - x0.words)) (((IntKind.wrap .i64 (x0.addr + (IntKind.wrap .i64 ((2 : Int) * x0.words))))).tmod (65536 : Int)) (((IntKind.wrap .i64 (x0.start + (1 : Int)))).tmod (65536 : Int)) (8 : Int), x1, x2))))))))
                      (.ite (decide (x0.command = (1 : Int)))
                        (.ite (decide ((([] : List Int).length + x1.length) * 8 ≤ 140737488355328))
                          (.opt ((List Int) × Int × (List Int) × Disk × Disk) (Lref16_Tick_0 q (Sref16_Tick_0.mk x2 x0.words r298.1 (0 : Int) (([] : List Int) ++ x1) (Disk.mk x0.drive x0.enable x0.ready x0.error x0.command x0.words x0.addr x0.start (IntKind.wrap .i64 (x0.left - (1 : Int)))) (Disk.mk (Drive.mk ([]) ([])) false false false 0 0 0 0 0))) fun l332 =>
                            .opt (Int × (List Int) × Disk × Disk × (List Int)) (Lref16_Tick_1 q (Sref16_Tick_1.mk l332.1 l332.2.1 (0 : Int) l332.2.2.1 l332.2.2.2.1 l332.2.2.2.2 ([]))) fun l333 =>
                              .ite (decide ((65536 : Int) = 0))
                                .fail
                                (.ite (decide ((65536 : Int) = 0))
                                  .fail
                                  (.ite (decide ((IntKind.wrap .i64 (l333.2.2.1.words - l333.1)) = (0 : Int)))
                                    (.leaf ((Disk.mk l333.2.2.1.drive l333.2.2.1.enable true l333.2.2.1.error l333.2.2.1.command (IntKind.wrap .i64 (l333.2.2.1.words - l333.1)) (((IntKind.wrap .i64 (l333.2.2.1.addr + (IntKind.wrap .i64 ((2 : Int) * l333.1))))).tmod (65536 : Int)) (((IntKind.wrap .i64 (l333.2.2.1.start + (1 : Int)))).tmod (65536 : Int)) l333.2.2.1.left, l333.2.1, l333.2.2.2.2)))
                                    (.leaf ((Disk.mk l333.2.2.1.drive l333.2.2.1.enable l333.2.2.1.ready l333.2.2.1.error l333.2.2.1.command (IntKind.wrap .i64 (l333.2.2.1.words - l333.1)) (((IntKind.wrap .i64 (l333.2.2.1.addr + (IntKind.wrap .i64 ((2 : Int) * l333.1))))).tmod (65536 : Int)) (((IntKind.wrap .i64 (l333.2.2.1.start + (1 : Int)))).tmod (65536 : Int)) (8 : Int), l333.2.1, l333.2.2.2.2))))))
                          .fail)
                        (.ite (decide ((65536 : Int) = 0))
                          .fail
                          (.ite (decide ((65536 : Int) = 0))
                            .fail
                            (.ite (decide ((IntKind.wrap .i64 (x0.words - x0.words)) = (0 : Int)))
                              (.leaf ((Disk.mk x0.drive x0.enable true x0.error x0.command (IntKind.wrap .i64 (x0.words - x0.words)) (((IntKind.wrap .i64 (x0.addr + (IntKind.wrap .i64 ((2 : Int) * x0.words))))).tmod (65536 : Int)) (((IntKind.wrap .i64 (x0.start + (1 : Int)))).tmod (65536 : Int)) (IntKind.wrap .i64 (x0.left - (1 : Int))), x1, x2)))
                              (.leaf ((Disk.mk x0.drive x0.enable x0.ready x0.error x0.command (IntKind.wrap .i64 (x0.words - x0.words)) (((IntKind.wrap .i64 (x0.addr + (IntKind.wrap .i64 ((2 : Int) * x0.words))))).tmod (65536 : Int)) (((IntKind.wrap .i64 (x0.start + (1 : Int)))).tmod (65536 : Int)) (8 : Int), x1, x2)))))))))))
              (.ite (!decide (x0.command = (1 : Int)))
                (.opt Bool (ref16_spoilt q x2 x0.addr x0.words) fun r334 =>
                  .ite (r334)
                    (.opt Disk (ref16_failed (Disk.mk x0.drive x0.enable x0.ready x0.error x0.command x0.words x0.addr x0.start (IntKind.wrap .i64 (x0.left - (1 : Int))))) fun r335 =>
                      .leaf ((r335, x1, x2)))
                    (.ite (decide (x0.command = (3 : Int)))
                      (.opt Bool (ref16_differs q x1 x0.addr x0.words r298.1) fun r336 =>
                        .ite (r336)
                          (.opt Disk (ref16_failed (Disk.mk x0.drive x0.enable x0.ready x0.error x0.command x0.words x0.addr x0.start (IntKind.wrap .i64 (x0.left - (1 : Int))))) fun r337 =>
                            .leaf ((r337, x1, x2)))
                          (.ite (decide (x0.command = (2 : Int)))
                            (.opt (List UInt8) (ref16_sector q x1 x0.addr x0.words) fun r338 =>
                              .opt (Drive × Int) (ref15_Write q x0.drive x0.start r338) fun r339 =>
                                .ite (!decide (r339.2 = (0 : Int)))
                                  (.opt Disk (ref16_failed (Disk.mk x0.drive x0.enable x0.ready x0.error x0.command x0.words x0.addr x0.start (IntKind.wrap .i64 (x0.left - (1 : Int))))) fun r340 =>
                                    .leaf ((r340, x1, x2)))
                                  (.ite (decide (x0.command = (1 : Int)))
                                    (.ite (decide ((([] : List Int).length + x1.length) * 8 ≤ 140737488355328))
                                      (.opt ((List Int) × Int × (List Int) × Disk × Disk) (Lref16_Tick_0 q (Sref16_Tick_0.mk x2 x0.words r298.1 (0 : Int) (([] : List Int) ++ x1) (Disk.mk r339.1 x0.enable x0.ready x0.error x0.command x0.words x0.addr x0.start (IntKind.wrap .i64 (x0.left - (1 : Int)))) (Disk.mk (Drive.mk ([]) ([])) false false false 0 0 0 0 0))) fun l341 =>
                                        .opt (Int × (List Int) × Disk × Disk × (List Int)) (Lref16_Tick_1 q (Sref16_Tick_1.mk l341.1 l341.2.1 (0 : Int) l341.2.2.1 l341.2.2.2.1 l341.2.2.2.2 ([]))) fun l342 =>
                                          .ite (decide ((65536 : Int) = 0))
                                            .fail
                                            (.ite (decide ((65536 : Int) = 0))
                                              .fail
                                              (.ite (decide ((IntKind.wrap .i64 (l342.2.2.1.words - l342.1)) = (0 : Int)))
                                                (.leaf ((Disk.mk l342.2.2.1.drive l342.2.2.1.enable true l342.2.2.1.error l342.2.2.1.command (IntKind.wrap .i64 (l342.2.2.1.words - l342.1)) (((IntKind.wrap .i64 (l342.2.2.1.addr + (IntKind.wrap .i64 ((2 : Int) * l342.1))))).tmod (65536 : Int)) (((IntKind.wrap .i64 (l342.2.2.1.start + (1 : Int)))).tmod (65536 : Int)) l342.2.2.1.left, l342.2.1, l342.2.2.2.2)))
                                                (.leaf ((Disk.mk l342.2.2.1.drive l342.2.2.1.enable l342.2.2.1.ready l342.2.2.1.error l342.2.2.1.command (IntKind.wrap .i64 (l342.2.2.1.words - l342.1)) (((IntKind.wrap .i64 (l342.2.2.1.addr + (IntKind.wrap .i64 ((2 : Int) * l342.1))))).tmod (65536 : Int)) (((IntKind.wrap .i64 (l342.2.2.1.start + (1 : Int)))).tmod (65536 : Int)) (8 : Int), l342.2.1, l342.2.2.2.2))))))
                                      .fail)
                                    (.ite (decide ((65536 : Int) = 0))
                                      .fail
                                      (.ite (decide ((65536 : Int) = 0))
                                        .fail
                                        (.ite (decide ((IntKind.wrap .i64 (x0.words - x0.words)) = (0 : Int)))
                                          (.leaf ((Disk.mk r339.1 x0.enable true x0.error x0.command (IntKind.wrap .i64 (x0.words - x0.words)) (((IntKind.wrap .i64 (x0.addr + (IntKind.wrap .i64 ((2 : Int) * x0.words))))).tmod (65536 : Int)) (((IntKind.wrap .i64 (x0.start + (1 : Int)))).tmod (65536 : Int)) (IntKind.wrap .i64 (x0.left - (1 : Int))), x1, x2)))
                                          (.leaf ((Disk.mk r339.1 x0.enable x0.ready x0.error x0.command (IntKind.wrap .i64 (x0.words - x0.words)) (((IntKind.wrap .i64 (x0.addr + (IntKind.wrap .i64 ((2 : Int) * x0.words))))).tmod (65536 : Int)) (((IntKind.wrap .i64 (x0.start + (1 : Int)))).tmod (65536 : Int)) (8 : Int), x1, x2))))))))
                            (.ite (decide (x0.command = (1 : Int)))
                              (.ite (decide ((([] : List Int).length + x1.length) * 8 ≤ 140737488355328))
                                (.opt ((List Int) × Int × (List Int) × Disk × Disk) (Lref16_Tick_0 q (Sref16_Tick_0.mk x2 x0.words r298.1 (0 : Int) (([] : List Int) ++ x1) (Disk.mk x0.drive x0.enable x0.ready x0.error x0.command x0.words x0.addr x0.start (IntKind.wrap .i64 (x0.left - (1 : Int)))) (Disk.mk (Drive.mk ([]) ([])) false false false 0 0 0 0 0))) fun l343 =>
                                  .opt (Int × (List Int) × Disk × Disk × (List Int)) (Lref16_Tick_1 q (Sref16_Tick_1.mk l343.1 l343.2.1 (0 : Int) l343.2.2.1 l343.2.2.2.1 l343.2.2.2.2 ([]))) fun l344 =>
                                    .ite (decide ((65536 : Int) = 0))
                                      .fail
                                      (.ite (decide ((65536 : Int) = 0))
                                        .fail
                                        (.ite (decide ((IntKind.wrap .i64 (l344.2.2.1.words - l344.1)) = (0 : Int)))
                                          (.leaf ((Disk.mk l344.2.2.1.drive l344.2.2.1.enable true l344.2.2.1.error l344.2.2.1.command (IntKind.wrap .i64 (l344.2.2.1.words - l344.1)) (((IntKind.wrap .i64 (l344.2.2.1.addr + (IntKind.wrap .i64 ((2 : Int) * l344.1))))).tmod (65536 : Int)) (((IntKind.wrap .i64 (l344.2.2.1.start + (1 : Int)))).tmod (65536 : Int)) l344.2.2.1.left, l344.2.1, l344.2.2.2.2)))
                                          (.leaf ((Disk.mk l344.2.2.1.drive l344.2.2.1.enable l344.2.2.1.ready l344.2.2.1.error l344.2.2.1.command (IntKind.wrap .i64 (l344.2.2.1.words - l344.1)) (((IntKind.wrap .i64 (l344.2.2.1.addr + (IntKind.wrap .i64 ((2 : Int) * l344.1))))).tmod (65536 : Int)) (((IntKind.wrap .i64 (l344.2.2.1.start + (1 : Int)))).tmod (65536 : Int)) (8 : Int), l344.2.1, l344.2.2.2.2))))))
                                .fail)
                              (.ite (decide ((65536 : Int) = 0))
                                .fail
                                (.ite (decide ((65536 : Int) = 0))
                                  .fail
                                  (.ite (decide ((IntKind.wrap .i64 (x0.words - x0.words)) = (0 : Int)))
                                    (.leaf ((Disk.mk x0.drive x0.enable true x0.error x0.command (IntKind.wrap .i64 (x0.words - x0.words)) (((IntKind.wrap .i64 (x0.addr + (IntKind.wrap .i64 ((2 : Int) * x0.words))))).tmod (65536 : Int)) (((IntKind.wrap .i64 (x0.start + (1 : Int)))).tmod (65536 : Int)) (IntKind.wrap .i64 (x0.left - (1 : Int))), x1, x2)))
                                    (.leaf ((Disk.mk x0.drive x0.enable x0.ready x0.error x0.command (IntKind.wrap .i64 (x0.words - x0.words)) (((IntKind.wrap .i64 (x0.addr + (IntKind.wrap .i64 ((2 : Int) * x0.words))))).tmod (65536 : Int)) (((IntKind.wrap .i64 (x0.start + (1 : Int)))).tmod (65536 : Int)) (8 : Int), x1, x2)))))))))
                      (.ite (decide (x0.command = (2 : Int)))
                        (.opt (List UInt8) (ref16_sector q x1 x0.addr x0.words) fun r345 =>
                          .opt (Drive × Int) (ref15_Write q x0.drive x0.start r345) fun r346 =>
                            .ite (!decide (r346.2 = (0 : Int)))
                              (.opt Disk (ref16_failed (Disk.mk x0.drive x0.enable x0.ready x0.error x0.command x0.words x0.addr x0.start (IntKind.wrap .i64 (x0.left - (1 : Int))))) fun r347 =>
                                .leaf ((r347, x1, x2)))
                              (.ite (decide (x0.command = (1 : Int)))
                                (.ite (decide ((([] : List Int).length + x1.length) * 8 ≤ 140737488355328))
                                  (.opt ((List Int) × Int × (List Int) × Disk × Disk) (Lref16_Tick_0 q (Sref16_Tick_0.mk x2 x0.words r298.1 (0 : Int) (([] : List Int) ++ x1) (Disk.mk r346.1 x0.enable x0.ready x0.error x0.command x0.words x0.addr x0.start (IntKind.wrap .i64 (x0.left - (1 : Int)))) (Disk.mk (Drive.mk ([]) ([])) false false false 0 0 0 0 0))) fun l348 =>
                                    .opt (Int × (List Int) × Disk × Disk × (List Int)) (Lref16_Tick_1 q (Sref16_Tick_1.mk l348.1 l348.2.1 (0 : Int) l348.2.2.1 l348.2.2.2.1 l348.2.2.2.2 ([]))) fun l349 =>
                                      .ite (decide ((65536 : Int) = 0))
                                        .fail
                                        (.ite (decide ((65536 : Int) = 0))
                                          .fail
                                          (.ite (decide ((IntKind.wrap .i64 (l349.2.2.1.words - l349.1)) = (0 : Int)))
                                            (.leaf ((Disk.mk l349.2.2.1.drive l349.2.2.1.enable true l349.2.2.1.error l349.2.2.1.command (IntKind.wrap .i64 (l349.2.2.1.words - l349.1)) (((IntKind.wrap .i64 (l349.2.2.1.addr + (IntKind.wrap .i64 ((2 : Int) * l349.1))))).tmod (65536 : Int)) (((IntKind.wrap .i64 (l349.2.2.1.start + (1 : Int)))).tmod (65536 : Int)) l349.2.2.1.left, l349.2.1, l349.2.2.2.2)))
                                            (.leaf ((Disk.mk l349.2.2.1.drive l349.2.2.1.enable l349.2.2.1.ready l349.2.2.1.error l349.2.2.1.command (IntKind.wrap .i64 (l349.2.2.1.words - l349.1)) (((IntKind.wrap .i64 (l349.2.2.1.addr + (IntKind.wrap .i64 ((2 : Int) * l349.1))))).tmod (65536 : Int)) (((IntKind.wrap .i64 (l349.2.2.1.start + (1 : Int)))).tmod (65536 : Int)) (8 : Int), l349.2.1, l349.2.2.2.2))))))
                                  .fail)
                                (.ite (decide ((65536 : Int) = 0))
                                  .fail
                                  (.ite (decide ((65536 : Int) = 0))
                                    .fail
                                    (.ite (decide ((IntKind.wrap .i64 (x0.words - x0.words)) = (0 : Int)))
                                      (.leaf ((Disk.mk r346.1 x0.enable true x0.error x0.command (IntKind.wrap .i64 (x0.words - x0.words)) (((IntKind.wrap .i64 (x0.addr + (IntKind.wrap .i64 ((2 : Int) * x0.words))))).tmod (65536 : Int)) (((IntKind.wrap .i64 (x0.start + (1 : Int)))).tmod (65536 : Int)) (IntKind.wrap .i64 (x0.left - (1 : Int))), x1, x2)))
                                      (.leaf ((Disk.mk r346.1 x0.enable x0.ready x0.error x0.command (IntKind.wrap .i64 (x0.words - x0.words)) (((IntKind.wrap .i64 (x0.addr + (IntKind.wrap .i64 ((2 : Int) * x0.words))))).tmod (65536 : Int)) (((IntKind.wrap .i64 (x0.start + (1 : Int)))).tmod (65536 : Int)) (8 : Int), x1, x2))))))))
                        (.ite (decide (x0.command = (1 : Int)))
                          (.ite (decide ((([] : List Int).length + x1.length) * 8 ≤ 140737488355328))
                            (.opt ((List Int) × Int × (List Int) × Disk × Disk) (Lref16_Tick_0 q (Sref16_Tick_0.mk x2 x0.words r298.1 (0 : Int) (([] : List Int) ++ x1) (Disk.mk x0.drive x0.enable x0.ready x0.error x0.command x0.words x0.addr x0.start (IntKind.wrap .i64 (x0.left - (1 : Int)))) (Disk.mk (Drive.mk ([]) ([])) false false false 0 0 0 0 0))) fun l350 =>
                              .opt (Int × (List Int) × Disk × Disk × (List Int)) (Lref16_Tick_1 q (Sref16_Tick_1.mk l350.1 l350.2.1 (0 : Int) l350.2.2.1 l350.2.2.2.1 l350.2.2.2.2 ([]))) fun l351 =>
                                .ite (decide ((65536 : Int) = 0))
                                  .fail
                                  (.ite (decide ((65536 : Int) = 0))
                                    .fail
                                    (.ite (decide ((IntKind.wrap .i64 (l351.2.2.1.words - l351.1)) = (0 : Int)))
                                      (.leaf ((Disk.mk l351.2.2.1.drive l351.2.2.1.enable true l351.2.2.1.error l351.2.2.1.command (IntKind.wrap .i64 (l351.2.2.1.words - l351.1)) (((IntKind.wrap .i64 (l351.2.2.1.addr + (IntKind.wrap .i64 ((2 : Int) * l351.1))))).tmod (65536 : Int)) (((IntKind.wrap .i64 (l351.2.2.1.start + (1 : Int)))).tmod (65536 : Int)) l351.2.2.1.left, l351.2.1, l351.2.2.2.2)))
                                      (.leaf ((Disk.mk l351.2.2.1.drive l351.2.2.1.enable l351.2.2.1.ready l351.2.2.1.error l351.2.2.1.command (IntKind.wrap .i64 (l351.2.2.1.words - l351.1)) (((IntKind.wrap .i64 (l351.2.2.1.addr + (IntKind.wrap .i64 ((2 : Int) * l351.1))))).tmod (65536 : Int)) (((IntKind.wrap .i64 (l351.2.2.1.start + (1 : Int)))).tmod (65536 : Int)) (8 : Int), l351.2.1, l351.2.2.2.2))))))
                            .fail)
                          (.ite (decide ((65536 : Int) = 0))
                            .fail
                            (.ite (decide ((65536 : Int) = 0))
                              .fail
                              (.ite (decide ((IntKind.wrap .i64 (x0.words - x0.words)) = (0 : Int)))
                                (.leaf ((Disk.mk x0.drive x0.enable true x0.error x0.command (IntKind.wrap .i64 (x0.words - x0.words)) (((IntKind.wrap .i64 (x0.addr + (IntKind.wrap .i64 ((2 : Int) * x0.words))))).tmod (65536 : Int)) (((IntKind.wrap .i64 (x0.start + (1 : Int)))).tmod (65536 : Int)) (IntKind.wrap .i64 (x0.left - (1 : Int))), x1, x2)))
                                (.leaf ((Disk.mk x0.drive x0.enable x0.ready x0.error x0.command (IntKind.wrap .i64 (x0.words - x0.words)) (((IntKind.wrap .i64 (x0.addr + (IntKind.wrap .i64 ((2 : Int) * x0.words))))).tmod (65536 : Int)) (((IntKind.wrap .i64 (x0.start + (1 : Int)))).tmod (65536 : Int)) (8 : Int), x1, x2))))))))))
                (.ite (decide (x0.command = (3 : Int)))
                  (.opt Bool (ref16_differs q x1 x0.addr x0.words r298.1) fun r352 =>
                    .ite (r352)
                      (.opt Disk (ref16_failed (Disk.mk x0.drive x0.enable x0.ready x0.error x0.command x0.words x0.addr x0.start (IntKind.wrap .i64 (x0.left - (1 : Int))))) fun r353 =>
                        .leaf ((r353, x1, x2)))
                      (.ite (decide (x0.command = (2 : Int)))
                        (.opt (List UInt8) (ref16_sector q x1 x0.addr x0.words) fun r354 =>
                          .opt (Drive × Int) (ref15_Write q x0.drive x0.start r354) fun r355 =>
                            .ite (!decide (r355.2 = (0 : Int)))
                              (.opt Disk (ref16_failed (Disk.mk x0.drive x0.enable x0.ready x0.error x0.command x0.words x0.addr x0.start (IntKind.wrap .i64 (x0.left - (1 : Int))))) fun r356 =>
                                .leaf ((r356, x1, x2)))
                              (.ite (decide (x0.command = (1 : Int)))
                                (.ite (decide ((([] : List Int).length + x1.length) * 8 ≤ 140737488355328))
                                  (.opt ((List Int) × Int × (List Int) × Disk × Disk) (Lref16_Tick_0 q (Sref16_Tick_0.mk x2 x0.words r298.1 (0 : Int) (([] : List Int) ++ x1) (Disk.mk r355.1 x0.enable x0.ready x0.error x0.command x0.words x0.addr x0.start (IntKind.wrap .i64 (x0.left - (1 : Int)))) (Disk.mk (Drive.mk ([]) ([])) false false false 0 0 0 0 0))) fun l357 =>
                                    .opt (Int × (List Int) × Disk × Disk × (List Int)) (Lref16_Tick_1 q (Sref16_Tick_1.mk l357.1 l357.2.1 (0 : Int) l357.2.2.1 l357.2.2.2.1 l357.2.2.2.2 ([]))) fun l358 =>
                                      .ite (decide ((65536 : Int) = 0))
                                        .fail
                                        (.ite (decide ((65536 : Int) = 0))
                                          .fail
                                          (.ite (decide ((IntKind.wrap .i64 (l358.2.2.1.words - l358.1)) = (0 : Int)))
                                            (.leaf ((Disk.mk l358.2.2.1.drive l358.2.2.1.enable true l358.2.2.1.error l358.2.2.1.command (IntKind.wrap .i64 (l358.2.2.1.words - l358.1)) (((IntKind.wrap .i64 (l358.2.2.1.addr + (IntKind.wrap .i64 ((2 : Int) * l358.1))))).tmod (65536 : Int)) (((IntKind.wrap .i64 (l358.2.2.1.start + (1 : Int)))).tmod (65536 : Int)) l358.2.2.1.left, l358.2.1, l358.2.2.2.2)))
                                            (.leaf ((Disk.mk l358.2.2.1.drive l358.2.2.1.enable l358.2.2.1.ready l358.2.2.1.error l358.2.2.1.command (IntKind.wrap .i64 (l358.2.2.1.words - l358.1)) (((IntKind.wrap .i64 (l358.2.2.1.addr + (IntKind.wrap .i64 ((2 : Int) * l358.1))))).tmod (65536 : Int)) (((IntKind.wrap .i64 (l358.2.2.1.start + (1 : Int)))).tmod (65536 : Int)) (8 : Int), l358.2.1, l358.2.2.2.2))))))
                                  .fail)
                                (.ite (decide ((65536 : Int) = 0))
                                  .fail
                                  (.ite (decide ((65536 : Int) = 0))
                                    .fail
                                    (.ite (decide ((IntKind.wrap .i64 (x0.words - x0.words)) = (0 : Int)))
                                      (.leaf ((Disk.mk r355.1 x0.enable true x0.error x0.command (IntKind.wrap .i64 (x0.words - x0.words)) (((IntKind.wrap .i64 (x0.addr + (IntKind.wrap .i64 ((2 : Int) * x0.words))))).tmod (65536 : Int)) (((IntKind.wrap .i64 (x0.start + (1 : Int)))).tmod (65536 : Int)) (IntKind.wrap .i64 (x0.left - (1 : Int))), x1, x2)))
                                      (.leaf ((Disk.mk r355.1 x0.enable x0.ready x0.error x0.command (IntKind.wrap .i64 (x0.words - x0.words)) (((IntKind.wrap .i64 (x0.addr + (IntKind.wrap .i64 ((2 : Int) * x0.words))))).tmod (65536 : Int)) (((IntKind.wrap .i64 (x0.start + (1 : Int)))).tmod (65536 : Int)) (8 : Int), x1, x2))))))))
                        (.ite (decide (x0.command = (1 : Int)))
                          (.ite (decide ((([] : List Int).length + x1.length) * 8 ≤ 140737488355328))
                            (.opt ((List Int) × Int × (List Int) × Disk × Disk) (Lref16_Tick_0 q (Sref16_Tick_0.mk x2 x0.words r298.1 (0 : Int) (([] : List Int) ++ x1) (Disk.mk x0.drive x0.enable x0.ready x0.error x0.command x0.words x0.addr x0.start (IntKind.wrap .i64 (x0.left - (1 : Int)))) (Disk.mk (Drive.mk ([]) ([])) false false false 0 0 0 0 0))) fun l359 =>
                              .opt (Int × (List Int) × Disk × Disk × (List Int)) (Lref16_Tick_1 q (Sref16_Tick_1.mk l359.1 l359.2.1 (0 : Int) l359.2.2.1 l359.2.2.2.1 l359.2.2.2.2 ([]))) fun l360 =>
                                .ite (decide ((65536 : Int) = 0))
                                  .fail
                                  (.ite (decide ((65536 : Int) = 0))
                                    .fail
                                    (.ite (decide ((IntKind.wrap .i64 (l360.2.2.1.words - l360.1)) = (0 : Int)))
                                      (.leaf ((Disk.mk l360.2.2.1.drive l360.2.2.1.enable true l360.2.2.1.error l360.2.2.1.command (IntKind.wrap .i64 (l360.2.2.1.words - l360.1)) (((IntKind.wrap .i64 (l360.2.2.1.addr + (IntKind.wrap .i64 ((2 : Int) * l360.1))))).tmod (65536 : Int)) (((IntKind.wrap .i64 (l360.2.2.1.start + (1 : Int)))).tmod (65536 : Int)) l360.2.2.1.left, l360.2.1, l360.2.2.2.2)))
                                      (.leaf ((Disk.mk l360.2.2.1.drive l360.2.2.1.enable l360.2.2.1.ready l360.2.2.1.error l360.2.2.1.command (IntKind.wrap .i64 (l360.2.2.1.words - l360.1)) (((IntKind.wrap .i64 (l360.2.2.1.addr + (IntKind.wrap .i64 ((2 : Int) * l360.1))))).tmod (65536 : Int)) (((IntKind.wrap .i64 (l360.2.2.1.start + (1 : Int)))).tmod (65536 : Int)) (8 : Int), l360.2.1, l360.2.2.2.2))))))
                            .fail)
                          (.ite (decide ((65536 : Int) = 0))
                            .fail
                            (.ite (decide ((65536 : Int) = 0))
                              .fail
                              (.ite (decide ((IntKind.wrap .i64 (x0.words - x0.words)) = (0 : Int)))
                                (.leaf ((Disk.mk x0.drive x0.enable true x0.error x0.command (IntKind.wrap .i64 (x0.words - x0.words)) (((IntKind.wrap .i64 (x0.addr + (IntKind.wrap .i64 ((2 : Int) * x0.words))))).tmod (65536 : Int)) (((IntKind.wrap .i64 (x0.start + (1 : Int)))).tmod (65536 : Int)) (IntKind.wrap .i64 (x0.left - (1 : Int))), x1, x2)))
                                (.leaf ((Disk.mk x0.drive x0.enable x0.ready x0.error x0.command (IntKind.wrap .i64 (x0.words - x0.words)) (((IntKind.wrap .i64 (x0.addr + (IntKind.wrap .i64 ((2 : Int) * x0.words))))).tmod (65536 : Int)) (((IntKind.wrap .i64 (x0.start + (1 : Int)))).tmod (65536 : Int)) (8 : Int), x1, x2)))))))))
                  (.ite (decide (x0.command = (2 : Int)))
                    (.opt (List UInt8) (ref16_sector q x1 x0.addr x0.words) fun r361 =>
                      .opt (Drive × Int) (ref15_Write q x0.drive x0.start r361) fun r362 =>
                        .ite (!decide (r362.2 = (0 : Int)))
                          (.opt Disk (ref16_failed (Disk.mk x0.drive x0.enable x0.ready x0.error x0.command x0.words x0.addr x0.start (IntKind.wrap .i64 (x0.left - (1 : Int))))) fun r363 =>
                            .leaf ((r363, x1, x2)))
                          (.ite (decide (x0.command = (1 : Int)))
                            (.ite (decide ((([] : List Int).length + x1.length) * 8 ≤ 140737488355328))
                              (.opt ((List Int) × Int × (List Int) × Disk × Disk) (Lref16_Tick_0 q (Sref16_Tick_0.mk x2 x0.words r298.1 (0 : Int) (([] : List Int) ++ x1) (Disk.mk r362.1 x0.enable x0.ready x0.error x0.command x0.words x0.addr x0.start (IntKind.wrap .i64 (x0.left - (1 : Int)))) (Disk.mk (Drive.mk ([]) ([])) false false false 0 0 0 0 0))) fun l364 =>
                                .opt (Int × (List Int) × Disk × Disk × (List Int)) (Lref16_Tick_1 q (Sref16_Tick_1.mk l364.1 l364.2.1 (0 : Int) l364.2.2.1 l364.2.2.2.1 l364.2.2.2.2 ([]))) fun l365 =>
                                  .ite (decide ((65536 : Int) = 0))
                                    .fail
                                    (.ite (decide ((65536 : Int) = 0))
                                      .fail
                                      (.ite (decide ((IntKind.wrap .i64 (l365.2.2.1.words - l365.1)) = (0 : Int)))
                                        (.leaf ((Disk.mk l365.2.2.1.drive l365.2.2.1.enable true l365.2.2.1.error l365.2.2.1.command (IntKind.wrap .i64 (l365.2.2.1.words - l365.1)) (((IntKind.wrap .i64 (l365.2.2.1.addr + (IntKind.wrap .i64 ((2 : Int) * l365.1))))).tmod (65536 : Int)) (((IntKind.wrap .i64 (l365.2.2.1.start + (1 : Int)))).tmod (65536 : Int)) l365.2.2.1.left, l365.2.1, l365.2.2.2.2)))
                                        (.leaf ((Disk.mk l365.2.2.1.drive l365.2.2.1.enable l365.2.2.1.ready l365.2.2.1.error l365.2.2.1.command (IntKind.wrap .i64 (l365.2.2.1.words - l365.1)) (((IntKind.wrap .i64 (l365.2.2.1.addr + (IntKind.wrap .i64 ((2 : Int) * l365.1))))).tmod (65536 : Int)) (((IntKind.wrap .i64 (l365.2.2.1.start + (1 : Int)))).tmod (65536 : Int)) (8 : Int), l365.2.1, l365.2.2.2.2))))))
                              .fail)
                            (.ite (decide ((65536 : Int) = 0))
                              .fail
                              (.ite (decide ((65536 : Int) = 0))
                                .fail
                                (.ite (decide ((IntKind.wrap .i64 (x0.words - x0.words)) = (0 : Int)))
                                  (.leaf ((Disk.mk r362.1 x0.enable true x0.error x0.command (IntKind.wrap .i64 (x0.words - x0.words)) (((IntKind.wrap .i64 (x0.addr + (IntKind.wrap .i64 ((2 : Int) * x0.words))))).tmod (65536 : Int)) (((IntKind.wrap .i64 (x0.start + (1 : Int)))).tmod (65536 : Int)) (IntKind.wrap .i64 (x0.left - (1 : Int))), x1, x2)))
                                  (.leaf ((Disk.mk r362.1 x0.enable x0.ready x0.error x0.command (IntKind.wrap .i64 (x0.words - x0.words)) (((IntKind.wrap .i64 (x0.addr + (IntKind.wrap .i64 ((2 : Int) * x0.words))))).tmod (65536 : Int)) (((IntKind.wrap .i64 (x0.start + (1 : Int)))).tmod (65536 : Int)) (8 : Int), x1, x2))))))))
                    (.ite (decide (x0.command = (1 : Int)))
                      (.ite (decide ((([] : List Int).length + x1.length) * 8 ≤ 140737488355328))
                        (.opt ((List Int) × Int × (List Int) × Disk × Disk) (Lref16_Tick_0 q (Sref16_Tick_0.mk x2 x0.words r298.1 (0 : Int) (([] : List Int) ++ x1) (Disk.mk x0.drive x0.enable x0.ready x0.error x0.command x0.words x0.addr x0.start (IntKind.wrap .i64 (x0.left - (1 : Int)))) (Disk.mk (Drive.mk ([]) ([])) false false false 0 0 0 0 0))) fun l366 =>
                          .opt (Int × (List Int) × Disk × Disk × (List Int)) (Lref16_Tick_1 q (Sref16_Tick_1.mk l366.1 l366.2.1 (0 : Int) l366.2.2.1 l366.2.2.2.1 l366.2.2.2.2 ([]))) fun l367 =>
                            .ite (decide ((65536 : Int) = 0))
                              .fail
                              (.ite (decide ((65536 : Int) = 0))
                                .fail
                                (.ite (decide ((IntKind.wrap .i64 (l367.2.2.1.words - l367.1)) = (0 : Int)))
                                  (.leaf ((Disk.mk l367.2.2.1.drive l367.2.2.1.enable true l367.2.2.1.error l367.2.2.1.command (IntKind.wrap .i64 (l367.2.2.1.words - l367.1)) (((IntKind.wrap .i64 (l367.2.2.1.addr + (IntKind.wrap .i64 ((2 : Int) * l367.1))))).tmod (65536 : Int)) (((IntKind.wrap .i64 (l367.2.2.1.start + (1 : Int)))).tmod (65536 : Int)) l367.2.2.1.left, l367.2.1, l367.2.2.2.2)))
                                  (.leaf ((Disk.mk l367.2.2.1.drive l367.2.2.1.enable l367.2.2.1.ready l367.2.2.1.error l367.2.2.1.command (IntKind.wrap .i64 (l367.2.2.1.words - l367.1)) (((IntKind.wrap .i64 (l367.2.2.1.addr + (IntKind.wrap .i64 ((2 : Int) * l367.1))))).tmod (65536 : Int)) (((IntKind.wrap .i64 (l367.2.2.1.start + (1 : Int)))).tmod (65536 : Int)) (8 : Int), l367.2.1, l367.2.2.2.2))))))
                        .fail)
                      (.ite (decide ((65536 : Int) = 0))
                        .fail
                        (.ite (decide ((65536 : Int) = 0))
                          .fail
                          (.ite (decide ((IntKind.wrap .i64 (x0.words - x0.words)) = (0 : Int)))
                            (.leaf ((Disk.mk x0.drive x0.enable true x0.error x0.command (IntKind.wrap .i64 (x0.words - x0.words)) (((IntKind.wrap .i64 (x0.addr + (IntKind.wrap .i64 ((2 : Int) * x0.words))))).tmod (65536 : Int)) (((IntKind.wrap .i64 (x0.start + (1 : Int)))).tmod (65536 : Int)) (IntKind.wrap .i64 (x0.left - (1 : Int))), x1, x2)))
                            (.leaf ((Disk.mk x0.drive x0.enable x0.ready x0.error x0.command (IntKind.wrap .i64 (x0.words - x0.words)) (((IntKind.wrap .i64 (x0.addr + (IntKind.wrap .i64 ((2 : Int) * x0.words))))).tmod (65536 : Int)) (((IntKind.wrap .i64 (x0.start + (1 : Int)))).tmod (65536 : Int)) (8 : Int), x1, x2))))))))))))))
noncomputable def ref16_Tick (q : Option Nat) (x0 : Disk) (x1 : (List Int)) (x2 : (List Int)) : Option (Disk × (List Int) × (List Int)) := (Tref16_Tick q x0 x1 x2).run
theorem leref16_Tick (k : Nat) (x0 : Disk) (x1 : (List Int)) (x2 : (List Int)) : Le (ref16_Tick (some k) x0 x1 x2) (ref16_Tick none x0 x1 x2) := (TLe.ite TLe.rfl (TLe.ite TLe.rfl (TLe.ite (TLe.ite TLe.rfl (TLe.opt (leref15_Read k _ _) fun _ => (TLe.ite (TLe.ite TLe.rfl (TLe.ite (TLe.opt (leref16_spoilt k _ _ _) fun _ => (TLe.ite TLe.rfl (TLe.ite (TLe.opt (leref16_differs k _ _ _ _) fun _ => (TLe.ite TLe.rfl (TLe.ite (TLe.opt (leref16_sector k _ _ _) fun _ => (TLe.opt (leref15_Write k _ _ _) fun _ => (TLe.ite TLe.rfl (TLe.ite (TLe.ite (TLe.opt (leLref16_Tick_0 k _) fun _ => (TLe.opt (leLref16_Tick_1 k _) fun _ => TLe.rfl)) TLe.rfl) TLe.rfl)))) (TLe.ite (TLe.ite (TLe.opt (leLref16_Tick_0 k _) fun _ => (TLe.opt (leLref16_Tick_1 k _) fun _ => TLe.rfl)) TLe.rfl) TLe.rfl)))) (TLe.ite (TLe.opt (leref16_sector k _ _ _) fun _ => (TLe.opt (leref15_Write k _ _ _) fun _ => (TLe.ite TLe.rfl (TLe.ite (TLe.ite (TLe.opt (leLref16_Tick_0 k _) fun _ => (TLe.opt (leLref16_Tick_1 k _) fun _ => TLe.rfl)) TLe.rfl) TLe.rfl)))) (TLe.ite (TLe.ite (TLe.opt (leLref16_Tick_0 k _) fun _ => (TLe.opt (leLref16_Tick_1 k _) fun _ => TLe.rfl)) TLe.rfl) TLe.rfl))))) (TLe.ite (TLe.opt (leref16_differs k _ _ _ _) fun _ => (TLe.ite TLe.rfl (TLe.ite (TLe.opt (leref16_sector k _ _ _) fun _ => (TLe.opt (leref15_Write k _ _ _) fun _ => (TLe.ite TLe.rfl (TLe.ite (TLe.ite (TLe.opt (leLref16_Tick_0 k _) fun _ => (TLe.opt (leLref16_Tick_1 k _) fun _ => TLe.rfl)) TLe.rfl) TLe.rfl)))) (TLe.ite (TLe.ite (TLe.opt (leLref16_Tick_0 k _) fun _ => (TLe.opt (leLref16_Tick_1 k _) fun _ => TLe.rfl)) TLe.rfl) TLe.rfl)))) (TLe.ite (TLe.opt (leref16_sector k _ _ _) fun _ => (TLe.opt (leref15_Write k _ _ _) fun _ => (TLe.ite TLe.rfl (TLe.ite (TLe.ite (TLe.opt (leLref16_Tick_0 k _) fun _ => (TLe.opt (leLref16_Tick_1 k _) fun _ => TLe.rfl)) TLe.rfl) TLe.rfl)))) (TLe.ite (TLe.ite (TLe.opt (leLref16_Tick_0 k _) fun _ => (TLe.opt (leLref16_Tick_1 k _) fun _ => TLe.rfl)) TLe.rfl) TLe.rfl))))) (TLe.ite (TLe.opt (leref16_spoilt k _ _ _) fun _ => (TLe.ite TLe.rfl (TLe.ite (TLe.opt (leref16_differs k _ _ _ _) fun _ => (TLe.ite TLe.rfl (TLe.ite (TLe.opt (leref16_sector k _ _ _) fun _ => (TLe.opt (leref15_Write k _ _ _) fun _ => (TLe.ite TLe.rfl (TLe.ite (TLe.ite (TLe.opt (leLref16_Tick_0 k _) fun _ => (TLe.opt (leLref16_Tick_1 k _) fun _ => TLe.rfl)) TLe.rfl) TLe.rfl)))) (TLe.ite (TLe.ite (TLe.opt (leLref16_Tick_0 k _) fun _ => (TLe.opt (leLref16_Tick_1 k _) fun _ => TLe.rfl)) TLe.rfl) TLe.rfl)))) (TLe.ite (TLe.opt (leref16_sector k _ _ _) fun _ => (TLe.opt (leref15_Write k _ _ _) fun _ => (TLe.ite TLe.rfl (TLe.ite (TLe.ite (TLe.opt (leLref16_Tick_0 k _) fun _ => (TLe.opt (leLref16_Tick_1 k _) fun _ => TLe.rfl)) TLe.rfl) TLe.rfl)))) (TLe.ite (TLe.ite (TLe.opt (leLref16_Tick_0 k _) fun _ => (TLe.opt (leLref16_Tick_1 k _) fun _ => TLe.rfl)) TLe.rfl) TLe.rfl))))) (TLe.ite (TLe.opt (leref16_differs k _ _ _ _) fun _ => (TLe.ite TLe.rfl (TLe.ite (TLe.opt (leref16_sector k _ _ _) fun _ => (TLe.opt (leref15_Write k _ _ _) fun _ => (TLe.ite TLe.rfl (TLe.ite (TLe.ite (TLe.opt (leLref16_Tick_0 k _) fun _ => (TLe.opt (leLref16_Tick_1 k _) fun _ => TLe.rfl)) TLe.rfl) TLe.rfl)))) (TLe.ite (TLe.ite (TLe.opt (leLref16_Tick_0 k _) fun _ => (TLe.opt (leLref16_Tick_1 k _) fun _ => TLe.rfl)) TLe.rfl) TLe.rfl)))) (TLe.ite (TLe.opt (leref16_sector k _ _ _) fun _ => (TLe.opt (leref15_Write k _ _ _) fun _ => (TLe.ite TLe.rfl (TLe.ite (TLe.ite (TLe.opt (leLref16_Tick_0 k _) fun _ => (TLe.opt (leLref16_Tick_1 k _) fun _ => TLe.rfl)) TLe.rfl) TLe.rfl)))) (TLe.ite (TLe.ite (TLe.opt (leLref16_Tick_0 k _) fun _ => (TLe.opt (leLref16_Tick_1 k _) fun _ => TLe.rfl)) TLe.rfl) TLe.rfl))))))) (TLe.ite TLe.rfl (TLe.opt (leref15_Read k _ _) fun _ => (TLe.ite (TLe.ite TLe.rfl (TLe.ite (TLe.opt (leref16_spoilt k _ _ _) fun _ => (TLe.ite TLe.rfl (TLe.ite (TLe.opt (leref16_differs k _ _ _ _) fun _ => (TLe.ite TLe.rfl (TLe.ite (TLe.opt (leref16_sector k _ _ _) fun _ => (TLe.opt (leref15_Write k _ _ _) fun _ => (TLe.ite TLe.rfl (TLe.ite (TLe.ite (TLe.opt (leLref16_Tick_0 k _) fun _ => (TLe.opt (leLref16_Tick_1 k _) fun _ => TLe.rfl)) TLe.rfl) TLe.rfl)))) (TLe.ite (TLe.ite (TLe.opt (leLref16_Tick_0 k _) fun _ => (TLe.opt (leLref16_Tick_1 k _) fun _ => TLe.rfl)) TLe.rfl) TLe.rfl)))) (TLe.ite (TLe.opt (leref16_sector k _ _ _) fun _ => (TLe.opt (leref15_Write k _ _ _) fun _ => (TLe.ite TLe.rfl (TLe.ite (TLe.ite (TLe.opt (leLref16_Tick_0 k _) fun _ => (TLe.opt (leLref16_Tick_1 k _) fun _ => TLe.rfl)) TLe.rfl) TLe.rfl)))) (TLe.ite (TLe.ite (TLe.opt (leLref16_Tick_0 k _) fun _ => (TLe.opt (leLref16_Tick_1 k _) fun _ => TLe.rfl)) TLe.rfl) TLe.rfl))))) (TLe.ite (TLe.opt (leref16_differs k _ _ _ _) fun _ => (TLe.ite TLe.rfl (TLe.ite (TLe.opt (leref16_sector k _ _ _) fun _ => (TLe.opt (leref15_Write k _ _ _) fun _ => (TLe.ite TLe.rfl (TLe.ite (TLe.ite (TLe.opt (leLref16_Tick_0 k _) fun _ => (TLe.opt (leLref16_Tick_1 k _) fun _ => TLe.rfl)) TLe.rfl) TLe.rfl)))) (TLe.ite (TLe.ite (TLe.opt (leLref16_Tick_0 k _) fun _ => (TLe.opt (leLref16_Tick_1 k _) fun _ => TLe.rfl)) TLe.rfl) TLe.rfl)))) (TLe.ite (TLe.opt (leref16_sector k _ _ _) fun _ => (TLe.opt (leref15_Write k _ _ _) fun _ => (TLe.ite TLe.rfl (TLe.ite (TLe.ite (TLe.opt (leLref16_Tick_0 k _) fun _ => (TLe.opt (leLref16_Tick_1 k _) fun _ => TLe.rfl)) TLe.rfl) TLe.rfl)))) (TLe.ite (TLe.ite (TLe.opt (leLref16_Tick_0 k _) fun _ => (TLe.opt (leLref16_Tick_1 k _) fun _ => TLe.rfl)) TLe.rfl) TLe.rfl))))) (TLe.ite (TLe.opt (leref16_spoilt k _ _ _) fun _ => (TLe.ite TLe.rfl (TLe.ite (TLe.opt (leref16_differs k _ _ _ _) fun _ => (TLe.ite TLe.rfl (TLe.ite (TLe.opt (leref16_sector k _ _ _) fun _ => (TLe.opt (leref15_Write k _ _ _) fun _ => (TLe.ite TLe.rfl (TLe.ite (TLe.ite (TLe.opt (leLref16_Tick_0 k _) fun _ => (TLe.opt (leLref16_Tick_1 k _) fun _ => TLe.rfl)) TLe.rfl) TLe.rfl)))) (TLe.ite (TLe.ite (TLe.opt (leLref16_Tick_0 k _) fun _ => (TLe.opt (leLref16_Tick_1 k _) fun _ => TLe.rfl)) TLe.rfl) TLe.rfl)))) (TLe.ite (TLe.opt (leref16_sector k _ _ _) fun _ => (TLe.opt (leref15_Write k _ _ _) fun _ => (TLe.ite TLe.rfl (TLe.ite (TLe.ite (TLe.opt (leLref16_Tick_0 k _) fun _ => (TLe.opt (leLref16_Tick_1 k _) fun _ => TLe.rfl)) TLe.rfl) TLe.rfl)))) (TLe.ite (TLe.ite (TLe.opt (leLref16_Tick_0 k _) fun _ => (TLe.opt (leLref16_Tick_1 k _) fun _ => TLe.rfl)) TLe.rfl) TLe.rfl))))) (TLe.ite (TLe.opt (leref16_differs k _ _ _ _) fun _ => (TLe.ite TLe.rfl (TLe.ite (TLe.opt (leref16_sector k _ _ _) fun _ => (TLe.opt (leref15_Write k _ _ _) fun _ => (TLe.ite TLe.rfl (TLe.ite (TLe.ite (TLe.opt (leLref16_Tick_0 k _) fun _ => (TLe.opt (leLref16_Tick_1 k _) fun _ => TLe.rfl)) TLe.rfl) TLe.rfl)))) (TLe.ite (TLe.ite (TLe.opt (leLref16_Tick_0 k _) fun _ => (TLe.opt (leLref16_Tick_1 k _) fun _ => TLe.rfl)) TLe.rfl) TLe.rfl)))) (TLe.ite (TLe.opt (leref16_sector k _ _ _) fun _ => (TLe.opt (leref15_Write k _ _ _) fun _ => (TLe.ite TLe.rfl (TLe.ite (TLe.ite (TLe.opt (leLref16_Tick_0 k _) fun _ => (TLe.opt (leLref16_Tick_1 k _) fun _ => TLe.rfl)) TLe.rfl) TLe.rfl)))) (TLe.ite (TLe.ite (TLe.opt (leLref16_Tick_0 k _) fun _ => (TLe.opt (leLref16_Tick_1 k _) fun _ => TLe.rfl)) TLe.rfl) TLe.rfl))))))))))
noncomputable def Aref16_Tick : Arg U (Disk × (List Int) × (List Int) × Unit) := aA cDisk (aO (cSl 3) (aO (cSl 3) (aNil)))
noncomputable def Rref16_Tick (r : (Disk × (List Int) × (List Int))) : List (V U) × List (Blk U) := ([vA cDisk r.1, vO (cSl 3) r.2.1, vO (cSl 3) r.2.2], [])
noncomputable def Sref16_Tick : List (V U) → List (Blk U) → Option (FnOut U) := mkSpec Aref16_Tick bNil (fun x _ => ref16_Tick none x.1 x.2.1 x.2.2.1) Rref16_Tick
noncomputable def Pref16_Tick_0 (x : (Unit) × ((List Int) × Unit) × (Unit) × (Unit) × (Int × Unit) × ((List UInt8) × Unit) × (Int × Unit) × Unit) (g : (List Int) × (Disk × Unit) × (Disk × Unit) × Unit) : Sref16_Tick_0 := Sref16_Tick_0.mk x.2.1.1 x.2.2.2.2.1.1 x.2.2.2.2.2.1.1 x.2.2.2.2.2.2.1.1 g.1 g.2.1.1 g.2.2.1.1
noncomputable def tAref16_Tick_0 : Tms U ((Unit) × ((List Int) × Unit) × (Unit) × (Unit) × (Int × Unit) × ((List UInt8) × Unit) × (Int × Unit) × Unit) := tO 1 (cK (.row 0 0) (cUnit)) (tO 2 (cPair (cSl 3) (cUnit)) (tO 3 (cK (.ptr 1 0) (cUnit)) (tO 6 (cK (.ptr 2 0) (cUnit)) (tO 9 (cPair (cInt .i64) (cUnit)) (tO 10 (cPair cStr (cUnit)) (tO 14 (cPair (cInt .i64) (cUnit)) (tNil)))))))
noncomputable def tBref16_Tick_0 : Bls U ((List Int) × (Disk × Unit) × (Disk × Unit) × Unit) := bRv 3 0 (bC (cPair cDisk (cUnit)) (bC (cPair cDisk (cUnit)) (bNil)))
noncomputable def eSref16_Tick_0 (s : Sref16_Tick_0) : St U := { tm := [(1, .v (vO (cK (.row 0 0) (cUnit)) (()))), (2, .v (vO (cPair (cSl 3) (cUnit)) (s.t2, ()))), (3, .v (vO (cK (.ptr 1 0) (cUnit)) (()))), (6, .v (vO (cK (.ptr 2 0) (cUnit)) (()))), (9, .v (vO (cPair (cInt .i64) (cUnit)) (s.t9, ()))), (10, .v (vO (cPair cStr (cUnit)) (s.t10, ()))), (14, .v (vO (cPair (cInt .i64) (cUnit)) (s.t14, ())))], hp := [.row 3 0 s.b0, .cells ((cPair cDisk (cUnit) : Cdc U (Disk × Unit)).enc (s.b1, ())) none, .cells ((cPair cDisk (cUnit) : Cdc U (Disk × Unit)).enc (s.b2, ())) none] }
noncomputable def xSref16_Tick_0 (r : ((List Int) × Int × (List Int) × Disk × Disk)) : Ex × St U := (.exit 0, { tm := [(1, .v (vO (cK (.row 0 0) (cUnit)) (()))), (2, .v (vO (cPair (cSl 3) (cUnit)) (r.1, ()))), (3, .v (vO (cK (.ptr 1 0) (cUnit)) (()))), (6, .v (vO (cK (.ptr 2 0) (cUnit)) (()))), (9, .v (vO (cPair (cInt .i64) (cUnit)) (r.2.1, ())))], hp := [.row 3 0 r.2.2.1, .cells ((cPair cDisk (cUnit) : Cdc U (Disk × Unit)).enc (r.2.2.2.1, ())) none, .cells ((cPair cDisk (cUnit) : Cdc U (Disk × Unit)).enc (r.2.2.2.2, ())) none] })
noncomputable def xTref16_Tick_0 (r : ((List Int) × Int × (List Int) × Disk × Disk)) : Tree (Ex × St U) := .leaf (xSref16_Tick_0 r)
noncomputable def href16_Tick_0 : Hd := { keep := [1, 2, 3, 6, 9, 10, 14], xkeep := [1, 2, 3, 6, 7, 8, 9], own := false }
noncomputable def Pref16_Tick_1 (x : (Unit) × ((List Int) × Unit) × (Unit) × (Unit) × (Int × Unit) × (Unit) × (Int × Unit) × Unit) (g : (List Int) × (Disk × Unit) × (Disk × Unit) × (List Int) × Unit) : Sref16_Tick_1 := Sref16_Tick_1.mk x.2.1.1 x.2.2.2.2.1.1 x.2.2.2.2.2.2.1.1 g.1 g.2.1.1 g.2.2.1.1 g.2.2.2.1
noncomputable def tAref16_Tick_1 : Tms U ((Unit) × ((List Int) × Unit) × (Unit) × (Unit) × (Int × Unit) × (Unit) × (Int × Unit) × Unit) := tO 1 (cK (.row 0 0) (cUnit)) (tO 2 (cPair (cSl 3) (cUnit)) (tO 3 (cK (.ptr 1 0) (cUnit)) (tO 6 (cK (.ptr 2 0) (cUnit)) (tO 9 (cPair (cInt .i64) (cUnit)) (tO 15 (cK (.row 3 0) (cUnit)) (tO 16 (cPair (cInt .i64) (cUnit)) (tNil)))))))
noncomputable def tBref16_Tick_1 : Bls U ((List Int) × (Disk × Unit) × (Disk × Unit) × (List Int) × Unit) := bRv 3 0 (bC (cPair cDisk (cUnit)) (bC (cPair cDisk (cUnit)) (bRv 3 0 (bNil))))
noncomputable def eSref16_Tick_1 (s : Sref16_Tick_1) : St U := { tm := [(1, .v (vO (cK (.row 0 0) (cUnit)) (()))), (2, .v (vO (cPair (cSl 3) (cUnit)) (s.t2, ()))), (3, .v (vO (cK (.ptr 1 0) (cUnit)) (()))), (6, .v (vO (cK (.ptr 2 0) (cUnit)) (()))), (9, .v (vO (cPair (cInt .i64) (cUnit)) (s.t9, ()))), (15, .v (vO (cK (.row 3 0) (cUnit)) (()))), (16, .v (vO (cPair (cInt .i64) (cUnit)) (s.t16, ())))], hp := [.row 3 0 s.b0, .cells ((cPair cDisk (cUnit) : Cdc U (Disk × Unit)).enc (s.b1, ())) none, .cells ((cPair cDisk (cUnit) : Cdc U (Disk × Unit)).enc (s.b2, ())) none, .row 3 0 s.b3] }
noncomputable def xSref16_Tick_1 (r : (Int × (List Int) × Disk × Disk × (List Int))) : Ex × St U := (.exit 2, { tm := [(1, .v (vO (cK (.row 0 0) (cUnit)) (()))), (3, .v (vO (cK (.ptr 1 0) (cUnit)) (()))), (6, .v (vO (cK (.ptr 2 0) (cUnit)) (()))), (9, .v (vO (cPair (cInt .i64) (cUnit)) (r.1, ()))), (15, .v (vO (cK (.row 3 0) (cUnit)) (())))], hp := [.row 3 0 r.2.1, .cells ((cPair cDisk (cUnit) : Cdc U (Disk × Unit)).enc (r.2.2.1, ())) none, .cells ((cPair cDisk (cUnit) : Cdc U (Disk × Unit)).enc (r.2.2.2.1, ())) none, .row 3 0 r.2.2.2.2] })
noncomputable def xTref16_Tick_1 (r : (Int × (List Int) × Disk × Disk × (List Int))) : Tree (Ex × St U) := .leaf (xSref16_Tick_1 r)
noncomputable def href16_Tick_1 : Hd := { keep := [1, 2, 3, 6, 9, 15, 16], xkeep := [1, 3, 6, 7, 8, 9, 15], own := true }
noncomputable def Eref16_Tick : Env U := { P := Try.prog, cd := cd, fns := fns40, lps := (addL 0 href16_Tick_0 (mkLoop tAref16_Tick_0 tBref16_Tick_0 Pref16_Tick_0 (Lref16_Tick_0 none) xTref16_Tick_0) (addL 1 href16_Tick_1 (mkLoop tAref16_Tick_1 tBref16_Tick_1 Pref16_Tick_1 (Lref16_Tick_1 none) xTref16_Tick_1) noL)), frz := fun _r => false, nt := 201, n0 := 0 }
noncomputable def Bref16_Tick_0 : Code := (loopAt (Try.f17.body.getD .skip) 0 0).getD .skip
theorem roundref16_Tick_0 (s : Sref16_Tick_0) : round Eref16_Tick href16_Tick_0 Bref16_Tick_0 0 (eSref16_Tick_0 s) = (Wref16_Tick_0 s).map (sumE eSref16_Tick_0 xSref16_Tick_0) := by kernel_rfl
theorem lpref16_Tick_0 : LpOk Eref16_Tick Bref16_Tick_0 0 := mkLoop_ok (A := tAref16_Tick_0) (B := tBref16_Tick_0) (f := Pref16_Tick_0) (L := Lref16_Tick_0 none) (tO_ok (cK_ok cUnit_ok) (tO_ok (cPair_ok (cSl_ok 3) cUnit_ok) (tO_ok (cK_ok cUnit_ok) (tO_ok (cK_ok cUnit_ok) (tO_ok (cPair_ok (cInt_ok .i64) cUnit_ok) (tO_ok (cPair_ok cStr_ok cUnit_ok) (tO_ok (cPair_ok (cInt_ok .i64) cUnit_ok) tNil_ok))))))) (bRv_ok (bC_ok (cPair_ok cDisk_ok cUnit_ok) (bC_ok (cPair_ok cDisk_ok cUnit_ok) bNil_ok))) (enc := eSref16_Tick_0) (out := xTref16_Tick_0) (outS := xSref16_Tick_0) (step := Wref16_Tick_0) (fun _ => rfl) (fun _ _ => by kernel_rfl) (by kernel_rfl) (fun _ => rfl) roundref16_Tick_0
noncomputable def Bref16_Tick_1 : Code := (loopAt (Try.f17.body.getD .skip) 0 1).getD .skip
theorem roundref16_Tick_1 (s : Sref16_Tick_1) : round Eref16_Tick href16_Tick_1 Bref16_Tick_1 1 (eSref16_Tick_1 s) = (Wref16_Tick_1 s).map (sumE eSref16_Tick_1 xSref16_Tick_1) := by kernel_rfl
theorem lpref16_Tick_1 : LpOk Eref16_Tick Bref16_Tick_1 1 := mkLoop_ok (A := tAref16_Tick_1) (B := tBref16_Tick_1) (f := Pref16_Tick_1) (L := Lref16_Tick_1 none) (tO_ok (cK_ok cUnit_ok) (tO_ok (cPair_ok (cSl_ok 3) cUnit_ok) (tO_ok (cK_ok cUnit_ok) (tO_ok (cK_ok cUnit_ok) (tO_ok (cPair_ok (cInt_ok .i64) cUnit_ok) (tO_ok (cK_ok cUnit_ok) (tO_ok (cPair_ok (cInt_ok .i64) cUnit_ok) tNil_ok))))))) (bRv_ok (bC_ok (cPair_ok cDisk_ok cUnit_ok) (bC_ok (cPair_ok cDisk_ok cUnit_ok) (bRv_ok bNil_ok)))) (enc := eSref16_Tick_1) (out := xTref16_Tick_1) (outS := xSref16_Tick_1) (step := Wref16_Tick_1) (fun _ => rfl) (fun _ _ => by kernel_rfl) (by kernel_rfl) (fun _ => rfl) roundref16_Tick_1
theorem runref16_Tick (x : Disk × (List Int) × (List Int) × Unit) (g : Unit) : execF Eref16_Tick Try.f17 (Aref16_Tick.enc x) (bNil.enc g) = (Tref16_Tick none x.1 x.2.1 x.2.2.1).map Rref16_Tick := by kernel_rfl
theorem okref16_Tick : FnOk Try.prog cd 17 Sref16_Tick := mk_ok (E := Eref16_Tick) cd_ok fns40_ok Try.func17 (by kernel_rfl) (loops_of (addL_ok lpref16_Tick_0 (addL_ok lpref16_Tick_1 noL_ok))) (aA_ok cDisk_ok (aO_ok (cSl_ok 3) (aO_ok (cSl_ok 3) (aNil_ok)))) bNil_ok (T := fun x _ => Tref16_Tick none x.1 x.2.1 x.2.2.1) (fun _ _ => rfl) runref16_Tick
noncomputable def fns17 := addF 17 true Sref16_Tick fns40
theorem fns17_ok : ∀ f q t, fns17 f = some (q, t) → FnOk Try.prog cd f t := addF_ok okref16_Tick fns40_ok
/-- emulator/emulatorref16.Write -/
noncomputable def Tref16_Write (x0 : Disk) (x1 : Int) (x2 : Int) : Tree (Disk × Bool) :=
  .ite (!decide (x1 = (0 : Int)))
    (.ite (!decide (x1 = (2 : Int)))
      (.ite (!decide (x1 = (4 : Int)))
        (.ite (!decide (x1 = (6 : Int)))
          (.leaf ((Disk.mk (Drive.mk ([]) ([])) false false false 0 0 0 0 0, false)))
          (.ite (decide (x1 = (0 : Int)))
            (.ite (x0.ready)
              (.ite (!decide ((IntKind.wrap .i64 (((BitVec.ofInt 64 x2 &&& BitVec.ofInt 64 (1 : Int)).toNat : Int))) = (0 : Int)))
                (.ite (decide (0 ≤ (1 : Int)))
                  (.ite (!decide ((IntKind.wrap .i64 (((BitVec.ofInt 64 ((x2).fdiv (2 ^ (min ((1 : Int)).toNat 64))) &&& BitVec.ofInt 64 (3 : Int)).toNat : Int))) = (0 : Int)))
                    (.ite (!decide (x0.words = (0 : Int)))
                      (.leaf ((Disk.mk x0.drive (!decide ((IntKind.wrap .i64 (((BitVec.ofInt 64 x2 &&& BitVec.ofInt 64 (64 : Int)).toNat : Int))) = (0 : Int))) false false (IntKind.wrap .i64 (((BitVec.ofInt 64 ((x2).fdiv (2 ^ (min ((1 : Int)).toNat 64))) &&& BitVec.ofInt 64 (3 : Int)).toNat : Int))) x0.words x0.addr x0.start (8 : Int), true)))
                      (.leaf ((Disk.mk x0.drive (!decide ((IntKind.wrap .i64 (((BitVec.ofInt 64 x2 &&& BitVec.ofInt 64 (64 : Int)).toNat : Int))) = (0 : Int))) x0.ready false (IntKind.wrap .i64 (((BitVec.ofInt 64 ((x2).fdiv (2 ^ (min ((1 : Int)).toNat 64))) &&& BitVec.ofInt 64 (3 : Int)).toNat : Int))) x0.words x0.addr x0.start x0.left, true))))
                    (.leaf ((Disk.mk x0.drive (!decide ((IntKind.wrap .i64 (((BitVec.ofInt 64 x2 &&& BitVec.ofInt 64 (64 : Int)).toNat : Int))) = (0 : Int))) x0.ready false (IntKind.wrap .i64 (((BitVec.ofInt 64 ((x2).fdiv (2 ^ (min ((1 : Int)).toNat 64))) &&& BitVec.ofInt 64 (3 : Int)).toNat : Int))) x0.words x0.addr x0.start x0.left, true))))
                  .fail)
                (.leaf ((Disk.mk x0.drive (!decide ((IntKind.wrap .i64 (((BitVec.ofInt 64 x2 &&& BitVec.ofInt 64 (64 : Int)).toNat : Int))) = (0 : Int))) x0.ready x0.error x0.command x0.words x0.addr x0.start x0.left, true))))
              (.leaf ((Disk.mk x0.drive (!decide ((IntKind.wrap .i64 (((BitVec.ofInt 64 x2 &&& BitVec.ofInt 64 (64 : Int)).toNat : Int))) = (0 : Int))) x0.ready x0.error x0.command x0.words x0.addr x0.start x0.left, true))))
            (.ite (!x0.ready)
              (.leaf ((x0, true)))
              (.ite (decide (x1 = (2 : Int)))
                (.ite (decide (x1 = (4 : Int)))
                  (.ite (decide (x1 = (6 : Int)))
                    (.leaf ((Disk.mk x0.drive x0.enable x0.ready x0.error x0.command (IntKind.wrap .i64 (((BitVec.ofInt 64 x2 &&& BitVec.ofInt 64 (65535 : Int)).toNat : Int))) (IntKind.wrap .i64 (((BitVec.ofInt 64 x2 &&& BitVec.ofInt 64 (65534 : Int)).toNat : Int))) (IntKind.wrap .i64 (((BitVec.ofInt 64 x2 &&& BitVec.ofInt 64 (65535 : Int)).toNat : Int))) x0.left, true)))
                    (.leaf ((Disk.mk x0.drive x0.enable x0.ready x0.error x0.command (IntKind.wrap .i64 (((BitVec.ofInt 64 x2 &&& BitVec.ofInt 64 (65535 : Int)).toNat : Int))) (IntKind.wrap .i64 (((BitVec.ofInt 64 x2 &&& BitVec.ofInt 64 (65534 : Int)).toNat : Int))) x0.start x0.left, true))))
                  (.ite (decide (x1 = (6 : Int)))
                    (.leaf ((Disk.mk x0.drive x0.enable x0.ready x0.error x0.command (IntKind.wrap .i64 (((BitVec.ofInt 64 x2 &&& BitVec.ofInt 64 (65535 : Int)).toNat : Int))) x0.addr (IntKind.wrap .i64 (((BitVec.ofInt 64 x2 &&& BitVec.ofInt 64 (65535 : Int)).toNat : Int))) x0.left, true)))
                    (.leaf ((Disk.mk x0.drive x0.enable x0.ready x0.error x0.command (IntKind.wrap .i64 (((BitVec.ofInt 64 x2 &&& BitVec.ofInt 64 (65535 : Int)).toNat : Int))) x0.addr x0.start x0.left, true)))))
                (.ite (decide (x1 = (4 : Int)))
                  (.ite (decide (x1 = (6 : Int)))
                    (.leaf ((Disk.mk x0.drive x0.enable x0.ready x0.error x0.command x0.words (IntKind.wrap .i64 (((BitVec.ofInt 64 x2 &&& BitVec.ofInt 64 (65534 : Int)).toNat : Int))) (IntKind.wrap .i64 (((BitVec.ofInt 64 x2 &&& BitVec.ofInt 64 (65535 : Int)).toNat : Int))) x0.left, true)))
                    (.leaf ((Disk.mk x0.drive x0.enable x0.ready x0.error x0.command x0.words (IntKind.wrap .i64 (((BitVec.ofInt 64 x2 &&& BitVec.ofInt 64 (65534 : Int)).toNat : Int))) x0.start x0.left, true))))
                  (.ite (decide (x1 = (6 : Int)))
                    (.leaf ((Disk.mk x0.drive x0.enable x0.ready x0.error x0.command x0.words x0.addr (IntKind.wrap .i64 (((BitVec.ofInt 64 x2 &&& BitVec.ofInt 64 (65535 : Int)).toNat : Int))) x0.left, true)))
                    (.leaf ((x0, true)))))))))
        (.ite (decide (x1 = (0 : Int)))
          (.ite (x0.ready)
            (.ite (!decide ((IntKind.wrap .i64 (((BitVec.ofInt 64 x2 &&& BitVec.ofInt 64 (1 : Int)).toNat : Int))) = (0 : Int)))
              (.ite (decide (0 ≤ (1 : Int)))
                (.ite (!decide ((IntKind.wrap .i64 (((BitVec.ofInt 64 ((x2).fdiv (2 ^ (min ((1 : Int)).toNat 64))) &&& BitVec.ofInt 64 (3 : Int)).toNat : Int))) = (0 : Int)))
                  (.ite (!decide (x0.words = (0 : Int)))
                    (.leaf ((Disk.mk x0.drive (!decide ((IntKind.wrap .i64 (((BitVec.ofInt 64 x2 &&& BitVec.ofInt 64 (64 : Int)).toNat : Int))) = (0 : Int))) false false (IntKind.wrap .i64 (((BitVec.ofInt 64 ((x2).fdiv (2 ^ (min ((1 : Int)).toNat 64))) &&& BitVec.ofInt 64 (3 : Int)).toNat : Int))) x0.words x0.addr x0.start (8 : Int), true)))
                    (.leaf ((Disk.mk x0.drive (!decide ((IntKind.wrap .i64 (((BitVec.ofInt 64 x2 &&& BitVec.ofInt 64 (64 : Int)).toNat : Int))) = (0 : Int))) x0.ready false (IntKind.wrap .i64 (((BitVec.ofInt 64 ((x2).fdiv (2 ^ (min ((1 : Int)).toNat 64))) &&& BitVec.ofInt 64 (3 : Int)).toNat : Int))) x0.words x0.addr x0.start x0.left, true))))
                  (.leaf ((Disk.mk x0.drive (!decide ((IntKind.wrap .i64 (((BitVec.ofInt 64 x2 &&& BitVec.ofInt 64 (64 : Int)).toNat : Int))) = (0 : Int))) x0.ready false (IntKind.wrap .i64 (((BitVec.ofInt 64 ((x2).fdiv (2 ^ (min ((1 : Int)).toNat 64))) &&& BitVec.ofInt 64 (3 : Int)).toNat : Int))) x0.words x0.addr x0.start x0.left, true))))
                .fail)
              (.leaf ((Disk.mk x0.drive (!decide ((IntKind.wrap .i64 (((BitVec.ofInt 64 x2 &&& BitVec.ofInt 64 (64 : Int)).toNat : Int))) = (0 : Int))) x0.ready x0.error x0.command x0.words x0.addr x0.start x0.left, true))))
            (.leaf ((Disk.mk x0.drive (!decide ((IntKind.wrap .i64 (((BitVec.ofInt 64 x2 &&& BitVec.ofInt 64 (64 : Int)).toNat : Int))) = (0 : Int))) x0.ready x0.error x0.command x0.words x0.addr x0.start x0.left, true))))
          (.ite (!x0.ready)
            (.leaf ((x0, true)))
            (.ite (decide (x1 = (2 : Int)))
              (.ite (decide (x1 = (4 : Int)))
                (.ite (decide (x1 = (6 : Int)))
                  (.leaf ((Disk.mk x0.drive x0.enable x0.ready x0.error x0.command (IntKind.wrap .i64 (((BitVec.ofInt 64 x2 &&& BitVec.ofInt 64 (65535 : Int)).toNat : Int))) (IntKind.wrap .i64 (((BitVec.ofInt 64 x2 &&& BitVec.ofInt 64 (65534 : Int)).toNat : Int))) (IntKind.wrap .i64 (((BitVec.ofInt 64 x2 &&& BitVec.ofInt 64 (65535 : Int)).toNat : Int))) x0.left, true)))
                  (.leaf ((Disk.mk x0.drive x0.enable x0.ready x0.error x0.command (IntKind.wrap .i64 (((BitVec.ofInt 64 x2 &&& BitVec.ofInt 64 (65535 : Int)).toNat : Int))) (IntKind.wrap .i64 (((BitVec.ofInt 64 x2 &&& BitVec.ofInt 64 (65534 : Int)).toNat : Int))) x0.start x0.left, true))))
                (.ite (decide (x1 = (6 : Int)))
                  (.leaf ((Disk.mk x0.drive x0.enable x0.ready x0.error x0.command (IntKind.wrap .i64 (((BitVec.ofInt 64 x2 &&& BitVec.ofInt 64 (65535 : Int)).toNat : Int))) x0.addr (IntKind.wrap .i64 (((BitVec.ofInt 64 x2 &&& BitVec.ofInt 64 (65535 : Int)).toNat : Int))) x0.left, true)))
                  (.leaf ((Disk.mk x0.drive x0.enable x0.ready x0.error x0.command (IntKind.wrap .i64 (((BitVec.ofInt 64 x2 &&& BitVec.ofInt 64 (65535 : Int)).toNat : Int))) x0.addr x0.start x0.left, true)))))
              (.ite (decide (x1 = (4 : Int)))
                (.ite (decide (x1 = (6 : Int)))
                  (.leaf ((Disk.mk x0.drive x0.enable x0.ready x0.error x0.command x0.words (IntKind.wrap .i64 (((BitVec.ofInt 64 x2 &&& BitVec.ofInt 64 (65534 : Int)).toNat : Int))) (IntKind.wrap .i64 (((BitVec.ofInt 64 x2 &&& BitVec.ofInt 64 (65535 : Int)).toNat : Int))) x0.left, true)))
                  (.leaf ((Disk.mk x0.drive x0.enable x0.ready x0.error x0.command x0.words (IntKind.wrap .i64 (((BitVec.ofInt 64 x2 &&& BitVec.ofInt 64 (65534 : Int)).toNat : Int))) x0.start x0.left, true))))
                (.ite (decide (x1 = (6 : Int)))
                  (.leaf ((Disk.mk x0.drive x0.enable x0.ready x0.error x0.command x0.words x0.addr (IntKind.wrap .i64 (((BitVec.ofInt 64 x2 &&& BitVec.ofInt 64 (65535 : Int)).toNat : Int))) x0.left, true)))
                  (.leaf ((x0, true)))))))))
      (.ite (decide (x1 = (0 : Int)))
        (.ite (x0.ready)
          (.ite (!decide ((IntKind.wrap .i64 (((BitVec.ofInt 64 x2 &&& BitVec.ofInt 64 (1 : Int)).toNat : Int))) = (0 : Int)))
            (.ite (decide (0 ≤ (1 : Int)))
              (.ite (!decide ((IntKind.wrap .i64 (((BitVec.ofInt 64 ((x2).fdiv (2 ^ (min ((1 : Int)).toNat 64))) &&& BitVec.ofInt 64 (3 : Int)).toNat : Int))) = (0 : Int)))
                (.ite (!decide (x0.words = (0 : Int)))
                  (.leaf ((Disk.mk x0.drive (!decide ((IntKind.wrap .i64 (((BitVec.ofInt 64 x2 &&& BitVec.ofInt 64 (64 : Int)).toNat : Int))) = (0 : Int))) false false (IntKind.wrap .i64 (((BitVec.ofInt 64 ((x2).fdiv (2 ^ (min ((1 : Int)).toNat 64))) &&& BitVec.ofInt 64 (3 : Int)).toNat : Int))) x0.words x0.addr x0.start (8 : Int), true)))
                  (.leaf ((Disk.mk x0.drive (!decide ((IntKind.wrap .i64 (((BitVec.ofInt 64 x2 &&& BitVec.ofInt 64 (64 : Int)).toNat : Int))) = (0 : Int))) x0.ready false (IntKind.wrap .i64 (((BitVec.ofInt 64 ((x2).fdiv (2 ^ (min ((1 : Int)).toNat 64))) &&& BitVec.ofInt 64 (3 : Int)).toNat : Int))) x0.words x0.addr x0.start x0.left, true))))
                (.leaf ((Disk.mk x0.drive (!decide ((IntKind.wrap .i64 (((BitVec.ofInt 64 x2 &&& BitVec.ofInt 64 (64 : Int)).toNat : Int))) = (0 : Int))) x0.ready false (IntKind.wrap .i64 (((BitVec.ofInt 64 ((x2).fdiv (2 ^ (min ((1 : Int)).toNat 64))) &&& BitVec.ofInt 64 (3 : Int)).toNat : Int))) x0.words x0.addr x0.start x0.left, true))))
              .fail)
            (.leaf ((Disk.mk x0.drive (!decide ((IntKind.wrap .i64 (((BitVec.ofInt 64 x2 &&& BitVec.ofInt 64 (64 : Int)).toNat : Int))) = (0 : Int))) x0.ready x0.error x0.command x0.words x0.addr x0.start x0.left, true))))
          (.leaf ((Disk.mk x0.drive (!decide ((IntKind.wrap .i64 (((BitVec.ofInt 64 x2 &&& BitVec.ofInt 64 (64 : Int)).toNat : Int))) = (0 : Int))) x0.ready x0.error x0.command x0.words x0.addr x0.start x0.left, true))))
        (.ite (!x0.ready)
          (.leaf ((x0, true)))
          (.ite (decide (x1 = (2 : Int)))
            (.ite (decide (x1 = (4 : Int)))
              (.ite (decide (x1 = (6 : Int)))
                (.leaf ((Disk.mk x0.drive x0.enable x0.ready x0.error x0.command (IntKind.wrap .i64 (((BitVec.ofInt 64 x2 &&& BitVec.ofInt 64 (65535 : Int)).toNat : Int))) (IntKind.wrap .i64 (((BitVec.ofInt 64 x2 &&& BitVec.ofInt 64 (65534 : Int)).toNat : Int))) (IntKind.wrap .i64 (((BitVec.ofInt 64 x2 &&& BitVec.ofInt 64 (65535 : Int)).toNat : Int))) x0.left, true)))
                (.leaf ((Disk.mk x0.drive x0.enable x0.ready x0.error x0.command (IntKind.wrap .i64 (((BitVec.ofInt 64 x2 &&& BitVec.ofInt 64 (65535 : Int)).toNat : Int))) (IntKind.wrap .i64 (((BitVec.ofInt 64 x2 &&& BitVec.ofInt 64 (65534 : Int)).toNat : Int))) x0.start x0.left, true))))
              (.ite (decide (x1 = (6 : Int)))
                (.leaf ((Disk.mk x0.drive x0.enable x0.ready x0.error x0.command (IntKind.wrap .i64 (((BitVec.ofInt 64 x2 &&& BitVec.ofInt 64 (65535 : Int)).toNat : Int))) x0.addr (IntKind.wrap .i64 (((BitVec.ofInt 64 x2 &&& BitVec.ofInt 64 (65535 : Int)).toNat : Int))) x0.left, true)))
                (.leaf ((Disk.mk x0.drive x0.enable x0.ready x0.error x0.command (IntKind.wrap .i64 (((BitVec.ofInt 64 x2 &&& BitVec.ofInt 64 (65535 : Int)).toNat : Int))) x0.addr x0.start x0.left, true)))))
            (.ite (decide (x1 = (4 : Int)))
              (.ite (decide (x1 = (6 : Int)))
                (.leaf ((Disk.mk x0.drive x0.enable x0.ready x0.error x0.command x0.words (IntKind.wrap .i64 (((BitVec.ofInt 64 x2 &&& BitVec.ofInt 64 (65534 : Int)).toNat : Int))) (IntKind.wrap .i64 (((BitVec.ofInt 64 x2 &&& BitVec.ofInt 64 (65535 : Int)).toNat : Int))) x0.left, true)))
                (.leaf ((Disk.mk x0.drive x0.enable x0.ready x0.error x0.command x0.words (IntKind.wrap .i64 (((BitVec.ofInt 64 x2 &&& BitVec.ofInt 64 (65534 : Int)).toNat : Int))) x0.start x0.left, true))))
              (.ite (decide (x1 = (6 : Int)))
                (.leaf ((Disk.mk x0.drive x0.enable x0.ready x0.error x0.command x0.words x0.addr (IntKind.wrap .i64 (((BitVec.ofInt 64 x2 &&& BitVec.ofInt 64 (65535 : Int)).toNat : Int))) x0.left, true)))
                (.leaf ((x0, true)))))))))
    (.ite (decide (x1 = (0 : Int)))
      (.ite (x0.ready)
        (.ite (!decide ((IntKind.wrap .i64 (((BitVec.ofInt 64 x2 &&& BitVec.ofInt 64 (1 : Int)).toNat : Int))) = (0 : Int)))
          (.ite (decide (0 ≤ (1 : Int)))
            (.ite (!decide ((IntKind.wrap .i64 (((BitVec.ofInt 64 ((x2).fdiv (2 ^ (min ((1 : Int)).toNat 64))) &&& BitVec.ofInt 64 (3 : Int)).toNat : Int))) = (0 : Int)))
              (.ite (!decide (x0.words = (0 : Int)))
                (.leaf ((Disk.mk x0.drive (!decide ((IntKind.wrap .i64 (((BitVec.ofInt 64 x2 &&& BitVec.ofInt 64 (64 : Int)).toNat : Int))) = (0 : Int))) false false (IntKind.wrap .i64 (((BitVec.ofInt 64 ((x2).fdiv (2 ^ (min ((1 : Int)).toNat 64))) &&& BitVec.ofInt 64 (3 : Int)).toNat : Int))) x0.words x0.addr x0.start (8 : Int), true)))
                (.leaf ((Disk.mk x0.drive (!decide ((IntKind.wrap .i64 (((BitVec.ofInt 64 x2 &&& BitVec.ofInt 64 (64 : Int)).toNat : Int))) = (0 : Int))) x0.ready false (IntKind.wrap .i64 (((BitVec.ofInt 64 ((x2).fdiv (2 ^ (min ((1 : Int)).toNat 64))) &&& BitVec.ofInt 64 (3 : Int)).toNat : Int))) x0.words x0.addr x0.start x0.left, true))))
              (.leaf ((Disk.mk x0.drive (!decide ((IntKind.wrap .i64 (((BitVec.ofInt 64 x2 &&& BitVec.ofInt 64 (64 : Int)).toNat : Int))) = (0 : Int))) x0.ready false (IntKind.wrap .i64 (((BitVec.ofInt 64 ((x2).fdiv (2 ^ (min ((1 : Int)).toNat 64))) &&& BitVec.ofInt 64 (3 : Int)).toNat : Int))) x0.words x0.addr x0.start x0.left, true))))
            .fail)
          (.leaf ((Disk.mk x0.drive (!decide ((IntKind.wrap .i64 (((BitVec.ofInt 64 x2 &&& BitVec.ofInt 64 (64 : Int)).toNat : Int))) = (0 : Int))) x0.ready x0.error x0.command x0.words x0.addr x0.start x0.left, true))))
        (.leaf ((Disk.mk x0.drive (!decide ((IntKind.wrap .i64 (((BitVec.ofInt 64 x2 &&& BitVec.ofInt 64 (64 : Int)).toNat : Int))) = (0 : Int))) x0.ready x0.error x0.command x0.words x0.addr x0.start x0.left, true))))
      (.ite (!x0.ready)
        (.leaf ((x0, true)))
        (.ite (decide (x1 = (2 : Int)))
          (.ite (decide (x1 = (4 : Int)))
            (.ite (decide (x1 = (6 : Int)))
              (.leaf ((Disk.mk x0.drive x0.enable x0.ready x0.error x0.command (IntKind.wrap .i64 (((BitVec.ofInt 64 x2 &&& BitVec.ofInt 64 (65535 : Int)).toNat : Int))) (IntKind.wrap .i64 (((BitVec.ofInt 64 x2 &&& BitVec.ofInt 64 (65534 : Int)).toNat : Int))) (IntKind.wrap .i64 (((BitVec.ofInt 64 x2 &&& BitVec.ofInt 64 (65535 : Int)).toNat : Int))) x0.left, true)))
              (.leaf ((Disk.mk x0.drive x0.enable x0.ready x0.error x0.command (IntKind.wrap .i64 (((BitVec.ofInt 64 x2 &&& BitVec.ofInt 64 (65535 : Int)).toNat : Int))) (IntKind.wrap .i64 (((BitVec.ofInt 64 x2 &&& BitVec.ofInt 64 (65534 : Int)).toNat : Int))) x0.start x0.left, true))))
            (.ite (decide (x1 = (6 : Int)))
              (.leaf ((Disk.mk x0.drive x0.enable x0.ready x0.error x0.command (IntKind.wrap .i64 (((BitVec.ofInt 64 x2 &&& BitVec.ofInt 64 (65535 : Int)).toNat : Int))) x0.addr (IntKind.wrap .i64 (((BitVec.ofInt 64 x2 &&& BitVec.ofInt 64 (65535 : Int)).toNat : Int))) x0.left, true)))
              (.leaf ((Disk.mk x0.drive x0.enable x0.ready x0.error x0.command (IntKind.wrap .i64 (((BitVec.ofInt 64 x2 &&& BitVec.ofInt 64 (65535 : Int)).toNat : Int))) x0.addr x0.start x0.left, true)))))
          (.ite (decide (x1 = (4 : Int)))
            (.ite (decide (x1 = (6 : Int)))
              (.leaf ((Disk.mk x0.drive x0.enable x0.ready x0.error x0.command x0.words (IntKind.wrap .i64 (((BitVec.ofInt 64 x2 &&& BitVec.ofInt 64 (65534 : Int)).toNat : Int))) (IntKind.wrap .i64 (((BitVec.ofInt 64 x2 &&& BitVec.ofInt 64 (65535 : Int)).toNat : Int))) x0.left, true)))
              (.leaf ((Disk.mk x0.drive x0.enable x0.ready x0.error x0.command x0.words (IntKind.wrap .i64 (((BitVec.ofInt 64 x2 &&& BitVec.ofInt 64 (65534 : Int)).toNat : Int))) x0.start x0.left, true))))
            (.ite (decide (x1 = (6 : Int)))
              (.leaf ((Disk.mk x0.drive x0.enable x0.ready x0.error x0.command x0.words x0.addr (IntKind.wrap .i64 (((BitVec.ofInt 64 x2 &&& BitVec.ofInt 64 (65535 : Int)).toNat : Int))) x0.left, true)))
              (.leaf ((x0, true))))))))
noncomputable def ref16_Write (x0 : Disk) (x1 : Int) (x2 : Int) : Option (Disk × Bool) := (Tref16_Write x0 x1 x2).run
noncomputable def Aref16_Write : Arg U (Disk × Int × Int × Unit) := aA cDisk (aO (cInt .i64) (aO (cInt .i64) (aNil)))
noncomputable def Rref16_Write (r : (Disk × Bool)) : List (V U) × List (Blk U) := ([vA cDisk r.1, vO cBool r.2], [])
noncomputable def Sref16_Write : List (V U) → List (Blk U) → Option (FnOut U) := mkSpec Aref16_Write bNil (fun x _ => ref16_Write x.1 x.2.1 x.2.2.1) Rref16_Write
noncomputable def Eref16_Write : Env U := { P := Try.prog, cd := cd, fns := fns17, lps := noL, frz := fun _r => false, nt := 72, n0 := 0 }
theorem runref16_Write (x : Disk × Int × Int × Unit) (g : Unit) : execF Eref16_Write Try.f19 (Aref16_Write.enc x) (bNil.enc g) = (Tref16_Write x.1 x.2.1 x.2.2.1).map Rref16_Write := by kernel_rfl
theorem okref16_Write : FnOk Try.prog cd 19 Sref16_Write := mk_ok (E := Eref16_Write) cd_ok fns17_ok Try.func19 (by kernel_rfl) (noLoops_body (by kernel_rfl)) (aA_ok cDisk_ok (aO_ok (cInt_ok .i64) (aO_ok (cInt_ok .i64) (aNil_ok)))) bNil_ok (T := fun x _ => Tref16_Write x.1 x.2.1 x.2.2.1) (fun _ _ => rfl) runref16_Write
noncomputable def fns19 := addF 19 true Sref16_Write fns17
theorem fns19_ok : ∀ f q t, fns19 f = some (q, t) → FnOk Try.prog cd f t := addF_ok okref16_Write fns17_ok
/-- emulator/diskctl.Accept -/
noncomputable def Tdiskctl_Accept (x0 : Disk) (x1 : Int) : Tree Disk :=
  .ite (x0.enable)
    (.leaf (Disk.mk x0.drive (!decide (x1 = (160 : Int))) x0.ready x0.error x0.command x0.words x0.addr x0.start x0.left))
    (.leaf (Disk.mk x0.drive false x0.ready x0.error x0.command x0.words x0.addr x0.start x0.left))
noncomputable def diskctl_Accept (x0 : Disk) (x1 : Int) : Option Disk := (Tdiskctl_Accept x0 x1).run
noncomputable def Adiskctl_Accept : Arg U (Disk × Int × Unit) := aA cDisk (aO (cInt .i64) (aNil))
noncomputable def Rdiskctl_Accept (r : Disk) : List (V U) × List (Blk U) := ([vA cDisk r], [])
noncomputable def Sdiskctl_Accept : List (V U) → List (Blk U) → Option (FnOut U) := mkSpec Adiskctl_Accept bNil (fun x _ => diskctl_Accept x.1 x.2.1) Rdiskctl_Accept
noncomputable def Ediskctl_Accept : Env U := { P := Try.prog, cd := cd, fns := fns19, lps := noL, frz := fun _r => false, nt := 13, n0 := 0 }
theorem rundiskctl_Accept (x : Disk × Int × Unit) (g : Unit) : execF Ediskctl_Accept Try.f20 (Adiskctl_Accept.enc x) (bNil.enc g) = (Tdiskctl_Accept x.1 x.2.1).map Rdiskctl_Accept := by kernel_rfl
theorem okdiskctl_Accept : FnOk Try.prog cd 20 Sdiskctl_Accept := mk_ok (E := Ediskctl_Accept) cd_ok fns19_ok Try.func20 (by kernel_rfl) (noLoops_body (by kernel_rfl)) (aA_ok cDisk_ok (aO_ok (cInt_ok .i64) (aNil_ok))) bNil_ok (T := fun x _ => Tdiskctl_Accept x.1 x.2.1) (fun _ _ => rfl) rundiskctl_Accept
noncomputable def fns20 := addF 20 true Sdiskctl_Accept fns19
theorem fns20_ok : ∀ f q t, fns20 f = some (q, t) → FnOk Try.prog cd f t := addF_ok okdiskctl_Accept fns19_ok
/-- emulator/emulatorref16.Accept -/
noncomputable def Tref16_Accept (x0 : Disk) (x1 : Int) : Tree Disk :=
  .ite (decide (x1 = (160 : Int)))
    (.leaf (Disk.mk x0.drive false x0.ready x0.error x0.command x0.words x0.addr x0.start x0.left))
    (.leaf (x0))
noncomputable def ref16_Accept (x0 : Disk) (x1 : Int) : Option Disk := (Tref16_Accept x0 x1).run
noncomputable def Aref16_Accept : Arg U (Disk × Int × Unit) := aA cDisk (aO (cInt .i64) (aNil))
noncomputable def Rref16_Accept (r : Disk) : List (V U) × List (Blk U) := ([vA cDisk r], [])
noncomputable def Sref16_Accept : List (V U) → List (Blk U) → Option (FnOut U) := mkSpec Aref16_Accept bNil (fun x _ => ref16_Accept x.1 x.2.1) Rref16_Accept
noncomputable def Eref16_Accept : Env U := { P := Try.prog, cd := cd, fns := fns20, lps := noL, frz := fun _r => false, nt := 9, n0 := 0 }
theorem runref16_Accept (x : Disk × Int × Unit) (g : Unit) : execF Eref16_Accept Try.f21 (Aref16_Accept.enc x) (bNil.enc g) = (Tref16_Accept x.1 x.2.1).map Rref16_Accept := by kernel_rfl
theorem okref16_Accept : FnOk Try.prog cd 21 Sref16_Accept := mk_ok (E := Eref16_Accept) cd_ok fns20_ok Try.func21 (by kernel_rfl) (noLoops_body (by kernel_rfl)) (aA_ok cDisk_ok (aO_ok (cInt_ok .i64) (aNil_ok))) bNil_ok (T := fun x _ => Tref16_Accept x.1 x.2.1) (fun _ _ => rfl) runref16_Accept
noncomputable def fns21 := addF 21 true Sref16_Accept fns20
theorem fns21_ok : ∀ f q t, fns21 f = some (q, t) → FnOk Try.prog cd f t := addF_ok okref16_Accept fns20_ok
/-- emulator/emulatorref16.Reset -/
noncomputable def Tref16_Reset (x0 : Disk) : Tree Disk :=
  .leaf (Disk.mk x0.drive false true false (0 : Int) x0.words x0.addr x0.start (0 : Int))
noncomputable def ref16_Reset (x0 : Disk) : Option Disk := (Tref16_Reset x0).run
noncomputable def Aref16_Reset : Arg U (Disk × Unit) := aA cDisk (aNil)
noncomputable def Rref16_Reset (r : Disk) : List (V U) × List (Blk U) := ([vA cDisk r], [])
noncomputable def Sref16_Reset : List (V U) → List (Blk U) → Option (FnOut U) := mkSpec Aref16_Reset bNil (fun x _ => ref16_Reset x.1) Rref16_Reset
noncomputable def Eref16_Reset : Env U := { P := Try.prog, cd := cd, fns := fns21, lps := noL, frz := fun _r => false, nt := 9, n0 := 0 }
theorem runref16_Reset (x : Disk × Unit) (g : Unit) : execF Eref16_Reset Try.f22 (Aref16_Reset.enc x) (bNil.enc g) = (Tref16_Reset x.1).map Rref16_Reset := by kernel_rfl
theorem okref16_Reset : FnOk Try.prog cd 22 Sref16_Reset := mk_ok (E := Eref16_Reset) cd_ok fns21_ok Try.func22 (by kernel_rfl) (noLoops_body (by kernel_rfl)) (aA_ok cDisk_ok (aNil_ok)) bNil_ok (T := fun x _ => Tref16_Reset x.1) (fun _ _ => rfl) runref16_Reset
noncomputable def fns22 := addF 22 true Sref16_Reset fns21
theorem fns22_ok : ∀ f q t, fns22 f = some (q, t) → FnOk Try.prog cd f t := addF_ok okref16_Reset fns21_ok
/-- emulator/emulatorlaw16.DiskctlRuns -/
structure Slaw16_DiskctlRuns_1 where
  t10 : (List Int)
  t11 : (List Int)
  t13 : (List Int)
  t14 : (List Int)
  t34 : (List Do)
  t35 : Int
  t36 : Int
  t51 : Int
  t52 : Int
  b0 : Disk
  b1 : Disk
noncomputable def Wlaw16_DiskctlRuns_1 (q : Option Nat) (s : Slaw16_DiskctlRuns_1) : Tree (Slaw16_DiskctlRuns_1 ⊕ ((List Int) × (List Int) × (List Int) × (List Int) × (List Do) × Int × Int × Disk × Disk)) :=
  .ite (decide (s.t52 < s.t51))
    (.opt (Disk × (List Int) × (List Int)) (diskctl_Tick q s.b0 s.t10 s.t11) fun r372 =>
      .opt (Disk × (List Int) × (List Int)) (ref16_Tick q s.b1 s.t13 s.t14) fun r373 =>
        .leaf (.inl (Slaw16_DiskctlRuns_1.mk r372.2.1 r372.2.2 r373.2.1 r373.2.2 s.t34 s.t35 s.t36 s.t51 (IntKind.wrap .i64 (s.t52 + (1 : Int))) r372.1 r373.1)))
    (.leaf (.inr (s.t10, s.t11, s.t13, s.t14, s.t34, s.t35, s.t36, s.b0, s.b1)))
noncomputable def Llaw16_DiskctlRuns_1 (q : Option Nat) (s : Slaw16_DiskctlRuns_1) : Option ((List Int) × (List Int) × (List Int) × (List Int) × (List Do) × Int × Int × Disk × Disk) := limQ q (fun s => (Wlaw16_DiskctlRuns_1 q s).run) s
theorem leLlaw16_DiskctlRuns_1 (k : Nat) (s : Slaw16_DiskctlRuns_1) : Le (Llaw16_DiskctlRuns_1 (some k) s) (Llaw16_DiskctlRuns_1 none s) := limQ_le (fun s => (TLe.ite (TLe.opt (lediskctl_Tick k _ _ _) fun _ => (TLe.opt (leref16_Tick k _ _ _) fun _ => TLe.rfl)) TLe.rfl)) s
structure Slaw16_DiskctlRuns_0 where
  t10 : (List Int)
  t11 : (List Int)
  t13 : (List Int)
  t14 : (List Int)
  t34 : (List Do)
  t35 : Int
  t36 : Int
  b0 : Disk
  b1 : Disk
noncomputable def Wlaw16_DiskctlRuns_0 (q : Option Nat) (s : Slaw16_DiskctlRuns_0) : Tree (Slaw16_DiskctlRuns_0 ⊕ (Bool ⊕ Unit)) :=
  .ite (decide (s.t36 < s.t35))
    (.ite (decide (0 ≤ s.t36))
      (.opt Do (s.t34[(s.t36).toNat]?) fun y371 =>
        .ite (decide (y371.kind = (0 : Int)))
          (.ite (decide ((21 : Int) = 0))
            .fail
            (.opt ((List Int) × (List Int) × (List Int) × (List Int) × (List Do) × Int × Int × Disk × Disk) (Llaw16_DiskctlRuns_1 q (Slaw16_DiskctlRuns_1.mk s.t10 s.t11 s.t13 s.t14 s.t34 s.t35 s.t36 (((IntKind.wrap .i64 (((BitVec.ofInt 64 y371.n &&& BitVec.ofInt 64 (31 : Int)).toNat : Int)))).tmod (21 : Int)) (0 : Int) s.b0 s.b1)) fun l374 =>
              .opt Bool (ref16_SameDisk q l374.2.2.2.2.2.2.2.1 l374.2.2.2.2.2.2.2.2) fun r385 =>
                .ite (!r385)
                  (.leaf (.inr (.inl false)))
                  (.opt Bool (ref16_SameInts q l374.1 l374.2.2.1) fun r386 =>
                    .ite (!r386)
                      (.leaf (.inr (.inl false)))
                      (.opt Bool (ref16_SameInts q l374.2.1 l374.2.2.2.1) fun r387 =>
                        .ite (!r387)
                          (.leaf (.inr (.inl false)))
                          (.leaf (.inl (Slaw16_DiskctlRuns_0.mk l374.1 l374.2.1 l374.2.2.1 l374.2.2.2.1 l374.2.2.2.2.1 l374.2.2.2.2.2.1 (IntKind.wrap .i64 (l374.2.2.2.2.2.2.1 + (1 : Int))) l374.2.2.2.2.2.2.2.1 l374.2.2.2.2.2.2.2.2)))))))
          (.ite (decide ((1 : Int) ≤ y371.kind))
            (.ite (decide (y371.kind ≤ (4 : Int)))
              (.opt (Disk × Bool) (diskctl_Write s.b0 (IntKind.wrap .i64 ((IntKind.wrap .i64 ((2 : Int) * y371.kind)) - (2 : Int))) y371.n) fun r375 =>
                .opt (Disk × Bool) (ref16_Write s.b1 (IntKind.wrap .i64 ((IntKind.wrap .i64 ((2 : Int) * y371.kind)) - (2 : Int))) y371.n) fun r376 =>
                  .opt Bool (ref16_SameDisk q r375.1 r376.1) fun r388 =>
                    .ite (!r388)
                      (.leaf (.inr (.inl false)))
                      (.opt Bool (ref16_SameInts q s.t10 s.t13) fun r389 =>
                        .ite (!r389)
                          (.leaf (.inr (.inl false)))
                          (.opt Bool (ref16_SameInts q s.t11 s.t14) fun r390 =>
                            .ite (!r390)
                              (.leaf (.inr (.inl false)))
                              (.leaf (.inl (Slaw16_DiskctlRuns_0.mk s.t10 s.t11 s.t13 s.t14 s.t34 s.t35 (IntKind.wrap .i64 (s.t36 + (1 : Int))) r375.1 r376.1))))))
              (.ite (decide (y371.kind = (5 : Int)))
                (.opt Disk (diskctl_Accept s.b0 y371.n) fun r377 =>
                  .opt Disk (ref16_Accept s.b1 y371.n) fun r378 =>
                    .opt Bool (ref16_SameDisk q r377 r378) fun r391 =>
                      .ite (!r391)
                        (.leaf (.inr (.inl false)))
                        (.opt Bool (ref16_SameInts q s.t10 s.t13) fun r392 =>
                          .ite (!r392)
                            (.leaf (.inr (.inl false)))
                            (.opt Bool (ref16_SameInts q s.t11 s.t14) fun r393 =>
                              .ite (!r393)
                                (.leaf (.inr (.inl false)))
                                (.leaf (.inl (Slaw16_DiskctlRuns_0.mk s.t10 s.t11 s.t13 s.t14 s.t34 s.t35 (IntKind.wrap .i64 (s.t36 + (1 : Int))) r377 r378))))))
                (.opt Disk (diskctl_Reset s.b0) fun r379 =>
                  .opt Disk (ref16_Reset s.b1) fun r380 =>
                    .opt Bool (ref16_SameDisk q r379 r380) fun r394 =>
                      .ite (!r394)
                        (.leaf (.inr (.inl false)))
                        (.opt Bool (ref16_SameInts q s.t10 s.t13) fun r395 =>
                          .ite (!r395)
                            (.leaf (.inr (.inl false)))
                            (.opt Bool (ref16_SameInts q s.t11 s.t14) fun r396 =>
                              .ite (!r396)
                                (.leaf (.inr (.inl false)))
                                (.leaf (.inl (Slaw16_DiskctlRuns_0.mk s.t10 s.t11 s.t13 s.t14 s.t34 s.t35 (IntKind.wrap .i64 (s.t36 + (1 : Int))) r379 r380))))))))
            (.ite (decide (y371.kind = (5 : Int)))
              (.opt Disk (diskctl_Accept s.b0 y371.n) fun r381 =>
                .opt Disk (ref16_Accept s.b1 y371.n) fun r382 =>
                  .opt Bool (ref16_SameDisk q r381 r382) fun r397 =>
                    .ite (!r397)
                      (.leaf (.inr (.inl false)))
                      (.opt Bool (ref16_SameInts q s.t10 s.t13) fun r398 =>
                        .ite (!r398)
                          (.leaf (.inr (.inl false)))
                          (.opt Bool (ref16_SameInts q s.t11 s.t14) fun r399 =>
                            .ite (!r399)
                              (.leaf (.inr (.inl false)))
                              (.leaf (.inl (Slaw16_DiskctlRuns_0.mk s.t10 s.t11 s.t13 s.t14 s.t34 s.t35 (IntKind.wrap .i64 (s.t36 + (1 : Int))) r381 r382))))))
              (.opt Disk (diskctl_Reset s.b0) fun r383 =>
                .opt Disk (ref16_Reset s.b1) fun r384 =>
                  .opt Bool (ref16_SameDisk q r383 r384) fun r400 =>
                    .ite (!r400)
                      (.leaf (.inr (.inl false)))
                      (.opt Bool (ref16_SameInts q s.t10 s.t13) fun r401 =>
                        .ite (!r401)
                          (.leaf (.inr (.inl false)))
                          (.opt Bool (ref16_SameInts q s.t11 s.t14) fun r402 =>
                            .ite (!r402)
                              (.leaf (.inr (.inl false)))
                              (.leaf (.inl (Slaw16_DiskctlRuns_0.mk s.t10 s.t11 s.t13 s.t14 s.t34 s.t35 (IntKind.wrap .i64 (s.t36 + (1 : Int))) r383 r384)))))))))
      .fail)
    (.leaf (.inr (.inr ())))
noncomputable def Llaw16_DiskctlRuns_0 (q : Option Nat) (s : Slaw16_DiskctlRuns_0) : Option (Bool ⊕ Unit) := limQ q (fun s => (Wlaw16_DiskctlRuns_0 q s).run) s
theorem leLlaw16_DiskctlRuns_0 (k : Nat) (s : Slaw16_DiskctlRuns_0) : Le (Llaw16_DiskctlRuns_0 (some k) s) (Llaw16_DiskctlRuns_0 none s) := limQ_le (fun s => (TLe.ite (TLe.ite (TLe.opt Le.rfl fun _ => (TLe.ite (TLe.ite TLe.rfl (TLe.opt (leLlaw16_DiskctlRuns_1 k _) fun _ => (TLe.opt (leref16_SameDisk k _ _) fun _ => (TLe.ite TLe.rfl (TLe.opt (leref16_SameInts k _ _) fun _ => (TLe.ite TLe.rfl (TLe.opt (leref16_SameInts k _ _) fun _ => TLe.rfl))))))) (TLe.ite (TLe.ite (TLe.opt Le.rfl fun _ => (TLe.opt Le.rfl fun _ => (TLe.opt (leref16_SameDisk k _ _) fun _ => (TLe.ite TLe.rfl (TLe.opt (leref16_SameInts k _ _) fun _ => (TLe.ite TLe.rfl (TLe.opt (leref16_SameInts k _ _) fun _ => TLe.rfl))))))) (TLe.ite (TLe.opt Le.rfl fun _ => (TLe.opt Le.rfl fun _ => (TLe.opt (leref16_SameDisk k _ _) fun _ => (TLe.ite TLe.rfl (TLe.opt (leref16_SameInts k _ _) fun _ => (TLe.ite TLe.rfl (TLe.opt (leref16_SameInts k _ _) fun _ => TLe.rfl))))))) (TLe.opt Le.rfl fun _ => (TLe.opt Le.rfl fun _ => (TLe.opt (leref16_SameDisk k _ _) fun _ => (TLe.ite TLe.rfl (TLe.opt (leref16_SameInts k _ _) fun _ => (TLe.ite TLe.rfl (TLe.opt (leref16_SameInts k _ _) fun _ => TLe.rfl))))))))) (TLe.ite (TLe.opt Le.rfl fun _ => (TLe.opt Le.rfl fun _ => (TLe.opt (leref16_SameDisk k _ _) fun _ => (TLe.ite TLe.rfl (TLe.opt (leref16_SameInts k _ _) fun _ => (TLe.ite TLe.rfl (TLe.opt (leref16_SameInts k _ _) fun _ => TLe.rfl))))))) (TLe.opt Le.rfl fun _ => (TLe.opt Le.rfl fun _ => (TLe.opt (leref16_SameDisk k _ _) fun _ => (TLe.ite TLe.rfl (TLe.opt (leref16_SameInts k _ _) fun _ => (TLe.ite TLe.rfl (TLe.opt (leref16_SameInts k _ _) fun _ => TLe.rfl))))))))))) TLe.rfl) TLe.rfl)) s
noncomputable def Tlaw16_DiskctlRuns (q : Option Nat) (x0 : Disk) (x1 : (List Int)) (x2 : (List Int)) (x3 : (List Do)) : Tree Bool :=
  .opt Bool (law16_few q x0 x1 x2) fun r368 =>
    .ite (!r368)
      (.opt Bool (law16_alive q) fun r369 =>
        .leaf (r369))
      (.ite (decide ((40 : Int) < (x3.length : Int)))
        (.opt Bool (law16_alive q) fun r370 =>
          .leaf (r370))
        (.opt (Bool ⊕ Unit) (Llaw16_DiskctlRuns_0 q (Slaw16_DiskctlRuns_0.mk x1 x2 x1 x2 x3 (x3.length : Int) (0 : Int) x0 x0)) fun l403 =>
          .ite (l403.isLeft)
            (.opt Bool (l403.getLeft?) fun a404 =>
              .leaf (a404))
            (.opt Unit (l403.getRight?) fun b405 =>
              .opt Bool (law16_alive q) fun r406 =>
                .leaf (r406))))
noncomputable def law16_DiskctlRuns (q : Option Nat) (x0 : Disk) (x1 : (List Int)) (x2 : (List Int)) (x3 : (List Do)) : Option Bool := (Tlaw16_DiskctlRuns q x0 x1 x2 x3).run
theorem lelaw16_DiskctlRuns (k : Nat) (x0 : Disk) (x1 : (List Int)) (x2 : (List Int)) (x3 : (List Do)) : Le (law16_DiskctlRuns (some k) x0 x1 x2 x3) (law16_DiskctlRuns none x0 x1 x2 x3) := (TLe.opt (lelaw16_few k _ _ _) fun _ => (TLe.ite (TLe.opt (lelaw16_alive k) fun _ => TLe.rfl) (TLe.ite (TLe.opt (lelaw16_alive k) fun _ => TLe.rfl) (TLe.opt (leLlaw16_DiskctlRuns_0 k _) fun _ => (TLe.ite TLe.rfl (TLe.opt Le.rfl fun _ => (TLe.opt (lelaw16_alive k) fun _ => TLe.rfl)))))))
noncomputable def Alaw16_DiskctlRuns : Arg U (Disk × (List Int) × (List Int) × (List Do) × Unit) := aA cDisk (aO (cSl 3) (aO (cSl 3) (aO (cSl 44) (aNil))))
noncomputable def Rlaw16_DiskctlRuns (r : Bool) : List (V U) × List (Blk U) := ([vO cBool r], [])
noncomputable def Slaw16_DiskctlRuns : List (V U) → List (Blk U) → Option (FnOut U) := mkSpec Alaw16_DiskctlRuns bNil (fun x _ => law16_DiskctlRuns none x.1 x.2.1 x.2.2.1 x.2.2.2.1) Rlaw16_DiskctlRuns
noncomputable def Plaw16_DiskctlRuns_0 (x : (Unit) × ((List Int) × Unit) × ((List Int) × Unit) × (Unit) × ((List Int) × Unit) × ((List Int) × Unit) × ((List Do) × Unit) × (Int × Unit) × (Int × Unit) × Unit) (g : (Disk × Unit) × (Disk × Unit) × Unit) : Slaw16_DiskctlRuns_0 := Slaw16_DiskctlRuns_0.mk x.2.1.1 x.2.2.1.1 x.2.2.2.2.1.1 x.2.2.2.2.2.1.1 x.2.2.2.2.2.2.1.1 x.2.2.2.2.2.2.2.1.1 x.2.2.2.2.2.2.2.2.1.1 g.1.1 g.2.1.1
noncomputable def tAlaw16_DiskctlRuns_0 : Tms U ((Unit) × ((List Int) × Unit) × ((List Int) × Unit) × (Unit) × ((List Int) × Unit) × ((List Int) × Unit) × ((List Do) × Unit) × (Int × Unit) × (Int × Unit) × Unit) := tO 9 (cK (.ptr 0 0) (cUnit)) (tO 10 (cPair (cSl 3) (cUnit)) (tO 11 (cPair (cSl 3) (cUnit)) (tO 12 (cK (.ptr 1 0) (cUnit)) (tO 13 (cPair (cSl 3) (cUnit)) (tO 14 (cPair (cSl 3) (cUnit)) (tO 34 (cPair (cSl 44) (cUnit)) (tO 35 (cPair (cInt .i64) (cUnit)) (tO 36 (cPair (cInt .i64) (cUnit)) (tNil)))))))))
noncomputable def tBlaw16_DiskctlRuns_0 : Bls U ((Disk × Unit) × (Disk × Unit) × Unit) := bC (cPair cDisk (cUnit)) (bC (cPair cDisk (cUnit)) (bNil))
noncomputable def eSlaw16_DiskctlRuns_0 (s : Slaw16_DiskctlRuns_0) : St U := { tm := [(9, .v (vO (cK (.ptr 0 0) (cUnit)) (()))), (10, .v (vO (cPair (cSl 3) (cUnit)) (s.t10, ()))), (11, .v (vO (cPair (cSl 3) (cUnit)) (s.t11, ()))), (12, .v (vO (cK (.ptr 1 0) (cUnit)) (()))), (13, .v (vO (cPair (cSl 3) (cUnit)) (s.t13, ()))), (14, .v (vO (cPair (cSl 3) (cUnit)) (s.t14, ()))), (34, .v (vO (cPair (cSl 44) (cUnit)) (s.t34, ()))), (35, .v (vO (cPair (cInt .i64) (cUnit)) (s.t35, ()))), (36, .v (vO (cPair (cInt .i64) (cUnit)) (s.t36, ())))], hp := [.cells ((cPair cDisk (cUnit) : Cdc U (Disk × Unit)).enc (s.b0, ())) none, .cells ((cPair cDisk (cUnit) : Cdc U (Disk × Unit)).enc (s.b1, ())) none] }
noncomputable def xSlaw16_DiskctlRuns_0 : (Bool ⊕ Unit) → Ex × St U
  | .inl r => (.ret, { tm := [(8, .v (vO (cPair cBool (cUnit)) (r, ())))], hp := [] })
  | .inr r => (.exit 0, { tm := [], hp := [] })
noncomputable def xTlaw16_DiskctlRuns_0 (y : (Bool ⊕ Unit)) : Tree (Ex × St U) := .ite y.isLeft (.opt Bool y.getLeft? fun r => .leaf (.ret, { tm := [(8, .v (vO (cPair cBool (cUnit)) (r, ())))], hp := [] })) (.opt Unit y.getRight? fun r => .leaf (.exit 0, { tm := [], hp := [] }))
noncomputable def hlaw16_DiskctlRuns_0 : Hd := { keep := [9, 10, 11, 12, 13, 14, 34, 35, 36], xkeep := [8], own := false }
noncomputable def Plaw16_DiskctlRuns_1 (x : (Unit) × ((List Int) × Unit) × ((List Int) × Unit) × (Unit) × ((List Int) × Unit) × ((List Int) × Unit) × ((List Do) × Unit) × (Int × Unit) × (Int × Unit) × (Int × Unit) × (Int × Unit) × Unit) (g : (Disk × Unit) × (Disk × Unit) × Unit) : Slaw16_DiskctlRuns_1 := Slaw16_DiskctlRuns_1.mk x.2.1.1 x.2.2.1.1 x.2.2.2.2.1.1 x.2.2.2.2.2.1.1 x.2.2.2.2.2.2.1.1 x.2.2.2.2.2.2.2.1.1 x.2.2.2.2.2.2.2.2.1.1 x.2.2.2.2.2.2.2.2.2.1.1 x.2.2.2.2.2.2.2.2.2.2.1.1 g.1.1 g.2.1.1
noncomputable def tAlaw16_DiskctlRuns_1 : Tms U ((Unit) × ((List Int) × Unit) × ((List Int) × Unit) × (Unit) × ((List Int) × Unit) × ((List Int) × Unit) × ((List Do) × Unit) × (Int × Unit) × (Int × Unit) × (Int × Unit) × (Int × Unit) × Unit) := tO 9 (cK (.ptr 0 0) (cUnit)) (tO 10 (cPair (cSl 3) (cUnit)) (tO 11 (cPair (cSl 3) (cUnit)) (tO 12 (cK (.ptr 1 0) (cUnit)) (tO 13 (cPair (cSl 3) (cUnit)) (tO 14 (cPair (cSl 3) (cUnit)) (tO 34 (cPair (cSl 44) (cUnit)) (tO 35 (cPair (cInt .i64) (cUnit)) (tO 36 (cPair (cInt .i64) (cUnit)) (tO 51 (cPair (cInt .i64) (cUnit)) (tO 52 (cPair (cInt .i64) (cUnit)) (tNil)))))))))))
noncomputable def tBlaw16_DiskctlRuns_1 : Bls U ((Disk × Unit) × (Disk × Unit) × Unit) := bC (cPair cDisk (cUnit)) (bC (cPair cDisk (cUnit)) (bNil))
noncomputable def eSlaw16_DiskctlRuns_1 (s : Slaw16_DiskctlRuns_1) : St U := { tm := [(9, .v (vO (cK (.ptr 0 0) (cUnit)) (()))), (10, .v (vO (cPair (cSl 3) (cUnit)) (s.t10, ()))), (11, .v (vO (cPair (cSl 3) (cUnit)) (s.t11, ()))), (12, .v (vO (cK (.ptr 1 0) (cUnit)) (()))), (13, .v (vO (cPair (cSl 3) (cUnit)) (s.t13, ()))), (14, .v (vO (cPair (cSl 3) (cUnit)) (s.t14, ()))), (34, .v (vO (cPair (cSl 44) (cUnit)) (s.t34, ()))), (35, .v (vO (cPair (cInt .i64) (cUnit)) (s.t35, ()))), (36, .v (vO (cPair (cInt .i64) (cUnit)) (s.t36, ()))), (51, .v (vO (cPair (cInt .i64) (cUnit)) (s.t51, ()))), (52, .v (vO (cPair (cInt .i64) (cUnit)) (s.t52, ())))], hp := [.cells ((cPair cDisk (cUnit) : Cdc U (Disk × Unit)).enc (s.b0, ())) none, .cells ((cPair cDisk (cUnit) : Cdc U (Disk × Unit)).enc (s.b1, ())) none] }
noncomputable def xSlaw16_DiskctlRuns_1 (r : ((List Int) × (List Int) × (List Int) × (List Int) × (List Do) × Int × Int × Disk × Disk)) : Ex × St U := (.exit 3, { tm := [(9, .v (vO (cK (.ptr 0 0) (cUnit)) (()))), (10, .v (vO (cPair (cSl 3) (cUnit)) (r.1, ()))), (11, .v (vO (cPair (cSl 3) (cUnit)) (r.2.1, ()))), (12, .v (vO (cK (.ptr 1 0) (cUnit)) (()))), (13, .v (vO (cPair (cSl 3) (cUnit)) (r.2.2.1, ()))), (14, .v (vO (cPair (cSl 3) (cUnit)) (r.2.2.2.1, ()))), (34, .v (vO (cPair (cSl 44) (cUnit)) (r.2.2.2.2.1, ()))), (35, .v (vO (cPair (cInt .i64) (cUnit)) (r.2.2.2.2.2.1, ()))), (36, .v (vO (cPair (cInt .i64) (cUnit)) (r.2.2.2.2.2.2.1, ())))], hp := [.cells ((cPair cDisk (cUnit) : Cdc U (Disk × Unit)).enc (r.2.2.2.2.2.2.2.1, ())) none, .cells ((cPair cDisk (cUnit) : Cdc U (Disk × Unit)).enc (r.2.2.2.2.2.2.2.2, ())) none] })
noncomputable def xTlaw16_DiskctlRuns_1 (r : ((List Int) × (List Int) × (List Int) × (List Int) × (List Do) × Int × Int × Disk × Disk)) : Tree (Ex × St U) := .leaf (xSlaw16_DiskctlRuns_1 r)
noncomputable def hlaw16_DiskctlRuns_1 : Hd := { keep := [9, 10, 11, 12, 13, 14, 34, 35, 36, 51, 52], xkeep := [8, 9, 10, 11, 12, 13, 14, 34, 35, 36], own := false }
noncomputable def Elaw16_DiskctlRuns : Env U := { P := Try.prog, cd := cd, fns := fns22, lps := (addL 0 hlaw16_DiskctlRuns_0 (mkLoop tAlaw16_DiskctlRuns_0 tBlaw16_DiskctlRuns_0 Plaw16_DiskctlRuns_0 (Llaw16_DiskctlRuns_0 none) xTlaw16_DiskctlRuns_0) (addL 1 hlaw16_DiskctlRuns_1 (mkLoop tAlaw16_DiskctlRuns_1 tBlaw16_DiskctlRuns_1 Plaw16_DiskctlRuns_1 (Llaw16_DiskctlRuns_1 none) xTlaw16_DiskctlRuns_1) noL)), frz := fun _r => false, nt := 132, n0 := 0 }
noncomputable def Blaw16_DiskctlRuns_0 : Code := (loopAt (Try.f5.body.getD .skip) 0 0).getD .skip
theorem roundlaw16_DiskctlRuns_0 (s : Slaw16_DiskctlRuns_0) : round Elaw16_DiskctlRuns hlaw16_DiskctlRuns_0 Blaw16_DiskctlRuns_0 0 (eSlaw16_DiskctlRuns_0 s) = (Wlaw16_DiskctlRuns_0 none s).map (sumE eSlaw16_DiskctlRuns_0 xSlaw16_DiskctlRuns_0) := by kernel_rfl
theorem lplaw16_DiskctlRuns_0 : LpOk Elaw16_DiskctlRuns Blaw16_DiskctlRuns_0 0 := mkLoop_ok (A := tAlaw16_DiskctlRuns_0) (B := tBlaw16_DiskctlRuns_0) (f := Plaw16_DiskctlRuns_0) (L := Llaw16_DiskctlRuns_0 none) (tO_ok (cK_ok cUnit_ok) (tO_ok (cPair_ok (cSl_ok 3) cUnit_ok) (tO_ok (cPair_ok (cSl_ok 3) cUnit_ok) (tO_ok (cK_ok cUnit_ok) (tO_ok (cPair_ok (cSl_ok 3) cUnit_ok) (tO_ok (cPair_ok (cSl_ok 3) cUnit_ok) (tO_ok (cPair_ok (cSl_ok 44) cUnit_ok) (tO_ok (cPair_ok (cInt_ok .i64) cUnit_ok) (tO_ok (cPair_ok (cInt_ok .i64) cUnit_ok) tNil_ok))))))))) (bC_ok (cPair_ok cDisk_ok cUnit_ok) (bC_ok (cPair_ok cDisk_ok cUnit_ok) bNil_ok)) (enc := eSlaw16_DiskctlRuns_0) (out := xTlaw16_DiskctlRuns_0) (outS := xSlaw16_DiskctlRuns_0) (step := Wlaw16_DiskctlRuns_0 none) (fun _ => rfl) (fun _ _ => by kernel_rfl) (by kernel_rfl) (fun b => by cases b <;> rfl) roundlaw16_DiskctlRuns_0
noncomputable def Blaw16_DiskctlRuns_1 : Code := (loopAt (Try.f5.body.getD .skip) 0 1).getD .skip
theorem roundlaw16_DiskctlRuns_1 (s : Slaw16_DiskctlRuns_1) : round Elaw16_DiskctlRuns hlaw16_DiskctlRuns_1 Blaw16_DiskctlRuns_1 1 (eSlaw16_DiskctlRuns_1 s) = (Wlaw16_DiskctlRuns_1 none s).map (sumE eSlaw16_DiskctlRuns_1 xSlaw16_DiskctlRuns_1) := by kernel_rfl
theorem lplaw16_DiskctlRuns_1 : LpOk Elaw16_DiskctlRuns Blaw16_DiskctlRuns_1 1 := mkLoop_ok (A := tAlaw16_DiskctlRuns_1) (B := tBlaw16_DiskctlRuns_1) (f := Plaw16_DiskctlRuns_1) (L := Llaw16_DiskctlRuns_1 none) (tO_ok (cK_ok cUnit_ok) (tO_ok (cPair_ok (cSl_ok 3) cUnit_ok) (tO_ok (cPair_ok (cSl_ok 3) cUnit_ok) (tO_ok (cK_ok cUnit_ok) (tO_ok (cPair_ok (cSl_ok 3) cUnit_ok) (tO_ok (cPair_ok (cSl_ok 3) cUnit_ok) (tO_ok (cPair_ok (cSl_ok 44) cUnit_ok) (tO_ok (cPair_ok (cInt_ok .i64) cUnit_ok) (tO_ok (cPair_ok (cInt_ok .i64) cUnit_ok) (tO_ok (cPair_ok (cInt_ok .i64) cUnit_ok) (tO_ok (cPair_ok (cInt_ok .i64) cUnit_ok) tNil_ok))))))))))) (bC_ok (cPair_ok cDisk_ok cUnit_ok) (bC_ok (cPair_ok cDisk_ok cUnit_ok) bNil_ok)) (enc := eSlaw16_DiskctlRuns_1) (out := xTlaw16_DiskctlRuns_1) (outS := xSlaw16_DiskctlRuns_1) (step := Wlaw16_DiskctlRuns_1 none) (fun _ => rfl) (fun _ _ => by kernel_rfl) (by kernel_rfl) (fun _ => rfl) roundlaw16_DiskctlRuns_1
theorem runlaw16_DiskctlRuns (x : Disk × (List Int) × (List Int) × (List Do) × Unit) (g : Unit) : execF Elaw16_DiskctlRuns Try.f5 (Alaw16_DiskctlRuns.enc x) (bNil.enc g) = (Tlaw16_DiskctlRuns none x.1 x.2.1 x.2.2.1 x.2.2.2.1).map Rlaw16_DiskctlRuns := by kernel_rfl
theorem oklaw16_DiskctlRuns : FnOk Try.prog cd 5 Slaw16_DiskctlRuns := mk_ok (E := Elaw16_DiskctlRuns) cd_ok fns22_ok Try.func5 (by kernel_rfl) (loops_of (addL_ok lplaw16_DiskctlRuns_0 (addL_ok lplaw16_DiskctlRuns_1 noL_ok))) (aA_ok cDisk_ok (aO_ok (cSl_ok 3) (aO_ok (cSl_ok 3) (aO_ok (cSl_ok 44) (aNil_ok))))) bNil_ok (T := fun x _ => Tlaw16_DiskctlRuns none x.1 x.2.1 x.2.2.1 x.2.2.2.1) (fun _ _ => rfl) runlaw16_DiskctlRuns
noncomputable def fns5 := addF 5 true Slaw16_DiskctlRuns fns22
theorem fns5_ok : ∀ f q t, fns5 f = some (q, t) → FnOk Try.prog cd f t := addF_ok oklaw16_DiskctlRuns fns22_ok
/-- emulator/drive.Right -/
structure Sdrive_Right_0 where
  t19 : (List (List UInt8))
  t20 : Int
  t21 : Int
  b0 : Drive
noncomputable def Wdrive_Right_0 (s : Sdrive_Right_0) : Tree (Sdrive_Right_0 ⊕ ((Bool × Drive) ⊕ Drive)) :=
  .ite (decide (s.t21 < s.t20))
    (.ite (decide (0 ≤ s.t21))
      (.opt (List UInt8) (s.t19[(s.t21).toNat]?) fun y407 =>
        .ite (!decide ((y407.length : Int) = (128 : Int)))
          (.leaf (.inr (.inl (false, s.b0))))
          (.leaf (.inl (Sdrive_Right_0.mk s.t19 s.t20 (IntKind.wrap .i64 (s.t21 + (1 : Int))) s.b0))))
      .fail)
    (.leaf (.inr (.inr s.b0)))
noncomputable def Ldrive_Right_0 (q : Option Nat) (s : Sdrive_Right_0) : Option ((Bool × Drive) ⊕ Drive) := limQ q (fun s => (Wdrive_Right_0 s).run) s
theorem leLdrive_Right_0 (k : Nat) (s : Sdrive_Right_0) : Le (Ldrive_Right_0 (some k) s) (Ldrive_Right_0 none s) := limQ_le (fun _ => Le.rfl) s
structure Sdrive_Right_1 where
  t5 : Int
  t30 : (List Int)
  t31 : Int
  t32 : Int
  b0 : Drive
noncomputable def Wdrive_Right_1 (s : Sdrive_Right_1) : Tree (Sdrive_Right_1 ⊕ (Bool ⊕ Unit)) :=
  .ite (decide (s.t32 < s.t31))
    (.ite (decide (0 ≤ s.t32))
      (.opt Int (s.t30[(s.t32).toNat]?) fun y411 =>
        .ite (decide (y411 ≤ s.t5))
          (.leaf (.inr (.inl false)))
          (.ite (decide ((s.b0.sectors.length : Int) ≤ y411))
            (.leaf (.inr (.inl false)))
            (.leaf (.inl (Sdrive_Right_1.mk y411 s.t30 s.t31 (IntKind.wrap .i64 (s.t32 + (1 : Int))) s.b0)))))
      .fail)
    (.leaf (.inr (.inr ())))
noncomputable def Ldrive_Right_1 (q : Option Nat) (s : Sdrive_Right_1) : Option (Bool ⊕ Unit) := limQ q (fun s => (Wdrive_Right_1 s).run) s
theorem leLdrive_Right_1 (k : Nat) (s : Sdrive_Right_1) : Le (Ldrive_Right_1 (some k) s) (Ldrive_Right_1 none s) := limQ_le (fun _ => Le.rfl) s
noncomputable def Tdrive_Right (q : Option Nat) (x0 : Drive) : Tree Bool :=
  .ite (decide ((x0.sectors.length : Int) < (1 : Int)))
    (.leaf (false))
    (.ite (decide ((256 : Int) < (x0.sectors.length : Int)))
      (.leaf (false))
      (.opt ((Bool × Drive) ⊕ Drive) (Ldrive_Right_0 q (Sdrive_Right_0.mk x0.sectors (x0.sectors.length : Int) (0 : Int) x0)) fun l408 =>
        .ite (l408.isLeft)
          (.opt (Bool × Drive) (l408.getLeft?) fun a409 =>
            .leaf (a409.1))
          (.opt Drive (l408.getRight?) fun b410 =>
            .opt (Bool ⊕ Unit) (Ldrive_Right_1 q (Sdrive_Right_1.mk (-1 : Int) b410.bad (b410.bad.length : Int) (0 : Int) b410)) fun l412 =>
              .ite (l412.isLeft)
                (.opt Bool (l412.getLeft?) fun a413 =>
                  .leaf (a413))
                (.opt Unit (l412.getRight?) fun b414 =>
                  .leaf (true)))))
noncomputable def drive_Right (q : Option Nat) (x0 : Drive) : Option Bool := (Tdrive_Right q x0).run
theorem ledrive_Right (k : Nat) (x0 : Drive) : Le (drive_Right (some k) x0) (drive_Right none x0) := (TLe.ite TLe.rfl (TLe.ite TLe.rfl (TLe.opt (leLdrive_Right_0 k _) fun _ => (TLe.ite TLe.rfl (TLe.opt Le.rfl fun _ => (TLe.opt (leLdrive_Right_1 k _) fun _ => TLe.rfl))))))
noncomputable def Adrive_Right : Arg U (Drive × Unit) := aA cDrive (aNil)
noncomputable def Rdrive_Right (r : Bool) : List (V U) × List (Blk U) := ([vO cBool r], [])
noncomputable def Sdrive_Right : List (V U) → List (Blk U) → Option (FnOut U) := mkSpec Adrive_Right bNil (fun x _ => drive_Right none x.1) Rdrive_Right
noncomputable def Pdrive_Right_0 (x : (Unit) × ((List (List UInt8)) × Unit) × (Int × Unit) × (Int × Unit) × Unit) (g : (Drive × Unit) × Unit) : Sdrive_Right_0 := Sdrive_Right_0.mk x.2.1.1 x.2.2.1.1 x.2.2.2.1.1 g.1.1
noncomputable def tAdrive_Right_0 : Tms U ((Unit) × ((List (List UInt8)) × Unit) × (Int × Unit) × (Int × Unit) × Unit) := tO 1 (cK (.ptr 0 0) (cUnit)) (tO 19 (cPair (cSl 9) (cUnit)) (tO 20 (cPair (cInt .i64) (cUnit)) (tO 21 (cPair (cInt .i64) (cUnit)) (tNil))))
noncomputable def tBdrive_Right_0 : Bls U ((Drive × Unit) × Unit) := bC (cPair cDrive (cUnit)) (bNil)
noncomputable def eSdrive_Right_0 (s : Sdrive_Right_0) : St U := { tm := [(1, .v (vO (cK (.ptr 0 0) (cUnit)) (()))), (19, .v (vO (cPair (cSl 9) (cUnit)) (s.t19, ()))), (20, .v (vO (cPair (cInt .i64) (cUnit)) (s.t20, ()))), (21, .v (vO (cPair (cInt .i64) (cUnit)) (s.t21, ())))], hp := [.cells ((cPair cDrive (cUnit) : Cdc U (Drive × Unit)).enc (s.b0, ())) none] }
noncomputable def xSdrive_Right_0 : ((Bool × Drive) ⊕ Drive) → Ex × St U
  | .inl r => (.ret, { tm := [(1, .v (vO (cK (.ptr 0 0) (cUnit)) (()))), (2, .v (vO (cPair cBool (cUnit)) (r.1, ())))], hp := [.cells ((cPair cDrive (cUnit) : Cdc U (Drive × Unit)).enc (r.2, ())) none] })
  | .inr r => (.exit 0, { tm := [(1, .v (vO (cK (.ptr 0 0) (cUnit)) (())))], hp := [.cells ((cPair cDrive (cUnit) : Cdc U (Drive × Unit)).enc (r, ())) none] })
noncomputable def xTdrive_Right_0 (y : ((Bool × Drive) ⊕ Drive)) : Tree (Ex × St U) := .ite y.isLeft (.opt (Bool × Drive) y.getLeft? fun r => .leaf (.ret, { tm := [(1, .v (vO (cK (.ptr 0 0) (cUnit)) (()))), (2, .v (vO (cPair cBool (cUnit)) (r.1, ())))], hp := [.cells ((cPair cDrive (cUnit) : Cdc U (Drive × Unit)).enc (r.2, ())) none] })) (.opt Drive y.getRight? fun r => .leaf (.exit 0, { tm := [(1, .v (vO (cK (.ptr 0 0) (cUnit)) (())))], hp := [.cells ((cPair cDrive (cUnit) : Cdc U (Drive × Unit)).enc (r, ())) none] }))
noncomputable def hdrive_Right_0 : Hd := { keep := [1, 19, 20, 21], xkeep := [1, 2], own := false }
noncomputable def Pdrive_Right_1 (x : (Unit) × (Int × Unit) × ((List Int) × Unit) × (Int × Unit) × (Int × Unit) × Unit) (g : (Drive × Unit) × Unit) : Sdrive_Right_1 := Sdrive_Right_1.mk x.2.1.1 x.2.2.1.1 x.2.2.2.1.1 x.2.2.2.2.1.1 g.1.1
noncomputable def tAdrive_Right_1 : Tms U ((Unit) × (Int × Unit) × ((List Int) × Unit) × (Int × Unit) × (Int × Unit) × Unit) := tO 1 (cK (.ptr 0 0) (cUnit)) (tO 5 (cPair (cInt .i64) (cUnit)) (tO 30 (cPair (cSl 3) (cUnit)) (tO 31 (cPair (cInt .i64) (cUnit)) (tO 32 (cPair (cInt .i64) (cUnit)) (tNil)))))
noncomputable def tBdrive_Right_1 : Bls U ((Drive × Unit) × Unit) := bC (cPair cDrive (cUnit)) (bNil)
noncomputable def eSdrive_Right_1 (s : Sdrive_Right_1) : St U := { tm := [(1, .v (vO (cK (.ptr 0 0) (cUnit)) (()))), (5, .v (vO (cPair (cInt .i64) (cUnit)) (s.t5, ()))), (30, .v (vO (cPair (cSl 3) (cUnit)) (s.t30, ()))), (31, .v (vO (cPair (cInt .i64) (cUnit)) (s.t31, ()))), (32, .v (vO (cPair (cInt .i64) (cUnit)) (s.t32, ())))], hp := [.cells ((cPair cDrive (cUnit) : Cdc U (Drive × Unit)).enc (s.b0, ())) none] }
noncomputable def xSdrive_Right_1 : (Bool ⊕ Unit) → Ex × St U
  | .inl r => (.ret, { tm := [(2, .v (vO (cPair cBool (cUnit)) (r, ())))], hp := [] })
  | .inr r => (.exit 2, { tm := [], hp := [] })
noncomputable def xTdrive_Right_1 (y : (Bool ⊕ Unit)) : Tree (Ex × St U) := .ite y.isLeft (.opt Bool y.getLeft? fun r => .leaf (.ret, { tm := [(2, .v (vO (cPair cBool (cUnit)) (r, ())))], hp := [] })) (.opt Unit y.getRight? fun r => .leaf (.exit 2, { tm := [], hp := [] }))
noncomputable def hdrive_Right_1 : Hd := { keep := [1, 5, 30, 31, 32], xkeep := [2], own := false }
noncomputable def Edrive_Right : Env U := { P := Try.prog, cd := cd, fns := fns5, lps := (addL 0 hdrive_Right_0 (mkLoop tAdrive_Right_0 tBdrive_Right_0 Pdrive_Right_0 (Ldrive_Right_0 none) xTdrive_Right_0) (addL 1 hdrive_Right_1 (mkLoop tAdrive_Right_1 tBdrive_Right_1 Pdrive_Right_1 (Ldrive_Right_1 none) xTdrive_Right_1) noL)), frz := fun _r => false, nt := 48, n0 := 0 }
noncomputable def Bdrive_Right_0 : Code := (loopAt (Try.f43.body.getD .skip) 0 0).getD .skip
theorem rounddrive_Right_0 (s : Sdrive_Right_0) : round Edrive_Right hdrive_Right_0 Bdrive_Right_0 0 (eSdrive_Right_0 s) = (Wdrive_Right_0 s).map (sumE eSdrive_Right_0 xSdrive_Right_0) := by kernel_rfl
theorem lpdrive_Right_0 : LpOk Edrive_Right Bdrive_Right_0 0 := mkLoop_ok (A := tAdrive_Right_0) (B := tBdrive_Right_0) (f := Pdrive_Right_0) (L := Ldrive_Right_0 none) (tO_ok (cK_ok cUnit_ok) (tO_ok (cPair_ok (cSl_ok 9) cUnit_ok) (tO_ok (cPair_ok (cInt_ok .i64) cUnit_ok) (tO_ok (cPair_ok (cInt_ok .i64) cUnit_ok) tNil_ok)))) (bC_ok (cPair_ok cDrive_ok cUnit_ok) bNil_ok) (enc := eSdrive_Right_0) (out := xTdrive_Right_0) (outS := xSdrive_Right_0) (step := Wdrive_Right_0) (fun _ => rfl) (fun _ _ => by kernel_rfl) (by kernel_rfl) (fun b => by cases b <;> rfl) rounddrive_Right_0
noncomputable def Bdrive_Right_1 : Code := (loopAt (Try.f43.body.getD .skip) 0 1).getD .skip
theorem rounddrive_Right_1 (s : Sdrive_Right_1) : round Edrive_Right hdrive_Right_1 Bdrive_Right_1 1 (eSdrive_Right_1 s) = (Wdrive_Right_1 s).map (sumE eSdrive_Right_1 xSdrive_Right_1) := by kernel_rfl
theorem lpdrive_Right_1 : LpOk Edrive_Right Bdrive_Right_1 1 := mkLoop_ok (A := tAdrive_Right_1) (B := tBdrive_Right_1) (f := Pdrive_Right_1) (L := Ldrive_Right_1 none) (tO_ok (cK_ok cUnit_ok) (tO_ok (cPair_ok (cInt_ok .i64) cUnit_ok) (tO_ok (cPair_ok (cSl_ok 3) cUnit_ok) (tO_ok (cPair_ok (cInt_ok .i64) cUnit_ok) (tO_ok (cPair_ok (cInt_ok .i64) cUnit_ok) tNil_ok))))) (bC_ok (cPair_ok cDrive_ok cUnit_ok) bNil_ok) (enc := eSdrive_Right_1) (out := xTdrive_Right_1) (outS := xSdrive_Right_1) (step := Wdrive_Right_1) (fun _ => rfl) (fun _ _ => by kernel_rfl) (by kernel_rfl) (fun b => by cases b <;> rfl) rounddrive_Right_1
theorem rundrive_Right (x : Drive × Unit) (g : Unit) : execF Edrive_Right Try.f43 (Adrive_Right.enc x) (bNil.enc g) = (Tdrive_Right none x.1).map Rdrive_Right := by kernel_rfl
theorem okdrive_Right : FnOk Try.prog cd 43 Sdrive_Right := mk_ok (E := Edrive_Right) cd_ok fns5_ok Try.func43 (by kernel_rfl) (loops_of (addL_ok lpdrive_Right_0 (addL_ok lpdrive_Right_1 noL_ok))) (aA_ok cDrive_ok (aNil_ok)) bNil_ok (T := fun x _ => Tdrive_Right none x.1) (fun _ _ => rfl) rundrive_Right
noncomputable def fns43 := addF 43 true Sdrive_Right fns5
theorem fns43_ok : ∀ f q t, fns43 f = some (q, t) → FnOk Try.prog cd f t := addF_ok okdrive_Right fns5_ok
/-- emulator/diskctl.isWord -/
noncomputable def Tdiskctl_isWord (x0 : Int) : Tree Bool :=
  .leaf (decide ((IntKind.wrap .i64 (((BitVec.ofInt 64 x0 &&& BitVec.ofInt 64 (65535 : Int)).toNat : Int))) = x0))
noncomputable def diskctl_isWord (x0 : Int) : Option Bool := (Tdiskctl_isWord x0).run
noncomputable def Adiskctl_isWord : Arg U (Int × Unit) := aO (cInt .i64) (aNil)
noncomputable def Rdiskctl_isWord (r : Bool) : List (V U) × List (Blk U) := ([vO cBool r], [])
noncomputable def Sdiskctl_isWord : List (V U) → List (Blk U) → Option (FnOut U) := mkSpec Adiskctl_isWord bNil (fun x _ => diskctl_isWord x.1) Rdiskctl_isWord
noncomputable def Ediskctl_isWord : Env U := { P := Try.prog, cd := cd, fns := fns43, lps := noL, frz := fun _r => false, nt := 7, n0 := 0 }
theorem rundiskctl_isWord (x : Int × Unit) (g : Unit) : execF Ediskctl_isWord Try.f44 (Adiskctl_isWord.enc x) (bNil.enc g) = (Tdiskctl_isWord x.1).map Rdiskctl_isWord := by kernel_rfl
theorem okdiskctl_isWord : FnOk Try.prog cd 44 Sdiskctl_isWord := mk_ok (E := Ediskctl_isWord) cd_ok fns43_ok Try.func44 (by kernel_rfl) (noLoops_body (by kernel_rfl)) (aO_ok (cInt_ok .i64) (aNil_ok)) bNil_ok (T := fun x _ => Tdiskctl_isWord x.1) (fun _ _ => rfl) rundiskctl_isWord
noncomputable def fns44 := addF 44 true Sdiskctl_isWord fns43
theorem fns44_ok : ∀ f q t, fns44 f = some (q, t) → FnOk Try.prog cd f t := addF_ok okdiskctl_isWord fns43_ok
/-- emulator/diskctl.Right -/
noncomputable def Tdiskctl_Right (q : Option Nat) (x0 : Disk) : Tree Bool :=
  .opt Bool (drive_Right q x0.drive) fun r415 =>
    .ite (!r415)
      (.leaf (false))
      (.ite (decide (x0.command < (0 : Int)))
        (.leaf (false))
        (.ite (decide ((3 : Int) < x0.command))
          (.leaf (false))
          (.opt Bool (diskctl_isWord x0.words) fun r416 =>
            .ite (!r416)
              (.leaf (false))
              (.opt Bool (diskctl_isWord x0.addr) fun r417 =>
                .ite (!r417)
                  (.leaf (false))
                  (.opt Bool (diskctl_isWord x0.start) fun r418 =>
                    .ite (!r418)
                      (.leaf (false))
                      (.ite (decide ((2 : Int) = 0))
                        .fail
                        (.ite (decide (((x0.addr).tmod (2 : Int)) = (1 : Int)))
                          (.leaf (false))
                          (.ite (decide (x0.left < (0 : Int)))
                            (.leaf (false))
                            (.ite (decide ((8 : Int) < x0.left))
                              (.leaf (false))
                              (.ite (!(x0.ready == (decide (x0.left = (0 : Int)))))
                                (.leaf (false))
                                (.ite (decide (x0.left = (0 : Int)))
                                  (.leaf (true))
                                  (.ite (!decide (x0.command = (0 : Int)))
                                    (.leaf (!decide (x0.words = (0 : Int))))
                                    (.leaf (false))))))))))))))
noncomputable def diskctl_Right (q : Option Nat) (x0 : Disk) : Option Bool := (Tdiskctl_Right q x0).run
theorem lediskctl_Right (k : Nat) (x0 : Disk) : Le (diskctl_Right (some k) x0) (diskctl_Right none x0) := (TLe.opt (ledrive_Right k _) fun _ => TLe.rfl)
noncomputable def Adiskctl_Right : Arg U (Disk × Unit) := aA cDisk (aNil)
noncomputable def Rdiskctl_Right (r : Bool) : List (V U) × List (Blk U) := ([vO cBool r], [])
noncomputable def Sdiskctl_Right : List (V U) → List (Blk U) → Option (FnOut U) := mkSpec Adiskctl_Right bNil (fun x _ => diskctl_Right none x.1) Rdiskctl_Right
noncomputable def Ediskctl_Right : Env U := { P := Try.prog, cd := cd, fns := fns44, lps := noL, frz := fun _r => false, nt := 70, n0 := 0 }
theorem rundiskctl_Right (x : Disk × Unit) (g : Unit) : execF Ediskctl_Right Try.f23 (Adiskctl_Right.enc x) (bNil.enc g) = (Tdiskctl_Right none x.1).map Rdiskctl_Right := by kernel_rfl
theorem okdiskctl_Right : FnOk Try.prog cd 23 Sdiskctl_Right := mk_ok (E := Ediskctl_Right) cd_ok fns44_ok Try.func23 (by kernel_rfl) (noLoops_body (by kernel_rfl)) (aA_ok cDisk_ok (aNil_ok)) bNil_ok (T := fun x _ => Tdiskctl_Right none x.1) (fun _ _ => rfl) rundiskctl_Right
noncomputable def fns23 := addF 23 true Sdiskctl_Right fns44
theorem fns23_ok : ∀ f q t, fns23 f = some (q, t) → FnOk Try.prog cd f t := addF_ok okdiskctl_Right fns44_ok
/-- emulator/emulatorlaw16.DiskctlTicks -/
structure Slaw16_DiskctlTicks_0 where
  t1 : (List Int)
  t2 : (List Int)
  t11 : (List Int)
  t12 : (List Int)
  t14 : (List Int)
  t15 : (List Int)
  t51 : Int
  t52 : Int
  b0 : Disk
  b1 : (List Int)
  b2 : (List Int)
  b3 : (List (List UInt8))
  b4 : Disk
  b5 : Disk
noncomputable def Wlaw16_DiskctlTicks_0 (s : Slaw16_DiskctlTicks_0) : Tree (Slaw16_DiskctlTicks_0 ⊕ (((List Int) × (List Int) × Bool × (List Int) × (List Int) × (List Int) × (List Int) × (List Int) × (List Int) × Disk × Disk) ⊕ ((List Int) × (List Int) × (List Int) × (List Int) × (List Int) × (List Int) × (List Int) × (List Int) × Disk × Disk))) :=
  .ite (decide (s.t52 < s.t51))
    (.ite (decide (0 ≤ s.t52))
      (.opt (List UInt8) (s.b0.drive.sectors[(s.t52).toNat]?) fun y435 =>
        .ite (decide (0 ≤ s.t52))
          (.ite (decide (s.t52 < (s.b3.length : Int)))
            (.opt (List UInt8) (s.b3[(s.t52).toNat]?) fun y436 =>
              .ite (!decide (y435 = y436))
                (.leaf (.inr (.inl (s.t1, s.t2, false, s.t11, s.t12, s.t14, s.t15, s.b1, s.b2, s.b4, s.b5))))
                (.leaf (.inl (Slaw16_DiskctlTicks_0.mk s.t1 s.t2 s.t11 s.t12 s.t14 s.t15 s.t51 (IntKind.wrap .i64 (s.t52 + (1 : Int))) s.b0 s.b1 s.b2 s.b3 s.b4 s.b5))))
            .fail)
          .fail)
      .fail)
    (.leaf (.inr (.inr (s.t1, s.t2, s.t11, s.t12, s.t14, s.t15, s.b1, s.b2, s.b4, s.b5))))
noncomputable def Llaw16_DiskctlTicks_0 (q : Option Nat) (s : Slaw16_DiskctlTicks_0) : Option (((List Int) × (List Int) × Bool × (List Int) × (List Int) × (List Int) × (List Int) × (List Int) × (List Int) × Disk × Disk) ⊕ ((List Int) × (List Int) × (List Int) × (List Int) × (List Int) × (List Int) × (List Int) × (List Int) × Disk × Disk)) := limQ q (fun s => (Wlaw16_DiskctlTicks_0 s).run) s
theorem leLlaw16_DiskctlTicks_0 (k : Nat) (s : Slaw16_DiskctlTicks_0) : Le (Llaw16_DiskctlTicks_0 (some k) s) (Llaw16_DiskctlTicks_0 none s) := limQ_le (fun _ => Le.rfl) s
noncomputable def Tlaw16_DiskctlTicks (q : Option Nat) (x0 : Disk) (x1 : (List Int)) (x2 : (List Int)) : Tree Bool :=
  .opt Bool (law16_few q x0 x1 x2) fun r431 =>
    .ite (!r431)
      (.opt Bool (law16_alive q) fun r432 =>
        .leaf (r432))
      (.ite (decide ((([] : List Int).length + x1.length) * 8 ≤ 140737488355328))
        (.ite (decide ((([] : List Int).length + x2.length) * 8 ≤ 140737488355328))
          (.ite (decide ((([] : List (List UInt8)).length + x0.drive.sectors.length) * 16 ≤ 140737488355328))
            (.opt (Disk × (List Int) × (List Int)) (diskctl_Tick q x0 x1 x2) fun r433 =>
              .opt (Disk × (List Int) × (List Int)) (ref16_Tick q x0 x1 x2) fun r434 =>
                .opt (((List Int) × (List Int) × Bool × (List Int) × (List Int) × (List Int) × (List Int) × (List Int) × (List Int) × Disk × Disk) ⊕ ((List Int) × (List Int) × (List Int) × (List Int) × (List Int) × (List Int) × (List Int) × (List Int) × Disk × Disk)) (Llaw16_DiskctlTicks_0 q (Slaw16_DiskctlTicks_0.mk x1 x2 r433.2.1 r433.2.2 r434.2.1 r434.2.2 ((([] : List (List UInt8)) ++ x0.drive.sectors).length : Int) (0 : Int) x0 (([] : List Int) ++ x1) (([] : List Int) ++ x2) (([] : List (List UInt8)) ++ x0.drive.sectors) r433.1 r434.1)) fun l437 =>
                  .ite (l437.isLeft)
                    (.opt ((List Int) × (List Int) × Bool × (List Int) × (List Int) × (List Int) × (List Int) × (List Int) × (List Int) × Disk × Disk) (l437.getLeft?) fun a438 =>
                      .leaf (a438.2.2.1))
                    (.opt ((List Int) × (List Int) × (List Int) × (List Int) × (List Int) × (List Int) × (List Int) × (List Int) × Disk × Disk) (l437.getRight?) fun b439 =>
                      .opt Bool (ref16_SameDisk q b439.2.2.2.2.2.2.2.2.1 b439.2.2.2.2.2.2.2.2.2) fun r440 =>
                        .ite (r440)
                          (.opt Bool (ref16_SameInts q b439.2.2.1 b439.2.2.2.2.1) fun r441 =>
                            .ite (r441)
                              (.opt Bool (ref16_SameInts q b439.2.2.2.1 b439.2.2.2.2.2.1) fun r442 =>
                                .ite (r442)
                                  (.opt Bool (ref16_SameInts q b439.1 b439.2.2.2.2.2.2.1) fun r443 =>
                                    .ite (r443)
                                      (.opt Bool (ref16_SameInts q b439.2.1 b439.2.2.2.2.2.2.2.1) fun r444 =>
                                        .ite (r444)
                                          (.opt Bool (diskctl_Right q b439.2.2.2.2.2.2.2.2.1) fun r445 =>
                                            .ite (r445)
                                              (.opt Bool (law16_alive q) fun r446 =>
                                                .leaf (r446))
                                              (.leaf (false)))
                                          (.leaf (false)))
                                      (.leaf (false)))
                                  (.leaf (false)))
                              (.leaf (false)))
                          (.leaf (false))))
            .fail)
          .fail)
        .fail)
noncomputable def law16_DiskctlTicks (q : Option Nat) (x0 : Disk) (x1 : (List Int)) (x2 : (List Int)) : Option Bool := (Tlaw16_DiskctlTicks q x0 x1 x2).run
theorem lelaw16_DiskctlTicks (k : Nat) (x0 : Disk) (x1 : (List Int)) (x2 : (List Int)) : Le (law16_DiskctlTicks (some k) x0 x1 x2) (law16_DiskctlTicks none x0 x1 x2) := (TLe.opt (lelaw16_few k _ _ _) fun _ => (TLe.ite (TLe.opt (lelaw16_alive k) fun _ => TLe.rfl) (TLe.ite (TLe.ite (TLe.ite (TLe.opt (lediskctl_Tick k _ _ _) fun _ => (TLe.opt (leref16_Tick k _ _ _) fun _ => (TLe.opt (leLlaw16_DiskctlTicks_0 k _) fun _ => (TLe.ite TLe.rfl (TLe.opt Le.rfl fun _ => (TLe.opt (leref16_SameDisk k _ _) fun _ => (TLe.ite (TLe.opt (leref16_SameInts k _ _) fun _ => (TLe.ite (TLe.opt (leref16_SameInts k _ _) fun _ => (TLe.ite (TLe.opt (leref16_SameInts k _ _) fun _ => (TLe.ite (TLe.opt (leref16_SameInts k _ _) fun _ => (TLe.ite (TLe.opt (lediskctl_Right k _) fun _ => (TLe.ite (TLe.opt (lelaw16_alive k) fun _ => TLe.rfl) TLe.rfl)) TLe.rfl)) TLe.rfl)) TLe.rfl)) TLe.rfl)) TLe.rfl))))))) TLe.rfl) TLe.rfl) TLe.rfl)))
noncomputable def Alaw16_DiskctlTicks : Arg U (Disk × (List Int) × (List Int) × Unit) := aA cDisk (aO (cSl 3) (aO (cSl 3) (aNil)))
noncomputable def Rlaw16_DiskctlTicks (r : Bool) : List (V U) × List (Blk U) := ([vO cBool r], [])
noncomputable def Slaw16_DiskctlTicks : List (V U) → List (Blk U) → Option (FnOut U) := mkSpec Alaw16_DiskctlTicks bNil (fun x _ => law16_DiskctlTicks none x.1 x.2.1 x.2.2.1) Rlaw16_DiskctlTicks
noncomputable def Plaw16_DiskctlTicks_0 (x : ((List Int) × Unit) × ((List Int) × Unit) × (Unit) × (Unit) × (Unit) × (Unit) × (Unit) × ((List Int) × Unit) × ((List Int) × Unit) × (Unit) × ((List Int) × Unit) × ((List Int) × Unit) × (Int × Unit) × (Int × Unit) × Unit) (g : (Disk × Unit) × (List Int) × (List Int) × (List (List UInt8)) × (Disk × Unit) × (Disk × Unit) × Unit) : Slaw16_DiskctlTicks_0 := Slaw16_DiskctlTicks_0.mk x.1.1 x.2.1.1 x.2.2.2.2.2.2.2.1.1 x.2.2.2.2.2.2.2.2.1.1 x.2.2.2.2.2.2.2.2.2.2.1.1 x.2.2.2.2.2.2.2.2.2.2.2.1.1 x.2.2.2.2.2.2.2.2.2.2.2.2.1.1 x.2.2.2.2.2.2.2.2.2.2.2.2.2.1.1 g.1.1 g.2.1 g.2.2.1 g.2.2.2.1 g.2.2.2.2.1.1 g.2.2.2.2.2.1.1
noncomputable def tAlaw16_DiskctlTicks_0 : Tms U (((List Int) × Unit) × ((List Int) × Unit) × (Unit) × (Unit) × (Unit) × (Unit) × (Unit) × ((List Int) × Unit) × ((List Int) × Unit) × (Unit) × ((List Int) × Unit) × ((List Int) × Unit) × (Int × Unit) × (Int × Unit) × Unit) := tO 1 (cPair (cSl 3) (cUnit)) (tO 2 (cPair (cSl 3) (cUnit)) (tO 3 (cK (.ptr 0 0) (cUnit)) (tO 7 (cK (.row 1 0) (cUnit)) (tO 8 (cK (.row 2 0) (cUnit)) (tO 9 (cK (.row 3 0) (cUnit)) (tO 10 (cK (.ptr 4 0) (cUnit)) (tO 11 (cPair (cSl 3) (cUnit)) (tO 12 (cPair (cSl 3) (cUnit)) (tO 13 (cK (.ptr 5 0) (cUnit)) (tO 14 (cPair (cSl 3) (cUnit)) (tO 15 (cPair (cSl 3) (cUnit)) (tO 51 (cPair (cInt .i64) (cUnit)) (tO 52 (cPair (cInt .i64) (cUnit)) (tNil))))))))))))))
noncomputable def tBlaw16_DiskctlTicks_0 : Bls U ((Disk × Unit) × (List Int) × (List Int) × (List (List UInt8)) × (Disk × Unit) × (Disk × Unit) × Unit) := bC (cPair cDisk (cUnit)) (bRv 3 0 (bRv 3 0 (bRv 9 0 (bC (cPair cDisk (cUnit)) (bC (cPair cDisk (cUnit)) (bNil))))))
noncomputable def eSlaw16_DiskctlTicks_0 (s : Slaw16_DiskctlTicks_0) : St U := { tm := [(1, .v (vO (cPair (cSl 3) (cUnit)) (s.t1, ()))), (2, .v (vO (cPair (cSl 3) (cUnit)) (s.t2, ()))), (3, .v (vO (cK (.ptr 0 0) (cUnit)) (()))), (7, .v (vO (cK (.row 1 0) (cUnit)) (()))), (8, .v (vO (cK (.row 2 0) (cUnit)) (()))), (9, .v (vO (cK (.row 3 0) (cUnit)) (()))), (10, .v (vO (cK (.ptr 4 0) (cUnit)) (()))), (11, .v (vO (cPair (cSl 3) (cUnit)) (s.t11, ()))), (12, .v (vO (cPair (cSl 3) (cUnit)) (s.t12, ()))), (13, .v (vO (cK (.ptr 5 0) (cUnit)) (()))), (14, .v (vO (cPair (cSl 3) (cUnit)) (s.t14, ()))), (15, .v (vO (cPair (cSl 3) (cUnit)) (s.t15, ()))), (51, .v (vO (cPair (cInt .i64) (cUnit)) (s.t51, ()))), (52, .v (vO (cPair (cInt .i64) (cUnit)) (s.t52, ())))], hp := [.cells ((cPair cDisk (cUnit) : Cdc U (Disk × Unit)).enc (s.b0, ())) none, .row 3 0 s.b1, .row 3 0 s.b2, .row 9 0 s.b3, .cells ((cPair cDisk (cUnit) : Cdc U (Disk × Unit)).enc (s.b4, ())) none, .cells ((cPair cDisk (cUnit) : Cdc U (Disk × Unit)).enc (s.b5, ())) none] }
noncomputable def xSlaw16_DiskctlTicks_0 : (((List Int) × (List Int) × Bool × (List Int) × (List Int) × (List Int) × (List Int) × (List Int) × (List Int) × Disk × Disk) ⊕ ((List Int) × (List Int) × (List Int) × (List Int) × (List Int) × (List Int) × (List Int) × (List Int) × Disk × Disk)) → Ex × St U
  | .inl r => (.ret, { tm := [(1, .v (vO (cPair (cSl 3) (cUnit)) (r.1, ()))), (2, .v (vO (cPair (cSl 3) (cUnit)) (r.2.1, ()))), (6, .v (vO (cPair cBool (cUnit)) (r.2.2.1, ()))), (7, .v (vO (cK (.row 0 0) (cUnit)) (()))), (8, .v (vO (cK (.row 1 0) (cUnit)) (()))), (10, .v (vO (cK (.ptr 2 0) (cUnit)) (()))), (11, .v (vO (cPair (cSl 3) (cUnit)) (r.2.2.2.1, ()))), (12, .v (vO (cPair (cSl 3) (cUnit)) (r.2.2.2.2.1, ()))), (13, .v (vO (cK (.ptr 3 0) (cUnit)) (()))), (14, .v (vO (cPair (cSl 3) (cUnit)) (r.2.2.2.2.2.1, ()))), (15, .v (vO (cPair (cSl 3) (cUnit)) (r.2.2.2.2.2.2.1, ())))], hp := [.row 3 0 r.2.2.2.2.2.2.2.1, .row 3 0 r.2.2.2.2.2.2.2.2.1, .cells ((cPair cDisk (cUnit) : Cdc U (Disk × Unit)).enc (r.2.2.2.2.2.2.2.2.2.1, ())) none, .cells ((cPair cDisk (cUnit) : Cdc U (Disk × Unit)).enc (r.2.2.2.2.2.2.2.2.2.2, ())) none] })
  | .inr r => (.exit 0, { tm := [(1, .v (vO (cPair (cSl 3) (cUnit)) (r.1, ()))), (2, .v (vO (cPair (cSl 3) (cUnit)) (r.2.1, ()))), (7, .v (vO (cK (.row 0 0) (cUnit)) (()))), (8, .v (vO (cK (.row 1 0) (cUnit)) (()))), (10, .v (vO (cK (.ptr 2 0) (cUnit)) (()))), (11, .v (vO (cPair (cSl 3) (cUnit)) (r.2.2.1, ()))), (12, .v (vO (cPair (cSl 3) (cUnit)) (r.2.2.2.1, ()))), (13, .v (vO (cK (.ptr 3 0) (cUnit)) (()))), (14, .v (vO (cPair (cSl 3) (cUnit)) (r.2.2.2.2.1, ()))), (15, .v (vO (cPair (cSl 3) (cUnit)) (r.2.2.2.2.2.1, ())))], hp := [.row 3 0 r.2.2.2.2.2.2.1, .row 3 0 r.2.2.2.2.2.2.2.1, .cells ((cPair cDisk (cUnit) : Cdc U (Disk × Unit)).enc (r.2.2.2.2.2.2.2.2.1, ())) none, .cells ((cPair cDisk (cUnit) : Cdc U (Disk × Unit)).enc (r.2.2.2.2.2.2.2.2.2, ())) none] })
noncomputable def xTlaw16_DiskctlTicks_0 (y : (((List Int) × (List Int) × Bool × (List Int) × (List Int) × (List Int) × (List Int) × (List Int) × (List Int) × Disk × Disk) ⊕ ((List Int) × (List Int) × (List Int) × (List Int) × (List Int) × (List Int) × (List Int) × (List Int) × Disk × Disk))) : Tree (Ex × St U) := .ite y.isLeft (.opt ((List Int) × (List Int) × Bool × (List Int) × (List Int) × (List Int) × (List Int) × (List Int) × (List Int) × Disk × Disk) y.getLeft? fun r => .leaf (.ret, { tm := [(1, .v (vO (cPair (cSl 3) (cUnit)) (r.1, ()))), (2, .v (vO (cPair (cSl 3) (cUnit)) (r.2.1, ()))), (6, .v (vO (cPair cBool (cUnit)) (r.2.2.1, ()))), (7, .v (vO (cK (.row 0 0) (cUnit)) (()))), (8, .v (vO (cK (.row 1 0) (cUnit)) (()))), (10, .v (vO (cK (.ptr 2 0) (cUnit)) (()))), (11, .v (vO (cPair (cSl 3) (cUnit)) (r.2.2.2.1, ()))), (12, .v (vO (cPair (cSl 3) (cUnit)) (r.2.2.2.2.1, ()))), (13, .v (vO (cK (.ptr 3 0) (cUnit)) (()))), (14, .v (vO (cPair (cSl 3) (cUnit)) (r.2.2.2.2.2.1, ()))), (15, .v (vO (cPair (cSl 3) (cUnit)) (r.2.2.2.2.2.2.1, ())))], hp := [.row 3 0 r.2.2.2.2.2.2.2.1, .row 3 0 r.2.2.2.2.2.2.2.2.1, .cells ((cPair cDisk (cUnit) : Cdc U (Disk × Unit)).enc (r.2.2.2.2.2.2.2.2.2.1, ())) none, .cells ((cPair cDisk (cUnit) : Cdc U (Disk × Unit)).enc (r.2.2.2.2.2.2.2.2.2.2, ())) none] })) (.opt ((List Int) × (List Int) × (List Int) × (List Int) × (List Int) × (List Int) × (List Int) × (List Int) × Disk × Disk) y.getRight? fun r => .leaf (.exit 0, { tm := [(1, .v (vO (cPair (cSl 3) (cUnit)) (r.1, ()))), (2, .v (vO (cPair (cSl 3) (cUnit)) (r.2.1, ()))), (7, .v (vO (cK (.row 0 0) (cUnit)) (()))), (8, .v (vO (cK (.row 1 0) (cUnit)) (()))), (10, .v (vO (cK (.ptr 2 0) (cUnit)) (()))), (11, .v (vO (cPair (cSl 3) (cUnit)) (r.2.2.1, ()))), (12, .v (vO (cPair (cSl 3) (cUnit)) (r.2.2.2.1, ()))), (13, .v (vO (cK (.ptr 3 0) (cUnit)) (()))), (14, .v (vO (cPair (cSl 3) (cUnit)) (r.2.2.2.2.1, ()))), (15, .v (vO (cPair (cSl 3) (cUnit)) (r.2.2.2.2.2.1, ())))], hp := [.row 3 0 r.2.2.2.2.2.2.1, .row 3 0 r.2.2.2.2.2.2.2.1, .cells ((cPair cDisk (cUnit) : Cdc U (Disk × Unit)).enc (r.2.2.2.2.2.2.2.2.1, ())) none, .cells ((cPair cDisk (cUnit) : Cdc U (Disk × Unit)).enc (r.2.2.2.2.2.2.2.2.2, ())) none] }))
noncomputable def hlaw16_DiskctlTicks_0 : Hd := { keep := [1, 2, 3, 7, 8, 9, 10, 11, 12, 13, 14, 15, 51, 52], xkeep := [1, 2, 6, 7, 8, 10, 11, 12, 13, 14, 15], own := false }
noncomputable def Elaw16_DiskctlTicks : Env U := { P := Try.prog, cd := cd, fns := fns23, lps := (addL 0 hlaw16_DiskctlTicks_0 (mkLoop tAlaw16_DiskctlTicks_0 tBlaw16_DiskctlTicks_0 Plaw16_DiskctlTicks_0 (Llaw16_DiskctlTicks_0 none) xTlaw16_DiskctlTicks_0) noL), frz := fun _r => bif Nat.beq _r 13 then true else false, nt := 97, n0 := 0 }
noncomputable def Blaw16_DiskctlTicks_0 : Code := (loopAt (Try.f6.body.getD .skip) 0 0).getD .skip
theorem roundlaw16_DiskctlTicks_0 (s : Slaw16_DiskctlTicks_0) : round Elaw16_DiskctlTicks hlaw16_DiskctlTicks_0 Blaw16_DiskctlTicks_0 0 (eSlaw16_DiskctlTicks_0 s) = (Wlaw16_DiskctlTicks_0 s).map (sumE eSlaw16_DiskctlTicks_0 xSlaw16_DiskctlTicks_0) := by kernel_rfl
theorem lplaw16_DiskctlTicks_0 : LpOk Elaw16_DiskctlTicks Blaw16_DiskctlTicks_0 0 := mkLoop_ok (A := tAlaw16_DiskctlTicks_0) (B := tBlaw16_DiskctlTicks_0) (f := Plaw16_DiskctlTicks_0) (L := Llaw16_DiskctlTicks_0 none) (tO_ok (cPair_ok (cSl_ok 3) cUnit_ok) (tO_ok (cPair_ok (cSl_ok 3) cUnit_ok) (tO_ok (cK_ok cUnit_ok) (tO_ok (cK_ok cUnit_ok) (tO_ok (cK_ok cUnit_ok) (tO_ok (cK_ok cUnit_ok) (tO_ok (cK_ok cUnit_ok) (tO_ok (cPair_ok (cSl_ok 3) cUnit_ok) (tO_ok (cPair_ok (cSl_ok 3) cUnit_ok) (tO_ok (cK_ok cUnit_ok) (tO_ok (cPair_ok (cSl_ok 3) cUnit_ok) (tO_ok (cPair_ok (cSl_ok 3) cUnit_ok) (tO_ok (cPair_ok (cInt_ok .i64) cUnit_ok) (tO_ok (cPair_ok (cInt_ok .i64) cUnit_ok) tNil_ok)))))))))))))) (bC_ok (cPair_ok cDisk_ok cUnit_ok) (bRv_ok (bRv_ok (bRv_ok (bC_ok (cPair_ok cDisk_ok cUnit_ok) (bC_ok (cPair_ok cDisk_ok cUnit_ok) bNil_ok)))))) (enc := eSlaw16_DiskctlTicks_0) (out := xTlaw16_DiskctlTicks_0) (outS := xSlaw16_DiskctlTicks_0) (step := Wlaw16_DiskctlTicks_0) (fun _ => rfl) (fun _ _ => by kernel_rfl) (by kernel_rfl) (fun b => by cases b <;> rfl) roundlaw16_DiskctlTicks_0
theorem runlaw16_DiskctlTicks (x : Disk × (List Int) × (List Int) × Unit) (g : Unit) : execF Elaw16_DiskctlTicks Try.f6 (Alaw16_DiskctlTicks.enc x) (bNil.enc g) = (Tlaw16_DiskctlTicks none x.1 x.2.1 x.2.2.1).map Rlaw16_DiskctlTicks := by kernel_rfl
theorem oklaw16_DiskctlTicks : FnOk Try.prog cd 6 Slaw16_DiskctlTicks := mk_ok (E := Elaw16_DiskctlTicks) cd_ok fns23_ok Try.func6 (by kernel_rfl) (loops_of (addL_ok lplaw16_DiskctlTicks_0 noL_ok)) (aA_ok cDisk_ok (aO_ok (cSl_ok 3) (aO_ok (cSl_ok 3) (aNil_ok)))) bNil_ok (T := fun x _ => Tlaw16_DiskctlTicks none x.1 x.2.1 x.2.2.1) (fun _ _ => rfl) runlaw16_DiskctlTicks
noncomputable def fns6 := addF 6 true Slaw16_DiskctlTicks fns23
theorem fns6_ok : ∀ f q t, fns6 f = some (q, t) → FnOk Try.prog cd f t := addF_ok oklaw16_DiskctlTicks fns23_ok
/-- emulator/emulatorref16.New -/
noncomputable def Tref16_New (x0 : Drive) : Tree Disk :=
  .ite (decide ((([] : List (List UInt8)).length + x0.sectors.length) * 16 ≤ 140737488355328))
    (.ite (decide ((([] : List Int).length + x0.bad.length) * 8 ≤ 140737488355328))
      (.leaf (Disk.mk (Drive.mk (([] : List (List UInt8)) ++ x0.sectors) (([] : List Int) ++ x0.bad)) false true false 0 0 0 0 0))
      .fail)
    .fail
noncomputable def ref16_New (x0 : Drive) : Option Disk := (Tref16_New x0).run
noncomputable def Aref16_New : Arg U (Drive × Unit) := aA cDrive (aNil)
noncomputable def Rref16_New (r : Disk) : List (V U) × List (Blk U) := ([vA cDisk r], [])
noncomputable def Sref16_New : List (V U) → List (Blk U) → Option (FnOut U) := mkSpec Aref16_New bNil (fun x _ => ref16_New x.1) Rref16_New
noncomputable def Eref16_New : Env U := { P := Try.prog, cd := cd, fns := fns6, lps := noL, frz := fun _r => false, nt := 15, n0 := 0 }
theorem runref16_New (x : Drive × Unit) (g : Unit) : execF Eref16_New Try.f25 (Aref16_New.enc x) (bNil.enc g) = (Tref16_New x.1).map Rref16_New := by kernel_rfl
theorem okref16_New : FnOk Try.prog cd 25 Sref16_New := mk_ok (E := Eref16_New) cd_ok fns6_ok Try.func25 (by kernel_rfl) (noLoops_body (by kernel_rfl)) (aA_ok cDrive_ok (aNil_ok)) bNil_ok (T := fun x _ => Tref16_New x.1) (fun _ _ => rfl) runref16_New
noncomputable def fns25 := addF 25 true Sref16_New fns6
theorem fns25_ok : ∀ f q t, fns25 f = some (q, t) → FnOk Try.prog cd f t := addF_ok okref16_New fns6_ok
/-- emulator/emulatorref16.Read -/
noncomputable def Tref16_Read (x0 : Disk) (x1 : Int) : Tree (Int × Bool) :=
  .ite (decide (x1 = (2 : Int)))
    (.leaf ((x0.words, true)))
    (.ite (decide (x1 = (4 : Int)))
      (.leaf ((x0.addr, true)))
      (.ite (decide (x1 = (6 : Int)))
        (.leaf ((x0.start, true)))
        (.ite (!decide (x1 = (0 : Int)))
          (.leaf (((0 : Int), false)))
          (.ite (x0.enable)
            (.ite (x0.ready)
              (.ite (x0.error)
                (.leaf ((IntKind.wrap .i64 ((IntKind.wrap .i64 ((IntKind.wrap .i64 ((IntKind.wrap .i64 ((2 : Int) * x0.command)) + (64 : Int))) + (128 : Int))) + (32768 : Int)), true)))
                (.leaf ((IntKind.wrap .i64 ((IntKind.wrap .i64 ((IntKind.wrap .i64 ((2 : Int) * x0.command)) + (64 : Int))) + (128 : Int)), true))))
              (.ite (x0.error)
                (.leaf ((IntKind.wrap .i64 ((IntKind.wrap .i64 ((IntKind.wrap .i64 ((2 : Int) * x0.command)) + (64 : Int))) + (32768 : Int)), true)))
                (.leaf ((IntKind.wrap .i64 ((IntKind.wrap .i64 ((2 : Int) * x0.command)) + (64 : Int)), true)))))
            (.ite (x0.ready)
              (.ite (x0.error)
                (.leaf ((IntKind.wrap .i64 ((IntKind.wrap .i64 ((IntKind.wrap .i64 ((2 : Int) * x0.command)) + (128 : Int))) + (32768 : Int)), true)))
                (.leaf ((IntKind.wrap .i64 ((IntKind.wrap .i64 ((2 : Int) * x0.command)) + (128 : Int)), true))))
              (.ite (x0.error)
                (.leaf ((IntKind.wrap .i64 ((IntKind.wrap .i64 ((2 : Int) * x0.command)) + (32768 : Int)), true)))
                (.leaf ((IntKind.wrap .i64 ((2 : Int) * x0.command), true)))))))))
noncomputable def ref16_Read (x0 : Disk) (x1 : Int) : Option (Int × Bool) := (Tref16_Read x0 x1).run
noncomputable def Aref16_Read : Arg U (Disk × Int × Unit) := aA cDisk (aO (cInt .i64) (aNil))
noncomputable def Rref16_Read (r : (Int × Bool)) : List (V U) × List (Blk U) := ([vO (cInt .i64) r.1, vO cBool r.2], [])
noncomputable def Sref16_Read : List (V U) → List (Blk U) → Option (FnOut U) := mkSpec Aref16_Read bNil (fun x _ => ref16_Read x.1 x.2.1) Rref16_Read
noncomputable def Eref16_Read : Env U := { P := Try.prog, cd := cd, fns := fns25, lps := noL, frz := fun _r => false, nt := 37, n0 := 0 }
theorem runref16_Read (x : Disk × Int × Unit) (g : Unit) : execF Eref16_Read Try.f27 (Aref16_Read.enc x) (bNil.enc g) = (Tref16_Read x.1 x.2.1).map Rref16_Read := by kernel_rfl
theorem okref16_Read : FnOk Try.prog cd 27 Sref16_Read := mk_ok (E := Eref16_Read) cd_ok fns25_ok Try.func27 (by kernel_rfl) (noLoops_body (by kernel_rfl)) (aA_ok cDisk_ok (aO_ok (cInt_ok .i64) (aNil_ok))) bNil_ok (T := fun x _ => Tref16_Read x.1 x.2.1) (fun _ _ => rfl) runref16_Read
noncomputable def fns27 := addF 27 true Sref16_Read fns25
theorem fns27_ok : ∀ f q t, fns27 f = some (q, t) → FnOk Try.prog cd f t := addF_ok okref16_Read fns25_ok
end Go.Proofs.Ytenckckimagkkaa
