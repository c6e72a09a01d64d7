/- (goes on) -/
import Derived.Test.YtenckckimagkkaaAb16p1
set_option linter.unusedSimpArgs false
namespace Go.Proofs.Ytenckckimagkkaa
open Go Go.Ab
/-- emulator/emulatorlaw16.same -/
structure Slaw16_same_0 where
  t0 : (List Request)
  t1 : (List Request)
  t12 : Int
  t13 : Int
noncomputable def Wlaw16_same_0 (s : Slaw16_same_0) : Tree (Slaw16_same_0 ⊕ (Bool ⊕ Unit)) :=
  .ite (decide (s.t13 < s.t12))
    (.ite (decide (0 ≤ s.t13))
      (.opt Request (s.t0[(s.t13).toNat]?) fun y447 =>
        .ite (decide (0 ≤ s.t13))
          (.opt Request (s.t1[(s.t13).toNat]?) fun y448 =>
            .ite (!((decide (y447.priority = y448.priority)) && (decide (y447.vector = y448.vector))))
              (.leaf (.inr (.inl false)))
              (.leaf (.inl (Slaw16_same_0.mk s.t0 s.t1 s.t12 (IntKind.wrap .i64 (s.t13 + (1 : Int)))))))
          .fail)
      .fail)
    (.leaf (.inr (.inr ())))
noncomputable def Llaw16_same_0 (q : Option Nat) (s : Slaw16_same_0) : Option (Bool ⊕ Unit) := limQ q (fun s => (Wlaw16_same_0 s).run) s
theorem leLlaw16_same_0 (k : Nat) (s : Slaw16_same_0) : Le (Llaw16_same_0 (some k) s) (Llaw16_same_0 none s) := limQ_le (fun _ => Le.rfl) s
noncomputable def Tlaw16_same (q : Option Nat) (x0 : (List Request)) (x1 : (List Request)) : Tree Bool :=
  .ite (!decide ((x0.length : Int) = (x1.length : Int)))
    (.leaf (false))
    (.opt (Bool ⊕ Unit) (Llaw16_same_0 q (Slaw16_same_0.mk x0 x1 (x0.length : Int) (0 : Int))) fun l449 =>
      .ite (l449.isLeft)
        (.opt Bool (l449.getLeft?) fun a450 =>
          .leaf (a450))
        (.opt Unit (l449.getRight?) fun b451 =>
          .leaf (true)))
noncomputable def law16_same (q : Option Nat) (x0 : (List Request)) (x1 : (List Request)) : Option Bool := (Tlaw16_same q x0 x1).run
theorem lelaw16_same (k : Nat) (x0 : (List Request)) (x1 : (List Request)) : Le (law16_same (some k) x0 x1) (law16_same none x0 x1) := (TLe.ite TLe.rfl (TLe.opt (leLlaw16_same_0 k _) fun _ => TLe.rfl))
noncomputable def Alaw16_same : Arg U ((List Request) × (List Request) × Unit) := aO (cSl 76) (aO (cSl 76) (aNil))
noncomputable def Rlaw16_same (r : Bool) : List (V U) × List (Blk U) := ([vO cBool r], [])
noncomputable def Slaw16_same : List (V U) → List (Blk U) → Option (FnOut U) := mkSpec Alaw16_same bNil (fun x _ => law16_same none x.1 x.2.1) Rlaw16_same
noncomputable def Plaw16_same_0 (x : ((List Request) × Unit) × ((List Request) × Unit) × (Int × Unit) × (Int × Unit) × Unit) (_g : Unit) : Slaw16_same_0 := Slaw16_same_0.mk x.1.1 x.2.1.1 x.2.2.1.1 x.2.2.2.1.1
noncomputable def tAlaw16_same_0 : Tms U (((List Request) × Unit) × ((List Request) × Unit) × (Int × Unit) × (Int × Unit) × Unit) := tO 0 (cPair (cSl 76) (cUnit)) (tO 1 (cPair (cSl 76) (cUnit)) (tO 12 (cPair (cInt .i64) (cUnit)) (tO 13 (cPair (cInt .i64) (cUnit)) (tNil))))
noncomputable def tBlaw16_same_0 : Bls U (Unit) := bNil
noncomputable def eSlaw16_same_0 (s : Slaw16_same_0) : St U := { tm := [(0, .v (vO (cPair (cSl 76) (cUnit)) (s.t0, ()))), (1, .v (vO (cPair (cSl 76) (cUnit)) (s.t1, ()))), (12, .v (vO (cPair (cInt .i64) (cUnit)) (s.t12, ()))), (13, .v (vO (cPair (cInt .i64) (cUnit)) (s.t13, ())))], hp := [] }
noncomputable def xSlaw16_same_0 : (Bool ⊕ Unit) → Ex × St U
  | .inl r => (.ret, { tm := [(4, .v (vO (cPair cBool (cUnit)) (r, ())))], hp := [] })
  | .inr r => (.exit 0, { tm := [], hp := [] })
noncomputable def xTlaw16_same_0 (y : (Bool ⊕ Unit)) : Tree (Ex × St U) := .ite y.isLeft (.opt Bool y.getLeft? fun r => .leaf (.ret, { tm := [(4, .v (vO (cPair cBool (cUnit)) (r, ())))], hp := [] })) (.opt Unit y.getRight? fun r => .leaf (.exit 0, { tm := [], hp := [] }))
noncomputable def hlaw16_same_0 : Hd := { keep := [0, 1, 12, 13], xkeep := [4], own := false }
noncomputable def Elaw16_same : Env U := { P := Try.prog, cd := cd, fns := fns27, lps := (addL 0 hlaw16_same_0 (mkLoop tAlaw16_same_0 tBlaw16_same_0 Plaw16_same_0 (Llaw16_same_0 none) xTlaw16_same_0) noL), frz := fun _r => false, nt := 26, n0 := 0 }
noncomputable def Blaw16_same_0 : Code := (loopAt (Try.f28.body.getD .skip) 0 0).getD .skip
theorem roundlaw16_same_0 (s : Slaw16_same_0) : round Elaw16_same hlaw16_same_0 Blaw16_same_0 0 (eSlaw16_same_0 s) = (Wlaw16_same_0 s).map (sumE eSlaw16_same_0 xSlaw16_same_0) := by kernel_rfl
theorem lplaw16_same_0 : LpOk Elaw16_same Blaw16_same_0 0 := mkLoop_ok (A := tAlaw16_same_0) (B := tBlaw16_same_0) (f := Plaw16_same_0) (L := Llaw16_same_0 none) (tO_ok (cPair_ok (cSl_ok 76) cUnit_ok) (tO_ok (cPair_ok (cSl_ok 76) cUnit_ok) (tO_ok (cPair_ok (cInt_ok .i64) cUnit_ok) (tO_ok (cPair_ok (cInt_ok .i64) cUnit_ok) tNil_ok)))) bNil_ok (enc := eSlaw16_same_0) (out := xTlaw16_same_0) (outS := xSlaw16_same_0) (step := Wlaw16_same_0) (fun _ => rfl) (fun _ _ => by kernel_rfl) (by kernel_rfl) (fun b => by cases b <;> rfl) roundlaw16_same_0
theorem runlaw16_same (x : (List Request) × (List Request) × Unit) (g : Unit) : execF Elaw16_same Try.f28 (Alaw16_same.enc x) (bNil.enc g) = (Tlaw16_same none x.1 x.2.1).map Rlaw16_same := by kernel_rfl
theorem oklaw16_same : FnOk Try.prog cd 28 Slaw16_same := mk_ok (E := Elaw16_same) cd_ok fns27_ok Try.func28 (by kernel_rfl) (loops_of (addL_ok lplaw16_same_0 noL_ok)) (aO_ok (cSl_ok 76) (aO_ok (cSl_ok 76) (aNil_ok))) bNil_ok (T := fun x _ => Tlaw16_same none x.1 x.2.1) (fun _ _ => rfl) runlaw16_same
noncomputable def fns28 := addF 28 true Slaw16_same fns27
theorem fns28_ok : ∀ f q t, fns28 f = some (q, t) → FnOk Try.prog cd f t := addF_ok oklaw16_same fns27_ok
/-- emulator/diskctl.Requests -/
noncomputable def Tdiskctl_Requests (x0 : Disk) : Tree (List Request) :=
  .ite (!x0.enable)
    (.leaf ([]))
    (.ite (!x0.ready)
      (.leaf ([]))
      (.leaf ([Request.mk (5 : Int) (160 : Int)])))
noncomputable def diskctl_Requests (x0 : Disk) : Option (List Request) := (Tdiskctl_Requests x0).run
noncomputable def Adiskctl_Requests : Arg U (Disk × Unit) := aA cDisk (aNil)
noncomputable def Rdiskctl_Requests (r : (List Request)) : List (V U) × List (Blk U) := ([vO (cSl 76) r], [])
noncomputable def Sdiskctl_Requests : List (V U) → List (Blk U) → Option (FnOut U) := mkSpec Adiskctl_Requests bNil (fun x _ => diskctl_Requests x.1) Rdiskctl_Requests
noncomputable def Ediskctl_Requests : Env U := { P := Try.prog, cd := cd, fns := fns28, lps := noL, frz := fun _r => false, nt := 13, n0 := 0 }
theorem rundiskctl_Requests (x : Disk × Unit) (g : Unit) : execF Ediskctl_Requests Try.f29 (Adiskctl_Requests.enc x) (bNil.enc g) = (Tdiskctl_Requests x.1).map Rdiskctl_Requests := by kernel_rfl
theorem okdiskctl_Requests : FnOk Try.prog cd 29 Sdiskctl_Requests := mk_ok (E := Ediskctl_Requests) cd_ok fns28_ok Try.func29 (by kernel_rfl) (noLoops_body (by kernel_rfl)) (aA_ok cDisk_ok (aNil_ok)) bNil_ok (T := fun x _ => Tdiskctl_Requests x.1) (fun _ _ => rfl) rundiskctl_Requests
noncomputable def fns29 := addF 29 true Sdiskctl_Requests fns28
theorem fns29_ok : ∀ f q t, fns29 f = some (q, t) → FnOk Try.prog cd f t := addF_ok okdiskctl_Requests fns28_ok
/-- emulator/emulatorref16.Requests -/
noncomputable def Tref16_Requests (x0 : Disk) : Tree (List Request) :=
  .ite (x0.enable)
    (.ite (x0.ready)
      (.leaf ([Request.mk (5 : Int) (160 : Int)]))
      (.leaf ([])))
    (.leaf ([]))
noncomputable def ref16_Requests (x0 : Disk) : Option (List Request) := (Tref16_Requests x0).run
noncomputable def Aref16_Requests : Arg U (Disk × Unit) := aA cDisk (aNil)
noncomputable def Rref16_Requests (r : (List Request)) : List (V U) × List (Blk U) := ([vO (cSl 76) r], [])
noncomputable def Sref16_Requests : List (V U) → List (Blk U) → Option (FnOut U) := mkSpec Aref16_Requests bNil (fun x _ => ref16_Requests x.1) Rref16_Requests
noncomputable def Eref16_Requests : Env U := { P := Try.prog, cd := cd, fns := fns29, lps := noL, frz := fun _r => false, nt := 11, n0 := 0 }
theorem runref16_Requests (x : Disk × Unit) (g : Unit) : execF Eref16_Requests Try.f30 (Aref16_Requests.enc x) (bNil.enc g) = (Tref16_Requests x.1).map Rref16_Requests := by kernel_rfl
theorem okref16_Requests : FnOk Try.prog cd 30 Sref16_Requests := mk_ok (E := Eref16_Requests) cd_ok fns29_ok Try.func30 (by kernel_rfl) (noLoops_body (by kernel_rfl)) (aA_ok cDisk_ok (aNil_ok)) bNil_ok (T := fun x _ => Tref16_Requests x.1) (fun _ _ => rfl) runref16_Requests
noncomputable def fns30 := addF 30 true Sref16_Requests fns29
theorem fns30_ok : ∀ f q t, fns30 f = some (q, t) → FnOk Try.prog cd f t := addF_ok okref16_Requests fns29_ok
/-- emulator/emulatorlaw16.DiskctlRegisters -/
noncomputable def Tlaw16_DiskctlRegisters (q : Option Nat) (x0 : Disk) (x1 : Int) (x2 : Int) : Tree Bool :=
  .ite (decide ((64 : Int) < (x0.drive.sectors.length : Int)))
    (.opt Bool (law16_alive q) fun r452 =>
      .leaf (r452))
    (.ite (decide ((64 : Int) < (x0.drive.bad.length : Int)))
      (.opt Bool (law16_alive q) fun r453 =>
        .leaf (r453))
      (.opt Bool (diskctl_Right q x0) fun r454 =>
        .opt Bool (ref16_Right q x0) fun r455 =>
          .ite (!(r454 == r455))
            (.leaf (false))
            (.opt Disk (diskctl_New x0.drive) fun r456 =>
              .opt Disk (ref16_New x0.drive) fun r457 =>
                .opt Bool (ref16_SameDisk q r456 r457) fun r458 =>
                  .ite (!r458)
                    (.leaf (false))
                    (.opt Bool (ref16_Right q x0) fun r459 =>
                      .ite (!r459)
                        (.opt Bool (law16_alive q) fun r460 =>
                          .leaf (r460))
                        (.opt (Int × Bool) (diskctl_Read x0 x1) fun r461 =>
                          .opt (Int × Bool) (ref16_Read x0 x1) fun r462 =>
                            .opt (Disk × Bool) (diskctl_Write x0 x1 x2) fun r463 =>
                              .opt (Disk × Bool) (ref16_Write x0 x1 x2) fun r464 =>
                                .ite (!decide (r461.1 = r462.1))
                                  (.leaf (false))
                                  (.ite (!(r461.2 == r462.2))
                                    (.leaf (false))
                                    (.ite (!(r463.2 == r464.2))
                                      (.leaf (false))
                                      (.opt Bool (ref16_SameDisk q r463.1 r464.1) fun r465 =>
                                        .ite (!r465)
                                          (.leaf (false))
                                          (.ite (r463.2)
                                            (.opt Bool (diskctl_Right q r463.1) fun r466 =>
                                              .ite (!r466)
                                                (.leaf (false))
                                                (.opt Disk (diskctl_Reset x0) fun r467 =>
                                                  .opt Disk (ref16_Reset x0) fun r468 =>
                                                    .opt Bool (ref16_SameDisk q r467 r468) fun r469 =>
                                                      .ite (r469)
                                                        (.opt (List Request) (diskctl_Requests x0) fun r470 =>
                                                          .opt (List Request) (ref16_Requests x0) fun r471 =>
                                                            .opt Bool (law16_same q r470 r471) fun r472 =>
                                                              .ite (r472)
                                                                (.opt Disk (diskctl_Accept x0 x2) fun r473 =>
                                                                  .opt Disk (ref16_Accept x0 x2) fun r474 =>
                                                                    .opt Bool (ref16_SameDisk q r473 r474) fun r475 =>
                                                                      .ite (r475)
                                                                        (.opt Bool (law16_alive q) fun r476 =>
                                                                          .leaf (r476))
                                                                        (.leaf (false)))
                                                                (.leaf (false)))
                                                        (.leaf (false))))
                                            (.opt Disk (diskctl_Reset x0) fun r477 =>
                                              .opt Disk (ref16_Reset x0) fun r478 =>
                                                .opt Bool (ref16_SameDisk q r477 r478) fun r479 =>
                                                  .ite (r479)
                                                    (.opt (List Request) (diskctl_Requests x0) fun r480 =>
                                                      .opt (List Request) (ref16_Requests x0) fun r481 =>
                                                        .opt Bool (law16_same q r480 r481) fun r482 =>
                                                          .ite (r482)
                                                            (.opt Disk (diskctl_Accept x0 x2) fun r483 =>
                                                              .opt Disk (ref16_Accept x0 x2) fun r484 =>
                                                                .opt Bool (ref16_SameDisk q r483 r484) fun r485 =>
                                                                  .ite (r485)
                                                                    (.opt Bool (law16_alive q) fun r486 =>
                                                                      .leaf (r486))
                                                                    (.leaf (false)))
                                                            (.leaf (false)))
                                                    (.leaf (false))))))))))))
noncomputable def law16_DiskctlRegisters (q : Option Nat) (x0 : Disk) (x1 : Int) (x2 : Int) : Option Bool := (Tlaw16_DiskctlRegisters q x0 x1 x2).run
theorem lelaw16_DiskctlRegisters (k : Nat) (x0 : Disk) (x1 : Int) (x2 : Int) : Le (law16_DiskctlRegisters (some k) x0 x1 x2) (law16_DiskctlRegisters none x0 x1 x2) := (TLe.ite (TLe.opt (lelaw16_alive k) fun _ => TLe.rfl) (TLe.ite (TLe.opt (lelaw16_alive k) fun _ => TLe.rfl) (TLe.opt (lediskctl_Right k _) fun _ => (TLe.opt (leref16_Right k _) fun _ => (TLe.ite TLe.rfl (TLe.opt Le.rfl fun _ => (TLe.opt Le.rfl fun _ => (TLe.opt (leref16_SameDisk k _ _) fun _ => (TLe.ite TLe.rfl (TLe.opt (leref16_Right k _) fun _ => (TLe.ite (TLe.opt (lelaw16_alive k) fun _ => TLe.rfl) (TLe.opt Le.rfl fun _ => (TLe.opt Le.rfl fun _ => (TLe.opt Le.rfl fun _ => (TLe.opt Le.rfl fun _ => (TLe.ite TLe.rfl (TLe.ite TLe.rfl (TLe.ite TLe.rfl (TLe.opt (leref16_SameDisk k _ _) fun _ => (TLe.ite TLe.rfl (TLe.ite (TLe.opt (lediskctl_Right k _) fun _ => (TLe.ite TLe.rfl (TLe.opt Le.rfl fun _ => (TLe.opt Le.rfl fun _ => (TLe.opt (leref16_SameDisk k _ _) fun _ => (TLe.ite (TLe.opt Le.rfl fun _ => (TLe.opt Le.rfl fun _ => (TLe.opt (lelaw16_same k _ _) fun _ => (TLe.ite (TLe.opt Le.rfl fun _ => (TLe.opt Le.rfl fun _ => (TLe.opt (leref16_SameDisk k _ _) fun _ => (TLe.ite (TLe.opt (lelaw16_alive k) fun _ => TLe.rfl) TLe.rfl)))) TLe.rfl)))) TLe.rfl)))))) (TLe.opt Le.rfl fun _ => (TLe.opt Le.rfl fun _ => (TLe.opt (leref16_SameDisk k _ _) fun _ => (TLe.ite (TLe.opt Le.rfl fun _ => (TLe.opt Le.rfl fun _ => (TLe.opt (lelaw16_same k _ _) fun _ => (TLe.ite (TLe.opt Le.rfl fun _ => (TLe.opt Le.rfl fun _ => (TLe.opt (leref16_SameDisk k _ _) fun _ => (TLe.ite (TLe.opt (lelaw16_alive k) fun _ => TLe.rfl) TLe.rfl)))) TLe.rfl)))) TLe.rfl)))))))))))))))))))))))))
noncomputable def Alaw16_DiskctlRegisters : Arg U (Disk × Int × Int × Unit) := aA cDisk (aO (cInt .i64) (aO (cInt .i64) (aNil)))
noncomputable def Rlaw16_DiskctlRegisters (r : Bool) : List (V U) × List (Blk U) := ([vO cBool r], [])
noncomputable def Slaw16_DiskctlRegisters : List (V U) → List (Blk U) → Option (FnOut U) := mkSpec Alaw16_DiskctlRegisters bNil (fun x _ => law16_DiskctlRegisters none x.1 x.2.1 x.2.2.1) Rlaw16_DiskctlRegisters
noncomputable def Elaw16_DiskctlRegisters : Env U := { P := Try.prog, cd := cd, fns := fns30, lps := noL, frz := fun _r => false, nt := 124, n0 := 0 }
theorem runlaw16_DiskctlRegisters (x : Disk × Int × Int × Unit) (g : Unit) : execF Elaw16_DiskctlRegisters Try.f7 (Alaw16_DiskctlRegisters.enc x) (bNil.enc g) = (Tlaw16_DiskctlRegisters none x.1 x.2.1 x.2.2.1).map Rlaw16_DiskctlRegisters := by kernel_rfl
theorem oklaw16_DiskctlRegisters : FnOk Try.prog cd 7 Slaw16_DiskctlRegisters := mk_ok (E := Elaw16_DiskctlRegisters) cd_ok fns30_ok Try.func7 (by kernel_rfl) (noLoops_body (by kernel_rfl)) (aA_ok cDisk_ok (aO_ok (cInt_ok .i64) (aO_ok (cInt_ok .i64) (aNil_ok)))) bNil_ok (T := fun x _ => Tlaw16_DiskctlRegisters none x.1 x.2.1 x.2.2.1) (fun _ _ => rfl) runlaw16_DiskctlRegisters
noncomputable def fns7 := addF 7 true Slaw16_DiskctlRegisters fns30
theorem fns7_ok : ∀ f q t, fns7 f = some (q, t) → FnOk Try.prog cd f t := addF_ok oklaw16_DiskctlRegisters fns30_ok
end Go.Proofs.Ytenckckimagkkaa
