/- (goes on) -/
import Derived.Test.YtlaabdpccdnalaaAbtopp0
set_option linter.unusedSimpArgs false
namespace Go.Proofs.Ytlaabdpccdnalaa
open Go Go.Ab
/-- emulator/monitor.Examine -/
noncomputable def Tmonitor_Examine (x0 : Machine) (x1 : Int) (x2 : Int) : Tree ((List Int) × Int) :=
  .opt Bool (monitor_within x0 x1 x2) fun r220 =>
    .ite (!r220)
      (.leaf (([], (2 : Int))))
      (.ite (decide ((2 : Int) = 0))
        .fail
        (.ite (decide ((2 : Int) = 0))
          .fail
          (.ite (decide (0 ≤ IntKind.wrap .i64 ((IntKind.wrap .i64 ((x1).tdiv (2 : Int))) + x2)))
            (.ite (decide (IntKind.wrap .i64 ((IntKind.wrap .i64 ((x1).tdiv (2 : Int))) + x2) ≤ ((x0.mem.length : Nat) : Int)))
              (.ite (decide (0 ≤ IntKind.wrap .i64 ((x1).tdiv (2 : Int))))
                (.ite (decide (IntKind.wrap .i64 ((x1).tdiv (2 : Int)) ≤ IntKind.wrap .i64 ((IntKind.wrap .i64 ((x1).tdiv (2 : Int))) + x2)))
                  (.opt (List Int) (cloneF 8 ((x0.mem.drop ((IntKind.wrap .i64 ((x1).tdiv (2 : Int))).toNat)).take ((IntKind.wrap .i64 ((IntKind.wrap .i64 ((x1).tdiv (2 : Int))) + x2)).toNat - (IntKind.wrap .i64 ((x1).tdiv (2 : Int))).toNat))) fun r221 =>
                    .leaf ((r221, (0 : Int))))
                  .fail)
                .fail)
              .fail)
            .fail)))
noncomputable def monitor_Examine (x0 : Machine) (x1 : Int) (x2 : Int) : Option ((List Int) × Int) := (Tmonitor_Examine x0 x1 x2).run
noncomputable def Amonitor_Examine : Arg U (Machine × Int × Int × Unit) := aA cMachine (aO (cInt .i64) (aO (cInt .i64) (aNil)))
noncomputable def Rmonitor_Examine (r : ((List Int) × Int)) : List (V U) × List (Blk U) := ([vO (cSl 3) r.1, vO (cInt .i64) r.2], [])
noncomputable def Smonitor_Examine : List (V U) → List (Blk U) → Option (FnOut U) := mkSpec Amonitor_Examine bNil (fun x _ => monitor_Examine x.1 x.2.1 x.2.2.1) Rmonitor_Examine
noncomputable def Emonitor_Examine : Env U := { P := Try.prog, cd := cd, fns := (addF 24 false (cloneSpec 3 8) fns15), lps := noL, frz := fun _r => false, nt := 23, n0 := 0 }
theorem runmonitor_Examine (x : Machine × Int × Int × Unit) (g : Unit) : execF Emonitor_Examine Try.f16 (Amonitor_Examine.enc x) (bNil.enc g) = (Tmonitor_Examine x.1 x.2.1 x.2.2.1).map Rmonitor_Examine := by kernel_rfl
theorem okmonitor_Examine : FnOk Try.prog cd 16 Smonitor_Examine := mk_ok (E := Emonitor_Examine) cd_ok (addF_ok okslices_Clone_int_int fns15_ok) Try.func16 (by kernel_rfl) (noLoops_body (by kernel_rfl)) (aA_ok cMachine_ok (aO_ok (cInt_ok .i64) (aO_ok (cInt_ok .i64) (aNil_ok)))) bNil_ok (T := fun x _ => Tmonitor_Examine x.1 x.2.1 x.2.2.1) (fun _ _ => rfl) runmonitor_Examine
noncomputable def fns16 := addF 16 true Smonitor_Examine fns15
theorem fns16_ok : ∀ f q t, fns16 f = some (q, t) → FnOk Try.prog cd f t := addF_ok okmonitor_Examine fns15_ok
/-- emulator/emulatortop.sameNumbers -/
structure Stop_sameNumbers_0 where
  t0 : (List Int)
  t1 : (List Int)
  t5 : Int
noncomputable def Wtop_sameNumbers_0 (s : Stop_sameNumbers_0) : Tree (Stop_sameNumbers_0 ⊕ (Bool ⊕ Unit)) :=
  .ite (decide (s.t5 < (s.t0.length : Int)))
    (.ite (decide (0 ≤ s.t5))
      (.opt Int (s.t0[(s.t5).toNat]?) fun y222 =>
        .ite (decide (0 ≤ s.t5))
          (.opt Int (s.t1[(s.t5).toNat]?) fun y223 =>
            .ite (!decide (y222 = y223))
              (.leaf (.inr (.inl false)))
              (.leaf (.inl (Stop_sameNumbers_0.mk s.t0 s.t1 (IntKind.wrap .i64 (s.t5 + (1 : Int)))))))
          .fail)
      .fail)
    (.leaf (.inr (.inr ())))
noncomputable def Ltop_sameNumbers_0 (q : Option Nat) (s : Stop_sameNumbers_0) : Option (Bool ⊕ Unit) := limQ q (fun s => (Wtop_sameNumbers_0 s).run) s
theorem leLtop_sameNumbers_0 (k : Nat) (s : Stop_sameNumbers_0) : Le (Ltop_sameNumbers_0 (some k) s) (Ltop_sameNumbers_0 none s) := limQ_le (fun _ => Le.rfl) s
noncomputable def Ttop_sameNumbers (q : Option Nat) (x0 : (List Int)) (x1 : (List Int)) : Tree Bool :=
  .ite (!decide ((x0.length : Int) = (x1.length : Int)))
    (.leaf (false))
    (.opt (Bool ⊕ Unit) (Ltop_sameNumbers_0 q (Stop_sameNumbers_0.mk x0 x1 (0 : Int))) fun l224 =>
      .ite (l224.isLeft)
        (.opt Bool (l224.getLeft?) fun a225 =>
          .leaf (a225))
        (.opt Unit (l224.getRight?) fun b226 =>
          .leaf (true)))
noncomputable def top_sameNumbers (q : Option Nat) (x0 : (List Int)) (x1 : (List Int)) : Option Bool := (Ttop_sameNumbers q x0 x1).run
theorem letop_sameNumbers (k : Nat) (x0 : (List Int)) (x1 : (List Int)) : Le (top_sameNumbers (some k) x0 x1) (top_sameNumbers none x0 x1) := (TLe.ite TLe.rfl (TLe.opt (leLtop_sameNumbers_0 k _) fun _ => TLe.rfl))
noncomputable def Atop_sameNumbers : Arg U ((List Int) × (List Int) × Unit) := aO (cSl 3) (aO (cSl 3) (aNil))
noncomputable def Rtop_sameNumbers (r : Bool) : List (V U) × List (Blk U) := ([vO cBool r], [])
noncomputable def Stop_sameNumbers : List (V U) → List (Blk U) → Option (FnOut U) := mkSpec Atop_sameNumbers bNil (fun x _ => top_sameNumbers none x.1 x.2.1) Rtop_sameNumbers
noncomputable def Ptop_sameNumbers_0 (x : ((List Int) × Unit) × ((List Int) × Unit) × (Int × Unit) × Unit) (_g : Unit) : Stop_sameNumbers_0 := Stop_sameNumbers_0.mk x.1.1 x.2.1.1 x.2.2.1.1
noncomputable def tAtop_sameNumbers_0 : Tms U (((List Int) × Unit) × ((List Int) × Unit) × (Int × Unit) × Unit) := tO 0 (cPair (cSl 3) (cUnit)) (tO 1 (cPair (cSl 3) (cUnit)) (tO 5 (cPair (cInt .i64) (cUnit)) (tNil)))
noncomputable def tBtop_sameNumbers_0 : Bls U (Unit) := bNil
noncomputable def eStop_sameNumbers_0 (s : Stop_sameNumbers_0) : St U := { tm := [(0, .v (vO (cPair (cSl 3) (cUnit)) (s.t0, ()))), (1, .v (vO (cPair (cSl 3) (cUnit)) (s.t1, ()))), (5, .v (vO (cPair (cInt .i64) (cUnit)) (s.t5, ())))], hp := [] }
noncomputable def xStop_sameNumbers_0 : (Bool ⊕ Unit) → Ex × St U
  | .inl r => (.ret, { tm := [(4, .v (vO (cPair cBool (cUnit)) (r, ())))], hp := [] })
  | .inr r => (.exit 0, { tm := [], hp := [] })
noncomputable def xTtop_sameNumbers_0 (y : (Bool ⊕ Unit)) : Tree (Ex × St U) := .ite y.isLeft (.opt Bool y.getLeft? fun r => .leaf (.ret, { tm := [(4, .v (vO (cPair cBool (cUnit)) (r, ())))], hp := [] })) (.opt Unit y.getRight? fun r => .leaf (.exit 0, { tm := [], hp := [] }))
noncomputable def htop_sameNumbers_0 : Hd := { keep := [0, 1, 5], xkeep := [4], own := false }
noncomputable def Etop_sameNumbers : Env U := { P := Try.prog, cd := cd, fns := fns16, lps := (addL 0 htop_sameNumbers_0 (mkLoop tAtop_sameNumbers_0 tBtop_sameNumbers_0 Ptop_sameNumbers_0 (Ltop_sameNumbers_0 none) xTtop_sameNumbers_0) noL), frz := fun _r => false, nt := 26, n0 := 0 }
noncomputable def Btop_sameNumbers_0 : Code := (loopAt (Try.f17.body.getD .skip) 0 0).getD .skip
theorem roundtop_sameNumbers_0 (s : Stop_sameNumbers_0) : round Etop_sameNumbers htop_sameNumbers_0 Btop_sameNumbers_0 0 (eStop_sameNumbers_0 s) = (Wtop_sameNumbers_0 s).map (sumE eStop_sameNumbers_0 xStop_sameNumbers_0) := by kernel_rfl
theorem lptop_sameNumbers_0 : LpOk Etop_sameNumbers Btop_sameNumbers_0 0 := mkLoop_ok (A := tAtop_sameNumbers_0) (B := tBtop_sameNumbers_0) (f := Ptop_sameNumbers_0) (L := Ltop_sameNumbers_0 none) (tO_ok (cPair_ok (cSl_ok 3) cUnit_ok) (tO_ok (cPair_ok (cSl_ok 3) cUnit_ok) (tO_ok (cPair_ok (cInt_ok .i64) cUnit_ok) tNil_ok))) bNil_ok (enc := eStop_sameNumbers_0) (out := xTtop_sameNumbers_0) (outS := xStop_sameNumbers_0) (step := Wtop_sameNumbers_0) (fun _ => rfl) (fun _ _ => by kernel_rfl) (by kernel_rfl) (fun b => by cases b <;> rfl) roundtop_sameNumbers_0
theorem runtop_sameNumbers (x : (List Int) × (List Int) × Unit) (g : Unit) : execF Etop_sameNumbers Try.f17 (Atop_sameNumbers.enc x) (bNil.enc g) = (Ttop_sameNumbers none x.1 x.2.1).map Rtop_sameNumbers := by kernel_rfl
theorem oktop_sameNumbers : FnOk Try.prog cd 17 Stop_sameNumbers := mk_ok (E := Etop_sameNumbers) cd_ok fns16_ok Try.func17 (by kernel_rfl) (loops_of (addL_ok lptop_sameNumbers_0 noL_ok)) (aO_ok (cSl_ok 3) (aO_ok (cSl_ok 3) (aNil_ok))) bNil_ok (T := fun x _ => Ttop_sameNumbers none x.1 x.2.1) (fun _ _ => rfl) runtop_sameNumbers
noncomputable def fns17 := addF 17 true Stop_sameNumbers fns16
theorem fns17_ok : ∀ f q t, fns17 f = some (q, t) → FnOk Try.prog cd f t := addF_ok oktop_sameNumbers fns16_ok
/-- emulator/emulatortop.PartsConsole -/
noncomputable def Ttop_PartsConsole (q : Option Nat) (x0 : Machine) (x1 : Int) (x2 : (List Int)) : Tree Bool :=
  .opt Bool (top_fit q x0) fun r227 =>
    .ite (!r227)
      (.leaf (true))
      (.ite (decide ((x2.length : Int) = (0 : Int)))
        (.leaf (true))
        (.ite (decide ((20 : Int) < (x2.length : Int)))
          (.leaf (true))
          (.ite (decide (x1 < (0 : Int)))
            (.leaf (true))
            (.ite (decide ((8192 : Int) < x1))
              (.leaf (true))
              (.ite (decide ((2 : Int) = 0))
                .fail
                (.ite (decide (((x1).tmod (2 : Int)) = (1 : Int)))
                  (.leaf (true))
                  (.ite (x0.mmu.on)
                    (.leaf (true))
                    (.opt (Machine × Int) (monitor_Deposit q x0 x1 x2) fun r228 =>
                      .ite (!decide (r228.2 = (0 : Int)))
                        (.leaf (true))
                        (.opt ((List Int) × Int) (monitor_Examine r228.1 x1 (x2.length : Int)) fun r229 =>
                          .ite (!decide (r229.2 = (0 : Int)))
                            (.leaf (false))
                            (.opt Bool (top_sameNumbers q r229.1 x2) fun r230 =>
                              .ite (!r230)
                                (.leaf (false))
                                (.opt (Machine × Int × Int) (cpu_Load q r228.1 x1 false) fun r231 =>
                                  .ite (decide (r231.2.2 = (0 : Int)))
                                    (.ite (decide (0 ≤ (0 : Int)))
                                      (.opt Int (x2[((0 : Int)).toNat]?) fun y232 =>
                                        .leaf (decide (r231.2.1 = y232)))
                                      .fail)
                                    (.leaf (false)))))))))))))
noncomputable def top_PartsConsole (q : Option Nat) (x0 : Machine) (x1 : Int) (x2 : (List Int)) : Option Bool := (Ttop_PartsConsole q x0 x1 x2).run
theorem letop_PartsConsole (k : Nat) (x0 : Machine) (x1 : Int) (x2 : (List Int)) : Le (top_PartsConsole (some k) x0 x1 x2) (top_PartsConsole none x0 x1 x2) := (TLe.opt (letop_fit k _) fun _ => (TLe.ite TLe.rfl (TLe.ite TLe.rfl (TLe.ite TLe.rfl (TLe.ite TLe.rfl (TLe.ite TLe.rfl (TLe.ite TLe.rfl (TLe.ite TLe.rfl (TLe.ite TLe.rfl (TLe.opt (lemonitor_Deposit k _ _ _) fun _ => (TLe.ite TLe.rfl (TLe.opt Le.rfl fun _ => (TLe.ite TLe.rfl (TLe.opt (letop_sameNumbers k _ _) fun _ => (TLe.ite TLe.rfl (TLe.opt (lecpu_Load k _ _ _) fun _ => TLe.rfl))))))))))))))))
noncomputable def Atop_PartsConsole : Arg U (Machine × Int × (List Int) × Unit) := aA cMachine (aO (cInt .i64) (aO (cSl 3) (aNil)))
noncomputable def Rtop_PartsConsole (r : Bool) : List (V U) × List (Blk U) := ([vO cBool r], [])
noncomputable def Stop_PartsConsole : List (V U) → List (Blk U) → Option (FnOut U) := mkSpec Atop_PartsConsole bNil (fun x _ => top_PartsConsole none x.1 x.2.1 x.2.2.1) Rtop_PartsConsole
noncomputable def Etop_PartsConsole : Env U := { P := Try.prog, cd := cd, fns := fns17, lps := noL, frz := fun _r => false, nt := 86, n0 := 0 }
theorem runtop_PartsConsole (x : Machine × Int × (List Int) × Unit) (g : Unit) : execF Etop_PartsConsole Try.f5 (Atop_PartsConsole.enc x) (bNil.enc g) = (Ttop_PartsConsole none x.1 x.2.1 x.2.2.1).map Rtop_PartsConsole := by kernel_rfl
theorem oktop_PartsConsole : FnOk Try.prog cd 5 Stop_PartsConsole := mk_ok (E := Etop_PartsConsole) cd_ok fns17_ok Try.func5 (by kernel_rfl) (noLoops_body (by kernel_rfl)) (aA_ok cMachine_ok (aO_ok (cInt_ok .i64) (aO_ok (cSl_ok 3) (aNil_ok)))) bNil_ok (T := fun x _ => Ttop_PartsConsole none x.1 x.2.1 x.2.2.1) (fun _ _ => rfl) runtop_PartsConsole
noncomputable def fns5 := addF 5 true Stop_PartsConsole fns17
theorem fns5_ok : ∀ f q t, fns5 f = some (q, t) → FnOk Try.prog cd f t := addF_ok oktop_PartsConsole fns17_ok
end Go.Proofs.Ytlaabdpccdnalaa
