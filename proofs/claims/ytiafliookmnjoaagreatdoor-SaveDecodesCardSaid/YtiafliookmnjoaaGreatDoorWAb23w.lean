/- (goes on) -/
import Derived.Test.YtiafliookmnjoaaGreatDoorWAb23wp1
set_option linter.unusedSimpArgs false
namespace Go.Proofs.YtiafliookmnjoaaGreatDoor
open Go Go.Ab
structure z20 where
  t0 : (List (List UInt8))
  t1 : (List (List UInt8))
  t5 : Int
noncomputable def z48 (s : z20) : Tree (z20 ⊕ (Bool ⊕ Unit)) :=
  .ite (decide (s.t5 < (s.t0.length : Int)))
    (.ite (decide (0 ≤ s.t5))
      (.opt (List UInt8) (s.t0[(s.t5).toNat]?) fun y699 =>
        .ite (decide (0 ≤ s.t5))
          (.opt (List UInt8) (s.t1[(s.t5).toNat]?) fun y700 =>
            .ite (!decide (y699 = y700))
              (.leaf (.inr (.inl false)))
              (.leaf (.inl (z20.mk s.t0 s.t1 (IntKind.wrap .i64 (s.t5 + (1 : Int)))))))
          .fail)
      .fail)
    (.leaf (.inr (.inr ())))
noncomputable def zg8 (q : Option Nat) (s : z20) : Option (Bool ⊕ Unit) := limQ q (fun s => (z48 s).run) s
noncomputable def zdb (q : Option Nat) (x0 : (List (List UInt8))) (x1 : (List (List UInt8))) : Tree Bool :=
  .ite (!decide ((x0.length : Int) = (x1.length : Int)))
    (.leaf (false))
    (.opt (Bool ⊕ Unit) (zg8 q (z20.mk x0 x1 (0 : Int))) fun l701 =>
      .ite (l701.isLeft)
        (.opt Bool (l701.getLeft?) fun a702 =>
          .leaf (a702))
        (.opt Unit (l701.getRight?) fun b703 =>
          .leaf (true)))
noncomputable def zct (q : Option Nat) (x0 : (List (List UInt8))) (x1 : (List (List UInt8))) : Option Bool := (zdb q x0 x1).run
noncomputable def zsz : Arg U ((List (List UInt8)) × (List (List UInt8)) × Unit) := aO (cSl 9) (aO (cSl 9) (aNil))
noncomputable def zlp (r : Bool) : List (V U) × List (Blk U) := ([vO cBool r], [])
noncomputable def zje : List (V U) → List (Blk U) → Option (FnOut U) := mkSpec zsz bNil (fun x _ => zct none x.1 x.2.1) zlp
noncomputable def z13t (x : ((List (List UInt8)) × Unit) × ((List (List UInt8)) × Unit) × (Int × Unit) × Unit) (_g : Unit) : z20 := z20.mk x.1.1 x.2.1.1 x.2.2.1.1
noncomputable def z1am : Tms U (((List (List UInt8)) × Unit) × ((List (List UInt8)) × Unit) × (Int × Unit) × Unit) := tO 0 (cPair (cSl 9) (cUnit)) (tO 1 (cPair (cSl 9) (cUnit)) (tO 5 (cPair (cInt .i64) (cUnit)) (tNil)))
noncomputable def z167 : Bls U (Unit) := bNil
noncomputable def zj8 (s : z20) : St U := { tm := [(0, .v (vO (cPair (cSl 9) (cUnit)) (s.t0, ()))), (1, .v (vO (cPair (cSl 9) (cUnit)) (s.t1, ()))), (5, .v (vO (cPair (cInt .i64) (cUnit)) (s.t5, ())))], hp := [] }
noncomputable def z19y : (Bool ⊕ Unit) → Ex × St U
  | .inl r => (.ret, { tm := [(4, .v (vO (cPair cBool (cUnit)) (r, ())))], hp := [] })
  | .inr r => (.exit 0, { tm := [], hp := [] })
noncomputable def z14a (y : (Bool ⊕ Unit)) : Tree (Ex × St U) := .ite y.isLeft (.opt Bool y.getLeft? fun r => .leaf (.ret, { tm := [(4, .v (vO (cPair cBool (cUnit)) (r, ())))], hp := [] })) (.opt Unit y.getRight? fun r => .leaf (.exit 0, { tm := [], hp := [] }))
noncomputable def zr6 : Hd := { keep := [0, 1, 5], xkeep := [4], own := false }
noncomputable def zd8 : Env U := { P := Tryz.prog, cd := cd, fns := fns35, lps := (addL 0 zr6 (mkLoop z1am z167 z13t (zg8 none) z14a) noL), frz := fun _r => false, nt := 26, n0 := 0 }
noncomputable def zud : Code := (loopAt (Tryz.f36.body.getD .skip) 0 0).getD .skip
theorem z1jf (s : z20) : round zd8 zr6 zud 0 (zj8 s) = (z48 s).map (sumE zj8 z19y) := by kernel_rfl
theorem z1bi : LpOk zd8 zud 0 := mkLoop_ok (A := z1am) (B := z167) (f := z13t) (L := zg8 none) (tO_ok (cPair_ok (cSl_ok 9) cUnit_ok) (tO_ok (cPair_ok (cSl_ok 9) cUnit_ok) (tO_ok (cPair_ok (cInt_ok .i64) cUnit_ok) tNil_ok))) bNil_ok (enc := zj8) (out := z14a) (outS := z19y) (step := z48) (fun _ => rfl) (fun _ _ => by kernel_rfl) (by kernel_rfl) (fun b => by cases b <;> rfl) z1jf
theorem z1by (x : (List (List UInt8)) × (List (List UInt8)) × Unit) (g : Unit) : execF zd8 Tryz.f36 (zsz.enc x) (bNil.enc g) = (zdb none x.1 x.2.1).map zlp := by kernel_rfl
theorem z16r : FnOk Tryz.prog cd 36 zje := mk_ok (E := zd8) cd_ok znz Tryz.func36 (by kernel_rfl) (loops_of (addL_ok z1bi noL_ok)) (aO_ok (cSl_ok 9) (aO_ok (cSl_ok 9) (aNil_ok))) bNil_ok (T := fun x _ => zdb none x.1 x.2.1) (fun _ _ => rfl) z1by
noncomputable def fns36 := addF 36 true zje fns35
theorem z1ao : ∀ f q t, fns36 f = some (q, t) → FnOk Tryz.prog cd f t := addF_ok z16r znz
noncomputable def zb9 (q : Option Nat)  : Tree Bool :=
  .opt (Machine × Int) (z9s q (256 : Int) (0 : Int) (1 : Int)) fun r711 =>
    .opt ((List UInt8) × Int) (zar q r711.1) fun r712 =>
      .ite (!decide (r711.2 = (0 : Int)))
        (.leaf (false))
        (.ite (!decide (r712.2 = (0 : Int)))
          (.leaf (false))
          (.ite (decide ((r712.1.length : Int) < (28 : Int)))
            (.leaf (false))
            (.opt (Machine × Int) (zp q r712.1) fun r713 =>
              .ite (decide (0 ≤ (10 : Int)))
                (.ite (decide ((10 : Int) ≤ ((r712.1.length : Nat) : Int)))
                  (.ite (decide (((r712.1.drop (0)).take (((10 : Int)).toNat - 0)).length + ([1] : List UInt8).length ≤ 9223372036854775807))
                    (.ite (decide (0 ≤ (11 : Int)))
                      (.ite (decide ((11 : Int) ≤ ((r712.1.length : Nat) : Int)))
                        (.ite (decide ((((r712.1.drop (0)).take (((10 : Int)).toNat - 0)) ++ ([1] : List UInt8)).length + ((r712.1.drop (((11 : Int)).toNat)).take (r712.1.length - ((11 : Int)).toNat)).length ≤ 9223372036854775807))
                          (.opt (Machine × Int) (zp q ((((r712.1.drop (0)).take (((10 : Int)).toNat - 0)) ++ ([1] : List UInt8)) ++ ((r712.1.drop (((11 : Int)).toNat)).take (r712.1.length - ((11 : Int)).toNat)))) fun r714 =>
                            .opt (Machine × Int) (zp q ([] : List UInt8)) fun r715 =>
                              .ite (decide (0 ≤ (24 : Int)))
                                (.ite (decide ((24 : Int) ≤ ((r712.1.length : Nat) : Int)))
                                  (.ite (decide (((r712.1.drop (0)).take (((24 : Int)).toNat - 0)) = ([69, 77, 85, 49, 0, 0, 0, 0, 0, 0, 0, 0, 0, 0, 0, 0, 0, 0, 0, 0, 0, 0, 0, 0] : List UInt8)))
                                    (.ite (decide (r713.2 = (0 : Int)))
                                      (.opt Bool (z8f q r711.1 r713.1) fun r716 =>
                                        .ite (r716)
                                          (.ite (decide (r714.2 = (10 : Int)))
                                            (.ite (decide (r715.2 = (8 : Int)))
                                              (.opt (List (List UInt8)) (z83 q r711.1 (Machine.mk (Cpu.mk r711.1.cpu.r r711.1.cpu.sP (2 : Int) r711.1.cpu.pSW) r711.1.mem r711.1.bad r711.1.mmu r711.1.clock r711.1.lines r711.1.disk r711.1.tape (1 : Int) r711.1.halted r711.1.waiting r711.1.power r711.1.powerTrap)) fun r717 =>
                                                .opt Bool (zct q r717 ([([67, 112, 117] : List UInt8), ([78, 111, 119] : List UInt8)])) fun r718 =>
                                                  .ite (r718)
                                                    (.opt Bool (z8f q r711.1 (Machine.mk (Cpu.mk r711.1.cpu.r r711.1.cpu.sP (2 : Int) r711.1.cpu.pSW) r711.1.mem r711.1.bad r711.1.mmu r711.1.clock r711.1.lines r711.1.disk r711.1.tape (1 : Int) r711.1.halted r711.1.waiting r711.1.power r711.1.powerTrap)) fun r719 =>
                                                      .leaf (!r719))
                                                    (.leaf (false)))
                                              (.leaf (false)))
                                            (.leaf (false)))
                                          (.leaf (false)))
                                      (.leaf (false)))
                                    (.leaf (false)))
                                  .fail)
                                .fail)
                          .fail)
                        .fail)
                      .fail)
                    .fail)
                  .fail)
                .fail)))
noncomputable def zet (q : Option Nat)  : Option Bool := (zb9 q ).run
noncomputable def z11f : Arg U (Unit) := aNil
noncomputable def z10d (r : Bool) : List (V U) × List (Blk U) := ([vO cBool r], [])
noncomputable def zpb : List (V U) → List (Blk U) → Option (FnOut U) := mkSpec z11f bNil (fun x _ => zet none ) z10d
noncomputable def zte : Env U := { P := Tryz.prog, cd := cd, fns := (addF 36 false (frzSpec zje) fns36), lps := noL, frz := fun _r => false, nt := 88, n0 := 0 }
theorem z1g2 (x : Unit) (g : Unit) : execF zte Tryz.f10 (z11f.enc x) (bNil.enc g) = (zb9 none ).map z10d := by kernel_rfl
theorem z1kf : FnOk Tryz.prog cd 10 zpb := mk_ok (E := zte) cd_ok (addF_ok (fnOk_frz cd_ok (mkSpec_out fun _ => rfl) z16r) z1ao) Tryz.func10 (by kernel_rfl) (noLoops_body (by kernel_rfl)) (aNil_ok) bNil_ok (T := fun x _ => zb9 none ) (fun _ _ => rfl) z1g2
noncomputable def fns10 := addF 10 true zpb fns36
theorem z1d4 : ∀ f q t, fns10 f = some (q, t) → FnOk Tryz.prog cd f t := addF_ok z1kf z1ao
noncomputable def z7t (q : Option Nat) (x0 : (List UInt8)) : Tree Bool :=
  .ite (decide ((20000 : Int) < (x0.length : Int)))
    (.leaf (true))
    (.opt (Machine × Int) (zp q x0) fun r720 =>
      .opt (Machine × Int) (z10 q x0) fun r721 =>
        .opt Bool (zfj q r720.1 r721.1) fun r722 =>
          .ite (r722)
            (.ite (decide (r720.2 = r721.2))
              (.opt Bool (zet q) fun r723 =>
                .leaf (r723))
              (.leaf (false)))
            (.leaf (false)))
noncomputable def z4b (q : Option Nat) (x0 : (List UInt8)) : Option Bool := (z7t q x0).run
noncomputable def zci : Arg U ((List UInt8) × Unit) := aO cStr (aNil)
noncomputable def zqs (r : Bool) : List (V U) × List (Blk U) := ([vO cBool r], [])
noncomputable def z1ml : List (V U) → List (Blk U) → Option (FnOut U) := mkSpec zci bNil (fun x _ => z4b none x.1) zqs
noncomputable def zoe : Env U := { P := Tryz.prog, cd := cd, fns := fns10, lps := noL, frz := fun _r => false, nt := 31, n0 := 0 }
theorem z1cm (x : (List UInt8) × Unit) (g : Unit) : execF zoe Tryz.f3 (zci.enc x) (bNil.enc g) = (z7t none x.1).map zqs := by kernel_rfl
theorem z1cc : FnOk Tryz.prog cd 3 z1ml := mk_ok (E := zoe) cd_ok z1d4 Tryz.func3 (by kernel_rfl) (noLoops_body (by kernel_rfl)) (aO_ok cStr_ok (aNil_ok)) bNil_ok (T := fun x _ => z7t none x.1) (fun _ _ => rfl) z1cm
end Go.Proofs.YtiafliookmnjoaaGreatDoor
