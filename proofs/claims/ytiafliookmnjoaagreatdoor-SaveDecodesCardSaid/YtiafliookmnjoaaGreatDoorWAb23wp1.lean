/- (goes on) -/
import Derived.Test.YtiafliookmnjoaaGreatDoorWAb23wp0
set_option linter.unusedSimpArgs false
namespace Go.Proofs.YtiafliookmnjoaaGreatDoor
open Go Go.Ab
noncomputable def za9 (q : Option Nat) (x0 : (List UInt8)) (x1 : Int) : Tree ((List UInt8) × Int × Int) :=
  .ite (decide (x1 < (0 : Int)))
    (.leaf ((([] : List UInt8), (0 : Int), (1 : Int))))
    (.ite (decide ((x0.length : Int) < x1))
      (.leaf ((([] : List UInt8), (0 : Int), (1 : Int))))
      (.opt (Int × Int × Int) (z4p q x0 x1 (2 : Int)) fun r322 =>
        .ite (!decide (r322.2.2 = (0 : Int)))
          (.leaf ((([] : List UInt8), (0 : Int), r322.2.2)))
          (.ite (decide ((IntKind.wrap .i64 ((x0.length : Int) - r322.2.1)) < r322.1))
            (.leaf ((([] : List UInt8), (0 : Int), (8 : Int))))
            (.ite (decide (0 ≤ IntKind.wrap .i64 (r322.2.1 + r322.1)))
              (.ite (decide (IntKind.wrap .i64 (r322.2.1 + r322.1) ≤ ((x0.length : Nat) : Int)))
                (.ite (decide (0 ≤ r322.2.1))
                  (.ite (decide (r322.2.1 ≤ IntKind.wrap .i64 (r322.2.1 + r322.1)))
                    (.leaf (((x0.drop ((r322.2.1).toNat)).take ((IntKind.wrap .i64 (r322.2.1 + r322.1)).toNat - (r322.2.1).toNat), IntKind.wrap .i64 (r322.2.1 + r322.1), (0 : Int))))
                    .fail)
                  .fail)
                .fail)
              .fail))))
noncomputable def zdm (q : Option Nat) (x0 : (List UInt8)) (x1 : Int) : Option ((List UInt8) × Int × Int) := (za9 q x0 x1).run
noncomputable def zut : Arg U ((List UInt8) × Int × Unit) := aO cStr (aO (cInt .i64) (aNil))
noncomputable def zvh (r : ((List UInt8) × Int × Int)) : List (V U) × List (Blk U) := ([vO cStr r.1, vO (cInt .i64) r.2.1, vO (cInt .i64) r.2.2], [])
noncomputable def zrt : List (V U) → List (Blk U) → Option (FnOut U) := mkSpec zut bNil (fun x _ => zdm none x.1 x.2.1) zvh
noncomputable def zmu : Env U := { P := Tryz.prog, cd := cd, fns := fns57, lps := noL, frz := fun _r => false, nt := 43, n0 := 0 }
theorem z1gh (x : (List UInt8) × Int × Unit) (g : Unit) : execF zmu Tryz.f141 (zut.enc x) (bNil.enc g) = (za9 none x.1 x.2.1).map zvh := by kernel_rfl
theorem z1ki : FnOk Tryz.prog cd 141 zrt := mk_ok (E := zmu) cd_ok z168 Tryz.func141 (by kernel_rfl) (noLoops_body (by kernel_rfl)) (aO_ok cStr_ok (aO_ok (cInt_ok .i64) (aNil_ok))) bNil_ok (T := fun x _ => za9 none x.1 x.2.1) (fun _ _ => rfl) z1gh
noncomputable def fns141 := addF 141 true zrt fns57
theorem zos : ∀ f q t, fns141 f = some (q, t) → FnOk Tryz.prog cd f t := addF_ok z1ki z168
noncomputable def z6a (q : Option Nat) (x0 : Reader) : Tree (Reader × (List UInt8)) :=
  .opt ((List UInt8) × Int × Int) (zdm q x0.s (0 : Int)) fun r323 =>
    .ite (!decide (r323.2.2 = (0 : Int)))
      (.leaf ((Reader.mk ([]) true, ([] : List UInt8))))
      (.ite (decide (0 ≤ r323.2.1))
        (.ite (decide (r323.2.1 ≤ ((x0.s.length : Nat) : Int)))
          (.leaf ((Reader.mk ((x0.s.drop ((r323.2.1).toNat)).take (x0.s.length - (r323.2.1).toNat)) x0.bad, r323.1)))
          .fail)
        .fail)
noncomputable def z47 (q : Option Nat) (x0 : Reader) : Option (Reader × (List UInt8)) := (z6a q x0).run
noncomputable def z11q : Arg U (Reader × Unit) := aA cReader (aNil)
noncomputable def zrx (r : (Reader × (List UInt8))) : List (V U) × List (Blk U) := ([vA cReader r.1, vO cStr r.2], [])
noncomputable def zoa : List (V U) → List (Blk U) → Option (FnOut U) := mkSpec z11q bNil (fun x _ => z47 none x.1) zrx
noncomputable def z17v : Env U := { P := Tryz.prog, cd := cd, fns := fns141, lps := noL, frz := fun _r => false, nt := 25, n0 := 0 }
theorem z1h1 (x : Reader × Unit) (g : Unit) : execF z17v Tryz.f116 (z11q.enc x) (bNil.enc g) = (z6a none x.1).map zrx := by kernel_rfl
theorem z1lo : FnOk Tryz.prog cd 116 zoa := mk_ok (E := z17v) cd_ok zos Tryz.func116 (by kernel_rfl) (noLoops_body (by kernel_rfl)) (aA_ok zi (aNil_ok)) bNil_ok (T := fun x _ => z6a none x.1) (fun _ _ => rfl) z1h1
noncomputable def fns116 := addF 116 true zoa fns141
theorem z196 : ∀ f q t, fns116 f = some (q, t) → FnOk Tryz.prog cd f t := addF_ok z1lo zos
structure z2t where
  t4 : Int
  t6 : Int
  b0 : Reader
  b1 : Reader
  b2 : (List Line)
noncomputable def z3p (q : Option Nat) (s : z2t) : Tree (z2t ⊕ (Reader × Reader × (List Line))) :=
  .ite (decide (s.t6 < s.t4))
    (.ite (!s.b0.bad)
      (.opt (Reader × Bool) (zh q s.b0) fun r325 =>
        .opt (Reader × Bool) (zh q r325.1) fun r326 =>
          .opt (Reader × Bool) (zh q r326.1) fun r327 =>
            .opt (Reader × Int) (z7 q r327.1 (1 : Int)) fun r328 =>
              .opt (Reader × Bool) (zh q r328.1) fun r329 =>
                .opt (Reader × Bool) (zh q r329.1) fun r330 =>
                  .opt (Reader × Int) (z7 q r330.1 (1 : Int)) fun r331 =>
                    .opt (Reader × Int) (z7 q r331.1 (1 : Int)) fun r332 =>
                      .opt (Reader × (List UInt8)) (z47 q r332.1) fun r333 =>
                        .ite (decide ((s.b2.length + ([Line.mk r325.2 r326.2 r327.2 r328.2 r329.2 r330.2 r331.2 r332.2 r333.2]).length) * 56 ≤ 140737488355328))
                          (.leaf (.inl (z2t.mk s.t4 (IntKind.wrap .i64 (s.t6 + (1 : Int))) r333.1 s.b1 (s.b2 ++ ([Line.mk r325.2 r326.2 r327.2 r328.2 r329.2 r330.2 r331.2 r332.2 r333.2])))))
                          .fail)
      (.leaf (.inr (s.b0, s.b1, s.b2))))
    (.leaf (.inr (s.b0, s.b1, s.b2)))
noncomputable def z3q (q : Option Nat) (s : z2t) : Option (Reader × Reader × (List Line)) := limQ q (fun s => (z3p q s).run) s
noncomputable def za6 (q : Option Nat) (x0 : Reader) : Tree (Reader × (List Line)) :=
  .opt (Reader × Int) (z7 q x0 (2 : Int)) fun r324 =>
    .opt (Reader × Reader × (List Line)) (z3q q (z2t.mk r324.2 (0 : Int) r324.1 (Reader.mk ([]) false) ([]))) fun l334 =>
      .leaf ((l334.1, l334.2.2))
noncomputable def zdq (q : Option Nat) (x0 : Reader) : Option (Reader × (List Line)) := (za6 q x0).run
noncomputable def zzm : Arg U (Reader × Unit) := aA cReader (aNil)
noncomputable def zom (r : (Reader × (List Line))) : List (V U) × List (Blk U) := ([vA cReader r.1, vO (cSl 66) r.2], [])
noncomputable def zp1 : List (V U) → List (Blk U) → Option (FnOut U) := mkSpec zzm bNil (fun x _ => zdq none x.1) zom
noncomputable def zop (x : (Unit) × (Unit) × (Int × Unit) × (Unit) × (Int × Unit) × Unit) (g : (Reader × Unit) × (Reader × Unit) × (List Line) × Unit) : z2t := z2t.mk x.2.2.1.1 x.2.2.2.2.1.1 g.1.1 g.2.1.1 g.2.2.1
noncomputable def z178 : Tms U ((Unit) × (Unit) × (Int × Unit) × (Unit) × (Int × Unit) × Unit) := tO 1 (cK (.ptr 0 0) (cUnit)) (tO 2 (cK (.ptr 1 0) (cUnit)) (tO 4 (cPair (cInt .i64) (cUnit)) (tO 5 (cK (.row 2 0) (cUnit)) (tO 6 (cPair (cInt .i64) (cUnit)) (tNil)))))
noncomputable def zqx : Bls U ((Reader × Unit) × (Reader × Unit) × (List Line) × Unit) := bC (cPair cReader (cUnit)) (bC (cPair cReader (cUnit)) (bRv 66 0 (bNil)))
noncomputable def zgv (s : z2t) : St U := { tm := [(1, .v (vO (cK (.ptr 0 0) (cUnit)) (()))), (2, .v (vO (cK (.ptr 1 0) (cUnit)) (()))), (4, .v (vO (cPair (cInt .i64) (cUnit)) (s.t4, ()))), (5, .v (vO (cK (.row 2 0) (cUnit)) (()))), (6, .v (vO (cPair (cInt .i64) (cUnit)) (s.t6, ())))], hp := [.cells ((cPair cReader (cUnit) : Cdc U (Reader × Unit)).enc (s.b0, ())) none, .cells ((cPair cReader (cUnit) : Cdc U (Reader × Unit)).enc (s.b1, ())) none, .row 66 0 s.b2] }
noncomputable def zgp (r : (Reader × Reader × (List Line))) : Ex × St U := (.exit 0, { tm := [(1, .v (vO (cK (.ptr 0 0) (cUnit)) (()))), (2, .v (vO (cK (.ptr 1 0) (cUnit)) (()))), (5, .v (vO (cK (.row 2 0) (cUnit)) (())))], hp := [.cells ((cPair cReader (cUnit) : Cdc U (Reader × Unit)).enc (r.1, ())) none, .cells ((cPair cReader (cUnit) : Cdc U (Reader × Unit)).enc (r.2.1, ())) none, .row 66 0 r.2.2] })
noncomputable def z16e (r : (Reader × Reader × (List Line))) : Tree (Ex × St U) := .leaf (zgp r)
noncomputable def zz3 : Hd := { keep := [1, 2, 4, 5, 6], xkeep := [1, 2, 3, 5], own := true }
noncomputable def zbb : Env U := { P := Tryz.prog, cd := cd, fns := fns116, lps := (addL 0 zz3 (mkLoop z178 zqx zop (z3q none) z16e) noL), frz := fun _r => false, nt := 83, n0 := 0 }
noncomputable def zo1 : Code := (loopAt (Tryz.f60.body.getD .skip) 0 0).getD .skip
theorem z1fp (s : z2t) : round zbb zz3 zo1 0 (zgv s) = (z3p none s).map (sumE zgv zgp) := by kernel_rfl
theorem z1hs : LpOk zbb zo1 0 := mkLoop_ok (A := z178) (B := zqx) (f := zop) (L := z3q none) (tO_ok (cK_ok cUnit_ok) (tO_ok (cK_ok cUnit_ok) (tO_ok (cPair_ok (cInt_ok .i64) cUnit_ok) (tO_ok (cK_ok cUnit_ok) (tO_ok (cPair_ok (cInt_ok .i64) cUnit_ok) tNil_ok))))) (bC_ok (cPair_ok zi cUnit_ok) (bC_ok (cPair_ok zi cUnit_ok) (bRv_ok bNil_ok))) (enc := zgv) (out := z16e) (outS := zgp) (step := z3p none) (fun _ => rfl) (fun _ _ => by kernel_rfl) (by kernel_rfl) (fun _ => rfl) z1fp
theorem z1f5 (x : Reader × Unit) (g : Unit) : execF zbb Tryz.f60 (zzm.enc x) (bNil.enc g) = (za6 none x.1).map zom := by kernel_rfl
theorem z1gp : FnOk Tryz.prog cd 60 zp1 := mk_ok (E := zbb) cd_ok z196 Tryz.func60 (by kernel_rfl) (loops_of (addL_ok z1hs noL_ok)) (aA_ok zi (aNil_ok)) bNil_ok (T := fun x _ => za6 none x.1) (fun _ _ => rfl) z1f5
noncomputable def fns60 := addF 60 true zp1 fns116
theorem zs8 : ∀ f q t, fns60 f = some (q, t) → FnOk Tryz.prog cd f t := addF_ok z1gp z196
structure z1v where
  t4 : Int
  t6 : Int
  b0 : Reader
  b1 : Reader
  b2 : (List (List UInt8))
noncomputable def z3m (q : Option Nat) (s : z1v) : Tree (z1v ⊕ (Reader × Reader × (List (List UInt8)))) :=
  .ite (decide (s.t6 < s.t4))
    (.ite (!s.b0.bad)
      (.opt (Reader × (List UInt8)) (z47 q s.b0) fun r336 =>
        .ite (decide ((s.b2.length + ([r336.2]).length) * 16 ≤ 140737488355328))
          (.leaf (.inl (z1v.mk s.t4 (IntKind.wrap .i64 (s.t6 + (1 : Int))) r336.1 s.b1 (s.b2 ++ ([r336.2])))))
          .fail)
      (.leaf (.inr (s.b0, s.b1, s.b2))))
    (.leaf (.inr (s.b0, s.b1, s.b2)))
noncomputable def z4s (q : Option Nat) (s : z1v) : Option (Reader × Reader × (List (List UInt8))) := limQ q (fun s => (z3m q s).run) s
noncomputable def zc5 (q : Option Nat) (x0 : Reader) : Tree (Reader × (List (List UInt8))) :=
  .opt (Reader × Int) (z7 q x0 (2 : Int)) fun r335 =>
    .opt (Reader × Reader × (List (List UInt8))) (z4s q (z1v.mk r335.2 (0 : Int) r335.1 (Reader.mk ([]) false) ([]))) fun l337 =>
      .leaf ((l337.1, l337.2.2))
noncomputable def z8c (q : Option Nat) (x0 : Reader) : Option (Reader × (List (List UInt8))) := (zc5 q x0).run
noncomputable def z190 : Arg U (Reader × Unit) := aA cReader (aNil)
noncomputable def z175 (r : (Reader × (List (List UInt8)))) : List (V U) × List (Blk U) := ([vA cReader r.1, vO (cSl 9) r.2], [])
noncomputable def z18y : List (V U) → List (Blk U) → Option (FnOut U) := mkSpec z190 bNil (fun x _ => z8c none x.1) z175
noncomputable def z153 (x : (Unit) × (Unit) × (Int × Unit) × (Unit) × (Int × Unit) × Unit) (g : (Reader × Unit) × (Reader × Unit) × (List (List UInt8)) × Unit) : z1v := z1v.mk x.2.2.1.1 x.2.2.2.2.1.1 g.1.1 g.2.1.1 g.2.2.1
noncomputable def z18l : Tms U ((Unit) × (Unit) × (Int × Unit) × (Unit) × (Int × Unit) × Unit) := tO 1 (cK (.ptr 0 0) (cUnit)) (tO 2 (cK (.ptr 1 0) (cUnit)) (tO 4 (cPair (cInt .i64) (cUnit)) (tO 5 (cK (.row 2 0) (cUnit)) (tO 6 (cPair (cInt .i64) (cUnit)) (tNil)))))
noncomputable def zo7 : Bls U ((Reader × Unit) × (Reader × Unit) × (List (List UInt8)) × Unit) := bC (cPair cReader (cUnit)) (bC (cPair cReader (cUnit)) (bRv 9 0 (bNil)))
noncomputable def zjw (s : z1v) : St U := { tm := [(1, .v (vO (cK (.ptr 0 0) (cUnit)) (()))), (2, .v (vO (cK (.ptr 1 0) (cUnit)) (()))), (4, .v (vO (cPair (cInt .i64) (cUnit)) (s.t4, ()))), (5, .v (vO (cK (.row 2 0) (cUnit)) (()))), (6, .v (vO (cPair (cInt .i64) (cUnit)) (s.t6, ())))], hp := [.cells ((cPair cReader (cUnit) : Cdc U (Reader × Unit)).enc (s.b0, ())) none, .cells ((cPair cReader (cUnit) : Cdc U (Reader × Unit)).enc (s.b1, ())) none, .row 9 0 s.b2] }
noncomputable def zj9 (r : (Reader × Reader × (List (List UInt8)))) : Ex × St U := (.exit 0, { tm := [(1, .v (vO (cK (.ptr 0 0) (cUnit)) (()))), (2, .v (vO (cK (.ptr 1 0) (cUnit)) (()))), (5, .v (vO (cK (.row 2 0) (cUnit)) (())))], hp := [.cells ((cPair cReader (cUnit) : Cdc U (Reader × Unit)).enc (r.1, ())) none, .cells ((cPair cReader (cUnit) : Cdc U (Reader × Unit)).enc (r.2.1, ())) none, .row 9 0 r.2.2] })
noncomputable def zso (r : (Reader × Reader × (List (List UInt8)))) : Tree (Ex × St U) := .leaf (zj9 r)
noncomputable def zq0 : Hd := { keep := [1, 2, 4, 5, 6], xkeep := [1, 2, 3, 5], own := true }
noncomputable def zbc : Env U := { P := Tryz.prog, cd := cd, fns := fns60, lps := (addL 0 zq0 (mkLoop z18l zo7 z153 (z4s none) zso) noL), frz := fun _r => false, nt := 36, n0 := 0 }
noncomputable def zuq : Code := (loopAt (Tryz.f117.body.getD .skip) 0 0).getD .skip
theorem z1es (s : z1v) : round zbc zq0 zuq 0 (zjw s) = (z3m none s).map (sumE zjw zj9) := by kernel_rfl
theorem z1kk : LpOk zbc zuq 0 := mkLoop_ok (A := z18l) (B := zo7) (f := z153) (L := z4s none) (tO_ok (cK_ok cUnit_ok) (tO_ok (cK_ok cUnit_ok) (tO_ok (cPair_ok (cInt_ok .i64) cUnit_ok) (tO_ok (cK_ok cUnit_ok) (tO_ok (cPair_ok (cInt_ok .i64) cUnit_ok) tNil_ok))))) (bC_ok (cPair_ok zi cUnit_ok) (bC_ok (cPair_ok zi cUnit_ok) (bRv_ok bNil_ok))) (enc := zjw) (out := zso) (outS := zj9) (step := z3m none) (fun _ => rfl) (fun _ _ => by kernel_rfl) (by kernel_rfl) (fun _ => rfl) z1es
theorem z1ih (x : Reader × Unit) (g : Unit) : execF zbc Tryz.f117 (z190.enc x) (bNil.enc g) = (zc5 none x.1).map z175 := by kernel_rfl
theorem z1go : FnOk Tryz.prog cd 117 z18y := mk_ok (E := zbc) cd_ok zs8 Tryz.func117 (by kernel_rfl) (loops_of (addL_ok z1kk noL_ok)) (aA_ok zi (aNil_ok)) bNil_ok (T := fun x _ => zc5 none x.1) (fun _ _ => rfl) z1ih
noncomputable def fns117 := addF 117 true z18y fns60
theorem zxx : ∀ f q t, fns117 f = some (q, t) → FnOk Tryz.prog cd f t := addF_ok z1go zs8
noncomputable def zeu (q : Option Nat) (x0 : Reader) : Tree (Reader × Disk) :=
  .opt (Reader × (List (List UInt8))) (z8c q x0) fun r338 =>
    .opt (Reader × (List Int)) (z5l q r338.1) fun r339 =>
      .opt (Reader × Bool) (zh q r339.1) fun r340 =>
        .opt (Reader × Bool) (zh q r340.1) fun r341 =>
          .opt (Reader × Bool) (zh q r341.1) fun r342 =>
            .opt (Reader × Int) (z7 q r342.1 (1 : Int)) fun r343 =>
              .opt (Reader × Int) (z7 q r343.1 (2 : Int)) fun r344 =>
                .opt (Reader × Int) (z7 q r344.1 (2 : Int)) fun r345 =>
                  .opt (Reader × Int) (z7 q r345.1 (2 : Int)) fun r346 =>
                    .opt (Reader × Int) (z7 q r346.1 (1 : Int)) fun r347 =>
                      .leaf ((r347.1, Disk.mk (Drive.mk r338.2 r339.2) r340.2 r341.2 r342.2 r343.2 r344.2 r345.2 r346.2 r347.2))
noncomputable def zdo (q : Option Nat) (x0 : Reader) : Option (Reader × Disk) := (zeu q x0).run
noncomputable def z13d : Arg U (Reader × Unit) := aA cReader (aNil)
noncomputable def z17x (r : (Reader × Disk)) : List (V U) × List (Blk U) := ([vA cReader r.1, vA cDisk r.2], [])
noncomputable def zxc : List (V U) → List (Blk U) → Option (FnOut U) := mkSpec z13d bNil (fun x _ => zdo none x.1) z17x
noncomputable def zwy : Env U := { P := Tryz.prog, cd := cd, fns := fns117, lps := noL, frz := fun _r => false, nt := 69, n0 := 0, fps := fun _r _i => bif Nat.beq _r 12 && Nat.beq _i 1 then .rd [3] else bif Nat.beq _r 12 && Nat.beq _i 2 then .wr [1] 4 else .none }
theorem z1br (x : Reader × Unit) (g : Unit) : execF zwy Tryz.f61 (z13d.enc x) (bNil.enc g) = (zeu none x.1).map z17x := by kernel_rfl
theorem z1cp : FnOk Tryz.prog cd 61 zxc := mk_ok (E := zwy) cd_ok zxx Tryz.func61 (by kernel_rfl) (noLoops_body (by kernel_rfl)) (aA_ok zi (aNil_ok)) bNil_ok (T := fun x _ => zeu none x.1) (fun _ _ => rfl) z1br
noncomputable def fns61 := addF 61 true zxc fns117
theorem zme : ∀ f q t, fns61 f = some (q, t) → FnOk Tryz.prog cd f t := addF_ok z1cp zxx
noncomputable def zg9 (q : Option Nat) (x0 : Reader) : Tree (Reader × Tape) :=
  .opt (Reader × (List (List UInt8))) (z8c q x0) fun r348 =>
    .opt (Reader × Int) (z7 q r348.1 (1 : Int)) fun r349 =>
      .opt (Reader × Bool) (zh q r349.1) fun r350 =>
        .opt (Reader × Bool) (zh q r350.1) fun r351 =>
          .opt (Reader × Bool) (zh q r351.1) fun r352 =>
            .opt (Reader × Bool) (zh q r352.1) fun r353 =>
              .opt (Reader × Bool) (zh q r353.1) fun r354 =>
                .opt (Reader × Int) (z7 q r354.1 (1 : Int)) fun r355 =>
                  .opt (Reader × Int) (z7 q r355.1 (2 : Int)) fun r356 =>
                    .opt (Reader × Int) (z7 q r356.1 (2 : Int)) fun r357 =>
                      .opt (Reader × Int) (z7 q r357.1 (1 : Int)) fun r358 =>
                        .leaf ((r358.1, Tape.mk r348.2 r349.2 r350.2 r351.2 r352.2 r353.2 r354.2 r355.2 r356.2 r357.2 r358.2))
noncomputable def zbu (q : Option Nat) (x0 : Reader) : Option (Reader × Tape) := (zg9 q x0).run
noncomputable def zq5 : Arg U (Reader × Unit) := aA cReader (aNil)
noncomputable def z16i (r : (Reader × Tape)) : List (V U) × List (Blk U) := ([vA cReader r.1, vA cTape r.2], [])
noncomputable def z1as : List (V U) → List (Blk U) → Option (FnOut U) := mkSpec zq5 bNil (fun x _ => zbu none x.1) z16i
noncomputable def zmr : Env U := { P := Tryz.prog, cd := cd, fns := fns61, lps := noL, frz := fun _r => false, nt := 73, n0 := 0, fps := fun _r _i => bif Nat.beq _r 13 && Nat.beq _i 1 then .rd [3] else bif Nat.beq _r 13 && Nat.beq _i 2 then .wr [1] 4 else .none }
theorem z1io (x : Reader × Unit) (g : Unit) : execF zmr Tryz.f62 (zq5.enc x) (bNil.enc g) = (zg9 none x.1).map z16i := by kernel_rfl
theorem z1dp : FnOk Tryz.prog cd 62 z1as := mk_ok (E := zmr) cd_ok zme Tryz.func62 (by kernel_rfl) (noLoops_body (by kernel_rfl)) (aA_ok zi (aNil_ok)) bNil_ok (T := fun x _ => zg9 none x.1) (fun _ _ => rfl) z1io
noncomputable def fns62 := addF 62 true z1as fns61
theorem z10r : ∀ f q t, fns62 f = some (q, t) → FnOk Tryz.prog cd f t := addF_ok z1dp zme
noncomputable def za2 (q : Option Nat) (x0 : Reader) : Tree (Reader × Machine) :=
  .opt (Reader × Cpu) (zai q x0) fun r359 =>
    .opt (Reader × (List Int)) (z5l q r359.1) fun r360 =>
      .opt (Reader × (List Int)) (z5l q r360.1) fun r361 =>
        .opt (Reader × Mmu) (zfk q r361.1) fun r362 =>
          .opt (Reader × Bool) (zh q r362.1) fun r363 =>
            .opt (Reader × Bool) (zh q r363.1) fun r364 =>
              .opt (Reader × Int) (z7 q r364.1 (2 : Int)) fun r365 =>
                .opt (Reader × Int) (z7 q r365.1 (2 : Int)) fun r366 =>
                  .opt (Reader × (List Line)) (zdq q r366.1) fun r367 =>
                    .opt (Reader × Disk) (zdo q r367.1) fun r368 =>
                      .opt (Reader × Tape) (zbu q r368.1) fun r369 =>
                        .opt (Reader × Int) (z7 q r369.1 (6 : Int)) fun r370 =>
                          .opt (Reader × Bool) (zh q r370.1) fun r371 =>
                            .opt (Reader × Bool) (zh q r371.1) fun r372 =>
                              .opt (Reader × Int) (z7 q r372.1 (2 : Int)) fun r373 =>
                                .opt (Reader × Bool) (zh q r373.1) fun r374 =>
                                  .leaf ((r374.1, Machine.mk r359.2 r360.2 r361.2 r362.2 (Clock.mk r363.2 r364.2 r365.2 r366.2) r367.2 r368.2 r369.2 r370.2 r371.2 r372.2 r373.2 r374.2))
noncomputable def zdt (q : Option Nat) (x0 : Reader) : Option (Reader × Machine) := (za2 q x0).run
noncomputable def zok : Arg U (Reader × Unit) := aA cReader (aNil)
noncomputable def zpa (r : (Reader × Machine)) : List (V U) × List (Blk U) := ([vA cReader r.1, vA cMachine r.2], [])
noncomputable def zq3 : List (V U) → List (Blk U) → Option (FnOut U) := mkSpec zok bNil (fun x _ => zdt none x.1) zpa
noncomputable def z12n : Env U := { P := Tryz.prog, cd := cd, fns := fns62, lps := noL, frz := fun _r => false, nt := 107, n0 := 0, fps := fun _r _i => bif Nat.beq _r 18 && Nat.beq _i 1 then .rd [3] else bif Nat.beq _r 18 && Nat.beq _i 2 then .wr [1] 4 else .none }
theorem z1mb (x : Reader × Unit) (g : Unit) : execF z12n Tryz.f32 (zok.enc x) (bNil.enc g) = (za2 none x.1).map zpa := by kernel_rfl
theorem z1im : FnOk Tryz.prog cd 32 zq3 := mk_ok (E := z12n) cd_ok z10r Tryz.func32 (by kernel_rfl) (noLoops_body (by kernel_rfl)) (aA_ok zi (aNil_ok)) bNil_ok (T := fun x _ => za2 none x.1) (fun _ _ => rfl) z1mb
noncomputable def fns32 := addF 32 true zq3 fns62
theorem zvq : ∀ f q t, fns32 f = some (q, t) → FnOk Tryz.prog cd f t := addF_ok z1im z10r
structure z32 where
  t3 : (List UInt8)
  t4 : Int
  b0 : Cpu
noncomputable def z6n (q : Option Nat) (s : z32) : Tree (z32 ⊕ ((List UInt8) × Cpu)) :=
  .ite (decide (s.t4 < (6 : Int)))
    (.ite (decide (0 ≤ s.t4))
      (.ite (decide (s.t4 < (6 : Int)))
        (.opt Int (s.b0.r[(s.t4).toNat * 1]?) fun y375 =>
          .opt (List UInt8) (z8 q y375 (2 : Int)) fun r376 =>
            .ite (decide (s.t3.length + r376.length ≤ 9223372036854775807))
              (.leaf (.inl (z32.mk (s.t3 ++ r376) (IntKind.wrap .i64 (s.t4 + (1 : Int))) s.b0)))
              .fail)
        .fail)
      .fail)
    (.leaf (.inr (s.t3, s.b0)))
noncomputable def z7j (q : Option Nat) (s : z32) : Option ((List UInt8) × Cpu) := limQ q (fun s => (z6n q s).run) s
noncomputable def zdp (q : Option Nat) (x0 : Cpu) : Tree (List UInt8) :=
  .opt ((List UInt8) × Cpu) (z7j q (z32.mk ([] : List UInt8) (0 : Int) x0)) fun l377 =>
    .ite (decide (0 ≤ (0 : Int)))
      (.ite (decide ((0 : Int) < (2 : Int)))
        (.opt Int (l377.2.sP[((0 : Int)).toNat * 1]?) fun y378 =>
          .opt (List UInt8) (z8 q y378 (2 : Int)) fun r379 =>
            .ite (decide (l377.1.length + r379.length ≤ 9223372036854775807))
              (.ite (decide (0 ≤ (1 : Int)))
                (.ite (decide ((1 : Int) < (2 : Int)))
                  (.opt Int (l377.2.sP[((1 : Int)).toNat * 1]?) fun y380 =>
                    .opt (List UInt8) (z8 q y380 (2 : Int)) fun r381 =>
                      .ite (decide ((l377.1 ++ r379).length + r381.length ≤ 9223372036854775807))
                        (.opt (List UInt8) (z8 q l377.2.pC (2 : Int)) fun r382 =>
                          .ite (decide (((l377.1 ++ r379) ++ r381).length + r382.length ≤ 9223372036854775807))
                            (.opt (List UInt8) (z8 q l377.2.pSW (2 : Int)) fun r383 =>
                              .ite (decide ((((l377.1 ++ r379) ++ r381) ++ r382).length + r383.length ≤ 9223372036854775807))
                                (.leaf ((((l377.1 ++ r379) ++ r381) ++ r382) ++ r383))
                                .fail)
                            .fail)
                        .fail)
                  .fail)
                .fail)
              .fail)
        .fail)
      .fail
noncomputable def z9f (q : Option Nat) (x0 : Cpu) : Option (List UInt8) := (zdp q x0).run
noncomputable def zz6 : Arg U (Cpu × Unit) := aA cCpu (aNil)
noncomputable def zx4 (r : (List UInt8)) : List (V U) × List (Blk U) := ([vO cStr r], [])
noncomputable def zxl : List (V U) → List (Blk U) → Option (FnOut U) := mkSpec zz6 bNil (fun x _ => z9f none x.1) zx4
noncomputable def zyh (x : (Unit) × ((List UInt8) × Unit) × (Int × Unit) × Unit) (g : (Cpu × Unit) × Unit) : z32 := z32.mk x.2.1.1 x.2.2.1.1 g.1.1
noncomputable def zx7 : Tms U ((Unit) × ((List UInt8) × Unit) × (Int × Unit) × Unit) := tO 1 (cK (.ptr 0 0) (cUnit)) (tO 3 (cPair cStr (cUnit)) (tO 4 (cPair (cInt .i64) (cUnit)) (tNil)))
noncomputable def zm5 : Bls U ((Cpu × Unit) × Unit) := bC (cPair cCpu (cUnit)) (bNil)
noncomputable def zi2 (s : z32) : St U := { tm := [(1, .v (vO (cK (.ptr 0 0) (cUnit)) (()))), (3, .v (vO (cPair cStr (cUnit)) (s.t3, ()))), (4, .v (vO (cPair (cInt .i64) (cUnit)) (s.t4, ())))], hp := [.cells ((cPair cCpu (cUnit) : Cdc U (Cpu × Unit)).enc (s.b0, ())) none] }
noncomputable def zis (r : ((List UInt8) × Cpu)) : Ex × St U := (.exit 0, { tm := [(1, .v (vO (cK (.ptr 0 0) (cUnit)) (()))), (3, .v (vO (cPair cStr (cUnit)) (r.1, ())))], hp := [.cells ((cPair cCpu (cUnit) : Cdc U (Cpu × Unit)).enc (r.2, ())) none] })
noncomputable def z10u (r : ((List UInt8) × Cpu)) : Tree (Ex × St U) := .leaf (zis r)
noncomputable def z16p : Hd := { keep := [1, 3, 4], xkeep := [1, 2, 3], own := false }
noncomputable def zen : Env U := { P := Tryz.prog, cd := cd, fns := fns32, lps := (addL 0 z16p (mkLoop zx7 zm5 zyh (z7j none) z10u) noL), frz := fun _r => false, nt := 35, n0 := 0 }
noncomputable def zxd : Code := (loopAt (Tryz.f63.body.getD .skip) 0 0).getD .skip
theorem z1g1 (s : z32) : round zen z16p zxd 0 (zi2 s) = (z6n none s).map (sumE zi2 zis) := by kernel_rfl
theorem z1lc : LpOk zen zxd 0 := mkLoop_ok (A := zx7) (B := zm5) (f := zyh) (L := z7j none) (tO_ok (cK_ok cUnit_ok) (tO_ok (cPair_ok cStr_ok cUnit_ok) (tO_ok (cPair_ok (cInt_ok .i64) cUnit_ok) tNil_ok))) (bC_ok (cPair_ok zu cUnit_ok) bNil_ok) (enc := zi2) (out := z10u) (outS := zis) (step := z6n none) (fun _ => rfl) (fun _ _ => by kernel_rfl) (by kernel_rfl) (fun _ => rfl) z1g1
theorem z1f6 (x : Cpu × Unit) (g : Unit) : execF zen Tryz.f63 (zz6.enc x) (bNil.enc g) = (zdp none x.1).map zx4 := by kernel_rfl
theorem z1h5 : FnOk Tryz.prog cd 63 zxl := mk_ok (E := zen) cd_ok zvq Tryz.func63 (by kernel_rfl) (loops_of (addL_ok z1lc noL_ok)) (aA_ok zu (aNil_ok)) bNil_ok (T := fun x _ => zdp none x.1) (fun _ _ => rfl) z1f6
noncomputable def fns63 := addF 63 true zxl fns32
theorem z12y : ∀ f q t, fns63 f = some (q, t) → FnOk Tryz.prog cd f t := addF_ok z1h5 zvq
structure z2a where
  t0 : (List Int)
  t3 : (List UInt8)
  t4 : Int
noncomputable def z6f (q : Option Nat) (s : z2a) : Tree (z2a ⊕ (List UInt8)) :=
  .ite (decide (s.t4 < (s.t0.length : Int)))
    (.ite (decide (0 ≤ s.t4))
      (.opt Int (s.t0[(s.t4).toNat]?) fun y385 =>
        .opt (List UInt8) (z8 q y385 (2 : Int)) fun r386 =>
          .ite (decide (s.t3.length + r386.length ≤ 9223372036854775807))
            (.leaf (.inl (z2a.mk s.t0 (s.t3 ++ r386) (IntKind.wrap .i64 (s.t4 + (1 : Int))))))
            .fail)
      .fail)
    (.leaf (.inr s.t3))
noncomputable def z9m (q : Option Nat) (s : z2a) : Option (List UInt8) := limQ q (fun s => (z6f q s).run) s
noncomputable def zd9 (q : Option Nat) (x0 : (List Int)) : Tree (List UInt8) :=
  .opt (List UInt8) (z8 q (x0.length : Int) (2 : Int)) fun r384 =>
    .opt (List UInt8) (z9m q (z2a.mk x0 r384 (0 : Int))) fun l387 =>
      .leaf (l387)
noncomputable def z1w (q : Option Nat) (x0 : (List Int)) : Option (List UInt8) := (zd9 q x0).run
noncomputable def z1a5 : Arg U ((List Int) × Unit) := aO (cSl 3) (aNil)
noncomputable def zuj (r : (List UInt8)) : List (V U) × List (Blk U) := ([vO cStr r], [])
noncomputable def zqy : List (V U) → List (Blk U) → Option (FnOut U) := mkSpec z1a5 bNil (fun x _ => z1w none x.1) zuj
noncomputable def zna (x : ((List Int) × Unit) × ((List UInt8) × Unit) × (Int × Unit) × Unit) (_g : Unit) : z2a := z2a.mk x.1.1 x.2.1.1 x.2.2.1.1
noncomputable def z1ah : Tms U (((List Int) × Unit) × ((List UInt8) × Unit) × (Int × Unit) × Unit) := tO 0 (cPair (cSl 3) (cUnit)) (tO 3 (cPair cStr (cUnit)) (tO 4 (cPair (cInt .i64) (cUnit)) (tNil)))
noncomputable def zqj : Bls U (Unit) := bNil
noncomputable def zjr (s : z2a) : St U := { tm := [(0, .v (vO (cPair (cSl 3) (cUnit)) (s.t0, ()))), (3, .v (vO (cPair cStr (cUnit)) (s.t3, ()))), (4, .v (vO (cPair (cInt .i64) (cUnit)) (s.t4, ())))], hp := [] }
noncomputable def zh1 (r : (List UInt8)) : Ex × St U := (.exit 0, { tm := [(3, .v (vO (cPair cStr (cUnit)) (r, ())))], hp := [] })
noncomputable def zu7 (r : (List UInt8)) : Tree (Ex × St U) := .leaf (zh1 r)
noncomputable def z155 : Hd := { keep := [0, 3, 4], xkeep := [2, 3], own := false }
noncomputable def zeq : Env U := { P := Tryz.prog, cd := cd, fns := fns63, lps := (addL 0 z155 (mkLoop z1ah zqj zna (z9m none) zu7) noL), frz := fun _r => false, nt := 22, n0 := 0 }
noncomputable def z101 : Code := (loopAt (Tryz.f64.body.getD .skip) 0 0).getD .skip
theorem z1fg (s : z2a) : round zeq z155 z101 0 (zjr s) = (z6f none s).map (sumE zjr zh1) := by kernel_rfl
theorem z1kw : LpOk zeq z101 0 := mkLoop_ok (A := z1ah) (B := zqj) (f := zna) (L := z9m none) (tO_ok (cPair_ok (cSl_ok 3) cUnit_ok) (tO_ok (cPair_ok cStr_ok cUnit_ok) (tO_ok (cPair_ok (cInt_ok .i64) cUnit_ok) tNil_ok))) bNil_ok (enc := zjr) (out := zu7) (outS := zh1) (step := z6f none) (fun _ => rfl) (fun _ _ => by kernel_rfl) (by kernel_rfl) (fun _ => rfl) z1fg
theorem z1j0 (x : (List Int) × Unit) (g : Unit) : execF zeq Tryz.f64 (z1a5.enc x) (bNil.enc g) = (zd9 none x.1).map zuj := by kernel_rfl
theorem z1cx : FnOk Tryz.prog cd 64 zqy := mk_ok (E := zeq) cd_ok z12y Tryz.func64 (by kernel_rfl) (loops_of (addL_ok z1kw noL_ok)) (aO_ok (cSl_ok 3) (aNil_ok)) bNil_ok (T := fun x _ => zd9 none x.1) (fun _ _ => rfl) z1j0
noncomputable def fns64 := addF 64 true zqy fns63
theorem zq1 : ∀ f q t, fns64 f = some (q, t) → FnOk Tryz.prog cd f t := addF_ok z1cx z12y
noncomputable def z7l (q : Option Nat) (x0 : Bool) : Tree (List UInt8) :=
  .ite (x0)
    (.opt (List UInt8) (z8 q (1 : Int) (1 : Int)) fun r388 =>
      .leaf (r388))
    (.opt (List UInt8) (z8 q (0 : Int) (1 : Int)) fun r389 =>
      .leaf (r389))
noncomputable def zd (q : Option Nat) (x0 : Bool) : Option (List UInt8) := (z7l q x0).run
noncomputable def zo0 : Arg U (Bool × Unit) := aO cBool (aNil)
noncomputable def zsi (r : (List UInt8)) : List (V U) × List (Blk U) := ([vO cStr r], [])
noncomputable def zp6 : List (V U) → List (Blk U) → Option (FnOut U) := mkSpec zo0 bNil (fun x _ => zd none x.1) zsi
noncomputable def zs6 : Env U := { P := Tryz.prog, cd := cd, fns := fns64, lps := noL, frz := fun _r => false, nt := 6, n0 := 0 }
theorem z1la (x : Bool × Unit) (g : Unit) : execF zs6 Tryz.f66 (zo0.enc x) (bNil.enc g) = (z7l none x.1).map zsi := by kernel_rfl
theorem z1d7 : FnOk Tryz.prog cd 66 zp6 := mk_ok (E := zs6) cd_ok zq1 Tryz.func66 (by kernel_rfl) (noLoops_body (by kernel_rfl)) (aO_ok cBool_ok (aNil_ok)) bNil_ok (T := fun x _ => z7l none x.1) (fun _ _ => rfl) z1la
noncomputable def fns66 := addF 66 true zp6 fns64
theorem z13v : ∀ f q t, fns66 f = some (q, t) → FnOk Tryz.prog cd f t := addF_ok z1d7 zq1
structure z25 where
  t3 : (List UInt8)
  t4 : Int
  t5 : Int
  b0 : Mmu
noncomputable def z74 (q : Option Nat) (s : z25) : Tree (z25 ⊕ ((List UInt8) × Int × Mmu)) :=
  .ite (decide (s.t5 < (8 : Int)))
    (.ite (decide (0 ≤ s.t4))
      (.ite (decide (s.t4 < (2 : Int)))
        (.ite (decide (0 ≤ s.t5))
          (.ite (decide (s.t5 < (8 : Int)))
            (.opt Page (s.b0.pages[(s.t4).toNat * 8 + (s.t5).toNat * 1]?) fun y391 =>
              .opt (List UInt8) (z8 q y391.base (2 : Int)) fun r392 =>
                .ite (decide (s.t3.length + r392.length ≤ 9223372036854775807))
                  (.opt (List UInt8) (z8 q y391.length (1 : Int)) fun r393 =>
                    .ite (decide ((s.t3 ++ r392).length + r393.length ≤ 9223372036854775807))
                      (.opt (List UInt8) (z8 q y391.access (1 : Int)) fun r394 =>
                        .ite (decide (((s.t3 ++ r392) ++ r393).length + r394.length ≤ 9223372036854775807))
                          (.opt (List UInt8) (zd q y391.written) fun r395 =>
                            .ite (decide ((((s.t3 ++ r392) ++ r393) ++ r394).length + r395.length ≤ 9223372036854775807))
                              (.leaf (.inl (z25.mk ((((s.t3 ++ r392) ++ r393) ++ r394) ++ r395) s.t4 (IntKind.wrap .i64 (s.t5 + (1 : Int))) s.b0)))
                              .fail)
                          .fail)
                      .fail)
                  .fail)
            .fail)
          .fail)
        .fail)
      .fail)
    (.leaf (.inr (s.t3, s.t4, s.b0)))
noncomputable def z4x (q : Option Nat) (s : z25) : Option ((List UInt8) × Int × Mmu) := limQ q (fun s => (z74 q s).run) s
structure z1q where
  t3 : (List UInt8)
  t4 : Int
  b0 : Mmu
noncomputable def z3c (q : Option Nat) (s : z1q) : Tree (z1q ⊕ ((List UInt8) × Mmu)) :=
  .ite (decide (s.t4 < (2 : Int)))
    (.opt ((List UInt8) × Int × Mmu) (z4x q (z25.mk s.t3 s.t4 (0 : Int) s.b0)) fun l396 =>
      .leaf (.inl (z1q.mk l396.1 (IntKind.wrap .i64 (l396.2.1 + (1 : Int))) l396.2.2)))
    (.leaf (.inr (s.t3, s.b0)))
noncomputable def za5 (q : Option Nat) (s : z1q) : Option ((List UInt8) × Mmu) := limQ q (fun s => (z3c q s).run) s
noncomputable def zg5 (q : Option Nat) (x0 : Mmu) : Tree (List UInt8) :=
  .opt (List UInt8) (zd q x0.on) fun r390 =>
    .opt ((List UInt8) × Mmu) (za5 q (z1q.mk r390 (0 : Int) x0)) fun l397 =>
      .opt (List UInt8) (z8 q l397.2.status (1 : Int)) fun r398 =>
        .ite (decide (l397.1.length + r398.length ≤ 9223372036854775807))
          (.opt (List UInt8) (z8 q l397.2.addr (2 : Int)) fun r399 =>
            .ite (decide ((l397.1 ++ r398).length + r399.length ≤ 9223372036854775807))
              (.leaf ((l397.1 ++ r398) ++ r399))
              .fail)
          .fail
noncomputable def z8e (q : Option Nat) (x0 : Mmu) : Option (List UInt8) := (zg5 q x0).run
noncomputable def znq : Arg U (Mmu × Unit) := aA cMmu (aNil)
noncomputable def zsg (r : (List UInt8)) : List (V U) × List (Blk U) := ([vO cStr r], [])
noncomputable def z12v : List (V U) → List (Blk U) → Option (FnOut U) := mkSpec znq bNil (fun x _ => z8e none x.1) zsg
noncomputable def zub (x : (Unit) × ((List UInt8) × Unit) × (Int × Unit) × Unit) (g : (Mmu × Unit) × Unit) : z1q := z1q.mk x.2.1.1 x.2.2.1.1 g.1.1
noncomputable def z170 : Tms U ((Unit) × ((List UInt8) × Unit) × (Int × Unit) × Unit) := tO 1 (cK (.ptr 0 0) (cUnit)) (tO 3 (cPair cStr (cUnit)) (tO 4 (cPair (cInt .i64) (cUnit)) (tNil)))
noncomputable def z17p : Bls U ((Mmu × Unit) × Unit) := bC (cPair cMmu (cUnit)) (bNil)
noncomputable def zk0 (s : z1q) : St U := { tm := [(1, .v (vO (cK (.ptr 0 0) (cUnit)) (()))), (3, .v (vO (cPair cStr (cUnit)) (s.t3, ()))), (4, .v (vO (cPair (cInt .i64) (cUnit)) (s.t4, ())))], hp := [.cells ((cPair cMmu (cUnit) : Cdc U (Mmu × Unit)).enc (s.b0, ())) none] }
noncomputable def zgz (r : ((List UInt8) × Mmu)) : Ex × St U := (.exit 0, { tm := [(1, .v (vO (cK (.ptr 0 0) (cUnit)) (()))), (3, .v (vO (cPair cStr (cUnit)) (r.1, ())))], hp := [.cells ((cPair cMmu (cUnit) : Cdc U (Mmu × Unit)).enc (r.2, ())) none] })
noncomputable def zqi (r : ((List UInt8) × Mmu)) : Tree (Ex × St U) := .leaf (zgz r)
noncomputable def zqz : Hd := { keep := [1, 3, 4], xkeep := [1, 2, 3], own := false }
noncomputable def zze (x : (Unit) × ((List UInt8) × Unit) × (Int × Unit) × (Int × Unit) × Unit) (g : (Mmu × Unit) × Unit) : z25 := z25.mk x.2.1.1 x.2.2.1.1 x.2.2.2.1.1 g.1.1
noncomputable def z159 : Tms U ((Unit) × ((List UInt8) × Unit) × (Int × Unit) × (Int × Unit) × Unit) := tO 1 (cK (.ptr 0 0) (cUnit)) (tO 3 (cPair cStr (cUnit)) (tO 4 (cPair (cInt .i64) (cUnit)) (tO 5 (cPair (cInt .i64) (cUnit)) (tNil))))
noncomputable def zua : Bls U ((Mmu × Unit) × Unit) := bC (cPair cMmu (cUnit)) (bNil)
noncomputable def zgd (s : z25) : St U := { tm := [(1, .v (vO (cK (.ptr 0 0) (cUnit)) (()))), (3, .v (vO (cPair cStr (cUnit)) (s.t3, ()))), (4, .v (vO (cPair (cInt .i64) (cUnit)) (s.t4, ()))), (5, .v (vO (cPair (cInt .i64) (cUnit)) (s.t5, ())))], hp := [.cells ((cPair cMmu (cUnit) : Cdc U (Mmu × Unit)).enc (s.b0, ())) none] }
noncomputable def zgo (r : ((List UInt8) × Int × Mmu)) : Ex × St U := (.exit 2, { tm := [(1, .v (vO (cK (.ptr 0 0) (cUnit)) (()))), (3, .v (vO (cPair cStr (cUnit)) (r.1, ()))), (4, .v (vO (cPair (cInt .i64) (cUnit)) (r.2.1, ())))], hp := [.cells ((cPair cMmu (cUnit) : Cdc U (Mmu × Unit)).enc (r.2.2, ())) none] })
noncomputable def zpn (r : ((List UInt8) × Int × Mmu)) : Tree (Ex × St U) := .leaf (zgo r)
noncomputable def zv9 : Hd := { keep := [1, 3, 4, 5], xkeep := [1, 2, 3, 4], own := false }
noncomputable def z5s : Env U := { P := Tryz.prog, cd := cd, fns := fns66, lps := (addL 0 zqz (mkLoop z170 z17p zub (za5 none) zqi) (addL 1 zv9 (mkLoop z159 zua zze (z4x none) zpn) noL)), frz := fun _r => false, nt := 50, n0 := 0 }
noncomputable def znu : Code := (loopAt (Tryz.f65.body.getD .skip) 0 0).getD .skip
theorem z1ht (s : z1q) : round z5s zqz znu 0 (zk0 s) = (z3c none s).map (sumE zk0 zgz) := by kernel_rfl
theorem z1cs : LpOk z5s znu 0 := mkLoop_ok (A := z170) (B := z17p) (f := zub) (L := za5 none) (tO_ok (cK_ok cUnit_ok) (tO_ok (cPair_ok cStr_ok cUnit_ok) (tO_ok (cPair_ok (cInt_ok .i64) cUnit_ok) tNil_ok))) (bC_ok (cPair_ok zj cUnit_ok) bNil_ok) (enc := zk0) (out := zqi) (outS := zgz) (step := z3c none) (fun _ => rfl) (fun _ _ => by kernel_rfl) (by kernel_rfl) (fun _ => rfl) z1ht
noncomputable def z13l : Code := (loopAt (Tryz.f65.body.getD .skip) 0 1).getD .skip
theorem z1er (s : z25) : round z5s zv9 z13l 1 (zgd s) = (z74 none s).map (sumE zgd zgo) := by kernel_rfl
theorem z1be : LpOk z5s z13l 1 := mkLoop_ok (A := z159) (B := zua) (f := zze) (L := z4x none) (tO_ok (cK_ok cUnit_ok) (tO_ok (cPair_ok cStr_ok cUnit_ok) (tO_ok (cPair_ok (cInt_ok .i64) cUnit_ok) (tO_ok (cPair_ok (cInt_ok .i64) cUnit_ok) tNil_ok)))) (bC_ok (cPair_ok zj cUnit_ok) bNil_ok) (enc := zgd) (out := zpn) (outS := zgo) (step := z74 none) (fun _ => rfl) (fun _ _ => by kernel_rfl) (by kernel_rfl) (fun _ => rfl) z1er
theorem z1m5 (x : Mmu × Unit) (g : Unit) : execF z5s Tryz.f65 (znq.enc x) (bNil.enc g) = (zg5 none x.1).map zsg := by kernel_rfl
theorem z1az : FnOk Tryz.prog cd 65 z12v := mk_ok (E := z5s) cd_ok z13v Tryz.func65 (by kernel_rfl) (loops_of (addL_ok z1cs (addL_ok z1be noL_ok))) (aA_ok zj (aNil_ok)) bNil_ok (T := fun x _ => zg5 none x.1) (fun _ _ => rfl) z1m5
noncomputable def fns65 := addF 65 true z12v fns66
theorem zrz : ∀ f q t, fns65 f = some (q, t) → FnOk Tryz.prog cd f t := addF_ok z1az z13v
noncomputable def zcq (q : Option Nat) (x0 : (List UInt8)) : Tree (List UInt8) :=
  .ite (decide ((65535 : Int) < (x0.length : Int)))
    (.ite (decide (0 ≤ (65535 : Int)))
      (.ite (decide ((65535 : Int) ≤ ((x0.length : Nat) : Int)))
        (.opt (List UInt8) (z8 q (((x0.drop (0)).take (((65535 : Int)).toNat - 0)).length : Int) (2 : Int)) fun r400 =>
          .ite (decide (r400.length + ((x0.drop (0)).take (((65535 : Int)).toNat - 0)).length ≤ 9223372036854775807))
            (.leaf (r400 ++ ((x0.drop (0)).take (((65535 : Int)).toNat - 0))))
            .fail)
        .fail)
      .fail)
    (.opt (List UInt8) (z8 q (x0.length : Int) (2 : Int)) fun r401 =>
      .ite (decide (r401.length + x0.length ≤ 9223372036854775807))
        (.leaf (r401 ++ x0))
        .fail)
noncomputable def z3e (q : Option Nat) (x0 : (List UInt8)) : Option (List UInt8) := (zcq q x0).run
noncomputable def z10i : Arg U ((List UInt8) × Unit) := aO cStr (aNil)
noncomputable def z1ag (r : (List UInt8)) : List (V U) × List (Blk U) := ([vO cStr r], [])
noncomputable def zzx : List (V U) → List (Blk U) → Option (FnOut U) := mkSpec z10i bNil (fun x _ => z3e none x.1) z1ag
noncomputable def z17g : Env U := { P := Tryz.prog, cd := cd, fns := fns65, lps := noL, frz := fun _r => false, nt := 13, n0 := 0 }
theorem z1fy (x : (List UInt8) × Unit) (g : Unit) : execF z17g Tryz.f118 (z10i.enc x) (bNil.enc g) = (zcq none x.1).map z1ag := by kernel_rfl
theorem z1fu : FnOk Tryz.prog cd 118 zzx := mk_ok (E := z17g) cd_ok zrz Tryz.func118 (by kernel_rfl) (noLoops_body (by kernel_rfl)) (aO_ok cStr_ok (aNil_ok)) bNil_ok (T := fun x _ => zcq none x.1) (fun _ _ => rfl) z1fy
noncomputable def fns118 := addF 118 true zzx fns65
theorem zlz : ∀ f q t, fns118 f = some (q, t) → FnOk Tryz.prog cd f t := addF_ok z1fu zrz
structure z2o where
  t0 : (List Line)
  t3 : (List UInt8)
  t4 : Int
noncomputable def z60 (q : Option Nat) (s : z2o) : Tree (z2o ⊕ (List UInt8)) :=
  .ite (decide (s.t4 < (s.t0.length : Int)))
    (.ite (decide (0 ≤ s.t4))
      (.opt Line (s.t0[(s.t4).toNat]?) fun y403 =>
        .opt (List UInt8) (zd q y403.rxEnable) fun r404 =>
          .ite (decide (s.t3.length + r404.length ≤ 9223372036854775807))
            (.opt (List UInt8) (zd q y403.rxReady) fun r405 =>
              .ite (decide ((s.t3 ++ r404).length + r405.length ≤ 9223372036854775807))
                (.opt (List UInt8) (zd q y403.overrun) fun r406 =>
                  .ite (decide (((s.t3 ++ r404) ++ r405).length + r406.length ≤ 9223372036854775807))
                    (.opt (List UInt8) (z8 q y403.rxData (1 : Int)) fun r407 =>
                      .ite (decide ((((s.t3 ++ r404) ++ r405) ++ r406).length + r407.length ≤ 9223372036854775807))
                        (.opt (List UInt8) (zd q y403.txEnable) fun r408 =>
                          .ite (decide (((((s.t3 ++ r404) ++ r405) ++ r406) ++ r407).length + r408.length ≤ 9223372036854775807))
                            (.opt (List UInt8) (zd q y403.txReady) fun r409 =>
                              .ite (decide ((((((s.t3 ++ r404) ++ r405) ++ r406) ++ r407) ++ r408).length + r409.length ≤ 9223372036854775807))
                                (.opt (List UInt8) (z8 q y403.txData (1 : Int)) fun r410 =>
                                  .ite (decide (((((((s.t3 ++ r404) ++ r405) ++ r406) ++ r407) ++ r408) ++ r409).length + r410.length ≤ 9223372036854775807))
                                    (.opt (List UInt8) (z8 q y403.txLeft (1 : Int)) fun r411 =>
                                      .ite (decide ((((((((s.t3 ++ r404) ++ r405) ++ r406) ++ r407) ++ r408) ++ r409) ++ r410).length + r411.length ≤ 9223372036854775807))
                                        (.opt (List UInt8) (z3e q y403.out) fun r412 =>
                                          .ite (decide (((((((((s.t3 ++ r404) ++ r405) ++ r406) ++ r407) ++ r408) ++ r409) ++ r410) ++ r411).length + r412.length ≤ 9223372036854775807))
                                            (.leaf (.inl (z2o.mk s.t0 (((((((((s.t3 ++ r404) ++ r405) ++ r406) ++ r407) ++ r408) ++ r409) ++ r410) ++ r411) ++ r412) (IntKind.wrap .i64 (s.t4 + (1 : Int))))))
                                            .fail)
                                        .fail)
                                    .fail)
                                .fail)
                            .fail)
                        .fail)
                    .fail)
                .fail)
            .fail)
      .fail)
    (.leaf (.inr s.t3))
noncomputable def z7d (q : Option Nat) (s : z2o) : Option (List UInt8) := limQ q (fun s => (z60 q s).run) s
noncomputable def zeg (q : Option Nat) (x0 : (List Line)) : Tree (List UInt8) :=
  .opt (List UInt8) (z8 q (x0.length : Int) (2 : Int)) fun r402 =>
    .opt (List UInt8) (z7d q (z2o.mk x0 r402 (0 : Int))) fun l413 =>
      .leaf (l413)
noncomputable def z8s (q : Option Nat) (x0 : (List Line)) : Option (List UInt8) := (zeg q x0).run
noncomputable def z19x : Arg U ((List Line) × Unit) := aO (cSl 66) (aNil)
noncomputable def z145 (r : (List UInt8)) : List (V U) × List (Blk U) := ([vO cStr r], [])
noncomputable def zql : List (V U) → List (Blk U) → Option (FnOut U) := mkSpec z19x bNil (fun x _ => z8s none x.1) z145
noncomputable def znd (x : ((List Line) × Unit) × ((List UInt8) × Unit) × (Int × Unit) × Unit) (_g : Unit) : z2o := z2o.mk x.1.1 x.2.1.1 x.2.2.1.1
noncomputable def z17k : Tms U (((List Line) × Unit) × ((List UInt8) × Unit) × (Int × Unit) × Unit) := tO 0 (cPair (cSl 66) (cUnit)) (tO 3 (cPair cStr (cUnit)) (tO 4 (cPair (cInt .i64) (cUnit)) (tNil)))
noncomputable def zq7 : Bls U (Unit) := bNil
noncomputable def zkn (s : z2o) : St U := { tm := [(0, .v (vO (cPair (cSl 66) (cUnit)) (s.t0, ()))), (3, .v (vO (cPair cStr (cUnit)) (s.t3, ()))), (4, .v (vO (cPair (cInt .i64) (cUnit)) (s.t4, ())))], hp := [] }
noncomputable def zkz (r : (List UInt8)) : Ex × St U := (.exit 0, { tm := [(3, .v (vO (cPair cStr (cUnit)) (r, ())))], hp := [] })
noncomputable def zzf (r : (List UInt8)) : Tree (Ex × St U) := .leaf (zkz r)
noncomputable def zzj : Hd := { keep := [0, 3, 4], xkeep := [2, 3], own := false }
noncomputable def zdx : Env U := { P := Tryz.prog, cd := cd, fns := fns118, lps := (addL 0 zzj (mkLoop z17k zq7 znd (z7d none) zzf) noL), frz := fun _r => false, nt := 57, n0 := 0 }
noncomputable def z141 : Code := (loopAt (Tryz.f67.body.getD .skip) 0 0).getD .skip
theorem z1ga (s : z2o) : round zdx zzj z141 0 (zkn s) = (z60 none s).map (sumE zkn zkz) := by kernel_rfl
theorem z1hz : LpOk zdx z141 0 := mkLoop_ok (A := z17k) (B := zq7) (f := znd) (L := z7d none) (tO_ok (cPair_ok (cSl_ok 66) cUnit_ok) (tO_ok (cPair_ok cStr_ok cUnit_ok) (tO_ok (cPair_ok (cInt_ok .i64) cUnit_ok) tNil_ok))) bNil_ok (enc := zkn) (out := zzf) (outS := zkz) (step := z60 none) (fun _ => rfl) (fun _ _ => by kernel_rfl) (by kernel_rfl) (fun _ => rfl) z1ga
theorem z1j4 (x : (List Line) × Unit) (g : Unit) : execF zdx Tryz.f67 (z19x.enc x) (bNil.enc g) = (zeg none x.1).map z145 := by kernel_rfl
theorem z1j5 : FnOk Tryz.prog cd 67 zql := mk_ok (E := zdx) cd_ok zlz Tryz.func67 (by kernel_rfl) (loops_of (addL_ok z1hz noL_ok)) (aO_ok (cSl_ok 66) (aNil_ok)) bNil_ok (T := fun x _ => zeg none x.1) (fun _ _ => rfl) z1j4
noncomputable def fns67 := addF 67 true zql fns118
theorem zyz : ∀ f q t, fns67 f = some (q, t) → FnOk Tryz.prog cd f t := addF_ok z1j5 zlz
structure z2f where
  t0 : (List (List UInt8))
  t3 : (List UInt8)
  t4 : Int
noncomputable def z67 (q : Option Nat) (s : z2f) : Tree (z2f ⊕ (List UInt8)) :=
  .ite (decide (s.t4 < (s.t0.length : Int)))
    (.ite (decide (0 ≤ s.t4))
      (.opt (List UInt8) (s.t0[(s.t4).toNat]?) fun y415 =>
        .opt (List UInt8) (z3e q y415) fun r416 =>
          .ite (decide (s.t3.length + r416.length ≤ 9223372036854775807))
            (.leaf (.inl (z2f.mk s.t0 (s.t3 ++ r416) (IntKind.wrap .i64 (s.t4 + (1 : Int))))))
            .fail)
      .fail)
    (.leaf (.inr s.t3))
noncomputable def z89 (q : Option Nat) (s : z2f) : Option (List UInt8) := limQ q (fun s => (z67 q s).run) s
noncomputable def ze7 (q : Option Nat) (x0 : (List (List UInt8))) : Tree (List UInt8) :=
  .opt (List UInt8) (z8 q (x0.length : Int) (2 : Int)) fun r414 =>
    .opt (List UInt8) (z89 q (z2f.mk x0 r414 (0 : Int))) fun l417 =>
      .leaf (l417)
noncomputable def z4u (q : Option Nat) (x0 : (List (List UInt8))) : Option (List UInt8) := (ze7 q x0).run
noncomputable def z17a : Arg U ((List (List UInt8)) × Unit) := aO (cSl 9) (aNil)
noncomputable def zwo (r : (List UInt8)) : List (V U) × List (Blk U) := ([vO cStr r], [])
noncomputable def zth : List (V U) → List (Blk U) → Option (FnOut U) := mkSpec z17a bNil (fun x _ => z4u none x.1) zwo
noncomputable def zs9 (x : ((List (List UInt8)) × Unit) × ((List UInt8) × Unit) × (Int × Unit) × Unit) (_g : Unit) : z2f := z2f.mk x.1.1 x.2.1.1 x.2.2.1.1
noncomputable def z12u : Tms U (((List (List UInt8)) × Unit) × ((List UInt8) × Unit) × (Int × Unit) × Unit) := tO 0 (cPair (cSl 9) (cUnit)) (tO 3 (cPair cStr (cUnit)) (tO 4 (cPair (cInt .i64) (cUnit)) (tNil)))
noncomputable def zvv : Bls U (Unit) := bNil
noncomputable def zll (s : z2f) : St U := { tm := [(0, .v (vO (cPair (cSl 9) (cUnit)) (s.t0, ()))), (3, .v (vO (cPair cStr (cUnit)) (s.t3, ()))), (4, .v (vO (cPair (cInt .i64) (cUnit)) (s.t4, ())))], hp := [] }
noncomputable def zgi (r : (List UInt8)) : Ex × St U := (.exit 0, { tm := [(3, .v (vO (cPair cStr (cUnit)) (r, ())))], hp := [] })
noncomputable def z19h (r : (List UInt8)) : Tree (Ex × St U) := .leaf (zgi r)
noncomputable def z12o : Hd := { keep := [0, 3, 4], xkeep := [2, 3], own := false }
noncomputable def zag : Env U := { P := Tryz.prog, cd := cd, fns := fns67, lps := (addL 0 z12o (mkLoop z12u zvv zs9 (z89 none) z19h) noL), frz := fun _r => false, nt := 22, n0 := 0 }
noncomputable def z144 : Code := (loopAt (Tryz.f119.body.getD .skip) 0 0).getD .skip
theorem z1l8 (s : z2f) : round zag z12o z144 0 (zll s) = (z67 none s).map (sumE zll zgi) := by kernel_rfl
theorem z1dx : LpOk zag z144 0 := mkLoop_ok (A := z12u) (B := zvv) (f := zs9) (L := z89 none) (tO_ok (cPair_ok (cSl_ok 9) cUnit_ok) (tO_ok (cPair_ok cStr_ok cUnit_ok) (tO_ok (cPair_ok (cInt_ok .i64) cUnit_ok) tNil_ok))) bNil_ok (enc := zll) (out := z19h) (outS := zgi) (step := z67 none) (fun _ => rfl) (fun _ _ => by kernel_rfl) (by kernel_rfl) (fun _ => rfl) z1l8
theorem z1m3 (x : (List (List UInt8)) × Unit) (g : Unit) : execF zag Tryz.f119 (z17a.enc x) (bNil.enc g) = (ze7 none x.1).map zwo := by kernel_rfl
theorem z1c1 : FnOk Tryz.prog cd 119 zth := mk_ok (E := zag) cd_ok zyz Tryz.func119 (by kernel_rfl) (loops_of (addL_ok z1dx noL_ok)) (aO_ok (cSl_ok 9) (aNil_ok)) bNil_ok (T := fun x _ => ze7 none x.1) (fun _ _ => rfl) z1m3
noncomputable def fns119 := addF 119 true zth fns67
theorem zty : ∀ f q t, fns119 f = some (q, t) → FnOk Tryz.prog cd f t := addF_ok z1c1 zyz
noncomputable def zal (q : Option Nat) (x0 : Disk) : Tree (List UInt8) :=
  .opt (List UInt8) (z4u q x0.drive.sectors) fun r418 =>
    .opt (List UInt8) (z1w q x0.drive.bad) fun r419 =>
      .ite (decide (r418.length + r419.length ≤ 9223372036854775807))
        (.opt (List UInt8) (zd q x0.enable) fun r420 =>
          .ite (decide ((r418 ++ r419).length + r420.length ≤ 9223372036854775807))
            (.opt (List UInt8) (zd q x0.ready) fun r421 =>
              .ite (decide (((r418 ++ r419) ++ r420).length + r421.length ≤ 9223372036854775807))
                (.opt (List UInt8) (zd q x0.error) fun r422 =>
                  .ite (decide ((((r418 ++ r419) ++ r420) ++ r421).length + r422.length ≤ 9223372036854775807))
                    (.opt (List UInt8) (z8 q x0.command (1 : Int)) fun r423 =>
                      .ite (decide (((((r418 ++ r419) ++ r420) ++ r421) ++ r422).length + r423.length ≤ 9223372036854775807))
                        (.opt (List UInt8) (z8 q x0.words (2 : Int)) fun r424 =>
                          .ite (decide ((((((r418 ++ r419) ++ r420) ++ r421) ++ r422) ++ r423).length + r424.length ≤ 9223372036854775807))
                            (.opt (List UInt8) (z8 q x0.addr (2 : Int)) fun r425 =>
                              .ite (decide (((((((r418 ++ r419) ++ r420) ++ r421) ++ r422) ++ r423) ++ r424).length + r425.length ≤ 9223372036854775807))
                                (.opt (List UInt8) (z8 q x0.start (2 : Int)) fun r426 =>
                                  .ite (decide ((((((((r418 ++ r419) ++ r420) ++ r421) ++ r422) ++ r423) ++ r424) ++ r425).length + r426.length ≤ 9223372036854775807))
                                    (.opt (List UInt8) (z8 q x0.left (1 : Int)) fun r427 =>
                                      .ite (decide (((((((((r418 ++ r419) ++ r420) ++ r421) ++ r422) ++ r423) ++ r424) ++ r425) ++ r426).length + r427.length ≤ 9223372036854775807))
                                        (.leaf (((((((((r418 ++ r419) ++ r420) ++ r421) ++ r422) ++ r423) ++ r424) ++ r425) ++ r426) ++ r427))
                                        .fail)
                                    .fail)
                                .fail)
                            .fail)
                        .fail)
                    .fail)
                .fail)
            .fail)
        .fail
noncomputable def z93 (q : Option Nat) (x0 : Disk) : Option (List UInt8) := (zal q x0).run
noncomputable def zlq : Arg U (Disk × Unit) := aA cDisk (aNil)
noncomputable def z1a1 (r : (List UInt8)) : List (V U) × List (Blk U) := ([vO cStr r], [])
noncomputable def zu9 : List (V U) → List (Blk U) → Option (FnOut U) := mkSpec zlq bNil (fun x _ => z93 none x.1) z1a1
noncomputable def z16z : Env U := { P := Tryz.prog, cd := cd, fns := fns119, lps := noL, frz := fun _r => false, nt := 46, n0 := 0 }
theorem z1mu (x : Disk × Unit) (g : Unit) : execF z16z Tryz.f68 (zlq.enc x) (bNil.enc g) = (zal none x.1).map z1a1 := by kernel_rfl
theorem z1b4 : FnOk Tryz.prog cd 68 zu9 := mk_ok (E := z16z) cd_ok zty Tryz.func68 (by kernel_rfl) (noLoops_body (by kernel_rfl)) (aA_ok z21 (aNil_ok)) bNil_ok (T := fun x _ => zal none x.1) (fun _ _ => rfl) z1mu
noncomputable def fns68 := addF 68 true zu9 fns119
theorem z1ap : ∀ f q t, fns68 f = some (q, t) → FnOk Tryz.prog cd f t := addF_ok z1b4 zty
noncomputable def zcv (q : Option Nat) (x0 : Tape) : Tree (List UInt8) :=
  .opt (List UInt8) (z4u q x0.records) fun r428 =>
    .opt (List UInt8) (z8 q x0.pos (1 : Int)) fun r429 =>
      .ite (decide (r428.length + r429.length ≤ 9223372036854775807))
        (.opt (List UInt8) (zd q x0.enable) fun r430 =>
          .ite (decide ((r428 ++ r429).length + r430.length ≤ 9223372036854775807))
            (.opt (List UInt8) (zd q x0.ready) fun r431 =>
              .ite (decide (((r428 ++ r429) ++ r430).length + r431.length ≤ 9223372036854775807))
                (.opt (List UInt8) (zd q x0.error) fun r432 =>
                  .ite (decide ((((r428 ++ r429) ++ r430) ++ r431).length + r432.length ≤ 9223372036854775807))
                    (.opt (List UInt8) (zd q x0.mark) fun r433 =>
                      .ite (decide (((((r428 ++ r429) ++ r430) ++ r431) ++ r432).length + r433.length ≤ 9223372036854775807))
                        (.opt (List UInt8) (zd q x0.end_) fun r434 =>
                          .ite (decide ((((((r428 ++ r429) ++ r430) ++ r431) ++ r432) ++ r433).length + r434.length ≤ 9223372036854775807))
                            (.opt (List UInt8) (z8 q x0.command (1 : Int)) fun r435 =>
                              .ite (decide (((((((r428 ++ r429) ++ r430) ++ r431) ++ r432) ++ r433) ++ r434).length + r435.length ≤ 9223372036854775807))
                                (.opt (List UInt8) (z8 q x0.count (2 : Int)) fun r436 =>
                                  .ite (decide ((((((((r428 ++ r429) ++ r430) ++ r431) ++ r432) ++ r433) ++ r434) ++ r435).length + r436.length ≤ 9223372036854775807))
                                    (.opt (List UInt8) (z8 q x0.addr (2 : Int)) fun r437 =>
                                      .ite (decide (((((((((r428 ++ r429) ++ r430) ++ r431) ++ r432) ++ r433) ++ r434) ++ r435) ++ r436).length + r437.length ≤ 9223372036854775807))
                                        (.opt (List UInt8) (z8 q x0.left (1 : Int)) fun r438 =>
                                          .ite (decide ((((((((((r428 ++ r429) ++ r430) ++ r431) ++ r432) ++ r433) ++ r434) ++ r435) ++ r436) ++ r437).length + r438.length ≤ 9223372036854775807))
                                            (.leaf ((((((((((r428 ++ r429) ++ r430) ++ r431) ++ r432) ++ r433) ++ r434) ++ r435) ++ r436) ++ r437) ++ r438))
                                            .fail)
                                        .fail)
                                    .fail)
                                .fail)
                            .fail)
                        .fail)
                    .fail)
                .fail)
            .fail)
        .fail
noncomputable def z9h (q : Option Nat) (x0 : Tape) : Option (List UInt8) := (zcv q x0).run
noncomputable def z160 : Arg U (Tape × Unit) := aA cTape (aNil)
noncomputable def zo2 (r : (List UInt8)) : List (V U) × List (Blk U) := ([vO cStr r], [])
noncomputable def zzb : List (V U) → List (Blk U) → Option (FnOut U) := mkSpec z160 bNil (fun x _ => z9h none x.1) zo2
noncomputable def z17j : Env U := { P := Tryz.prog, cd := cd, fns := fns68, lps := noL, frz := fun _r => false, nt := 48, n0 := 0 }
theorem z1fo (x : Tape × Unit) (g : Unit) : execF z17j Tryz.f69 (z160.enc x) (bNil.enc g) = (zcv none x.1).map zo2 := by kernel_rfl
theorem z1iv : FnOk Tryz.prog cd 69 zzb := mk_ok (E := z17j) cd_ok z1ap Tryz.func69 (by kernel_rfl) (noLoops_body (by kernel_rfl)) (aA_ok z15 (aNil_ok)) bNil_ok (T := fun x _ => zcv none x.1) (fun _ _ => rfl) z1fo
noncomputable def fns69 := addF 69 true zzb fns68
theorem ztl : ∀ f q t, fns69 f = some (q, t) → FnOk Tryz.prog cd f t := addF_ok z1iv z1ap
noncomputable def zes (q : Option Nat) (x0 : Machine) : Tree (List UInt8) :=
  .opt (List UInt8) (z9f q x0.cpu) fun r439 =>
    .ite (decide (([69, 77, 85, 49] : List UInt8).length + r439.length ≤ 9223372036854775807))
      (.opt (List UInt8) (z1w q x0.mem) fun r440 =>
        .ite (decide ((([69, 77, 85, 49] : List UInt8) ++ r439).length + r440.length ≤ 9223372036854775807))
          (.opt (List UInt8) (z1w q x0.bad) fun r441 =>
            .ite (decide (((([69, 77, 85, 49] : List UInt8) ++ r439) ++ r440).length + r441.length ≤ 9223372036854775807))
              (.opt (List UInt8) (z8e q x0.mmu) fun r442 =>
                .ite (decide ((((([69, 77, 85, 49] : List UInt8) ++ r439) ++ r440) ++ r441).length + r442.length ≤ 9223372036854775807))
                  (.opt (List UInt8) (zd q x0.clock.enable) fun r443 =>
                    .ite (decide (((((([69, 77, 85, 49] : List UInt8) ++ r439) ++ r440) ++ r441) ++ r442).length + r443.length ≤ 9223372036854775807))
                      (.opt (List UInt8) (zd q x0.clock.ready) fun r444 =>
                        .ite (decide ((((((([69, 77, 85, 49] : List UInt8) ++ r439) ++ r440) ++ r441) ++ r442) ++ r443).length + r444.length ≤ 9223372036854775807))
                          (.opt (List UInt8) (z8 q x0.clock.period (2 : Int)) fun r445 =>
                            .ite (decide (((((((([69, 77, 85, 49] : List UInt8) ++ r439) ++ r440) ++ r441) ++ r442) ++ r443) ++ r444).length + r445.length ≤ 9223372036854775807))
                              (.opt (List UInt8) (z8 q x0.clock.left (2 : Int)) fun r446 =>
                                .ite (decide ((((((((([69, 77, 85, 49] : List UInt8) ++ r439) ++ r440) ++ r441) ++ r442) ++ r443) ++ r444) ++ r445).length + r446.length ≤ 9223372036854775807))
                                  (.opt (List UInt8) (z8s q x0.lines) fun r447 =>
                                    .ite (decide (((((((((([69, 77, 85, 49] : List UInt8) ++ r439) ++ r440) ++ r441) ++ r442) ++ r443) ++ r444) ++ r445) ++ r446).length + r447.length ≤ 9223372036854775807))
                                      (.opt (List UInt8) (z93 q x0.disk) fun r448 =>
                                        .ite (decide ((((((((((([69, 77, 85, 49] : List UInt8) ++ r439) ++ r440) ++ r441) ++ r442) ++ r443) ++ r444) ++ r445) ++ r446) ++ r447).length + r448.length ≤ 9223372036854775807))
                                          (.opt (List UInt8) (z9h q x0.tape) fun r449 =>
                                            .ite (decide (((((((((((([69, 77, 85, 49] : List UInt8) ++ r439) ++ r440) ++ r441) ++ r442) ++ r443) ++ r444) ++ r445) ++ r446) ++ r447) ++ r448).length + r449.length ≤ 9223372036854775807))
                                              (.opt (List UInt8) (z8 q x0.now (6 : Int)) fun r450 =>
                                                .ite (decide ((((((((((((([69, 77, 85, 49] : List UInt8) ++ r439) ++ r440) ++ r441) ++ r442) ++ r443) ++ r444) ++ r445) ++ r446) ++ r447) ++ r448) ++ r449).length + r450.length ≤ 9223372036854775807))
                                                  (.opt (List UInt8) (zd q x0.halted) fun r451 =>
                                                    .ite (decide (((((((((((((([69, 77, 85, 49] : List UInt8) ++ r439) ++ r440) ++ r441) ++ r442) ++ r443) ++ r444) ++ r445) ++ r446) ++ r447) ++ r448) ++ r449) ++ r450).length + r451.length ≤ 9223372036854775807))
                                                      (.opt (List UInt8) (zd q x0.waiting) fun r452 =>
                                                        .ite (decide ((((((((((((((([69, 77, 85, 49] : List UInt8) ++ r439) ++ r440) ++ r441) ++ r442) ++ r443) ++ r444) ++ r445) ++ r446) ++ r447) ++ r448) ++ r449) ++ r450) ++ r451).length + r452.length ≤ 9223372036854775807))
                                                          (.opt (List UInt8) (z8 q x0.power (2 : Int)) fun r453 =>
                                                            .ite (decide (((((((((((((((([69, 77, 85, 49] : List UInt8) ++ r439) ++ r440) ++ r441) ++ r442) ++ r443) ++ r444) ++ r445) ++ r446) ++ r447) ++ r448) ++ r449) ++ r450) ++ r451) ++ r452).length + r453.length ≤ 9223372036854775807))
                                                              (.opt (List UInt8) (zd q x0.powerTrap) fun r454 =>
                                                                .ite (decide ((((((((((((((((([69, 77, 85, 49] : List UInt8) ++ r439) ++ r440) ++ r441) ++ r442) ++ r443) ++ r444) ++ r445) ++ r446) ++ r447) ++ r448) ++ r449) ++ r450) ++ r451) ++ r452) ++ r453).length + r454.length ≤ 9223372036854775807))
                                                                  (.leaf ((((((((((((((((([69, 77, 85, 49] : List UInt8) ++ r439) ++ r440) ++ r441) ++ r442) ++ r443) ++ r444) ++ r445) ++ r446) ++ r447) ++ r448) ++ r449) ++ r450) ++ r451) ++ r452) ++ r453) ++ r454))
                                                                  .fail)
                                                              .fail)
                                                          .fail)
                                                      .fail)
                                                  .fail)
                                              .fail)
                                          .fail)
                                      .fail)
                                  .fail)
                              .fail)
                          .fail)
                      .fail)
                  .fail)
              .fail)
          .fail)
      .fail
noncomputable def z61 (q : Option Nat) (x0 : Machine) : Option (List UInt8) := (zes q x0).run
noncomputable def zqu : Arg U (Machine × Unit) := aA cMachine (aNil)
noncomputable def z11w (r : (List UInt8)) : List (V U) × List (Blk U) := ([vO cStr r], [])
noncomputable def zvx : List (V U) → List (Blk U) → Option (FnOut U) := mkSpec zqu bNil (fun x _ => z61 none x.1) z11w
noncomputable def zx0 : Env U := { P := Tryz.prog, cd := cd, fns := fns69, lps := noL, frz := fun _r => false, nt := 75, n0 := 0 }
theorem z1ei (x : Machine × Unit) (g : Unit) : execF zx0 Tryz.f33 (zqu.enc x) (bNil.enc g) = (zes none x.1).map z11w := by kernel_rfl
theorem z1ez : FnOk Tryz.prog cd 33 zvx := mk_ok (E := zx0) cd_ok ztl Tryz.func33 (by kernel_rfl) (noLoops_body (by kernel_rfl)) (aA_ok zm (aNil_ok)) bNil_ok (T := fun x _ => zes none x.1) (fun _ _ => rfl) z1ei
noncomputable def fns33 := addF 33 true zvx fns69
theorem zwa : ∀ f q t, fns33 f = some (q, t) → FnOk Tryz.prog cd f t := addF_ok z1ez ztl
noncomputable def z78 (q : Option Nat) (x0 : (List UInt8)) : Tree (Machine × Int) :=
  .opt ((List UInt8) × Int) (z9e q x0) fun r455 =>
    .ite (!decide (r455.2 = (0 : Int)))
      (.leaf ((Machine.mk (Cpu.mk (List.replicate 6 (0 : Int)) (List.replicate 2 (0 : Int)) 0 0) ([]) ([]) (Mmu.mk false (List.replicate 16 (Page.mk (0 : Int) (0 : Int) (0 : Int) false)) 0 0) (Clock.mk false false 0 0) ([]) (Disk.mk (Drive.mk ([]) ([])) false false false 0 0 0 0 0) (Tape.mk ([]) 0 false false false false false 0 0 0 0) 0 false false 0 false, r455.2)))
      (.ite (decide ((r455.1.length : Int) < (4 : Int)))
        (.leaf ((Machine.mk (Cpu.mk (List.replicate 6 (0 : Int)) (List.replicate 2 (0 : Int)) 0 0) ([]) ([]) (Mmu.mk false (List.replicate 16 (Page.mk (0 : Int) (0 : Int) (0 : Int) false)) 0 0) (Clock.mk false false 0 0) ([]) (Disk.mk (Drive.mk ([]) ([])) false false false 0 0 0 0 0) (Tape.mk ([]) 0 false false false false false 0 0 0 0) 0 false false 0 false, (9 : Int))))
        (.ite (decide (0 ≤ (4 : Int)))
          (.ite (decide ((4 : Int) ≤ ((r455.1.length : Nat) : Int)))
            (.ite (!decide (((r455.1.drop (0)).take (((4 : Int)).toNat - 0)) = ([69, 77, 85, 49] : List UInt8)))
              (.leaf ((Machine.mk (Cpu.mk (List.replicate 6 (0 : Int)) (List.replicate 2 (0 : Int)) 0 0) ([]) ([]) (Mmu.mk false (List.replicate 16 (Page.mk (0 : Int) (0 : Int) (0 : Int) false)) 0 0) (Clock.mk false false 0 0) ([]) (Disk.mk (Drive.mk ([]) ([])) false false false 0 0 0 0 0) (Tape.mk ([]) 0 false false false false false 0 0 0 0) 0 false false 0 false, (9 : Int))))
              (.ite (decide (0 ≤ (4 : Int)))
                (.ite (decide ((4 : Int) ≤ ((r455.1.length : Nat) : Int)))
                  (.opt (Reader × Machine) (zdt q (Reader.mk ((r455.1.drop (((4 : Int)).toNat)).take (r455.1.length - ((4 : Int)).toNat)) false)) fun r456 =>
                    .ite (r456.1.bad)
                      (.leaf ((Machine.mk (Cpu.mk (List.replicate 6 (0 : Int)) (List.replicate 2 (0 : Int)) 0 0) ([]) ([]) (Mmu.mk false (List.replicate 16 (Page.mk (0 : Int) (0 : Int) (0 : Int) false)) 0 0) (Clock.mk false false 0 0) ([]) (Disk.mk (Drive.mk ([]) ([])) false false false 0 0 0 0 0) (Tape.mk ([]) 0 false false false false false 0 0 0 0) 0 false false 0 false, (9 : Int))))
                      (.ite (!decide (r456.1.s = ([] : List UInt8)))
                        (.leaf ((Machine.mk (Cpu.mk (List.replicate 6 (0 : Int)) (List.replicate 2 (0 : Int)) 0 0) ([]) ([]) (Mmu.mk false (List.replicate 16 (Page.mk (0 : Int) (0 : Int) (0 : Int) false)) 0 0) (Clock.mk false false 0 0) ([]) (Disk.mk (Drive.mk ([]) ([])) false false false 0 0 0 0 0) (Tape.mk ([]) 0 false false false false false 0 0 0 0) 0 false false 0 false, (9 : Int))))
                        (.opt Bool (z38 q r456.2) fun r457 =>
                          .ite (!r457)
                            (.leaf ((Machine.mk (Cpu.mk (List.replicate 6 (0 : Int)) (List.replicate 2 (0 : Int)) 0 0) ([]) ([]) (Mmu.mk false (List.replicate 16 (Page.mk (0 : Int) (0 : Int) (0 : Int) false)) 0 0) (Clock.mk false false 0 0) ([]) (Disk.mk (Drive.mk ([]) ([])) false false false 0 0 0 0 0) (Tape.mk ([]) 0 false false false false false 0 0 0 0) 0 false false 0 false, (9 : Int))))
                            (.opt (List UInt8) (z61 q r456.2) fun r458 =>
                              .ite (!decide (r458 = r455.1))
                                (.leaf ((Machine.mk (Cpu.mk (List.replicate 6 (0 : Int)) (List.replicate 2 (0 : Int)) 0 0) ([]) ([]) (Mmu.mk false (List.replicate 16 (Page.mk (0 : Int) (0 : Int) (0 : Int) false)) 0 0) (Clock.mk false false 0 0) ([]) (Disk.mk (Drive.mk ([]) ([])) false false false 0 0 0 0 0) (Tape.mk ([]) 0 false false false false false 0 0 0 0) 0 false false 0 false, (9 : Int))))
                                (.leaf ((r456.2, (0 : Int))))))))
                  .fail)
                .fail))
            .fail)
          .fail))
noncomputable def z10 (q : Option Nat) (x0 : (List UInt8)) : Option (Machine × Int) := (z78 q x0).run
noncomputable def zm9 : Arg U ((List UInt8) × Unit) := aO cStr (aNil)
noncomputable def zyq (r : (Machine × Int)) : List (V U) × List (Blk U) := ([vA cMachine r.1, vO (cInt .i64) r.2], [])
noncomputable def zno : List (V U) → List (Blk U) → Option (FnOut U) := mkSpec zm9 bNil (fun x _ => z10 none x.1) zyq
noncomputable def zwk : Env U := { P := Tryz.prog, cd := cd, fns := fns33, lps := noL, frz := fun _r => false, nt := 53, n0 := 0 }
theorem z1ec (x : (List UInt8) × Unit) (g : Unit) : execF zwk Tryz.f8 (zm9.enc x) (bNil.enc g) = (z78 none x.1).map zyq := by kernel_rfl
theorem z1mm : FnOk Tryz.prog cd 8 zno := mk_ok (E := zwk) cd_ok zwa Tryz.func8 (by kernel_rfl) (noLoops_body (by kernel_rfl)) (aO_ok cStr_ok (aNil_ok)) bNil_ok (T := fun x _ => z78 none x.1) (fun _ _ => rfl) z1ec
noncomputable def fns8 := addF 8 true zno fns33
theorem zq4 : ∀ f q t, fns8 f = some (q, t) → FnOk Tryz.prog cd f t := addF_ok z1mm zwa
structure z2p where
  t0 : (List Int)
  t1 : (List Int)
  t5 : Int
noncomputable def z3y (s : z2p) : Tree (z2p ⊕ (Bool ⊕ Unit)) :=
  .ite (decide (s.t5 < (s.t0.length : Int)))
    (.ite (decide (0 ≤ s.t5))
      (.opt Int (s.t0[(s.t5).toNat]?) fun y459 =>
        .ite (decide (0 ≤ s.t5))
          (.opt Int (s.t1[(s.t5).toNat]?) fun y460 =>
            .ite (!decide (y459 = y460))
              (.leaf (.inr (.inl false)))
              (.leaf (.inl (z2p.mk s.t0 s.t1 (IntKind.wrap .i64 (s.t5 + (1 : Int)))))))
          .fail)
      .fail)
    (.leaf (.inr (.inr ())))
noncomputable def zcm (q : Option Nat) (s : z2p) : Option (Bool ⊕ Unit) := limQ q (fun s => (z3y s).run) s
noncomputable def zb3 (q : Option Nat) (x0 : (List Int)) (x1 : (List Int)) : Tree Bool :=
  .ite (!decide ((x0.length : Int) = (x1.length : Int)))
    (.leaf (false))
    (.opt (Bool ⊕ Unit) (zcm q (z2p.mk x0 x1 (0 : Int))) fun l461 =>
      .ite (l461.isLeft)
        (.opt Bool (l461.getLeft?) fun a462 =>
          .leaf (a462))
        (.opt Unit (l461.getRight?) fun b463 =>
          .leaf (true)))
noncomputable def z5g (q : Option Nat) (x0 : (List Int)) (x1 : (List Int)) : Option Bool := (zb3 q x0 x1).run
noncomputable def zm7 : Arg U ((List Int) × (List Int) × Unit) := aO (cSl 3) (aO (cSl 3) (aNil))
noncomputable def z19m (r : Bool) : List (V U) × List (Blk U) := ([vO cBool r], [])
noncomputable def z14u : List (V U) → List (Blk U) → Option (FnOut U) := mkSpec zm7 bNil (fun x _ => z5g none x.1 x.2.1) z19m
noncomputable def z13b (x : ((List Int) × Unit) × ((List Int) × Unit) × (Int × Unit) × Unit) (_g : Unit) : z2p := z2p.mk x.1.1 x.2.1.1 x.2.2.1.1
noncomputable def z158 : Tms U (((List Int) × Unit) × ((List Int) × Unit) × (Int × Unit) × Unit) := tO 0 (cPair (cSl 3) (cUnit)) (tO 1 (cPair (cSl 3) (cUnit)) (tO 5 (cPair (cInt .i64) (cUnit)) (tNil)))
noncomputable def z14o : Bls U (Unit) := bNil
noncomputable def zkd (s : z2p) : St U := { tm := [(0, .v (vO (cPair (cSl 3) (cUnit)) (s.t0, ()))), (1, .v (vO (cPair (cSl 3) (cUnit)) (s.t1, ()))), (5, .v (vO (cPair (cInt .i64) (cUnit)) (s.t5, ())))], hp := [] }
noncomputable def zx2 : (Bool ⊕ Unit) → Ex × St U
  | .inl r => (.ret, { tm := [(4, .v (vO (cPair cBool (cUnit)) (r, ())))], hp := [] })
  | .inr r => (.exit 0, { tm := [], hp := [] })
noncomputable def zz9 (y : (Bool ⊕ Unit)) : Tree (Ex × St U) := .ite y.isLeft (.opt Bool y.getLeft? fun r => .leaf (.ret, { tm := [(4, .v (vO (cPair cBool (cUnit)) (r, ())))], hp := [] })) (.opt Unit y.getRight? fun r => .leaf (.exit 0, { tm := [], hp := [] }))
noncomputable def zuk : Hd := { keep := [0, 1, 5], xkeep := [4], own := false }
noncomputable def zd7 : Env U := { P := Tryz.prog, cd := cd, fns := fns8, lps := (addL 0 zuk (mkLoop z158 z14o z13b (zcm none) zz9) noL), frz := fun _r => false, nt := 26, n0 := 0 }
noncomputable def zxe : Code := (loopAt (Tryz.f70.body.getD .skip) 0 0).getD .skip
theorem z1gb (s : z2p) : round zd7 zuk zxe 0 (zkd s) = (z3y s).map (sumE zkd zx2) := by kernel_rfl
theorem z1ek : LpOk zd7 zxe 0 := mkLoop_ok (A := z158) (B := z14o) (f := z13b) (L := zcm none) (tO_ok (cPair_ok (cSl_ok 3) cUnit_ok) (tO_ok (cPair_ok (cSl_ok 3) cUnit_ok) (tO_ok (cPair_ok (cInt_ok .i64) cUnit_ok) tNil_ok))) bNil_ok (enc := zkd) (out := zz9) (outS := zx2) (step := z3y) (fun _ => rfl) (fun _ _ => by kernel_rfl) (by kernel_rfl) (fun b => by cases b <;> rfl) z1gb
theorem z1kt (x : (List Int) × (List Int) × Unit) (g : Unit) : execF zd7 Tryz.f70 (zm7.enc x) (bNil.enc g) = (zb3 none x.1 x.2.1).map z19m := by kernel_rfl
theorem z1cd : FnOk Tryz.prog cd 70 z14u := mk_ok (E := zd7) cd_ok zq4 Tryz.func70 (by kernel_rfl) (loops_of (addL_ok z1ek noL_ok)) (aO_ok (cSl_ok 3) (aO_ok (cSl_ok 3) (aNil_ok))) bNil_ok (T := fun x _ => zb3 none x.1 x.2.1) (fun _ _ => rfl) z1kt
noncomputable def fns70 := addF 70 true z14u fns8
theorem zw7 : ∀ f q t, fns70 f = some (q, t) → FnOk Tryz.prog cd f t := addF_ok z1cd zq4
structure z28 where
  t0 : (List Line)
  t1 : (List Line)
  t5 : Int
noncomputable def z4e (s : z28) : Tree (z28 ⊕ (Bool ⊕ Unit)) :=
  .ite (decide (s.t5 < (s.t0.length : Int)))
    (.ite (decide (0 ≤ s.t5))
      (.opt Line (s.t0[(s.t5).toNat]?) fun y464 =>
        .ite (decide (0 ≤ s.t5))
          (.opt Line (s.t1[(s.t5).toNat]?) fun y465 =>
            .ite (!((y464.rxEnable == y465.rxEnable) && ((y464.rxReady == y465.rxReady) && ((y464.overrun == y465.overrun) && ((decide (y464.rxData = y465.rxData)) && ((y464.txEnable == y465.txEnable) && ((y464.txReady == y465.txReady) && ((decide (y464.txData = y465.txData)) && ((decide (y464.txLeft = y465.txLeft)) && (decide (y464.out = y465.out)))))))))))
              (.leaf (.inr (.inl false)))
              (.leaf (.inl (z28.mk s.t0 s.t1 (IntKind.wrap .i64 (s.t5 + (1 : Int)))))))
          .fail)
      .fail)
    (.leaf (.inr (.inr ())))
noncomputable def zf4 (q : Option Nat) (s : z28) : Option (Bool ⊕ Unit) := limQ q (fun s => (z4e s).run) s
noncomputable def zfp (q : Option Nat) (x0 : (List Line)) (x1 : (List Line)) : Tree Bool :=
  .ite (!decide ((x0.length : Int) = (x1.length : Int)))
    (.leaf (false))
    (.opt (Bool ⊕ Unit) (zf4 q (z28.mk x0 x1 (0 : Int))) fun l466 =>
      .ite (l466.isLeft)
        (.opt Bool (l466.getLeft?) fun a467 =>
          .leaf (a467))
        (.opt Unit (l466.getRight?) fun b468 =>
          .leaf (true)))
noncomputable def zcx (q : Option Nat) (x0 : (List Line)) (x1 : (List Line)) : Option Bool := (zfp q x0 x1).run
noncomputable def zx3 : Arg U ((List Line) × (List Line) × Unit) := aO (cSl 66) (aO (cSl 66) (aNil))
noncomputable def zu0 (r : Bool) : List (V U) × List (Blk U) := ([vO cBool r], [])
noncomputable def z180 : List (V U) → List (Blk U) → Option (FnOut U) := mkSpec zx3 bNil (fun x _ => zcx none x.1 x.2.1) zu0
noncomputable def znn (x : ((List Line) × Unit) × ((List Line) × Unit) × (Int × Unit) × Unit) (_g : Unit) : z28 := z28.mk x.1.1 x.2.1.1 x.2.2.1.1
noncomputable def zs7 : Tms U (((List Line) × Unit) × ((List Line) × Unit) × (Int × Unit) × Unit) := tO 0 (cPair (cSl 66) (cUnit)) (tO 1 (cPair (cSl 66) (cUnit)) (tO 5 (cPair (cInt .i64) (cUnit)) (tNil)))
noncomputable def z195 : Bls U (Unit) := bNil
noncomputable def zkt (s : z28) : St U := { tm := [(0, .v (vO (cPair (cSl 66) (cUnit)) (s.t0, ()))), (1, .v (vO (cPair (cSl 66) (cUnit)) (s.t1, ()))), (5, .v (vO (cPair (cInt .i64) (cUnit)) (s.t5, ())))], hp := [] }
noncomputable def z17q : (Bool ⊕ Unit) → Ex × St U
  | .inl r => (.ret, { tm := [(4, .v (vO (cPair cBool (cUnit)) (r, ())))], hp := [] })
  | .inr r => (.exit 0, { tm := [], hp := [] })
noncomputable def zy6 (y : (Bool ⊕ Unit)) : Tree (Ex × St U) := .ite y.isLeft (.opt Bool y.getLeft? fun r => .leaf (.ret, { tm := [(4, .v (vO (cPair cBool (cUnit)) (r, ())))], hp := [] })) (.opt Unit y.getRight? fun r => .leaf (.exit 0, { tm := [], hp := [] }))
noncomputable def z12i : Hd := { keep := [0, 1, 5], xkeep := [4], own := false }
noncomputable def zfm : Env U := { P := Tryz.prog, cd := cd, fns := fns70, lps := (addL 0 z12i (mkLoop zs7 z195 znn (zf4 none) zy6) noL), frz := fun _r => false, nt := 26, n0 := 0 }
noncomputable def zpl : Code := (loopAt (Tryz.f71.body.getD .skip) 0 0).getD .skip
theorem z1i4 (s : z28) : round zfm z12i zpl 0 (zkt s) = (z4e s).map (sumE zkt z17q) := by kernel_rfl
theorem z1i3 : LpOk zfm zpl 0 := mkLoop_ok (A := zs7) (B := z195) (f := znn) (L := zf4 none) (tO_ok (cPair_ok (cSl_ok 66) cUnit_ok) (tO_ok (cPair_ok (cSl_ok 66) cUnit_ok) (tO_ok (cPair_ok (cInt_ok .i64) cUnit_ok) tNil_ok))) bNil_ok (enc := zkt) (out := zy6) (outS := z17q) (step := z4e) (fun _ => rfl) (fun _ _ => by kernel_rfl) (by kernel_rfl) (fun b => by cases b <;> rfl) z1i4
theorem z1jx (x : (List Line) × (List Line) × Unit) (g : Unit) : execF zfm Tryz.f71 (zx3.enc x) (bNil.enc g) = (zfp none x.1 x.2.1).map zu0 := by kernel_rfl
theorem z1kg : FnOk Tryz.prog cd 71 z180 := mk_ok (E := zfm) cd_ok zw7 Tryz.func71 (by kernel_rfl) (loops_of (addL_ok z1i3 noL_ok)) (aO_ok (cSl_ok 66) (aO_ok (cSl_ok 66) (aNil_ok))) bNil_ok (T := fun x _ => zfp none x.1 x.2.1) (fun _ _ => rfl) z1jx
noncomputable def fns71 := addF 71 true z180 fns70
theorem ztp : ∀ f q t, fns71 f = some (q, t) → FnOk Tryz.prog cd f t := addF_ok z1kg zw7
structure z24 where
  t0 : (List (List UInt8))
  t1 : (List (List UInt8))
  t5 : Int
noncomputable def z4v (s : z24) : Tree (z24 ⊕ (Bool ⊕ Unit)) :=
  .ite (decide (s.t5 < (s.t0.length : Int)))
    (.ite (decide (0 ≤ s.t5))
      (.opt (List UInt8) (s.t0[(s.t5).toNat]?) fun y469 =>
        .ite (decide (0 ≤ s.t5))
          (.opt (List UInt8) (s.t1[(s.t5).toNat]?) fun y470 =>
            .ite (!decide (y469 = y470))
              (.leaf (.inr (.inl false)))
              (.leaf (.inl (z24.mk s.t0 s.t1 (IntKind.wrap .i64 (s.t5 + (1 : Int)))))))
          .fail)
      .fail)
    (.leaf (.inr (.inr ())))
noncomputable def zc4 (q : Option Nat) (s : z24) : Option (Bool ⊕ Unit) := limQ q (fun s => (z4v s).run) s
noncomputable def zcg (q : Option Nat) (x0 : (List (List UInt8))) (x1 : (List (List UInt8))) : Tree Bool :=
  .ite (!decide ((x0.length : Int) = (x1.length : Int)))
    (.leaf (false))
    (.opt (Bool ⊕ Unit) (zc4 q (z24.mk x0 x1 (0 : Int))) fun l471 =>
      .ite (l471.isLeft)
        (.opt Bool (l471.getLeft?) fun a472 =>
          .leaf (a472))
        (.opt Unit (l471.getRight?) fun b473 =>
          .leaf (true)))
noncomputable def z7k (q : Option Nat) (x0 : (List (List UInt8))) (x1 : (List (List UInt8))) : Option Bool := (zcg q x0 x1).run
noncomputable def zs2 : Arg U ((List (List UInt8)) × (List (List UInt8)) × Unit) := aO (cSl 9) (aO (cSl 9) (aNil))
noncomputable def zwq (r : Bool) : List (V U) × List (Blk U) := ([vO cBool r], [])
noncomputable def z176 : List (V U) → List (Blk U) → Option (FnOut U) := mkSpec zs2 bNil (fun x _ => z7k none x.1 x.2.1) zwq
noncomputable def z111 (x : ((List (List UInt8)) × Unit) × ((List (List UInt8)) × Unit) × (Int × Unit) × Unit) (_g : Unit) : z24 := z24.mk x.1.1 x.2.1.1 x.2.2.1.1
noncomputable def z16y : Tms U (((List (List UInt8)) × Unit) × ((List (List UInt8)) × Unit) × (Int × Unit) × Unit) := tO 0 (cPair (cSl 9) (cUnit)) (tO 1 (cPair (cSl 9) (cUnit)) (tO 5 (cPair (cInt .i64) (cUnit)) (tNil)))
noncomputable def z14n : Bls U (Unit) := bNil
noncomputable def zh4 (s : z24) : St U := { tm := [(0, .v (vO (cPair (cSl 9) (cUnit)) (s.t0, ()))), (1, .v (vO (cPair (cSl 9) (cUnit)) (s.t1, ()))), (5, .v (vO (cPair (cInt .i64) (cUnit)) (s.t5, ())))], hp := [] }
noncomputable def z10l : (Bool ⊕ Unit) → Ex × St U
  | .inl r => (.ret, { tm := [(4, .v (vO (cPair cBool (cUnit)) (r, ())))], hp := [] })
  | .inr r => (.exit 0, { tm := [], hp := [] })
noncomputable def z105 (y : (Bool ⊕ Unit)) : Tree (Ex × St U) := .ite y.isLeft (.opt Bool y.getLeft? fun r => .leaf (.ret, { tm := [(4, .v (vO (cPair cBool (cUnit)) (r, ())))], hp := [] })) (.opt Unit y.getRight? fun r => .leaf (.exit 0, { tm := [], hp := [] }))
noncomputable def zn5 : Hd := { keep := [0, 1, 5], xkeep := [4], own := false }
noncomputable def zff : Env U := { P := Tryz.prog, cd := cd, fns := fns71, lps := (addL 0 zn5 (mkLoop z16y z14n z111 (zc4 none) z105) noL), frz := fun _r => false, nt := 26, n0 := 0 }
noncomputable def zpx : Code := (loopAt (Tryz.f120.body.getD .skip) 0 0).getD .skip
theorem z1e7 (s : z24) : round zff zn5 zpx 0 (zh4 s) = (z4v s).map (sumE zh4 z10l) := by kernel_rfl
theorem z1l2 : LpOk zff zpx 0 := mkLoop_ok (A := z16y) (B := z14n) (f := z111) (L := zc4 none) (tO_ok (cPair_ok (cSl_ok 9) cUnit_ok) (tO_ok (cPair_ok (cSl_ok 9) cUnit_ok) (tO_ok (cPair_ok (cInt_ok .i64) cUnit_ok) tNil_ok))) bNil_ok (enc := zh4) (out := z105) (outS := z10l) (step := z4v) (fun _ => rfl) (fun _ _ => by kernel_rfl) (by kernel_rfl) (fun b => by cases b <;> rfl) z1e7
theorem z1eh (x : (List (List UInt8)) × (List (List UInt8)) × Unit) (g : Unit) : execF zff Tryz.f120 (zs2.enc x) (bNil.enc g) = (zcg none x.1 x.2.1).map zwq := by kernel_rfl
theorem z1dw : FnOk Tryz.prog cd 120 z176 := mk_ok (E := zff) cd_ok ztp Tryz.func120 (by kernel_rfl) (loops_of (addL_ok z1l2 noL_ok)) (aO_ok (cSl_ok 9) (aO_ok (cSl_ok 9) (aNil_ok))) bNil_ok (T := fun x _ => zcg none x.1 x.2.1) (fun _ _ => rfl) z1eh
noncomputable def fns120 := addF 120 true z176 fns71
theorem z18r : ∀ f q t, fns120 f = some (q, t) → FnOk Tryz.prog cd f t := addF_ok z1dw ztp
noncomputable def zf7 (q : Option Nat) (x0 : Disk) (x1 : Disk) : Tree Bool :=
  .opt Bool (z7k q x0.drive.sectors x1.drive.sectors) fun r474 =>
    .ite (!r474)
      (.leaf (false))
      (.opt Bool (z5g q x0.drive.bad x1.drive.bad) fun r475 =>
        .ite (!r475)
          (.leaf (false))
          (.ite (!(x0.enable == x1.enable))
            (.leaf (false))
            (.ite (!(x0.ready == x1.ready))
              (.leaf (false))
              (.ite (!(x0.error == x1.error))
                (.leaf (false))
                (.ite (decide (x0.command = x1.command))
                  (.ite (decide (x0.words = x1.words))
                    (.ite (decide (x0.addr = x1.addr))
                      (.ite (decide (x0.start = x1.start))
                        (.leaf (decide (x0.left = x1.left)))
                        (.leaf (false)))
                      (.leaf (false)))
                    (.leaf (false)))
                  (.leaf (false)))))))
noncomputable def zdc (q : Option Nat) (x0 : Disk) (x1 : Disk) : Option Bool := (zf7 q x0 x1).run
noncomputable def zvp : Arg U (Disk × Disk × Unit) := aA cDisk (aA cDisk (aNil))
noncomputable def z17m (r : Bool) : List (V U) × List (Blk U) := ([vO cBool r], [])
noncomputable def zqb : List (V U) → List (Blk U) → Option (FnOut U) := mkSpec zvp bNil (fun x _ => zdc none x.1 x.2.1) z17m
noncomputable def zpk : Env U := { P := Tryz.prog, cd := cd, fns := fns120, lps := noL, frz := fun _r => false, nt := 77, n0 := 0 }
theorem z1da (x : Disk × Disk × Unit) (g : Unit) : execF zpk Tryz.f72 (zvp.enc x) (bNil.enc g) = (zf7 none x.1 x.2.1).map z17m := by kernel_rfl
theorem z1c9 : FnOk Tryz.prog cd 72 zqb := mk_ok (E := zpk) cd_ok z18r Tryz.func72 (by kernel_rfl) (noLoops_body (by kernel_rfl)) (aA_ok z21 (aA_ok z21 (aNil_ok))) bNil_ok (T := fun x _ => zf7 none x.1 x.2.1) (fun _ _ => rfl) z1da
noncomputable def fns72 := addF 72 true zqb fns120
theorem z138 : ∀ f q t, fns72 f = some (q, t) → FnOk Tryz.prog cd f t := addF_ok z1c9 z18r
noncomputable def ze0 (q : Option Nat) (x0 : Tape) (x1 : Tape) : Tree Bool :=
  .opt Bool (z7k q x0.records x1.records) fun r476 =>
    .ite (!r476)
      (.leaf (false))
      (.ite (!decide (x0.pos = x1.pos))
        (.leaf (false))
        (.ite (!(x0.enable == x1.enable))
          (.leaf (false))
          (.ite (!(x0.ready == x1.ready))
            (.leaf (false))
            (.ite (!(x0.error == x1.error))
              (.leaf (false))
              (.ite ((x0.mark == x1.mark))
                (.ite ((x0.end_ == x1.end_))
                  (.ite (decide (x0.command = x1.command))
                    (.ite (decide (x0.count = x1.count))
                      (.ite (decide (x0.addr = x1.addr))
                        (.leaf (decide (x0.left = x1.left)))
                        (.leaf (false)))
                      (.leaf (false)))
                    (.leaf (false)))
                  (.leaf (false)))
                (.leaf (false)))))))
noncomputable def zas (q : Option Nat) (x0 : Tape) (x1 : Tape) : Option Bool := (ze0 q x0 x1).run
noncomputable def zye : Arg U (Tape × Tape × Unit) := aA cTape (aA cTape (aNil))
noncomputable def zvu (r : Bool) : List (V U) × List (Blk U) := ([vO cBool r], [])
noncomputable def zqk : List (V U) → List (Blk U) → Option (FnOut U) := mkSpec zye bNil (fun x _ => zas none x.1 x.2.1) zvu
noncomputable def z15k : Env U := { P := Tryz.prog, cd := cd, fns := fns72, lps := noL, frz := fun _r => false, nt := 79, n0 := 0 }
theorem z1gi (x : Tape × Tape × Unit) (g : Unit) : execF z15k Tryz.f73 (zye.enc x) (bNil.enc g) = (ze0 none x.1 x.2.1).map zvu := by kernel_rfl
theorem z1ho : FnOk Tryz.prog cd 73 zqk := mk_ok (E := z15k) cd_ok z138 Tryz.func73 (by kernel_rfl) (noLoops_body (by kernel_rfl)) (aA_ok z15 (aA_ok z15 (aNil_ok))) bNil_ok (T := fun x _ => ze0 none x.1 x.2.1) (fun _ _ => rfl) z1gi
noncomputable def fns73 := addF 73 true zqk fns72
theorem z184 : ∀ f q t, fns73 f = some (q, t) → FnOk Tryz.prog cd f t := addF_ok z1ho z138
structure z19 where
  t8 : Int
  b0 : (List (List UInt8))
  b1 : (List Bool)
  b2 : (List (List UInt8))
noncomputable def z7g (s : z19) : Tree (z19 ⊕ (List (List UInt8))) :=
  .ite (decide (s.t8 < (s.b0.length : Int)))
    (.ite (decide (0 ≤ s.t8))
      (.ite (decide (s.t8 < (s.b1.length : Int)))
        (.opt Bool (s.b1[(s.t8).toNat]?) fun y482 =>
          .ite (!y482)
            (.ite (decide (0 ≤ s.t8))
              (.ite (decide (s.t8 < (s.b0.length : Int)))
                (.opt (List UInt8) (s.b0[(s.t8).toNat]?) fun y483 =>
                  .ite (decide ((s.b2.length + ([y483]).length) * 16 ≤ 140737488355328))
                    (.leaf (.inl (z19.mk (IntKind.wrap .i64 (s.t8 + (1 : Int))) s.b0 s.b1 (s.b2 ++ ([y483])))))
                    .fail)
                .fail)
              .fail)
            (.leaf (.inl (z19.mk (IntKind.wrap .i64 (s.t8 + (1 : Int))) s.b0 s.b1 s.b2))))
        .fail)
      .fail)
    (.leaf (.inr s.b2))
noncomputable def z94 (q : Option Nat) (s : z19) : Option (List (List UInt8)) := limQ q (fun s => (z7g s).run) s
noncomputable def za3 (q : Option Nat) (x0 : Machine) (x1 : Machine) : Tree (List (List UInt8)) :=
  .opt Bool (z5g q x0.mem x1.mem) fun r477 =>
    .opt Bool (z5g q x0.bad x1.bad) fun r478 =>
      .opt Bool (zcx q x0.lines x1.lines) fun r479 =>
        .opt Bool (zdc q x0.disk x1.disk) fun r480 =>
          .opt Bool (zas q x0.tape x1.tape) fun r481 =>
            .opt (List (List UInt8)) (z94 q (z19.mk (0 : Int) ([([67, 112, 117] : List UInt8), ([77, 101, 109] : List UInt8), ([66, 97, 100] : List UInt8), ([77, 109, 117] : List UInt8), ([67, 108, 111, 99, 107] : List UInt8), ([76, 105, 110, 101, 115] : List UInt8), ([68, 105, 115, 107] : List UInt8), ([84, 97, 112, 101] : List UInt8), ([78, 111, 119] : List UInt8), ([72, 97, 108, 116, 101, 100] : List UInt8), ([87, 97, 105, 116, 105, 110, 103] : List UInt8), ([80, 111, 119, 101, 114] : List UInt8), ([80, 111, 119, 101, 114, 84, 114, 97, 112] : List UInt8)]) ([((decide (x0.cpu.r = x1.cpu.r)) && ((decide (x0.cpu.sP = x1.cpu.sP)) && ((decide (x0.cpu.pC = x1.cpu.pC)) && (decide (x0.cpu.pSW = x1.cpu.pSW))))), r477, r478, ((x0.mmu.on == x1.mmu.on) && ((decide (x0.mmu.pages = x1.mmu.pages)) && ((decide (x0.mmu.status = x1.mmu.status)) && (decide (x0.mmu.addr = x1.mmu.addr))))), ((x0.clock.enable == x1.clock.enable) && ((x0.clock.ready == x1.clock.ready) && ((decide (x0.clock.period = x1.clock.period)) && (decide (x0.clock.left = x1.clock.left))))), r479, r480, r481, decide (x0.now = x1.now), (x0.halted == x1.halted), (x0.waiting == x1.waiting), decide (x0.power = x1.power), (x0.powerTrap == x1.powerTrap)]) ([]))) fun l484 =>
              .leaf (l484)
noncomputable def zg6 (q : Option Nat) (x0 : Machine) (x1 : Machine) : Option (List (List UInt8)) := (za3 q x0 x1).run
noncomputable def z1a4 : Arg U (Machine × Machine × Unit) := aA cMachine (aA cMachine (aNil))
noncomputable def zvr (r : (List (List UInt8))) : List (V U) × List (Blk U) := ([vO (cSl 9) r], [])
noncomputable def z186 : List (V U) → List (Blk U) → Option (FnOut U) := mkSpec z1a4 bNil (fun x _ => zg6 none x.1 x.2.1) zvr
noncomputable def z191 (x : (Unit) × (Unit) × (Unit) × (Int × Unit) × Unit) (g : (List (List UInt8)) × (List Bool) × (List (List UInt8)) × Unit) : z19 := z19.mk x.2.2.2.1.1 g.1 g.2.1 g.2.2.1
noncomputable def zu4 : Tms U ((Unit) × (Unit) × (Unit) × (Int × Unit) × Unit) := tO 5 (cK (.row 0 0) (cUnit)) (tO 6 (cK (.row 1 0) (cUnit)) (tO 7 (cK (.row 2 0) (cUnit)) (tO 8 (cPair (cInt .i64) (cUnit)) (tNil))))
noncomputable def z11l : Bls U ((List (List UInt8)) × (List Bool) × (List (List UInt8)) × Unit) := bRv 9 0 (bRv 4 0 (bRv 9 0 (bNil)))
noncomputable def zio (s : z19) : St U := { tm := [(5, .v (vO (cK (.row 0 0) (cUnit)) (()))), (6, .v (vO (cK (.row 1 0) (cUnit)) (()))), (7, .v (vO (cK (.row 2 0) (cUnit)) (()))), (8, .v (vO (cPair (cInt .i64) (cUnit)) (s.t8, ())))], hp := [.row 9 0 s.b0, .row 4 0 s.b1, .row 9 0 s.b2] }
noncomputable def zho (r : (List (List UInt8))) : Ex × St U := (.exit 0, { tm := [(7, .v (vO (cK (.row 0 0) (cUnit)) (())))], hp := [.row 9 0 r] })
noncomputable def zxb (r : (List (List UInt8))) : Tree (Ex × St U) := .leaf (zho r)
noncomputable def zwu : Hd := { keep := [5, 6, 7, 8], xkeep := [4, 7], own := true }
noncomputable def zbk : Env U := { P := Tryz.prog, cd := cd, fns := fns73, lps := (addL 0 zwu (mkLoop zu4 z11l z191 (z94 none) zxb) noL), frz := fun _r => false, nt := 95, n0 := 0 }
noncomputable def zv3 : Code := (loopAt (Tryz.f34.body.getD .skip) 0 0).getD .skip
theorem z1ij (s : z19) : round zbk zwu zv3 0 (zio s) = (z7g s).map (sumE zio zho) := by kernel_rfl
theorem z1ch : LpOk zbk zv3 0 := mkLoop_ok (A := zu4) (B := z11l) (f := z191) (L := z94 none) (tO_ok (cK_ok cUnit_ok) (tO_ok (cK_ok cUnit_ok) (tO_ok (cK_ok cUnit_ok) (tO_ok (cPair_ok (cInt_ok .i64) cUnit_ok) tNil_ok)))) (bRv_ok (bRv_ok (bRv_ok bNil_ok))) (enc := zio) (out := zxb) (outS := zho) (step := z7g) (fun _ => rfl) (fun _ _ => by kernel_rfl) (by kernel_rfl) (fun _ => rfl) z1ij
theorem z1dn (x : Machine × Machine × Unit) (g : Unit) : execF zbk Tryz.f34 (z1a4.enc x) (bNil.enc g) = (za3 none x.1 x.2.1).map zvr := by kernel_rfl
theorem z1cl : FnOk Tryz.prog cd 34 z186 := mk_ok (E := zbk) cd_ok z184 Tryz.func34 (by kernel_rfl) (loops_of (addL_ok z1ch noL_ok)) (aA_ok zm (aA_ok zm (aNil_ok))) bNil_ok (T := fun x _ => za3 none x.1 x.2.1) (fun _ _ => rfl) z1dn
noncomputable def fns34 := addF 34 true z186 fns73
theorem zr2 : ∀ f q t, fns34 f = some (q, t) → FnOk Tryz.prog cd f t := addF_ok z1cl z184
noncomputable def zah (q : Option Nat) (x0 : Machine) (x1 : Machine) : Tree Bool :=
  .opt (List (List UInt8)) (zg6 q x0 x1) fun r485 =>
    .leaf (decide ((r485.length : Int) = (0 : Int)))
noncomputable def zfj (q : Option Nat) (x0 : Machine) (x1 : Machine) : Option Bool := (zah q x0 x1).run
noncomputable def zmh : Arg U (Machine × Machine × Unit) := aA cMachine (aA cMachine (aNil))
noncomputable def z112 (r : Bool) : List (V U) × List (Blk U) := ([vO cBool r], [])
noncomputable def z17h : List (V U) → List (Blk U) → Option (FnOut U) := mkSpec zmh bNil (fun x _ => zfj none x.1 x.2.1) z112
noncomputable def zon : Env U := { P := Tryz.prog, cd := cd, fns := fns34, lps := noL, frz := fun _r => false, nt := 10, n0 := 0 }
theorem z1fj (x : Machine × Machine × Unit) (g : Unit) : execF zon Tryz.f9 (zmh.enc x) (bNil.enc g) = (zah none x.1 x.2.1).map z112 := by kernel_rfl
theorem z1md : FnOk Tryz.prog cd 9 z17h := mk_ok (E := zon) cd_ok zr2 Tryz.func9 (by kernel_rfl) (noLoops_body (by kernel_rfl)) (aA_ok zm (aA_ok zm (aNil_ok))) bNil_ok (T := fun x _ => zah none x.1 x.2.1) (fun _ _ => rfl) z1fj
noncomputable def fns9 := addF 9 true z17h fns34
theorem z17n : ∀ f q t, fns9 f = some (q, t) → FnOk Tryz.prog cd f t := addF_ok z1md zr2
structure z2y where
  t6 : (List (List UInt8))
  t7 : Int
  t8 : Int
  b0 : (List Int)
noncomputable def z2b (s : z2y) : Tree (z2y ⊕ (List Int)) :=
  .ite (decide (s.t8 < s.t7))
    (.ite (decide (0 ≤ s.t8))
      (.opt (List UInt8) (s.t6[(s.t8).toNat]?) fun y486 =>
        .ite (decide ((s.b0.length + (y486.map fun b => (b.toNat : Int)).length) * 1 ≤ 140737488355328))
          (.leaf (.inl (z2y.mk s.t6 s.t7 (IntKind.wrap .i64 (s.t8 + (1 : Int))) (s.b0 ++ (y486.map fun b => (b.toNat : Int))))))
          .fail)
      .fail)
    (.leaf (.inr s.b0))
noncomputable def z7b (q : Option Nat) (s : z2y) : Option (List Int) := limQ q (fun s => (z2b s).run) s
noncomputable def zc1 (q : Option Nat) (x0 : (List (List UInt8))) : Tree (List UInt8) :=
  .opt (List Int) (z7b q (z2y.mk x0 (x0.length : Int) (0 : Int) ([]))) fun l487 =>
    .leaf (l487.map fun x => UInt8.ofNat x.toNat)
noncomputable def z8v (q : Option Nat) (x0 : (List (List UInt8))) : Option (List UInt8) := (zc1 q x0).run
noncomputable def zpw : Arg U ((List (List UInt8)) × Unit) := aO (cSl 9) (aNil)
noncomputable def zwe (r : (List UInt8)) : List (V U) × List (Blk U) := ([vO cStr r], [])
noncomputable def zey : List (V U) → List (Blk U) → Option (FnOut U) := mkSpec zpw bNil (fun x _ => z8v none x.1) zwe
noncomputable def z19u (x : (Unit) × ((List (List UInt8)) × Unit) × (Int × Unit) × (Int × Unit) × Unit) (g : (List Int) × Unit) : z2y := z2y.mk x.2.1.1 x.2.2.1.1 x.2.2.2.1.1 g.1
noncomputable def ztw : Tms U ((Unit) × ((List (List UInt8)) × Unit) × (Int × Unit) × (Int × Unit) × Unit) := tO 3 (cK (.row 0 0) (cUnit)) (tO 6 (cPair (cSl 9) (cUnit)) (tO 7 (cPair (cInt .i64) (cUnit)) (tO 8 (cPair (cInt .i64) (cUnit)) (tNil))))
noncomputable def zqr : Bls U ((List Int) × Unit) := bRv 5 0 (bNil)
noncomputable def zgh (s : z2y) : St U := { tm := [(3, .v (vO (cK (.row 0 0) (cUnit)) (()))), (6, .v (vO (cPair (cSl 9) (cUnit)) (s.t6, ()))), (7, .v (vO (cPair (cInt .i64) (cUnit)) (s.t7, ()))), (8, .v (vO (cPair (cInt .i64) (cUnit)) (s.t8, ())))], hp := [.row 5 0 s.b0] }
noncomputable def zks (r : (List Int)) : Ex × St U := (.exit 0, { tm := [(3, .v (vO (cK (.row 0 0) (cUnit)) (())))], hp := [.row 5 0 r] })
noncomputable def zsb (r : (List Int)) : Tree (Ex × St U) := .leaf (zks r)
noncomputable def zzt : Hd := { keep := [3, 6, 7, 8], xkeep := [2, 3], own := true }
noncomputable def zba : Env U := { P := Tryz.prog, cd := cd, fns := fns9, lps := (addL 0 zzt (mkLoop ztw zqr z19u (z7b none) zsb) noL), frz := fun _r => false, nt := 18, n0 := 0 }
noncomputable def zrp : Code := (loopAt (Tryz.f85.body.getD .skip) 0 0).getD .skip
theorem z1e4 (s : z2y) : round zba zzt zrp 0 (zgh s) = (z2b s).map (sumE zgh zks) := by kernel_rfl
theorem z1gm : LpOk zba zrp 0 := mkLoop_ok (A := ztw) (B := zqr) (f := z19u) (L := z7b none) (tO_ok (cK_ok cUnit_ok) (tO_ok (cPair_ok (cSl_ok 9) cUnit_ok) (tO_ok (cPair_ok (cInt_ok .i64) cUnit_ok) (tO_ok (cPair_ok (cInt_ok .i64) cUnit_ok) tNil_ok)))) (bRv_ok bNil_ok) (enc := zgh) (out := zsb) (outS := zks) (step := z2b) (fun _ => rfl) (fun _ _ => by kernel_rfl) (by kernel_rfl) (fun _ => rfl) z1e4
theorem z1g8 (x : (List (List UInt8)) × Unit) (g : Unit) : execF zba Tryz.f85 (zpw.enc x) (bNil.enc g) = (zc1 none x.1).map zwe := by kernel_rfl
theorem zid : FnOk Tryz.prog cd 85 zey := mk_ok (E := zba) cd_ok z17n Tryz.func85 (by kernel_rfl) (loops_of (addL_ok z1gm noL_ok)) (aO_ok (cSl_ok 9) (aNil_ok)) bNil_ok (T := fun x _ => zc1 none x.1) (fun _ _ => rfl) z1g8
noncomputable def fns85 := addF 85 true zey fns9
theorem zww : ∀ f q t, fns85 f = some (q, t) → FnOk Tryz.prog cd f t := addF_ok zid z17n
noncomputable def zfb (q : Option Nat) (x0 : (List UInt8)) : Tree (List UInt8) :=
  .opt Int (z8q q ([x0])) fun r490 =>
    .opt (List UInt8) (zw q r490 (4 : Int)) fun r491 =>
      .opt (List UInt8) (z8v q ([x0, r491])) fun r492 =>
        .leaf (r492)
noncomputable def ze3 (q : Option Nat) (x0 : (List UInt8)) : Option (List UInt8) := (zfb q x0).run
noncomputable def zxg : Arg U ((List UInt8) × Unit) := aO cStr (aNil)
noncomputable def zpe (r : (List UInt8)) : List (V U) × List (Blk U) := ([vO cStr r], [])
noncomputable def znh : List (V U) → List (Blk U) → Option (FnOut U) := mkSpec zxg bNil (fun x _ => ze3 none x.1) zpe
noncomputable def z194 : Env U := { P := Tryz.prog, cd := cd, fns := (addF 85 false (frzSpec zey) (addF 46 false (frzSpec zcy) fns85)), lps := noL, frz := fun _r => false, nt := 10, n0 := 0 }
theorem z1c2 (x : (List UInt8) × Unit) (g : Unit) : execF z194 Tryz.f38 (zxg.enc x) (bNil.enc g) = (zfb none x.1).map zpe := by kernel_rfl
theorem z1j1 : FnOk Tryz.prog cd 38 znh := mk_ok (E := z194) cd_ok (addF_ok (fnOk_frz cd_ok (mkSpec_out fun _ => rfl) zid) (addF_ok (fnOk_frz cd_ok (mkSpec_out fun _ => rfl) zi1) zww)) Tryz.func38 (by kernel_rfl) (noLoops_body (by kernel_rfl)) (aO_ok cStr_ok (aNil_ok)) bNil_ok (T := fun x _ => zfb none x.1) (fun _ _ => rfl) z1c2
noncomputable def fns38 := addF 38 true znh fns85
theorem zn : ∀ f q t, fns38 f = some (q, t) → FnOk Tryz.prog cd f t := addF_ok z1j1 zww
end Go.Proofs.YtiafliookmnjoaaGreatDoor
namespace Go.Proofs
open Go.Shelf
shelf_lay Lays.n105 Nm 105 at Tryz as Tryz.lays129
theorem Tryz.extra129 : Builder.X72 Tryz.prog Tryz.lays129_ren where
  sizeBuilder := by kernel_rfl
  liesBuilder := by kernel_rfl
end Go.Proofs
namespace Go.Proofs.YtiafliookmnjoaaGreatDoor
open Go Go.Ab
theorem zrj : FnOk Tryz.prog cd 129 (ccSpec 136) := cc_okT { Tryz.lays129 with } Tryz.extra129 Tryz.func129 (by kernel_rfl) (by kernel_rfl) rfl (by kernel_rfl)
noncomputable def z8k (x1 : (List UInt8)) (g0 : Unit) : Tree (Int × (List Int)) :=
  .opt Unit (ccF) fun r493 =>
    .ite (decide ((x1.map fun b => (b.toNat : Int)).length * 1 ≤ 140737488355328))
      (.leaf (((x1.length : Int), x1.map fun b => (b.toNat : Int))))
      .fail
noncomputable def zf6 (x1 : (List UInt8)) (g0 : Unit) : Option (Int × (List Int)) := (z8k x1 g0).run
noncomputable def zfq : Arg U ((List UInt8) × Unit) := aP 0 0 (aO cStr (aNil))
noncomputable def zam : Bls U (Unit × Unit) := bT (some 136) (cK .nilp (cNs 5)) (bNil)
noncomputable def zhv (_x : (List UInt8) × Unit) (_g : Unit × Unit) (r : (Int × (List Int))) : List (V U) × List (Blk U) := ([vO (cPair (cInt .i64) (cUnit)) (r.1, ()), vO (cK .unk (cUnit)) (())], [.cells ((cK (.ptr 0 0) (cK (.row 1 0) (cUnit)) : Cdc U (Unit)).enc (())) (some 136), .row 5 0 r.2])
noncomputable def z14x : List (V U) → List (Blk U) → Option (FnOut U) := mkSpecG zfq zam (fun x g => zf6 x.1 g.1) zhv
noncomputable def zkq : Env U := { P := Tryz.prog, cd := cd, fns := (addF 129 false (ccSpec 136) fns38), lps := noL, frz := fun _r => false, nt := 19, n0 := 1 }
theorem z1me (x1 : (List UInt8)) (g0 : Unit) : execX true zkq Tryz.f86 (zfq.enc (x1, ())) (zam.enc (g0, ())) = (z8k x1 g0).map (zhv (x1, ()) (g0, ())) := by kernel_rfl
theorem z1du : ∀ (x : (List UInt8) × Unit) (g : Unit × Unit), execX true zkq Tryz.f86 (zfq.enc x) (zam.enc g) = (z8k x.1 g.1).map (zhv x g)
  | (x1, ()), (g0, ()) => z1me x1 g0
theorem z1mx : FnOk Tryz.prog cd 86 z14x := mk_okG (E := zkq) (A := zfq) (B := zam) true cd_ok (addF_ok zrj zn) Tryz.func86 (by kernel_rfl) (noLoops_body (by kernel_rfl)) (aP_ok (aO_ok cStr_ok (aNil_ok))) (bT_ok (cK_ok (cNs_ok 5)) bNil_ok) (T := fun (x : (List UInt8) × Unit) (g : Unit × Unit) => z8k x.1 g.1) (fun _ _ => rfl) z1du
noncomputable def z7m (x1 : (List UInt8)) (g0 : Unit) (g1 : (List Int)) : Tree (Int × (List Int)) :=
  .opt Unit (ccF) fun r497 =>
    .ite (decide ((g1.length + (x1.map fun b => (b.toNat : Int)).length) * 1 ≤ 140737488355328))
      (.leaf (((x1.length : Int), g1 ++ (x1.map fun b => (b.toNat : Int)))))
      .fail
noncomputable def z65 (x1 : (List UInt8)) (g0 : Unit) (g1 : (List Int)) : Option (Int × (List Int)) := (z7m x1 g0 g1).run
noncomputable def zbi : Arg U ((List UInt8) × Unit) := aP 0 0 (aO cStr (aNil))
noncomputable def zec : Bls U (Unit × (List Int) × Unit) := bT (some 136) (cK (.ptr 0 0) (cK (.row 1 0) (cUnit))) (bR 5 (bNil))
noncomputable def zie (_x : (List UInt8) × Unit) (_g : Unit × (List Int) × Unit) (r : (Int × (List Int))) : List (V U) × List (Blk U) := ([vO (cPair (cInt .i64) (cUnit)) (r.1, ()), vO (cK .unk (cUnit)) (())], [.cells ((cK (.ptr 0 0) (cK (.row 1 1) (cUnit)) : Cdc U (Unit)).enc (())) (some 136), .row 5 1 r.2])
noncomputable def za0 : List (V U) → List (Blk U) → Option (FnOut U) := mkSpecG zbi zec (fun x g => z65 x.1 g.1 g.2.1) zie
noncomputable def zgr : Env U := { P := Tryz.prog, cd := cd, fns := (addF 129 false (ccSpec 136) fns38), lps := noL, frz := fun _r => false, nt := 19, n0 := 2 }
theorem z1j8 (x1 : (List UInt8)) (g0 : Unit) (g1 : (List Int)) : execX true zgr Tryz.f86 (zbi.enc (x1, ())) (zec.enc (g0, g1, ())) = (z7m x1 g0 g1).map (zie (x1, ()) (g0, g1, ())) := by kernel_rfl
theorem z1m1 : ∀ (x : (List UInt8) × Unit) (g : Unit × (List Int) × Unit), execX true zgr Tryz.f86 (zbi.enc x) (zec.enc g) = (z7m x.1 g.1 g.2.1).map (zie x g)
  | (x1, ()), (g0, g1, ()) => z1j8 x1 g0 g1
theorem zl4 : FnOk Tryz.prog cd 86 za0 := mk_okG (E := zgr) (A := zbi) (B := zec) true cd_ok (addF_ok zrj zn) Tryz.func86 (by kernel_rfl) (noLoops_body (by kernel_rfl)) (aP_ok (aO_ok cStr_ok (aNil_ok))) (bT_ok (cK_ok (cK_ok cUnit_ok)) (bR_ok bNil_ok)) (T := fun (x : (List UInt8) × Unit) (g : Unit × (List Int) × Unit) => z7m x.1 g.1 g.2.1) (fun _ _ => rfl) z1m1
structure z1t where
  t1 : Int
  t9 : Int
  t10 : Int
  b2 : (List Int)
noncomputable def z5r (q : Option Nat) (kk : Cpu) (s : z1t) : Tree (z1t ⊕ (List Int)) :=
  .ite (decide (s.t10 < s.t9))
    (.ite (decide (0 ≤ s.t10))
      (.ite (decide (s.t10 < ((6 : Nat) : Int)))
        (.opt Int (kk.r[(s.t10).toNat]?) fun y501 =>
          .opt (List UInt8) (zw q y501 s.t1) fun r502 =>
            .opt (Int × (List Int)) (z65 r502 () s.b2) fun r503 =>
              .leaf (.inl (z1t.mk s.t1 s.t9 (IntKind.wrap .i64 (s.t10 + (1 : Int))) r503.2)))
        .fail)
      .fail)
    (.leaf (.inr s.b2))
noncomputable def z7r (q : Option Nat) (kk : Cpu) (s : z1t) : Option (List Int) := limQ q (fun s => (z5r q kk s).run) s
noncomputable def z9n (q : Option Nat) (x1 : Int) (g0 : Unit) (g1 : Cpu) (g2 : (List Int)) : Tree (List Int) :=
  .opt (List Int) (z7r q g1 (z1t.mk x1 ((6 : Nat) : Int) (0 : Int) g2)) fun l504 =>
    .leaf (l504)
noncomputable def zdi (q : Option Nat) (x1 : Int) (g0 : Unit) (g1 : Cpu) (g2 : (List Int)) : Option (List Int) := (z9n q x1 g0 g1 g2).run
noncomputable def zd0 : Arg U (Int × Unit) := aP 0 0 (aO (cInt .i64) (aKF (.asl 1 0 3 6) (aNil)))
noncomputable def zfe : Bls U (Unit × Cpu × (List Int) × Unit) := bT (some 136) (cK (.ptr 0 0) (cK (.row 2 0) (cUnit))) (bC cCpu (bR 5 (bNil)))
noncomputable def zjz (_x : Int × Unit) (g : Unit × Cpu × (List Int) × Unit) (r : (List Int)) : List (V U) × List (Blk U) := ([], [.cells ((cK (.ptr 0 0) (cK (.row 2 1) (cUnit)) : Cdc U (Unit)).enc (())) (some 136), .cells ((cCpu : Cdc U Cpu).enc g.2.1) none, .row 5 1 r])
noncomputable def zzv : List (V U) → List (Blk U) → Option (FnOut U) := mkSpecG zd0 zfe (fun x g => zdi none x.1 g.1 g.2.1 g.2.2.1) zjz
noncomputable def ztz (x : (Unit) × (Int × Unit) × (Unit) × (Int × Unit) × (Int × Unit) × Unit) (g : (Unit) × (Cpu × Unit) × (List Int) × Unit) : Cpu × z1t := (g.2.1.1, z1t.mk x.2.1.1 x.2.2.2.1.1 x.2.2.2.2.1.1 g.2.2.1)
noncomputable def z10v : Tms U ((Unit) × (Int × Unit) × (Unit) × (Int × Unit) × (Int × Unit) × Unit) := tO 0 (cK (.ptr 0 0) (cUnit)) (tO 1 (cPair (cInt .i64) (cUnit)) (tO 8 (cK (.asl 1 0 3 6) (cUnit)) (tO 9 (cPair (cInt .i64) (cUnit)) (tO 10 (cPair (cInt .i64) (cUnit)) (tNil)))))
noncomputable def zwc : Bls U ((Unit) × (Cpu × Unit) × (List Int) × Unit) := bT (some 136) (cK (.ptr 0 0) (cK (.row 2 1) (cUnit))) (bC (cPair cCpu (cUnit)) (bRv 5 1 (bNil)))
noncomputable def zl8 (kk : Cpu) (s : z1t) : St U := { tm := [(0, .v (vO (cK (.ptr 0 0) (cUnit)) (()))), (1, .v (vO (cPair (cInt .i64) (cUnit)) (s.t1, ()))), (8, .v (vO (cK (.asl 1 0 3 6) (cUnit)) (()))), (9, .v (vO (cPair (cInt .i64) (cUnit)) (s.t9, ()))), (10, .v (vO (cPair (cInt .i64) (cUnit)) (s.t10, ())))], hp := [.cells ((cK (.ptr 0 0) (cK (.row 2 1) (cUnit)) : Cdc U (Unit)).enc (())) (some 136), .cells ((cPair cCpu (cUnit) : Cdc U (Cpu × Unit)).enc (kk, ())) none, .row 5 1 s.b2] }
noncomputable def zj5 (kk : Cpu) (r : (List Int)) : Ex × St U := (.exit 0, { tm := [], hp := [.cells ((cK (.ptr 0 0) (cK (.row 2 1) (cUnit)) : Cdc U (Unit)).enc (())) (some 136), .cells ((cPair cCpu (cUnit) : Cdc U (Cpu × Unit)).enc (kk, ())) none, .row 5 1 r] })
noncomputable def zsq (kk : Cpu) (r : (List Int)) : Tree (Ex × St U) := .leaf (zj5 kk r)
noncomputable def z193 : Hd := { keep := [0, 1, 8, 9, 10], xkeep := [], own := false, bump := true }
noncomputable def z8i : Env U := { P := Tryz.prog, cd := cd, fns := (addF 86 false (za0) fns38), lps := (addL 0 z193 (mkLoopK z10v zwc ztz (z7r none) zsq) noL), frz := fun _r => false, nt := 22, n0 := 3 }
noncomputable def z197 : Code := (loopAt (Tryz.f92.body.getD .skip) 0 0).getD .skip
theorem z1l4 (kk : Cpu) (s : z1t) : round z8i z193 z197 0 (zl8 kk s) = (z5r none kk s).map (sumE (zl8 kk) (zj5 kk)) := by kernel_rfl
theorem z1hu : LpOk z8i z197 0 := mkLoopK_ok (A := z10v) (B := zwc) (f := ztz) (L := z7r none) (tO_ok (cK_ok cUnit_ok) (tO_ok (cPair_ok (cInt_ok .i64) cUnit_ok) (tO_ok (cK_ok cUnit_ok) (tO_ok (cPair_ok (cInt_ok .i64) cUnit_ok) (tO_ok (cPair_ok (cInt_ok .i64) cUnit_ok) tNil_ok))))) (bT_ok (cK_ok (cK_ok cUnit_ok)) (bC_ok (cPair_ok zu cUnit_ok) (bRv_ok bNil_ok))) (enc := zl8) (out := zsq) (outS := zj5) (step := z5r none) (fun _ _ => rfl) (fun _ _ => by kernel_rfl) (by kernel_rfl) (fun _ _ => rfl) z1l4
theorem z1fx (x1 : Int) (g0 : Unit) (g1 : Cpu) (g2 : (List Int)) : execX false z8i Tryz.f92 (zd0.enc (x1, ())) (zfe.enc (g0, g1, g2, ())) = (z9n none x1 g0 g1 g2).map (zjz (x1, ()) (g0, g1, g2, ())) := by kernel_rfl
theorem z1hy : ∀ (x : Int × Unit) (g : Unit × Cpu × (List Int) × Unit), execX false z8i Tryz.f92 (zd0.enc x) (zfe.enc g) = (z9n none x.1 g.1 g.2.1 g.2.2.1).map (zjz x g)
  | (x1, ()), (g0, g1, g2, ()) => z1fx x1 g0 g1 g2
theorem z1eb : FnOk Tryz.prog cd 92 zzv := mk_okG (E := z8i) (A := zd0) (B := zfe) false cd_ok (addF_ok zl4 zn) Tryz.func92 (by kernel_rfl) (loops_of (addL_ok z1hu noL_ok)) (aP_ok (aO_ok (cInt_ok .i64) (aKF_ok (aNil_ok)))) (bT_ok (cK_ok (cK_ok cUnit_ok)) (bC_ok zu (bR_ok bNil_ok))) (T := fun (x : Int × Unit) (g : Unit × Cpu × (List Int) × Unit) => z9n none x.1 g.1 g.2.1 g.2.2.1) (fun _ _ => rfl) z1hy
structure z2g where
  t1 : Int
  t9 : Int
  t10 : Int
  b2 : (List Int)
noncomputable def z5t (q : Option Nat) (kk : (List Int)) (s : z2g) : Tree (z2g ⊕ (List Int)) :=
  .ite (decide (s.t10 < s.t9))
    (.ite (decide (0 ≤ s.t10))
      (.ite (decide (s.t10 < (kk.length : Int)))
        (.opt Int (kk[(s.t10).toNat]?) fun y511 =>
          .opt (List UInt8) (zw q y511 s.t1) fun r512 =>
            .opt (Int × (List Int)) (z65 r512 () s.b2) fun r513 =>
              .leaf (.inl (z2g.mk s.t1 s.t9 (IntKind.wrap .i64 (s.t10 + (1 : Int))) r513.2)))
        .fail)
      .fail)
    (.leaf (.inr s.b2))
noncomputable def z8y (q : Option Nat) (kk : (List Int)) (s : z2g) : Option (List Int) := limQ q (fun s => (z5t q kk s).run) s
noncomputable def z8z (q : Option Nat) (x1 : Int) (g0 : Unit) (g1 : (List Int)) (g2 : (List Int)) : Tree ((List Int) × (List Int)) :=
  .opt (List Int) (z8y q g1 (z2g.mk x1 (g1.length : Int) (0 : Int) g2)) fun l514 =>
    .leaf ((g1, l514))
noncomputable def za (q : Option Nat) (x1 : Int) (g0 : Unit) (g1 : (List Int)) (g2 : (List Int)) : Option ((List Int) × (List Int)) := (z8z q x1 g0 g1 g2).run
noncomputable def zdu : Arg U (Int × Unit) := aP 0 0 (aO (cInt .i64) (aR 1 (aNil)))
noncomputable def ze6 : Bls U (Unit × (List Int) × (List Int) × Unit) := bT (some 136) (cK (.ptr 0 0) (cK (.row 2 0) (cUnit))) (bR 3 (bR 5 (bNil)))
noncomputable def zig (_x : Int × Unit) (_g : Unit × (List Int) × (List Int) × Unit) (r : ((List Int) × (List Int))) : List (V U) × List (Blk U) := ([], [.cells ((cK (.ptr 0 0) (cK (.row 2 1) (cUnit)) : Cdc U (Unit)).enc (())) (some 136), .row 3 1 r.1, .row 5 1 r.2])
noncomputable def zy : List (V U) → List (Blk U) → Option (FnOut U) := mkSpecG zdu ze6 (fun x g => za none x.1 g.1 g.2.1 g.2.2.1) zig
noncomputable def zpq (x : (Unit) × (Int × Unit) × (Unit) × (Int × Unit) × (Int × Unit) × Unit) (g : (Unit) × (List Int) × (List Int) × Unit) : (List Int) × z2g := (g.2.1, z2g.mk x.2.1.1 x.2.2.2.1.1 x.2.2.2.2.1.1 g.2.2.1)
noncomputable def zv5 : Tms U ((Unit) × (Int × Unit) × (Unit) × (Int × Unit) × (Int × Unit) × Unit) := tO 0 (cK (.ptr 0 0) (cUnit)) (tO 1 (cPair (cInt .i64) (cUnit)) (tO 8 (cK (.row 1 1) (cUnit)) (tO 9 (cPair (cInt .i64) (cUnit)) (tO 10 (cPair (cInt .i64) (cUnit)) (tNil)))))
noncomputable def zu2 : Bls U ((Unit) × (List Int) × (List Int) × Unit) := bT (some 136) (cK (.ptr 0 0) (cK (.row 2 1) (cUnit))) (bRv 3 1 (bRv 5 1 (bNil)))
noncomputable def zim (kk : (List Int)) (s : z2g) : St U := { tm := [(0, .v (vO (cK (.ptr 0 0) (cUnit)) (()))), (1, .v (vO (cPair (cInt .i64) (cUnit)) (s.t1, ()))), (8, .v (vO (cK (.row 1 1) (cUnit)) (()))), (9, .v (vO (cPair (cInt .i64) (cUnit)) (s.t9, ()))), (10, .v (vO (cPair (cInt .i64) (cUnit)) (s.t10, ())))], hp := [.cells ((cK (.ptr 0 0) (cK (.row 2 1) (cUnit)) : Cdc U (Unit)).enc (())) (some 136), .row 3 1 kk, .row 5 1 s.b2] }
noncomputable def zij (kk : (List Int)) (r : (List Int)) : Ex × St U := (.exit 0, { tm := [], hp := [.cells ((cK (.ptr 0 0) (cK (.row 2 1) (cUnit)) : Cdc U (Unit)).enc (())) (some 136), .row 3 1 kk, .row 5 1 r] })
noncomputable def zr4 (kk : (List Int)) (r : (List Int)) : Tree (Ex × St U) := .leaf (zij kk r)
noncomputable def zpf : Hd := { keep := [0, 1, 8, 9, 10], xkeep := [], own := false, bump := true }
noncomputable def z8b : Env U := { P := Tryz.prog, cd := cd, fns := (addF 86 false (za0) fns38), lps := (addL 0 zpf (mkLoopK zv5 zu2 zpq (z8y none) zr4) noL), frz := fun _r => false, nt := 22, n0 := 3 }
noncomputable def zpi : Code := (loopAt (Tryz.f92.body.getD .skip) 0 0).getD .skip
theorem z1mt (kk : (List Int)) (s : z2g) : round z8b zpf zpi 0 (zim kk s) = (z5t none kk s).map (sumE (zim kk) (zij kk)) := by kernel_rfl
theorem z1lg : LpOk z8b zpi 0 := mkLoopK_ok (A := zv5) (B := zu2) (f := zpq) (L := z8y none) (tO_ok (cK_ok cUnit_ok) (tO_ok (cPair_ok (cInt_ok .i64) cUnit_ok) (tO_ok (cK_ok cUnit_ok) (tO_ok (cPair_ok (cInt_ok .i64) cUnit_ok) (tO_ok (cPair_ok (cInt_ok .i64) cUnit_ok) tNil_ok))))) (bT_ok (cK_ok (cK_ok cUnit_ok)) (bRv_ok (bRv_ok bNil_ok))) (enc := zim) (out := zr4) (outS := zij) (step := z5t none) (fun _ _ => rfl) (fun _ _ => by kernel_rfl) (by kernel_rfl) (fun _ _ => rfl) z1mt
theorem z1g6 (x1 : Int) (g0 : Unit) (g1 : (List Int)) (g2 : (List Int)) : execX false z8b Tryz.f92 (zdu.enc (x1, ())) (ze6.enc (g0, g1, g2, ())) = (z8z none x1 g0 g1 g2).map (zig (x1, ()) (g0, g1, g2, ())) := by kernel_rfl
theorem z1ea : ∀ (x : Int × Unit) (g : Unit × (List Int) × (List Int) × Unit), execX false z8b Tryz.f92 (zdu.enc x) (ze6.enc g) = (z8z none x.1 g.1 g.2.1 g.2.2.1).map (zig x g)
  | (x1, ()), (g0, g1, g2, ()) => z1g6 x1 g0 g1 g2
theorem zz : FnOk Tryz.prog cd 92 zy := mk_okG (E := z8b) (A := zdu) (B := ze6) false cd_ok (addF_ok zl4 zn) Tryz.func92 (by kernel_rfl) (loops_of (addL_ok z1lg noL_ok)) (aP_ok (aO_ok (cInt_ok .i64) (aR_ok (aNil_ok)))) (bT_ok (cK_ok (cK_ok cUnit_ok)) (bR_ok (bR_ok bNil_ok))) (T := fun (x : Int × Unit) (g : Unit × (List Int) × (List Int) × Unit) => z8z none x.1 g.1 g.2.1 g.2.2.1) (fun _ _ => rfl) z1ea
noncomputable def z8w (q : Option Nat) (x1 : Cpu) (g0 : Unit) (g1 : (List Int)) : Tree (List Int) :=
  .opt (List Int) (zdi q (2 : Int) () x1 g1) fun r515 =>
    .ite (decide (0 ≤ (0 : Int)))
      (.ite (decide ((0 : Int) < (2 : Int)))
        (.opt Int (x1.sP[((0 : Int)).toNat * 1]?) fun y516 =>
          .ite (decide (0 ≤ (1 : Int)))
            (.ite (decide ((1 : Int) < (2 : Int)))
              (.opt Int (x1.sP[((1 : Int)).toNat * 1]?) fun y517 =>
                .opt ((List Int) × (List Int)) (za q (2 : Int) () ([y516, y517, x1.pC, x1.pSW]) r515) fun r518 =>
                  .leaf (r518.2))
              .fail)
            .fail)
        .fail)
      .fail
noncomputable def z7h (q : Option Nat) (x1 : Cpu) (g0 : Unit) (g1 : (List Int)) : Option (List Int) := (z8w q x1 g0 g1).run
noncomputable def zfz : Arg U (Cpu × Unit) := aP 0 0 (aA cCpu (aNil))
noncomputable def zdh : Bls U (Unit × (List Int) × Unit) := bT (some 136) (cK (.ptr 0 0) (cK (.row 1 0) (cUnit))) (bR 5 (bNil))
noncomputable def zgn (_x : Cpu × Unit) (_g : Unit × (List Int) × Unit) (r : (List Int)) : List (V U) × List (Blk U) := ([], [.cells ((cK (.ptr 0 0) (cK (.row 1 2) (cUnit)) : Cdc U (Unit)).enc (())) (some 136), .row 5 2 r])
noncomputable def z18m : List (V U) → List (Blk U) → Option (FnOut U) := mkSpecG zfz zdh (fun x g => z7h none x.1 g.1 g.2.1) zgn
noncomputable def zgf : Env U := { P := Tryz.prog, cd := cd, fns := (addF 92 false (orSpec (zzv) (zy)) fns38), lps := noL, frz := fun _r => false, nt := 21, n0 := 2 }
theorem z1f8 (x1 : Cpu) (g0 : Unit) (g1 : (List Int)) : execX false zgf Tryz.f87 (zfz.enc (x1, ())) (zdh.enc (g0, g1, ())) = (z8w none x1 g0 g1).map (zgn (x1, ()) (g0, g1, ())) := by kernel_rfl
theorem z1lt : ∀ (x : Cpu × Unit) (g : Unit × (List Int) × Unit), execX false zgf Tryz.f87 (zfz.enc x) (zdh.enc g) = (z8w none x.1 g.1 g.2.1).map (zgn x g)
  | (x1, ()), (g0, g1, ()) => z1f8 x1 g0 g1
theorem z1f3 : FnOk Tryz.prog cd 87 z18m := mk_okG (E := zgf) (A := zfz) (B := zdh) false cd_ok (addF_ok (orSpec_ok z1eb zz) zn) Tryz.func87 (by kernel_rfl) (noLoops_body (by kernel_rfl)) (aP_ok (aA_ok zu (aNil_ok))) (bT_ok (cK_ok (cK_ok cUnit_ok)) (bR_ok bNil_ok)) (T := fun (x : Cpu × Unit) (g : Unit × (List Int) × Unit) => z8w none x.1 g.1 g.2.1) (fun _ _ => rfl) z1lt
noncomputable def z97 (q : Option Nat) (x1 : Int) (g0 : Unit) (g1 : (List Int)) : Tree (List Int) :=
  .opt ((List Int) × (List Int)) (za q (2 : Int) () ([x1]) g1) fun r523 =>
    .leaf (r523.2)
noncomputable def zg2 (q : Option Nat) (x1 : Int) (g0 : Unit) (g1 : (List Int)) : Option (List Int) := (z97 q x1 g0 g1).run
noncomputable def zap : Arg U (Int × Unit) := aP 0 0 (aO (cInt .i64) (aNil))
noncomputable def zde : Bls U (Unit × (List Int) × Unit) := bT (some 136) (cK (.ptr 0 0) (cK (.row 1 0) (cUnit))) (bR 5 (bNil))
noncomputable def zji (_x : Int × Unit) (_g : Unit × (List Int) × Unit) (r : (List Int)) : List (V U) × List (Blk U) := ([], [.cells ((cK (.ptr 0 0) (cK (.row 1 1) (cUnit)) : Cdc U (Unit)).enc (())) (some 136), .row 5 1 r])
noncomputable def z13u : List (V U) → List (Blk U) → Option (FnOut U) := mkSpecG zap zde (fun x g => zg2 none x.1 g.1 g.2.1) zji
noncomputable def zhe : Env U := { P := Tryz.prog, cd := cd, fns := (addF 92 false (zy) fns38), lps := noL, frz := fun _r => false, nt := 8, n0 := 2 }
theorem z1jp (x1 : Int) (g0 : Unit) (g1 : (List Int)) : execX false zhe Tryz.f89 (zap.enc (x1, ())) (zde.enc (g0, g1, ())) = (z97 none x1 g0 g1).map (zji (x1, ()) (g0, g1, ())) := by kernel_rfl
theorem z1cn : ∀ (x : Int × Unit) (g : Unit × (List Int) × Unit), execX false zhe Tryz.f89 (zap.enc x) (zde.enc g) = (z97 none x.1 g.1 g.2.1).map (zji x g)
  | (x1, ()), (g0, g1, ()) => z1jp x1 g0 g1
theorem z1bw : FnOk Tryz.prog cd 89 z13u := mk_okG (E := zhe) (A := zap) (B := zde) false cd_ok (addF_ok zz zn) Tryz.func89 (by kernel_rfl) (noLoops_body (by kernel_rfl)) (aP_ok (aO_ok (cInt_ok .i64) (aNil_ok))) (bT_ok (cK_ok (cK_ok cUnit_ok)) (bR_ok bNil_ok)) (T := fun (x : Int × Unit) (g : Unit × (List Int) × Unit) => z97 none x.1 g.1 g.2.1) (fun _ _ => rfl) z1cn
structure z2l where
  t13 : (List Int)
  t14 : Int
  t15 : Int
  b1 : (List Int)
noncomputable def z5f (q : Option Nat) (s : z2l) : Tree (z2l ⊕ (List Int)) :=
  .ite (decide (s.t15 < s.t14))
    (.ite (decide (0 ≤ s.t15))
      (.opt Int (s.t13[(s.t15).toNat]?) fun y525 =>
        .opt (List Int) (zg2 q y525 () s.b1) fun r526 =>
          .leaf (.inl (z2l.mk s.t13 s.t14 (IntKind.wrap .i64 (s.t15 + (1 : Int))) r526)))
      .fail)
    (.leaf (.inr s.b1))
noncomputable def z85 (q : Option Nat) (s : z2l) : Option (List Int) := limQ q (fun s => (z5f q s).run) s
noncomputable def z8n (q : Option Nat) (x1 : (List Int)) (g0 : Unit) (g1 : (List Int)) : Tree (List Int) :=
  .opt ((List Int) × (List Int)) (za q (2 : Int) () ([(x1.length : Int)]) g1) fun r524 =>
    .opt (List Int) (z85 q (z2l.mk x1 (x1.length : Int) (0 : Int) r524.2)) fun l527 =>
      .leaf (l527)
noncomputable def z2c (q : Option Nat) (x1 : (List Int)) (g0 : Unit) (g1 : (List Int)) : Option (List Int) := (z8n q x1 g0 g1).run
noncomputable def za1 : Arg U ((List Int) × Unit) := aP 0 0 (aO (cSl 3) (aKF (.fn 89 [(.ptr 0 0)] []) (aNil)))
noncomputable def zeh : Bls U (Unit × (List Int) × Unit) := bT (some 136) (cK (.ptr 0 0) (cK (.row 1 0) (cUnit))) (bR 5 (bNil))
noncomputable def zhm (_x : (List Int) × Unit) (_g : Unit × (List Int) × Unit) (r : (List Int)) : List (V U) × List (Blk U) := ([], [.cells ((cK (.ptr 0 0) (cK (.row 1 1) (cUnit)) : Cdc U (Unit)).enc (())) (some 136), .row 5 1 r])
noncomputable def ziv : List (V U) → List (Blk U) → Option (FnOut U) := mkSpecG za1 zeh (fun x g => z2c none x.1 g.1 g.2.1) zhm
noncomputable def zxh (x : (Unit) × ((List Int) × Unit) × (Int × Unit) × (Int × Unit) × Unit) (g : (Unit) × (List Int) × Unit) : z2l := z2l.mk x.2.1.1 x.2.2.1.1 x.2.2.2.1.1 g.2.1
noncomputable def zzl : Tms U ((Unit) × ((List Int) × Unit) × (Int × Unit) × (Int × Unit) × Unit) := tO 2 (cK2 (.fn 89 [(.ptr 0 0)] []) (cUnit)) (tO 13 (cPair (cSl 3) (cUnit)) (tO 14 (cPair (cInt .i64) (cUnit)) (tO 15 (cPair (cInt .i64) (cUnit)) (tNil))))
noncomputable def zoq : Bls U ((Unit) × (List Int) × Unit) := bT (some 136) (cK (.ptr 0 0) (cK (.row 1 1) (cUnit))) (bRv 5 1 (bNil))
noncomputable def zki (s : z2l) : St U := { tm := [(2, .v (vO (cK2 (.fn 89 [(.ptr 0 0)] []) (cUnit)) (()))), (13, .v (vO (cPair (cSl 3) (cUnit)) (s.t13, ()))), (14, .v (vO (cPair (cInt .i64) (cUnit)) (s.t14, ()))), (15, .v (vO (cPair (cInt .i64) (cUnit)) (s.t15, ())))], hp := [.cells ((cK (.ptr 0 0) (cK (.row 1 1) (cUnit)) : Cdc U (Unit)).enc (())) (some 136), .row 5 1 s.b1] }
noncomputable def zkm (r : (List Int)) : Ex × St U := (.exit 0, { tm := [], hp := [.cells ((cK (.ptr 0 0) (cK (.row 1 1) (cUnit)) : Cdc U (Unit)).enc (())) (some 136), .row 5 1 r] })
noncomputable def z14f (r : (List Int)) : Tree (Ex × St U) := .leaf (zkm r)
noncomputable def z17i : Hd := { keep := [2, 13, 14, 15], xkeep := [], own := false }
noncomputable def z7a : Env U := { P := Tryz.prog, cd := cd, fns := (addF 92 false (zy) (addF 89 false (z13u) fns38)), lps := (addL 0 z17i (mkLoop zzl zoq zxh (z85 none) z14f) noL), frz := fun _r => false, nt := 23, n0 := 2 }
noncomputable def z15w : Code := (loopAt (Tryz.f88.body.getD .skip) 0 0).getD .skip
theorem z1en (s : z2l) : round z7a z17i z15w 0 (zki s) = (z5f none s).map (sumE zki zkm) := by kernel_rfl
theorem z1fz : LpOk z7a z15w 0 := mkLoop_ok (A := zzl) (B := zoq) (f := zxh) (L := z85 none) (tO_ok (cK2_ok cUnit_ok) (tO_ok (cPair_ok (cSl_ok 3) cUnit_ok) (tO_ok (cPair_ok (cInt_ok .i64) cUnit_ok) (tO_ok (cPair_ok (cInt_ok .i64) cUnit_ok) tNil_ok)))) (bT_ok (cK_ok (cK_ok cUnit_ok)) (bRv_ok bNil_ok)) (enc := zki) (out := z14f) (outS := zkm) (step := z5f none) (fun _ => rfl) (fun _ _ => by kernel_rfl) (by kernel_rfl) (fun _ => rfl) z1en
theorem z1g7 (x1 : (List Int)) (g0 : Unit) (g1 : (List Int)) : execX false z7a Tryz.f88 (za1.enc (x1, ())) (zeh.enc (g0, g1, ())) = (z8n none x1 g0 g1).map (zhm (x1, ()) (g0, g1, ())) := by kernel_rfl
theorem z1cg : ∀ (x : (List Int) × Unit) (g : Unit × (List Int) × Unit), execX false z7a Tryz.f88 (za1.enc x) (zeh.enc g) = (z8n none x.1 g.1 g.2.1).map (zhm x g)
  | (x1, ()), (g0, g1, ()) => z1g7 x1 g0 g1
theorem zvw : FnOk Tryz.prog cd 88 ziv := mk_okG (E := z7a) (A := za1) (B := zeh) false cd_ok (addF_ok zz (addF_ok z1bw zn)) Tryz.func88 (by kernel_rfl) (loops_of (addL_ok z1fz noL_ok)) (aP_ok (aO_ok (cSl_ok 3) (aKF_ok (aNil_ok)))) (bT_ok (cK_ok (cK_ok cUnit_ok)) (bR_ok bNil_ok)) (T := fun (x : (List Int) × Unit) (g : Unit × (List Int) × Unit) => z8n none x.1 g.1 g.2.1) (fun _ _ => rfl) z1cg
structure z1b where
  t8 : Int
  t9 : Int
  b2 : (List Int)
noncomputable def z3x (q : Option Nat) (kk : (List Bool)) (s : z1b) : Tree (z1b ⊕ (List Int)) :=
  .ite (decide (s.t9 < s.t8))
    (.ite (decide (0 ≤ s.t9))
      (.ite (decide (s.t9 < (kk.length : Int)))
        (.opt Bool (kk[(s.t9).toNat]?) fun y535 =>
          .ite (y535)
            (.opt ((List Int) × (List Int)) (za q (1 : Int) () ([(1 : Int)]) s.b2) fun r536 =>
              .leaf (.inl (z1b.mk s.t8 (IntKind.wrap .i64 (s.t9 + (1 : Int))) r536.2)))
            (.opt ((List Int) × (List Int)) (za q (1 : Int) () ([(0 : Int)]) s.b2) fun r537 =>
              .leaf (.inl (z1b.mk s.t8 (IntKind.wrap .i64 (s.t9 + (1 : Int))) r537.2))))
        .fail)
      .fail)
    (.leaf (.inr s.b2))
noncomputable def z9c (q : Option Nat) (kk : (List Bool)) (s : z1b) : Option (List Int) := limQ q (fun s => (z3x q kk s).run) s
noncomputable def z95 (q : Option Nat) (g0 : Unit) (g1 : (List Bool)) (g2 : (List Int)) : Tree ((List Bool) × (List Int)) :=
  .opt (List Int) (z9c q g1 (z1b.mk (g1.length : Int) (0 : Int) g2)) fun l538 =>
    .leaf ((g1, l538))
noncomputable def zk (q : Option Nat) (g0 : Unit) (g1 : (List Bool)) (g2 : (List Int)) : Option ((List Bool) × (List Int)) := (z95 q g0 g1 g2).run
noncomputable def zdd : Arg U (Unit) := aP 0 0 (aR 1 (aNil))
noncomputable def zd1 : Bls U (Unit × (List Bool) × (List Int) × Unit) := bT (some 136) (cK (.ptr 0 0) (cK (.row 2 0) (cUnit))) (bR 4 (bR 5 (bNil)))
noncomputable def zi9 (_x : Unit) (_g : Unit × (List Bool) × (List Int) × Unit) (r : ((List Bool) × (List Int))) : List (V U) × List (Blk U) := ([], [.cells ((cK (.ptr 0 0) (cK (.row 2 1) (cUnit)) : Cdc U (Unit)).enc (())) (some 136), .row 4 1 r.1, .row 5 1 r.2])
noncomputable def z6t : List (V U) → List (Blk U) → Option (FnOut U) := mkSpecG zdd zd1 (fun x g => zk none g.1 g.2.1 g.2.2.1) zi9
noncomputable def z18f (x : (Unit) × (Unit) × (Int × Unit) × (Int × Unit) × Unit) (g : (Unit) × (List Bool) × (List Int) × Unit) : (List Bool) × z1b := (g.2.1, z1b.mk x.2.2.1.1 x.2.2.2.1.1 g.2.2.1)
noncomputable def zma : Tms U ((Unit) × (Unit) × (Int × Unit) × (Int × Unit) × Unit) := tO 0 (cK (.ptr 0 0) (cUnit)) (tO 7 (cK (.row 1 1) (cUnit)) (tO 8 (cPair (cInt .i64) (cUnit)) (tO 9 (cPair (cInt .i64) (cUnit)) (tNil))))
noncomputable def zwb : Bls U ((Unit) × (List Bool) × (List Int) × Unit) := bT (some 136) (cK (.ptr 0 0) (cK (.row 2 1) (cUnit))) (bRv 4 1 (bRv 5 1 (bNil)))
noncomputable def zk2 (kk : (List Bool)) (s : z1b) : St U := { tm := [(0, .v (vO (cK (.ptr 0 0) (cUnit)) (()))), (7, .v (vO (cK (.row 1 1) (cUnit)) (()))), (8, .v (vO (cPair (cInt .i64) (cUnit)) (s.t8, ()))), (9, .v (vO (cPair (cInt .i64) (cUnit)) (s.t9, ())))], hp := [.cells ((cK (.ptr 0 0) (cK (.row 2 1) (cUnit)) : Cdc U (Unit)).enc (())) (some 136), .row 4 1 kk, .row 5 1 s.b2] }
noncomputable def zhd (kk : (List Bool)) (r : (List Int)) : Ex × St U := (.exit 0, { tm := [], hp := [.cells ((cK (.ptr 0 0) (cK (.row 2 1) (cUnit)) : Cdc U (Unit)).enc (())) (some 136), .row 4 1 kk, .row 5 1 r] })
noncomputable def z10s (kk : (List Bool)) (r : (List Int)) : Tree (Ex × St U) := .leaf (zhd kk r)
noncomputable def zwg : Hd := { keep := [0, 7, 8, 9], xkeep := [], own := false, bump := true }
noncomputable def z91 : Env U := { P := Tryz.prog, cd := cd, fns := (addF 92 false (zy) fns38), lps := (addL 0 zwg (mkLoopK zma zwb z18f (z9c none) z10s) noL), frz := fun _r => false, nt := 19, n0 := 3 }
noncomputable def z123 : Code := (loopAt (Tryz.f91.body.getD .skip) 0 0).getD .skip
theorem z1iu (kk : (List Bool)) (s : z1b) : round z91 zwg z123 0 (zk2 kk s) = (z3x none kk s).map (sumE (zk2 kk) (zhd kk)) := by kernel_rfl
theorem z1bb : LpOk z91 z123 0 := mkLoopK_ok (A := zma) (B := zwb) (f := z18f) (L := z9c none) (tO_ok (cK_ok cUnit_ok) (tO_ok (cK_ok cUnit_ok) (tO_ok (cPair_ok (cInt_ok .i64) cUnit_ok) (tO_ok (cPair_ok (cInt_ok .i64) cUnit_ok) tNil_ok)))) (bT_ok (cK_ok (cK_ok cUnit_ok)) (bRv_ok (bRv_ok bNil_ok))) (enc := zk2) (out := z10s) (outS := zhd) (step := z3x none) (fun _ _ => rfl) (fun _ _ => by kernel_rfl) (by kernel_rfl) (fun _ _ => rfl) z1iu
theorem z1ge (g0 : Unit) (g1 : (List Bool)) (g2 : (List Int)) : execX false z91 Tryz.f91 (zdd.enc ()) (zd1.enc (g0, g1, g2, ())) = (z95 none g0 g1 g2).map (zi9 () (g0, g1, g2, ())) := by kernel_rfl
theorem z1kv : ∀ (x : Unit) (g : Unit × (List Bool) × (List Int) × Unit), execX false z91 Tryz.f91 (zdd.enc x) (zd1.enc g) = (z95 none g.1 g.2.1 g.2.2.1).map (zi9 x g)
  | (), (g0, g1, g2, ()) => z1ge g0 g1 g2
theorem z80 : FnOk Tryz.prog cd 91 z6t := mk_okG (E := z91) (A := zdd) (B := zd1) false cd_ok (addF_ok zz zn) Tryz.func91 (by kernel_rfl) (loops_of (addL_ok z1bb noL_ok)) (aP_ok (aR_ok (aNil_ok))) (bT_ok (cK_ok (cK_ok cUnit_ok)) (bR_ok (bR_ok bNil_ok))) (T := fun (x : Unit) (g : Unit × (List Bool) × (List Int) × Unit) => z95 none g.1 g.2.1 g.2.2.1) (fun _ _ => rfl) z1kv
structure z1n where
  t14_0 : (List Page)
  t15 : Int
  t18_0 : (List Page)
  t19 : Int
  b1 : (List Int)
  b2 : Mmu
noncomputable def z5h (q : Option Nat) (s : z1n) : Tree (z1n ⊕ ((List Page) × Int × (List Int) × Mmu)) :=
  .ite (decide (s.t19 < (8 : Int)))
    (.ite (decide (0 ≤ s.t19))
      (.ite (decide (s.t19 < (8 : Int)))
        (.opt Page (s.t18_0[(s.t19).toNat]?) fun y540 =>
          .opt ((List Int) × (List Int)) (za q (2 : Int) () ([y540.base]) s.b1) fun r541 =>
            .opt ((List Int) × (List Int)) (za q (1 : Int) () ([y540.length, y540.access]) r541.2) fun r542 =>
              .opt ((List Bool) × (List Int)) (zk q () ([y540.written]) r542.2) fun r543 =>
                .leaf (.inl (z1n.mk s.t14_0 s.t15 s.t18_0 (IntKind.wrap .i64 (s.t19 + (1 : Int))) r543.2 s.b2)))
        .fail)
      .fail)
    (.leaf (.inr (s.t14_0, s.t15, s.b1, s.b2)))
noncomputable def z4l (q : Option Nat) (s : z1n) : Option ((List Page) × Int × (List Int) × Mmu) := limQ q (fun s => (z5h q s).run) s
structure z2r where
  t14_0 : (List Page)
  t15 : Int
  b1 : (List Int)
  b2 : Mmu
noncomputable def z3l (q : Option Nat) (s : z2r) : Tree (z2r ⊕ ((List Int) × Mmu)) :=
  .ite (decide (s.t15 < (2 : Int)))
    (.ite (decide (0 ≤ s.t15))
      (.ite (decide (s.t15 < (2 : Int)))
        (.ite (decide ((s.t15).toNat * 8 + 8 ≤ s.t14_0.length))
          (.opt ((List Page) × Int × (List Int) × Mmu) (z4l q (z1n.mk s.t14_0 s.t15 ((s.t14_0.drop ((s.t15).toNat * 8)).take 8) (0 : Int) s.b1 s.b2)) fun l544 =>
            .leaf (.inl (z2r.mk l544.1 (IntKind.wrap .i64 (l544.2.1 + (1 : Int))) l544.2.2.1 l544.2.2.2)))
          .fail)
        .fail)
      .fail)
    (.leaf (.inr (s.b1, s.b2)))
noncomputable def zf0 (q : Option Nat) (s : z2r) : Option ((List Int) × Mmu) := limQ q (fun s => (z3l q s).run) s
noncomputable def z9a (q : Option Nat) (x1 : Mmu) (g0 : Unit) (g1 : (List Int)) : Tree (List Int) :=
  .opt ((List Bool) × (List Int)) (zk q () ([x1.on]) g1) fun r539 =>
    .opt ((List Int) × Mmu) (zf0 q (z2r.mk x1.pages (0 : Int) r539.2 x1)) fun l545 =>
      .opt ((List Int) × (List Int)) (za q (1 : Int) () ([l545.2.status]) l545.1) fun r546 =>
        .opt ((List Int) × (List Int)) (za q (2 : Int) () ([l545.2.addr]) r546.2) fun r547 =>
          .leaf (r547.2)
noncomputable def z9p (q : Option Nat) (x1 : Mmu) (g0 : Unit) (g1 : (List Int)) : Option (List Int) := (z9a q x1 g0 g1).run
noncomputable def zcl : Arg U (Mmu × Unit) := aP 0 0 (aA cMmu (aNil))
noncomputable def ze4 : Bls U (Unit × (List Int) × Unit) := bT (some 136) (cK (.ptr 0 0) (cK (.row 1 0) (cUnit))) (bR 5 (bNil))
noncomputable def zl9 (_x : Mmu × Unit) (_g : Unit × (List Int) × Unit) (r : (List Int)) : List (V U) × List (Blk U) := ([], [.cells ((cK (.ptr 0 0) (cK (.row 1 3) (cUnit)) : Cdc U (Unit)).enc (())) (some 136), .row 5 3 r])
noncomputable def zrr : List (V U) → List (Blk U) → Option (FnOut U) := mkSpecG zcl ze4 (fun x g => z9p none x.1 g.1 g.2.1) zl9
noncomputable def zug (x : (Unit) × (Unit) × ((List Page) × Unit) × (Int × Unit) × Unit) (g : (Unit) × (List Int) × (Mmu × Unit) × Unit) : z2r := z2r.mk x.2.2.1.1 x.2.2.2.1.1 g.2.1 g.2.2.1.1
noncomputable def zqp : Tms U ((Unit) × (Unit) × ((List Page) × Unit) × (Int × Unit) × Unit) := tO 0 (cK (.ptr 0 0) (cUnit)) (tO 3 (cK (.ptr 2 0) (cUnit)) (tA 14 (cPair (cArr 28 16) (cUnit)) (tO 15 (cPair (cInt .i64) (cUnit)) (tNil))))
noncomputable def zml : Bls U ((Unit) × (List Int) × (Mmu × Unit) × Unit) := bT (some 136) (cK (.ptr 0 0) (cK (.row 1 1) (cUnit))) (bRv 5 1 (bC (cPair cMmu (cUnit)) (bNil)))
noncomputable def ziu (s : z2r) : St U := { tm := [(0, .v (vO (cK (.ptr 0 0) (cUnit)) (()))), (3, .v (vO (cK (.ptr 2 0) (cUnit)) (()))), (14, .v (vA (cPair (cArr 28 16) (cUnit)) (s.t14_0, ()))), (15, .v (vO (cPair (cInt .i64) (cUnit)) (s.t15, ())))], hp := [.cells ((cK (.ptr 0 0) (cK (.row 1 1) (cUnit)) : Cdc U (Unit)).enc (())) (some 136), .row 5 1 s.b1, .cells ((cPair cMmu (cUnit) : Cdc U (Mmu × Unit)).enc (s.b2, ())) none] }
noncomputable def zgm (r : ((List Int) × Mmu)) : Ex × St U := (.exit 0, { tm := [(0, .v (vO (cK (.ptr 0 0) (cUnit)) (()))), (3, .v (vO (cK (.ptr 2 0) (cUnit)) (())))], hp := [.cells ((cK (.ptr 0 0) (cK (.row 1 1) (cUnit)) : Cdc U (Unit)).enc (())) (some 136), .row 5 1 r.1, .cells ((cPair cMmu (cUnit) : Cdc U (Mmu × Unit)).enc (r.2, ())) none] })
noncomputable def zmq (r : ((List Int) × Mmu)) : Tree (Ex × St U) := .leaf (zgm r)
noncomputable def z13x : Hd := { keep := [0, 3, 14, 15], xkeep := [0, 3], own := false }
noncomputable def zsu (x : (Unit) × (Unit) × ((List Page) × Unit) × (Int × Unit) × ((List Page) × Unit) × (Int × Unit) × Unit) (g : (Unit) × (List Int) × (Mmu × Unit) × Unit) : z1n := z1n.mk x.2.2.1.1 x.2.2.2.1.1 x.2.2.2.2.1.1 x.2.2.2.2.2.1.1 g.2.1 g.2.2.1.1
noncomputable def zoh : Tms U ((Unit) × (Unit) × ((List Page) × Unit) × (Int × Unit) × ((List Page) × Unit) × (Int × Unit) × Unit) := tO 0 (cK (.ptr 0 0) (cUnit)) (tO 3 (cK (.ptr 2 0) (cUnit)) (tA 14 (cPair (cArr 28 16) (cUnit)) (tO 15 (cPair (cInt .i64) (cUnit)) (tA 18 (cPair (cArr 28 8) (cUnit)) (tO 19 (cPair (cInt .i64) (cUnit)) (tNil))))))
noncomputable def zwi : Bls U ((Unit) × (List Int) × (Mmu × Unit) × Unit) := bT (some 136) (cK (.ptr 0 0) (cK (.row 1 1) (cUnit))) (bRv 5 1 (bC (cPair cMmu (cUnit)) (bNil)))
noncomputable def zl0 (s : z1n) : St U := { tm := [(0, .v (vO (cK (.ptr 0 0) (cUnit)) (()))), (3, .v (vO (cK (.ptr 2 0) (cUnit)) (()))), (14, .v (vA (cPair (cArr 28 16) (cUnit)) (s.t14_0, ()))), (15, .v (vO (cPair (cInt .i64) (cUnit)) (s.t15, ()))), (18, .v (vA (cPair (cArr 28 8) (cUnit)) (s.t18_0, ()))), (19, .v (vO (cPair (cInt .i64) (cUnit)) (s.t19, ())))], hp := [.cells ((cK (.ptr 0 0) (cK (.row 1 1) (cUnit)) : Cdc U (Unit)).enc (())) (some 136), .row 5 1 s.b1, .cells ((cPair cMmu (cUnit) : Cdc U (Mmu × Unit)).enc (s.b2, ())) none] }
noncomputable def zj2 (r : ((List Page) × Int × (List Int) × Mmu)) : Ex × St U := (.exit 2, { tm := [(0, .v (vO (cK (.ptr 0 0) (cUnit)) (()))), (3, .v (vO (cK (.ptr 2 0) (cUnit)) (()))), (14, .v (vA (cPair (cArr 28 16) (cUnit)) (r.1, ()))), (15, .v (vO (cPair (cInt .i64) (cUnit)) (r.2.1, ())))], hp := [.cells ((cK (.ptr 0 0) (cK (.row 1 1) (cUnit)) : Cdc U (Unit)).enc (())) (some 136), .row 5 1 r.2.2.1, .cells ((cPair cMmu (cUnit) : Cdc U (Mmu × Unit)).enc (r.2.2.2, ())) none] })
noncomputable def znb (r : ((List Page) × Int × (List Int) × Mmu)) : Tree (Ex × St U) := .leaf (zj2 r)
noncomputable def z11v : Hd := { keep := [0, 3, 14, 15, 18, 19], xkeep := [0, 3, 14, 15], own := false }
noncomputable def z3s : Env U := { P := Tryz.prog, cd := cd, fns := (addF 92 false (zy) (addF 91 false (z6t) fns38)), lps := (addL 0 z13x (mkLoop zqp zml zug (zf0 none) zmq) (addL 1 z11v (mkLoop zoh zwi zsu (z4l none) znb) noL)), frz := fun _r => false, nt := 51, n0 := 2 }
noncomputable def zw8 : Code := (loopAt (Tryz.f90.body.getD .skip) 0 0).getD .skip
theorem z1em (s : z2r) : round z3s z13x zw8 0 (ziu s) = (z3l none s).map (sumE ziu zgm) := by kernel_rfl
theorem z1gg : LpOk z3s zw8 0 := mkLoop_ok (A := zqp) (B := zml) (f := zug) (L := zf0 none) (tO_ok (cK_ok cUnit_ok) (tO_ok (cK_ok cUnit_ok) (tA_ok (cPair_ok (cArr_ok 28 16) cUnit_ok) (tO_ok (cPair_ok (cInt_ok .i64) cUnit_ok) tNil_ok)))) (bT_ok (cK_ok (cK_ok cUnit_ok)) (bRv_ok (bC_ok (cPair_ok zj cUnit_ok) bNil_ok))) (enc := ziu) (out := zmq) (outS := zgm) (step := z3l none) (fun _ => rfl) (fun _ _ => by kernel_rfl) (by kernel_rfl) (fun _ => rfl) z1em
noncomputable def zo9 : Code := (loopAt (Tryz.f90.body.getD .skip) 0 1).getD .skip
theorem z1mv (s : z1n) : round z3s z11v zo9 1 (zl0 s) = (z5h none s).map (sumE zl0 zj2) := by kernel_rfl
theorem z1f2 : LpOk z3s zo9 1 := mkLoop_ok (A := zoh) (B := zwi) (f := zsu) (L := z4l none) (tO_ok (cK_ok cUnit_ok) (tO_ok (cK_ok cUnit_ok) (tA_ok (cPair_ok (cArr_ok 28 16) cUnit_ok) (tO_ok (cPair_ok (cInt_ok .i64) cUnit_ok) (tA_ok (cPair_ok (cArr_ok 28 8) cUnit_ok) (tO_ok (cPair_ok (cInt_ok .i64) cUnit_ok) tNil_ok)))))) (bT_ok (cK_ok (cK_ok cUnit_ok)) (bRv_ok (bC_ok (cPair_ok zj cUnit_ok) bNil_ok))) (enc := zl0) (out := znb) (outS := zj2) (step := z5h none) (fun _ => rfl) (fun _ _ => by kernel_rfl) (by kernel_rfl) (fun _ => rfl) z1mv
theorem z1b6 (x1 : Mmu) (g0 : Unit) (g1 : (List Int)) : execX false z3s Tryz.f90 (zcl.enc (x1, ())) (ze4.enc (g0, g1, ())) = (z9a none x1 g0 g1).map (zl9 (x1, ()) (g0, g1, ())) := by kernel_rfl
theorem z1hb : ∀ (x : Mmu × Unit) (g : Unit × (List Int) × Unit), execX false z3s Tryz.f90 (zcl.enc x) (ze4.enc g) = (z9a none x.1 g.1 g.2.1).map (zl9 x g)
  | (x1, ()), (g0, g1, ()) => z1b6 x1 g0 g1
theorem z1cu : FnOk Tryz.prog cd 90 zrr := mk_okG (E := z3s) (A := zcl) (B := ze4) false cd_ok (addF_ok zz (addF_ok z80 zn)) Tryz.func90 (by kernel_rfl) (loops_of (addL_ok z1gg (addL_ok z1f2 noL_ok))) (aP_ok (aA_ok zj (aNil_ok))) (bT_ok (cK_ok (cK_ok cUnit_ok)) (bR_ok bNil_ok)) (T := fun (x : Mmu × Unit) (g : Unit × (List Int) × Unit) => z9a none x.1 g.1 g.2.1) (fun _ _ => rfl) z1hb
noncomputable def z5m (q : Option Nat) (x0 : (List UInt8)) : Tree (List UInt8) :=
  .ite (decide (0 ≤ (if (65535 : Int) < (x0.length : Int) then (65535 : Int) else (x0.length : Int))))
    (.ite (decide ((if (65535 : Int) < (x0.length : Int) then (65535 : Int) else (x0.length : Int)) ≤ ((x0.length : Nat) : Int)))
      (.opt (List UInt8) (zw q (((x0.drop (0)).take (((if (65535 : Int) < (x0.length : Int) then (65535 : Int) else (x0.length : Int))).toNat - 0)).length : Int) (2 : Int)) fun r562 =>
        .opt (List UInt8) (z8v q ([r562, (x0.drop (0)).take (((if (65535 : Int) < (x0.length : Int) then (65535 : Int) else (x0.length : Int))).toNat - 0)])) fun r563 =>
          .leaf (r563))
      .fail)
    .fail
noncomputable def z6w (q : Option Nat) (x0 : (List UInt8)) : Option (List UInt8) := (z5m q x0).run
noncomputable def zak : Arg U ((List UInt8) × Unit) := aO cStr (aNil)
noncomputable def zfu : Bls U (Unit) := bNil
noncomputable def zl5 (_x : (List UInt8) × Unit) (_g : Unit) (r : (List UInt8)) : List (V U) × List (Blk U) := ([vO (cPair cStr (cUnit)) (r, ())], [])
noncomputable def z163 : List (V U) → List (Blk U) → Option (FnOut U) := mkSpecG zak zfu (fun x _ => z6w none x.1) zl5
noncomputable def zl6 : Env U := { P := Tryz.prog, cd := cd, fns := (addF 85 false (frzSpec zey) fns38), lps := noL, frz := fun _r => false, nt := 14, n0 := 0 }
theorem z1ip (x0 : (List UInt8)) : execX false zl6 Tryz.f148 (zak.enc (x0, ())) (zfu.enc ()) = (z5m none x0).map (zl5 (x0, ()) ()) := by kernel_rfl
theorem z1k2 : ∀ (x : (List UInt8) × Unit) (g : Unit), execX false zl6 Tryz.f148 (zak.enc x) (zfu.enc g) = (z5m none x.1).map (zl5 x g)
  | (x0, ()), () => z1ip x0
theorem z1b3 : FnOk Tryz.prog cd 148 z163 := mk_okG (E := zl6) (A := zak) (B := zfu) false cd_ok (addF_ok (fnOk_frz cd_ok (mkSpec_out fun _ => rfl) zid) zn) Tryz.func148 (by kernel_rfl) (noLoops_body (by kernel_rfl)) (aO_ok cStr_ok (aNil_ok)) bNil_ok (T := fun (x : (List UInt8) × Unit) (_ : Unit) => z5m none x.1) (fun _ _ => rfl) z1k2
noncomputable def z7z (q : Option Nat) (x1 : (List UInt8)) (g0 : Unit) (g1 : (List Int)) : Tree (List Int) :=
  .opt (List UInt8) (z6w q x1) fun r564 =>
    .opt (Int × (List Int)) (z65 r564 () g1) fun r565 =>
      .leaf (r565.2)
noncomputable def z66 (q : Option Nat) (x1 : (List UInt8)) (g0 : Unit) (g1 : (List Int)) : Option (List Int) := (z7z q x1 g0 g1).run
noncomputable def zbl : Arg U ((List UInt8) × Unit) := aP 0 0 (aO cStr (aNil))
noncomputable def zev : Bls U (Unit × (List Int) × Unit) := bT (some 136) (cK (.ptr 0 0) (cK (.row 1 0) (cUnit))) (bR 5 (bNil))
noncomputable def zkv (_x : (List UInt8) × Unit) (_g : Unit × (List Int) × Unit) (r : (List Int)) : List (V U) × List (Blk U) := ([], [.cells ((cK (.ptr 0 0) (cK (.row 1 1) (cUnit)) : Cdc U (Unit)).enc (())) (some 136), .row 5 1 r])
noncomputable def zla : List (V U) → List (Blk U) → Option (FnOut U) := mkSpecG zbl zev (fun x g => z66 none x.1 g.1 g.2.1) zkv
noncomputable def zl7 : Env U := { P := Tryz.prog, cd := cd, fns := (addF 148 false (z163) (addF 86 false (za0) fns38)), lps := noL, frz := fun _r => false, nt := 10, n0 := 2, fps := fun _r _i => bif Nat.beq _r 0 && Nat.beq _i 1 then .rd [] else bif Nat.beq _r 0 && Nat.beq _i 2 then .rd [] else bif Nat.beq _r 0 && Nat.beq _i 4 then .wr [] 2 else .none }
theorem z1g4 (x1 : (List UInt8)) (g0 : Unit) (g1 : (List Int)) : execX false zl7 Tryz.f130 (zbl.enc (x1, ())) (zev.enc (g0, g1, ())) = (z7z none x1 g0 g1).map (zkv (x1, ()) (g0, g1, ())) := by kernel_rfl
theorem z1b5 : ∀ (x : (List UInt8) × Unit) (g : Unit × (List Int) × Unit), execX false zl7 Tryz.f130 (zbl.enc x) (zev.enc g) = (z7z none x.1 g.1 g.2.1).map (zkv x g)
  | (x1, ()), (g0, g1, ()) => z1g4 x1 g0 g1
theorem z172 : FnOk Tryz.prog cd 130 zla := mk_okG (E := zl7) (A := zbl) (B := zev) false cd_ok (addF_ok z1b3 (addF_ok zl4 zn)) Tryz.func130 (by kernel_rfl) (noLoops_body (by kernel_rfl)) (aP_ok (aO_ok cStr_ok (aNil_ok))) (bT_ok (cK_ok (cK_ok cUnit_ok)) (bR_ok bNil_ok)) (T := fun (x : (List UInt8) × Unit) (g : Unit × (List Int) × Unit) => z7z none x.1 g.1 g.2.1) (fun _ _ => rfl) z1b5
noncomputable def z8m (q : Option Nat) (x1 : Line) (g0 : Unit) (g1 : (List Int)) : Tree (List Int) :=
  .opt ((List Bool) × (List Int)) (zk q () ([x1.rxEnable, x1.rxReady, x1.overrun]) g1) fun r566 =>
    .opt ((List Int) × (List Int)) (za q (1 : Int) () ([x1.rxData]) r566.2) fun r567 =>
      .opt ((List Bool) × (List Int)) (zk q () ([x1.txEnable, x1.txReady]) r567.2) fun r568 =>
        .opt ((List Int) × (List Int)) (za q (1 : Int) () ([x1.txData, x1.txLeft]) r568.2) fun r569 =>
          .opt (List Int) (z66 q x1.out () r569.2) fun r570 =>
            .leaf (r570)
noncomputable def zc8 (q : Option Nat) (x1 : Line) (g0 : Unit) (g1 : (List Int)) : Option (List Int) := (z8m q x1 g0 g1).run
noncomputable def zfo : Arg U (Line × Unit) := aP 0 0 (aA cLine (aNil))
noncomputable def zaa : Bls U (Unit × (List Int) × Unit) := bT (some 136) (cK (.ptr 0 0) (cK (.row 1 0) (cUnit))) (bR 5 (bNil))
noncomputable def zhy (_x : Line × Unit) (_g : Unit × (List Int) × Unit) (r : (List Int)) : List (V U) × List (Blk U) := ([], [.cells ((cK (.ptr 0 0) (cK (.row 1 5) (cUnit)) : Cdc U (Unit)).enc (())) (some 136), .row 5 5 r])
noncomputable def z18e : List (V U) → List (Blk U) → Option (FnOut U) := mkSpecG zfo zaa (fun x g => zc8 none x.1 g.1 g.2.1) zhy
noncomputable def zhg : Env U := { P := Tryz.prog, cd := cd, fns := (addF 130 false (zla) (addF 92 false (zy) (addF 91 false (z6t) fns38))), lps := noL, frz := fun _r => false, nt := 36, n0 := 2 }
theorem z1fs (x1 : Line) (g0 : Unit) (g1 : (List Int)) : execX false zhg Tryz.f94 (zfo.enc (x1, ())) (zaa.enc (g0, g1, ())) = (z8m none x1 g0 g1).map (zhy (x1, ()) (g0, g1, ())) := by kernel_rfl
theorem z1hi : ∀ (x : Line × Unit) (g : Unit × (List Int) × Unit), execX false zhg Tryz.f94 (zfo.enc x) (zaa.enc g) = (z8m none x.1 g.1 g.2.1).map (zhy x g)
  | (x1, ()), (g0, g1, ()) => z1fs x1 g0 g1
theorem z1j2 : FnOk Tryz.prog cd 94 z18e := mk_okG (E := zhg) (A := zfo) (B := zaa) false cd_ok (addF_ok z172 (addF_ok zz (addF_ok z80 zn))) Tryz.func94 (by kernel_rfl) (noLoops_body (by kernel_rfl)) (aP_ok (aA_ok zav (aNil_ok))) (bT_ok (cK_ok (cK_ok cUnit_ok)) (bR_ok bNil_ok)) (T := fun (x : Line × Unit) (g : Unit × (List Int) × Unit) => z8m none x.1 g.1 g.2.1) (fun _ _ => rfl) z1hi
structure z2s where
  t13 : (List Line)
  t14 : Int
  t15 : Int
  b1 : (List Int)
noncomputable def z68 (q : Option Nat) (s : z2s) : Tree (z2s ⊕ (List Int)) :=
  .ite (decide (s.t15 < s.t14))
    (.ite (decide (0 ≤ s.t15))
      (.opt Line (s.t13[(s.t15).toNat]?) fun y572 =>
        .opt (List Int) (zc8 q y572 () s.b1) fun r573 =>
          .leaf (.inl (z2s.mk s.t13 s.t14 (IntKind.wrap .i64 (s.t15 + (1 : Int))) r573)))
      .fail)
    (.leaf (.inr s.b1))
noncomputable def z7c (q : Option Nat) (s : z2s) : Option (List Int) := limQ q (fun s => (z68 q s).run) s
noncomputable def z98 (q : Option Nat) (x1 : (List Line)) (g0 : Unit) (g1 : (List Int)) : Tree (List Int) :=
  .opt ((List Int) × (List Int)) (za q (2 : Int) () ([(x1.length : Int)]) g1) fun r571 =>
    .opt (List Int) (z7c q (z2s.mk x1 (x1.length : Int) (0 : Int) r571.2)) fun l574 =>
      .leaf (l574)
noncomputable def z88 (q : Option Nat) (x1 : (List Line)) (g0 : Unit) (g1 : (List Int)) : Option (List Int) := (z98 q x1 g0 g1).run
noncomputable def zed : Arg U ((List Line) × Unit) := aP 0 0 (aO (cSl 66) (aKF (.fn 94 [(.ptr 0 0)] []) (aNil)))
noncomputable def zd6 : Bls U (Unit × (List Int) × Unit) := bT (some 136) (cK (.ptr 0 0) (cK (.row 1 0) (cUnit))) (bR 5 (bNil))
noncomputable def zgt (_x : (List Line) × Unit) (_g : Unit × (List Int) × Unit) (r : (List Int)) : List (V U) × List (Blk U) := ([], [.cells ((cK (.ptr 0 0) (cK (.row 1 1) (cUnit)) : Cdc U (Unit)).enc (())) (some 136), .row 5 1 r])
noncomputable def zva : List (V U) → List (Blk U) → Option (FnOut U) := mkSpecG zed zd6 (fun x g => z88 none x.1 g.1 g.2.1) zgt
noncomputable def zpg (x : (Unit) × ((List Line) × Unit) × (Int × Unit) × (Int × Unit) × Unit) (g : (Unit) × (List Int) × Unit) : z2s := z2s.mk x.2.1.1 x.2.2.1.1 x.2.2.2.1.1 g.2.1
noncomputable def z140 : Tms U ((Unit) × ((List Line) × Unit) × (Int × Unit) × (Int × Unit) × Unit) := tO 2 (cK2 (.fn 94 [(.ptr 0 0)] []) (cUnit)) (tO 13 (cPair (cSl 66) (cUnit)) (tO 14 (cPair (cInt .i64) (cUnit)) (tO 15 (cPair (cInt .i64) (cUnit)) (tNil))))
noncomputable def zyx : Bls U ((Unit) × (List Int) × Unit) := bT (some 136) (cK (.ptr 0 0) (cK (.row 1 1) (cUnit))) (bRv 5 1 (bNil))
noncomputable def zjm (s : z2s) : St U := { tm := [(2, .v (vO (cK2 (.fn 94 [(.ptr 0 0)] []) (cUnit)) (()))), (13, .v (vO (cPair (cSl 66) (cUnit)) (s.t13, ()))), (14, .v (vO (cPair (cInt .i64) (cUnit)) (s.t14, ()))), (15, .v (vO (cPair (cInt .i64) (cUnit)) (s.t15, ())))], hp := [.cells ((cK (.ptr 0 0) (cK (.row 1 1) (cUnit)) : Cdc U (Unit)).enc (())) (some 136), .row 5 1 s.b1] }
noncomputable def zjc (r : (List Int)) : Ex × St U := (.exit 0, { tm := [], hp := [.cells ((cK (.ptr 0 0) (cK (.row 1 1) (cUnit)) : Cdc U (Unit)).enc (())) (some 136), .row 5 1 r] })
noncomputable def z18h (r : (List Int)) : Tree (Ex × St U) := .leaf (zjc r)
noncomputable def z11u : Hd := { keep := [2, 13, 14, 15], xkeep := [], own := false }
noncomputable def z96 : Env U := { P := Tryz.prog, cd := cd, fns := (addF 94 false (z18e) (addF 92 false (zy) fns38)), lps := (addL 0 z11u (mkLoop z140 zyx zpg (z7c none) z18h) noL), frz := fun _r => false, nt := 23, n0 := 2 }
noncomputable def zmt : Code := (loopAt (Tryz.f93.body.getD .skip) 0 0).getD .skip
theorem z1n0 (s : z2s) : round z96 z11u zmt 0 (zjm s) = (z68 none s).map (sumE zjm zjc) := by kernel_rfl
theorem z1gc : LpOk z96 zmt 0 := mkLoop_ok (A := z140) (B := zyx) (f := zpg) (L := z7c none) (tO_ok (cK2_ok cUnit_ok) (tO_ok (cPair_ok (cSl_ok 66) cUnit_ok) (tO_ok (cPair_ok (cInt_ok .i64) cUnit_ok) (tO_ok (cPair_ok (cInt_ok .i64) cUnit_ok) tNil_ok)))) (bT_ok (cK_ok (cK_ok cUnit_ok)) (bRv_ok bNil_ok)) (enc := zjm) (out := z18h) (outS := zjc) (step := z68 none) (fun _ => rfl) (fun _ _ => by kernel_rfl) (by kernel_rfl) (fun _ => rfl) z1n0
theorem z1di (x1 : (List Line)) (g0 : Unit) (g1 : (List Int)) : execX false z96 Tryz.f93 (zed.enc (x1, ())) (zd6.enc (g0, g1, ())) = (z98 none x1 g0 g1).map (zgt (x1, ()) (g0, g1, ())) := by kernel_rfl
theorem z1dl : ∀ (x : (List Line) × Unit) (g : Unit × (List Int) × Unit), execX false z96 Tryz.f93 (zed.enc x) (zd6.enc g) = (z98 none x.1 g.1 g.2.1).map (zgt x g)
  | (x1, ()), (g0, g1, ()) => z1di x1 g0 g1
theorem z1dv : FnOk Tryz.prog cd 93 zva := mk_okG (E := z96) (A := zed) (B := zd6) false cd_ok (addF_ok z1j2 (addF_ok zz zn)) Tryz.func93 (by kernel_rfl) (loops_of (addL_ok z1gc noL_ok)) (aP_ok (aO_ok (cSl_ok 66) (aKF_ok (aNil_ok)))) (bT_ok (cK_ok (cK_ok cUnit_ok)) (bR_ok bNil_ok)) (T := fun (x : (List Line) × Unit) (g : Unit × (List Int) × Unit) => z98 none x.1 g.1 g.2.1) (fun _ _ => rfl) z1dl
structure z34 where
  t13 : (List (List UInt8))
  t14 : Int
  t15 : Int
  b1 : (List Int)
noncomputable def z6z (q : Option Nat) (s : z34) : Tree (z34 ⊕ (List Int)) :=
  .ite (decide (s.t15 < s.t14))
    (.ite (decide (0 ≤ s.t15))
      (.opt (List UInt8) (s.t13[(s.t15).toNat]?) fun y584 =>
        .opt (List Int) (z66 q y584 () s.b1) fun r585 =>
          .leaf (.inl (z34.mk s.t13 s.t14 (IntKind.wrap .i64 (s.t15 + (1 : Int))) r585)))
      .fail)
    (.leaf (.inr s.b1))
noncomputable def z8a (q : Option Nat) (s : z34) : Option (List Int) := limQ q (fun s => (z6z q s).run) s
noncomputable def z7f (q : Option Nat) (x1 : (List (List UInt8))) (g0 : Unit) (g1 : (List Int)) : Tree (List Int) :=
  .opt ((List Int) × (List Int)) (za q (2 : Int) () ([(x1.length : Int)]) g1) fun r583 =>
    .opt (List Int) (z8a q (z34.mk x1 (x1.length : Int) (0 : Int) r583.2)) fun l586 =>
      .leaf (l586)
noncomputable def z4o (q : Option Nat) (x1 : (List (List UInt8))) (g0 : Unit) (g1 : (List Int)) : Option (List Int) := (z7f q x1 g0 g1).run
noncomputable def zdl : Arg U ((List (List UInt8)) × Unit) := aP 0 0 (aO (cSl 9) (aKF (.fn 130 [(.ptr 0 0)] []) (aNil)))
noncomputable def zem : Bls U (Unit × (List Int) × Unit) := bT (some 136) (cK (.ptr 0 0) (cK (.row 1 0) (cUnit))) (bR 5 (bNil))
noncomputable def zjk (_x : (List (List UInt8)) × Unit) (_g : Unit × (List Int) × Unit) (r : (List Int)) : List (V U) × List (Blk U) := ([], [.cells ((cK (.ptr 0 0) (cK (.row 1 1) (cUnit)) : Cdc U (Unit)).enc (())) (some 136), .row 5 1 r])
noncomputable def zko : List (V U) → List (Blk U) → Option (FnOut U) := mkSpecG zdl zem (fun x g => z4o none x.1 g.1 g.2.1) zjk
noncomputable def zq9 (x : (Unit) × ((List (List UInt8)) × Unit) × (Int × Unit) × (Int × Unit) × Unit) (g : (Unit) × (List Int) × Unit) : z34 := z34.mk x.2.1.1 x.2.2.1.1 x.2.2.2.1.1 g.2.1
noncomputable def z14q : Tms U ((Unit) × ((List (List UInt8)) × Unit) × (Int × Unit) × (Int × Unit) × Unit) := tO 2 (cK2 (.fn 130 [(.ptr 0 0)] []) (cUnit)) (tO 13 (cPair (cSl 9) (cUnit)) (tO 14 (cPair (cInt .i64) (cUnit)) (tO 15 (cPair (cInt .i64) (cUnit)) (tNil))))
noncomputable def z12a : Bls U ((Unit) × (List Int) × Unit) := bT (some 136) (cK (.ptr 0 0) (cK (.row 1 1) (cUnit))) (bRv 5 1 (bNil))
noncomputable def zhs (s : z34) : St U := { tm := [(2, .v (vO (cK2 (.fn 130 [(.ptr 0 0)] []) (cUnit)) (()))), (13, .v (vO (cPair (cSl 9) (cUnit)) (s.t13, ()))), (14, .v (vO (cPair (cInt .i64) (cUnit)) (s.t14, ()))), (15, .v (vO (cPair (cInt .i64) (cUnit)) (s.t15, ())))], hp := [.cells ((cK (.ptr 0 0) (cK (.row 1 1) (cUnit)) : Cdc U (Unit)).enc (())) (some 136), .row 5 1 s.b1] }
noncomputable def zia (r : (List Int)) : Ex × St U := (.exit 0, { tm := [], hp := [.cells ((cK (.ptr 0 0) (cK (.row 1 1) (cUnit)) : Cdc U (Unit)).enc (())) (some 136), .row 5 1 r] })
noncomputable def zxt (r : (List Int)) : Tree (Ex × St U) := .leaf (zia r)
noncomputable def zt5 : Hd := { keep := [2, 13, 14, 15], xkeep := [], own := false }
noncomputable def z8o : Env U := { P := Tryz.prog, cd := cd, fns := (addF 130 false (zla) (addF 92 false (zy) fns38)), lps := (addL 0 zt5 (mkLoop z14q z12a zq9 (z8a none) zxt) noL), frz := fun _r => false, nt := 23, n0 := 2 }
noncomputable def zwx : Code := (loopAt (Tryz.f131.body.getD .skip) 0 0).getD .skip
theorem z1ju (s : z34) : round z8o zt5 zwx 0 (zhs s) = (z6z none s).map (sumE zhs zia) := by kernel_rfl
theorem z1lm : LpOk z8o zwx 0 := mkLoop_ok (A := z14q) (B := z12a) (f := zq9) (L := z8a none) (tO_ok (cK2_ok cUnit_ok) (tO_ok (cPair_ok (cSl_ok 9) cUnit_ok) (tO_ok (cPair_ok (cInt_ok .i64) cUnit_ok) (tO_ok (cPair_ok (cInt_ok .i64) cUnit_ok) tNil_ok)))) (bT_ok (cK_ok (cK_ok cUnit_ok)) (bRv_ok bNil_ok)) (enc := zhs) (out := zxt) (outS := zia) (step := z6z none) (fun _ => rfl) (fun _ _ => by kernel_rfl) (by kernel_rfl) (fun _ => rfl) z1ju
theorem z1l5 (x1 : (List (List UInt8))) (g0 : Unit) (g1 : (List Int)) : execX false z8o Tryz.f131 (zdl.enc (x1, ())) (zem.enc (g0, g1, ())) = (z7f none x1 g0 g1).map (zjk (x1, ()) (g0, g1, ())) := by kernel_rfl
theorem z1gs : ∀ (x : (List (List UInt8)) × Unit) (g : Unit × (List Int) × Unit), execX false z8o Tryz.f131 (zdl.enc x) (zem.enc g) = (z7f none x.1 g.1 g.2.1).map (zjk x g)
  | (x1, ()), (g0, g1, ()) => z1l5 x1 g0 g1
theorem z179 : FnOk Tryz.prog cd 131 zko := mk_okG (E := z8o) (A := zdl) (B := zem) false cd_ok (addF_ok z172 (addF_ok zz zn)) Tryz.func131 (by kernel_rfl) (loops_of (addL_ok z1lm noL_ok)) (aP_ok (aO_ok (cSl_ok 9) (aKF_ok (aNil_ok)))) (bT_ok (cK_ok (cK_ok cUnit_ok)) (bR_ok bNil_ok)) (T := fun (x : (List (List UInt8)) × Unit) (g : Unit × (List Int) × Unit) => z7f none x.1 g.1 g.2.1) (fun _ _ => rfl) z1gs
noncomputable def z9b (q : Option Nat) (x1 : Disk) (g0 : Unit) (g1 : (List Int)) : Tree (List Int) :=
  .opt (List Int) (z4o q x1.drive.sectors () g1) fun r587 =>
    .opt (List Int) (z2c q x1.drive.bad () r587) fun r588 =>
      .opt ((List Bool) × (List Int)) (zk q () ([x1.enable, x1.ready, x1.error]) r588) fun r589 =>
        .opt ((List Int) × (List Int)) (za q (1 : Int) () ([x1.command]) r589.2) fun r590 =>
          .opt ((List Int) × (List Int)) (za q (2 : Int) () ([x1.words, x1.addr, x1.start]) r590.2) fun r591 =>
            .opt ((List Int) × (List Int)) (za q (1 : Int) () ([x1.left]) r591.2) fun r592 =>
              .leaf (r592.2)
noncomputable def z8d (q : Option Nat) (x1 : Disk) (g0 : Unit) (g1 : (List Int)) : Option (List Int) := (z9b q x1 g0 g1).run
noncomputable def zaj : Arg U (Disk × Unit) := aP 0 0 (aA cDisk (aNil))
noncomputable def zej : Bls U (Unit × (List Int) × Unit) := bT (some 136) (cK (.ptr 0 0) (cK (.row 1 0) (cUnit))) (bR 5 (bNil))
noncomputable def zkj (_x : Disk × Unit) (_g : Unit × (List Int) × Unit) (r : (List Int)) : List (V U) × List (Blk U) := ([], [.cells ((cK (.ptr 0 0) (cK (.row 1 6) (cUnit)) : Cdc U (Unit)).enc (())) (some 136), .row 5 6 r])
noncomputable def z185 : List (V U) → List (Blk U) → Option (FnOut U) := mkSpecG zaj zej (fun x g => z8d none x.1 g.1 g.2.1) zkj
noncomputable def zku : Env U := { P := Tryz.prog, cd := cd, fns := (addF 131 false (zko) (addF 92 false (zy) (addF 91 false (z6t) (addF 88 false (ziv) fns38)))), lps := noL, frz := fun _r => false, nt := 46, n0 := 2 }
theorem z1gq (x1 : Disk) (g0 : Unit) (g1 : (List Int)) : execX false zku Tryz.f95 (zaj.enc (x1, ())) (zej.enc (g0, g1, ())) = (z9b none x1 g0 g1).map (zkj (x1, ()) (g0, g1, ())) := by kernel_rfl
theorem z1de : ∀ (x : Disk × Unit) (g : Unit × (List Int) × Unit), execX false zku Tryz.f95 (zaj.enc x) (zej.enc g) = (z9b none x.1 g.1 g.2.1).map (zkj x g)
  | (x1, ()), (g0, g1, ()) => z1gq x1 g0 g1
theorem z1h4 : FnOk Tryz.prog cd 95 z185 := mk_okG (E := zku) (A := zaj) (B := zej) false cd_ok (addF_ok z179 (addF_ok zz (addF_ok z80 (addF_ok zvw zn)))) Tryz.func95 (by kernel_rfl) (noLoops_body (by kernel_rfl)) (aP_ok (aA_ok z21 (aNil_ok))) (bT_ok (cK_ok (cK_ok cUnit_ok)) (bR_ok bNil_ok)) (T := fun (x : Disk × Unit) (g : Unit × (List Int) × Unit) => z9b none x.1 g.1 g.2.1) (fun _ _ => rfl) z1de
noncomputable def z8p (q : Option Nat) (x1 : Tape) (g0 : Unit) (g1 : (List Int)) : Tree (List Int) :=
  .opt (List Int) (z4o q x1.records () g1) fun r602 =>
    .opt ((List Int) × (List Int)) (za q (1 : Int) () ([x1.pos]) r602) fun r603 =>
      .opt ((List Bool) × (List Int)) (zk q () ([x1.enable, x1.ready, x1.error, x1.mark, x1.end_]) r603.2) fun r604 =>
        .opt ((List Int) × (List Int)) (za q (1 : Int) () ([x1.command]) r604.2) fun r605 =>
          .opt ((List Int) × (List Int)) (za q (2 : Int) () ([x1.count, x1.addr]) r605.2) fun r606 =>
            .opt ((List Int) × (List Int)) (za q (1 : Int) () ([x1.left]) r606.2) fun r607 =>
              .leaf (r607.2)
noncomputable def z9g (q : Option Nat) (x1 : Tape) (g0 : Unit) (g1 : (List Int)) : Option (List Int) := (z8p q x1 g0 g1).run
noncomputable def zco : Arg U (Tape × Unit) := aP 0 0 (aA cTape (aNil))
noncomputable def zc0 : Bls U (Unit × (List Int) × Unit) := bT (some 136) (cK (.ptr 0 0) (cK (.row 1 0) (cUnit))) (bR 5 (bNil))
noncomputable def zjg (_x : Tape × Unit) (_g : Unit × (List Int) × Unit) (r : (List Int)) : List (V U) × List (Blk U) := ([], [.cells ((cK (.ptr 0 0) (cK (.row 1 6) (cUnit)) : Cdc U (Unit)).enc (())) (some 136), .row 5 6 r])
noncomputable def zot : List (V U) → List (Blk U) → Option (FnOut U) := mkSpecG zco zc0 (fun x g => z9g none x.1 g.1 g.2.1) zjg
noncomputable def zld : Env U := { P := Tryz.prog, cd := cd, fns := (addF 131 false (zko) (addF 92 false (zy) (addF 91 false (z6t) fns38))), lps := noL, frz := fun _r => false, nt := 45, n0 := 2 }
theorem z1j6 (x1 : Tape) (g0 : Unit) (g1 : (List Int)) : execX false zld Tryz.f96 (zco.enc (x1, ())) (zc0.enc (g0, g1, ())) = (z8p none x1 g0 g1).map (zjg (x1, ()) (g0, g1, ())) := by kernel_rfl
theorem z1gl : ∀ (x : Tape × Unit) (g : Unit × (List Int) × Unit), execX false zld Tryz.f96 (zco.enc x) (zc0.enc g) = (z8p none x.1 g.1 g.2.1).map (zjg x g)
  | (x1, ()), (g0, g1, ()) => z1j6 x1 g0 g1
theorem z1dy : FnOk Tryz.prog cd 96 zot := mk_okG (E := zld) (A := zco) (B := zc0) false cd_ok (addF_ok z179 (addF_ok zz (addF_ok z80 zn))) Tryz.func96 (by kernel_rfl) (noLoops_body (by kernel_rfl)) (aP_ok (aA_ok z15 (aNil_ok))) (bT_ok (cK_ok (cK_ok cUnit_ok)) (bR_ok bNil_ok)) (T := fun (x : Tape × Unit) (g : Unit × (List Int) × Unit) => z8p none x.1 g.1 g.2.1) (fun _ _ => rfl) z1gl
end Go.Proofs.YtiafliookmnjoaaGreatDoor
namespace Go.Proofs
open Go.Shelf
shelf_lay Lays.n169 Nm 169 at Tryz as Tryz.lays97
theorem Tryz.extra97 : Builder.Extra Tryz.prog Tryz.lays97_ren where
  sizeBuilder := by kernel_rfl
  liesBuilder := by kernel_rfl
  t5 := Tryz.underlying5
  a5 := Tryz.isAgg5
  z5 := Tryz.sizeOf5
  v5 := Tryz.zeroValue5
  infoByte := by kernel_rfl
  cellsByte := by kernel_rfl
  sizeByte := by kernel_rfl
  neB5 := by decide
end Go.Proofs
namespace Go.Proofs.YtiafliookmnjoaaGreatDoor
open Go Go.Ab
theorem z1mi : FnOk Tryz.prog cd 97 (strSpec cd 5) := str_ok cd_ok Tryz.lays97 Tryz.extra97 Tryz.func97 (by kernel_rfl) (by kernel_rfl) rfl rfl
noncomputable def zao (q : Option Nat) (x0 : Machine) : Tree (List UInt8) :=
  .opt (Int × (List Int)) (zf6 ([69, 77, 85, 49] : List UInt8) ()) fun r622 =>
    .opt (List Int) (z7h q x0.cpu () r622.2) fun r623 =>
      .opt (List Int) (z2c q x0.mem () r623) fun r624 =>
        .opt (List Int) (z2c q x0.bad () r624) fun r625 =>
          .opt (List Int) (z9p q x0.mmu () r625) fun r626 =>
            .opt ((List Bool) × (List Int)) (zk q () ([x0.clock.enable, x0.clock.ready]) r626) fun r627 =>
              .opt ((List Int) × (List Int)) (za q (2 : Int) () ([x0.clock.period, x0.clock.left]) r627.2) fun r628 =>
                .opt (List Int) (z88 q x0.lines () r628.2) fun r629 =>
                  .opt (List Int) (z8d q x0.disk () r629) fun r630 =>
                    .opt (List Int) (z9g q x0.tape () r630) fun r631 =>
                      .opt ((List Int) × (List Int)) (za q (6 : Int) () ([x0.now]) r631) fun r632 =>
                        .opt ((List Bool) × (List Int)) (zk q () ([x0.halted, x0.waiting]) r632.2) fun r633 =>
                          .opt ((List Int) × (List Int)) (za q (2 : Int) () ([x0.power]) r633.2) fun r634 =>
                            .opt ((List Bool) × (List Int)) (zk q () ([x0.powerTrap]) r634.2) fun r635 =>
                              .opt (List UInt8) (strF (r635.2.map fun x => UInt8.ofNat x.toNat)) fun r636 =>
                                .leaf (r636)
noncomputable def zer (q : Option Nat) (x0 : Machine) : Option (List UInt8) := (zao q x0).run
noncomputable def z16t : Arg U (Machine × Unit) := aA cMachine (aNil)
noncomputable def z189 (r : (List UInt8)) : List (V U) × List (Blk U) := ([vO cStr r], [])
noncomputable def zne : List (V U) → List (Blk U) → Option (FnOut U) := mkSpec z16t bNil (fun x _ => zer none x.1) z189
noncomputable def zxm : Env U := { P := Tryz.prog, cd := cd, fns := (addF 97 false (strSpec cd 5) (addF 96 false (zot) (addF 95 false (z185) (addF 93 false (zva) (addF 92 false (zy) (addF 91 false (z6t) (addF 90 false (zrr) (addF 88 false (ziv) (addF 87 false (z18m) (addF 86 false (z14x) fns38)))))))))), lps := noL, frz := fun _r => false, nt := 88, n0 := 0 }
theorem z1mr (x : Machine × Unit) (g : Unit) : execF zxm Tryz.f39 (z16t.enc x) (bNil.enc g) = (zao none x.1).map z189 := by kernel_rfl
theorem z1k9 : FnOk Tryz.prog cd 39 zne := mk_ok (E := zxm) cd_ok (addF_ok z1mi (addF_ok z1dy (addF_ok z1h4 (addF_ok z1dv (addF_ok zz (addF_ok z80 (addF_ok z1cu (addF_ok zvw (addF_ok z1f3 (addF_ok z1mx zn)))))))))) Tryz.func39 (by kernel_rfl) (noLoops_body (by kernel_rfl)) (aA_ok zm (aNil_ok)) bNil_ok (T := fun x _ => zao none x.1) (fun _ _ => rfl) z1mr
noncomputable def fns39 := addF 39 true zne fns38
theorem zn3 : ∀ f q t, fns39 f = some (q, t) → FnOk Tryz.prog cd f t := addF_ok z1k9 zn
noncomputable def zbv (q : Option Nat) (x0 : Machine) : Tree ((List UInt8) × Int) :=
  .opt Bool (zt q x0) fun r637 =>
    .ite (!r637)
      (.leaf ((([] : List UInt8), (1 : Int))))
      (.opt (List UInt8) (zer q x0) fun r638 =>
        .opt (List UInt8) (ze3 q r638) fun r639 =>
          .leaf ((r639, (0 : Int))))
noncomputable def zar (q : Option Nat) (x0 : Machine) : Option ((List UInt8) × Int) := (zbv q x0).run
noncomputable def zw9 : Arg U (Machine × Unit) := aA cMachine (aNil)
noncomputable def z19t (r : ((List UInt8) × Int)) : List (V U) × List (Blk U) := ([vO cStr r.1, vO (cInt .i64) r.2], [])
noncomputable def zv6 : List (V U) → List (Blk U) → Option (FnOut U) := mkSpec zw9 bNil (fun x _ => zar none x.1) z19t
noncomputable def z12m : Env U := { P := Tryz.prog, cd := cd, fns := fns39, lps := noL, frz := fun _r => false, nt := 10, n0 := 0 }
theorem z1fr (x : Machine × Unit) (g : Unit) : execF z12m Tryz.f12 (zw9.enc x) (bNil.enc g) = (zbv none x.1).map z19t := by kernel_rfl
theorem z1g5 : FnOk Tryz.prog cd 12 zv6 := mk_ok (E := z12m) cd_ok zn3 Tryz.func12 (by kernel_rfl) (noLoops_body (by kernel_rfl)) (aA_ok zm (aNil_ok)) bNil_ok (T := fun x _ => zbv none x.1) (fun _ _ => rfl) z1fr
noncomputable def fns12 := addF 12 true zv6 fns39
theorem z107 : ∀ f q t, fns12 f = some (q, t) → FnOk Tryz.prog cd f t := addF_ok z1g5 zn3
structure z2j where
  t0 : (List Int)
  t1 : (List Int)
  t12 : Int
  t13 : Int
noncomputable def z4f (s : z2j) : Tree (z2j ⊕ (Bool ⊕ Unit)) :=
  .ite (decide (s.t13 < s.t12))
    (.ite (decide (0 ≤ s.t13))
      (.opt Int (s.t0[(s.t13).toNat]?) fun y640 =>
        .ite (decide (0 ≤ s.t13))
          (.opt Int (s.t1[(s.t13).toNat]?) fun y641 =>
            .ite (!decide (y640 = y641))
              (.leaf (.inr (.inl false)))
              (.leaf (.inl (z2j.mk s.t0 s.t1 s.t12 (IntKind.wrap .i64 (s.t13 + (1 : Int)))))))
          .fail)
      .fail)
    (.leaf (.inr (.inr ())))
noncomputable def ze5 (q : Option Nat) (s : z2j) : Option (Bool ⊕ Unit) := limQ q (fun s => (z4f s).run) s
noncomputable def zfi (q : Option Nat) (x0 : (List Int)) (x1 : (List Int)) : Tree Bool :=
  .ite (!decide ((x0.length : Int) = (x1.length : Int)))
    (.leaf (false))
    (.opt (Bool ⊕ Unit) (ze5 q (z2j.mk x0 x1 (x0.length : Int) (0 : Int))) fun l642 =>
      .ite (l642.isLeft)
        (.opt Bool (l642.getLeft?) fun a643 =>
          .leaf (a643))
        (.opt Unit (l642.getRight?) fun b644 =>
          .leaf (true)))
noncomputable def z63 (q : Option Nat) (x0 : (List Int)) (x1 : (List Int)) : Option Bool := (zfi q x0 x1).run
noncomputable def z13k : Arg U ((List Int) × (List Int) × Unit) := aO (cSl 3) (aO (cSl 3) (aNil))
noncomputable def z15f (r : Bool) : List (V U) × List (Blk U) := ([vO cBool r], [])
noncomputable def zoj : List (V U) → List (Blk U) → Option (FnOut U) := mkSpec z13k bNil (fun x _ => z63 none x.1 x.2.1) z15f
noncomputable def zv8 (x : ((List Int) × Unit) × ((List Int) × Unit) × (Int × Unit) × (Int × Unit) × Unit) (_g : Unit) : z2j := z2j.mk x.1.1 x.2.1.1 x.2.2.1.1 x.2.2.2.1.1
noncomputable def zxw : Tms U (((List Int) × Unit) × ((List Int) × Unit) × (Int × Unit) × (Int × Unit) × Unit) := tO 0 (cPair (cSl 3) (cUnit)) (tO 1 (cPair (cSl 3) (cUnit)) (tO 12 (cPair (cInt .i64) (cUnit)) (tO 13 (cPair (cInt .i64) (cUnit)) (tNil))))
noncomputable def zwr : Bls U (Unit) := bNil
noncomputable def zle (s : z2j) : St U := { tm := [(0, .v (vO (cPair (cSl 3) (cUnit)) (s.t0, ()))), (1, .v (vO (cPair (cSl 3) (cUnit)) (s.t1, ()))), (12, .v (vO (cPair (cInt .i64) (cUnit)) (s.t12, ()))), (13, .v (vO (cPair (cInt .i64) (cUnit)) (s.t13, ())))], hp := [] }
noncomputable def z108 : (Bool ⊕ Unit) → Ex × St U
  | .inl r => (.ret, { tm := [(4, .v (vO (cPair cBool (cUnit)) (r, ())))], hp := [] })
  | .inr r => (.exit 0, { tm := [], hp := [] })
noncomputable def zxa (y : (Bool ⊕ Unit)) : Tree (Ex × St U) := .ite y.isLeft (.opt Bool y.getLeft? fun r => .leaf (.ret, { tm := [(4, .v (vO (cPair cBool (cUnit)) (r, ())))], hp := [] })) (.opt Unit y.getRight? fun r => .leaf (.exit 0, { tm := [], hp := [] }))
noncomputable def zx8 : Hd := { keep := [0, 1, 12, 13], xkeep := [4], own := false }
noncomputable def zc7 : Env U := { P := Tryz.prog, cd := cd, fns := fns12, lps := (addL 0 zx8 (mkLoop zxw zwr zv8 (ze5 none) zxa) noL), frz := fun _r => false, nt := 26, n0 := 0 }
noncomputable def znr : Code := (loopAt (Tryz.f81.body.getD .skip) 0 0).getD .skip
theorem z1gr (s : z2j) : round zc7 zx8 znr 0 (zle s) = (z4f s).map (sumE zle z108) := by kernel_rfl
theorem z1kp : LpOk zc7 znr 0 := mkLoop_ok (A := zxw) (B := zwr) (f := zv8) (L := ze5 none) (tO_ok (cPair_ok (cSl_ok 3) cUnit_ok) (tO_ok (cPair_ok (cSl_ok 3) cUnit_ok) (tO_ok (cPair_ok (cInt_ok .i64) cUnit_ok) (tO_ok (cPair_ok (cInt_ok .i64) cUnit_ok) tNil_ok)))) bNil_ok (enc := zle) (out := zxa) (outS := z108) (step := z4f) (fun _ => rfl) (fun _ _ => by kernel_rfl) (by kernel_rfl) (fun b => by cases b <;> rfl) z1gr
theorem z1c3 (x : (List Int) × (List Int) × Unit) (g : Unit) : execF zc7 Tryz.f81 (z13k.enc x) (bNil.enc g) = (zfi none x.1 x.2.1).map z15f := by kernel_rfl
theorem z1gu : FnOk Tryz.prog cd 81 zoj := mk_ok (E := zc7) cd_ok z107 Tryz.func81 (by kernel_rfl) (loops_of (addL_ok z1kp noL_ok)) (aO_ok (cSl_ok 3) (aO_ok (cSl_ok 3) (aNil_ok))) bNil_ok (T := fun x _ => zfi none x.1 x.2.1) (fun _ _ => rfl) z1c3
noncomputable def fns81 := addF 81 true zoj fns12
theorem z19r : ∀ f q t, fns81 f = some (q, t) → FnOk Tryz.prog cd f t := addF_ok z1gu z107
structure z1x where
  t0 : (List Line)
  t1 : (List Line)
  t12 : Int
  t13 : Int
noncomputable def z4h (s : z1x) : Tree (z1x ⊕ (Bool ⊕ Unit)) :=
  .ite (decide (s.t13 < s.t12))
    (.ite (decide (0 ≤ s.t13))
      (.opt Line (s.t0[(s.t13).toNat]?) fun y645 =>
        .ite (decide (0 ≤ s.t13))
          (.opt Line (s.t1[(s.t13).toNat]?) fun y646 =>
            .ite (!((y645.rxEnable == y646.rxEnable) && ((y645.rxReady == y646.rxReady) && ((y645.overrun == y646.overrun) && ((decide (y645.rxData = y646.rxData)) && ((y645.txEnable == y646.txEnable) && ((y645.txReady == y646.txReady) && ((decide (y645.txData = y646.txData)) && ((decide (y645.txLeft = y646.txLeft)) && (decide (y645.out = y646.out)))))))))))
              (.leaf (.inr (.inl false)))
              (.leaf (.inl (z1x.mk s.t0 s.t1 s.t12 (IntKind.wrap .i64 (s.t13 + (1 : Int)))))))
          .fail)
      .fail)
    (.leaf (.inr (.inr ())))
noncomputable def zeb (q : Option Nat) (s : z1x) : Option (Bool ⊕ Unit) := limQ q (fun s => (z4h s).run) s
noncomputable def zeo (q : Option Nat) (x0 : (List Line)) (x1 : (List Line)) : Tree Bool :=
  .ite (!decide ((x0.length : Int) = (x1.length : Int)))
    (.leaf (false))
    (.opt (Bool ⊕ Unit) (zeb q (z1x.mk x0 x1 (x0.length : Int) (0 : Int))) fun l647 =>
      .ite (l647.isLeft)
        (.opt Bool (l647.getLeft?) fun a648 =>
          .leaf (a648))
        (.opt Unit (l647.getRight?) fun b649 =>
          .leaf (true)))
noncomputable def zex (q : Option Nat) (x0 : (List Line)) (x1 : (List Line)) : Option Bool := (zeo q x0 x1).run
noncomputable def z13f : Arg U ((List Line) × (List Line) × Unit) := aO (cSl 66) (aO (cSl 66) (aNil))
noncomputable def z113 (r : Bool) : List (V U) × List (Blk U) := ([vO cBool r], [])
noncomputable def z150 : List (V U) → List (Blk U) → Option (FnOut U) := mkSpec z13f bNil (fun x _ => zex none x.1 x.2.1) z113
noncomputable def z165 (x : ((List Line) × Unit) × ((List Line) × Unit) × (Int × Unit) × (Int × Unit) × Unit) (_g : Unit) : z1x := z1x.mk x.1.1 x.2.1.1 x.2.2.1.1 x.2.2.2.1.1
noncomputable def z12d : Tms U (((List Line) × Unit) × ((List Line) × Unit) × (Int × Unit) × (Int × Unit) × Unit) := tO 0 (cPair (cSl 66) (cUnit)) (tO 1 (cPair (cSl 66) (cUnit)) (tO 12 (cPair (cInt .i64) (cUnit)) (tO 13 (cPair (cInt .i64) (cUnit)) (tNil))))
noncomputable def zt4 : Bls U (Unit) := bNil
noncomputable def zhp (s : z1x) : St U := { tm := [(0, .v (vO (cPair (cSl 66) (cUnit)) (s.t0, ()))), (1, .v (vO (cPair (cSl 66) (cUnit)) (s.t1, ()))), (12, .v (vO (cPair (cInt .i64) (cUnit)) (s.t12, ()))), (13, .v (vO (cPair (cInt .i64) (cUnit)) (s.t13, ())))], hp := [] }
noncomputable def zmk : (Bool ⊕ Unit) → Ex × St U
  | .inl r => (.ret, { tm := [(4, .v (vO (cPair cBool (cUnit)) (r, ())))], hp := [] })
  | .inr r => (.exit 0, { tm := [], hp := [] })
noncomputable def z119 (y : (Bool ⊕ Unit)) : Tree (Ex × St U) := .ite y.isLeft (.opt Bool y.getLeft? fun r => .leaf (.ret, { tm := [(4, .v (vO (cPair cBool (cUnit)) (r, ())))], hp := [] })) (.opt Unit y.getRight? fun r => .leaf (.exit 0, { tm := [], hp := [] }))
noncomputable def z1aa : Hd := { keep := [0, 1, 12, 13], xkeep := [4], own := false }
noncomputable def zaw : Env U := { P := Tryz.prog, cd := cd, fns := fns81, lps := (addL 0 z1aa (mkLoop z12d zt4 z165 (zeb none) z119) noL), frz := fun _r => false, nt := 26, n0 := 0 }
noncomputable def zoy : Code := (loopAt (Tryz.f82.body.getD .skip) 0 0).getD .skip
theorem z1kc (s : z1x) : round zaw z1aa zoy 0 (zhp s) = (z4h s).map (sumE zhp zmk) := by kernel_rfl
theorem z1iy : LpOk zaw zoy 0 := mkLoop_ok (A := z12d) (B := zt4) (f := z165) (L := zeb none) (tO_ok (cPair_ok (cSl_ok 66) cUnit_ok) (tO_ok (cPair_ok (cSl_ok 66) cUnit_ok) (tO_ok (cPair_ok (cInt_ok .i64) cUnit_ok) (tO_ok (cPair_ok (cInt_ok .i64) cUnit_ok) tNil_ok)))) bNil_ok (enc := zhp) (out := z119) (outS := zmk) (step := z4h) (fun _ => rfl) (fun _ _ => by kernel_rfl) (by kernel_rfl) (fun b => by cases b <;> rfl) z1kc
theorem z1d0 (x : (List Line) × (List Line) × Unit) (g : Unit) : execF zaw Tryz.f82 (z13f.enc x) (bNil.enc g) = (zeo none x.1 x.2.1).map z113 := by kernel_rfl
theorem z1mf : FnOk Tryz.prog cd 82 z150 := mk_ok (E := zaw) cd_ok z19r Tryz.func82 (by kernel_rfl) (loops_of (addL_ok z1iy noL_ok)) (aO_ok (cSl_ok 66) (aO_ok (cSl_ok 66) (aNil_ok))) bNil_ok (T := fun x _ => zeo none x.1 x.2.1) (fun _ _ => rfl) z1d0
noncomputable def fns82 := addF 82 true z150 fns81
theorem zqe : ∀ f q t, fns82 f = some (q, t) → FnOk Tryz.prog cd f t := addF_ok z1mf z19r
structure z2k where
  t0 : (List (List UInt8))
  t1 : (List (List UInt8))
  t12 : Int
  t13 : Int
noncomputable def z3u (s : z2k) : Tree (z2k ⊕ (Bool ⊕ Unit)) :=
  .ite (decide (s.t13 < s.t12))
    (.ite (decide (0 ≤ s.t13))
      (.opt (List UInt8) (s.t0[(s.t13).toNat]?) fun y650 =>
        .ite (decide (0 ≤ s.t13))
          (.opt (List UInt8) (s.t1[(s.t13).toNat]?) fun y651 =>
            .ite (!decide (y650 = y651))
              (.leaf (.inr (.inl false)))
              (.leaf (.inl (z2k.mk s.t0 s.t1 s.t12 (IntKind.wrap .i64 (s.t13 + (1 : Int)))))))
          .fail)
      .fail)
    (.leaf (.inr (.inr ())))
noncomputable def zfy (q : Option Nat) (s : z2k) : Option (Bool ⊕ Unit) := limQ q (fun s => (z3u s).run) s
noncomputable def zbn (q : Option Nat) (x0 : (List (List UInt8))) (x1 : (List (List UInt8))) : Tree Bool :=
  .ite (!decide ((x0.length : Int) = (x1.length : Int)))
    (.leaf (false))
    (.opt (Bool ⊕ Unit) (zfy q (z2k.mk x0 x1 (x0.length : Int) (0 : Int))) fun l652 =>
      .ite (l652.isLeft)
        (.opt Bool (l652.getLeft?) fun a653 =>
          .leaf (a653))
        (.opt Unit (l652.getRight?) fun b654 =>
          .leaf (true)))
noncomputable def z8u (q : Option Nat) (x0 : (List (List UInt8))) (x1 : (List (List UInt8))) : Option Bool := (zbn q x0 x1).run
noncomputable def ztd : Arg U ((List (List UInt8)) × (List (List UInt8)) × Unit) := aO (cSl 9) (aO (cSl 9) (aNil))
noncomputable def z15y (r : Bool) : List (V U) × List (Blk U) := ([vO cBool r], [])
noncomputable def z14l : List (V U) → List (Blk U) → Option (FnOut U) := mkSpec ztd bNil (fun x _ => z8u none x.1 x.2.1) z15y
noncomputable def zzy (x : ((List (List UInt8)) × Unit) × ((List (List UInt8)) × Unit) × (Int × Unit) × (Int × Unit) × Unit) (_g : Unit) : z2k := z2k.mk x.1.1 x.2.1.1 x.2.2.1.1 x.2.2.2.1.1
noncomputable def zw1 : Tms U (((List (List UInt8)) × Unit) × ((List (List UInt8)) × Unit) × (Int × Unit) × (Int × Unit) × Unit) := tO 0 (cPair (cSl 9) (cUnit)) (tO 1 (cPair (cSl 9) (cUnit)) (tO 12 (cPair (cInt .i64) (cUnit)) (tO 13 (cPair (cInt .i64) (cUnit)) (tNil))))
noncomputable def zou : Bls U (Unit) := bNil
noncomputable def zjx (s : z2k) : St U := { tm := [(0, .v (vO (cPair (cSl 9) (cUnit)) (s.t0, ()))), (1, .v (vO (cPair (cSl 9) (cUnit)) (s.t1, ()))), (12, .v (vO (cPair (cInt .i64) (cUnit)) (s.t12, ()))), (13, .v (vO (cPair (cInt .i64) (cUnit)) (s.t13, ())))], hp := [] }
noncomputable def zuz : (Bool ⊕ Unit) → Ex × St U
  | .inl r => (.ret, { tm := [(4, .v (vO (cPair cBool (cUnit)) (r, ())))], hp := [] })
  | .inr r => (.exit 0, { tm := [], hp := [] })
noncomputable def znc (y : (Bool ⊕ Unit)) : Tree (Ex × St U) := .ite y.isLeft (.opt Bool y.getLeft? fun r => .leaf (.ret, { tm := [(4, .v (vO (cPair cBool (cUnit)) (r, ())))], hp := [] })) (.opt Unit y.getRight? fun r => .leaf (.exit 0, { tm := [], hp := [] }))
noncomputable def zt0 : Hd := { keep := [0, 1, 12, 13], xkeep := [4], own := false }
noncomputable def zb2 : Env U := { P := Tryz.prog, cd := cd, fns := fns82, lps := (addL 0 zt0 (mkLoop zw1 zou zzy (zfy none) znc) noL), frz := fun _r => false, nt := 26, n0 := 0 }
noncomputable def zp5 : Code := (loopAt (Tryz.f128.body.getD .skip) 0 0).getD .skip
theorem z1bc (s : z2k) : round zb2 zt0 zp5 0 (zjx s) = (z3u s).map (sumE zjx zuz) := by kernel_rfl
theorem z1bh : LpOk zb2 zp5 0 := mkLoop_ok (A := zw1) (B := zou) (f := zzy) (L := zfy none) (tO_ok (cPair_ok (cSl_ok 9) cUnit_ok) (tO_ok (cPair_ok (cSl_ok 9) cUnit_ok) (tO_ok (cPair_ok (cInt_ok .i64) cUnit_ok) (tO_ok (cPair_ok (cInt_ok .i64) cUnit_ok) tNil_ok)))) bNil_ok (enc := zjx) (out := znc) (outS := zuz) (step := z3u) (fun _ => rfl) (fun _ _ => by kernel_rfl) (by kernel_rfl) (fun b => by cases b <;> rfl) z1bc
theorem z1le (x : (List (List UInt8)) × (List (List UInt8)) × Unit) (g : Unit) : execF zb2 Tryz.f128 (ztd.enc x) (bNil.enc g) = (zbn none x.1 x.2.1).map z15y := by kernel_rfl
theorem z1ka : FnOk Tryz.prog cd 128 z14l := mk_ok (E := zb2) cd_ok zqe Tryz.func128 (by kernel_rfl) (loops_of (addL_ok z1bh noL_ok)) (aO_ok (cSl_ok 9) (aO_ok (cSl_ok 9) (aNil_ok))) bNil_ok (T := fun x _ => zbn none x.1 x.2.1) (fun _ _ => rfl) z1le
noncomputable def fns128 := addF 128 true z14l fns82
theorem zt6 : ∀ f q t, fns128 f = some (q, t) → FnOk Tryz.prog cd f t := addF_ok z1ka zqe
noncomputable def zac (q : Option Nat) (x0 : Disk) (x1 : Disk) : Tree Bool :=
  .opt Bool (z8u q x0.drive.sectors x1.drive.sectors) fun r655 =>
    .ite (r655)
      (.opt Bool (z63 q x0.drive.bad x1.drive.bad) fun r656 =>
        .ite (r656)
          (.ite ((x0.enable == x1.enable))
            (.ite ((x0.ready == x1.ready))
              (.ite ((x0.error == x1.error))
                (.ite (decide (x0.command = x1.command))
                  (.ite (decide (x0.words = x1.words))
                    (.ite (decide (x0.addr = x1.addr))
                      (.ite (decide (x0.start = x1.start))
                        (.leaf (decide (x0.left = x1.left)))
                        (.leaf (false)))
                      (.leaf (false)))
                    (.leaf (false)))
                  (.leaf (false)))
                (.leaf (false)))
              (.leaf (false)))
            (.leaf (false)))
          (.leaf (false)))
      (.leaf (false))
noncomputable def zbp (q : Option Nat) (x0 : Disk) (x1 : Disk) : Option Bool := (zac q x0 x1).run
noncomputable def zlt : Arg U (Disk × Disk × Unit) := aA cDisk (aA cDisk (aNil))
noncomputable def zvk (r : Bool) : List (V U) × List (Blk U) := ([vO cBool r], [])
noncomputable def z188 : List (V U) → List (Blk U) → Option (FnOut U) := mkSpec zlt bNil (fun x _ => zbp none x.1 x.2.1) zvk
noncomputable def zpt : Env U := { P := Tryz.prog, cd := cd, fns := fns128, lps := noL, frz := fun _r => false, nt := 79, n0 := 0, fps := fun _r _i => bif Nat.beq _r 1 && Nat.beq _i 2 then .rd [] else bif Nat.beq _r 1 && Nat.beq _i 3 then .rd [1] else bif Nat.beq _r 1 && Nat.beq _i 6 then .wr [2] 4 else .none }
theorem z1bd (x : Disk × Disk × Unit) (g : Unit) : execF zpt Tryz.f83 (zlt.enc x) (bNil.enc g) = (zac none x.1 x.2.1).map zvk := by kernel_rfl
theorem z1n2 : FnOk Tryz.prog cd 83 z188 := mk_ok (E := zpt) cd_ok zt6 Tryz.func83 (by kernel_rfl) (noLoops_body (by kernel_rfl)) (aA_ok z21 (aA_ok z21 (aNil_ok))) bNil_ok (T := fun x _ => zac none x.1 x.2.1) (fun _ _ => rfl) z1bd
noncomputable def fns83 := addF 83 true z188 fns128
theorem zo4 : ∀ f q t, fns83 f = some (q, t) → FnOk Tryz.prog cd f t := addF_ok z1n2 zt6
noncomputable def za8 (q : Option Nat) (x0 : Tape) (x1 : Tape) : Tree Bool :=
  .opt Bool (z8u q x0.records x1.records) fun r657 =>
    .ite (r657)
      (.ite (decide (x0.pos = x1.pos))
        (.ite ((x0.enable == x1.enable))
          (.ite ((x0.ready == x1.ready))
            (.ite ((x0.error == x1.error))
              (.ite ((x0.mark == x1.mark))
                (.ite ((x0.end_ == x1.end_))
                  (.ite (decide (x0.command = x1.command))
                    (.ite (decide (x0.count = x1.count))
                      (.ite (decide (x0.addr = x1.addr))
                        (.leaf (decide (x0.left = x1.left)))
                        (.leaf (false)))
                      (.leaf (false)))
                    (.leaf (false)))
                  (.leaf (false)))
                (.leaf (false)))
              (.leaf (false)))
            (.leaf (false)))
          (.leaf (false)))
        (.leaf (false)))
      (.leaf (false))
noncomputable def zaz (q : Option Nat) (x0 : Tape) (x1 : Tape) : Option Bool := (za8 q x0 x1).run
noncomputable def zph : Arg U (Tape × Tape × Unit) := aA cTape (aA cTape (aNil))
noncomputable def z10o (r : Bool) : List (V U) × List (Blk U) := ([vO cBool r], [])
noncomputable def z13p : List (V U) → List (Blk U) → Option (FnOut U) := mkSpec zph bNil (fun x _ => zaz none x.1 x.2.1) z10o
noncomputable def z15e : Env U := { P := Tryz.prog, cd := cd, fns := fns83, lps := noL, frz := fun _r => false, nt := 80, n0 := 0 }
theorem z1gw (x : Tape × Tape × Unit) (g : Unit) : execF z15e Tryz.f84 (zph.enc x) (bNil.enc g) = (za8 none x.1 x.2.1).map z10o := by kernel_rfl
theorem z1jo : FnOk Tryz.prog cd 84 z13p := mk_ok (E := z15e) cd_ok zo4 Tryz.func84 (by kernel_rfl) (noLoops_body (by kernel_rfl)) (aA_ok z15 (aA_ok z15 (aNil_ok))) bNil_ok (T := fun x _ => za8 none x.1 x.2.1) (fun _ _ => rfl) z1gw
noncomputable def fns84 := addF 84 true z13p fns83
theorem zi3 : ∀ f q t, fns84 f = some (q, t) → FnOk Tryz.prog cd f t := addF_ok z1jo zo4
noncomputable def z8j (x0 : (List UInt8)) (x1 : Bool) (g0 : Unit) (g1 : (List (List UInt8))) : Tree (List (List UInt8)) :=
  .ite (!x1)
    (.ite (decide ((g1.length + ([x0]).length) * 16 ≤ 140737488355328))
      (.leaf (g1 ++ ([x0])))
      .fail)
    (.leaf (g1))
noncomputable def zq (x0 : (List UInt8)) (x1 : Bool) (g0 : Unit) (g1 : (List (List UInt8))) : Option (List (List UInt8)) := (z8j x0 x1 g0 g1).run
noncomputable def zg7 : Arg U ((List UInt8) × Bool × Unit) := aO cStr (aO cBool (aP 0 0 (aNil)))
noncomputable def zdv : Bls U (Unit × (List (List UInt8)) × Unit) := bT none (cK (.row 1 0) (cUnit)) (bR 9 (bNil))
noncomputable def zke (_x : (List UInt8) × Bool × Unit) (_g : Unit × (List (List UInt8)) × Unit) (r : (List (List UInt8))) : List (V U) × List (Blk U) := ([], [.cells ((cK (.row 1 1) (cUnit) : Cdc U (Unit)).enc (())) none, .row 9 1 r])
noncomputable def zp4 : List (V U) → List (Blk U) → Option (FnOut U) := mkSpecG zg7 zdv (fun x g => zq x.1 x.2.1 g.1 g.2.1) zke
noncomputable def zkb : Env U := { P := Tryz.prog, cd := cd, fns := fns84, lps := noL, frz := fun _r => false, nt := 11, n0 := 2, bump := true }
theorem z1lu (x0 : (List UInt8)) (x1 : Bool) (g0 : Unit) (g1 : (List (List UInt8))) : execX true zkb Tryz.f80 (zg7.enc (x0, x1, ())) (zdv.enc (g0, g1, ())) = (z8j x0 x1 g0 g1).map (zke (x0, x1, ()) (g0, g1, ())) := by kernel_rfl
theorem z1lw : ∀ (x : (List UInt8) × Bool × Unit) (g : Unit × (List (List UInt8)) × Unit), execX true zkb Tryz.f80 (zg7.enc x) (zdv.enc g) = (z8j x.1 x.2.1 g.1 g.2.1).map (zke x g)
  | (x0, x1, ()), (g0, g1, ()) => z1lu x0 x1 g0 g1
theorem z1ej : FnOk Tryz.prog cd 80 zp4 := mk_okG (E := zkb) (A := zg7) (B := zdv) true cd_ok zi3 Tryz.func80 (by kernel_rfl) (noLoops_body (by kernel_rfl)) (aO_ok cStr_ok (aO_ok cBool_ok (aP_ok (aNil_ok)))) (bT_ok (cK_ok cUnit_ok) (bR_ok bNil_ok)) (T := fun (x : (List UInt8) × Bool × Unit) (g : Unit × (List (List UInt8)) × Unit) => z8j x.1 x.2.1 g.1 g.2.1) (fun _ _ => rfl) z1lw
noncomputable def zbw (q : Option Nat) (x0 : Machine) (x1 : Machine) : Tree (List (List UInt8)) :=
  .opt (List (List UInt8)) (zq ([67, 112, 117] : List UInt8) ((decide (x0.cpu.r = x1.cpu.r)) && ((decide (x0.cpu.sP = x1.cpu.sP)) && ((decide (x0.cpu.pC = x1.cpu.pC)) && (decide (x0.cpu.pSW = x1.cpu.pSW))))) () ([])) fun r658 =>
    .opt Bool (z63 q x0.mem x1.mem) fun r659 =>
      .opt (List (List UInt8)) (zq ([77, 101, 109] : List UInt8) r659 () r658) fun r660 =>
        .opt Bool (z63 q x0.bad x1.bad) fun r661 =>
          .opt (List (List UInt8)) (zq ([66, 97, 100] : List UInt8) r661 () r660) fun r662 =>
            .opt (List (List UInt8)) (zq ([77, 109, 117] : List UInt8) ((x0.mmu.on == x1.mmu.on) && ((decide (x0.mmu.pages = x1.mmu.pages)) && ((decide (x0.mmu.status = x1.mmu.status)) && (decide (x0.mmu.addr = x1.mmu.addr))))) () r662) fun r663 =>
              .opt (List (List UInt8)) (zq ([67, 108, 111, 99, 107] : List UInt8) ((x0.clock.enable == x1.clock.enable) && ((x0.clock.ready == x1.clock.ready) && ((decide (x0.clock.period = x1.clock.period)) && (decide (x0.clock.left = x1.clock.left))))) () r663) fun r664 =>
                .opt Bool (zex q x0.lines x1.lines) fun r665 =>
                  .opt (List (List UInt8)) (zq ([76, 105, 110, 101, 115] : List UInt8) r665 () r664) fun r666 =>
                    .opt Bool (zbp q x0.disk x1.disk) fun r667 =>
                      .opt (List (List UInt8)) (zq ([68, 105, 115, 107] : List UInt8) r667 () r666) fun r668 =>
                        .opt Bool (zaz q x0.tape x1.tape) fun r669 =>
                          .opt (List (List UInt8)) (zq ([84, 97, 112, 101] : List UInt8) r669 () r668) fun r670 =>
                            .opt (List (List UInt8)) (zq ([78, 111, 119] : List UInt8) (decide (x0.now = x1.now)) () r670) fun r671 =>
                              .opt (List (List UInt8)) (zq ([72, 97, 108, 116, 101, 100] : List UInt8) (x0.halted == x1.halted) () r671) fun r672 =>
                                .opt (List (List UInt8)) (zq ([87, 97, 105, 116, 105, 110, 103] : List UInt8) (x0.waiting == x1.waiting) () r672) fun r673 =>
                                  .opt (List (List UInt8)) (zq ([80, 111, 119, 101, 114] : List UInt8) (decide (x0.power = x1.power)) () r673) fun r674 =>
                                    .opt (List (List UInt8)) (zq ([80, 111, 119, 101, 114, 84, 114, 97, 112] : List UInt8) (x0.powerTrap == x1.powerTrap) () r674) fun r675 =>
                                      .leaf (r675)
noncomputable def z83 (q : Option Nat) (x0 : Machine) (x1 : Machine) : Option (List (List UInt8)) := (zbw q x0 x1).run
noncomputable def zsc : Arg U (Machine × Machine × Unit) := aA cMachine (aA cMachine (aNil))
noncomputable def zxu (r : (List (List UInt8))) : List (V U) × List (Blk U) := ([vO (cSl 9) r], [])
noncomputable def z19q : List (V U) → List (Blk U) → Option (FnOut U) := mkSpec zsc bNil (fun x _ => z83 none x.1 x.2.1) zxu
noncomputable def z16c : Env U := { P := Tryz.prog, cd := cd, fns := (addF 80 false (zp4) fns84), lps := noL, frz := fun _r => false, nt := 100, n0 := 0, ownr := fun _r => Nat.beq _r 2 }
theorem z1c6 (x : Machine × Machine × Unit) (g : Unit) : execF z16c Tryz.f37 (zsc.enc x) (bNil.enc g) = (zbw none x.1 x.2.1).map zxu := by kernel_rfl
theorem z1fe : FnOk Tryz.prog cd 37 z19q := mk_ok (E := z16c) cd_ok (addF_ok z1ej zi3) Tryz.func37 (by kernel_rfl) (noLoops_body (by kernel_rfl)) (aA_ok zm (aA_ok zm (aNil_ok))) bNil_ok (T := fun x _ => zbw none x.1 x.2.1) (fun _ _ => rfl) z1c6
noncomputable def fns37 := addF 37 true z19q fns84
theorem zry : ∀ f q t, fns37 f = some (q, t) → FnOk Tryz.prog cd f t := addF_ok z1fe zi3
noncomputable def zfr (q : Option Nat) (x0 : Machine) (x1 : Machine) : Tree Bool :=
  .opt (List (List UInt8)) (z83 q x0 x1) fun r676 =>
    .leaf (decide ((r676.length : Int) = (0 : Int)))
noncomputable def z8f (q : Option Nat) (x0 : Machine) (x1 : Machine) : Option Bool := (zfr q x0 x1).run
noncomputable def z18c : Arg U (Machine × Machine × Unit) := aA cMachine (aA cMachine (aNil))
noncomputable def zwt (r : Bool) : List (V U) × List (Blk U) := ([vO cBool r], [])
noncomputable def zqw : List (V U) → List (Blk U) → Option (FnOut U) := mkSpec z18c bNil (fun x _ => z8f none x.1 x.2.1) zwt
noncomputable def z17o : Env U := { P := Tryz.prog, cd := cd, fns := fns37, lps := noL, frz := fun _r => false, nt := 10, n0 := 0 }
theorem z1ce (x : Machine × Machine × Unit) (g : Unit) : execF z17o Tryz.f17 (z18c.enc x) (bNil.enc g) = (zfr none x.1 x.2.1).map zwt := by kernel_rfl
theorem z1fc : FnOk Tryz.prog cd 17 zqw := mk_ok (E := z17o) cd_ok zry Tryz.func17 (by kernel_rfl) (noLoops_body (by kernel_rfl)) (aA_ok zm (aA_ok zm (aNil_ok))) bNil_ok (T := fun x _ => zfr none x.1 x.2.1) (fun _ _ => rfl) z1ce
noncomputable def fns17 := addF 17 true zqw fns37
theorem z19d : ∀ f q t, fns17 f = some (q, t) → FnOk Tryz.prog cd f t := addF_ok z1fc zry
noncomputable def zit (x0 : Int) : Tree ((List Int) × Int) :=
  .opt Bool (zea x0) fun r677 =>
    .ite (!r677)
      (.leaf (([], (1 : Int))))
      (.ite (decide ((2 : Int) = 0))
        .fail
        (.ite (decide (IntKind.wrap .i64 ((x0).tdiv (2 : Int)) = IntKind.wrap .i64 ((x0).tdiv (2 : Int))))
          (.ite (decide (0 ≤ IntKind.wrap .i64 ((x0).tdiv (2 : Int))))
            (.ite (decide ((8 : Int) * (IntKind.wrap .i64 ((x0).tdiv (2 : Int))) ≤ 281474976710656))
              (.leaf ((List.replicate (IntKind.wrap .i64 ((x0).tdiv (2 : Int))).toNat (0 : Int), (0 : Int))))
              .fail)
            .fail)
          .fail))
noncomputable def z13w (x0 : Int) : Option ((List Int) × Int) := (zit x0).run
noncomputable def z19z : Arg U (Int × Unit) := aO (cInt .i64) (aNil)
noncomputable def zlx (r : ((List Int) × Int)) : List (V U) × List (Blk U) := ([vO (cSl 3) r.1, vO (cInt .i64) r.2], [])
noncomputable def z18p : List (V U) → List (Blk U) → Option (FnOut U) := mkSpec z19z bNil (fun x _ => z13w x.1) zlx
noncomputable def zm0 : Env U := { P := Tryz.prog, cd := cd, fns := fns17, lps := noL, frz := fun _r => false, nt := 10, n0 := 0 }
theorem z1ii (x : Int × Unit) (g : Unit) : execF zm0 Tryz.f74 (z19z.enc x) (bNil.enc g) = (zit x.1).map zlx := by kernel_rfl
theorem z1ll : FnOk Tryz.prog cd 74 z18p := mk_ok (E := zm0) cd_ok z19d Tryz.func74 (by kernel_rfl) (noLoops_body (by kernel_rfl)) (aO_ok (cInt_ok .i64) (aNil_ok)) bNil_ok (T := fun x _ => zit x.1) (fun _ _ => rfl) z1ii
noncomputable def fns74 := addF 74 true z18p fns17
theorem z1hv : ∀ f q t, fns74 f = some (q, t) → FnOk Tryz.prog cd f t := addF_ok z1ll z19d
noncomputable def zik (x0 : (List UInt8)) (x1 : Int) : Option (List UInt8) := repF x0 x1
noncomputable def z18a : List (V U) → List (Blk U) → Option (FnOut U) := mkSpec (aO cStr (aO (cInt .i64) aNil) : Arg U (List UInt8 × Int × Unit)) bNil (fun x _ => zik x.1 x.2.1) fun r => ([vO cStr r], [])
end Go.Proofs.YtiafliookmnjoaaGreatDoor
namespace Go.Proofs
open Go.Shelf
shelf_lay Lays.n105 Nm 105 at Tryz as Tryz.lays122
theorem Tryz.extra122 : Builder.Extra Tryz.prog Tryz.lays122_ren where
  sizeBuilder := by kernel_rfl
  liesBuilder := by kernel_rfl
  t5 := Tryz.underlying5
  a5 := Tryz.isAgg5
  z5 := Tryz.sizeOf5
  v5 := Tryz.zeroValue5
  infoByte := by kernel_rfl
  cellsByte := by kernel_rfl
  sizeByte := by kernel_rfl
  neB5 := by decide
end Go.Proofs
namespace Go.Proofs.YtiafliookmnjoaaGreatDoor
open Go Go.Ab
theorem z1bm : FnOk Tryz.prog cd 122 z18a := rep_ok Tryz.lays122 Tryz.extra122 Tryz.func122 (by kernel_rfl) (by kernel_rfl) rfl
noncomputable def fns122 := addF 122 true z18a fns74
theorem z19b : ∀ f q t, fns122 f = some (q, t) → FnOk Tryz.prog cd f t := addF_ok z1bm z1hv
noncomputable def zkw (x0 : Int) (x1 : Int) : Tree (Int × Int) :=
  .ite (decide (0 ≤ (32 : Int)))
    (.leaf ((IntKind.wrap .u32 (((IntKind.wrap .u64 ((IntKind.wrap .u64 x0) * (IntKind.wrap .u64 x1)))).fdiv (2 ^ (min ((32 : Int)).toNat 64))), IntKind.wrap .u32 (IntKind.wrap .u64 ((IntKind.wrap .u64 x0) * (IntKind.wrap .u64 x1))))))
    .fail
noncomputable def z1ix (x0 : Int) (x1 : Int) : Option (Int × Int) := (zkw x0 x1).run
noncomputable def zzu : Arg U (Int × Int × Unit) := aO (cInt .u32) (aO (cInt .u32) (aNil))
noncomputable def zrm (r : (Int × Int)) : List (V U) × List (Blk U) := ([vO (cInt .u32) r.1, vO (cInt .u32) r.2], [])
noncomputable def zt8 : List (V U) → List (Blk U) → Option (FnOut U) := mkSpec zzu bNil (fun x _ => z1ix x.1 x.2.1) zrm
noncomputable def z16m : Env U := { P := Tryz.prog, cd := cd, fns := fns122, lps := noL, frz := fun _r => false, nt := 17, n0 := 0 }
theorem z1lx (x : Int × Int × Unit) (g : Unit) : execF z16m Tryz.f149 (zzu.enc x) (bNil.enc g) = (zkw x.1 x.2.1).map zrm := by kernel_rfl
theorem z1e1 : FnOk Tryz.prog cd 149 zt8 := mk_ok (E := z16m) cd_ok z19b Tryz.func149 (by kernel_rfl) (noLoops_body (by kernel_rfl)) (aO_ok (cInt_ok .u32) (aO_ok (cInt_ok .u32) (aNil_ok))) bNil_ok (T := fun x _ => zkw x.1 x.2.1) (fun _ _ => rfl) z1lx
noncomputable def fns149 := addF 149 true zt8 fns122
theorem z1ak : ∀ f q t, fns149 f = some (q, t) → FnOk Tryz.prog cd f t := addF_ok z1e1 z19b
noncomputable def zhn (x0 : Int) (x1 : Int) : Tree (Int × Int) :=
  .ite (decide (0 ≤ (32 : Int)))
    (.ite (decide (0 ≤ (32 : Int)))
      (.ite (decide (0 ≤ (32 : Int)))
        (.ite (decide (0 ≤ (32 : Int)))
          (.ite (decide (0 ≤ (32 : Int)))
            (.leaf ((IntKind.wrap .u64 ((IntKind.wrap .u64 ((IntKind.wrap .u64 (((x0).fdiv (2 ^ (min ((32 : Int)).toNat 64))) * ((x1).fdiv (2 ^ (min ((32 : Int)).toNat 64))))) + (((IntKind.wrap .u64 ((IntKind.wrap .u64 (((x0).fdiv (2 ^ (min ((32 : Int)).toNat 64))) * (IntKind.wrap .u64 (((BitVec.ofInt 64 x1 &&& BitVec.ofInt 64 (4294967295 : Int)).toNat : Int))))) + (((IntKind.wrap .u64 ((IntKind.wrap .u64 (((BitVec.ofInt 64 x0 &&& BitVec.ofInt 64 (4294967295 : Int)).toNat : Int))) * (IntKind.wrap .u64 (((BitVec.ofInt 64 x1 &&& BitVec.ofInt 64 (4294967295 : Int)).toNat : Int)))))).fdiv (2 ^ (min ((32 : Int)).toNat 64)))))).fdiv (2 ^ (min ((32 : Int)).toNat 64))))) + (((IntKind.wrap .u64 ((IntKind.wrap .u64 (((BitVec.ofInt 64 (IntKind.wrap .u64 ((IntKind.wrap .u64 (((x0).fdiv (2 ^ (min ((32 : Int)).toNat 64))) * (IntKind.wrap .u64 (((BitVec.ofInt 64 x1 &&& BitVec.ofInt 64 (4294967295 : Int)).toNat : Int))))) + (((IntKind.wrap .u64 ((IntKind.wrap .u64 (((BitVec.ofInt 64 x0 &&& BitVec.ofInt 64 (4294967295 : Int)).toNat : Int))) * (IntKind.wrap .u64 (((BitVec.ofInt 64 x1 &&& BitVec.ofInt 64 (4294967295 : Int)).toNat : Int)))))).fdiv (2 ^ (min ((32 : Int)).toNat 64))))) &&& BitVec.ofInt 64 (4294967295 : Int)).toNat : Int))) + (IntKind.wrap .u64 ((IntKind.wrap .u64 (((BitVec.ofInt 64 x0 &&& BitVec.ofInt 64 (4294967295 : Int)).toNat : Int))) * ((x1).fdiv (2 ^ (min ((32 : Int)).toNat 64)))))))).fdiv (2 ^ (min ((32 : Int)).toNat 64)))), IntKind.wrap .u64 (x0 * x1))))
            .fail)
          .fail)
        .fail)
      .fail)
    .fail
noncomputable def z14z (x0 : Int) (x1 : Int) : Option (Int × Int) := (zhn x0 x1).run
noncomputable def zw2 : Arg U (Int × Int × Unit) := aO (cInt .u64) (aO (cInt .u64) (aNil))
noncomputable def zrl (r : (Int × Int)) : List (V U) × List (Blk U) := ([vO (cInt .u64) r.1, vO (cInt .u64) r.2], [])
noncomputable def z1ae : List (V U) → List (Blk U) → Option (FnOut U) := mkSpec zw2 bNil (fun x _ => z14z x.1 x.2.1) zrl
noncomputable def zwz : Env U := { P := Tryz.prog, cd := cd, fns := fns149, lps := noL, frz := fun _r => false, nt := 51, n0 := 0 }
theorem z1lr (x : Int × Int × Unit) (g : Unit) : execF zwz Tryz.f150 (zw2.enc x) (bNil.enc g) = (zhn x.1 x.2.1).map zrl := by kernel_rfl
theorem z1e5 : FnOk Tryz.prog cd 150 z1ae := mk_ok (E := zwz) cd_ok z1ak Tryz.func150 (by kernel_rfl) (noLoops_body (by kernel_rfl)) (aO_ok (cInt_ok .u64) (aO_ok (cInt_ok .u64) (aNil_ok))) bNil_ok (T := fun x _ => zhn x.1 x.2.1) (fun _ _ => rfl) z1lr
noncomputable def fns150 := addF 150 true z1ae fns149
theorem z133 : ∀ f q t, fns150 f = some (q, t) → FnOk Tryz.prog cd f t := addF_ok z1e5 z1ak
noncomputable def zhx (x0 : Int) (x1 : Int) : Tree (Int × Int) :=
  .opt (Int × Int) (z14z x0 x1) fun r678 =>
    .leaf ((r678.1, r678.2))
noncomputable def z19w (x0 : Int) (x1 : Int) : Option (Int × Int) := (zhx x0 x1).run
noncomputable def z13h : Arg U (Int × Int × Unit) := aO (cInt .u64) (aO (cInt .u64) (aNil))
noncomputable def zys (r : (Int × Int)) : List (V U) × List (Blk U) := ([vO (cInt .u64) r.1, vO (cInt .u64) r.2], [])
noncomputable def zow : List (V U) → List (Blk U) → Option (FnOut U) := mkSpec z13h bNil (fun x _ => z19w x.1 x.2.1) zys
noncomputable def z146 : Env U := { P := Tryz.prog, cd := cd, fns := fns150, lps := noL, frz := fun _r => false, nt := 30, n0 := 0 }
theorem z1eg (x : Int × Int × Unit) (g : Unit) : execF z146 Tryz.f142 (z13h.enc x) (bNil.enc g) = (zhx x.1 x.2.1).map zys := by kernel_rfl
theorem z1dr : FnOk Tryz.prog cd 142 zow := mk_ok (E := z146) cd_ok z133 Tryz.func142 (by kernel_rfl) (noLoops_body (by kernel_rfl)) (aO_ok (cInt_ok .u64) (aO_ok (cInt_ok .u64) (aNil_ok))) bNil_ok (T := fun x _ => zhx x.1 x.2.1) (fun _ _ => rfl) z1eg
noncomputable def fns142 := addF 142 true zow fns150
theorem z15i : ∀ f q t, fns142 f = some (q, t) → FnOk Tryz.prog cd f t := addF_ok z1dr z133
structure z29 where
  t8 : Int
  b0 : (List (List UInt8))
noncomputable def zjn (s : z29) : Tree (z29 ⊕ (List (List UInt8))) :=
  .ite (decide (s.t8 < (s.b0.length : Int)))
    (.ite (decide (0 ≤ s.t8))
      (.ite (decide (s.t8 ≤ ((s.b0.length : Nat) : Int)))
        (.ite (decide (0 ≤ s.t8))
          (.ite (decide (s.t8 ≤ ((s.b0.length : Nat) : Int)))
            .fail
            .fail)
          .fail)
        .fail)
      .fail)
    (.leaf (.inr s.b0))
noncomputable def z9l (q : Option Nat) (s : z29) : Option (List (List UInt8)) := limQ q (fun s => (zjn s).run) s
theorem z1eu (k : Nat) (s : z29) : Le (z9l (some k) s) (z9l none s) := limQ_le (fun _ => Le.rfl) s
noncomputable def zgx (q : Option Nat) (x0 : (List (List UInt8))) (x1 : Int) : Tree (List (List UInt8)) :=
  .ite (decide (x1 < (0 : Int)))
    .fail
    (.opt (Int × Int) (z19w (IntKind.wrap .u64 (x0.length : Int)) (IntKind.wrap .u64 x1)) fun r679 =>
      .ite (decide ((0 : Int) < r679.1))
        .fail
        (.ite (decide ((9223372036854775807 : Int) < r679.2))
          .fail
          (.ite (decide (IntKind.wrap .i64 r679.2 = IntKind.wrap .i64 r679.2))
            (.ite (decide (0 ≤ IntKind.wrap .i64 r679.2))
              (.ite (decide ((16 : Int) * (IntKind.wrap .i64 r679.2) ≤ 281474976710656))
                (.opt (List (List UInt8)) (z9l q (z29.mk ((Nat.min x0.length (List.replicate (IntKind.wrap .i64 r679.2).toNat ([] : List UInt8)).length : Nat) : Int) (x0.take (List.replicate (IntKind.wrap .i64 r679.2).toNat ([] : List UInt8)).length ++ (List.replicate (IntKind.wrap .i64 r679.2).toNat ([] : List UInt8)).drop x0.length))) fun l680 =>
                  .leaf (l680))
                .fail)
              .fail)
            .fail)))
noncomputable def zfd (q : Option Nat) (x0 : (List (List UInt8))) (x1 : Int) : Option (List (List UInt8)) := (zgx q x0 x1).run
theorem z1fv (k : Nat) (x0 : (List (List UInt8))) (x1 : Int) : Le (zfd (some k) x0 x1) (zfd none x0 x1) := (TLe.ite TLe.rfl (TLe.opt Le.rfl fun _ => (TLe.ite TLe.rfl (TLe.ite TLe.rfl (TLe.ite (TLe.ite (TLe.ite (TLe.opt (z1eu k _) fun _ => TLe.rfl) TLe.rfl) TLe.rfl) TLe.rfl)))))
noncomputable def z156 : Arg U ((List (List UInt8)) × Int × Unit) := aO (cSl 9) (aO (cInt .i64) (aNil))
noncomputable def zu8 (r : (List (List UInt8))) : List (V U) × List (Blk U) := ([vO (cSl 9) r], [])
noncomputable def zi7 : List (V U) → List (Blk U) → Option (FnOut U) := mkSpec z156 bNil (fun x _ => zfd none x.1 x.2.1) zu8
noncomputable def z10q (x : (Unit) × (Int × Unit) × Unit) (g : (List (List UInt8)) × Unit) : z29 := z29.mk x.2.1.1 g.1
noncomputable def z11e : Tms U ((Unit) × (Int × Unit) × Unit) := tO 7 (cK (.row 0 0) (cUnit)) (tO 8 (cPair (cInt .i64) (cUnit)) (tNil))
noncomputable def z14c : Bls U ((List (List UInt8)) × Unit) := bRv 9 0 (bNil)
noncomputable def zlc (s : z29) : St U := { tm := [(7, .v (vO (cK (.row 0 0) (cUnit)) (()))), (8, .v (vO (cPair (cInt .i64) (cUnit)) (s.t8, ())))], hp := [.row 9 0 s.b0] }
noncomputable def zic (r : (List (List UInt8))) : Ex × St U := (.exit 0, { tm := [(7, .v (vO (cK (.row 0 0) (cUnit)) (())))], hp := [.row 9 0 r] })
noncomputable def zvo (r : (List (List UInt8))) : Tree (Ex × St U) := .leaf (zic r)
noncomputable def z18v : Hd := { keep := [7, 8], xkeep := [4, 7], own := false }
noncomputable def zch : Env U := { P := Tryz.prog, cd := cd, fns := fns142, lps := (addL 0 z18v (mkLoop z11e z14c z10q (z9l none) zvo) noL), frz := fun _r => false, nt := 48, n0 := 0 }
noncomputable def z12g : Code := (loopAt (Tryz.f123.body.getD .skip) 0 0).getD .skip
theorem z1cb (s : z29) : round zch z18v z12g 0 (zlc s) = (zjn s).map (sumE zlc zic) := by kernel_rfl
theorem z1i8 : LpOk zch z12g 0 := mkLoop_ok (A := z11e) (B := z14c) (f := z10q) (L := z9l none) (tO_ok (cK_ok cUnit_ok) (tO_ok (cPair_ok (cInt_ok .i64) cUnit_ok) tNil_ok)) (bRv_ok bNil_ok) (enc := zlc) (out := zvo) (outS := zic) (step := zjn) (fun _ => rfl) (fun _ _ => by kernel_rfl) (by kernel_rfl) (fun _ => rfl) z1cb
theorem z1cz (x : (List (List UInt8)) × Int × Unit) (g : Unit) : execF zch Tryz.f123 (z156.enc x) (bNil.enc g) = (zgx none x.1 x.2.1).map zu8 := by kernel_rfl
theorem z19e : FnOk Tryz.prog cd 123 zi7 := mk_ok (E := zch) cd_ok z15i Tryz.func123 (by kernel_rfl) (loops_of (addL_ok z1i8 noL_ok)) (aO_ok (cSl_ok 9) (aO_ok (cInt_ok .i64) (aNil_ok))) bNil_ok (T := fun x _ => zgx none x.1 x.2.1) (fun _ _ => rfl) z1cz
noncomputable def fns123 := addF 123 true zi7 fns142
theorem zoc : ∀ f q t, fns123 f = some (q, t) → FnOk Tryz.prog cd f t := addF_ok z19e z15i
noncomputable def zi4 (q : Option Nat) (x0 : Int) : Tree (Drive × Int) :=
  .ite (decide (x0 < (1 : Int)))
    (.leaf ((Drive.mk ([]) ([]), (2 : Int))))
    (.ite (decide ((256 : Int) < x0))
      (.leaf ((Drive.mk ([]) ([]), (2 : Int))))
      (.opt (List UInt8) (zik ([0] : List UInt8) (128 : Int)) fun r682 =>
        .opt (List (List UInt8)) (zfd q ([r682]) x0) fun r683 =>
          .leaf ((Drive.mk r683 ([]), (0 : Int)))))
noncomputable def zbs (q : Option Nat) (x0 : Int) : Option (Drive × Int) := (zi4 q x0).run
theorem z1ct (k : Nat) (x0 : Int) : Le (zbs (some k) x0) (zbs none x0) := (TLe.ite TLe.rfl (TLe.ite TLe.rfl (TLe.opt Le.rfl fun _ => (TLe.opt (z1fv k _ _) fun _ => TLe.rfl))))
noncomputable def z15n : Arg U (Int × Unit) := aO (cInt .i64) (aNil)
noncomputable def z110 (r : (Drive × Int)) : List (V U) × List (Blk U) := ([vA cDrive r.1, vO (cInt .i64) r.2], [])
noncomputable def z16o : List (V U) → List (Blk U) → Option (FnOut U) := mkSpec z15n bNil (fun x _ => zbs none x.1) z110
noncomputable def znf : Env U := { P := Tryz.prog, cd := cd, fns := (addF 123 false (frzSpec zi7) fns123), lps := noL, frz := fun _r => false, nt := 18, n0 := 0 }
theorem z1dg (x : Int × Unit) (g : Unit) : execF znf Tryz.f75 (z15n.enc x) (bNil.enc g) = (zi4 none x.1).map z110 := by kernel_rfl
theorem z1bo : FnOk Tryz.prog cd 75 z16o := mk_ok (E := znf) cd_ok (addF_ok (fnOk_frz cd_ok (mkSpec_out fun _ => rfl) z19e) zoc) Tryz.func75 (by kernel_rfl) (noLoops_body (by kernel_rfl)) (aO_ok (cInt_ok .i64) (aNil_ok)) bNil_ok (T := fun x _ => zi4 none x.1) (fun _ _ => rfl) z1dg
noncomputable def fns75 := addF 75 true z16o fns123
theorem zsk : ∀ f q t, fns75 f = some (q, t) → FnOk Tryz.prog cd f t := addF_ok z1bo zoc
end Go.Proofs.YtiafliookmnjoaaGreatDoor
namespace Go.Proofs
shelf_lay_g SlLaysE0.n41 Slgn 41 at Tryz 127 as Tryz.lays127
end Go.Proofs
namespace Go.Proofs.YtiafliookmnjoaaGreatDoor
open Go Go.Ab
theorem z10w : FnOk Tryz.prog cd 127 (cloneSpec 9 16) := clone_ok2 cd_ok Tryz.lays127 Tryz.func127 (by kernel_rfl) (by kernel_rfl) rfl rfl (by kernel_rfl)
end Go.Proofs.YtiafliookmnjoaaGreatDoor
namespace Go.Proofs
shelf_lay_g SlLaysE0.n41 Slgn 41 at Tryz 145 as Tryz.lays145
end Go.Proofs
namespace Go.Proofs.YtiafliookmnjoaaGreatDoor
open Go Go.Ab
theorem z1b2 : FnOk Tryz.prog cd 145 (cloneSpec 3 8) := clone_ok2 cd_ok Tryz.lays145 Tryz.func145 (by kernel_rfl) (by kernel_rfl) rfl rfl (by kernel_rfl)
noncomputable def zhj (x0 : Drive) : Tree Drive :=
  .opt (List (List UInt8)) (cloneF 16 x0.sectors) fun r687 =>
    .opt (List Int) (cloneF 8 x0.bad) fun r688 =>
      .leaf (Drive.mk r687 r688)
noncomputable def zn1 (x0 : Drive) : Option Drive := (zhj x0).run
noncomputable def zyv : Arg U (Drive × Unit) := aA cDrive (aNil)
noncomputable def zuh (r : Drive) : List (V U) × List (Blk U) := ([vA cDrive r], [])
noncomputable def zoo : List (V U) → List (Blk U) → Option (FnOut U) := mkSpec zyv bNil (fun x _ => zn1 x.1) zuh
noncomputable def zpr : Env U := { P := Tryz.prog, cd := cd, fns := (addF 145 false (cloneSpec 3 8) (addF 127 false (cloneSpec 9 16) fns75)), lps := noL, frz := fun _r => false, nt := 10, n0 := 0, fps := fun _r _i => bif Nat.beq _r 1 && Nat.beq _i 2 then .wr [] 2 else bif Nat.beq _r 1 && Nat.beq _i 3 then .rd [] else bif Nat.beq _r 1 && Nat.beq _i 4 then .rd [0] else .none }
theorem z1lp (x : Drive × Unit) (g : Unit) : execF zpr Tryz.f124 (zyv.enc x) (bNil.enc g) = (zhj x.1).map zuh := by kernel_rfl
theorem z1k5 : FnOk Tryz.prog cd 124 zoo := mk_ok (E := zpr) cd_ok (addF_ok z1b2 (addF_ok z10w zsk)) Tryz.func124 (by kernel_rfl) (noLoops_body (by kernel_rfl)) (aA_ok z1z (aNil_ok)) bNil_ok (T := fun x _ => zhj x.1) (fun _ _ => rfl) z1lp
noncomputable def fns124 := addF 124 true zoo fns75
theorem z19o : ∀ f q t, fns124 f = some (q, t) → FnOk Tryz.prog cd f t := addF_ok z1k5 zsk
noncomputable def zkg (x0 : Drive) : Tree Disk :=
  .opt Drive (zn1 x0) fun r689 =>
    .leaf (Disk.mk r689 false true false 0 0 0 0 0)
noncomputable def zox (x0 : Drive) : Option Disk := (zkg x0).run
noncomputable def z12l : Arg U (Drive × Unit) := aA cDrive (aNil)
noncomputable def z17y (r : Disk) : List (V U) × List (Blk U) := ([vA cDisk r], [])
noncomputable def z135 : List (V U) → List (Blk U) → Option (FnOut U) := mkSpec z12l bNil (fun x _ => zox x.1) z17y
noncomputable def z18o : Env U := { P := Tryz.prog, cd := cd, fns := fns124, lps := noL, frz := fun _r => false, nt := 6, n0 := 0 }
theorem z1dt (x : Drive × Unit) (g : Unit) : execF z18o Tryz.f76 (z12l.enc x) (bNil.enc g) = (zkg x.1).map z17y := by kernel_rfl
theorem z1b0 : FnOk Tryz.prog cd 76 z135 := mk_ok (E := z18o) cd_ok z19o Tryz.func76 (by kernel_rfl) (noLoops_body (by kernel_rfl)) (aA_ok z1z (aNil_ok)) bNil_ok (T := fun x _ => zkg x.1) (fun _ _ => rfl) z1dt
noncomputable def fns76 := addF 76 true z135 fns124
theorem z1a8 : ∀ f q t, fns76 f = some (q, t) → FnOk Tryz.prog cd f t := addF_ok z1b0 z19o
noncomputable def zkl (x0 : Int) : Tree (Clock × Int) :=
  .ite (decide (x0 < (1 : Int)))
    (.leaf ((Clock.mk false false 0 0, (2 : Int))))
    (.ite (decide ((65535 : Int) < x0))
      (.leaf ((Clock.mk false false 0 0, (2 : Int))))
      (.leaf ((Clock.mk false false x0 x0, (0 : Int)))))
noncomputable def zrf (x0 : Int) : Option (Clock × Int) := (zkl x0).run
noncomputable def z1ac : Arg U (Int × Unit) := aO (cInt .i64) (aNil)
noncomputable def zv1 (r : (Clock × Int)) : List (V U) × List (Blk U) := ([vA cClock r.1, vO (cInt .i64) r.2], [])
noncomputable def z18q : List (V U) → List (Blk U) → Option (FnOut U) := mkSpec z1ac bNil (fun x _ => zrf x.1) zv1
noncomputable def z187 : Env U := { P := Tryz.prog, cd := cd, fns := fns76, lps := noL, frz := fun _r => false, nt := 14, n0 := 0 }
theorem z1cw (x : Int × Unit) (g : Unit) : execF z187 Tryz.f77 (z1ac.enc x) (bNil.enc g) = (zkl x.1).map zv1 := by kernel_rfl
theorem z1ja : FnOk Tryz.prog cd 77 z18q := mk_ok (E := z187) cd_ok z1a8 Tryz.func77 (by kernel_rfl) (noLoops_body (by kernel_rfl)) (aO_ok (cInt_ok .i64) (aNil_ok)) bNil_ok (T := fun x _ => zkl x.1) (fun _ _ => rfl) z1cw
noncomputable def fns77 := addF 77 true z18q fns76
theorem z102 : ∀ f q t, fns77 f = some (q, t) → FnOk Tryz.prog cd f t := addF_ok z1ja z1a8
noncomputable def zh5 (q : Option Nat) (x0 : (List (List UInt8))) : Tree (Tape × Int) :=
  .ite (decide ((64 : Int) < (x0.length : Int)))
    (.leaf ((Tape.mk ([]) 0 false false false false false 0 0 0 0, (12 : Int))))
    (.opt Bool (z3g q x0) fun r690 =>
      .ite (r690)
        (.leaf ((Tape.mk ([]) 0 false false false false false 0 0 0 0, (7 : Int))))
        (.opt (List (List UInt8)) (cloneF 16 x0) fun r691 =>
          .leaf ((Tape.mk r691 0 false true false false false 0 0 0 0, (0 : Int)))))
noncomputable def zay (q : Option Nat) (x0 : (List (List UInt8))) : Option (Tape × Int) := (zh5 q x0).run
theorem z1d8 (k : Nat) (x0 : (List (List UInt8))) : Le (zay (some k) x0) (zay none x0) := (TLe.ite TLe.rfl (TLe.opt (z19l k _) fun _ => TLe.rfl))
noncomputable def zpy : Arg U ((List (List UInt8)) × Unit) := aO (cSl 9) (aNil)
noncomputable def z142 (r : (Tape × Int)) : List (V U) × List (Blk U) := ([vA cTape r.1, vO (cInt .i64) r.2], [])
noncomputable def zmb : List (V U) → List (Blk U) → Option (FnOut U) := mkSpec zpy bNil (fun x _ => zay none x.1) z142
noncomputable def z132 : Env U := { P := Tryz.prog, cd := cd, fns := (addF 127 false (cloneSpec 9 16) (addF 125 false (zk3) fns77)), lps := noL, frz := fun _r => false, nt := 14, n0 := 0 }
theorem z1f0 (x : (List (List UInt8)) × Unit) (g : Unit) : execF z132 Tryz.f78 (zpy.enc x) (bNil.enc g) = (zh5 none x.1).map z142 := by kernel_rfl
theorem z1ck : FnOk Tryz.prog cd 78 zmb := mk_ok (E := z132) cd_ok (addF_ok z10w (addF_ok z16j z102)) Tryz.func78 (by kernel_rfl) (noLoops_body (by kernel_rfl)) (aO_ok (cSl_ok 9) (aNil_ok)) bNil_ok (T := fun x _ => zh5 none x.1) (fun _ _ => rfl) z1f0
noncomputable def fns78 := addF 78 true zmb fns77
theorem z1aq : ∀ f q t, fns78 f = some (q, t) → FnOk Tryz.prog cd f t := addF_ok z1ck z102
noncomputable def zlj  : Tree Line :=
  .leaf (Line.mk false false false 0 false true 0 0 ([]))
noncomputable def z18x  : Option Line := (zlj ).run
noncomputable def zn8 : Arg U (Unit) := aNil
noncomputable def zvi (r : Line) : List (V U) × List (Blk U) := ([vA cLine r], [])
noncomputable def z16q : List (V U) → List (Blk U) → Option (FnOut U) := mkSpec zn8 bNil (fun x _ => z18x ) zvi
noncomputable def zuw : Env U := { P := Tryz.prog, cd := cd, fns := fns78, lps := noL, frz := fun _r => false, nt := 2, n0 := 0 }
theorem z1gy (x : Unit) (g : Unit) : execF zuw Tryz.f79 (zn8.enc x) (bNil.enc g) = (zlj ).map zvi := by kernel_rfl
theorem z1kz : FnOk Tryz.prog cd 79 z16q := mk_ok (E := zuw) cd_ok z1aq Tryz.func79 (by kernel_rfl) (noLoops_body (by kernel_rfl)) (aNil_ok) bNil_ok (T := fun x _ => zlj ) (fun _ _ => rfl) z1gy
noncomputable def fns79 := addF 79 true z16q fns78
theorem z1an : ∀ f q t, fns79 f = some (q, t) → FnOk Tryz.prog cd f t := addF_ok z1kz z1aq
structure z16 where
  t51 : Int
  t52 : Int
  b0_0 : (List Int)
  b0_1 : (List Int)
  b0_2 : Int
  b0_3 : Int
  b0_6 : Bool
  b0_7 : (List Page)
  b0_8 : Int
  b0_9 : Int
  b0_10 : Bool
  b0_11 : Bool
  b0_12 : Int
  b0_13 : Int
  b0_17 : Bool
  b0_18 : Bool
  b0_19 : Bool
  b0_20 : Int
  b0_21 : Int
  b0_22 : Int
  b0_23 : Int
  b0_24 : Int
  b0_26 : Int
  b0_27 : Bool
  b0_28 : Bool
  b0_29 : Bool
  b0_30 : Bool
  b0_31 : Bool
  b0_32 : Int
  b0_33 : Int
  b0_34 : Int
  b0_35 : Int
  b0_36 : Int
  b0_37 : Bool
  b0_38 : Bool
  b0_39 : Int
  b0_40 : Bool
  b1_0 : (List Int)
  b1_1 : (List Int)
  b1_2 : Int
  b1_3 : Int
  b1_4 : (List Int)
  b1_6 : Bool
  b1_7 : (List Page)
  b1_8 : Int
  b1_9 : Int
  b1_10 : Bool
  b1_11 : Bool
  b1_12 : Int
  b1_13 : Int
  b1_15 : (List (List UInt8))
  b1_16 : (List Int)
  b1_17 : Bool
  b1_18 : Bool
  b1_19 : Bool
  b1_20 : Int
  b1_21 : Int
  b1_22 : Int
  b1_23 : Int
  b1_24 : Int
  b1_25 : (List (List UInt8))
  b1_26 : Int
  b1_27 : Bool
  b1_28 : Bool
  b1_29 : Bool
  b1_30 : Bool
  b1_31 : Bool
  b1_32 : Int
  b1_33 : Int
  b1_34 : Int
  b1_35 : Int
  b1_36 : Int
  b1_37 : Bool
  b1_38 : Bool
  b1_39 : Int
  b1_40 : Bool
  b2 : (List Int)
  b3 : (List Int)
  b4 : (List Line)
  b5 : (List (List UInt8))
  b6 : (List Int)
  b7 : (List (List UInt8))
  b8 : (List Int)
  b9 : (List Line)
noncomputable def zjl (s : z16) : Tree (z16 ⊕ ((List Int) × (List Int) × Int × Int × Bool × (List Page) × Int × Int × Bool × Bool × Int × Int × Bool × Bool × Bool × Int × Int × Int × Int × Int × Int × Bool × Bool × Bool × Bool × Bool × Int × Int × Int × Int × Int × Bool × Bool × Int × Bool × (List Int) × (List Int) × Int × Int × (List Int) × Bool × (List Page) × Int × Int × Bool × Bool × Int × Int × (List (List UInt8)) × (List Int) × Bool × Bool × Bool × Int × Int × Int × Int × Int × (List (List UInt8)) × Int × Bool × Bool × Bool × Bool × Bool × Int × Int × Int × Int × Int × Bool × Bool × Int × Bool × (List Int) × (List Int) × (List Line) × (List (List UInt8)) × (List Int) × (List (List UInt8)) × (List Int) × (List Line))) :=
  .ite (decide (s.t52 < s.t51))
    (.opt Line (z18x) fun r697 =>
      .ite (decide ((s.b9.length + ([r697]).length) * 56 ≤ 140737488355328))
        (.leaf (.inl (z16.mk s.t51 (IntKind.wrap .i64 (s.t52 + (1 : Int))) s.b0_0 s.b0_1 s.b0_2 s.b0_3 s.b0_6 s.b0_7 s.b0_8 s.b0_9 s.b0_10 s.b0_11 s.b0_12 s.b0_13 s.b0_17 s.b0_18 s.b0_19 s.b0_20 s.b0_21 s.b0_22 s.b0_23 s.b0_24 s.b0_26 s.b0_27 s.b0_28 s.b0_29 s.b0_30 s.b0_31 s.b0_32 s.b0_33 s.b0_34 s.b0_35 s.b0_36 s.b0_37 s.b0_38 s.b0_39 s.b0_40 s.b1_0 s.b1_1 s.b1_2 s.b1_3 s.b1_4 s.b1_6 s.b1_7 s.b1_8 s.b1_9 s.b1_10 s.b1_11 s.b1_12 s.b1_13 s.b1_15 s.b1_16 s.b1_17 s.b1_18 s.b1_19 s.b1_20 s.b1_21 s.b1_22 s.b1_23 s.b1_24 s.b1_25 s.b1_26 s.b1_27 s.b1_28 s.b1_29 s.b1_30 s.b1_31 s.b1_32 s.b1_33 s.b1_34 s.b1_35 s.b1_36 s.b1_37 s.b1_38 s.b1_39 s.b1_40 s.b2 s.b3 s.b4 s.b5 s.b6 s.b7 s.b8 (s.b9 ++ ([r697])))))
        .fail)
    (.leaf (.inr (s.b0_0, s.b0_1, s.b0_2, s.b0_3, s.b0_6, s.b0_7, s.b0_8, s.b0_9, s.b0_10, s.b0_11, s.b0_12, s.b0_13, s.b0_17, s.b0_18, s.b0_19, s.b0_20, s.b0_21, s.b0_22, s.b0_23, s.b0_24, s.b0_26, s.b0_27, s.b0_28, s.b0_29, s.b0_30, s.b0_31, s.b0_32, s.b0_33, s.b0_34, s.b0_35, s.b0_36, s.b0_37, s.b0_38, s.b0_39, s.b0_40, s.b1_0, s.b1_1, s.b1_2, s.b1_3, s.b1_4, s.b1_6, s.b1_7, s.b1_8, s.b1_9, s.b1_10, s.b1_11, s.b1_12, s.b1_13, s.b1_15, s.b1_16, s.b1_17, s.b1_18, s.b1_19, s.b1_20, s.b1_21, s.b1_22, s.b1_23, s.b1_24, s.b1_25, s.b1_26, s.b1_27, s.b1_28, s.b1_29, s.b1_30, s.b1_31, s.b1_32, s.b1_33, s.b1_34, s.b1_35, s.b1_36, s.b1_37, s.b1_38, s.b1_39, s.b1_40, s.b2, s.b3, s.b4, s.b5, s.b6, s.b7, s.b8, s.b9)))
noncomputable def z8l (q : Option Nat) (s : z16) : Option ((List Int) × (List Int) × Int × Int × Bool × (List Page) × Int × Int × Bool × Bool × Int × Int × Bool × Bool × Bool × Int × Int × Int × Int × Int × Int × Bool × Bool × Bool × Bool × Bool × Int × Int × Int × Int × Int × Bool × Bool × Int × Bool × (List Int) × (List Int) × Int × Int × (List Int) × Bool × (List Page) × Int × Int × Bool × Bool × Int × Int × (List (List UInt8)) × (List Int) × Bool × Bool × Bool × Int × Int × Int × Int × Int × (List (List UInt8)) × Int × Bool × Bool × Bool × Bool × Bool × Int × Int × Int × Int × Int × Bool × Bool × Int × Bool × (List Int) × (List Int) × (List Line) × (List (List UInt8)) × (List Int) × (List (List UInt8)) × (List Int) × (List Line)) := limQ q (fun s => (zjl s).run) s
theorem z1eq (k : Nat) (s : z16) : Le (z8l (some k) s) (z8l none s) := limQ_le (fun _ => Le.rfl) s
noncomputable def zlm (q : Option Nat) (x0 : Int) (x1 : Int) (x2 : Int) : Tree (Machine × Int) :=
  .opt ((List Int) × Int) (z13w x0) fun r692 =>
    .ite (!decide (r692.2 = (0 : Int)))
      (.leaf ((Machine.mk (Cpu.mk (List.replicate 6 (0 : Int)) (List.replicate 2 (0 : Int)) 0 0) ([]) ([]) (Mmu.mk false (List.replicate 16 (Page.mk (0 : Int) (0 : Int) (0 : Int) false)) 0 0) (Clock.mk false false 0 0) ([]) (Disk.mk (Drive.mk ([]) ([])) false false false 0 0 0 0 0) (Tape.mk ([]) 0 false false false false false 0 0 0 0) 0 false false 0 false, r692.2)))
      (.ite (decide (x1 < (0 : Int)))
        (.leaf ((Machine.mk (Cpu.mk (List.replicate 6 (0 : Int)) (List.replicate 2 (0 : Int)) 0 0) ([]) ([]) (Mmu.mk false (List.replicate 16 (Page.mk (0 : Int) (0 : Int) (0 : Int) false)) 0 0) (Clock.mk false false 0 0) ([]) (Disk.mk (Drive.mk ([]) ([])) false false false 0 0 0 0 0) (Tape.mk ([]) 0 false false false false false 0 0 0 0) 0 false false 0 false, (2 : Int))))
        (.ite (decide ((4 : Int) < x1))
          (.leaf ((Machine.mk (Cpu.mk (List.replicate 6 (0 : Int)) (List.replicate 2 (0 : Int)) 0 0) ([]) ([]) (Mmu.mk false (List.replicate 16 (Page.mk (0 : Int) (0 : Int) (0 : Int) false)) 0 0) (Clock.mk false false 0 0) ([]) (Disk.mk (Drive.mk ([]) ([])) false false false 0 0 0 0 0) (Tape.mk ([]) 0 false false false false false 0 0 0 0) 0 false false 0 false, (2 : Int))))
          (.opt (Drive × Int) (zbs q x2) fun r693 =>
            .ite (!decide (r693.2 = (0 : Int)))
              (.leaf ((Machine.mk (Cpu.mk (List.replicate 6 (0 : Int)) (List.replicate 2 (0 : Int)) 0 0) ([]) ([]) (Mmu.mk false (List.replicate 16 (Page.mk (0 : Int) (0 : Int) (0 : Int) false)) 0 0) (Clock.mk false false 0 0) ([]) (Disk.mk (Drive.mk ([]) ([])) false false false 0 0 0 0 0) (Tape.mk ([]) 0 false false false false false 0 0 0 0) 0 false false 0 false, r693.2)))
              (.opt Disk (zox r693.1) fun r694 =>
                .opt (Clock × Int) (zrf (100 : Int)) fun r695 =>
                  .opt (Tape × Int) (zay q ([])) fun r696 =>
                    .opt ((List Int) × (List Int) × Int × Int × Bool × (List Page) × Int × Int × Bool × Bool × Int × Int × Bool × Bool × Bool × Int × Int × Int × Int × Int × Int × Bool × Bool × Bool × Bool × Bool × Int × Int × Int × Int × Int × Bool × Bool × Int × Bool × (List Int) × (List Int) × Int × Int × (List Int) × Bool × (List Page) × Int × Int × Bool × Bool × Int × Int × (List (List UInt8)) × (List Int) × Bool × Bool × Bool × Int × Int × Int × Int × Int × (List (List UInt8)) × Int × Bool × Bool × Bool × Bool × Bool × Int × Int × Int × Int × Int × Bool × Bool × Int × Bool × (List Int) × (List Int) × (List Line) × (List (List UInt8)) × (List Int) × (List (List UInt8)) × (List Int) × (List Line)) (z8l q (z16.mk x1 (0 : Int) (List.replicate 6 (0 : Int)) (List.replicate 2 (0 : Int)) 0 0 false (List.replicate 16 (Page.mk (0 : Int) (0 : Int) (0 : Int) false)) 0 0 false false 0 0 false false false 0 0 0 0 0 0 false false false false false 0 0 0 0 0 false false 0 false (List.replicate 6 (0 : Int)) (List.replicate 2 (0 : Int)) 0 0 r692.1 false (List.replicate 16 (Page.mk (0 : Int) (0 : Int) (0 : Int) false)) 0 0 r695.1.enable r695.1.ready r695.1.period r695.1.left r694.drive.sectors r694.drive.bad r694.enable r694.ready r694.error r694.command r694.words r694.addr r694.start r694.left r696.1.records r696.1.pos r696.1.enable r696.1.ready r696.1.error r696.1.mark r696.1.end_ r696.1.command r696.1.count r696.1.addr r696.1.left 0 false false 0 false ([]) ([]) ([]) ([]) ([]) ([]) ([]) ([]))) fun l698 =>
                      .leaf ((Machine.mk (Cpu.mk l698.2.2.2.2.2.2.2.2.2.2.2.2.2.2.2.2.2.2.2.2.2.2.2.2.2.2.2.2.2.2.2.2.2.2.2.1 l698.2.2.2.2.2.2.2.2.2.2.2.2.2.2.2.2.2.2.2.2.2.2.2.2.2.2.2.2.2.2.2.2.2.2.2.2.1 l698.2.2.2.2.2.2.2.2.2.2.2.2.2.2.2.2.2.2.2.2.2.2.2.2.2.2.2.2.2.2.2.2.2.2.2.2.2.1 l698.2.2.2.2.2.2.2.2.2.2.2.2.2.2.2.2.2.2.2.2.2.2.2.2.2.2.2.2.2.2.2.2.2.2.2.2.2.2.1) l698.2.2.2.2.2.2.2.2.2.2.2.2.2.2.2.2.2.2.2.2.2.2.2.2.2.2.2.2.2.2.2.2.2.2.2.2.2.2.2.1 l698.2.2.2.2.2.2.2.2.2.2.2.2.2.2.2.2.2.2.2.2.2.2.2.2.2.2.2.2.2.2.2.2.2.2.2.2.2.2.2.2.2.2.2.2.2.2.2.2.2.2.2.2.2.2.2.2.2.2.2.2.2.2.2.2.2.2.2.2.2.2.2.2.2.2.2.2.2.2.2.2.1 (Mmu.mk l698.2.2.2.2.2.2.2.2.2.2.2.2.2.2.2.2.2.2.2.2.2.2.2.2.2.2.2.2.2.2.2.2.2.2.2.2.2.2.2.2.1 l698.2.2.2.2.2.2.2.2.2.2.2.2.2.2.2.2.2.2.2.2.2.2.2.2.2.2.2.2.2.2.2.2.2.2.2.2.2.2.2.2.2.1 l698.2.2.2.2.2.2.2.2.2.2.2.2.2.2.2.2.2.2.2.2.2.2.2.2.2.2.2.2.2.2.2.2.2.2.2.2.2.2.2.2.2.2.1 l698.2.2.2.2.2.2.2.2.2.2.2.2.2.2.2.2.2.2.2.2.2.2.2.2.2.2.2.2.2.2.2.2.2.2.2.2.2.2.2.2.2.2.2.1) (Clock.mk l698.2.2.2.2.2.2.2.2.2.2.2.2.2.2.2.2.2.2.2.2.2.2.2.2.2.2.2.2.2.2.2.2.2.2.2.2.2.2.2.2.2.2.2.2.1 l698.2.2.2.2.2.2.2.2.2.2.2.2.2.2.2.2.2.2.2.2.2.2.2.2.2.2.2.2.2.2.2.2.2.2.2.2.2.2.2.2.2.2.2.2.2.1 l698.2.2.2.2.2.2.2.2.2.2.2.2.2.2.2.2.2.2.2.2.2.2.2.2.2.2.2.2.2.2.2.2.2.2.2.2.2.2.2.2.2.2.2.2.2.2.1 l698.2.2.2.2.2.2.2.2.2.2.2.2.2.2.2.2.2.2.2.2.2.2.2.2.2.2.2.2.2.2.2.2.2.2.2.2.2.2.2.2.2.2.2.2.2.2.2.1) l698.2.2.2.2.2.2.2.2.2.2.2.2.2.2.2.2.2.2.2.2.2.2.2.2.2.2.2.2.2.2.2.2.2.2.2.2.2.2.2.2.2.2.2.2.2.2.2.2.2.2.2.2.2.2.2.2.2.2.2.2.2.2.2.2.2.2.2.2.2.2.2.2.2.2.2.2.2.2.2.2.2 (Disk.mk (Drive.mk l698.2.2.2.2.2.2.2.2.2.2.2.2.2.2.2.2.2.2.2.2.2.2.2.2.2.2.2.2.2.2.2.2.2.2.2.2.2.2.2.2.2.2.2.2.2.2.2.2.1 l698.2.2.2.2.2.2.2.2.2.2.2.2.2.2.2.2.2.2.2.2.2.2.2.2.2.2.2.2.2.2.2.2.2.2.2.2.2.2.2.2.2.2.2.2.2.2.2.2.2.1) l698.2.2.2.2.2.2.2.2.2.2.2.2.2.2.2.2.2.2.2.2.2.2.2.2.2.2.2.2.2.2.2.2.2.2.2.2.2.2.2.2.2.2.2.2.2.2.2.2.2.2.1 l698.2.2.2.2.2.2.2.2.2.2.2.2.2.2.2.2.2.2.2.2.2.2.2.2.2.2.2.2.2.2.2.2.2.2.2.2.2.2.2.2.2.2.2.2.2.2.2.2.2.2.2.1 l698.2.2.2.2.2.2.2.2.2.2.2.2.2.2.2.2.2.2.2.2.2.2.2.2.2.2.2.2.2.2.2.2.2.2.2.2.2.2.2.2.2.2.2.2.2.2.2.2.2.2.2.2.1 l698.2.2.2.2.2.2.2.2.2.2.2.2.2.2.2.2.2.2.2.2.2.2.2.2.2.2.2.2.2.2.2.2.2.2.2.2.2.2.2.2.2.2.2.2.2.2.2.2.2.2.2.2.2.1 l698.2.2.2.2.2.2.2.2.2.2.2.2.2.2.2.2.2.2.2.2.2.2.2.2.2.2.2.2.2.2.2.2.2.2.2.2.2.2.2.2.2.2.2.2.2.2.2.2.2.2.2.2.2.2.1 l698.2.2.2.2.2.2.2.2.2.2.2.2.2.2.2.2.2.2.2.2.2.2.2.2.2.2.2.2.2.2.2.2.2.2.2.2.2.2.2.2.2.2.2.2.2.2.2.2.2.2.2.2.2.2.2.1 l698.2.2.2.2.2.2.2.2.2.2.2.2.2.2.2.2.2.2.2.2.2.2.2.2.2.2.2.2.2.2.2.2.2.2.2.2.2.2.2.2.2.2.2.2.2.2.2.2.2.2.2.2.2.2.2.2.1 l698.2.2.2.2.2.2.2.2.2.2.2.2.2.2.2.2.2.2.2.2.2.2.2.2.2.2.2.2.2.2.2.2.2.2.2.2.2.2.2.2.2.2.2.2.2.2.2.2.2.2.2.2.2.2.2.2.2.1) (Tape.mk l698.2.2.2.2.2.2.2.2.2.2.2.2.2.2.2.2.2.2.2.2.2.2.2.2.2.2.2.2.2.2.2.2.2.2.2.2.2.2.2.2.2.2.2.2.2.2.2.2.2.2.2.2.2.2.2.2.2.2.1 l698.2.2.2.2.2.2.2.2.2.2.2.2.2.2.2.2.2.2.2.2.2.2.2.2.2.2.2.2.2.2.2.2.2.2.2.2.2.2.2.2.2.2.2.2.2.2.2.2.2.2.2.2.2.2.2.2.2.2.2.1 l698.2.2.2.2.2.2.2.2.2.2.2.2.2.2.2.2.2.2.2.2.2.2.2.2.2.2.2.2.2.2.2.2.2.2.2.2.2.2.2.2.2.2.2.2.2.2.2.2.2.2.2.2.2.2.2.2.2.2.2.2.1 l698.2.2.2.2.2.2.2.2.2.2.2.2.2.2.2.2.2.2.2.2.2.2.2.2.2.2.2.2.2.2.2.2.2.2.2.2.2.2.2.2.2.2.2.2.2.2.2.2.2.2.2.2.2.2.2.2.2.2.2.2.2.1 l698.2.2.2.2.2.2.2.2.2.2.2.2.2.2.2.2.2.2.2.2.2.2.2.2.2.2.2.2.2.2.2.2.2.2.2.2.2.2.2.2.2.2.2.2.2.2.2.2.2.2.2.2.2.2.2.2.2.2.2.2.2.2.1 l698.2.2.2.2.2.2.2.2.2.2.2.2.2.2.2.2.2.2.2.2.2.2.2.2.2.2.2.2.2.2.2.2.2.2.2.2.2.2.2.2.2.2.2.2.2.2.2.2.2.2.2.2.2.2.2.2.2.2.2.2.2.2.2.1 l698.2.2.2.2.2.2.2.2.2.2.2.2.2.2.2.2.2.2.2.2.2.2.2.2.2.2.2.2.2.2.2.2.2.2.2.2.2.2.2.2.2.2.2.2.2.2.2.2.2.2.2.2.2.2.2.2.2.2.2.2.2.2.2.2.1 l698.2.2.2.2.2.2.2.2.2.2.2.2.2.2.2.2.2.2.2.2.2.2.2.2.2.2.2.2.2.2.2.2.2.2.2.2.2.2.2.2.2.2.2.2.2.2.2.2.2.2.2.2.2.2.2.2.2.2.2.2.2.2.2.2.2.1 l698.2.2.2.2.2.2.2.2.2.2.2.2.2.2.2.2.2.2.2.2.2.2.2.2.2.2.2.2.2.2.2.2.2.2.2.2.2.2.2.2.2.2.2.2.2.2.2.2.2.2.2.2.2.2.2.2.2.2.2.2.2.2.2.2.2.2.1 l698.2.2.2.2.2.2.2.2.2.2.2.2.2.2.2.2.2.2.2.2.2.2.2.2.2.2.2.2.2.2.2.2.2.2.2.2.2.2.2.2.2.2.2.2.2.2.2.2.2.2.2.2.2.2.2.2.2.2.2.2.2.2.2.2.2.2.2.1 l698.2.2.2.2.2.2.2.2.2.2.2.2.2.2.2.2.2.2.2.2.2.2.2.2.2.2.2.2.2.2.2.2.2.2.2.2.2.2.2.2.2.2.2.2.2.2.2.2.2.2.2.2.2.2.2.2.2.2.2.2.2.2.2.2.2.2.2.2.1) l698.2.2.2.2.2.2.2.2.2.2.2.2.2.2.2.2.2.2.2.2.2.2.2.2.2.2.2.2.2.2.2.2.2.2.2.2.2.2.2.2.2.2.2.2.2.2.2.2.2.2.2.2.2.2.2.2.2.2.2.2.2.2.2.2.2.2.2.2.2.1 l698.2.2.2.2.2.2.2.2.2.2.2.2.2.2.2.2.2.2.2.2.2.2.2.2.2.2.2.2.2.2.2.2.2.2.2.2.2.2.2.2.2.2.2.2.2.2.2.2.2.2.2.2.2.2.2.2.2.2.2.2.2.2.2.2.2.2.2.2.2.2.1 l698.2.2.2.2.2.2.2.2.2.2.2.2.2.2.2.2.2.2.2.2.2.2.2.2.2.2.2.2.2.2.2.2.2.2.2.2.2.2.2.2.2.2.2.2.2.2.2.2.2.2.2.2.2.2.2.2.2.2.2.2.2.2.2.2.2.2.2.2.2.2.2.1 l698.2.2.2.2.2.2.2.2.2.2.2.2.2.2.2.2.2.2.2.2.2.2.2.2.2.2.2.2.2.2.2.2.2.2.2.2.2.2.2.2.2.2.2.2.2.2.2.2.2.2.2.2.2.2.2.2.2.2.2.2.2.2.2.2.2.2.2.2.2.2.2.2.1 l698.2.2.2.2.2.2.2.2.2.2.2.2.2.2.2.2.2.2.2.2.2.2.2.2.2.2.2.2.2.2.2.2.2.2.2.2.2.2.2.2.2.2.2.2.2.2.2.2.2.2.2.2.2.2.2.2.2.2.2.2.2.2.2.2.2.2.2.2.2.2.2.2.2.1, (0 : Int)))))))
noncomputable def z9s (q : Option Nat) (x0 : Int) (x1 : Int) (x2 : Int) : Option (Machine × Int) := (zlm q x0 x1 x2).run
theorem z1dq (k : Nat) (x0 : Int) (x1 : Int) (x2 : Int) : Le (z9s (some k) x0 x1 x2) (z9s none x0 x1 x2) := (TLe.opt Le.rfl fun _ => (TLe.ite TLe.rfl (TLe.ite TLe.rfl (TLe.ite TLe.rfl (TLe.opt (z1ct k _) fun _ => (TLe.ite TLe.rfl (TLe.opt Le.rfl fun _ => (TLe.opt Le.rfl fun _ => (TLe.opt (z1d8 k _) fun _ => (TLe.opt (z1eq k _) fun _ => TLe.rfl))))))))))
noncomputable def zps : Arg U (Int × Int × Int × Unit) := aO (cInt .i64) (aO (cInt .i64) (aO (cInt .i64) (aNil)))
noncomputable def z12r (r : (Machine × Int)) : List (V U) × List (Blk U) := ([vA cMachine r.1, vO (cInt .i64) r.2], [])
noncomputable def z166 : List (V U) → List (Blk U) → Option (FnOut U) := mkSpec zps bNil (fun x _ => z9s none x.1 x.2.1 x.2.2.1) z12r
noncomputable def zyr (x : (Unit) × (Unit) × (Int × Unit) × (Int × Unit) × Unit) (g : ((List Int) × (List Int) × Int × Int × Bool × (List Page) × Int × Int × Bool × Bool × Int × Int × Bool × Bool × Bool × Int × Int × Int × Int × Int × Int × Bool × Bool × Bool × Bool × Bool × Int × Int × Int × Int × Int × Bool × Bool × Int × Bool × Unit) × ((List Int) × (List Int) × Int × Int × (List Int) × Bool × (List Page) × Int × Int × Bool × Bool × Int × Int × (List (List UInt8)) × (List Int) × Bool × Bool × Bool × Int × Int × Int × Int × Int × (List (List UInt8)) × Int × Bool × Bool × Bool × Bool × Bool × Int × Int × Int × Int × Int × Bool × Bool × Int × Bool × Unit) × (List Int) × (List Int) × (List Line) × (List (List UInt8)) × (List Int) × (List (List UInt8)) × (List Int) × (List Line) × Unit) : z16 := z16.mk x.2.2.1.1 x.2.2.2.1.1 g.1.1 g.1.2.1 g.1.2.2.1 g.1.2.2.2.1 g.1.2.2.2.2.1 g.1.2.2.2.2.2.1 g.1.2.2.2.2.2.2.1 g.1.2.2.2.2.2.2.2.1 g.1.2.2.2.2.2.2.2.2.1 g.1.2.2.2.2.2.2.2.2.2.1 g.1.2.2.2.2.2.2.2.2.2.2.1 g.1.2.2.2.2.2.2.2.2.2.2.2.1 g.1.2.2.2.2.2.2.2.2.2.2.2.2.1 g.1.2.2.2.2.2.2.2.2.2.2.2.2.2.1 g.1.2.2.2.2.2.2.2.2.2.2.2.2.2.2.1 g.1.2.2.2.2.2.2.2.2.2.2.2.2.2.2.2.1 g.1.2.2.2.2.2.2.2.2.2.2.2.2.2.2.2.2.1 g.1.2.2.2.2.2.2.2.2.2.2.2.2.2.2.2.2.2.1 g.1.2.2.2.2.2.2.2.2.2.2.2.2.2.2.2.2.2.2.1 g.1.2.2.2.2.2.2.2.2.2.2.2.2.2.2.2.2.2.2.2.1 g.1.2.2.2.2.2.2.2.2.2.2.2.2.2.2.2.2.2.2.2.2.1 g.1.2.2.2.2.2.2.2.2.2.2.2.2.2.2.2.2.2.2.2.2.2.1 g.1.2.2.2.2.2.2.2.2.2.2.2.2.2.2.2.2.2.2.2.2.2.2.1 g.1.2.2.2.2.2.2.2.2.2.2.2.2.2.2.2.2.2.2.2.2.2.2.2.1 g.1.2.2.2.2.2.2.2.2.2.2.2.2.2.2.2.2.2.2.2.2.2.2.2.2.1 g.1.2.2.2.2.2.2.2.2.2.2.2.2.2.2.2.2.2.2.2.2.2.2.2.2.2.1 g.1.2.2.2.2.2.2.2.2.2.2.2.2.2.2.2.2.2.2.2.2.2.2.2.2.2.2.1 g.1.2.2.2.2.2.2.2.2.2.2.2.2.2.2.2.2.2.2.2.2.2.2.2.2.2.2.2.1 g.1.2.2.2.2.2.2.2.2.2.2.2.2.2.2.2.2.2.2.2.2.2.2.2.2.2.2.2.2.1 g.1.2.2.2.2.2.2.2.2.2.2.2.2.2.2.2.2.2.2.2.2.2.2.2.2.2.2.2.2.2.1 g.1.2.2.2.2.2.2.2.2.2.2.2.2.2.2.2.2.2.2.2.2.2.2.2.2.2.2.2.2.2.2.1 g.1.2.2.2.2.2.2.2.2.2.2.2.2.2.2.2.2.2.2.2.2.2.2.2.2.2.2.2.2.2.2.2.1 g.1.2.2.2.2.2.2.2.2.2.2.2.2.2.2.2.2.2.2.2.2.2.2.2.2.2.2.2.2.2.2.2.2.1 g.1.2.2.2.2.2.2.2.2.2.2.2.2.2.2.2.2.2.2.2.2.2.2.2.2.2.2.2.2.2.2.2.2.2.1 g.1.2.2.2.2.2.2.2.2.2.2.2.2.2.2.2.2.2.2.2.2.2.2.2.2.2.2.2.2.2.2.2.2.2.2.1 g.2.1.1 g.2.1.2.1 g.2.1.2.2.1 g.2.1.2.2.2.1 g.2.1.2.2.2.2.1 g.2.1.2.2.2.2.2.1 g.2.1.2.2.2.2.2.2.1 g.2.1.2.2.2.2.2.2.2.1 g.2.1.2.2.2.2.2.2.2.2.1 g.2.1.2.2.2.2.2.2.2.2.2.1 g.2.1.2.2.2.2.2.2.2.2.2.2.1 g.2.1.2.2.2.2.2.2.2.2.2.2.2.1 g.2.1.2.2.2.2.2.2.2.2.2.2.2.2.1 g.2.1.2.2.2.2.2.2.2.2.2.2.2.2.2.1 g.2.1.2.2.2.2.2.2.2.2.2.2.2.2.2.2.1 g.2.1.2.2.2.2.2.2.2.2.2.2.2.2.2.2.2.1 g.2.1.2.2.2.2.2.2.2.2.2.2.2.2.2.2.2.2.1 g.2.1.2.2.2.2.2.2.2.2.2.2.2.2.2.2.2.2.2.1 g.2.1.2.2.2.2.2.2.2.2.2.2.2.2.2.2.2.2.2.2.1 g.2.1.2.2.2.2.2.2.2.2.2.2.2.2.2.2.2.2.2.2.2.1 g.2.1.2.2.2.2.2.2.2.2.2.2.2.2.2.2.2.2.2.2.2.2.1 g.2.1.2.2.2.2.2.2.2.2.2.2.2.2.2.2.2.2.2.2.2.2.2.1 g.2.1.2.2.2.2.2.2.2.2.2.2.2.2.2.2.2.2.2.2.2.2.2.2.1 g.2.1.2.2.2.2.2.2.2.2.2.2.2.2.2.2.2.2.2.2.2.2.2.2.2.1 g.2.1.2.2.2.2.2.2.2.2.2.2.2.2.2.2.2.2.2.2.2.2.2.2.2.2.1 g.2.1.2.2.2.2.2.2.2.2.2.2.2.2.2.2.2.2.2.2.2.2.2.2.2.2.2.1 g.2.1.2.2.2.2.2.2.2.2.2.2.2.2.2.2.2.2.2.2.2.2.2.2.2.2.2.2.1 g.2.1.2.2.2.2.2.2.2.2.2.2.2.2.2.2.2.2.2.2.2.2.2.2.2.2.2.2.2.1 g.2.1.2.2.2.2.2.2.2.2.2.2.2.2.2.2.2.2.2.2.2.2.2.2.2.2.2.2.2.2.1 g.2.1.2.2.2.2.2.2.2.2.2.2.2.2.2.2.2.2.2.2.2.2.2.2.2.2.2.2.2.2.2.1 g.2.1.2.2.2.2.2.2.2.2.2.2.2.2.2.2.2.2.2.2.2.2.2.2.2.2.2.2.2.2.2.2.1 g.2.1.2.2.2.2.2.2.2.2.2.2.2.2.2.2.2.2.2.2.2.2.2.2.2.2.2.2.2.2.2.2.2.1 g.2.1.2.2.2.2.2.2.2.2.2.2.2.2.2.2.2.2.2.2.2.2.2.2.2.2.2.2.2.2.2.2.2.2.1 g.2.1.2.2.2.2.2.2.2.2.2.2.2.2.2.2.2.2.2.2.2.2.2.2.2.2.2.2.2.2.2.2.2.2.2.1 g.2.1.2.2.2.2.2.2.2.2.2.2.2.2.2.2.2.2.2.2.2.2.2.2.2.2.2.2.2.2.2.2.2.2.2.2.1 g.2.1.2.2.2.2.2.2.2.2.2.2.2.2.2.2.2.2.2.2.2.2.2.2.2.2.2.2.2.2.2.2.2.2.2.2.2.1 g.2.1.2.2.2.2.2.2.2.2.2.2.2.2.2.2.2.2.2.2.2.2.2.2.2.2.2.2.2.2.2.2.2.2.2.2.2.2.1 g.2.1.2.2.2.2.2.2.2.2.2.2.2.2.2.2.2.2.2.2.2.2.2.2.2.2.2.2.2.2.2.2.2.2.2.2.2.2.2.1 g.2.1.2.2.2.2.2.2.2.2.2.2.2.2.2.2.2.2.2.2.2.2.2.2.2.2.2.2.2.2.2.2.2.2.2.2.2.2.2.2.1 g.2.2.1 g.2.2.2.1 g.2.2.2.2.1 g.2.2.2.2.2.1 g.2.2.2.2.2.2.1 g.2.2.2.2.2.2.2.1 g.2.2.2.2.2.2.2.2.1 g.2.2.2.2.2.2.2.2.2.1
noncomputable def zsa : Tms U ((Unit) × (Unit) × (Int × Unit) × (Int × Unit) × Unit) := tO 6 (cK (.ptr 0 0) (cUnit)) (tO 11 (cK (.ptr 1 0) (cUnit)) (tO 51 (cPair (cInt .i64) (cUnit)) (tO 52 (cPair (cInt .i64) (cUnit)) (tNil))))
noncomputable def zp8 : Bls U (((List Int) × (List Int) × Int × Int × Bool × (List Page) × Int × Int × Bool × Bool × Int × Int × Bool × Bool × Bool × Int × Int × Int × Int × Int × Int × Bool × Bool × Bool × Bool × Bool × Int × Int × Int × Int × Int × Bool × Bool × Int × Bool × Unit) × ((List Int) × (List Int) × Int × Int × (List Int) × Bool × (List Page) × Int × Int × Bool × Bool × Int × Int × (List (List UInt8)) × (List Int) × Bool × Bool × Bool × Int × Int × Int × Int × Int × (List (List UInt8)) × Int × Bool × Bool × Bool × Bool × Bool × Int × Int × Int × Int × Int × Bool × Bool × Int × Bool × Unit) × (List Int) × (List Int) × (List Line) × (List (List UInt8)) × (List Int) × (List (List UInt8)) × (List Int) × (List Line) × Unit) := bC (cPair (cArr 3 6) (cPair (cArr 3 2) (cPair (cInt .i64) (cPair (cInt .i64) (cK (.row 2 0) (cK (.row 3 0) (cPair cBool (cPair (cArr 28 16) (cPair (cInt .i64) (cPair (cInt .i64) (cPair cBool (cPair cBool (cPair (cInt .i64) (cPair (cInt .i64) (cK (.row 4 0) (cK (.row 5 0) (cK (.row 6 0) (cPair cBool (cPair cBool (cPair cBool (cPair (cInt .i64) (cPair (cInt .i64) (cPair (cInt .i64) (cPair (cInt .i64) (cPair (cInt .i64) (cK (.row 7 0) (cPair (cInt .i64) (cPair cBool (cPair cBool (cPair cBool (cPair cBool (cPair cBool (cPair (cInt .i64) (cPair (cInt .i64) (cPair (cInt .i64) (cPair (cInt .i64) (cPair (cInt .i64) (cPair cBool (cPair cBool (cPair (cInt .i64) (cPair cBool (cUnit)))))))))))))))))))))))))))))))))))))))))) (bC (cPair (cArr 3 6) (cPair (cArr 3 2) (cPair (cInt .i64) (cPair (cInt .i64) (cPair (cSl 3) (cK (.row 8 0) (cPair cBool (cPair (cArr 28 16) (cPair (cInt .i64) (cPair (cInt .i64) (cPair cBool (cPair cBool (cPair (cInt .i64) (cPair (cInt .i64) (cK (.row 9 0) (cPair (cSl 9) (cPair (cSl 3) (cPair cBool (cPair cBool (cPair cBool (cPair (cInt .i64) (cPair (cInt .i64) (cPair (cInt .i64) (cPair (cInt .i64) (cPair (cInt .i64) (cPair (cSl 9) (cPair (cInt .i64) (cPair cBool (cPair cBool (cPair cBool (cPair cBool (cPair cBool (cPair (cInt .i64) (cPair (cInt .i64) (cPair (cInt .i64) (cPair (cInt .i64) (cPair (cInt .i64) (cPair cBool (cPair cBool (cPair (cInt .i64) (cPair cBool (cUnit)))))))))))))))))))))))))))))))))))))))))) (bRv 3 0 (bRv 3 0 (bRv 66 0 (bRv 9 0 (bRv 3 0 (bRv 9 0 (bRv 3 0 (bRv 66 0 (bNil))))))))))
noncomputable def zh9 (s : z16) : St U := { tm := [(6, .v (vO (cK (.ptr 0 0) (cUnit)) (()))), (11, .v (vO (cK (.ptr 1 0) (cUnit)) (()))), (51, .v (vO (cPair (cInt .i64) (cUnit)) (s.t51, ()))), (52, .v (vO (cPair (cInt .i64) (cUnit)) (s.t52, ())))], hp := [.cells ((cPair (cArr 3 6) (cPair (cArr 3 2) (cPair (cInt .i64) (cPair (cInt .i64) (cK (.row 2 0) (cK (.row 3 0) (cPair cBool (cPair (cArr 28 16) (cPair (cInt .i64) (cPair (cInt .i64) (cPair cBool (cPair cBool (cPair (cInt .i64) (cPair (cInt .i64) (cK (.row 4 0) (cK (.row 5 0) (cK (.row 6 0) (cPair cBool (cPair cBool (cPair cBool (cPair (cInt .i64) (cPair (cInt .i64) (cPair (cInt .i64) (cPair (cInt .i64) (cPair (cInt .i64) (cK (.row 7 0) (cPair (cInt .i64) (cPair cBool (cPair cBool (cPair cBool (cPair cBool (cPair cBool (cPair (cInt .i64) (cPair (cInt .i64) (cPair (cInt .i64) (cPair (cInt .i64) (cPair (cInt .i64) (cPair cBool (cPair cBool (cPair (cInt .i64) (cPair cBool (cUnit))))))))))))))))))))))))))))))))))))))))) : Cdc U ((List Int) × (List Int) × Int × Int × Bool × (List Page) × Int × Int × Bool × Bool × Int × Int × Bool × Bool × Bool × Int × Int × Int × Int × Int × Int × Bool × Bool × Bool × Bool × Bool × Int × Int × Int × Int × Int × Bool × Bool × Int × Bool × Unit)).enc (s.b0_0, s.b0_1, s.b0_2, s.b0_3, s.b0_6, s.b0_7, s.b0_8, s.b0_9, s.b0_10, s.b0_11, s.b0_12, s.b0_13, s.b0_17, s.b0_18, s.b0_19, s.b0_20, s.b0_21, s.b0_22, s.b0_23, s.b0_24, s.b0_26, s.b0_27, s.b0_28, s.b0_29, s.b0_30, s.b0_31, s.b0_32, s.b0_33, s.b0_34, s.b0_35, s.b0_36, s.b0_37, s.b0_38, s.b0_39, s.b0_40, ())) none, .cells ((cPair (cArr 3 6) (cPair (cArr 3 2) (cPair (cInt .i64) (cPair (cInt .i64) (cPair (cSl 3) (cK (.row 8 0) (cPair cBool (cPair (cArr 28 16) (cPair (cInt .i64) (cPair (cInt .i64) (cPair cBool (cPair cBool (cPair (cInt .i64) (cPair (cInt .i64) (cK (.row 9 0) (cPair (cSl 9) (cPair (cSl 3) (cPair cBool (cPair cBool (cPair cBool (cPair (cInt .i64) (cPair (cInt .i64) (cPair (cInt .i64) (cPair (cInt .i64) (cPair (cInt .i64) (cPair (cSl 9) (cPair (cInt .i64) (cPair cBool (cPair cBool (cPair cBool (cPair cBool (cPair cBool (cPair (cInt .i64) (cPair (cInt .i64) (cPair (cInt .i64) (cPair (cInt .i64) (cPair (cInt .i64) (cPair cBool (cPair cBool (cPair (cInt .i64) (cPair cBool (cUnit))))))))))))))))))))))))))))))))))))))))) : Cdc U ((List Int) × (List Int) × Int × Int × (List Int) × Bool × (List Page) × Int × Int × Bool × Bool × Int × Int × (List (List UInt8)) × (List Int) × Bool × Bool × Bool × Int × Int × Int × Int × Int × (List (List UInt8)) × Int × Bool × Bool × Bool × Bool × Bool × Int × Int × Int × Int × Int × Bool × Bool × Int × Bool × Unit)).enc (s.b1_0, s.b1_1, s.b1_2, s.b1_3, s.b1_4, s.b1_6, s.b1_7, s.b1_8, s.b1_9, s.b1_10, s.b1_11, s.b1_12, s.b1_13, s.b1_15, s.b1_16, s.b1_17, s.b1_18, s.b1_19, s.b1_20, s.b1_21, s.b1_22, s.b1_23, s.b1_24, s.b1_25, s.b1_26, s.b1_27, s.b1_28, s.b1_29, s.b1_30, s.b1_31, s.b1_32, s.b1_33, s.b1_34, s.b1_35, s.b1_36, s.b1_37, s.b1_38, s.b1_39, s.b1_40, ())) none, .row 3 0 s.b2, .row 3 0 s.b3, .row 66 0 s.b4, .row 9 0 s.b5, .row 3 0 s.b6, .row 9 0 s.b7, .row 3 0 s.b8, .row 66 0 s.b9] }
noncomputable def zi5 (r : ((List Int) × (List Int) × Int × Int × Bool × (List Page) × Int × Int × Bool × Bool × Int × Int × Bool × Bool × Bool × Int × Int × Int × Int × Int × Int × Bool × Bool × Bool × Bool × Bool × Int × Int × Int × Int × Int × Bool × Bool × Int × Bool × (List Int) × (List Int) × Int × Int × (List Int) × Bool × (List Page) × Int × Int × Bool × Bool × Int × Int × (List (List UInt8)) × (List Int) × Bool × Bool × Bool × Int × Int × Int × Int × Int × (List (List UInt8)) × Int × Bool × Bool × Bool × Bool × Bool × Int × Int × Int × Int × Int × Bool × Bool × Int × Bool × (List Int) × (List Int) × (List Line) × (List (List UInt8)) × (List Int) × (List (List UInt8)) × (List Int) × (List Line))) : Ex × St U := (.exit 0, { tm := [(6, .v (vO (cK (.ptr 0 0) (cUnit)) (()))), (11, .v (vO (cK (.ptr 1 0) (cUnit)) (())))], hp := [.cells ((cPair (cArr 3 6) (cPair (cArr 3 2) (cPair (cInt .i64) (cPair (cInt .i64) (cK (.row 2 0) (cK (.row 3 0) (cPair cBool (cPair (cArr 28 16) (cPair (cInt .i64) (cPair (cInt .i64) (cPair cBool (cPair cBool (cPair (cInt .i64) (cPair (cInt .i64) (cK (.row 4 0) (cK (.row 5 0) (cK (.row 6 0) (cPair cBool (cPair cBool (cPair cBool (cPair (cInt .i64) (cPair (cInt .i64) (cPair (cInt .i64) (cPair (cInt .i64) (cPair (cInt .i64) (cK (.row 7 0) (cPair (cInt .i64) (cPair cBool (cPair cBool (cPair cBool (cPair cBool (cPair cBool (cPair (cInt .i64) (cPair (cInt .i64) (cPair (cInt .i64) (cPair (cInt .i64) (cPair (cInt .i64) (cPair cBool (cPair cBool (cPair (cInt .i64) (cPair cBool (cUnit))))))))))))))))))))))))))))))))))))))))) : Cdc U ((List Int) × (List Int) × Int × Int × Bool × (List Page) × Int × Int × Bool × Bool × Int × Int × Bool × Bool × Bool × Int × Int × Int × Int × Int × Int × Bool × Bool × Bool × Bool × Bool × Int × Int × Int × Int × Int × Bool × Bool × Int × Bool × Unit)).enc (r.1, r.2.1, r.2.2.1, r.2.2.2.1, r.2.2.2.2.1, r.2.2.2.2.2.1, r.2.2.2.2.2.2.1, r.2.2.2.2.2.2.2.1, r.2.2.2.2.2.2.2.2.1, r.2.2.2.2.2.2.2.2.2.1, r.2.2.2.2.2.2.2.2.2.2.1, r.2.2.2.2.2.2.2.2.2.2.2.1, r.2.2.2.2.2.2.2.2.2.2.2.2.1, r.2.2.2.2.2.2.2.2.2.2.2.2.2.1, r.2.2.2.2.2.2.2.2.2.2.2.2.2.2.1, r.2.2.2.2.2.2.2.2.2.2.2.2.2.2.2.1, r.2.2.2.2.2.2.2.2.2.2.2.2.2.2.2.2.1, r.2.2.2.2.2.2.2.2.2.2.2.2.2.2.2.2.2.1, r.2.2.2.2.2.2.2.2.2.2.2.2.2.2.2.2.2.2.1, r.2.2.2.2.2.2.2.2.2.2.2.2.2.2.2.2.2.2.2.1, r.2.2.2.2.2.2.2.2.2.2.2.2.2.2.2.2.2.2.2.2.1, r.2.2.2.2.2.2.2.2.2.2.2.2.2.2.2.2.2.2.2.2.2.1, r.2.2.2.2.2.2.2.2.2.2.2.2.2.2.2.2.2.2.2.2.2.2.1, r.2.2.2.2.2.2.2.2.2.2.2.2.2.2.2.2.2.2.2.2.2.2.2.1, r.2.2.2.2.2.2.2.2.2.2.2.2.2.2.2.2.2.2.2.2.2.2.2.2.1, r.2.2.2.2.2.2.2.2.2.2.2.2.2.2.2.2.2.2.2.2.2.2.2.2.2.1, r.2.2.2.2.2.2.2.2.2.2.2.2.2.2.2.2.2.2.2.2.2.2.2.2.2.2.1, r.2.2.2.2.2.2.2.2.2.2.2.2.2.2.2.2.2.2.2.2.2.2.2.2.2.2.2.1, r.2.2.2.2.2.2.2.2.2.2.2.2.2.2.2.2.2.2.2.2.2.2.2.2.2.2.2.2.1, r.2.2.2.2.2.2.2.2.2.2.2.2.2.2.2.2.2.2.2.2.2.2.2.2.2.2.2.2.2.1, r.2.2.2.2.2.2.2.2.2.2.2.2.2.2.2.2.2.2.2.2.2.2.2.2.2.2.2.2.2.2.1, r.2.2.2.2.2.2.2.2.2.2.2.2.2.2.2.2.2.2.2.2.2.2.2.2.2.2.2.2.2.2.2.1, r.2.2.2.2.2.2.2.2.2.2.2.2.2.2.2.2.2.2.2.2.2.2.2.2.2.2.2.2.2.2.2.2.1, r.2.2.2.2.2.2.2.2.2.2.2.2.2.2.2.2.2.2.2.2.2.2.2.2.2.2.2.2.2.2.2.2.2.1, r.2.2.2.2.2.2.2.2.2.2.2.2.2.2.2.2.2.2.2.2.2.2.2.2.2.2.2.2.2.2.2.2.2.2.1, ())) none, .cells ((cPair (cArr 3 6) (cPair (cArr 3 2) (cPair (cInt .i64) (cPair (cInt .i64) (cPair (cSl 3) (cK (.row 8 0) (cPair cBool (cPair (cArr 28 16) (cPair (cInt .i64) (cPair (cInt .i64) (cPair cBool (cPair cBool (cPair (cInt .i64) (cPair (cInt .i64) (cK (.row 9 0) (cPair (cSl 9) (cPair (cSl 3) (cPair cBool (cPair cBool (cPair cBool (cPair (cInt .i64) (cPair (cInt .i64) (cPair (cInt .i64) (cPair (cInt .i64) (cPair (cInt .i64) (cPair (cSl 9) (cPair (cInt .i64) (cPair cBool (cPair cBool (cPair cBool (cPair cBool (cPair cBool (cPair (cInt .i64) (cPair (cInt .i64) (cPair (cInt .i64) (cPair (cInt .i64) (cPair (cInt .i64) (cPair cBool (cPair cBool (cPair (cInt .i64) (cPair cBool (cUnit))))))))))))))))))))))))))))))))))))))))) : Cdc U ((List Int) × (List Int) × Int × Int × (List Int) × Bool × (List Page) × Int × Int × Bool × Bool × Int × Int × (List (List UInt8)) × (List Int) × Bool × Bool × Bool × Int × Int × Int × Int × Int × (List (List UInt8)) × Int × Bool × Bool × Bool × Bool × Bool × Int × Int × Int × Int × Int × Bool × Bool × Int × Bool × Unit)).enc (r.2.2.2.2.2.2.2.2.2.2.2.2.2.2.2.2.2.2.2.2.2.2.2.2.2.2.2.2.2.2.2.2.2.2.2.1, r.2.2.2.2.2.2.2.2.2.2.2.2.2.2.2.2.2.2.2.2.2.2.2.2.2.2.2.2.2.2.2.2.2.2.2.2.1, r.2.2.2.2.2.2.2.2.2.2.2.2.2.2.2.2.2.2.2.2.2.2.2.2.2.2.2.2.2.2.2.2.2.2.2.2.2.1, r.2.2.2.2.2.2.2.2.2.2.2.2.2.2.2.2.2.2.2.2.2.2.2.2.2.2.2.2.2.2.2.2.2.2.2.2.2.2.1, r.2.2.2.2.2.2.2.2.2.2.2.2.2.2.2.2.2.2.2.2.2.2.2.2.2.2.2.2.2.2.2.2.2.2.2.2.2.2.2.1, r.2.2.2.2.2.2.2.2.2.2.2.2.2.2.2.2.2.2.2.2.2.2.2.2.2.2.2.2.2.2.2.2.2.2.2.2.2.2.2.2.1, r.2.2.2.2.2.2.2.2.2.2.2.2.2.2.2.2.2.2.2.2.2.2.2.2.2.2.2.2.2.2.2.2.2.2.2.2.2.2.2.2.2.1, r.2.2.2.2.2.2.2.2.2.2.2.2.2.2.2.2.2.2.2.2.2.2.2.2.2.2.2.2.2.2.2.2.2.2.2.2.2.2.2.2.2.2.1, r.2.2.2.2.2.2.2.2.2.2.2.2.2.2.2.2.2.2.2.2.2.2.2.2.2.2.2.2.2.2.2.2.2.2.2.2.2.2.2.2.2.2.2.1, r.2.2.2.2.2.2.2.2.2.2.2.2.2.2.2.2.2.2.2.2.2.2.2.2.2.2.2.2.2.2.2.2.2.2.2.2.2.2.2.2.2.2.2.2.1, r.2.2.2.2.2.2.2.2.2.2.2.2.2.2.2.2.2.2.2.2.2.2.2.2.2.2.2.2.2.2.2.2.2.2.2.2.2.2.2.2.2.2.2.2.2.1, r.2.2.2.2.2.2.2.2.2.2.2.2.2.2.2.2.2.2.2.2.2.2.2.2.2.2.2.2.2.2.2.2.2.2.2.2.2.2.2.2.2.2.2.2.2.2.1, r.2.2.2.2.2.2.2.2.2.2.2.2.2.2.2.2.2.2.2.2.2.2.2.2.2.2.2.2.2.2.2.2.2.2.2.2.2.2.2.2.2.2.2.2.2.2.2.1, r.2.2.2.2.2.2.2.2.2.2.2.2.2.2.2.2.2.2.2.2.2.2.2.2.2.2.2.2.2.2.2.2.2.2.2.2.2.2.2.2.2.2.2.2.2.2.2.2.1, r.2.2.2.2.2.2.2.2.2.2.2.2.2.2.2.2.2.2.2.2.2.2.2.2.2.2.2.2.2.2.2.2.2.2.2.2.2.2.2.2.2.2.2.2.2.2.2.2.2.1, r.2.2.2.2.2.2.2.2.2.2.2.2.2.2.2.2.2.2.2.2.2.2.2.2.2.2.2.2.2.2.2.2.2.2.2.2.2.2.2.2.2.2.2.2.2.2.2.2.2.2.1, r.2.2.2.2.2.2.2.2.2.2.2.2.2.2.2.2.2.2.2.2.2.2.2.2.2.2.2.2.2.2.2.2.2.2.2.2.2.2.2.2.2.2.2.2.2.2.2.2.2.2.2.1, r.2.2.2.2.2.2.2.2.2.2.2.2.2.2.2.2.2.2.2.2.2.2.2.2.2.2.2.2.2.2.2.2.2.2.2.2.2.2.2.2.2.2.2.2.2.2.2.2.2.2.2.2.1, r.2.2.2.2.2.2.2.2.2.2.2.2.2.2.2.2.2.2.2.2.2.2.2.2.2.2.2.2.2.2.2.2.2.2.2.2.2.2.2.2.2.2.2.2.2.2.2.2.2.2.2.2.2.1, r.2.2.2.2.2.2.2.2.2.2.2.2.2.2.2.2.2.2.2.2.2.2.2.2.2.2.2.2.2.2.2.2.2.2.2.2.2.2.2.2.2.2.2.2.2.2.2.2.2.2.2.2.2.2.1, r.2.2.2.2.2.2.2.2.2.2.2.2.2.2.2.2.2.2.2.2.2.2.2.2.2.2.2.2.2.2.2.2.2.2.2.2.2.2.2.2.2.2.2.2.2.2.2.2.2.2.2.2.2.2.2.1, r.2.2.2.2.2.2.2.2.2.2.2.2.2.2.2.2.2.2.2.2.2.2.2.2.2.2.2.2.2.2.2.2.2.2.2.2.2.2.2.2.2.2.2.2.2.2.2.2.2.2.2.2.2.2.2.2.1, r.2.2.2.2.2.2.2.2.2.2.2.2.2.2.2.2.2.2.2.2.2.2.2.2.2.2.2.2.2.2.2.2.2.2.2.2.2.2.2.2.2.2.2.2.2.2.2.2.2.2.2.2.2.2.2.2.2.1, r.2.2.2.2.2.2.2.2.2.2.2.2.2.2.2.2.2.2.2.2.2.2.2.2.2.2.2.2.2.2.2.2.2.2.2.2.2.2.2.2.2.2.2.2.2.2.2.2.2.2.2.2.2.2.2.2.2.2.1, r.2.2.2.2.2.2.2.2.2.2.2.2.2.2.2.2.2.2.2.2.2.2.2.2.2.2.2.2.2.2.2.2.2.2.2.2.2.2.2.2.2.2.2.2.2.2.2.2.2.2.2.2.2.2.2.2.2.2.2.1, r.2.2.2.2.2.2.2.2.2.2.2.2.2.2.2.2.2.2.2.2.2.2.2.2.2.2.2.2.2.2.2.2.2.2.2.2.2.2.2.2.2.2.2.2.2.2.2.2.2.2.2.2.2.2.2.2.2.2.2.2.1, r.2.2.2.2.2.2.2.2.2.2.2.2.2.2.2.2.2.2.2.2.2.2.2.2.2.2.2.2.2.2.2.2.2.2.2.2.2.2.2.2.2.2.2.2.2.2.2.2.2.2.2.2.2.2.2.2.2.2.2.2.2.1, r.2.2.2.2.2.2.2.2.2.2.2.2.2.2.2.2.2.2.2.2.2.2.2.2.2.2.2.2.2.2.2.2.2.2.2.2.2.2.2.2.2.2.2.2.2.2.2.2.2.2.2.2.2.2.2.2.2.2.2.2.2.2.1, r.2.2.2.2.2.2.2.2.2.2.2.2.2.2.2.2.2.2.2.2.2.2.2.2.2.2.2.2.2.2.2.2.2.2.2.2.2.2.2.2.2.2.2.2.2.2.2.2.2.2.2.2.2.2.2.2.2.2.2.2.2.2.2.1, r.2.2.2.2.2.2.2.2.2.2.2.2.2.2.2.2.2.2.2.2.2.2.2.2.2.2.2.2.2.2.2.2.2.2.2.2.2.2.2.2.2.2.2.2.2.2.2.2.2.2.2.2.2.2.2.2.2.2.2.2.2.2.2.2.1, r.2.2.2.2.2.2.2.2.2.2.2.2.2.2.2.2.2.2.2.2.2.2.2.2.2.2.2.2.2.2.2.2.2.2.2.2.2.2.2.2.2.2.2.2.2.2.2.2.2.2.2.2.2.2.2.2.2.2.2.2.2.2.2.2.2.1, r.2.2.2.2.2.2.2.2.2.2.2.2.2.2.2.2.2.2.2.2.2.2.2.2.2.2.2.2.2.2.2.2.2.2.2.2.2.2.2.2.2.2.2.2.2.2.2.2.2.2.2.2.2.2.2.2.2.2.2.2.2.2.2.2.2.2.1, r.2.2.2.2.2.2.2.2.2.2.2.2.2.2.2.2.2.2.2.2.2.2.2.2.2.2.2.2.2.2.2.2.2.2.2.2.2.2.2.2.2.2.2.2.2.2.2.2.2.2.2.2.2.2.2.2.2.2.2.2.2.2.2.2.2.2.2.1, r.2.2.2.2.2.2.2.2.2.2.2.2.2.2.2.2.2.2.2.2.2.2.2.2.2.2.2.2.2.2.2.2.2.2.2.2.2.2.2.2.2.2.2.2.2.2.2.2.2.2.2.2.2.2.2.2.2.2.2.2.2.2.2.2.2.2.2.2.1, r.2.2.2.2.2.2.2.2.2.2.2.2.2.2.2.2.2.2.2.2.2.2.2.2.2.2.2.2.2.2.2.2.2.2.2.2.2.2.2.2.2.2.2.2.2.2.2.2.2.2.2.2.2.2.2.2.2.2.2.2.2.2.2.2.2.2.2.2.2.1, r.2.2.2.2.2.2.2.2.2.2.2.2.2.2.2.2.2.2.2.2.2.2.2.2.2.2.2.2.2.2.2.2.2.2.2.2.2.2.2.2.2.2.2.2.2.2.2.2.2.2.2.2.2.2.2.2.2.2.2.2.2.2.2.2.2.2.2.2.2.2.1, r.2.2.2.2.2.2.2.2.2.2.2.2.2.2.2.2.2.2.2.2.2.2.2.2.2.2.2.2.2.2.2.2.2.2.2.2.2.2.2.2.2.2.2.2.2.2.2.2.2.2.2.2.2.2.2.2.2.2.2.2.2.2.2.2.2.2.2.2.2.2.2.1, r.2.2.2.2.2.2.2.2.2.2.2.2.2.2.2.2.2.2.2.2.2.2.2.2.2.2.2.2.2.2.2.2.2.2.2.2.2.2.2.2.2.2.2.2.2.2.2.2.2.2.2.2.2.2.2.2.2.2.2.2.2.2.2.2.2.2.2.2.2.2.2.2.1, r.2.2.2.2.2.2.2.2.2.2.2.2.2.2.2.2.2.2.2.2.2.2.2.2.2.2.2.2.2.2.2.2.2.2.2.2.2.2.2.2.2.2.2.2.2.2.2.2.2.2.2.2.2.2.2.2.2.2.2.2.2.2.2.2.2.2.2.2.2.2.2.2.2.1, ())) none, .row 3 0 r.2.2.2.2.2.2.2.2.2.2.2.2.2.2.2.2.2.2.2.2.2.2.2.2.2.2.2.2.2.2.2.2.2.2.2.2.2.2.2.2.2.2.2.2.2.2.2.2.2.2.2.2.2.2.2.2.2.2.2.2.2.2.2.2.2.2.2.2.2.2.2.2.2.2.1, .row 3 0 r.2.2.2.2.2.2.2.2.2.2.2.2.2.2.2.2.2.2.2.2.2.2.2.2.2.2.2.2.2.2.2.2.2.2.2.2.2.2.2.2.2.2.2.2.2.2.2.2.2.2.2.2.2.2.2.2.2.2.2.2.2.2.2.2.2.2.2.2.2.2.2.2.2.2.2.1, .row 66 0 r.2.2.2.2.2.2.2.2.2.2.2.2.2.2.2.2.2.2.2.2.2.2.2.2.2.2.2.2.2.2.2.2.2.2.2.2.2.2.2.2.2.2.2.2.2.2.2.2.2.2.2.2.2.2.2.2.2.2.2.2.2.2.2.2.2.2.2.2.2.2.2.2.2.2.2.2.1, .row 9 0 r.2.2.2.2.2.2.2.2.2.2.2.2.2.2.2.2.2.2.2.2.2.2.2.2.2.2.2.2.2.2.2.2.2.2.2.2.2.2.2.2.2.2.2.2.2.2.2.2.2.2.2.2.2.2.2.2.2.2.2.2.2.2.2.2.2.2.2.2.2.2.2.2.2.2.2.2.2.1, .row 3 0 r.2.2.2.2.2.2.2.2.2.2.2.2.2.2.2.2.2.2.2.2.2.2.2.2.2.2.2.2.2.2.2.2.2.2.2.2.2.2.2.2.2.2.2.2.2.2.2.2.2.2.2.2.2.2.2.2.2.2.2.2.2.2.2.2.2.2.2.2.2.2.2.2.2.2.2.2.2.2.1, .row 9 0 r.2.2.2.2.2.2.2.2.2.2.2.2.2.2.2.2.2.2.2.2.2.2.2.2.2.2.2.2.2.2.2.2.2.2.2.2.2.2.2.2.2.2.2.2.2.2.2.2.2.2.2.2.2.2.2.2.2.2.2.2.2.2.2.2.2.2.2.2.2.2.2.2.2.2.2.2.2.2.2.1, .row 3 0 r.2.2.2.2.2.2.2.2.2.2.2.2.2.2.2.2.2.2.2.2.2.2.2.2.2.2.2.2.2.2.2.2.2.2.2.2.2.2.2.2.2.2.2.2.2.2.2.2.2.2.2.2.2.2.2.2.2.2.2.2.2.2.2.2.2.2.2.2.2.2.2.2.2.2.2.2.2.2.2.2.1, .row 66 0 r.2.2.2.2.2.2.2.2.2.2.2.2.2.2.2.2.2.2.2.2.2.2.2.2.2.2.2.2.2.2.2.2.2.2.2.2.2.2.2.2.2.2.2.2.2.2.2.2.2.2.2.2.2.2.2.2.2.2.2.2.2.2.2.2.2.2.2.2.2.2.2.2.2.2.2.2.2.2.2.2.2] })
noncomputable def zsp (r : ((List Int) × (List Int) × Int × Int × Bool × (List Page) × Int × Int × Bool × Bool × Int × Int × Bool × Bool × Bool × Int × Int × Int × Int × Int × Int × Bool × Bool × Bool × Bool × Bool × Int × Int × Int × Int × Int × Bool × Bool × Int × Bool × (List Int) × (List Int) × Int × Int × (List Int) × Bool × (List Page) × Int × Int × Bool × Bool × Int × Int × (List (List UInt8)) × (List Int) × Bool × Bool × Bool × Int × Int × Int × Int × Int × (List (List UInt8)) × Int × Bool × Bool × Bool × Bool × Bool × Int × Int × Int × Int × Int × Bool × Bool × Int × Bool × (List Int) × (List Int) × (List Line) × (List (List UInt8)) × (List Int) × (List (List UInt8)) × (List Int) × (List Line))) : Tree (Ex × St U) := .leaf (zi5 r)
noncomputable def z129 : Hd := { keep := [6, 11, 51, 52], xkeep := [6, 7, 11], own := true }
noncomputable def zfw : Env U := { P := Tryz.prog, cd := cd, fns := fns79, lps := (addL 0 z129 (mkLoop zsa zp8 zyr (z8l none) zsp) noL), frz := fun _r => false, nt := 62, n0 := 0 }
noncomputable def z11i : Code := (loopAt (Tryz.f35.body.getD .skip) 0 0).getD .skip
theorem z1fh (s : z16) : round zfw z129 z11i 0 (zh9 s) = (zjl s).map (sumE zh9 zi5) := by kernel_rfl
theorem z1ic : LpOk zfw z11i 0 := mkLoop_ok (A := zsa) (B := zp8) (f := zyr) (L := z8l none) (tO_ok (cK_ok cUnit_ok) (tO_ok (cK_ok cUnit_ok) (tO_ok (cPair_ok (cInt_ok .i64) cUnit_ok) (tO_ok (cPair_ok (cInt_ok .i64) cUnit_ok) tNil_ok)))) (bC_ok (cPair_ok (cArr_ok 3 6) (cPair_ok (cArr_ok 3 2) (cPair_ok (cInt_ok .i64) (cPair_ok (cInt_ok .i64) (cK_ok (cK_ok (cPair_ok cBool_ok (cPair_ok (cArr_ok 28 16) (cPair_ok (cInt_ok .i64) (cPair_ok (cInt_ok .i64) (cPair_ok cBool_ok (cPair_ok cBool_ok (cPair_ok (cInt_ok .i64) (cPair_ok (cInt_ok .i64) (cK_ok (cK_ok (cK_ok (cPair_ok cBool_ok (cPair_ok cBool_ok (cPair_ok cBool_ok (cPair_ok (cInt_ok .i64) (cPair_ok (cInt_ok .i64) (cPair_ok (cInt_ok .i64) (cPair_ok (cInt_ok .i64) (cPair_ok (cInt_ok .i64) (cK_ok (cPair_ok (cInt_ok .i64) (cPair_ok cBool_ok (cPair_ok cBool_ok (cPair_ok cBool_ok (cPair_ok cBool_ok (cPair_ok cBool_ok (cPair_ok (cInt_ok .i64) (cPair_ok (cInt_ok .i64) (cPair_ok (cInt_ok .i64) (cPair_ok (cInt_ok .i64) (cPair_ok (cInt_ok .i64) (cPair_ok cBool_ok (cPair_ok cBool_ok (cPair_ok (cInt_ok .i64) (cPair_ok cBool_ok cUnit_ok))))))))))))))))))))))))))))))))))))))))) (bC_ok (cPair_ok (cArr_ok 3 6) (cPair_ok (cArr_ok 3 2) (cPair_ok (cInt_ok .i64) (cPair_ok (cInt_ok .i64) (cPair_ok (cSl_ok 3) (cK_ok (cPair_ok cBool_ok (cPair_ok (cArr_ok 28 16) (cPair_ok (cInt_ok .i64) (cPair_ok (cInt_ok .i64) (cPair_ok cBool_ok (cPair_ok cBool_ok (cPair_ok (cInt_ok .i64) (cPair_ok (cInt_ok .i64) (cK_ok (cPair_ok (cSl_ok 9) (cPair_ok (cSl_ok 3) (cPair_ok cBool_ok (cPair_ok cBool_ok (cPair_ok cBool_ok (cPair_ok (cInt_ok .i64) (cPair_ok (cInt_ok .i64) (cPair_ok (cInt_ok .i64) (cPair_ok (cInt_ok .i64) (cPair_ok (cInt_ok .i64) (cPair_ok (cSl_ok 9) (cPair_ok (cInt_ok .i64) (cPair_ok cBool_ok (cPair_ok cBool_ok (cPair_ok cBool_ok (cPair_ok cBool_ok (cPair_ok cBool_ok (cPair_ok (cInt_ok .i64) (cPair_ok (cInt_ok .i64) (cPair_ok (cInt_ok .i64) (cPair_ok (cInt_ok .i64) (cPair_ok (cInt_ok .i64) (cPair_ok cBool_ok (cPair_ok cBool_ok (cPair_ok (cInt_ok .i64) (cPair_ok cBool_ok cUnit_ok))))))))))))))))))))))))))))))))))))))))) (bRv_ok (bRv_ok (bRv_ok (bRv_ok (bRv_ok (bRv_ok (bRv_ok (bRv_ok bNil_ok)))))))))) (enc := zh9) (out := zsp) (outS := zi5) (step := zjl) (fun _ => rfl) (fun _ _ => by kernel_rfl) (by kernel_rfl) (fun _ => rfl) z1fh
theorem z1jh (x : Int × Int × Int × Unit) (g : Unit) : execF zfw Tryz.f35 (zps.enc x) (bNil.enc g) = (zlm none x.1 x.2.1 x.2.2.1).map z12r := by kernel_rfl
theorem z1gf : FnOk Tryz.prog cd 35 z166 := mk_ok (E := zfw) cd_ok z1an Tryz.func35 (by kernel_rfl) (loops_of (addL_ok z1ic noL_ok)) (aO_ok (cInt_ok .i64) (aO_ok (cInt_ok .i64) (aO_ok (cInt_ok .i64) (aNil_ok)))) bNil_ok (T := fun x _ => zlm none x.1 x.2.1 x.2.2.1) (fun _ _ => rfl) z1jh
noncomputable def fns35 := addF 35 true z166 fns79
theorem znz : ∀ f q t, fns35 f = some (q, t) → FnOk Tryz.prog cd f t := addF_ok z1gf z1an
end Go.Proofs.YtiafliookmnjoaaGreatDoor
