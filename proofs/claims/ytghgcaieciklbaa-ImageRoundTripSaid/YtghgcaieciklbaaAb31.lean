/- (goes on) -/
import Derived.Test.YtghgcaieciklbaaAb31p0
set_option linter.unusedSimpArgs false
namespace Go.Proofs.Ytghgcaieciklbaa
open Go Go.Ab
/-- (*emulator/emulatorref28.Reader).Text -/
noncomputable def Tref28_Reader_Text (q : Option Nat) (g0 : Reader) : Tree ((List UInt8) × Reader) :=
  .opt ((List UInt8) × Int × Int) (ref03_GetText q g0.s g0.at_) fun r320 =>
    .ite (!decide (r320.2.2 = (0 : Int)))
      (.leaf ((([] : List UInt8), Reader.mk g0.s g0.at_ true)))
      (.leaf ((r320.1, Reader.mk g0.s r320.2.1 g0.bad)))
noncomputable def ref28_Reader_Text (q : Option Nat) (g0 : Reader) : Option ((List UInt8) × Reader) := (Tref28_Reader_Text q g0).run
theorem leref28_Reader_Text (k : Nat) (g0 : Reader) : Le (ref28_Reader_Text (some k) g0) (ref28_Reader_Text none g0) := (TLe.opt (leref03_GetText k _ _) fun _ => TLe.rfl)
noncomputable def Aref28_Reader_Text : Arg U (Unit) := aP 0 0 (aNil)
noncomputable def Gref28_Reader_Text : Bls U (Reader × Unit) := bC cReader (bNil)
noncomputable def Rref28_Reader_Text (_x : Unit) (_g : Reader × Unit) (r : ((List UInt8) × Reader)) : List (V U) × List (Blk U) := ([vO (cPair cStr (cUnit)) (r.1, ())], [.cells ((cPair cReader (cUnit) : Cdc U (Reader × Unit)).enc (r.2, ())) none])
noncomputable def Sref28_Reader_Text : List (V U) → List (Blk U) → Option (FnOut U) := mkSpecG Aref28_Reader_Text Gref28_Reader_Text (fun x g => ref28_Reader_Text none g.1) Rref28_Reader_Text
noncomputable def Eref28_Reader_Text : Env U := { P := Try.prog, cd := cd, fns := fns69, lps := noL, frz := fun _r => false, nt := 29, n0 := 1 }
theorem rnref28_Reader_Text (g0 : Reader) : execX false Eref28_Reader_Text Try.f47 (Aref28_Reader_Text.enc ()) (Gref28_Reader_Text.enc (g0, ())) = (Tref28_Reader_Text none g0).map (Rref28_Reader_Text () (g0, ())) := by kernel_rfl
theorem runref28_Reader_Text : ∀ (x : Unit) (g : Reader × Unit), execX false Eref28_Reader_Text Try.f47 (Aref28_Reader_Text.enc x) (Gref28_Reader_Text.enc g) = (Tref28_Reader_Text none g.1).map (Rref28_Reader_Text x g)
  | (), (g0, ()) => rnref28_Reader_Text g0
theorem okref28_Reader_Text : FnOk Try.prog cd 47 Sref28_Reader_Text := mk_okG (E := Eref28_Reader_Text) (A := Aref28_Reader_Text) (B := Gref28_Reader_Text) false cd_ok fns69_ok Try.func47 (by kernel_rfl) (noLoops_body (by kernel_rfl)) (aP_ok (aNil_ok)) (bC_ok cReader_ok bNil_ok) (T := fun (x : Unit) (g : Reader × Unit) => Tref28_Reader_Text none g.1) (fun _ _ => rfl) runref28_Reader_Text
/-- (*emulator/emulatorref28.Reader).Number -/
noncomputable def Tref28_Reader_Number (q : Option Nat) (x1 : Int) (g0 : Reader) : Tree (Int × Reader) :=
  .opt (Int × Int × Int) (ref03_Get q g0.s g0.at_ x1) fun r324 =>
    .ite (!decide (r324.2.2 = (0 : Int)))
      (.leaf (((0 : Int), Reader.mk g0.s g0.at_ true)))
      (.leaf ((r324.1, Reader.mk g0.s r324.2.1 g0.bad)))
noncomputable def ref28_Reader_Number (q : Option Nat) (x1 : Int) (g0 : Reader) : Option (Int × Reader) := (Tref28_Reader_Number q x1 g0).run
theorem leref28_Reader_Number (k : Nat) (x1 : Int) (g0 : Reader) : Le (ref28_Reader_Number (some k) x1 g0) (ref28_Reader_Number none x1 g0) := (TLe.opt (leref03_Get k _ _ _) fun _ => TLe.rfl)
noncomputable def Aref28_Reader_Number : Arg U (Int × Unit) := aP 0 0 (aO (cInt .i64) (aNil))
noncomputable def Gref28_Reader_Number : Bls U (Reader × Unit) := bC cReader (bNil)
noncomputable def Rref28_Reader_Number (_x : Int × Unit) (_g : Reader × Unit) (r : (Int × Reader)) : List (V U) × List (Blk U) := ([vO (cPair (cInt .i64) (cUnit)) (r.1, ())], [.cells ((cPair cReader (cUnit) : Cdc U (Reader × Unit)).enc (r.2, ())) none])
noncomputable def Sref28_Reader_Number : List (V U) → List (Blk U) → Option (FnOut U) := mkSpecG Aref28_Reader_Number Gref28_Reader_Number (fun x g => ref28_Reader_Number none x.1 g.1) Rref28_Reader_Number
noncomputable def Eref28_Reader_Number : Env U := { P := Try.prog, cd := cd, fns := fns69, lps := noL, frz := fun _r => false, nt := 32, n0 := 1 }
theorem rnref28_Reader_Number (x1 : Int) (g0 : Reader) : execX false Eref28_Reader_Number Try.f48 (Aref28_Reader_Number.enc (x1, ())) (Gref28_Reader_Number.enc (g0, ())) = (Tref28_Reader_Number none x1 g0).map (Rref28_Reader_Number (x1, ()) (g0, ())) := by kernel_rfl
theorem runref28_Reader_Number : ∀ (x : Int × Unit) (g : Reader × Unit), execX false Eref28_Reader_Number Try.f48 (Aref28_Reader_Number.enc x) (Gref28_Reader_Number.enc g) = (Tref28_Reader_Number none x.1 g.1).map (Rref28_Reader_Number x g)
  | (x1, ()), (g0, ()) => rnref28_Reader_Number x1 g0
theorem okref28_Reader_Number : FnOk Try.prog cd 48 Sref28_Reader_Number := mk_okG (E := Eref28_Reader_Number) (A := Aref28_Reader_Number) (B := Gref28_Reader_Number) false cd_ok fns69_ok Try.func48 (by kernel_rfl) (noLoops_body (by kernel_rfl)) (aP_ok (aO_ok (cInt_ok .i64) (aNil_ok))) (bC_ok cReader_ok bNil_ok) (T := fun (x : Int × Unit) (g : Reader × Unit) => Tref28_Reader_Number none x.1 g.1) (fun _ _ => rfl) runref28_Reader_Number
/-- (*emulator/emulatorref28.Reader).Symbols -/
structure Sref28_Reader_Symbols_0 where
  t4 : Int
  b0 : Reader
  b1 : (List Symbol)
noncomputable def Wref28_Reader_Symbols_0 (q : Option Nat) (s : Sref28_Reader_Symbols_0) : Tree (Sref28_Reader_Symbols_0 ⊕ (Reader × (List Symbol))) :=
  .ite (decide ((s.b1.length : Int) < s.t4))
    (.ite (!s.b0.bad)
      (.opt ((List UInt8) × Reader) (ref28_Reader_Text q s.b0) fun r336 =>
        .opt (Int × Reader) (ref28_Reader_Number q (1 : Int) r336.2) fun r337 =>
          .opt (Int × Reader) (ref28_Reader_Number q (2 : Int) r337.2) fun r338 =>
            .opt (Int × Reader) (ref28_Reader_Number q (1 : Int) r338.2) fun r339 =>
              .ite (decide ((s.b1.length + ([Symbol.mk r336.1 r337.1 r338.1 (decide (r339.1 = (1 : Int)))]).length) * 40 ≤ 140737488355328))
                (.leaf (.inl (Sref28_Reader_Symbols_0.mk s.t4 r339.2 (s.b1 ++ ([Symbol.mk r336.1 r337.1 r338.1 (decide (r339.1 = (1 : Int)))])))))
                .fail)
      (.leaf (.inr (s.b0, s.b1))))
    (.leaf (.inr (s.b0, s.b1)))
noncomputable def Lref28_Reader_Symbols_0 (q : Option Nat) (s : Sref28_Reader_Symbols_0) : Option (Reader × (List Symbol)) := limQ q (fun s => (Wref28_Reader_Symbols_0 q s).run) s
theorem leLref28_Reader_Symbols_0 (k : Nat) (s : Sref28_Reader_Symbols_0) : Le (Lref28_Reader_Symbols_0 (some k) s) (Lref28_Reader_Symbols_0 none s) := limQ_le (fun s => (TLe.ite (TLe.ite (TLe.opt (leref28_Reader_Text k _) fun _ => (TLe.opt (leref28_Reader_Number k _ _) fun _ => (TLe.opt (leref28_Reader_Number k _ _) fun _ => (TLe.opt (leref28_Reader_Number k _ _) fun _ => TLe.rfl)))) TLe.rfl) TLe.rfl)) s
noncomputable def Tref28_Reader_Symbols (q : Option Nat) (g0 : Reader) : Tree ((List Symbol) × Reader) :=
  .opt (Int × Reader) (ref28_Reader_Number q (2 : Int) g0) fun r335 =>
    .opt (Reader × (List Symbol)) (Lref28_Reader_Symbols_0 q (Sref28_Reader_Symbols_0.mk r335.1 r335.2 ([]))) fun l340 =>
      .leaf ((l340.2, l340.1))
noncomputable def ref28_Reader_Symbols (q : Option Nat) (g0 : Reader) : Option ((List Symbol) × Reader) := (Tref28_Reader_Symbols q g0).run
theorem leref28_Reader_Symbols (k : Nat) (g0 : Reader) : Le (ref28_Reader_Symbols (some k) g0) (ref28_Reader_Symbols none g0) := (TLe.opt (leref28_Reader_Number k _ _) fun _ => (TLe.opt (leLref28_Reader_Symbols_0 k _) fun _ => TLe.rfl))
noncomputable def Aref28_Reader_Symbols : Arg U (Unit) := aP 0 0 (aNil)
noncomputable def Gref28_Reader_Symbols : Bls U (Reader × Unit) := bC cReader (bNil)
noncomputable def Rref28_Reader_Symbols (_x : Unit) (_g : Reader × Unit) (r : ((List Symbol) × Reader)) : List (V U) × List (Blk U) := ([vO (cPair (cSl 75) (cUnit)) (r.1, ())], [.cells ((cPair cReader (cUnit) : Cdc U (Reader × Unit)).enc (r.2, ())) none])
noncomputable def Sref28_Reader_Symbols : List (V U) → List (Blk U) → Option (FnOut U) := mkSpecG Aref28_Reader_Symbols Gref28_Reader_Symbols (fun x g => ref28_Reader_Symbols none g.1) Rref28_Reader_Symbols
noncomputable def Pref28_Reader_Symbols_0 (x : (Unit) × (Unit) × (Int × Unit) × Unit) (g : (Reader × Unit) × (List Symbol) × Unit) : Sref28_Reader_Symbols_0 := Sref28_Reader_Symbols_0.mk x.2.2.1.1 g.1.1 g.2.1
noncomputable def tAref28_Reader_Symbols_0 : Tms U ((Unit) × (Unit) × (Int × Unit) × Unit) := tO 0 (cK (.ptr 0 0) (cUnit)) (tO 3 (cK (.row 1 0) (cUnit)) (tO 4 (cPair (cInt .i64) (cUnit)) (tNil)))
noncomputable def tBref28_Reader_Symbols_0 : Bls U ((Reader × Unit) × (List Symbol) × Unit) := bC (cPair cReader (cUnit)) (bRv 75 0 (bNil))
noncomputable def eSref28_Reader_Symbols_0 (s : Sref28_Reader_Symbols_0) : St U := { tm := [(0, .v (vO (cK (.ptr 0 0) (cUnit)) (()))), (3, .v (vO (cK (.row 1 0) (cUnit)) (()))), (4, .v (vO (cPair (cInt .i64) (cUnit)) (s.t4, ())))], hp := [.cells ((cPair cReader (cUnit) : Cdc U (Reader × Unit)).enc (s.b0, ())) none, .row 75 0 s.b1] }
noncomputable def xSref28_Reader_Symbols_0 (r : (Reader × (List Symbol))) : Ex × St U := (.exit 0, { tm := [(3, .v (vO (cK (.row 1 0) (cUnit)) (())))], hp := [.cells ((cPair cReader (cUnit) : Cdc U (Reader × Unit)).enc (r.1, ())) none, .row 75 0 r.2] })
noncomputable def xTref28_Reader_Symbols_0 (r : (Reader × (List Symbol))) : Tree (Ex × St U) := .leaf (xSref28_Reader_Symbols_0 r)
noncomputable def href28_Reader_Symbols_0 : Hd := { keep := [0, 3, 4], xkeep := [2, 3], own := true }
noncomputable def Eref28_Reader_Symbols : Env U := { P := Try.prog, cd := cd, fns := (addF 48 false (Sref28_Reader_Number) (addF 47 false (Sref28_Reader_Text) fns69)), lps := (addL 0 href28_Reader_Symbols_0 (mkLoop tAref28_Reader_Symbols_0 tBref28_Reader_Symbols_0 Pref28_Reader_Symbols_0 (Lref28_Reader_Symbols_0 none) xTref28_Reader_Symbols_0) noL), frz := fun _r => false, nt := 37, n0 := 1 }
noncomputable def Bref28_Reader_Symbols_0 : Code := (loopAt (Try.f49.body.getD .skip) 0 0).getD .skip
theorem roundref28_Reader_Symbols_0 (s : Sref28_Reader_Symbols_0) : round Eref28_Reader_Symbols href28_Reader_Symbols_0 Bref28_Reader_Symbols_0 0 (eSref28_Reader_Symbols_0 s) = (Wref28_Reader_Symbols_0 none s).map (sumE eSref28_Reader_Symbols_0 xSref28_Reader_Symbols_0) := by kernel_rfl
theorem lpref28_Reader_Symbols_0 : LpOk Eref28_Reader_Symbols Bref28_Reader_Symbols_0 0 := mkLoop_ok (A := tAref28_Reader_Symbols_0) (B := tBref28_Reader_Symbols_0) (f := Pref28_Reader_Symbols_0) (L := Lref28_Reader_Symbols_0 none) (tO_ok (cK_ok cUnit_ok) (tO_ok (cK_ok cUnit_ok) (tO_ok (cPair_ok (cInt_ok .i64) cUnit_ok) tNil_ok))) (bC_ok (cPair_ok cReader_ok cUnit_ok) (bRv_ok bNil_ok)) (enc := eSref28_Reader_Symbols_0) (out := xTref28_Reader_Symbols_0) (outS := xSref28_Reader_Symbols_0) (step := Wref28_Reader_Symbols_0 none) (fun _ => rfl) (fun _ _ => by kernel_rfl) (by kernel_rfl) (fun _ => rfl) roundref28_Reader_Symbols_0
theorem rnref28_Reader_Symbols (g0 : Reader) : execX false Eref28_Reader_Symbols Try.f49 (Aref28_Reader_Symbols.enc ()) (Gref28_Reader_Symbols.enc (g0, ())) = (Tref28_Reader_Symbols none g0).map (Rref28_Reader_Symbols () (g0, ())) := by kernel_rfl
theorem runref28_Reader_Symbols : ∀ (x : Unit) (g : Reader × Unit), execX false Eref28_Reader_Symbols Try.f49 (Aref28_Reader_Symbols.enc x) (Gref28_Reader_Symbols.enc g) = (Tref28_Reader_Symbols none g.1).map (Rref28_Reader_Symbols x g)
  | (), (g0, ()) => rnref28_Reader_Symbols g0
theorem okref28_Reader_Symbols : FnOk Try.prog cd 49 Sref28_Reader_Symbols := mk_okG (E := Eref28_Reader_Symbols) (A := Aref28_Reader_Symbols) (B := Gref28_Reader_Symbols) false cd_ok (addF_ok okref28_Reader_Number (addF_ok okref28_Reader_Text fns69_ok)) Try.func49 (by kernel_rfl) (loops_of (addL_ok lpref28_Reader_Symbols_0 noL_ok)) (aP_ok (aNil_ok)) (bC_ok cReader_ok bNil_ok) (T := fun (x : Unit) (g : Reader × Unit) => Tref28_Reader_Symbols none g.1) (fun _ _ => rfl) runref28_Reader_Symbols
/-- emulator/emulatorref31.Decode -/
noncomputable def Tref31_Decode (q : Option Nat) (x0 : (List UInt8)) : Tree (Image × Int) :=
  .opt ((List UInt8) × Int) (ref03_Open q x0) fun r341 =>
    .ite (!decide (r341.2 = (0 : Int)))
      (.leaf ((Image.mk ([]) ([]) 0 0 ([]), r341.2)))
      (.opt ((List UInt8) × Reader) (ref28_Reader_Text q (Reader.mk r341.1 (4 : Int) false)) fun r342 =>
        .opt ((List UInt8) × Reader) (ref28_Reader_Text q r342.2) fun r343 =>
          .opt (Int × Reader) (ref28_Reader_Number q (2 : Int) r343.2) fun r344 =>
            .opt (Int × Reader) (ref28_Reader_Number q (2 : Int) r344.2) fun r345 =>
              .opt ((List Symbol) × Reader) (ref28_Reader_Symbols q r345.2) fun r346 =>
                .opt ((List UInt8) × Int) (ref31_Encode q (Image.mk r342.1 r343.1 r344.1 r345.1 r346.1)) fun r347 =>
                  .ite (r346.2.bad)
                    (.leaf ((Image.mk ([]) ([]) 0 0 ([]), (9 : Int))))
                    (.ite (!decide (r347.2 = (0 : Int)))
                      (.leaf ((Image.mk ([]) ([]) 0 0 ([]), (9 : Int))))
                      (.ite (!decide (r347.1 = x0))
                        (.leaf ((Image.mk ([]) ([]) 0 0 ([]), (9 : Int))))
                        (.leaf ((Image.mk r342.1 r343.1 r344.1 r345.1 r346.1, (0 : Int)))))))
noncomputable def ref31_Decode (q : Option Nat) (x0 : (List UInt8)) : Option (Image × Int) := (Tref31_Decode q x0).run
theorem leref31_Decode (k : Nat) (x0 : (List UInt8)) : Le (ref31_Decode (some k) x0) (ref31_Decode none x0) := (TLe.opt (leref03_Open k _) fun _ => (TLe.ite TLe.rfl (TLe.opt (leref28_Reader_Text k _) fun _ => (TLe.opt (leref28_Reader_Text k _) fun _ => (TLe.opt (leref28_Reader_Number k _ _) fun _ => (TLe.opt (leref28_Reader_Number k _ _) fun _ => (TLe.opt (leref28_Reader_Symbols k _) fun _ => (TLe.opt (leref31_Encode k _) fun _ => TLe.rfl))))))))
noncomputable def Aref31_Decode : Arg U ((List UInt8) × Unit) := aO cStr (aNil)
noncomputable def Rref31_Decode (r : (Image × Int)) : List (V U) × List (Blk U) := ([vA cImage r.1, vO (cInt .i64) r.2], [])
noncomputable def Sref31_Decode : List (V U) → List (Blk U) → Option (FnOut U) := mkSpec Aref31_Decode bNil (fun x _ => ref31_Decode none x.1) Rref31_Decode
noncomputable def Eref31_Decode : Env U := { P := Try.prog, cd := cd, fns := (addF 49 false (Sref28_Reader_Symbols) (addF 48 false (Sref28_Reader_Number) (addF 47 false (Sref28_Reader_Text) fns69))), lps := noL, frz := fun _r => false, nt := 57, n0 := 0 }
theorem runref31_Decode (x : (List UInt8) × Unit) (g : Unit) : execF Eref31_Decode Try.f20 (Aref31_Decode.enc x) (bNil.enc g) = (Tref31_Decode none x.1).map Rref31_Decode := by kernel_rfl
theorem okref31_Decode : FnOk Try.prog cd 20 Sref31_Decode := mk_ok (E := Eref31_Decode) cd_ok (addF_ok okref28_Reader_Symbols (addF_ok okref28_Reader_Number (addF_ok okref28_Reader_Text fns69_ok))) Try.func20 (by kernel_rfl) (noLoops_body (by kernel_rfl)) (aO_ok cStr_ok (aNil_ok)) bNil_ok (T := fun x _ => Tref31_Decode none x.1) (fun _ _ => rfl) runref31_Decode
noncomputable def fns20 := addF 20 true Sref31_Decode fns69
theorem fns20_ok : ∀ f q t, fns20 f = some (q, t) → FnOk Try.prog cd f t := addF_ok okref31_Decode fns69_ok
/-- emulator/emulatorlaw31.ImageDecodes -/
structure Slaw31_ImageDecodes_0 where
  t19 : Int
  t20 : Int
  b0 : (List (List UInt8))
noncomputable def Wlaw31_ImageDecodes_0 (q : Option Nat) (s : Slaw31_ImageDecodes_0) : Tree (Slaw31_ImageDecodes_0 ⊕ (Bool ⊕ Unit)) :=
  .ite (decide (s.t20 < s.t19))
    (.ite (decide (0 ≤ s.t20))
      (.ite (decide (s.t20 < (s.b0.length : Int)))
        (.opt (List UInt8) (s.b0[(s.t20).toNat]?) fun y350 =>
          .opt (Image × Int) (image_Decode q y350) fun r351 =>
            .opt (Image × Int) (ref31_Decode q y350) fun r352 =>
              .opt Bool (ref31_SameImage q r351.1 r352.1) fun r353 =>
                .ite (!r353)
                  (.leaf (.inr (.inl false)))
                  (.ite (!decide (r351.2 = r352.2))
                    (.leaf (.inr (.inl false)))
                    (.ite (decide (r351.2 = (0 : Int)))
                      (.opt ((List UInt8) × Int) (image_Encode q r351.1) fun r354 =>
                        .ite (!decide (r354.1 = y350))
                          (.leaf (.inr (.inl false)))
                          (.ite (!decide (r354.2 = (0 : Int)))
                            (.leaf (.inr (.inl false)))
                            (.leaf (.inl (Slaw31_ImageDecodes_0.mk s.t19 (IntKind.wrap .i64 (s.t20 + (1 : Int))) s.b0)))))
                      (.leaf (.inl (Slaw31_ImageDecodes_0.mk s.t19 (IntKind.wrap .i64 (s.t20 + (1 : Int))) s.b0))))))
        .fail)
      .fail)
    (.leaf (.inr (.inr ())))
noncomputable def Llaw31_ImageDecodes_0 (q : Option Nat) (s : Slaw31_ImageDecodes_0) : Option (Bool ⊕ Unit) := limQ q (fun s => (Wlaw31_ImageDecodes_0 q s).run) s
theorem leLlaw31_ImageDecodes_0 (k : Nat) (s : Slaw31_ImageDecodes_0) : Le (Llaw31_ImageDecodes_0 (some k) s) (Llaw31_ImageDecodes_0 none s) := limQ_le (fun s => (TLe.ite (TLe.ite (TLe.ite (TLe.opt Le.rfl fun _ => (TLe.opt (leimage_Decode k _) fun _ => (TLe.opt (leref31_Decode k _) fun _ => (TLe.opt (leref31_SameImage k _ _) fun _ => (TLe.ite TLe.rfl (TLe.ite TLe.rfl (TLe.ite (TLe.opt (leimage_Encode k _) fun _ => TLe.rfl) TLe.rfl))))))) TLe.rfl) TLe.rfl) TLe.rfl)) s
noncomputable def Tlaw31_ImageDecodes (q : Option Nat) (x0 : (List UInt8)) : Tree Bool :=
  .ite (decide ((3000 : Int) < (x0.length : Int)))
    (.opt Bool (law31_alive q) fun r348 =>
      .leaf (r348))
    (.opt (List UInt8) (ref03_Seal q x0) fun r349 =>
      .opt (Bool ⊕ Unit) (Llaw31_ImageDecodes_0 q (Slaw31_ImageDecodes_0.mk (([x0, r349]).length : Int) (0 : Int) ([x0, r349]))) fun l355 =>
        .ite (l355.isLeft)
          (.opt Bool (l355.getLeft?) fun a356 =>
            .leaf (a356))
          (.opt Unit (l355.getRight?) fun b357 =>
            .opt Bool (law31_alive q) fun r358 =>
              .leaf (r358)))
noncomputable def law31_ImageDecodes (q : Option Nat) (x0 : (List UInt8)) : Option Bool := (Tlaw31_ImageDecodes q x0).run
theorem lelaw31_ImageDecodes (k : Nat) (x0 : (List UInt8)) : Le (law31_ImageDecodes (some k) x0) (law31_ImageDecodes none x0) := (TLe.ite (TLe.opt (lelaw31_alive k) fun _ => TLe.rfl) (TLe.opt (leref03_Seal k _) fun _ => (TLe.opt (leLlaw31_ImageDecodes_0 k _) fun _ => (TLe.ite TLe.rfl (TLe.opt Le.rfl fun _ => (TLe.opt (lelaw31_alive k) fun _ => TLe.rfl))))))
noncomputable def Alaw31_ImageDecodes : Arg U ((List UInt8) × Unit) := aO cStr (aNil)
noncomputable def Rlaw31_ImageDecodes (r : Bool) : List (V U) × List (Blk U) := ([vO cBool r], [])
noncomputable def Slaw31_ImageDecodes : List (V U) → List (Blk U) → Option (FnOut U) := mkSpec Alaw31_ImageDecodes bNil (fun x _ => law31_ImageDecodes none x.1) Rlaw31_ImageDecodes
noncomputable def Plaw31_ImageDecodes_0 (x : (Unit) × (Int × Unit) × (Int × Unit) × Unit) (g : (List (List UInt8)) × Unit) : Slaw31_ImageDecodes_0 := Slaw31_ImageDecodes_0.mk x.2.1.1 x.2.2.1.1 g.1
noncomputable def tAlaw31_ImageDecodes_0 : Tms U ((Unit) × (Int × Unit) × (Int × Unit) × Unit) := tO 18 (cK (.row 0 0) (cUnit)) (tO 19 (cPair (cInt .i64) (cUnit)) (tO 20 (cPair (cInt .i64) (cUnit)) (tNil)))
noncomputable def tBlaw31_ImageDecodes_0 : Bls U ((List (List UInt8)) × Unit) := bRv 9 0 (bNil)
noncomputable def eSlaw31_ImageDecodes_0 (s : Slaw31_ImageDecodes_0) : St U := { tm := [(18, .v (vO (cK (.row 0 0) (cUnit)) (()))), (19, .v (vO (cPair (cInt .i64) (cUnit)) (s.t19, ()))), (20, .v (vO (cPair (cInt .i64) (cUnit)) (s.t20, ())))], hp := [.row 9 0 s.b0] }
noncomputable def xSlaw31_ImageDecodes_0 : (Bool ⊕ Unit) → Ex × St U
  | .inl r => (.ret, { tm := [(2, .v (vO (cPair cBool (cUnit)) (r, ())))], hp := [] })
  | .inr r => (.exit 0, { tm := [], hp := [] })
noncomputable def xTlaw31_ImageDecodes_0 (y : (Bool ⊕ Unit)) : Tree (Ex × St U) := .ite y.isLeft (.opt Bool y.getLeft? fun r => .leaf (.ret, { tm := [(2, .v (vO (cPair cBool (cUnit)) (r, ())))], hp := [] })) (.opt Unit y.getRight? fun r => .leaf (.exit 0, { tm := [], hp := [] }))
noncomputable def hlaw31_ImageDecodes_0 : Hd := { keep := [18, 19, 20], xkeep := [2], own := false }
noncomputable def Elaw31_ImageDecodes : Env U := { P := Try.prog, cd := cd, fns := fns20, lps := (addL 0 hlaw31_ImageDecodes_0 (mkLoop tAlaw31_ImageDecodes_0 tBlaw31_ImageDecodes_0 Plaw31_ImageDecodes_0 (Llaw31_ImageDecodes_0 none) xTlaw31_ImageDecodes_0) noL), frz := fun _r => false, nt := 59, n0 := 0 }
noncomputable def Blaw31_ImageDecodes_0 : Code := (loopAt (Try.f5.body.getD .skip) 0 0).getD .skip
theorem roundlaw31_ImageDecodes_0 (s : Slaw31_ImageDecodes_0) : round Elaw31_ImageDecodes hlaw31_ImageDecodes_0 Blaw31_ImageDecodes_0 0 (eSlaw31_ImageDecodes_0 s) = (Wlaw31_ImageDecodes_0 none s).map (sumE eSlaw31_ImageDecodes_0 xSlaw31_ImageDecodes_0) := by kernel_rfl
theorem lplaw31_ImageDecodes_0 : LpOk Elaw31_ImageDecodes Blaw31_ImageDecodes_0 0 := mkLoop_ok (A := tAlaw31_ImageDecodes_0) (B := tBlaw31_ImageDecodes_0) (f := Plaw31_ImageDecodes_0) (L := Llaw31_ImageDecodes_0 none) (tO_ok (cK_ok cUnit_ok) (tO_ok (cPair_ok (cInt_ok .i64) cUnit_ok) (tO_ok (cPair_ok (cInt_ok .i64) cUnit_ok) tNil_ok))) (bRv_ok bNil_ok) (enc := eSlaw31_ImageDecodes_0) (out := xTlaw31_ImageDecodes_0) (outS := xSlaw31_ImageDecodes_0) (step := Wlaw31_ImageDecodes_0 none) (fun _ => rfl) (fun _ _ => by kernel_rfl) (by kernel_rfl) (fun b => by cases b <;> rfl) roundlaw31_ImageDecodes_0
theorem runlaw31_ImageDecodes (x : (List UInt8) × Unit) (g : Unit) : execF Elaw31_ImageDecodes Try.f5 (Alaw31_ImageDecodes.enc x) (bNil.enc g) = (Tlaw31_ImageDecodes none x.1).map Rlaw31_ImageDecodes := by kernel_rfl
theorem oklaw31_ImageDecodes : FnOk Try.prog cd 5 Slaw31_ImageDecodes := mk_ok (E := Elaw31_ImageDecodes) cd_ok fns20_ok Try.func5 (by kernel_rfl) (loops_of (addL_ok lplaw31_ImageDecodes_0 noL_ok)) (aO_ok cStr_ok (aNil_ok)) bNil_ok (T := fun x _ => Tlaw31_ImageDecodes none x.1) (fun _ _ => rfl) runlaw31_ImageDecodes
noncomputable def fns5 := addF 5 true Slaw31_ImageDecodes fns20
theorem fns5_ok : ∀ f q t, fns5 f = some (q, t) → FnOk Try.prog cd f t := addF_ok oklaw31_ImageDecodes fns20_ok
/-- emulator/emulatorref08.Size -/
noncomputable def Tref08_Size (x0 : Int) : Tree Bool :=
  .ite (decide ((256 : Int) ≤ x0))
    (.ite (decide (x0 ≤ (32768 : Int)))
      (.ite (decide ((64 : Int) = 0))
        .fail
        (.leaf (decide (((x0).tmod (64 : Int)) = (0 : Int)))))
      (.leaf (false)))
    (.leaf (false))
noncomputable def ref08_Size (x0 : Int) : Option Bool := (Tref08_Size x0).run
noncomputable def Aref08_Size : Arg U (Int × Unit) := aO (cInt .i64) (aNil)
noncomputable def Rref08_Size (r : Bool) : List (V U) × List (Blk U) := ([vO cBool r], [])
noncomputable def Sref08_Size : List (V U) → List (Blk U) → Option (FnOut U) := mkSpec Aref08_Size bNil (fun x _ => ref08_Size x.1) Rref08_Size
noncomputable def Eref08_Size : Env U := { P := Try.prog, cd := cd, fns := fns5, lps := noL, frz := fun _r => false, nt := 14, n0 := 0 }
theorem runref08_Size (x : Int × Unit) (g : Unit) : execF Eref08_Size Try.f51 (Aref08_Size.enc x) (bNil.enc g) = (Tref08_Size x.1).map Rref08_Size := by kernel_rfl
theorem okref08_Size : FnOk Try.prog cd 51 Sref08_Size := mk_ok (E := Eref08_Size) cd_ok fns5_ok Try.func51 (by kernel_rfl) (noLoops_body (by kernel_rfl)) (aO_ok (cInt_ok .i64) (aNil_ok)) bNil_ok (T := fun x _ => Tref08_Size x.1) (fun _ _ => rfl) runref08_Size
noncomputable def fns51 := addF 51 true Sref08_Size fns5
theorem fns51_ok : ∀ f q t, fns51 f = some (q, t) → FnOk Try.prog cd f t := addF_ok okref08_Size fns5_ok
/-- emulator/emulatorref08.Right -/
structure Sref08_Right_0 where
  t0 : (List Int)
  t1 : (List Int)
  t5 : Int
noncomputable def Wref08_Right_0 (s : Sref08_Right_0) : Tree (Sref08_Right_0 ⊕ (((List Int) × (List Int) × Bool) ⊕ ((List Int) × (List Int)))) :=
  .ite (decide (s.t5 < (s.t0.length : Int)))
    (.ite (decide (0 ≤ s.t5))
      (.opt Int (s.t0[(s.t5).toNat]?) fun y360 =>
        .ite (decide (y360 < (0 : Int)))
          (.leaf (.inr (.inl (s.t0, s.t1, false))))
          (.ite (decide (0 ≤ s.t5))
            (.opt Int (s.t0[(s.t5).toNat]?) fun y361 =>
              .ite (decide ((65535 : Int) < y361))
                (.leaf (.inr (.inl (s.t0, s.t1, false))))
                (.leaf (.inl (Sref08_Right_0.mk s.t0 s.t1 (IntKind.wrap .i64 (s.t5 + (1 : Int)))))))
            .fail))
      .fail)
    (.leaf (.inr (.inr (s.t0, s.t1))))
noncomputable def Lref08_Right_0 (q : Option Nat) (s : Sref08_Right_0) : Option (((List Int) × (List Int) × Bool) ⊕ ((List Int) × (List Int))) := limQ q (fun s => (Wref08_Right_0 s).run) s
theorem leLref08_Right_0 (k : Nat) (s : Sref08_Right_0) : Le (Lref08_Right_0 (some k) s) (Lref08_Right_0 none s) := limQ_le (fun _ => Le.rfl) s
structure Sref08_Right_1 where
  t0 : (List Int)
  t1 : (List Int)
  t6 : Int
noncomputable def Wref08_Right_1 (s : Sref08_Right_1) : Tree (Sref08_Right_1 ⊕ (Bool ⊕ Unit)) :=
  .ite (decide (s.t6 < (s.t1.length : Int)))
    (.ite (decide (0 ≤ s.t6))
      (.opt Int (s.t1[(s.t6).toNat]?) fun y365 =>
        .ite (decide (y365 < (0 : Int)))
          (.leaf (.inr (.inl false)))
          (.ite (decide (0 ≤ s.t6))
            (.opt Int (s.t1[(s.t6).toNat]?) fun y366 =>
              .ite (decide ((IntKind.wrap .i64 ((2 : Int) * (s.t0.length : Int))) ≤ y366))
                (.leaf (.inr (.inl false)))
                (.ite (decide (0 ≤ s.t6))
                  (.opt Int (s.t1[(s.t6).toNat]?) fun y367 =>
                    .ite (decide ((2 : Int) = 0))
                      .fail
                      (.ite (!decide (((y367).tmod (2 : Int)) = (0 : Int)))
                        (.leaf (.inr (.inl false)))
                        (.ite (decide ((0 : Int) < s.t6))
                          (.ite (decide (0 ≤ s.t6))
                            (.opt Int (s.t1[(s.t6).toNat]?) fun y368 =>
                              .ite (decide (0 ≤ IntKind.wrap .i64 (s.t6 - (1 : Int))))
                                (.opt Int (s.t1[(IntKind.wrap .i64 (s.t6 - (1 : Int))).toNat]?) fun y369 =>
                                  .ite (decide (y368 ≤ y369))
                                    (.leaf (.inr (.inl false)))
                                    (.leaf (.inl (Sref08_Right_1.mk s.t0 s.t1 (IntKind.wrap .i64 (s.t6 + (1 : Int)))))))
                                .fail)
                            .fail)
                          (.leaf (.inl (Sref08_Right_1.mk s.t0 s.t1 (IntKind.wrap .i64 (s.t6 + (1 : Int)))))))))
                  .fail))
            .fail))
      .fail)
    (.leaf (.inr (.inr ())))
noncomputable def Lref08_Right_1 (q : Option Nat) (s : Sref08_Right_1) : Option (Bool ⊕ Unit) := limQ q (fun s => (Wref08_Right_1 s).run) s
theorem leLref08_Right_1 (k : Nat) (s : Sref08_Right_1) : Le (Lref08_Right_1 (some k) s) (Lref08_Right_1 none s) := limQ_le (fun _ => Le.rfl) s
noncomputable def Tref08_Right (q : Option Nat) (x0 : (List Int)) (x1 : (List Int)) : Tree Bool :=
  .opt Bool (ref08_Size (IntKind.wrap .i64 ((2 : Int) * (x0.length : Int)))) fun r359 =>
    .ite (!r359)
      (.leaf (false))
      (.opt (((List Int) × (List Int) × Bool) ⊕ ((List Int) × (List Int))) (Lref08_Right_0 q (Sref08_Right_0.mk x0 x1 (0 : Int))) fun l362 =>
        .ite (l362.isLeft)
          (.opt ((List Int) × (List Int) × Bool) (l362.getLeft?) fun a363 =>
            .leaf (a363.2.2))
          (.opt ((List Int) × (List Int)) (l362.getRight?) fun b364 =>
            .opt (Bool ⊕ Unit) (Lref08_Right_1 q (Sref08_Right_1.mk b364.1 b364.2 (0 : Int))) fun l370 =>
              .ite (l370.isLeft)
                (.opt Bool (l370.getLeft?) fun a371 =>
                  .leaf (a371))
                (.opt Unit (l370.getRight?) fun b372 =>
                  .leaf (true))))
noncomputable def ref08_Right (q : Option Nat) (x0 : (List Int)) (x1 : (List Int)) : Option Bool := (Tref08_Right q x0 x1).run
theorem leref08_Right (k : Nat) (x0 : (List Int)) (x1 : (List Int)) : Le (ref08_Right (some k) x0 x1) (ref08_Right none x0 x1) := (TLe.opt Le.rfl fun _ => (TLe.ite TLe.rfl (TLe.opt (leLref08_Right_0 k _) fun _ => (TLe.ite TLe.rfl (TLe.opt Le.rfl fun _ => (TLe.opt (leLref08_Right_1 k _) fun _ => TLe.rfl))))))
noncomputable def Aref08_Right : Arg U ((List Int) × (List Int) × Unit) := aO (cSl 3) (aO (cSl 3) (aNil))
noncomputable def Rref08_Right (r : Bool) : List (V U) × List (Blk U) := ([vO cBool r], [])
noncomputable def Sref08_Right : List (V U) → List (Blk U) → Option (FnOut U) := mkSpec Aref08_Right bNil (fun x _ => ref08_Right none x.1 x.2.1) Rref08_Right
noncomputable def Pref08_Right_0 (x : ((List Int) × Unit) × ((List Int) × Unit) × (Int × Unit) × Unit) (_g : Unit) : Sref08_Right_0 := Sref08_Right_0.mk x.1.1 x.2.1.1 x.2.2.1.1
noncomputable def tAref08_Right_0 : Tms U (((List Int) × Unit) × ((List Int) × Unit) × (Int × Unit) × Unit) := tO 0 (cPair (cSl 3) (cUnit)) (tO 1 (cPair (cSl 3) (cUnit)) (tO 5 (cPair (cInt .i64) (cUnit)) (tNil)))
noncomputable def tBref08_Right_0 : Bls U (Unit) := bNil
noncomputable def eSref08_Right_0 (s : Sref08_Right_0) : St U := { tm := [(0, .v (vO (cPair (cSl 3) (cUnit)) (s.t0, ()))), (1, .v (vO (cPair (cSl 3) (cUnit)) (s.t1, ()))), (5, .v (vO (cPair (cInt .i64) (cUnit)) (s.t5, ())))], hp := [] }
noncomputable def xSref08_Right_0 : (((List Int) × (List Int) × Bool) ⊕ ((List Int) × (List Int))) → Ex × St U
  | .inl r => (.ret, { tm := [(0, .v (vO (cPair (cSl 3) (cUnit)) (r.1, ()))), (1, .v (vO (cPair (cSl 3) (cUnit)) (r.2.1, ()))), (4, .v (vO (cPair cBool (cUnit)) (r.2.2, ())))], hp := [] })
  | .inr r => (.exit 0, { tm := [(0, .v (vO (cPair (cSl 3) (cUnit)) (r.1, ()))), (1, .v (vO (cPair (cSl 3) (cUnit)) (r.2, ())))], hp := [] })
noncomputable def xTref08_Right_0 (y : (((List Int) × (List Int) × Bool) ⊕ ((List Int) × (List Int)))) : Tree (Ex × St U) := .ite y.isLeft (.opt ((List Int) × (List Int) × Bool) y.getLeft? fun r => .leaf (.ret, { tm := [(0, .v (vO (cPair (cSl 3) (cUnit)) (r.1, ()))), (1, .v (vO (cPair (cSl 3) (cUnit)) (r.2.1, ()))), (4, .v (vO (cPair cBool (cUnit)) (r.2.2, ())))], hp := [] })) (.opt ((List Int) × (List Int)) y.getRight? fun r => .leaf (.exit 0, { tm := [(0, .v (vO (cPair (cSl 3) (cUnit)) (r.1, ()))), (1, .v (vO (cPair (cSl 3) (cUnit)) (r.2, ())))], hp := [] }))
noncomputable def href08_Right_0 : Hd := { keep := [0, 1, 5], xkeep := [0, 1, 4], own := false }
noncomputable def Pref08_Right_1 (x : ((List Int) × Unit) × ((List Int) × Unit) × (Int × Unit) × Unit) (_g : Unit) : Sref08_Right_1 := Sref08_Right_1.mk x.1.1 x.2.1.1 x.2.2.1.1
noncomputable def tAref08_Right_1 : Tms U (((List Int) × Unit) × ((List Int) × Unit) × (Int × Unit) × Unit) := tO 0 (cPair (cSl 3) (cUnit)) (tO 1 (cPair (cSl 3) (cUnit)) (tO 6 (cPair (cInt .i64) (cUnit)) (tNil)))
noncomputable def tBref08_Right_1 : Bls U (Unit) := bNil
noncomputable def eSref08_Right_1 (s : Sref08_Right_1) : St U := { tm := [(0, .v (vO (cPair (cSl 3) (cUnit)) (s.t0, ()))), (1, .v (vO (cPair (cSl 3) (cUnit)) (s.t1, ()))), (6, .v (vO (cPair (cInt .i64) (cUnit)) (s.t6, ())))], hp := [] }
noncomputable def xSref08_Right_1 : (Bool ⊕ Unit) → Ex × St U
  | .inl r => (.ret, { tm := [(4, .v (vO (cPair cBool (cUnit)) (r, ())))], hp := [] })
  | .inr r => (.exit 2, { tm := [], hp := [] })
noncomputable def xTref08_Right_1 (y : (Bool ⊕ Unit)) : Tree (Ex × St U) := .ite y.isLeft (.opt Bool y.getLeft? fun r => .leaf (.ret, { tm := [(4, .v (vO (cPair cBool (cUnit)) (r, ())))], hp := [] })) (.opt Unit y.getRight? fun r => .leaf (.exit 2, { tm := [], hp := [] }))
noncomputable def href08_Right_1 : Hd := { keep := [0, 1, 6], xkeep := [4], own := false }
noncomputable def Eref08_Right : Env U := { P := Try.prog, cd := cd, fns := fns51, lps := (addL 0 href08_Right_0 (mkLoop tAref08_Right_0 tBref08_Right_0 Pref08_Right_0 (Lref08_Right_0 none) xTref08_Right_0) (addL 1 href08_Right_1 (mkLoop tAref08_Right_1 tBref08_Right_1 Pref08_Right_1 (Lref08_Right_1 none) xTref08_Right_1) noL)), frz := fun _r => false, nt := 75, n0 := 0 }
noncomputable def Bref08_Right_0 : Code := (loopAt (Try.f22.body.getD .skip) 0 0).getD .skip
theorem roundref08_Right_0 (s : Sref08_Right_0) : round Eref08_Right href08_Right_0 Bref08_Right_0 0 (eSref08_Right_0 s) = (Wref08_Right_0 s).map (sumE eSref08_Right_0 xSref08_Right_0) := by kernel_rfl
theorem lpref08_Right_0 : LpOk Eref08_Right Bref08_Right_0 0 := mkLoop_ok (A := tAref08_Right_0) (B := tBref08_Right_0) (f := Pref08_Right_0) (L := Lref08_Right_0 none) (tO_ok (cPair_ok (cSl_ok 3) cUnit_ok) (tO_ok (cPair_ok (cSl_ok 3) cUnit_ok) (tO_ok (cPair_ok (cInt_ok .i64) cUnit_ok) tNil_ok))) bNil_ok (enc := eSref08_Right_0) (out := xTref08_Right_0) (outS := xSref08_Right_0) (step := Wref08_Right_0) (fun _ => rfl) (fun _ _ => by kernel_rfl) (by kernel_rfl) (fun b => by cases b <;> rfl) roundref08_Right_0
noncomputable def Bref08_Right_1 : Code := (loopAt (Try.f22.body.getD .skip) 0 1).getD .skip
theorem roundref08_Right_1 (s : Sref08_Right_1) : round Eref08_Right href08_Right_1 Bref08_Right_1 1 (eSref08_Right_1 s) = (Wref08_Right_1 s).map (sumE eSref08_Right_1 xSref08_Right_1) := by kernel_rfl
theorem lpref08_Right_1 : LpOk Eref08_Right Bref08_Right_1 1 := mkLoop_ok (A := tAref08_Right_1) (B := tBref08_Right_1) (f := Pref08_Right_1) (L := Lref08_Right_1 none) (tO_ok (cPair_ok (cSl_ok 3) cUnit_ok) (tO_ok (cPair_ok (cSl_ok 3) cUnit_ok) (tO_ok (cPair_ok (cInt_ok .i64) cUnit_ok) tNil_ok))) bNil_ok (enc := eSref08_Right_1) (out := xTref08_Right_1) (outS := xSref08_Right_1) (step := Wref08_Right_1) (fun _ => rfl) (fun _ _ => by kernel_rfl) (by kernel_rfl) (fun b => by cases b <;> rfl) roundref08_Right_1
theorem runref08_Right (x : (List Int) × (List Int) × Unit) (g : Unit) : execF Eref08_Right Try.f22 (Aref08_Right.enc x) (bNil.enc g) = (Tref08_Right none x.1 x.2.1).map Rref08_Right := by kernel_rfl
theorem okref08_Right : FnOk Try.prog cd 22 Sref08_Right := mk_ok (E := Eref08_Right) cd_ok fns51_ok Try.func22 (by kernel_rfl) (loops_of (addL_ok lpref08_Right_0 (addL_ok lpref08_Right_1 noL_ok))) (aO_ok (cSl_ok 3) (aO_ok (cSl_ok 3) (aNil_ok))) bNil_ok (T := fun x _ => Tref08_Right none x.1 x.2.1) (fun _ _ => rfl) runref08_Right
noncomputable def fns22 := addF 22 true Sref08_Right fns51
theorem fns22_ok : ∀ f q t, fns22 f = some (q, t) → FnOk Try.prog cd f t := addF_ok okref08_Right fns51_ok
/-- emulator/emulatorref31.Bytes -/
structure Sref31_Bytes_0 where
  b0 : Image
  b1 : (List Int)
noncomputable def Wref31_Bytes_0 (s : Sref31_Bytes_0) : Tree (Sref31_Bytes_0 ⊕ (List Int)) :=
  .opt Int (ref31_Size s.b0) fun r373 =>
    .ite (decide ((s.b1.length : Int) < r373))
      (.ite (decide ((s.b1.length + ([(0 : Int)]).length) * 1 ≤ 140737488355328))
        (.leaf (.inl (Sref31_Bytes_0.mk s.b0 (s.b1 ++ ([(0 : Int)])))))
        .fail)
      (.leaf (.inr s.b1))
noncomputable def Lref31_Bytes_0 (q : Option Nat) (s : Sref31_Bytes_0) : Option (List Int) := limQ q (fun s => (Wref31_Bytes_0 s).run) s
theorem leLref31_Bytes_0 (k : Nat) (s : Sref31_Bytes_0) : Le (Lref31_Bytes_0 (some k) s) (Lref31_Bytes_0 none s) := limQ_le (fun _ => Le.rfl) s
noncomputable def Tref31_Bytes (q : Option Nat) (x0 : Image) : Tree (List Int) :=
  .ite (decide ((x0.text.map fun b => (b.toNat : Int)).length * 1 ≤ 140737488355328))
    (.ite (decide (((x0.text.map fun b => (b.toNat : Int)).length + (x0.data.map fun b => (b.toNat : Int)).length) * 1 ≤ 140737488355328))
      (.opt (List Int) (Lref31_Bytes_0 q (Sref31_Bytes_0.mk x0 ((x0.text.map fun b => (b.toNat : Int)) ++ (x0.data.map fun b => (b.toNat : Int))))) fun l374 =>
        .leaf (l374))
      .fail)
    .fail
noncomputable def ref31_Bytes (q : Option Nat) (x0 : Image) : Option (List Int) := (Tref31_Bytes q x0).run
theorem leref31_Bytes (k : Nat) (x0 : Image) : Le (ref31_Bytes (some k) x0) (ref31_Bytes none x0) := (TLe.ite (TLe.ite (TLe.opt (leLref31_Bytes_0 k _) fun _ => TLe.rfl) TLe.rfl) TLe.rfl)
noncomputable def Aref31_Bytes : Arg U (Image × Unit) := aA cImage (aNil)
noncomputable def Rref31_Bytes (r : (List Int)) : List (V U) × List (Blk U) := ([vO (cSl 5) r], [])
noncomputable def Sref31_Bytes : List (V U) → List (Blk U) → Option (FnOut U) := mkSpec Aref31_Bytes bNil (fun x _ => ref31_Bytes none x.1) Rref31_Bytes
noncomputable def Pref31_Bytes_0 (x : (Unit) × (Unit) × Unit) (g : (Image × Unit) × (List Int) × Unit) : Sref31_Bytes_0 := Sref31_Bytes_0.mk g.1.1 g.2.1
noncomputable def tAref31_Bytes_0 : Tms U ((Unit) × (Unit) × Unit) := tO 1 (cK (.ptr 0 0) (cUnit)) (tO 3 (cK (.row 1 0) (cUnit)) (tNil))
noncomputable def tBref31_Bytes_0 : Bls U ((Image × Unit) × (List Int) × Unit) := bC (cPair cImage (cUnit)) (bRv 5 0 (bNil))
noncomputable def eSref31_Bytes_0 (s : Sref31_Bytes_0) : St U := { tm := [(1, .v (vO (cK (.ptr 0 0) (cUnit)) (()))), (3, .v (vO (cK (.row 1 0) (cUnit)) (())))], hp := [.cells ((cPair cImage (cUnit) : Cdc U (Image × Unit)).enc (s.b0, ())) none, .row 5 0 s.b1] }
noncomputable def xSref31_Bytes_0 (r : (List Int)) : Ex × St U := (.exit 0, { tm := [(3, .v (vO (cK (.row 0 0) (cUnit)) (())))], hp := [.row 5 0 r] })
noncomputable def xTref31_Bytes_0 (r : (List Int)) : Tree (Ex × St U) := .leaf (xSref31_Bytes_0 r)
noncomputable def href31_Bytes_0 : Hd := { keep := [1, 3], xkeep := [2, 3], own := false }
noncomputable def Eref31_Bytes : Env U := { P := Try.prog, cd := cd, fns := fns22, lps := (addL 0 href31_Bytes_0 (mkLoop tAref31_Bytes_0 tBref31_Bytes_0 Pref31_Bytes_0 (Lref31_Bytes_0 none) xTref31_Bytes_0) noL), frz := fun _r => false, nt := 21, n0 := 0 }
noncomputable def Bref31_Bytes_0 : Code := (loopAt (Try.f57.body.getD .skip) 0 0).getD .skip
theorem roundref31_Bytes_0 (s : Sref31_Bytes_0) : round Eref31_Bytes href31_Bytes_0 Bref31_Bytes_0 0 (eSref31_Bytes_0 s) = (Wref31_Bytes_0 s).map (sumE eSref31_Bytes_0 xSref31_Bytes_0) := by kernel_rfl
theorem lpref31_Bytes_0 : LpOk Eref31_Bytes Bref31_Bytes_0 0 := mkLoop_ok (A := tAref31_Bytes_0) (B := tBref31_Bytes_0) (f := Pref31_Bytes_0) (L := Lref31_Bytes_0 none) (tO_ok (cK_ok cUnit_ok) (tO_ok (cK_ok cUnit_ok) tNil_ok)) (bC_ok (cPair_ok cImage_ok cUnit_ok) (bRv_ok bNil_ok)) (enc := eSref31_Bytes_0) (out := xTref31_Bytes_0) (outS := xSref31_Bytes_0) (step := Wref31_Bytes_0) (fun _ => rfl) (fun _ _ => by kernel_rfl) (by kernel_rfl) (fun _ => rfl) roundref31_Bytes_0
theorem runref31_Bytes (x : Image × Unit) (g : Unit) : execF Eref31_Bytes Try.f57 (Aref31_Bytes.enc x) (bNil.enc g) = (Tref31_Bytes none x.1).map Rref31_Bytes := by kernel_rfl
theorem okref31_Bytes : FnOk Try.prog cd 57 Sref31_Bytes := mk_ok (E := Eref31_Bytes) cd_ok fns22_ok Try.func57 (by kernel_rfl) (loops_of (addL_ok lpref31_Bytes_0 noL_ok)) (aA_ok cImage_ok (aNil_ok)) bNil_ok (T := fun x _ => Tref31_Bytes none x.1) (fun _ _ => rfl) runref31_Bytes
noncomputable def fns57 := addF 57 true Sref31_Bytes fns22
theorem fns57_ok : ∀ f q t, fns57 f = some (q, t) → FnOk Try.prog cd f t := addF_ok okref31_Bytes fns22_ok
/-- emulator/emulatorref31.Load -/
structure Sref31_Load_0 where
  t2 : Int
  t9 : (List Int)
  t10 : Int
  b0_0 : (List Int)
  b0_1 : (List Int)
  b0_2 : Int
  b0_3 : Int
  b0_5 : (List Int)
  b0_6 : Bool
  b0_7 : (List Page)
  b0_8 : Int
  b0_9 : Int
  b0_10 : Bool
  b0_11 : Bool
  b0_12 : Int
  b0_13 : Int
  b0_14 : (List Line)
  b0_15 : (List (List UInt8))
  b0_16 : (List Int)
  b0_17 : Bool
  b0_18 : Bool
  b0_19 : Bool
  b0_20 : Int
  b0_21 : Int
  b0_22 : Int
  b0_23 : Int
  b0_24 : Int
  b0_25 : (List (List UInt8))
  b0_26 : Int
  b0_27 : Bool
  b0_28 : Bool
  b0_29 : Bool
  b0_30 : Bool
  b0_31 : Bool
  b0_32 : Int
  b0_33 : Int
  b0_34 : Int
  b0_35 : Int
  b0_36 : Int
  b0_37 : Bool
  b0_38 : Bool
  b0_39 : Int
  b0_40 : Bool
  b1 : Machine
  b2 : (List Int)
noncomputable def Wref31_Load_0 (s : Sref31_Load_0) : Tree (Sref31_Load_0 ⊕ (Int × (List Int) × (List Int) × (List Int) × Int × Int × (List Int) × Bool × (List Page) × Int × Int × Bool × Bool × Int × Int × (List Line) × (List (List UInt8)) × (List Int) × Bool × Bool × Bool × Int × Int × Int × Int × Int × (List (List UInt8)) × Int × Bool × Bool × Bool × Bool × Bool × Int × Int × Int × Int × Int × Bool × Bool × Int × Bool × Machine × (List Int))) :=
  .ite (decide (s.t10 < (s.t9.length : Int)))
    (.ite (decide ((2 : Int) = 0))
      .fail
      (.ite (decide (0 ≤ s.t10))
        (.opt Int (s.t9[(s.t10).toNat]?) fun y378 =>
          .ite (decide (0 ≤ IntKind.wrap .i64 (s.t10 + (1 : Int))))
            (.opt Int (s.t9[(IntKind.wrap .i64 (s.t10 + (1 : Int))).toNat]?) fun y379 =>
              .ite (decide (0 ≤ IntKind.wrap .i64 (((IntKind.wrap .i64 (s.t2 + s.t10))).tdiv (2 : Int))))
                (.ite (decide (IntKind.wrap .i64 (((IntKind.wrap .i64 (s.t2 + s.t10))).tdiv (2 : Int)) < (s.b2.length : Int)))
                  (.opt Int (s.b2[(IntKind.wrap .i64 (((IntKind.wrap .i64 (s.t2 + s.t10))).tdiv (2 : Int))).toNat]?) fun y380 =>
                    .leaf (.inl (Sref31_Load_0.mk s.t2 s.t9 (IntKind.wrap .i64 (s.t10 + (2 : Int))) s.b0_0 s.b0_1 s.b0_2 s.b0_3 s.b0_5 s.b0_6 s.b0_7 s.b0_8 s.b0_9 s.b0_10 s.b0_11 s.b0_12 s.b0_13 s.b0_14 s.b0_15 s.b0_16 s.b0_17 s.b0_18 s.b0_19 s.b0_20 s.b0_21 s.b0_22 s.b0_23 s.b0_24 s.b0_25 s.b0_26 s.b0_27 s.b0_28 s.b0_29 s.b0_30 s.b0_31 s.b0_32 s.b0_33 s.b0_34 s.b0_35 s.b0_36 s.b0_37 s.b0_38 s.b0_39 s.b0_40 s.b1 (s.b2.set ((IntKind.wrap .i64 (((IntKind.wrap .i64 (s.t2 + s.t10))).tdiv (2 : Int))).toNat) (IntKind.wrap .i64 ((IntKind.wrap .i64 y378) + (IntKind.wrap .i64 ((256 : Int) * (IntKind.wrap .i64 y379)))))))))
                  .fail)
                .fail)
            .fail)
        .fail))
    (.leaf (.inr (s.t2, s.t9, s.b0_0, s.b0_1, s.b0_2, s.b0_3, s.b0_5, s.b0_6, s.b0_7, s.b0_8, s.b0_9, s.b0_10, s.b0_11, s.b0_12, s.b0_13, s.b0_14, s.b0_15, s.b0_16, s.b0_17, s.b0_18, s.b0_19, s.b0_20, s.b0_21, s.b0_22, s.b0_23, s.b0_24, s.b0_25, s.b0_26, s.b0_27, s.b0_28, s.b0_29, s.b0_30, s.b0_31, s.b0_32, s.b0_33, s.b0_34, s.b0_35, s.b0_36, s.b0_37, s.b0_38, s.b0_39, s.b0_40, s.b1, s.b2)))
noncomputable def Lref31_Load_0 (q : Option Nat) (s : Sref31_Load_0) : Option (Int × (List Int) × (List Int) × (List Int) × Int × Int × (List Int) × Bool × (List Page) × Int × Int × Bool × Bool × Int × Int × (List Line) × (List (List UInt8)) × (List Int) × Bool × Bool × Bool × Int × Int × Int × Int × Int × (List (List UInt8)) × Int × Bool × Bool × Bool × Bool × Bool × Int × Int × Int × Int × Int × Bool × Bool × Int × Bool × Machine × (List Int)) := limQ q (fun s => (Wref31_Load_0 s).run) s
theorem leLref31_Load_0 (k : Nat) (s : Sref31_Load_0) : Le (Lref31_Load_0 (some k) s) (Lref31_Load_0 none s) := limQ_le (fun _ => Le.rfl) s
structure Sref31_Load_1 where
  t2 : Int
  t9 : (List Int)
  t12 : Int
  b0_0 : (List Int)
  b0_1 : (List Int)
  b0_2 : Int
  b0_3 : Int
  b0_5 : (List Int)
  b0_6 : Bool
  b0_7 : (List Page)
  b0_8 : Int
  b0_9 : Int
  b0_10 : Bool
  b0_11 : Bool
  b0_12 : Int
  b0_13 : Int
  b0_14 : (List Line)
  b0_15 : (List (List UInt8))
  b0_16 : (List Int)
  b0_17 : Bool
  b0_18 : Bool
  b0_19 : Bool
  b0_20 : Int
  b0_21 : Int
  b0_22 : Int
  b0_23 : Int
  b0_24 : Int
  b0_25 : (List (List UInt8))
  b0_26 : Int
  b0_27 : Bool
  b0_28 : Bool
  b0_29 : Bool
  b0_30 : Bool
  b0_31 : Bool
  b0_32 : Int
  b0_33 : Int
  b0_34 : Int
  b0_35 : Int
  b0_36 : Int
  b0_37 : Bool
  b0_38 : Bool
  b0_39 : Int
  b0_40 : Bool
  b1 : Machine
  b2 : (List Int)
  b3 : (List Int)
noncomputable def Wref31_Load_1 (s : Sref31_Load_1) : Tree (Sref31_Load_1 ⊕ ((List Int) × (List Int) × Int × Int × (List Int) × Bool × (List Page) × Int × Int × Bool × Bool × Int × Int × (List Line) × (List (List UInt8)) × (List Int) × Bool × Bool × Bool × Int × Int × Int × Int × Int × (List (List UInt8)) × Int × Bool × Bool × Bool × Bool × Bool × Int × Int × Int × Int × Int × Bool × Bool × Int × Bool × Machine × (List Int) × (List Int))) :=
  .ite (decide (s.t12 < (s.b0_5.length : Int)))
    (.ite (decide (0 ≤ s.t12))
      (.opt Int (s.b0_5[(s.t12).toNat]?) fun y382 =>
        .ite (decide (y382 < s.t2))
          (.ite (decide (0 ≤ s.t12))
            (.opt Int (s.b0_5[(s.t12).toNat]?) fun y384 =>
              .ite (decide ((s.b2.length + ([y384]).length) * 8 ≤ 140737488355328))
                (.leaf (.inl (Sref31_Load_1.mk s.t2 s.t9 (IntKind.wrap .i64 (s.t12 + (1 : Int))) s.b0_0 s.b0_1 s.b0_2 s.b0_3 s.b0_5 s.b0_6 s.b0_7 s.b0_8 s.b0_9 s.b0_10 s.b0_11 s.b0_12 s.b0_13 s.b0_14 s.b0_15 s.b0_16 s.b0_17 s.b0_18 s.b0_19 s.b0_20 s.b0_21 s.b0_22 s.b0_23 s.b0_24 s.b0_25 s.b0_26 s.b0_27 s.b0_28 s.b0_29 s.b0_30 s.b0_31 s.b0_32 s.b0_33 s.b0_34 s.b0_35 s.b0_36 s.b0_37 s.b0_38 s.b0_39 s.b0_40 s.b1 (s.b2 ++ ([y384])) s.b3)))
                .fail)
            .fail)
          (.ite (decide (0 ≤ s.t12))
            (.opt Int (s.b0_5[(s.t12).toNat]?) fun y383 =>
              .ite (decide ((IntKind.wrap .i64 (s.t2 + (s.t9.length : Int))) ≤ y383))
                (.ite (decide (0 ≤ s.t12))
                  (.opt Int (s.b0_5[(s.t12).toNat]?) fun y385 =>
                    .ite (decide ((s.b2.length + ([y385]).length) * 8 ≤ 140737488355328))
                      (.leaf (.inl (Sref31_Load_1.mk s.t2 s.t9 (IntKind.wrap .i64 (s.t12 + (1 : Int))) s.b0_0 s.b0_1 s.b0_2 s.b0_3 s.b0_5 s.b0_6 s.b0_7 s.b0_8 s.b0_9 s.b0_10 s.b0_11 s.b0_12 s.b0_13 s.b0_14 s.b0_15 s.b0_16 s.b0_17 s.b0_18 s.b0_19 s.b0_20 s.b0_21 s.b0_22 s.b0_23 s.b0_24 s.b0_25 s.b0_26 s.b0_27 s.b0_28 s.b0_29 s.b0_30 s.b0_31 s.b0_32 s.b0_33 s.b0_34 s.b0_35 s.b0_36 s.b0_37 s.b0_38 s.b0_39 s.b0_40 s.b1 (s.b2 ++ ([y385])) s.b3)))
                      .fail)
                  .fail)
                (.leaf (.inl (Sref31_Load_1.mk s.t2 s.t9 (IntKind.wrap .i64 (s.t12 + (1 : Int))) s.b0_0 s.b0_1 s.b0_2 s.b0_3 s.b0_5 s.b0_6 s.b0_7 s.b0_8 s.b0_9 s.b0_10 s.b0_11 s.b0_12 s.b0_13 s.b0_14 s.b0_15 s.b0_16 s.b0_17 s.b0_18 s.b0_19 s.b0_20 s.b0_21 s.b0_22 s.b0_23 s.b0_24 s.b0_25 s.b0_26 s.b0_27 s.b0_28 s.b0_29 s.b0_30 s.b0_31 s.b0_32 s.b0_33 s.b0_34 s.b0_35 s.b0_36 s.b0_37 s.b0_38 s.b0_39 s.b0_40 s.b1 s.b2 s.b3))))
            .fail))
      .fail)
    (.leaf (.inr (s.b0_0, s.b0_1, s.b0_2, s.b0_3, s.b0_5, s.b0_6, s.b0_7, s.b0_8, s.b0_9, s.b0_10, s.b0_11, s.b0_12, s.b0_13, s.b0_14, s.b0_15, s.b0_16, s.b0_17, s.b0_18, s.b0_19, s.b0_20, s.b0_21, s.b0_22, s.b0_23, s.b0_24, s.b0_25, s.b0_26, s.b0_27, s.b0_28, s.b0_29, s.b0_30, s.b0_31, s.b0_32, s.b0_33, s.b0_34, s.b0_35, s.b0_36, s.b0_37, s.b0_38, s.b0_39, s.b0_40, s.b1, s.b2, s.b3)))
noncomputable def Lref31_Load_1 (q : Option Nat) (s : Sref31_Load_1) : Option ((List Int) × (List Int) × Int × Int × (List Int) × Bool × (List Page) × Int × Int × Bool × Bool × Int × Int × (List Line) × (List (List UInt8)) × (List Int) × Bool × Bool × Bool × Int × Int × Int × Int × Int × (List (List UInt8)) × Int × Bool × Bool × Bool × Bool × Bool × Int × Int × Int × Int × Int × Bool × Bool × Int × Bool × Machine × (List Int) × (List Int)) := limQ q (fun s => (Wref31_Load_1 s).run) s
theorem leLref31_Load_1 (k : Nat) (s : Sref31_Load_1) : Le (Lref31_Load_1 (some k) s) (Lref31_Load_1 none s) := limQ_le (fun _ => Le.rfl) s
noncomputable def Tref31_Load (q : Option Nat) (x0 : Machine) (x1 : Image) (x2 : Int) : Tree (Machine × Int) :=
  .opt Int (ref31_Check q x1) fun r375 =>
    .ite (!decide (r375 = (0 : Int)))
      (.leaf ((Machine.mk (Cpu.mk (List.replicate 6 (0 : Int)) (List.replicate 2 (0 : Int)) 0 0) ([]) ([]) (Mmu.mk false (List.replicate 16 (Page.mk (0 : Int) (0 : Int) (0 : Int) false)) 0 0) (Clock.mk false false 0 0) ([]) (Disk.mk (Drive.mk ([]) ([])) false false false 0 0 0 0 0) (Tape.mk ([]) 0 false false false false false 0 0 0 0) 0 false false 0 false, r375)))
      (.ite (decide (x2 < (0 : Int)))
        (.leaf ((Machine.mk (Cpu.mk (List.replicate 6 (0 : Int)) (List.replicate 2 (0 : Int)) 0 0) ([]) ([]) (Mmu.mk false (List.replicate 16 (Page.mk (0 : Int) (0 : Int) (0 : Int) false)) 0 0) (Clock.mk false false 0 0) ([]) (Disk.mk (Drive.mk ([]) ([])) false false false 0 0 0 0 0) (Tape.mk ([]) 0 false false false false false 0 0 0 0) 0 false false 0 false, (1 : Int))))
        (.ite (decide ((2 : Int) = 0))
          .fail
          (.ite (!decide (((x2).tmod (2 : Int)) = (0 : Int)))
            (.leaf ((Machine.mk (Cpu.mk (List.replicate 6 (0 : Int)) (List.replicate 2 (0 : Int)) 0 0) ([]) ([]) (Mmu.mk false (List.replicate 16 (Page.mk (0 : Int) (0 : Int) (0 : Int) false)) 0 0) (Clock.mk false false 0 0) ([]) (Disk.mk (Drive.mk ([]) ([])) false false false 0 0 0 0 0) (Tape.mk ([]) 0 false false false false false 0 0 0 0) 0 false false 0 false, (1 : Int))))
            (.ite (decide ((IntKind.wrap .i64 ((2 : Int) * (x0.mem.length : Int))) < x2))
              (.leaf ((Machine.mk (Cpu.mk (List.replicate 6 (0 : Int)) (List.replicate 2 (0 : Int)) 0 0) ([]) ([]) (Mmu.mk false (List.replicate 16 (Page.mk (0 : Int) (0 : Int) (0 : Int) false)) 0 0) (Clock.mk false false 0 0) ([]) (Disk.mk (Drive.mk ([]) ([])) false false false 0 0 0 0 0) (Tape.mk ([]) 0 false false false false false 0 0 0 0) 0 false false 0 false, (26 : Int))))
              (.opt Int (ref31_Size x1) fun r376 =>
                .ite (decide ((IntKind.wrap .i64 ((2 : Int) * (x0.mem.length : Int))) < (IntKind.wrap .i64 (x2 + r376))))
                  (.leaf ((Machine.mk (Cpu.mk (List.replicate 6 (0 : Int)) (List.replicate 2 (0 : Int)) 0 0) ([]) ([]) (Mmu.mk false (List.replicate 16 (Page.mk (0 : Int) (0 : Int) (0 : Int) false)) 0 0) (Clock.mk false false 0 0) ([]) (Disk.mk (Drive.mk ([]) ([])) false false false 0 0 0 0 0) (Tape.mk ([]) 0 false false false false false 0 0 0 0) 0 false false 0 false, (26 : Int))))
                  (.opt (List Int) (ref31_Bytes q x1) fun r377 =>
                    .ite (decide ((([] : List Int).length + x0.mem.length) * 8 ≤ 140737488355328))
                      (.opt (Int × (List Int) × (List Int) × (List Int) × Int × Int × (List Int) × Bool × (List Page) × Int × Int × Bool × Bool × Int × Int × (List Line) × (List (List UInt8)) × (List Int) × Bool × Bool × Bool × Int × Int × Int × Int × Int × (List (List UInt8)) × Int × Bool × Bool × Bool × Bool × Bool × Int × Int × Int × Int × Int × Bool × Bool × Int × Bool × Machine × (List Int)) (Lref31_Load_0 q (Sref31_Load_0.mk x2 r377 (0 : Int) x0.cpu.r x0.cpu.sP x0.cpu.pC x0.cpu.pSW x0.bad x0.mmu.on x0.mmu.pages x0.mmu.status x0.mmu.addr x0.clock.enable x0.clock.ready x0.clock.period x0.clock.left x0.lines x0.disk.drive.sectors x0.disk.drive.bad x0.disk.enable x0.disk.ready x0.disk.error x0.disk.command x0.disk.words x0.disk.addr x0.disk.start x0.disk.left x0.tape.records x0.tape.pos x0.tape.enable x0.tape.ready x0.tape.error x0.tape.mark x0.tape.end_ x0.tape.command x0.tape.count x0.tape.addr x0.tape.left x0.now x0.halted x0.waiting x0.power x0.powerTrap (Machine.mk (Cpu.mk (List.replicate 6 (0 : Int)) (List.replicate 2 (0 : Int)) 0 0) ([]) ([]) (Mmu.mk false (List.replicate 16 (Page.mk (0 : Int) (0 : Int) (0 : Int) false)) 0 0) (Clock.mk false false 0 0) ([]) (Disk.mk (Drive.mk ([]) ([])) false false false 0 0 0 0 0) (Tape.mk ([]) 0 false false false false false 0 0 0 0) 0 false false 0 false) (([] : List Int) ++ x0.mem))) fun l381 =>
                        .opt ((List Int) × (List Int) × Int × Int × (List Int) × Bool × (List Page) × Int × Int × Bool × Bool × Int × Int × (List Line) × (List (List UInt8)) × (List Int) × Bool × Bool × Bool × Int × Int × Int × Int × Int × (List (List UInt8)) × Int × Bool × Bool × Bool × Bool × Bool × Int × Int × Int × Int × Int × Bool × Bool × Int × Bool × Machine × (List Int) × (List Int)) (Lref31_Load_1 q (Sref31_Load_1.mk l381.1 l381.2.1 (0 : Int) l381.2.2.1 l381.2.2.2.1 l381.2.2.2.2.1 l381.2.2.2.2.2.1 l381.2.2.2.2.2.2.1 l381.2.2.2.2.2.2.2.1 l381.2.2.2.2.2.2.2.2.1 l381.2.2.2.2.2.2.2.2.2.1 l381.2.2.2.2.2.2.2.2.2.2.1 l381.2.2.2.2.2.2.2.2.2.2.2.1 l381.2.2.2.2.2.2.2.2.2.2.2.2.1 l381.2.2.2.2.2.2.2.2.2.2.2.2.2.1 l381.2.2.2.2.2.2.2.2.2.2.2.2.2.2.1 l381.2.2.2.2.2.2.2.2.2.2.2.2.2.2.2.1 l381.2.2.2.2.2.2.2.2.2.2.2.2.2.2.2.2.1 l381.2.2.2.2.2.2.2.2.2.2.2.2.2.2.2.2.2.1 l381.2.2.2.2.2.2.2.2.2.2.2.2.2.2.2.2.2.2.1 l381.2.2.2.2.2.2.2.2.2.2.2.2.2.2.2.2.2.2.2.1 l381.2.2.2.2.2.2.2.2.2.2.2.2.2.2.2.2.2.2.2.2.1 l381.2.2.2.2.2.2.2.2.2.2.2.2.2.2.2.2.2.2.2.2.2.1 l381.2.2.2.2.2.2.2.2.2.2.2.2.2.2.2.2.2.2.2.2.2.2.1 l381.2.2.2.2.2.2.2.2.2.2.2.2.2.2.2.2.2.2.2.2.2.2.2.1 l381.2.2.2.2.2.2.2.2.2.2.2.2.2.2.2.2.2.2.2.2.2.2.2.2.1 l381.2.2.2.2.2.2.2.2.2.2.2.2.2.2.2.2.2.2.2.2.2.2.2.2.2.1 l381.2.2.2.2.2.2.2.2.2.2.2.2.2.2.2.2.2.2.2.2.2.2.2.2.2.2.1 l381.2.2.2.2.2.2.2.2.2.2.2.2.2.2.2.2.2.2.2.2.2.2.2.2.2.2.2.1 l381.2.2.2.2.2.2.2.2.2.2.2.2.2.2.2.2.2.2.2.2.2.2.2.2.2.2.2.2.1 l381.2.2.2.2.2.2.2.2.2.2.2.2.2.2.2.2.2.2.2.2.2.2.2.2.2.2.2.2.2.1 l381.2.2.2.2.2.2.2.2.2.2.2.2.2.2.2.2.2.2.2.2.2.2.2.2.2.2.2.2.2.2.1 l381.2.2.2.2.2.2.2.2.2.2.2.2.2.2.2.2.2.2.2.2.2.2.2.2.2.2.2.2.2.2.2.1 l381.2.2.2.2.2.2.2.2.2.2.2.2.2.2.2.2.2.2.2.2.2.2.2.2.2.2.2.2.2.2.2.2.1 l381.2.2.2.2.2.2.2.2.2.2.2.2.2.2.2.2.2.2.2.2.2.2.2.2.2.2.2.2.2.2.2.2.2.1 l381.2.2.2.2.2.2.2.2.2.2.2.2.2.2.2.2.2.2.2.2.2.2.2.2.2.2.2.2.2.2.2.2.2.2.1 l381.2.2.2.2.2.2.2.2.2.2.2.2.2.2.2.2.2.2.2.2.2.2.2.2.2.2.2.2.2.2.2.2.2.2.2.1 l381.2.2.2.2.2.2.2.2.2.2.2.2.2.2.2.2.2.2.2.2.2.2.2.2.2.2.2.2.2.2.2.2.2.2.2.2.1 l381.2.2.2.2.2.2.2.2.2.2.2.2.2.2.2.2.2.2.2.2.2.2.2.2.2.2.2.2.2.2.2.2.2.2.2.2.2.1 l381.2.2.2.2.2.2.2.2.2.2.2.2.2.2.2.2.2.2.2.2.2.2.2.2.2.2.2.2.2.2.2.2.2.2.2.2.2.2.1 l381.2.2.2.2.2.2.2.2.2.2.2.2.2.2.2.2.2.2.2.2.2.2.2.2.2.2.2.2.2.2.2.2.2.2.2.2.2.2.2.1 l381.2.2.2.2.2.2.2.2.2.2.2.2.2.2.2.2.2.2.2.2.2.2.2.2.2.2.2.2.2.2.2.2.2.2.2.2.2.2.2.2.1 l381.2.2.2.2.2.2.2.2.2.2.2.2.2.2.2.2.2.2.2.2.2.2.2.2.2.2.2.2.2.2.2.2.2.2.2.2.2.2.2.2.2.1 l381.2.2.2.2.2.2.2.2.2.2.2.2.2.2.2.2.2.2.2.2.2.2.2.2.2.2.2.2.2.2.2.2.2.2.2.2.2.2.2.2.2.2.1 ([]) l381.2.2.2.2.2.2.2.2.2.2.2.2.2.2.2.2.2.2.2.2.2.2.2.2.2.2.2.2.2.2.2.2.2.2.2.2.2.2.2.2.2.2.2)) fun l386 =>
                          .leaf ((Machine.mk (Cpu.mk l386.1 l386.2.1 l386.2.2.1 l386.2.2.2.1) l386.2.2.2.2.2.2.2.2.2.2.2.2.2.2.2.2.2.2.2.2.2.2.2.2.2.2.2.2.2.2.2.2.2.2.2.2.2.2.2.2.2.2 l386.2.2.2.2.2.2.2.2.2.2.2.2.2.2.2.2.2.2.2.2.2.2.2.2.2.2.2.2.2.2.2.2.2.2.2.2.2.2.2.2.2.1 (Mmu.mk l386.2.2.2.2.2.1 l386.2.2.2.2.2.2.1 l386.2.2.2.2.2.2.2.1 l386.2.2.2.2.2.2.2.2.1) (Clock.mk l386.2.2.2.2.2.2.2.2.2.1 l386.2.2.2.2.2.2.2.2.2.2.1 l386.2.2.2.2.2.2.2.2.2.2.2.1 l386.2.2.2.2.2.2.2.2.2.2.2.2.1) l386.2.2.2.2.2.2.2.2.2.2.2.2.2.1 (Disk.mk (Drive.mk l386.2.2.2.2.2.2.2.2.2.2.2.2.2.2.1 l386.2.2.2.2.2.2.2.2.2.2.2.2.2.2.2.1) l386.2.2.2.2.2.2.2.2.2.2.2.2.2.2.2.2.1 l386.2.2.2.2.2.2.2.2.2.2.2.2.2.2.2.2.2.1 l386.2.2.2.2.2.2.2.2.2.2.2.2.2.2.2.2.2.2.1 l386.2.2.2.2.2.2.2.2.2.2.2.2.2.2.2.2.2.2.2.1 l386.2.2.2.2.2.2.2.2.2.2.2.2.2.2.2.2.2.2.2.2.1 l386.2.2.2.2.2.2.2.2.2.2.2.2.2.2.2.2.2.2.2.2.2.1 l386.2.2.2.2.2.2.2.2.2.2.2.2.2.2.2.2.2.2.2.2.2.2.1 l386.2.2.2.2.2.2.2.2.2.2.2.2.2.2.2.2.2.2.2.2.2.2.2.1) (Tape.mk l386.2.2.2.2.2.2.2.2.2.2.2.2.2.2.2.2.2.2.2.2.2.2.2.2.1 l386.2.2.2.2.2.2.2.2.2.2.2.2.2.2.2.2.2.2.2.2.2.2.2.2.2.1 l386.2.2.2.2.2.2.2.2.2.2.2.2.2.2.2.2.2.2.2.2.2.2.2.2.2.2.1 l386.2.2.2.2.2.2.2.2.2.2.2.2.2.2.2.2.2.2.2.2.2.2.2.2.2.2.2.1 l386.2.2.2.2.2.2.2.2.2.2.2.2.2.2.2.2.2.2.2.2.2.2.2.2.2.2.2.2.1 l386.2.2.2.2.2.2.2.2.2.2.2.2.2.2.2.2.2.2.2.2.2.2.2.2.2.2.2.2.2.1 l386.2.2.2.2.2.2.2.2.2.2.2.2.2.2.2.2.2.2.2.2.2.2.2.2.2.2.2.2.2.2.1 l386.2.2.2.2.2.2.2.2.2.2.2.2.2.2.2.2.2.2.2.2.2.2.2.2.2.2.2.2.2.2.2.1 l386.2.2.2.2.2.2.2.2.2.2.2.2.2.2.2.2.2.2.2.2.2.2.2.2.2.2.2.2.2.2.2.2.1 l386.2.2.2.2.2.2.2.2.2.2.2.2.2.2.2.2.2.2.2.2.2.2.2.2.2.2.2.2.2.2.2.2.2.1 l386.2.2.2.2.2.2.2.2.2.2.2.2.2.2.2.2.2.2.2.2.2.2.2.2.2.2.2.2.2.2.2.2.2.2.1) l386.2.2.2.2.2.2.2.2.2.2.2.2.2.2.2.2.2.2.2.2.2.2.2.2.2.2.2.2.2.2.2.2.2.2.2.1 l386.2.2.2.2.2.2.2.2.2.2.2.2.2.2.2.2.2.2.2.2.2.2.2.2.2.2.2.2.2.2.2.2.2.2.2.2.1 l386.2.2.2.2.2.2.2.2.2.2.2.2.2.2.2.2.2.2.2.2.2.2.2.2.2.2.2.2.2.2.2.2.2.2.2.2.2.1 l386.2.2.2.2.2.2.2.2.2.2.2.2.2.2.2.2.2.2.2.2.2.2.2.2.2.2.2.2.2.2.2.2.2.2.2.2.2.2.1 l386.2.2.2.2.2.2.2.2.2.2.2.2.2.2.2.2.2.2.2.2.2.2.2.2.2.2.2.2.2.2.2.2.2.2.2.2.2.2.2.1, (0 : Int))))
                      .fail))))))
noncomputable def ref31_Load (q : Option Nat) (x0 : Machine) (x1 : Image) (x2 : Int) : Option (Machine × Int) := (Tref31_Load q x0 x1 x2).run
theorem leref31_Load (k : Nat) (x0 : Machine) (x1 : Image) (x2 : Int) : Le (ref31_Load (some k) x0 x1 x2) (ref31_Load none x0 x1 x2) := (TLe.opt (leref31_Check k _) fun _ => (TLe.ite TLe.rfl (TLe.ite TLe.rfl (TLe.ite TLe.rfl (TLe.ite TLe.rfl (TLe.ite TLe.rfl (TLe.opt Le.rfl fun _ => (TLe.ite TLe.rfl (TLe.opt (leref31_Bytes k _) fun _ => (TLe.ite (TLe.opt (leLref31_Load_0 k _) fun _ => (TLe.opt (leLref31_Load_1 k _) fun _ => TLe.rfl)) TLe.rfl))))))))))
noncomputable def Aref31_Load : Arg U (Machine × Image × Int × Unit) := aA cMachine (aA cImage (aO (cInt .i64) (aNil)))
noncomputable def Rref31_Load (r : (Machine × Int)) : List (V U) × List (Blk U) := ([vA cMachine r.1, vO (cInt .i64) r.2], [])
noncomputable def Sref31_Load : List (V U) → List (Blk U) → Option (FnOut U) := mkSpec Aref31_Load bNil (fun x _ => ref31_Load none x.1 x.2.1 x.2.2.1) Rref31_Load
noncomputable def Pref31_Load_0 (x : (Int × Unit) × (Unit) × (Unit) × ((List Int) × Unit) × (Int × Unit) × Unit) (g : ((List Int) × (List Int) × Int × Int × (List Int) × Bool × (List Page) × Int × Int × Bool × Bool × Int × Int × (List Line) × (List (List UInt8)) × (List Int) × Bool × Bool × Bool × Int × Int × Int × Int × Int × (List (List UInt8)) × Int × Bool × Bool × Bool × Bool × Bool × Int × Int × Int × Int × Int × Bool × Bool × Int × Bool × Unit) × (Machine × Unit) × (List Int) × Unit) : Sref31_Load_0 := Sref31_Load_0.mk x.1.1 x.2.2.2.1.1 x.2.2.2.2.1.1 g.1.1 g.1.2.1 g.1.2.2.1 g.1.2.2.2.1 g.1.2.2.2.2.1 g.1.2.2.2.2.2.1 g.1.2.2.2.2.2.2.1 g.1.2.2.2.2.2.2.2.1 g.1.2.2.2.2.2.2.2.2.1 g.1.2.2.2.2.2.2.2.2.2.1 g.1.2.2.2.2.2.2.2.2.2.2.1 g.1.2.2.2.2.2.2.2.2.2.2.2.1 g.1.2.2.2.2.2.2.2.2.2.2.2.2.1 g.1.2.2.2.2.2.2.2.2.2.2.2.2.2.1 g.1.2.2.2.2.2.2.2.2.2.2.2.2.2.2.1 g.1.2.2.2.2.2.2.2.2.2.2.2.2.2.2.2.1 g.1.2.2.2.2.2.2.2.2.2.2.2.2.2.2.2.2.1 g.1.2.2.2.2.2.2.2.2.2.2.2.2.2.2.2.2.2.1 g.1.2.2.2.2.2.2.2.2.2.2.2.2.2.2.2.2.2.2.1 g.1.2.2.2.2.2.2.2.2.2.2.2.2.2.2.2.2.2.2.2.1 g.1.2.2.2.2.2.2.2.2.2.2.2.2.2.2.2.2.2.2.2.2.1 g.1.2.2.2.2.2.2.2.2.2.2.2.2.2.2.2.2.2.2.2.2.2.1 g.1.2.2.2.2.2.2.2.2.2.2.2.2.2.2.2.2.2.2.2.2.2.2.1 g.1.2.2.2.2.2.2.2.2.2.2.2.2.2.2.2.2.2.2.2.2.2.2.2.1 g.1.2.2.2.2.2.2.2.2.2.2.2.2.2.2.2.2.2.2.2.2.2.2.2.2.1 g.1.2.2.2.2.2.2.2.2.2.2.2.2.2.2.2.2.2.2.2.2.2.2.2.2.2.1 g.1.2.2.2.2.2.2.2.2.2.2.2.2.2.2.2.2.2.2.2.2.2.2.2.2.2.2.1 g.1.2.2.2.2.2.2.2.2.2.2.2.2.2.2.2.2.2.2.2.2.2.2.2.2.2.2.2.1 g.1.2.2.2.2.2.2.2.2.2.2.2.2.2.2.2.2.2.2.2.2.2.2.2.2.2.2.2.2.1 g.1.2.2.2.2.2.2.2.2.2.2.2.2.2.2.2.2.2.2.2.2.2.2.2.2.2.2.2.2.2.1 g.1.2.2.2.2.2.2.2.2.2.2.2.2.2.2.2.2.2.2.2.2.2.2.2.2.2.2.2.2.2.2.1 g.1.2.2.2.2.2.2.2.2.2.2.2.2.2.2.2.2.2.2.2.2.2.2.2.2.2.2.2.2.2.2.2.1 g.1.2.2.2.2.2.2.2.2.2.2.2.2.2.2.2.2.2.2.2.2.2.2.2.2.2.2.2.2.2.2.2.2.1 g.1.2.2.2.2.2.2.2.2.2.2.2.2.2.2.2.2.2.2.2.2.2.2.2.2.2.2.2.2.2.2.2.2.2.1 g.1.2.2.2.2.2.2.2.2.2.2.2.2.2.2.2.2.2.2.2.2.2.2.2.2.2.2.2.2.2.2.2.2.2.2.1 g.1.2.2.2.2.2.2.2.2.2.2.2.2.2.2.2.2.2.2.2.2.2.2.2.2.2.2.2.2.2.2.2.2.2.2.2.1 g.1.2.2.2.2.2.2.2.2.2.2.2.2.2.2.2.2.2.2.2.2.2.2.2.2.2.2.2.2.2.2.2.2.2.2.2.2.1 g.1.2.2.2.2.2.2.2.2.2.2.2.2.2.2.2.2.2.2.2.2.2.2.2.2.2.2.2.2.2.2.2.2.2.2.2.2.2.1 g.1.2.2.2.2.2.2.2.2.2.2.2.2.2.2.2.2.2.2.2.2.2.2.2.2.2.2.2.2.2.2.2.2.2.2.2.2.2.2.1 g.1.2.2.2.2.2.2.2.2.2.2.2.2.2.2.2.2.2.2.2.2.2.2.2.2.2.2.2.2.2.2.2.2.2.2.2.2.2.2.2.1 g.2.1.1 g.2.2.1
noncomputable def tAref31_Load_0 : Tms U ((Int × Unit) × (Unit) × (Unit) × ((List Int) × Unit) × (Int × Unit) × Unit) := tO 2 (cPair (cInt .i64) (cUnit)) (tO 3 (cK (.ptr 0 0) (cUnit)) (tO 6 (cK (.ptr 1 0) (cUnit)) (tO 9 (cPair (cSl 5) (cUnit)) (tO 10 (cPair (cInt .i64) (cUnit)) (tNil)))))
noncomputable def tBref31_Load_0 : Bls U (((List Int) × (List Int) × Int × Int × (List Int) × Bool × (List Page) × Int × Int × Bool × Bool × Int × Int × (List Line) × (List (List UInt8)) × (List Int) × Bool × Bool × Bool × Int × Int × Int × Int × Int × (List (List UInt8)) × Int × Bool × Bool × Bool × Bool × Bool × Int × Int × Int × Int × Int × Bool × Bool × Int × Bool × Unit) × (Machine × Unit) × (List Int) × Unit) := bC (cPair (cArr 3 6) (cPair (cArr 3 2) (cPair (cInt .i64) (cPair (cInt .i64) (cK (.row 2 0) (cPair (cSl 3) (cPair cBool (cPair (cArr 44 16) (cPair (cInt .i64) (cPair (cInt .i64) (cPair cBool (cPair cBool (cPair (cInt .i64) (cPair (cInt .i64) (cPair (cSl 144) (cPair (cSl 9) (cPair (cSl 3) (cPair cBool (cPair cBool (cPair cBool (cPair (cInt .i64) (cPair (cInt .i64) (cPair (cInt .i64) (cPair (cInt .i64) (cPair (cInt .i64) (cPair (cSl 9) (cPair (cInt .i64) (cPair cBool (cPair cBool (cPair cBool (cPair cBool (cPair cBool (cPair (cInt .i64) (cPair (cInt .i64) (cPair (cInt .i64) (cPair (cInt .i64) (cPair (cInt .i64) (cPair cBool (cPair cBool (cPair (cInt .i64) (cPair cBool (cUnit)))))))))))))))))))))))))))))))))))))))))) (bC (cPair cMachine (cUnit)) (bRv 3 0 (bNil)))
noncomputable def eSref31_Load_0 (s : Sref31_Load_0) : St U := { tm := [(2, .v (vO (cPair (cInt .i64) (cUnit)) (s.t2, ()))), (3, .v (vO (cK (.ptr 0 0) (cUnit)) (()))), (6, .v (vO (cK (.ptr 1 0) (cUnit)) (()))), (9, .v (vO (cPair (cSl 5) (cUnit)) (s.t9, ()))), (10, .v (vO (cPair (cInt .i64) (cUnit)) (s.t10, ())))], hp := [.cells ((cPair (cArr 3 6) (cPair (cArr 3 2) (cPair (cInt .i64) (cPair (cInt .i64) (cK (.row 2 0) (cPair (cSl 3) (cPair cBool (cPair (cArr 44 16) (cPair (cInt .i64) (cPair (cInt .i64) (cPair cBool (cPair cBool (cPair (cInt .i64) (cPair (cInt .i64) (cPair (cSl 144) (cPair (cSl 9) (cPair (cSl 3) (cPair cBool (cPair cBool (cPair cBool (cPair (cInt .i64) (cPair (cInt .i64) (cPair (cInt .i64) (cPair (cInt .i64) (cPair (cInt .i64) (cPair (cSl 9) (cPair (cInt .i64) (cPair cBool (cPair cBool (cPair cBool (cPair cBool (cPair cBool (cPair (cInt .i64) (cPair (cInt .i64) (cPair (cInt .i64) (cPair (cInt .i64) (cPair (cInt .i64) (cPair cBool (cPair cBool (cPair (cInt .i64) (cPair cBool (cUnit))))))))))))))))))))))))))))))))))))))))) : Cdc U ((List Int) × (List Int) × Int × Int × (List Int) × Bool × (List Page) × Int × Int × Bool × Bool × Int × Int × (List Line) × (List (List UInt8)) × (List Int) × Bool × Bool × Bool × Int × Int × Int × Int × Int × (List (List UInt8)) × Int × Bool × Bool × Bool × Bool × Bool × Int × Int × Int × Int × Int × Bool × Bool × Int × Bool × Unit)).enc (s.b0_0, s.b0_1, s.b0_2, s.b0_3, s.b0_5, s.b0_6, s.b0_7, s.b0_8, s.b0_9, s.b0_10, s.b0_11, s.b0_12, s.b0_13, s.b0_14, s.b0_15, s.b0_16, s.b0_17, s.b0_18, s.b0_19, s.b0_20, s.b0_21, s.b0_22, s.b0_23, s.b0_24, s.b0_25, s.b0_26, s.b0_27, s.b0_28, s.b0_29, s.b0_30, s.b0_31, s.b0_32, s.b0_33, s.b0_34, s.b0_35, s.b0_36, s.b0_37, s.b0_38, s.b0_39, s.b0_40, ())) none, .cells ((cPair cMachine (cUnit) : Cdc U (Machine × Unit)).enc (s.b1, ())) none, .row 3 0 s.b2] }
noncomputable def xSref31_Load_0 (r : (Int × (List Int) × (List Int) × (List Int) × Int × Int × (List Int) × Bool × (List Page) × Int × Int × Bool × Bool × Int × Int × (List Line) × (List (List UInt8)) × (List Int) × Bool × Bool × Bool × Int × Int × Int × Int × Int × (List (List UInt8)) × Int × Bool × Bool × Bool × Bool × Bool × Int × Int × Int × Int × Int × Bool × Bool × Int × Bool × Machine × (List Int))) : Ex × St U := (.exit 0, { tm := [(2, .v (vO (cPair (cInt .i64) (cUnit)) (r.1, ()))), (3, .v (vO (cK (.ptr 0 0) (cUnit)) (()))), (6, .v (vO (cK (.ptr 1 0) (cUnit)) (()))), (9, .v (vO (cPair (cSl 5) (cUnit)) (r.2.1, ())))], hp := [.cells ((cPair (cArr 3 6) (cPair (cArr 3 2) (cPair (cInt .i64) (cPair (cInt .i64) (cK (.row 2 0) (cPair (cSl 3) (cPair cBool (cPair (cArr 44 16) (cPair (cInt .i64) (cPair (cInt .i64) (cPair cBool (cPair cBool (cPair (cInt .i64) (cPair (cInt .i64) (cPair (cSl 144) (cPair (cSl 9) (cPair (cSl 3) (cPair cBool (cPair cBool (cPair cBool (cPair (cInt .i64) (cPair (cInt .i64) (cPair (cInt .i64) (cPair (cInt .i64) (cPair (cInt .i64) (cPair (cSl 9) (cPair (cInt .i64) (cPair cBool (cPair cBool (cPair cBool (cPair cBool (cPair cBool (cPair (cInt .i64) (cPair (cInt .i64) (cPair (cInt .i64) (cPair (cInt .i64) (cPair (cInt .i64) (cPair cBool (cPair cBool (cPair (cInt .i64) (cPair cBool (cUnit))))))))))))))))))))))))))))))))))))))))) : Cdc U ((List Int) × (List Int) × Int × Int × (List Int) × Bool × (List Page) × Int × Int × Bool × Bool × Int × Int × (List Line) × (List (List UInt8)) × (List Int) × Bool × Bool × Bool × Int × Int × Int × Int × Int × (List (List UInt8)) × Int × Bool × Bool × Bool × Bool × Bool × Int × Int × Int × Int × Int × Bool × Bool × Int × Bool × Unit)).enc (r.2.2.1, r.2.2.2.1, r.2.2.2.2.1, r.2.2.2.2.2.1, r.2.2.2.2.2.2.1, r.2.2.2.2.2.2.2.1, r.2.2.2.2.2.2.2.2.1, r.2.2.2.2.2.2.2.2.2.1, r.2.2.2.2.2.2.2.2.2.2.1, r.2.2.2.2.2.2.2.2.2.2.2.1, r.2.2.2.2.2.2.2.2.2.2.2.2.1, r.2.2.2.2.2.2.2.2.2.2.2.2.2.1, r.2.2.2.2.2.2.2.2.2.2.2.2.2.2.1, r.2.2.2.2.2.2.2.2.2.2.2.2.2.2.2.1, r.2.2.2.2.2.2.2.2.2.2.2.2.2.2.2.2.1, r.2.2.2.2.2.2.2.2.2.2.2.2.2.2.2.2.2.1, r.2.2.2.2.2.2.2.2.2.2.2.2.2.2.2.2.2.2.1, r.2.2.2.2.2.2.2.2.2.2.2.2.2.2.2.2.2.2.2.1, r.2.2.2.2.2.2.2.2.2.2.2.2.2.2.2.2.2.2.2.2.1, r.2.2.2.2.2.2.2.2.2.2.2.2.2.2.2.2.2.2.2.2.2.1, r.2.2.2.2.2.2.2.2.2.2.2.2.2.2.2.2.2.2.2.2.2.2.1, r.2.2.2.2.2.2.2.2.2.2.2.2.2.2.2.2.2.2.2.2.2.2.2.1, r.2.2.2.2.2.2.2.2.2.2.2.2.2.2.2.2.2.2.2.2.2.2.2.2.1, r.2.2.2.2.2.2.2.2.2.2.2.2.2.2.2.2.2.2.2.2.2.2.2.2.2.1, r.2.2.2.2.2.2.2.2.2.2.2.2.2.2.2.2.2.2.2.2.2.2.2.2.2.2.1, r.2.2.2.2.2.2.2.2.2.2.2.2.2.2.2.2.2.2.2.2.2.2.2.2.2.2.2.1, r.2.2.2.2.2.2.2.2.2.2.2.2.2.2.2.2.2.2.2.2.2.2.2.2.2.2.2.2.1, r.2.2.2.2.2.2.2.2.2.2.2.2.2.2.2.2.2.2.2.2.2.2.2.2.2.2.2.2.2.1, r.2.2.2.2.2.2.2.2.2.2.2.2.2.2.2.2.2.2.2.2.2.2.2.2.2.2.2.2.2.2.1, r.2.2.2.2.2.2.2.2.2.2.2.2.2.2.2.2.2.2.2.2.2.2.2.2.2.2.2.2.2.2.2.1, r.2.2.2.2.2.2.2.2.2.2.2.2.2.2.2.2.2.2.2.2.2.2.2.2.2.2.2.2.2.2.2.2.1, r.2.2.2.2.2.2.2.2.2.2.2.2.2.2.2.2.2.2.2.2.2.2.2.2.2.2.2.2.2.2.2.2.2.1, r.2.2.2.2.2.2.2.2.2.2.2.2.2.2.2.2.2.2.2.2.2.2.2.2.2.2.2.2.2.2.2.2.2.2.1, r.2.2.2.2.2.2.2.2.2.2.2.2.2.2.2.2.2.2.2.2.2.2.2.2.2.2.2.2.2.2.2.2.2.2.2.1, r.2.2.2.2.2.2.2.2.2.2.2.2.2.2.2.2.2.2.2.2.2.2.2.2.2.2.2.2.2.2.2.2.2.2.2.2.1, r.2.2.2.2.2.2.2.2.2.2.2.2.2.2.2.2.2.2.2.2.2.2.2.2.2.2.2.2.2.2.2.2.2.2.2.2.2.1, r.2.2.2.2.2.2.2.2.2.2.2.2.2.2.2.2.2.2.2.2.2.2.2.2.2.2.2.2.2.2.2.2.2.2.2.2.2.2.1, r.2.2.2.2.2.2.2.2.2.2.2.2.2.2.2.2.2.2.2.2.2.2.2.2.2.2.2.2.2.2.2.2.2.2.2.2.2.2.2.1, r.2.2.2.2.2.2.2.2.2.2.2.2.2.2.2.2.2.2.2.2.2.2.2.2.2.2.2.2.2.2.2.2.2.2.2.2.2.2.2.2.1, r.2.2.2.2.2.2.2.2.2.2.2.2.2.2.2.2.2.2.2.2.2.2.2.2.2.2.2.2.2.2.2.2.2.2.2.2.2.2.2.2.2.1, ())) none, .cells ((cPair cMachine (cUnit) : Cdc U (Machine × Unit)).enc (r.2.2.2.2.2.2.2.2.2.2.2.2.2.2.2.2.2.2.2.2.2.2.2.2.2.2.2.2.2.2.2.2.2.2.2.2.2.2.2.2.2.2.1, ())) none, .row 3 0 r.2.2.2.2.2.2.2.2.2.2.2.2.2.2.2.2.2.2.2.2.2.2.2.2.2.2.2.2.2.2.2.2.2.2.2.2.2.2.2.2.2.2.2] })
noncomputable def xTref31_Load_0 (r : (Int × (List Int) × (List Int) × (List Int) × Int × Int × (List Int) × Bool × (List Page) × Int × Int × Bool × Bool × Int × Int × (List Line) × (List (List UInt8)) × (List Int) × Bool × Bool × Bool × Int × Int × Int × Int × Int × (List (List UInt8)) × Int × Bool × Bool × Bool × Bool × Bool × Int × Int × Int × Int × Int × Bool × Bool × Int × Bool × Machine × (List Int))) : Tree (Ex × St U) := .leaf (xSref31_Load_0 r)
noncomputable def href31_Load_0 : Hd := { keep := [2, 3, 6, 9, 10], xkeep := [2, 3, 6, 7, 9], own := false }
noncomputable def Pref31_Load_1 (x : (Int × Unit) × (Unit) × (Unit) × ((List Int) × Unit) × (Unit) × (Int × Unit) × Unit) (g : ((List Int) × (List Int) × Int × Int × (List Int) × Bool × (List Page) × Int × Int × Bool × Bool × Int × Int × (List Line) × (List (List UInt8)) × (List Int) × Bool × Bool × Bool × Int × Int × Int × Int × Int × (List (List UInt8)) × Int × Bool × Bool × Bool × Bool × Bool × Int × Int × Int × Int × Int × Bool × Bool × Int × Bool × Unit) × (Machine × Unit) × (List Int) × (List Int) × Unit) : Sref31_Load_1 := Sref31_Load_1.mk x.1.1 x.2.2.2.1.1 x.2.2.2.2.2.1.1 g.1.1 g.1.2.1 g.1.2.2.1 g.1.2.2.2.1 g.1.2.2.2.2.1 g.1.2.2.2.2.2.1 g.1.2.2.2.2.2.2.1 g.1.2.2.2.2.2.2.2.1 g.1.2.2.2.2.2.2.2.2.1 g.1.2.2.2.2.2.2.2.2.2.1 g.1.2.2.2.2.2.2.2.2.2.2.1 g.1.2.2.2.2.2.2.2.2.2.2.2.1 g.1.2.2.2.2.2.2.2.2.2.2.2.2.1 g.1.2.2.2.2.2.2.2.2.2.2.2.2.2.1 g.1.2.2.2.2.2.2.2.2.2.2.2.2.2.2.1 g.1.2.2.2.2.2.2.2.2.2.2.2.2.2.2.2.1 g.1.2.2.2.2.2.2.2.2.2.2.2.2.2.2.2.2.1 g.1.2.2.2.2.2.2.2.2.2.2.2.2.2.2.2.2.2.1 g.1.2.2.2.2.2.2.2.2.2.2.2.2.2.2.2.2.2.2.1 g.1.2.2.2.2.2.2.2.2.2.2.2.2.2.2.2.2.2.2.2.1 g.1.2.2.2.2.2.2.2.2.2.2.2.2.2.2.2.2.2.2.2.2.1 g.1.2.2.2.2.2.2.2.2.2.2.2.2.2.2.2.2.2.2.2.2.2.1 g.1.2.2.2.2.2.2.2.2.2.2.2.2.2.2.2.2.2.2.2.2.2.2.1 g.1.2.2.2.2.2.2.2.2.2.2.2.2.2.2.2.2.2.2.2.2.2.2.2.1 g.1.2.2.2.2.2.2.2.2.2.2.2.2.2.2.2.2.2.2.2.2.2.2.2.2.1 g.1.2.2.2.2.2.2.2.2.2.2.2.2.2.2.2.2.2.2.2.2.2.2.2.2.2.1 g.1.2.2.2.2.2.2.2.2.2.2.2.2.2.2.2.2.2.2.2.2.2.2.2.2.2.2.1 g.1.2.2.2.2.2.2.2.2.2.2.2.2.2.2.2.2.2.2.2.2.2.2.2.2.2.2.2.1 g.1.2.2.2.2.2.2.2.2.2.2.2.2.2.2.2.2.2.2.2.2.2.2.2.2.2.2.2.2.1 g.1.2.2.2.2.2.2.2.2.2.2.2.2.2.2.2.2.2.2.2.2.2.2.2.2.2.2.2.2.2.1 g.1.2.2.2.2.2.2.2.2.2.2.2.2.2.2.2.2.2.2.2.2.2.2.2.2.2.2.2.2.2.2.1 g.1.2.2.2.2.2.2.2.2.2.2.2.2.2.2.2.2.2.2.2.2.2.2.2.2.2.2.2.2.2.2.2.1 g.1.2.2.2.2.2.2.2.2.2.2.2.2.2.2.2.2.2.2.2.2.2.2.2.2.2.2.2.2.2.2.2.2.1 g.1.2.2.2.2.2.2.2.2.2.2.2.2.2.2.2.2.2.2.2.2.2.2.2.2.2.2.2.2.2.2.2.2.2.1 g.1.2.2.2.2.2.2.2.2.2.2.2.2.2.2.2.2.2.2.2.2.2.2.2.2.2.2.2.2.2.2.2.2.2.2.1 g.1.2.2.2.2.2.2.2.2.2.2.2.2.2.2.2.2.2.2.2.2.2.2.2.2.2.2.2.2.2.2.2.2.2.2.2.1 g.1.2.2.2.2.2.2.2.2.2.2.2.2.2.2.2.2.2.2.2.2.2.2.2.2.2.2.2.2.2.2.2.2.2.2.2.2.1 g.1.2.2.2.2.2.2.2.2.2.2.2.2.2.2.2.2.2.2.2.2.2.2.2.2.2.2.2.2.2.2.2.2.2.2.2.2.2.1 g.1.2.2.2.2.2.2.2.2.2.2.2.2.2.2.2.2.2.2.2.2.2.2.2.2.2.2.2.2.2.2.2.2.2.2.2.2.2.2.1 g.1.2.2.2.2.2.2.2.2.2.2.2.2.2.2.2.2.2.2.2.2.2.2.2.2.2.2.2.2.2.2.2.2.2.2.2.2.2.2.2.1 g.2.1.1 g.2.2.1 g.2.2.2.1
noncomputable def tAref31_Load_1 : Tms U ((Int × Unit) × (Unit) × (Unit) × ((List Int) × Unit) × (Unit) × (Int × Unit) × Unit) := tO 2 (cPair (cInt .i64) (cUnit)) (tO 3 (cK (.ptr 0 0) (cUnit)) (tO 6 (cK (.ptr 1 0) (cUnit)) (tO 9 (cPair (cSl 5) (cUnit)) (tO 11 (cK (.row 2 0) (cUnit)) (tO 12 (cPair (cInt .i64) (cUnit)) (tNil))))))
noncomputable def tBref31_Load_1 : Bls U (((List Int) × (List Int) × Int × Int × (List Int) × Bool × (List Page) × Int × Int × Bool × Bool × Int × Int × (List Line) × (List (List UInt8)) × (List Int) × Bool × Bool × Bool × Int × Int × Int × Int × Int × (List (List UInt8)) × Int × Bool × Bool × Bool × Bool × Bool × Int × Int × Int × Int × Int × Bool × Bool × Int × Bool × Unit) × (Machine × Unit) × (List Int) × (List Int) × Unit) := bC (cPair (cArr 3 6) (cPair (cArr 3 2) (cPair (cInt .i64) (cPair (cInt .i64) (cK (.row 3 0) (cPair (cSl 3) (cPair cBool (cPair (cArr 44 16) (cPair (cInt .i64) (cPair (cInt .i64) (cPair cBool (cPair cBool (cPair (cInt .i64) (cPair (cInt .i64) (cPair (cSl 144) (cPair (cSl 9) (cPair (cSl 3) (cPair cBool (cPair cBool (cPair cBool (cPair (cInt .i64) (cPair (cInt .i64) (cPair (cInt .i64) (cPair (cInt .i64) (cPair (cInt .i64) (cPair (cSl 9) (cPair (cInt .i64) (cPair cBool (cPair cBool (cPair cBool (cPair cBool (cPair cBool (cPair (cInt .i64) (cPair (cInt .i64) (cPair (cInt .i64) (cPair (cInt .i64) (cPair (cInt .i64) (cPair cBool (cPair cBool (cPair (cInt .i64) (cPair cBool (cUnit)))))))))))))))))))))))))))))))))))))))))) (bC (cPair cMachine (cUnit)) (bRv 3 0 (bRv 3 0 (bNil))))
noncomputable def eSref31_Load_1 (s : Sref31_Load_1) : St U := { tm := [(2, .v (vO (cPair (cInt .i64) (cUnit)) (s.t2, ()))), (3, .v (vO (cK (.ptr 0 0) (cUnit)) (()))), (6, .v (vO (cK (.ptr 1 0) (cUnit)) (()))), (9, .v (vO (cPair (cSl 5) (cUnit)) (s.t9, ()))), (11, .v (vO (cK (.row 2 0) (cUnit)) (()))), (12, .v (vO (cPair (cInt .i64) (cUnit)) (s.t12, ())))], hp := [.cells ((cPair (cArr 3 6) (cPair (cArr 3 2) (cPair (cInt .i64) (cPair (cInt .i64) (cK (.row 3 0) (cPair (cSl 3) (cPair cBool (cPair (cArr 44 16) (cPair (cInt .i64) (cPair (cInt .i64) (cPair cBool (cPair cBool (cPair (cInt .i64) (cPair (cInt .i64) (cPair (cSl 144) (cPair (cSl 9) (cPair (cSl 3) (cPair cBool (cPair cBool (cPair cBool (cPair (cInt .i64) (cPair (cInt .i64) (cPair (cInt .i64) (cPair (cInt .i64) (cPair (cInt .i64) (cPair (cSl 9) (cPair (cInt .i64) (cPair cBool (cPair cBool (cPair cBool (cPair cBool (cPair cBool (cPair (cInt .i64) (cPair (cInt .i64) (cPair (cInt .i64) (cPair (cInt .i64) (cPair (cInt .i64) (cPair cBool (cPair cBool (cPair (cInt .i64) (cPair cBool (cUnit))))))))))))))))))))))))))))))))))))))))) : Cdc U ((List Int) × (List Int) × Int × Int × (List Int) × Bool × (List Page) × Int × Int × Bool × Bool × Int × Int × (List Line) × (List (List UInt8)) × (List Int) × Bool × Bool × Bool × Int × Int × Int × Int × Int × (List (List UInt8)) × Int × Bool × Bool × Bool × Bool × Bool × Int × Int × Int × Int × Int × Bool × Bool × Int × Bool × Unit)).enc (s.b0_0, s.b0_1, s.b0_2, s.b0_3, s.b0_5, s.b0_6, s.b0_7, s.b0_8, s.b0_9, s.b0_10, s.b0_11, s.b0_12, s.b0_13, s.b0_14, s.b0_15, s.b0_16, s.b0_17, s.b0_18, s.b0_19, s.b0_20, s.b0_21, s.b0_22, s.b0_23, s.b0_24, s.b0_25, s.b0_26, s.b0_27, s.b0_28, s.b0_29, s.b0_30, s.b0_31, s.b0_32, s.b0_33, s.b0_34, s.b0_35, s.b0_36, s.b0_37, s.b0_38, s.b0_39, s.b0_40, ())) none, .cells ((cPair cMachine (cUnit) : Cdc U (Machine × Unit)).enc (s.b1, ())) none, .row 3 0 s.b2, .row 3 0 s.b3] }
noncomputable def xSref31_Load_1 (r : ((List Int) × (List Int) × Int × Int × (List Int) × Bool × (List Page) × Int × Int × Bool × Bool × Int × Int × (List Line) × (List (List UInt8)) × (List Int) × Bool × Bool × Bool × Int × Int × Int × Int × Int × (List (List UInt8)) × Int × Bool × Bool × Bool × Bool × Bool × Int × Int × Int × Int × Int × Bool × Bool × Int × Bool × Machine × (List Int) × (List Int))) : Ex × St U := (.exit 2, { tm := [(3, .v (vO (cK (.ptr 0 0) (cUnit)) (()))), (6, .v (vO (cK (.ptr 1 0) (cUnit)) (()))), (11, .v (vO (cK (.row 2 0) (cUnit)) (())))], hp := [.cells ((cPair (cArr 3 6) (cPair (cArr 3 2) (cPair (cInt .i64) (cPair (cInt .i64) (cK (.row 3 0) (cPair (cSl 3) (cPair cBool (cPair (cArr 44 16) (cPair (cInt .i64) (cPair (cInt .i64) (cPair cBool (cPair cBool (cPair (cInt .i64) (cPair (cInt .i64) (cPair (cSl 144) (cPair (cSl 9) (cPair (cSl 3) (cPair cBool (cPair cBool (cPair cBool (cPair (cInt .i64) (cPair (cInt .i64) (cPair (cInt .i64) (cPair (cInt .i64) (cPair (cInt .i64) (cPair (cSl 9) (cPair (cInt .i64) (cPair cBool (cPair cBool (cPair cBool (cPair cBool (cPair cBool (cPair (cInt .i64) (cPair (cInt .i64) (cPair (cInt .i64) (cPair (cInt .i64) (cPair (cInt .i64) (cPair cBool (cPair cBool (cPair (cInt .i64) (cPair cBool (cUnit))))))))))))))))))))))))))))))))))))))))) : Cdc U ((List Int) × (List Int) × Int × Int × (List Int) × Bool × (List Page) × Int × Int × Bool × Bool × Int × Int × (List Line) × (List (List UInt8)) × (List Int) × Bool × Bool × Bool × Int × Int × Int × Int × Int × (List (List UInt8)) × Int × Bool × Bool × Bool × Bool × Bool × Int × Int × Int × Int × Int × Bool × Bool × Int × Bool × Unit)).enc (r.1, r.2.1, r.2.2.1, r.2.2.2.1, r.2.2.2.2.1, r.2.2.2.2.2.1, r.2.2.2.2.2.2.1, r.2.2.2.2.2.2.2.1, r.2.2.2.2.2.2.2.2.1, r.2.2.2.2.2.2.2.2.2.1, r.2.2.2.2.2.2.2.2.2.2.1, r.2.2.2.2.2.2.2.2.2.2.2.1, r.2.2.2.2.2.2.2.2.2.2.2.2.1, r.2.2.2.2.2.2.2.2.2.2.2.2.2.1, r.2.2.2.2.2.2.2.2.2.2.2.2.2.2.1, r.2.2.2.2.2.2.2.2.2.2.2.2.2.2.2.1, r.2.2.2.2.2.2.2.2.2.2.2.2.2.2.2.2.1, r.2.2.2.2.2.2.2.2.2.2.2.2.2.2.2.2.2.1, r.2.2.2.2.2.2.2.2.2.2.2.2.2.2.2.2.2.2.1, r.2.2.2.2.2.2.2.2.2.2.2.2.2.2.2.2.2.2.2.1, r.2.2.2.2.2.2.2.2.2.2.2.2.2.2.2.2.2.2.2.2.1, r.2.2.2.2.2.2.2.2.2.2.2.2.2.2.2.2.2.2.2.2.2.1, r.2.2.2.2.2.2.2.2.2.2.2.2.2.2.2.2.2.2.2.2.2.2.1, r.2.2.2.2.2.2.2.2.2.2.2.2.2.2.2.2.2.2.2.2.2.2.2.1, r.2.2.2.2.2.2.2.2.2.2.2.2.2.2.2.2.2.2.2.2.2.2.2.2.1, r.2.2.2.2.2.2.2.2.2.2.2.2.2.2.2.2.2.2.2.2.2.2.2.2.2.1, r.2.2.2.2.2.2.2.2.2.2.2.2.2.2.2.2.2.2.2.2.2.2.2.2.2.2.1, r.2.2.2.2.2.2.2.2.2.2.2.2.2.2.2.2.2.2.2.2.2.2.2.2.2.2.2.1, r.2.2.2.2.2.2.2.2.2.2.2.2.2.2.2.2.2.2.2.2.2.2.2.2.2.2.2.2.1, r.2.2.2.2.2.2.2.2.2.2.2.2.2.2.2.2.2.2.2.2.2.2.2.2.2.2.2.2.2.1, r.2.2.2.2.2.2.2.2.2.2.2.2.2.2.2.2.2.2.2.2.2.2.2.2.2.2.2.2.2.2.1, r.2.2.2.2.2.2.2.2.2.2.2.2.2.2.2.2.2.2.2.2.2.2.2.2.2.2.2.2.2.2.2.1, r.2.2.2.2.2.2.2.2.2.2.2.2.2.2.2.2.2.2.2.2.2.2.2.2.2.2.2.2.2.2.2.2.1, r.2.2.2.2.2.2.2.2.2.2.2.2.2.2.2.2.2.2.2.2.2.2.2.2.2.2.2.2.2.2.2.2.2.1, r.2.2.2.2.2.2.2.2.2.2.2.2.2.2.2.2.2.2.2.2.2.2.2.2.2.2.2.2.2.2.2.2.2.2.1, r.2.2.2.2.2.2.2.2.2.2.2.2.2.2.2.2.2.2.2.2.2.2.2.2.2.2.2.2.2.2.2.2.2.2.2.1, r.2.2.2.2.2.2.2.2.2.2.2.2.2.2.2.2.2.2.2.2.2.2.2.2.2.2.2.2.2.2.2.2.2.2.2.2.1, r.2.2.2.2.2.2.2.2.2.2.2.2.2.2.2.2.2.2.2.2.2.2.2.2.2.2.2.2.2.2.2.2.2.2.2.2.2.1, r.2.2.2.2.2.2.2.2.2.2.2.2.2.2.2.2.2.2.2.2.2.2.2.2.2.2.2.2.2.2.2.2.2.2.2.2.2.2.1, r.2.2.2.2.2.2.2.2.2.2.2.2.2.2.2.2.2.2.2.2.2.2.2.2.2.2.2.2.2.2.2.2.2.2.2.2.2.2.2.1, ())) none, .cells ((cPair cMachine (cUnit) : Cdc U (Machine × Unit)).enc (r.2.2.2.2.2.2.2.2.2.2.2.2.2.2.2.2.2.2.2.2.2.2.2.2.2.2.2.2.2.2.2.2.2.2.2.2.2.2.2.2.1, ())) none, .row 3 0 r.2.2.2.2.2.2.2.2.2.2.2.2.2.2.2.2.2.2.2.2.2.2.2.2.2.2.2.2.2.2.2.2.2.2.2.2.2.2.2.2.2.1, .row 3 0 r.2.2.2.2.2.2.2.2.2.2.2.2.2.2.2.2.2.2.2.2.2.2.2.2.2.2.2.2.2.2.2.2.2.2.2.2.2.2.2.2.2.2] })
noncomputable def xTref31_Load_1 (r : ((List Int) × (List Int) × Int × Int × (List Int) × Bool × (List Page) × Int × Int × Bool × Bool × Int × Int × (List Line) × (List (List UInt8)) × (List Int) × Bool × Bool × Bool × Int × Int × Int × Int × Int × (List (List UInt8)) × Int × Bool × Bool × Bool × Bool × Bool × Int × Int × Int × Int × Int × Bool × Bool × Int × Bool × Machine × (List Int) × (List Int))) : Tree (Ex × St U) := .leaf (xSref31_Load_1 r)
noncomputable def href31_Load_1 : Hd := { keep := [2, 3, 6, 9, 11, 12], xkeep := [3, 6, 7, 11], own := true }
noncomputable def Eref31_Load : Env U := { P := Try.prog, cd := cd, fns := fns57, lps := (addL 0 href31_Load_0 (mkLoop tAref31_Load_0 tBref31_Load_0 Pref31_Load_0 (Lref31_Load_0 none) xTref31_Load_0) (addL 1 href31_Load_1 (mkLoop tAref31_Load_1 tBref31_Load_1 Pref31_Load_1 (Lref31_Load_1 none) xTref31_Load_1) noL)), frz := fun _r => false, nt := 115, n0 := 0 }
noncomputable def Bref31_Load_0 : Code := (loopAt (Try.f24.body.getD .skip) 0 0).getD .skip
theorem roundref31_Load_0 (s : Sref31_Load_0) : round Eref31_Load href31_Load_0 Bref31_Load_0 0 (eSref31_Load_0 s) = (Wref31_Load_0 s).map (sumE eSref31_Load_0 xSref31_Load_0) := by kernel_rfl
theorem lpref31_Load_0 : LpOk Eref31_Load Bref31_Load_0 0 := mkLoop_ok (A := tAref31_Load_0) (B := tBref31_Load_0) (f := Pref31_Load_0) (L := Lref31_Load_0 none) (tO_ok (cPair_ok (cInt_ok .i64) cUnit_ok) (tO_ok (cK_ok cUnit_ok) (tO_ok (cK_ok cUnit_ok) (tO_ok (cPair_ok (cSl_ok 5) cUnit_ok) (tO_ok (cPair_ok (cInt_ok .i64) cUnit_ok) tNil_ok))))) (bC_ok (cPair_ok (cArr_ok 3 6) (cPair_ok (cArr_ok 3 2) (cPair_ok (cInt_ok .i64) (cPair_ok (cInt_ok .i64) (cK_ok (cPair_ok (cSl_ok 3) (cPair_ok cBool_ok (cPair_ok (cArr_ok 44 16) (cPair_ok (cInt_ok .i64) (cPair_ok (cInt_ok .i64) (cPair_ok cBool_ok (cPair_ok cBool_ok (cPair_ok (cInt_ok .i64) (cPair_ok (cInt_ok .i64) (cPair_ok (cSl_ok 144) (cPair_ok (cSl_ok 9) (cPair_ok (cSl_ok 3) (cPair_ok cBool_ok (cPair_ok cBool_ok (cPair_ok cBool_ok (cPair_ok (cInt_ok .i64) (cPair_ok (cInt_ok .i64) (cPair_ok (cInt_ok .i64) (cPair_ok (cInt_ok .i64) (cPair_ok (cInt_ok .i64) (cPair_ok (cSl_ok 9) (cPair_ok (cInt_ok .i64) (cPair_ok cBool_ok (cPair_ok cBool_ok (cPair_ok cBool_ok (cPair_ok cBool_ok (cPair_ok cBool_ok (cPair_ok (cInt_ok .i64) (cPair_ok (cInt_ok .i64) (cPair_ok (cInt_ok .i64) (cPair_ok (cInt_ok .i64) (cPair_ok (cInt_ok .i64) (cPair_ok cBool_ok (cPair_ok cBool_ok (cPair_ok (cInt_ok .i64) (cPair_ok cBool_ok cUnit_ok))))))))))))))))))))))))))))))))))))))))) (bC_ok (cPair_ok cMachine_ok cUnit_ok) (bRv_ok bNil_ok))) (enc := eSref31_Load_0) (out := xTref31_Load_0) (outS := xSref31_Load_0) (step := Wref31_Load_0) (fun _ => rfl) (fun _ _ => by kernel_rfl) (by kernel_rfl) (fun _ => rfl) roundref31_Load_0
noncomputable def Bref31_Load_1 : Code := (loopAt (Try.f24.body.getD .skip) 0 1).getD .skip
theorem roundref31_Load_1 (s : Sref31_Load_1) : round Eref31_Load href31_Load_1 Bref31_Load_1 1 (eSref31_Load_1 s) = (Wref31_Load_1 s).map (sumE eSref31_Load_1 xSref31_Load_1) := by kernel_rfl
theorem lpref31_Load_1 : LpOk Eref31_Load Bref31_Load_1 1 := mkLoop_ok (A := tAref31_Load_1) (B := tBref31_Load_1) (f := Pref31_Load_1) (L := Lref31_Load_1 none) (tO_ok (cPair_ok (cInt_ok .i64) cUnit_ok) (tO_ok (cK_ok cUnit_ok) (tO_ok (cK_ok cUnit_ok) (tO_ok (cPair_ok (cSl_ok 5) cUnit_ok) (tO_ok (cK_ok cUnit_ok) (tO_ok (cPair_ok (cInt_ok .i64) cUnit_ok) tNil_ok)))))) (bC_ok (cPair_ok (cArr_ok 3 6) (cPair_ok (cArr_ok 3 2) (cPair_ok (cInt_ok .i64) (cPair_ok (cInt_ok .i64) (cK_ok (cPair_ok (cSl_ok 3) (cPair_ok cBool_ok (cPair_ok (cArr_ok 44 16) (cPair_ok (cInt_ok .i64) (cPair_ok (cInt_ok .i64) (cPair_ok cBool_ok (cPair_ok cBool_ok (cPair_ok (cInt_ok .i64) (cPair_ok (cInt_ok .i64) (cPair_ok (cSl_ok 144) (cPair_ok (cSl_ok 9) (cPair_ok (cSl_ok 3) (cPair_ok cBool_ok (cPair_ok cBool_ok (cPair_ok cBool_ok (cPair_ok (cInt_ok .i64) (cPair_ok (cInt_ok .i64) (cPair_ok (cInt_ok .i64) (cPair_ok (cInt_ok .i64) (cPair_ok (cInt_ok .i64) (cPair_ok (cSl_ok 9) (cPair_ok (cInt_ok .i64) (cPair_ok cBool_ok (cPair_ok cBool_ok (cPair_ok cBool_ok (cPair_ok cBool_ok (cPair_ok cBool_ok (cPair_ok (cInt_ok .i64) (cPair_ok (cInt_ok .i64) (cPair_ok (cInt_ok .i64) (cPair_ok (cInt_ok .i64) (cPair_ok (cInt_ok .i64) (cPair_ok cBool_ok (cPair_ok cBool_ok (cPair_ok (cInt_ok .i64) (cPair_ok cBool_ok cUnit_ok))))))))))))))))))))))))))))))))))))))))) (bC_ok (cPair_ok cMachine_ok cUnit_ok) (bRv_ok (bRv_ok bNil_ok)))) (enc := eSref31_Load_1) (out := xTref31_Load_1) (outS := xSref31_Load_1) (step := Wref31_Load_1) (fun _ => rfl) (fun _ _ => by kernel_rfl) (by kernel_rfl) (fun _ => rfl) roundref31_Load_1
theorem runref31_Load (x : Machine × Image × Int × Unit) (g : Unit) : execF Eref31_Load Try.f24 (Aref31_Load.enc x) (bNil.enc g) = (Tref31_Load none x.1 x.2.1 x.2.2.1).map Rref31_Load := by kernel_rfl
theorem okref31_Load : FnOk Try.prog cd 24 Sref31_Load := mk_ok (E := Eref31_Load) cd_ok fns57_ok Try.func24 (by kernel_rfl) (loops_of (addL_ok lpref31_Load_0 (addL_ok lpref31_Load_1 noL_ok))) (aA_ok cMachine_ok (aA_ok cImage_ok (aO_ok (cInt_ok .i64) (aNil_ok)))) bNil_ok (T := fun x _ => Tref31_Load none x.1 x.2.1 x.2.2.1) (fun _ _ => rfl) runref31_Load
noncomputable def fns24 := addF 24 true Sref31_Load fns57
theorem fns24_ok : ∀ f q t, fns24 f = some (q, t) → FnOk Try.prog cd f t := addF_ok okref31_Load fns57_ok
/-- emulator/emulatorref08.Same -/
structure Sref08_Same_0 where
  t0 : (List Int)
  t1 : (List Int)
  t5 : Int
noncomputable def Wref08_Same_0 (s : Sref08_Same_0) : Tree (Sref08_Same_0 ⊕ (Bool ⊕ Unit)) :=
  .ite (decide (s.t5 < (s.t0.length : Int)))
    (.ite (decide (0 ≤ s.t5))
      (.opt Int (s.t0[(s.t5).toNat]?) fun y387 =>
        .ite (decide (0 ≤ s.t5))
          (.opt Int (s.t1[(s.t5).toNat]?) fun y388 =>
            .ite (!decide (y387 = y388))
              (.leaf (.inr (.inl false)))
              (.leaf (.inl (Sref08_Same_0.mk s.t0 s.t1 (IntKind.wrap .i64 (s.t5 + (1 : Int)))))))
          .fail)
      .fail)
    (.leaf (.inr (.inr ())))
noncomputable def Lref08_Same_0 (q : Option Nat) (s : Sref08_Same_0) : Option (Bool ⊕ Unit) := limQ q (fun s => (Wref08_Same_0 s).run) s
theorem leLref08_Same_0 (k : Nat) (s : Sref08_Same_0) : Le (Lref08_Same_0 (some k) s) (Lref08_Same_0 none s) := limQ_le (fun _ => Le.rfl) s
noncomputable def Tref08_Same (q : Option Nat) (x0 : (List Int)) (x1 : (List Int)) : Tree Bool :=
  .ite (!decide ((x0.length : Int) = (x1.length : Int)))
    (.leaf (false))
    (.opt (Bool ⊕ Unit) (Lref08_Same_0 q (Sref08_Same_0.mk x0 x1 (0 : Int))) fun l389 =>
      .ite (l389.isLeft)
        (.opt Bool (l389.getLeft?) fun a390 =>
          .leaf (a390))
        (.opt Unit (l389.getRight?) fun b391 =>
          .leaf (true)))
noncomputable def ref08_Same (q : Option Nat) (x0 : (List Int)) (x1 : (List Int)) : Option Bool := (Tref08_Same q x0 x1).run
theorem leref08_Same (k : Nat) (x0 : (List Int)) (x1 : (List Int)) : Le (ref08_Same (some k) x0 x1) (ref08_Same none x0 x1) := (TLe.ite TLe.rfl (TLe.opt (leLref08_Same_0 k _) fun _ => TLe.rfl))
noncomputable def Aref08_Same : Arg U ((List Int) × (List Int) × Unit) := aO (cSl 3) (aO (cSl 3) (aNil))
noncomputable def Rref08_Same (r : Bool) : List (V U) × List (Blk U) := ([vO cBool r], [])
noncomputable def Sref08_Same : List (V U) → List (Blk U) → Option (FnOut U) := mkSpec Aref08_Same bNil (fun x _ => ref08_Same none x.1 x.2.1) Rref08_Same
noncomputable def Pref08_Same_0 (x : ((List Int) × Unit) × ((List Int) × Unit) × (Int × Unit) × Unit) (_g : Unit) : Sref08_Same_0 := Sref08_Same_0.mk x.1.1 x.2.1.1 x.2.2.1.1
noncomputable def tAref08_Same_0 : Tms U (((List Int) × Unit) × ((List Int) × Unit) × (Int × Unit) × Unit) := tO 0 (cPair (cSl 3) (cUnit)) (tO 1 (cPair (cSl 3) (cUnit)) (tO 5 (cPair (cInt .i64) (cUnit)) (tNil)))
noncomputable def tBref08_Same_0 : Bls U (Unit) := bNil
noncomputable def eSref08_Same_0 (s : Sref08_Same_0) : St U := { tm := [(0, .v (vO (cPair (cSl 3) (cUnit)) (s.t0, ()))), (1, .v (vO (cPair (cSl 3) (cUnit)) (s.t1, ()))), (5, .v (vO (cPair (cInt .i64) (cUnit)) (s.t5, ())))], hp := [] }
noncomputable def xSref08_Same_0 : (Bool ⊕ Unit) → Ex × St U
  | .inl r => (.ret, { tm := [(4, .v (vO (cPair cBool (cUnit)) (r, ())))], hp := [] })
  | .inr r => (.exit 0, { tm := [], hp := [] })
noncomputable def xTref08_Same_0 (y : (Bool ⊕ Unit)) : Tree (Ex × St U) := .ite y.isLeft (.opt Bool y.getLeft? fun r => .leaf (.ret, { tm := [(4, .v (vO (cPair cBool (cUnit)) (r, ())))], hp := [] })) (.opt Unit y.getRight? fun r => .leaf (.exit 0, { tm := [], hp := [] }))
noncomputable def href08_Same_0 : Hd := { keep := [0, 1, 5], xkeep := [4], own := false }
noncomputable def Eref08_Same : Env U := { P := Try.prog, cd := cd, fns := fns24, lps := (addL 0 href08_Same_0 (mkLoop tAref08_Same_0 tBref08_Same_0 Pref08_Same_0 (Lref08_Same_0 none) xTref08_Same_0) noL), frz := fun _r => false, nt := 26, n0 := 0 }
noncomputable def Bref08_Same_0 : Code := (loopAt (Try.f25.body.getD .skip) 0 0).getD .skip
theorem roundref08_Same_0 (s : Sref08_Same_0) : round Eref08_Same href08_Same_0 Bref08_Same_0 0 (eSref08_Same_0 s) = (Wref08_Same_0 s).map (sumE eSref08_Same_0 xSref08_Same_0) := by kernel_rfl
theorem lpref08_Same_0 : LpOk Eref08_Same Bref08_Same_0 0 := mkLoop_ok (A := tAref08_Same_0) (B := tBref08_Same_0) (f := Pref08_Same_0) (L := Lref08_Same_0 none) (tO_ok (cPair_ok (cSl_ok 3) cUnit_ok) (tO_ok (cPair_ok (cSl_ok 3) cUnit_ok) (tO_ok (cPair_ok (cInt_ok .i64) cUnit_ok) tNil_ok))) bNil_ok (enc := eSref08_Same_0) (out := xTref08_Same_0) (outS := xSref08_Same_0) (step := Wref08_Same_0) (fun _ => rfl) (fun _ _ => by kernel_rfl) (by kernel_rfl) (fun b => by cases b <;> rfl) roundref08_Same_0
theorem runref08_Same (x : (List Int) × (List Int) × Unit) (g : Unit) : execF Eref08_Same Try.f25 (Aref08_Same.enc x) (bNil.enc g) = (Tref08_Same none x.1 x.2.1).map Rref08_Same := by kernel_rfl
theorem okref08_Same : FnOk Try.prog cd 25 Sref08_Same := mk_ok (E := Eref08_Same) cd_ok fns24_ok Try.func25 (by kernel_rfl) (loops_of (addL_ok lpref08_Same_0 noL_ok)) (aO_ok (cSl_ok 3) (aO_ok (cSl_ok 3) (aNil_ok))) bNil_ok (T := fun x _ => Tref08_Same none x.1 x.2.1) (fun _ _ => rfl) runref08_Same
noncomputable def fns25 := addF 25 true Sref08_Same fns24
theorem fns25_ok : ∀ f q t, fns25 f = some (q, t) → FnOk Try.prog cd f t := addF_ok okref08_Same fns24_ok
/-- emulator/emulatorlaw31.ImageLoads -/
noncomputable def Tlaw31_ImageLoads (q : Option Nat) (x0 : Machine) (x1 : Image) (x2 : Int) : Tree Bool :=
  .opt Bool (law31_small q x1) fun r402 =>
    .ite (!r402)
      (.opt Bool (law31_alive q) fun r404 =>
        .leaf (r404))
      (.ite (decide ((2048 : Int) < (x0.mem.length : Int)))
        (.opt Bool (law31_alive q) fun r405 =>
          .leaf (r405))
        (.ite (decide ((60 : Int) < (x0.bad.length : Int)))
          (.opt Bool (law31_alive q) fun r406 =>
            .leaf (r406))
          (.opt Bool (ref08_Right q x0.mem x0.bad) fun r403 =>
            .ite (!r403)
              (.opt Bool (law31_alive q) fun r407 =>
                .leaf (r407))
              (.ite (decide ((([] : List Int).length + x0.mem.length) * 8 ≤ 140737488355328))
                (.opt (Machine × Int) (image_Load q x0 x1 x2) fun r408 =>
                  .opt (Machine × Int) (ref31_Load q x0 x1 x2) fun r409 =>
                    .ite (!decide (r408.2 = r409.2))
                      (.leaf (false))
                      (.opt Bool (ref08_Same q r408.1.mem r409.1.mem) fun r410 =>
                        .ite (!r410)
                          (.leaf (false))
                          (.opt Bool (ref08_Same q r408.1.bad r409.1.bad) fun r411 =>
                            .ite (!r411)
                              (.leaf (false))
                              (.opt Bool (ref08_Same q x0.mem (([] : List Int) ++ x0.mem)) fun r412 =>
                                .ite (!r412)
                                  (.leaf (false))
                                  (.ite (!decide (r408.2 = (0 : Int)))
                                    (.ite (decide ((r408.1.mem.length : Int) = (0 : Int)))
                                      (.ite (decide (r408.1.now = (0 : Int)))
                                        (.opt Bool (law31_alive q) fun r413 =>
                                          .leaf (r413))
                                        (.leaf (false)))
                                      (.leaf (false)))
                                    (.ite (((decide (r408.1.cpu.r = x0.cpu.r)) && ((decide (r408.1.cpu.sP = x0.cpu.sP)) && ((decide (r408.1.cpu.pC = x0.cpu.pC)) && (decide (r408.1.cpu.pSW = x0.cpu.pSW))))))
                                      (.ite (decide (r408.1.now = x0.now))
                                        (.ite ((r408.1.halted == x0.halted))
                                          (.ite (((r408.1.mmu.on == x0.mmu.on) && ((decide (r408.1.mmu.pages = x0.mmu.pages)) && ((decide (r408.1.mmu.status = x0.mmu.status)) && (decide (r408.1.mmu.addr = x0.mmu.addr))))))
                                            (.ite (((r408.1.clock.enable == x0.clock.enable) && ((r408.1.clock.ready == x0.clock.ready) && ((decide (r408.1.clock.period = x0.clock.period)) && (decide (r408.1.clock.left = x0.clock.left))))))
                                              (.ite (decide ((r408.1.lines.length : Int) = (x0.lines.length : Int)))
                                                (.ite (decide ((r408.1.disk.drive.sectors.length : Int) = (x0.disk.drive.sectors.length : Int)))
                                                  (.opt Bool (law31_alive q) fun r414 =>
                                                    .leaf (r414))
                                                  (.leaf (false)))
                                                (.leaf (false)))
                                              (.leaf (false)))
                                            (.leaf (false)))
                                          (.leaf (false)))
                                        (.leaf (false)))
                                      (.leaf (false))))))))
                .fail))))
noncomputable def law31_ImageLoads (q : Option Nat) (x0 : Machine) (x1 : Image) (x2 : Int) : Option Bool := (Tlaw31_ImageLoads q x0 x1 x2).run
theorem lelaw31_ImageLoads (k : Nat) (x0 : Machine) (x1 : Image) (x2 : Int) : Le (law31_ImageLoads (some k) x0 x1 x2) (law31_ImageLoads none x0 x1 x2) := (TLe.opt (lelaw31_small k _) fun _ => (TLe.ite (TLe.opt (lelaw31_alive k) fun _ => TLe.rfl) (TLe.ite (TLe.opt (lelaw31_alive k) fun _ => TLe.rfl) (TLe.ite (TLe.opt (lelaw31_alive k) fun _ => TLe.rfl) (TLe.opt (leref08_Right k _ _) fun _ => (TLe.ite (TLe.opt (lelaw31_alive k) fun _ => TLe.rfl) (TLe.ite (TLe.opt (leimage_Load k _ _ _) fun _ => (TLe.opt (leref31_Load k _ _ _) fun _ => (TLe.ite TLe.rfl (TLe.opt (leref08_Same k _ _) fun _ => (TLe.ite TLe.rfl (TLe.opt (leref08_Same k _ _) fun _ => (TLe.ite TLe.rfl (TLe.opt (leref08_Same k _ _) fun _ => (TLe.ite TLe.rfl (TLe.ite (TLe.ite (TLe.ite (TLe.opt (lelaw31_alive k) fun _ => TLe.rfl) TLe.rfl) TLe.rfl) (TLe.ite (TLe.ite (TLe.ite (TLe.ite (TLe.ite (TLe.ite (TLe.ite (TLe.opt (lelaw31_alive k) fun _ => TLe.rfl) TLe.rfl) TLe.rfl) TLe.rfl) TLe.rfl) TLe.rfl) TLe.rfl) TLe.rfl))))))))))) TLe.rfl)))))))
noncomputable def Alaw31_ImageLoads : Arg U (Machine × Image × Int × Unit) := aA cMachine (aA cImage (aO (cInt .i64) (aNil)))
noncomputable def Rlaw31_ImageLoads (r : Bool) : List (V U) × List (Blk U) := ([vO cBool r], [])
noncomputable def Slaw31_ImageLoads : List (V U) → List (Blk U) → Option (FnOut U) := mkSpec Alaw31_ImageLoads bNil (fun x _ => law31_ImageLoads none x.1 x.2.1 x.2.2.1) Rlaw31_ImageLoads
noncomputable def Elaw31_ImageLoads : Env U := { P := Try.prog, cd := cd, fns := fns25, lps := noL, frz := fun _r => bif Nat.beq _r 6 then true else false, nt := 152, n0 := 0 }
theorem runlaw31_ImageLoads (x : Machine × Image × Int × Unit) (g : Unit) : execF Elaw31_ImageLoads Try.f6 (Alaw31_ImageLoads.enc x) (bNil.enc g) = (Tlaw31_ImageLoads none x.1 x.2.1 x.2.2.1).map Rlaw31_ImageLoads := by kernel_rfl
theorem oklaw31_ImageLoads : FnOk Try.prog cd 6 Slaw31_ImageLoads := mk_ok (E := Elaw31_ImageLoads) cd_ok fns25_ok Try.func6 (by kernel_rfl) (noLoops_body (by kernel_rfl)) (aA_ok cMachine_ok (aA_ok cImage_ok (aO_ok (cInt_ok .i64) (aNil_ok)))) bNil_ok (T := fun x _ => Tlaw31_ImageLoads none x.1 x.2.1 x.2.2.1) (fun _ _ => rfl) runlaw31_ImageLoads
noncomputable def fns6 := addF 6 true Slaw31_ImageLoads fns25
theorem fns6_ok : ∀ f q t, fns6 f = some (q, t) → FnOk Try.prog cd f t := addF_ok oklaw31_ImageLoads fns25_ok
/-- emulator/emulatorlaw31.ImageRoundTrip -/
noncomputable def Tlaw31_ImageRoundTrip (q : Option Nat) (x0 : Image) (x1 : Int) (x2 : Int) : Tree Bool :=
  .opt Bool (law31_small q x0) fun r424 =>
    .ite (!r424)
      (.opt Bool (law31_alive q) fun r425 =>
        .leaf (r425))
      (.ite (decide ((4000 : Int) < (IntKind.wrap .i64 ((x0.text.length : Int) + (x0.data.length : Int)))))
        (.opt Bool (law31_alive q) fun r426 =>
          .leaf (r426))
        (.opt ((List UInt8) × Int) (image_Encode q x0) fun r427 =>
          .opt Int (image_Check q x0) fun r428 =>
            .ite (!decide (r427.2 = r428))
              (.leaf (false))
              (.ite (!decide (r427.2 = (0 : Int)))
                (.ite (decide (r427.1 = ([] : List UInt8)))
                  (.opt Bool (law31_alive q) fun r429 =>
                    .leaf (r429))
                  (.leaf (false)))
                (.ite (decide (r427.1 = ([] : List UInt8)))
                  (.leaf (false))
                  (.opt (Image × Int) (image_Decode q r427.1) fun r430 =>
                    .ite (decide ((r427.1.map fun b => (b.toNat : Int)).length ≤ 140737488355328))
                      (.ite (decide (((r427.1.map fun b => (b.toNat : Int)).length : Int) = 0))
                        .fail
                        (.ite (decide (0 ≤ ((IntKind.wrap .i64 x1)).tmod ((r427.1.map fun b => (b.toNat : Int)).length : Int)))
                          (.ite (decide (((IntKind.wrap .i64 x1)).tmod ((r427.1.map fun b => (b.toNat : Int)).length : Int) < ((r427.1.map fun b => (b.toNat : Int)).length : Int)))
                            (.opt Int ((r427.1.map fun b => (b.toNat : Int))[(((IntKind.wrap .i64 x1)).tmod ((r427.1.map fun b => (b.toNat : Int)).length : Int)).toNat]?) fun y431 =>
                              .ite (decide (0 ≤ ((IntKind.wrap .i64 x1)).tmod ((r427.1.map fun b => (b.toNat : Int)).length : Int)))
                                (.ite (decide (((IntKind.wrap .i64 x1)).tmod ((r427.1.map fun b => (b.toNat : Int)).length : Int) < ((r427.1.map fun b => (b.toNat : Int)).length : Int)))
                                  (.opt Int ((r427.1.map fun b => (b.toNat : Int))[(((IntKind.wrap .i64 x1)).tmod ((r427.1.map fun b => (b.toNat : Int)).length : Int)).toNat]?) fun y432 =>
                                    .opt (Image × Int) (image_Decode q (((r427.1.map fun b => (b.toNat : Int)).set ((((IntKind.wrap .i64 x1)).tmod ((r427.1.map fun b => (b.toNat : Int)).length : Int)).toNat) (IntKind.wrap .u8 (((BitVec.ofInt 8 y431 ^^^ BitVec.ofInt 8 (IntKind.wrap .u8 (((BitVec.ofInt 8 x2 ||| BitVec.ofInt 8 (1 : Int)).toNat : Int)))).toNat : Int)))).map fun x => UInt8.ofNat x.toNat)) fun r433 =>
                                      .ite (decide ((r427.1.length : Int) = 0))
                                        .fail
                                        (.ite (decide (0 ≤ ((IntKind.wrap .i64 x1)).tmod (r427.1.length : Int)))
                                          (.ite (decide (((IntKind.wrap .i64 x1)).tmod (r427.1.length : Int) ≤ ((r427.1.length : Nat) : Int)))
                                            (.opt (Image × Int) (image_Decode q ((r427.1.drop (0)).take ((((IntKind.wrap .i64 x1)).tmod (r427.1.length : Int)).toNat - 0))) fun r434 =>
                                              .ite (decide (r430.2 = (0 : Int)))
                                                (.opt Bool (ref31_SameImage q x0 r430.1) fun r435 =>
                                                  .ite (r435)
                                                    (.ite (!decide (r433.2 = (0 : Int)))
                                                      (.ite (!decide (r434.2 = (0 : Int)))
                                                        (.opt Bool (law31_alive q) fun r436 =>
                                                          .leaf (r436))
                                                        (.leaf (false)))
                                                      (.leaf (false)))
                                                    (.leaf (false)))
                                                (.leaf (false)))
                                            .fail)
                                          .fail))
                                  .fail)
                                .fail)
                            .fail)
                          .fail))
                      .fail)))))
noncomputable def law31_ImageRoundTrip (q : Option Nat) (x0 : Image) (x1 : Int) (x2 : Int) : Option Bool := (Tlaw31_ImageRoundTrip q x0 x1 x2).run
theorem lelaw31_ImageRoundTrip (k : Nat) (x0 : Image) (x1 : Int) (x2 : Int) : Le (law31_ImageRoundTrip (some k) x0 x1 x2) (law31_ImageRoundTrip none x0 x1 x2) := (TLe.opt (lelaw31_small k _) fun _ => (TLe.ite (TLe.opt (lelaw31_alive k) fun _ => TLe.rfl) (TLe.ite (TLe.opt (lelaw31_alive k) fun _ => TLe.rfl) (TLe.opt (leimage_Encode k _) fun _ => (TLe.opt (leimage_Check k _) fun _ => (TLe.ite TLe.rfl (TLe.ite (TLe.ite (TLe.opt (lelaw31_alive k) fun _ => TLe.rfl) TLe.rfl) (TLe.ite TLe.rfl (TLe.opt (leimage_Decode k _) fun _ => (TLe.ite (TLe.ite TLe.rfl (TLe.ite (TLe.ite (TLe.opt Le.rfl fun _ => (TLe.ite (TLe.ite (TLe.opt Le.rfl fun _ => (TLe.opt (leimage_Decode k _) fun _ => (TLe.ite TLe.rfl (TLe.ite (TLe.ite (TLe.opt (leimage_Decode k _) fun _ => (TLe.ite (TLe.opt (leref31_SameImage k _ _) fun _ => (TLe.ite (TLe.ite (TLe.ite (TLe.opt (lelaw31_alive k) fun _ => TLe.rfl) TLe.rfl) TLe.rfl) TLe.rfl)) TLe.rfl)) TLe.rfl) TLe.rfl)))) TLe.rfl) TLe.rfl)) TLe.rfl) TLe.rfl)) TLe.rfl))))))))))
noncomputable def Alaw31_ImageRoundTrip : Arg U (Image × Int × Int × Unit) := aA cImage (aO (cInt .u16) (aO (cInt .u8) (aNil)))
noncomputable def Rlaw31_ImageRoundTrip (r : Bool) : List (V U) × List (Blk U) := ([vO cBool r], [])
noncomputable def Slaw31_ImageRoundTrip : List (V U) → List (Blk U) → Option (FnOut U) := mkSpec Alaw31_ImageRoundTrip bNil (fun x _ => law31_ImageRoundTrip none x.1 x.2.1 x.2.2.1) Rlaw31_ImageRoundTrip
noncomputable def Elaw31_ImageRoundTrip : Env U := { P := Try.prog, cd := cd, fns := fns6, lps := noL, frz := fun _r => false, nt := 102, n0 := 0, mks := fun t => Nat.beq t 54 }
theorem runlaw31_ImageRoundTrip (x : Image × Int × Int × Unit) (g : Unit) : execF Elaw31_ImageRoundTrip Try.f7 (Alaw31_ImageRoundTrip.enc x) (bNil.enc g) = (Tlaw31_ImageRoundTrip none x.1 x.2.1 x.2.2.1).map Rlaw31_ImageRoundTrip := by kernel_rfl
theorem oklaw31_ImageRoundTrip : FnOk Try.prog cd 7 Slaw31_ImageRoundTrip := mk_ok (E := Elaw31_ImageRoundTrip) cd_ok fns6_ok Try.func7 (by kernel_rfl) (noLoops_body (by kernel_rfl)) (aA_ok cImage_ok (aO_ok (cInt_ok .u16) (aO_ok (cInt_ok .u8) (aNil_ok)))) bNil_ok (T := fun x _ => Tlaw31_ImageRoundTrip none x.1 x.2.1 x.2.2.1) (fun _ _ => rfl) runlaw31_ImageRoundTrip
noncomputable def fns7 := addF 7 true Slaw31_ImageRoundTrip fns6
theorem fns7_ok : ∀ f q t, fns7 f = some (q, t) → FnOk Try.prog cd f t := addF_ok oklaw31_ImageRoundTrip fns6_ok
/-- emulator/emulatorlaw31.ImageLoaded$1 -/
noncomputable def Tlaw31_ImageLoadedF1 (x0 : Int) (g0 : Machine) : Tree Int :=
  .ite (decide ((2 : Int) = 0))
    .fail
    (.ite (decide (0 ≤ IntKind.wrap .i64 ((x0).tdiv (2 : Int))))
      (.opt Int (g0.mem[(IntKind.wrap .i64 ((x0).tdiv (2 : Int))).toNat]?) fun y456 =>
        .ite (decide ((2 : Int) = 0))
          .fail
          (.ite (decide (0 ≤ (IntKind.wrap .i64 ((8 : Int) * ((x0).tmod (2 : Int))))))
            (.leaf (IntKind.wrap .i64 (((BitVec.ofInt 64 ((y456).fdiv (2 ^ (min ((IntKind.wrap .i64 ((8 : Int) * ((x0).tmod (2 : Int))))).toNat 64))) &&& BitVec.ofInt 64 (255 : Int)).toNat : Int))))
            .fail))
      .fail)
noncomputable def law31_ImageLoadedF1 (x0 : Int) (g0 : Machine) : Option Int := (Tlaw31_ImageLoadedF1 x0 g0).run
noncomputable def Alaw31_ImageLoadedF1 : Arg U (Int × Unit) := aO (cInt .i64) (aP 0 0 (aNil))
noncomputable def Glaw31_ImageLoadedF1 : Bls U (Machine × Unit) := bC cMachine (bNil)
noncomputable def Rlaw31_ImageLoadedF1 (_x : Int × Unit) (g : Machine × Unit) (r : Int) : List (V U) × List (Blk U) := ([vO (cPair (cInt .i64) (cUnit)) (r, ())], [.cells ((cMachine : Cdc U Machine).enc g.1) none])
noncomputable def Slaw31_ImageLoadedF1 : List (V U) → List (Blk U) → Option (FnOut U) := mkSpecG Alaw31_ImageLoadedF1 Glaw31_ImageLoadedF1 (fun x g => law31_ImageLoadedF1 x.1 g.1) Rlaw31_ImageLoadedF1
noncomputable def Elaw31_ImageLoadedF1 : Env U := { P := Try.prog, cd := cd, fns := fns7, lps := noL, frz := fun _r => false, nt := 15, n0 := 1 }
theorem rnlaw31_ImageLoadedF1 (x0 : Int) (g0 : Machine) : execX false Elaw31_ImageLoadedF1 Try.f26 (Alaw31_ImageLoadedF1.enc (x0, ())) (Glaw31_ImageLoadedF1.enc (g0, ())) = (Tlaw31_ImageLoadedF1 x0 g0).map (Rlaw31_ImageLoadedF1 (x0, ()) (g0, ())) := by kernel_rfl
theorem runlaw31_ImageLoadedF1 : ∀ (x : Int × Unit) (g : Machine × Unit), execX false Elaw31_ImageLoadedF1 Try.f26 (Alaw31_ImageLoadedF1.enc x) (Glaw31_ImageLoadedF1.enc g) = (Tlaw31_ImageLoadedF1 x.1 g.1).map (Rlaw31_ImageLoadedF1 x g)
  | (x0, ()), (g0, ()) => rnlaw31_ImageLoadedF1 x0 g0
theorem oklaw31_ImageLoadedF1 : FnOk Try.prog cd 26 Slaw31_ImageLoadedF1 := mk_okG (E := Elaw31_ImageLoadedF1) (A := Alaw31_ImageLoadedF1) (B := Glaw31_ImageLoadedF1) false cd_ok fns7_ok Try.func26 (by kernel_rfl) (noLoops_body (by kernel_rfl)) (aO_ok (cInt_ok .i64) (aP_ok (aNil_ok))) (bC_ok cMachine_ok bNil_ok) (T := fun (x : Int × Unit) (g : Machine × Unit) => Tlaw31_ImageLoadedF1 x.1 g.1) (fun _ _ => rfl) runlaw31_ImageLoadedF1
theorem kplaw31_ImageLoadedF1 : Keeps Slaw31_ImageLoadedF1 [0] := mkSpecG_keeps (bC_ok cMachine_ok bNil_ok) (fun x g y => by kernel_rfl)
/-- emulator/emulatorlaw31.ImageLoaded -/
structure Slaw31_ImageLoaded_0 where
  t1 : Int
  t2 : Int
  t35 : Int
  t36 : Int
  b0 : Image
  b1_0 : (List Int)
  b1_1 : (List Int)
  b1_2 : Int
  b1_3 : Int
  b1_5 : (List Int)
  b1_6 : Bool
  b1_7 : (List Page)
  b1_8 : Int
  b1_9 : Int
  b1_10 : Bool
  b1_11 : Bool
  b1_12 : Int
  b1_13 : Int
  b1_14 : (List Line)
  b1_15 : (List (List UInt8))
  b1_16 : (List Int)
  b1_17 : Bool
  b1_18 : Bool
  b1_19 : Bool
  b1_20 : Int
  b1_21 : Int
  b1_22 : Int
  b1_23 : Int
  b1_24 : Int
  b1_25 : (List (List UInt8))
  b1_26 : Int
  b1_27 : Bool
  b1_28 : Bool
  b1_29 : Bool
  b1_30 : Bool
  b1_31 : Bool
  b1_32 : Int
  b1_33 : Int
  b1_34 : Int
  b1_35 : Int
  b1_36 : Int
  b1_37 : Bool
  b1_38 : Bool
  b1_39 : Int
  b1_40 : Bool
  b2 : (List Int)
noncomputable def Wlaw31_ImageLoaded_0 (s : Slaw31_ImageLoaded_0) : Tree (Slaw31_ImageLoaded_0 ⊕ (Int × Int × Image × (List Int) × (List Int) × Int × Int × (List Int) × Bool × (List Page) × Int × Int × Bool × Bool × Int × Int × (List Line) × (List (List UInt8)) × (List Int) × Bool × Bool × Bool × Int × Int × Int × Int × Int × (List (List UInt8)) × Int × Bool × Bool × Bool × Bool × Bool × Int × Int × Int × Int × Int × Bool × Bool × Int × Bool × (List Int))) :=
  .ite (decide (s.t36 < s.t35))
    (.ite (decide (0 ≤ s.t36))
      (.ite (decide (s.t36 < (s.b2.length : Int)))
        (.opt Int (s.b2[(s.t36).toNat]?) fun y463 =>
          .leaf (.inl (Slaw31_ImageLoaded_0.mk s.t1 s.t2 s.t35 (IntKind.wrap .i64 (s.t36 + (1 : Int))) s.b0 s.b1_0 s.b1_1 s.b1_2 s.b1_3 s.b1_5 s.b1_6 s.b1_7 s.b1_8 s.b1_9 s.b1_10 s.b1_11 s.b1_12 s.b1_13 s.b1_14 s.b1_15 s.b1_16 s.b1_17 s.b1_18 s.b1_19 s.b1_20 s.b1_21 s.b1_22 s.b1_23 s.b1_24 s.b1_25 s.b1_26 s.b1_27 s.b1_28 s.b1_29 s.b1_30 s.b1_31 s.b1_32 s.b1_33 s.b1_34 s.b1_35 s.b1_36 s.b1_37 s.b1_38 s.b1_39 s.b1_40 (s.b2.set ((s.t36).toNat) (IntKind.wrap .i64 s.t2)))))
        .fail)
      .fail)
    (.leaf (.inr (s.t1, s.t2, s.b0, s.b1_0, s.b1_1, s.b1_2, s.b1_3, s.b1_5, s.b1_6, s.b1_7, s.b1_8, s.b1_9, s.b1_10, s.b1_11, s.b1_12, s.b1_13, s.b1_14, s.b1_15, s.b1_16, s.b1_17, s.b1_18, s.b1_19, s.b1_20, s.b1_21, s.b1_22, s.b1_23, s.b1_24, s.b1_25, s.b1_26, s.b1_27, s.b1_28, s.b1_29, s.b1_30, s.b1_31, s.b1_32, s.b1_33, s.b1_34, s.b1_35, s.b1_36, s.b1_37, s.b1_38, s.b1_39, s.b1_40, s.b2)))
noncomputable def Llaw31_ImageLoaded_0 (q : Option Nat) (s : Slaw31_ImageLoaded_0) : Option (Int × Int × Image × (List Int) × (List Int) × Int × Int × (List Int) × Bool × (List Page) × Int × Int × Bool × Bool × Int × Int × (List Line) × (List (List UInt8)) × (List Int) × Bool × Bool × Bool × Int × Int × Int × Int × Int × (List (List UInt8)) × Int × Bool × Bool × Bool × Bool × Bool × Int × Int × Int × Int × Int × Bool × Bool × Int × Bool × (List Int)) := limQ q (fun s => (Wlaw31_ImageLoaded_0 s).run) s
theorem leLlaw31_ImageLoaded_0 (k : Nat) (s : Slaw31_ImageLoaded_0) : Le (Llaw31_ImageLoaded_0 (some k) s) (Llaw31_ImageLoaded_0 none s) := limQ_le (fun _ => Le.rfl) s
structure Slaw31_ImageLoaded_1 where
  t2 : Int
  t9 : Int
  t13 : Int
  t88 : Int
  b0 : Image
  b1 : Machine
noncomputable def Wlaw31_ImageLoaded_1 (s : Slaw31_ImageLoaded_1) : Tree (Slaw31_ImageLoaded_1 ⊕ ((Bool × Int × Image × Machine) ⊕ (Int × Image × Machine))) :=
  .ite (decide (s.t88 < (4096 : Int)))
    (.ite (decide ((2 : Int) = 0))
      .fail
      (.ite (decide (0 ≤ (IntKind.wrap .i64 ((8 : Int) * ((s.t88).tmod (2 : Int))))))
        (.ite (decide ((IntKind.wrap .i64 (s.t88 - s.t9)) < (0 : Int)))
          (.opt Int (law31_ImageLoadedF1 s.t88 s.b1) fun r468 =>
            .ite (!decide (r468 = (IntKind.wrap .i64 (((BitVec.ofInt 64 (((IntKind.wrap .i64 s.t2)).fdiv (2 ^ (min ((IntKind.wrap .i64 ((8 : Int) * ((s.t88).tmod (2 : Int))))).toNat 64))) &&& BitVec.ofInt 64 (255 : Int)).toNat : Int)))))
              (.leaf (.inr (.inl (false, s.t13, s.b0, s.b1))))
              (.leaf (.inl (Slaw31_ImageLoaded_1.mk s.t2 s.t9 s.t13 (IntKind.wrap .i64 (s.t88 + (1 : Int))) s.b0 s.b1))))
          (.ite (decide (s.t13 ≤ (IntKind.wrap .i64 (s.t88 - s.t9))))
            (.opt Int (law31_ImageLoadedF1 s.t88 s.b1) fun r469 =>
              .ite (!decide (r469 = (IntKind.wrap .i64 (((BitVec.ofInt 64 (((IntKind.wrap .i64 s.t2)).fdiv (2 ^ (min ((IntKind.wrap .i64 ((8 : Int) * ((s.t88).tmod (2 : Int))))).toNat 64))) &&& BitVec.ofInt 64 (255 : Int)).toNat : Int)))))
                (.leaf (.inr (.inl (false, s.t13, s.b0, s.b1))))
                (.leaf (.inl (Slaw31_ImageLoaded_1.mk s.t2 s.t9 s.t13 (IntKind.wrap .i64 (s.t88 + (1 : Int))) s.b0 s.b1))))
            (.ite (decide ((IntKind.wrap .i64 (s.t88 - s.t9)) < (s.b0.text.length : Int)))
              (.ite (decide (0 ≤ IntKind.wrap .i64 (s.t88 - s.t9)))
                (.opt UInt8 (s.b0.text[(IntKind.wrap .i64 (s.t88 - s.t9)).toNat]?) fun y466 =>
                  .opt Int (law31_ImageLoadedF1 s.t88 s.b1) fun r470 =>
                    .ite (!decide (r470 = (IntKind.wrap .i64 (y466.toNat : Int))))
                      (.leaf (.inr (.inl (false, s.t13, s.b0, s.b1))))
                      (.leaf (.inl (Slaw31_ImageLoaded_1.mk s.t2 s.t9 s.t13 (IntKind.wrap .i64 (s.t88 + (1 : Int))) s.b0 s.b1))))
                .fail)
              (.ite (decide ((IntKind.wrap .i64 (s.t88 - s.t9)) < (IntKind.wrap .i64 ((s.b0.text.length : Int) + (s.b0.data.length : Int)))))
                (.ite (decide (0 ≤ IntKind.wrap .i64 ((IntKind.wrap .i64 (s.t88 - s.t9)) - (s.b0.text.length : Int))))
                  (.opt UInt8 (s.b0.data[(IntKind.wrap .i64 ((IntKind.wrap .i64 (s.t88 - s.t9)) - (s.b0.text.length : Int))).toNat]?) fun y467 =>
                    .opt Int (law31_ImageLoadedF1 s.t88 s.b1) fun r471 =>
                      .ite (!decide (r471 = (IntKind.wrap .i64 (y467.toNat : Int))))
                        (.leaf (.inr (.inl (false, s.t13, s.b0, s.b1))))
                        (.leaf (.inl (Slaw31_ImageLoaded_1.mk s.t2 s.t9 s.t13 (IntKind.wrap .i64 (s.t88 + (1 : Int))) s.b0 s.b1))))
                  .fail)
                (.opt Int (law31_ImageLoadedF1 s.t88 s.b1) fun r472 =>
                  .ite (!decide (r472 = (0 : Int)))
                    (.leaf (.inr (.inl (false, s.t13, s.b0, s.b1))))
                    (.leaf (.inl (Slaw31_ImageLoaded_1.mk s.t2 s.t9 s.t13 (IntKind.wrap .i64 (s.t88 + (1 : Int))) s.b0 s.b1))))))))
        .fail))
    (.leaf (.inr (.inr (s.t13, s.b0, s.b1))))
noncomputable def Llaw31_ImageLoaded_1 (q : Option Nat) (s : Slaw31_ImageLoaded_1) : Option ((Bool × Int × Image × Machine) ⊕ (Int × Image × Machine)) := limQ q (fun s => (Wlaw31_ImageLoaded_1 s).run) s
theorem leLlaw31_ImageLoaded_1 (k : Nat) (s : Slaw31_ImageLoaded_1) : Le (Llaw31_ImageLoaded_1 (some k) s) (Llaw31_ImageLoaded_1 none s) := limQ_le (fun _ => Le.rfl) s
noncomputable def Tlaw31_ImageLoaded (q : Option Nat) (x0 : Image) (x1 : Int) (x2 : Int) : Tree Bool :=
  .opt Bool (law31_small q x0) fun r457 =>
    .ite (!r457)
      (.opt Bool (law31_alive q) fun r460 =>
        .leaf (r460))
      (.opt Int (image_Check q x0) fun r458 =>
        .ite (!decide (r458 = (0 : Int)))
          (.opt Bool (law31_alive q) fun r461 =>
            .leaf (r461))
          (.opt Int (image_Size x0) fun r459 =>
            .ite (decide ((2000 : Int) < r459))
              (.opt Bool (law31_alive q) fun r462 =>
                .leaf (r462))
              (.ite (decide ((2048 : Int) = (2048 : Int)))
                (.ite (decide (0 ≤ (2048 : Int)))
                  (.ite (decide ((8 : Int) * (2048 : Int) ≤ 281474976710656))
                    (.opt (Int × Int × Image × (List Int) × (List Int) × Int × Int × (List Int) × Bool × (List Page) × Int × Int × Bool × Bool × Int × Int × (List Line) × (List (List UInt8)) × (List Int) × Bool × Bool × Bool × Int × Int × Int × Int × Int × (List (List UInt8)) × Int × Bool × Bool × Bool × Bool × Bool × Int × Int × Int × Int × Int × Bool × Bool × Int × Bool × (List Int)) (Llaw31_ImageLoaded_0 q (Slaw31_ImageLoaded_0.mk x1 x2 ((List.replicate ((2048 : Int)).toNat (0 : Int)).length : Int) (0 : Int) x0 (List.replicate 6 (0 : Int)) (List.replicate 2 (0 : Int)) 0 0 ([]) false (List.replicate 16 (Page.mk (0 : Int) (0 : Int) (0 : Int) false)) 0 0 false false 0 0 ([]) ([]) ([]) false false false 0 0 0 0 0 ([]) 0 false false false false false 0 0 0 0 0 false false 0 false (List.replicate ((2048 : Int)).toNat (0 : Int)))) fun l464 =>
                      .ite (decide ((1024 : Int) = 0))
                        .fail
                        (.opt (Machine × Int) (image_Load q (Machine.mk (Cpu.mk l464.2.2.2.1 l464.2.2.2.2.1 l464.2.2.2.2.2.1 l464.2.2.2.2.2.2.1) l464.2.2.2.2.2.2.2.2.2.2.2.2.2.2.2.2.2.2.2.2.2.2.2.2.2.2.2.2.2.2.2.2.2.2.2.2.2.2.2.2.2.2.2 ([IntKind.wrap .i64 ((2 : Int) * (IntKind.wrap .i64 ((l464.1).tmod (1024 : Int))))]) (Mmu.mk l464.2.2.2.2.2.2.2.2.1 l464.2.2.2.2.2.2.2.2.2.1 l464.2.2.2.2.2.2.2.2.2.2.1 l464.2.2.2.2.2.2.2.2.2.2.2.1) (Clock.mk l464.2.2.2.2.2.2.2.2.2.2.2.2.1 l464.2.2.2.2.2.2.2.2.2.2.2.2.2.1 l464.2.2.2.2.2.2.2.2.2.2.2.2.2.2.1 l464.2.2.2.2.2.2.2.2.2.2.2.2.2.2.2.1) l464.2.2.2.2.2.2.2.2.2.2.2.2.2.2.2.2.1 (Disk.mk (Drive.mk l464.2.2.2.2.2.2.2.2.2.2.2.2.2.2.2.2.2.1 l464.2.2.2.2.2.2.2.2.2.2.2.2.2.2.2.2.2.2.1) l464.2.2.2.2.2.2.2.2.2.2.2.2.2.2.2.2.2.2.2.1 l464.2.2.2.2.2.2.2.2.2.2.2.2.2.2.2.2.2.2.2.2.1 l464.2.2.2.2.2.2.2.2.2.2.2.2.2.2.2.2.2.2.2.2.2.1 l464.2.2.2.2.2.2.2.2.2.2.2.2.2.2.2.2.2.2.2.2.2.2.1 l464.2.2.2.2.2.2.2.2.2.2.2.2.2.2.2.2.2.2.2.2.2.2.2.1 l464.2.2.2.2.2.2.2.2.2.2.2.2.2.2.2.2.2.2.2.2.2.2.2.2.1 l464.2.2.2.2.2.2.2.2.2.2.2.2.2.2.2.2.2.2.2.2.2.2.2.2.2.1 l464.2.2.2.2.2.2.2.2.2.2.2.2.2.2.2.2.2.2.2.2.2.2.2.2.2.2.1) (Tape.mk l464.2.2.2.2.2.2.2.2.2.2.2.2.2.2.2.2.2.2.2.2.2.2.2.2.2.2.2.1 l464.2.2.2.2.2.2.2.2.2.2.2.2.2.2.2.2.2.2.2.2.2.2.2.2.2.2.2.2.1 l464.2.2.2.2.2.2.2.2.2.2.2.2.2.2.2.2.2.2.2.2.2.2.2.2.2.2.2.2.2.1 l464.2.2.2.2.2.2.2.2.2.2.2.2.2.2.2.2.2.2.2.2.2.2.2.2.2.2.2.2.2.2.1 l464.2.2.2.2.2.2.2.2.2.2.2.2.2.2.2.2.2.2.2.2.2.2.2.2.2.2.2.2.2.2.2.1 l464.2.2.2.2.2.2.2.2.2.2.2.2.2.2.2.2.2.2.2.2.2.2.2.2.2.2.2.2.2.2.2.2.1 l464.2.2.2.2.2.2.2.2.2.2.2.2.2.2.2.2.2.2.2.2.2.2.2.2.2.2.2.2.2.2.2.2.2.1 l464.2.2.2.2.2.2.2.2.2.2.2.2.2.2.2.2.2.2.2.2.2.2.2.2.2.2.2.2.2.2.2.2.2.2.1 l464.2.2.2.2.2.2.2.2.2.2.2.2.2.2.2.2.2.2.2.2.2.2.2.2.2.2.2.2.2.2.2.2.2.2.2.1 l464.2.2.2.2.2.2.2.2.2.2.2.2.2.2.2.2.2.2.2.2.2.2.2.2.2.2.2.2.2.2.2.2.2.2.2.2.1 l464.2.2.2.2.2.2.2.2.2.2.2.2.2.2.2.2.2.2.2.2.2.2.2.2.2.2.2.2.2.2.2.2.2.2.2.2.2.1) l464.2.2.2.2.2.2.2.2.2.2.2.2.2.2.2.2.2.2.2.2.2.2.2.2.2.2.2.2.2.2.2.2.2.2.2.2.2.2.1 l464.2.2.2.2.2.2.2.2.2.2.2.2.2.2.2.2.2.2.2.2.2.2.2.2.2.2.2.2.2.2.2.2.2.2.2.2.2.2.2.1 l464.2.2.2.2.2.2.2.2.2.2.2.2.2.2.2.2.2.2.2.2.2.2.2.2.2.2.2.2.2.2.2.2.2.2.2.2.2.2.2.2.1 l464.2.2.2.2.2.2.2.2.2.2.2.2.2.2.2.2.2.2.2.2.2.2.2.2.2.2.2.2.2.2.2.2.2.2.2.2.2.2.2.2.2.1 l464.2.2.2.2.2.2.2.2.2.2.2.2.2.2.2.2.2.2.2.2.2.2.2.2.2.2.2.2.2.2.2.2.2.2.2.2.2.2.2.2.2.2.1) l464.2.2.1 (IntKind.wrap .i64 ((2 : Int) * (IntKind.wrap .i64 ((l464.1).tmod (1024 : Int)))))) fun r465 =>
                          .ite (!decide (r465.2 = (0 : Int)))
                            (.leaf (false))
                            (.ite (!decide ((r465.1.mem.length : Int) = (2048 : Int)))
                              (.leaf (false))
                              (.ite (decide ((2 : Int) = 0))
                                .fail
                                (.ite (decide ((2 : Int) = 0))
                                  .fail
                                  (.opt ((Bool × Int × Image × Machine) ⊕ (Int × Image × Machine)) (Llaw31_ImageLoaded_1 q (Slaw31_ImageLoaded_1.mk l464.2.1 (IntKind.wrap .i64 ((2 : Int) * (IntKind.wrap .i64 ((l464.1).tmod (1024 : Int))))) (IntKind.wrap .i64 ((IntKind.wrap .i64 ((IntKind.wrap .i64 ((IntKind.wrap .i64 ((l464.2.2.1.text.length : Int) + (l464.2.2.1.data.length : Int))) + (((l464.2.2.1.data.length : Int)).tmod (2 : Int)))) + l464.2.2.1.bss)) + ((l464.2.2.1.bss).tmod (2 : Int)))) (0 : Int) l464.2.2.1 r465.1)) fun l473 =>
                                    .ite (l473.isLeft)
                                      (.opt (Bool × Int × Image × Machine) (l473.getLeft?) fun a474 =>
                                        .leaf (a474.1))
                                      (.opt (Int × Image × Machine) (l473.getRight?) fun b475 =>
                                        .opt Int (image_Size b475.2.1) fun r476 =>
                                          .ite (decide (r476 = b475.1))
                                            (.ite (((decide ((b475.2.2.bad.length : Int) = (0 : Int))) == (decide ((0 : Int) < b475.1))))
                                              (.opt Bool (law31_alive q) fun r477 =>
                                                .leaf (r477))
                                              (.leaf (false)))
                                            (.leaf (false)))))))))
                    .fail)
                  .fail)
                .fail)))
noncomputable def law31_ImageLoaded (q : Option Nat) (x0 : Image) (x1 : Int) (x2 : Int) : Option Bool := (Tlaw31_ImageLoaded q x0 x1 x2).run
theorem lelaw31_ImageLoaded (k : Nat) (x0 : Image) (x1 : Int) (x2 : Int) : Le (law31_ImageLoaded (some k) x0 x1 x2) (law31_ImageLoaded none x0 x1 x2) := (TLe.opt (lelaw31_small k _) fun _ => (TLe.ite (TLe.opt (lelaw31_alive k) fun _ => TLe.rfl) (TLe.opt (leimage_Check k _) fun _ => (TLe.ite (TLe.opt (lelaw31_alive k) fun _ => TLe.rfl) (TLe.opt Le.rfl fun _ => (TLe.ite (TLe.opt (lelaw31_alive k) fun _ => TLe.rfl) (TLe.ite (TLe.ite (TLe.ite (TLe.opt (leLlaw31_ImageLoaded_0 k _) fun _ => (TLe.ite TLe.rfl (TLe.opt (leimage_Load k _ _ _) fun _ => (TLe.ite TLe.rfl (TLe.ite TLe.rfl (TLe.ite TLe.rfl (TLe.ite TLe.rfl (TLe.opt (leLlaw31_ImageLoaded_1 k _) fun _ => (TLe.ite TLe.rfl (TLe.opt Le.rfl fun _ => (TLe.opt Le.rfl fun _ => (TLe.ite (TLe.ite (TLe.opt (lelaw31_alive k) fun _ => TLe.rfl) TLe.rfl) TLe.rfl)))))))))))) TLe.rfl) TLe.rfl) TLe.rfl)))))))
noncomputable def Alaw31_ImageLoaded : Arg U (Image × Int × Int × Unit) := aA cImage (aO (cInt .u16) (aO (cInt .u16) (aNil)))
noncomputable def Rlaw31_ImageLoaded (r : Bool) : List (V U) × List (Blk U) := ([vO cBool r], [])
noncomputable def Slaw31_ImageLoaded : List (V U) → List (Blk U) → Option (FnOut U) := mkSpec Alaw31_ImageLoaded bNil (fun x _ => law31_ImageLoaded none x.1 x.2.1 x.2.2.1) Rlaw31_ImageLoaded
noncomputable def Plaw31_ImageLoaded_0 (x : (Int × Unit) × (Int × Unit) × (Unit) × (Unit) × (Int × Unit) × (Int × Unit) × Unit) (g : (Image × Unit) × ((List Int) × (List Int) × Int × Int × (List Int) × Bool × (List Page) × Int × Int × Bool × Bool × Int × Int × (List Line) × (List (List UInt8)) × (List Int) × Bool × Bool × Bool × Int × Int × Int × Int × Int × (List (List UInt8)) × Int × Bool × Bool × Bool × Bool × Bool × Int × Int × Int × Int × Int × Bool × Bool × Int × Bool × Unit) × (List Int) × Unit) : Slaw31_ImageLoaded_0 := Slaw31_ImageLoaded_0.mk x.1.1 x.2.1.1 x.2.2.2.2.1.1 x.2.2.2.2.2.1.1 g.1.1 g.2.1.1 g.2.1.2.1 g.2.1.2.2.1 g.2.1.2.2.2.1 g.2.1.2.2.2.2.1 g.2.1.2.2.2.2.2.1 g.2.1.2.2.2.2.2.2.1 g.2.1.2.2.2.2.2.2.2.1 g.2.1.2.2.2.2.2.2.2.2.1 g.2.1.2.2.2.2.2.2.2.2.2.1 g.2.1.2.2.2.2.2.2.2.2.2.2.1 g.2.1.2.2.2.2.2.2.2.2.2.2.2.1 g.2.1.2.2.2.2.2.2.2.2.2.2.2.2.1 g.2.1.2.2.2.2.2.2.2.2.2.2.2.2.2.1 g.2.1.2.2.2.2.2.2.2.2.2.2.2.2.2.2.1 g.2.1.2.2.2.2.2.2.2.2.2.2.2.2.2.2.2.1 g.2.1.2.2.2.2.2.2.2.2.2.2.2.2.2.2.2.2.1 g.2.1.2.2.2.2.2.2.2.2.2.2.2.2.2.2.2.2.2.1 g.2.1.2.2.2.2.2.2.2.2.2.2.2.2.2.2.2.2.2.2.1 g.2.1.2.2.2.2.2.2.2.2.2.2.2.2.2.2.2.2.2.2.2.1 g.2.1.2.2.2.2.2.2.2.2.2.2.2.2.2.2.2.2.2.2.2.2.1 g.2.1.2.2.2.2.2.2.2.2.2.2.2.2.2.2.2.2.2.2.2.2.2.1 g.2.1.2.2.2.2.2.2.2.2.2.2.2.2.2.2.2.2.2.2.2.2.2.2.1 g.2.1.2.2.2.2.2.2.2.2.2.2.2.2.2.2.2.2.2.2.2.2.2.2.2.1 g.2.1.2.2.2.2.2.2.2.2.2.2.2.2.2.2.2.2.2.2.2.2.2.2.2.2.1 g.2.1.2.2.2.2.2.2.2.2.2.2.2.2.2.2.2.2.2.2.2.2.2.2.2.2.2.1 g.2.1.2.2.2.2.2.2.2.2.2.2.2.2.2.2.2.2.2.2.2.2.2.2.2.2.2.2.1 g.2.1.2.2.2.2.2.2.2.2.2.2.2.2.2.2.2.2.2.2.2.2.2.2.2.2.2.2.2.1 g.2.1.2.2.2.2.2.2.2.2.2.2.2.2.2.2.2.2.2.2.2.2.2.2.2.2.2.2.2.2.1 g.2.1.2.2.2.2.2.2.2.2.2.2.2.2.2.2.2.2.2.2.2.2.2.2.2.2.2.2.2.2.2.1 g.2.1.2.2.2.2.2.2.2.2.2.2.2.2.2.2.2.2.2.2.2.2.2.2.2.2.2.2.2.2.2.2.1 g.2.1.2.2.2.2.2.2.2.2.2.2.2.2.2.2.2.2.2.2.2.2.2.2.2.2.2.2.2.2.2.2.2.1 g.2.1.2.2.2.2.2.2.2.2.2.2.2.2.2.2.2.2.2.2.2.2.2.2.2.2.2.2.2.2.2.2.2.2.1 g.2.1.2.2.2.2.2.2.2.2.2.2.2.2.2.2.2.2.2.2.2.2.2.2.2.2.2.2.2.2.2.2.2.2.2.1 g.2.1.2.2.2.2.2.2.2.2.2.2.2.2.2.2.2.2.2.2.2.2.2.2.2.2.2.2.2.2.2.2.2.2.2.2.1 g.2.1.2.2.2.2.2.2.2.2.2.2.2.2.2.2.2.2.2.2.2.2.2.2.2.2.2.2.2.2.2.2.2.2.2.2.2.1 g.2.1.2.2.2.2.2.2.2.2.2.2.2.2.2.2.2.2.2.2.2.2.2.2.2.2.2.2.2.2.2.2.2.2.2.2.2.2.1 g.2.1.2.2.2.2.2.2.2.2.2.2.2.2.2.2.2.2.2.2.2.2.2.2.2.2.2.2.2.2.2.2.2.2.2.2.2.2.2.1 g.2.1.2.2.2.2.2.2.2.2.2.2.2.2.2.2.2.2.2.2.2.2.2.2.2.2.2.2.2.2.2.2.2.2.2.2.2.2.2.2.1 g.2.1.2.2.2.2.2.2.2.2.2.2.2.2.2.2.2.2.2.2.2.2.2.2.2.2.2.2.2.2.2.2.2.2.2.2.2.2.2.2.2.1 g.2.2.1
noncomputable def tAlaw31_ImageLoaded_0 : Tms U ((Int × Unit) × (Int × Unit) × (Unit) × (Unit) × (Int × Unit) × (Int × Unit) × Unit) := tO 1 (cPair (cInt .u16) (cUnit)) (tO 2 (cPair (cInt .u16) (cUnit)) (tO 3 (cK (.ptr 0 0) (cUnit)) (tO 7 (cK (.ptr 1 0) (cUnit)) (tO 35 (cPair (cInt .i64) (cUnit)) (tO 36 (cPair (cInt .i64) (cUnit)) (tNil))))))
noncomputable def tBlaw31_ImageLoaded_0 : Bls U ((Image × Unit) × ((List Int) × (List Int) × Int × Int × (List Int) × Bool × (List Page) × Int × Int × Bool × Bool × Int × Int × (List Line) × (List (List UInt8)) × (List Int) × Bool × Bool × Bool × Int × Int × Int × Int × Int × (List (List UInt8)) × Int × Bool × Bool × Bool × Bool × Bool × Int × Int × Int × Int × Int × Bool × Bool × Int × Bool × Unit) × (List Int) × Unit) := bC (cPair cImage (cUnit)) (bC (cPair (cArr 3 6) (cPair (cArr 3 2) (cPair (cInt .i64) (cPair (cInt .i64) (cK (.row 2 0) (cPair (cSl 3) (cPair cBool (cPair (cArr 44 16) (cPair (cInt .i64) (cPair (cInt .i64) (cPair cBool (cPair cBool (cPair (cInt .i64) (cPair (cInt .i64) (cPair (cSl 144) (cPair (cSl 9) (cPair (cSl 3) (cPair cBool (cPair cBool (cPair cBool (cPair (cInt .i64) (cPair (cInt .i64) (cPair (cInt .i64) (cPair (cInt .i64) (cPair (cInt .i64) (cPair (cSl 9) (cPair (cInt .i64) (cPair cBool (cPair cBool (cPair cBool (cPair cBool (cPair cBool (cPair (cInt .i64) (cPair (cInt .i64) (cPair (cInt .i64) (cPair (cInt .i64) (cPair (cInt .i64) (cPair cBool (cPair cBool (cPair (cInt .i64) (cPair cBool (cUnit)))))))))))))))))))))))))))))))))))))))))) (bRv 3 0 (bNil)))
noncomputable def eSlaw31_ImageLoaded_0 (s : Slaw31_ImageLoaded_0) : St U := { tm := [(1, .v (vO (cPair (cInt .u16) (cUnit)) (s.t1, ()))), (2, .v (vO (cPair (cInt .u16) (cUnit)) (s.t2, ()))), (3, .v (vO (cK (.ptr 0 0) (cUnit)) (()))), (7, .v (vO (cK (.ptr 1 0) (cUnit)) (()))), (35, .v (vO (cPair (cInt .i64) (cUnit)) (s.t35, ()))), (36, .v (vO (cPair (cInt .i64) (cUnit)) (s.t36, ())))], hp := [.cells ((cPair cImage (cUnit) : Cdc U (Image × Unit)).enc (s.b0, ())) none, .cells ((cPair (cArr 3 6) (cPair (cArr 3 2) (cPair (cInt .i64) (cPair (cInt .i64) (cK (.row 2 0) (cPair (cSl 3) (cPair cBool (cPair (cArr 44 16) (cPair (cInt .i64) (cPair (cInt .i64) (cPair cBool (cPair cBool (cPair (cInt .i64) (cPair (cInt .i64) (cPair (cSl 144) (cPair (cSl 9) (cPair (cSl 3) (cPair cBool (cPair cBool (cPair cBool (cPair (cInt .i64) (cPair (cInt .i64) (cPair (cInt .i64) (cPair (cInt .i64) (cPair (cInt .i64) (cPair (cSl 9) (cPair (cInt .i64) (cPair cBool (cPair cBool (cPair cBool (cPair cBool (cPair cBool (cPair (cInt .i64) (cPair (cInt .i64) (cPair (cInt .i64) (cPair (cInt .i64) (cPair (cInt .i64) (cPair cBool (cPair cBool (cPair (cInt .i64) (cPair cBool (cUnit))))))))))))))))))))))))))))))))))))))))) : Cdc U ((List Int) × (List Int) × Int × Int × (List Int) × Bool × (List Page) × Int × Int × Bool × Bool × Int × Int × (List Line) × (List (List UInt8)) × (List Int) × Bool × Bool × Bool × Int × Int × Int × Int × Int × (List (List UInt8)) × Int × Bool × Bool × Bool × Bool × Bool × Int × Int × Int × Int × Int × Bool × Bool × Int × Bool × Unit)).enc (s.b1_0, s.b1_1, s.b1_2, s.b1_3, s.b1_5, s.b1_6, s.b1_7, s.b1_8, s.b1_9, s.b1_10, s.b1_11, s.b1_12, s.b1_13, s.b1_14, s.b1_15, s.b1_16, s.b1_17, s.b1_18, s.b1_19, s.b1_20, s.b1_21, s.b1_22, s.b1_23, s.b1_24, s.b1_25, s.b1_26, s.b1_27, s.b1_28, s.b1_29, s.b1_30, s.b1_31, s.b1_32, s.b1_33, s.b1_34, s.b1_35, s.b1_36, s.b1_37, s.b1_38, s.b1_39, s.b1_40, ())) none, .row 3 0 s.b2] }
noncomputable def xSlaw31_ImageLoaded_0 (r : (Int × Int × Image × (List Int) × (List Int) × Int × Int × (List Int) × Bool × (List Page) × Int × Int × Bool × Bool × Int × Int × (List Line) × (List (List UInt8)) × (List Int) × Bool × Bool × Bool × Int × Int × Int × Int × Int × (List (List UInt8)) × Int × Bool × Bool × Bool × Bool × Bool × Int × Int × Int × Int × Int × Bool × Bool × Int × Bool × (List Int))) : Ex × St U := (.exit 0, { tm := [(1, .v (vO (cPair (cInt .u16) (cUnit)) (r.1, ()))), (2, .v (vO (cPair (cInt .u16) (cUnit)) (r.2.1, ()))), (3, .v (vO (cK (.ptr 0 0) (cUnit)) (()))), (7, .v (vO (cK (.ptr 1 0) (cUnit)) (())))], hp := [.cells ((cPair cImage (cUnit) : Cdc U (Image × Unit)).enc (r.2.2.1, ())) none, .cells ((cPair (cArr 3 6) (cPair (cArr 3 2) (cPair (cInt .i64) (cPair (cInt .i64) (cK (.row 2 0) (cPair (cSl 3) (cPair cBool (cPair (cArr 44 16) (cPair (cInt .i64) (cPair (cInt .i64) (cPair cBool (cPair cBool (cPair (cInt .i64) (cPair (cInt .i64) (cPair (cSl 144) (cPair (cSl 9) (cPair (cSl 3) (cPair cBool (cPair cBool (cPair cBool (cPair (cInt .i64) (cPair (cInt .i64) (cPair (cInt .i64) (cPair (cInt .i64) (cPair (cInt .i64) (cPair (cSl 9) (cPair (cInt .i64) (cPair cBool (cPair cBool (cPair cBool (cPair cBool (cPair cBool (cPair (cInt .i64) (cPair (cInt .i64) (cPair (cInt .i64) (cPair (cInt .i64) (cPair (cInt .i64) (cPair cBool (cPair cBool (cPair (cInt .i64) (cPair cBool (cUnit))))))))))))))))))))))))))))))))))))))))) : Cdc U ((List Int) × (List Int) × Int × Int × (List Int) × Bool × (List Page) × Int × Int × Bool × Bool × Int × Int × (List Line) × (List (List UInt8)) × (List Int) × Bool × Bool × Bool × Int × Int × Int × Int × Int × (List (List UInt8)) × Int × Bool × Bool × Bool × Bool × Bool × Int × Int × Int × Int × Int × Bool × Bool × Int × Bool × Unit)).enc (r.2.2.2.1, r.2.2.2.2.1, r.2.2.2.2.2.1, r.2.2.2.2.2.2.1, r.2.2.2.2.2.2.2.1, r.2.2.2.2.2.2.2.2.1, r.2.2.2.2.2.2.2.2.2.1, r.2.2.2.2.2.2.2.2.2.2.1, r.2.2.2.2.2.2.2.2.2.2.2.1, r.2.2.2.2.2.2.2.2.2.2.2.2.1, r.2.2.2.2.2.2.2.2.2.2.2.2.2.1, r.2.2.2.2.2.2.2.2.2.2.2.2.2.2.1, r.2.2.2.2.2.2.2.2.2.2.2.2.2.2.2.1, r.2.2.2.2.2.2.2.2.2.2.2.2.2.2.2.2.1, r.2.2.2.2.2.2.2.2.2.2.2.2.2.2.2.2.2.1, r.2.2.2.2.2.2.2.2.2.2.2.2.2.2.2.2.2.2.1, r.2.2.2.2.2.2.2.2.2.2.2.2.2.2.2.2.2.2.2.1, r.2.2.2.2.2.2.2.2.2.2.2.2.2.2.2.2.2.2.2.2.1, r.2.2.2.2.2.2.2.2.2.2.2.2.2.2.2.2.2.2.2.2.2.1, r.2.2.2.2.2.2.2.2.2.2.2.2.2.2.2.2.2.2.2.2.2.2.1, r.2.2.2.2.2.2.2.2.2.2.2.2.2.2.2.2.2.2.2.2.2.2.2.1, r.2.2.2.2.2.2.2.2.2.2.2.2.2.2.2.2.2.2.2.2.2.2.2.2.1, r.2.2.2.2.2.2.2.2.2.2.2.2.2.2.2.2.2.2.2.2.2.2.2.2.2.1, r.2.2.2.2.2.2.2.2.2.2.2.2.2.2.2.2.2.2.2.2.2.2.2.2.2.2.1, r.2.2.2.2.2.2.2.2.2.2.2.2.2.2.2.2.2.2.2.2.2.2.2.2.2.2.2.1, r.2.2.2.2.2.2.2.2.2.2.2.2.2.2.2.2.2.2.2.2.2.2.2.2.2.2.2.2.1, r.2.2.2.2.2.2.2.2.2.2.2.2.2.2.2.2.2.2.2.2.2.2.2.2.2.2.2.2.2.1, r.2.2.2.2.2.2.2.2.2.2.2.2.2.2.2.2.2.2.2.2.2.2.2.2.2.2.2.2.2.2.1, r.2.2.2.2.2.2.2.2.2.2.2.2.2.2.2.2.2.2.2.2.2.2.2.2.2.2.2.2.2.2.2.1, r.2.2.2.2.2.2.2.2.2.2.2.2.2.2.2.2.2.2.2.2.2.2.2.2.2.2.2.2.2.2.2.2.1, r.2.2.2.2.2.2.2.2.2.2.2.2.2.2.2.2.2.2.2.2.2.2.2.2.2.2.2.2.2.2.2.2.2.1, r.2.2.2.2.2.2.2.2.2.2.2.2.2.2.2.2.2.2.2.2.2.2.2.2.2.2.2.2.2.2.2.2.2.2.1, r.2.2.2.2.2.2.2.2.2.2.2.2.2.2.2.2.2.2.2.2.2.2.2.2.2.2.2.2.2.2.2.2.2.2.2.1, r.2.2.2.2.2.2.2.2.2.2.2.2.2.2.2.2.2.2.2.2.2.2.2.2.2.2.2.2.2.2.2.2.2.2.2.2.1, r.2.2.2.2.2.2.2.2.2.2.2.2.2.2.2.2.2.2.2.2.2.2.2.2.2.2.2.2.2.2.2.2.2.2.2.2.2.1, r.2.2.2.2.2.2.2.2.2.2.2.2.2.2.2.2.2.2.2.2.2.2.2.2.2.2.2.2.2.2.2.2.2.2.2.2.2.2.1, r.2.2.2.2.2.2.2.2.2.2.2.2.2.2.2.2.2.2.2.2.2.2.2.2.2.2.2.2.2.2.2.2.2.2.2.2.2.2.2.1, r.2.2.2.2.2.2.2.2.2.2.2.2.2.2.2.2.2.2.2.2.2.2.2.2.2.2.2.2.2.2.2.2.2.2.2.2.2.2.2.2.1, r.2.2.2.2.2.2.2.2.2.2.2.2.2.2.2.2.2.2.2.2.2.2.2.2.2.2.2.2.2.2.2.2.2.2.2.2.2.2.2.2.2.1, r.2.2.2.2.2.2.2.2.2.2.2.2.2.2.2.2.2.2.2.2.2.2.2.2.2.2.2.2.2.2.2.2.2.2.2.2.2.2.2.2.2.2.1, ())) none, .row 3 0 r.2.2.2.2.2.2.2.2.2.2.2.2.2.2.2.2.2.2.2.2.2.2.2.2.2.2.2.2.2.2.2.2.2.2.2.2.2.2.2.2.2.2.2] })
noncomputable def xTlaw31_ImageLoaded_0 (r : (Int × Int × Image × (List Int) × (List Int) × Int × Int × (List Int) × Bool × (List Page) × Int × Int × Bool × Bool × Int × Int × (List Line) × (List (List UInt8)) × (List Int) × Bool × Bool × Bool × Int × Int × Int × Int × Int × (List (List UInt8)) × Int × Bool × Bool × Bool × Bool × Bool × Int × Int × Int × Int × Int × Bool × Bool × Int × Bool × (List Int))) : Tree (Ex × St U) := .leaf (xSlaw31_ImageLoaded_0 r)
noncomputable def hlaw31_ImageLoaded_0 : Hd := { keep := [1, 2, 3, 7, 35, 36], xkeep := [1, 2, 3, 6, 7], own := false }
noncomputable def Plaw31_ImageLoaded_1 (x : (Int × Unit) × (Unit) × (Int × Unit) × (Unit) × (Unit) × (Int × Unit) × (Int × Unit) × Unit) (g : (Image × Unit) × (Machine × Unit) × Unit) : Slaw31_ImageLoaded_1 := Slaw31_ImageLoaded_1.mk x.1.1 x.2.2.1.1 x.2.2.2.2.2.1.1 x.2.2.2.2.2.2.1.1 g.1.1 g.2.1.1
noncomputable def tAlaw31_ImageLoaded_1 : Tms U ((Int × Unit) × (Unit) × (Int × Unit) × (Unit) × (Unit) × (Int × Unit) × (Int × Unit) × Unit) := tO 2 (cPair (cInt .u16) (cUnit)) (tO 3 (cK (.ptr 0 0) (cUnit)) (tO 9 (cPair (cInt .i64) (cUnit)) (tO 10 (cK (.ptr 1 0) (cUnit)) (tO 12 (cK2 (.fn 26 [] [(.ptr 1 0)]) (cUnit)) (tO 13 (cPair (cInt .i64) (cUnit)) (tO 88 (cPair (cInt .i64) (cUnit)) (tNil)))))))
noncomputable def tBlaw31_ImageLoaded_1 : Bls U ((Image × Unit) × (Machine × Unit) × Unit) := bC (cPair cImage (cUnit)) (bC (cPair cMachine (cUnit)) (bNil))
noncomputable def eSlaw31_ImageLoaded_1 (s : Slaw31_ImageLoaded_1) : St U := { tm := [(2, .v (vO (cPair (cInt .u16) (cUnit)) (s.t2, ()))), (3, .v (vO (cK (.ptr 0 0) (cUnit)) (()))), (9, .v (vO (cPair (cInt .i64) (cUnit)) (s.t9, ()))), (10, .v (vO (cK (.ptr 1 0) (cUnit)) (()))), (12, .v (vO (cK2 (.fn 26 [] [(.ptr 1 0)]) (cUnit)) (()))), (13, .v (vO (cPair (cInt .i64) (cUnit)) (s.t13, ()))), (88, .v (vO (cPair (cInt .i64) (cUnit)) (s.t88, ())))], hp := [.cells ((cPair cImage (cUnit) : Cdc U (Image × Unit)).enc (s.b0, ())) none, .cells ((cPair cMachine (cUnit) : Cdc U (Machine × Unit)).enc (s.b1, ())) none] }
noncomputable def xSlaw31_ImageLoaded_1 : ((Bool × Int × Image × Machine) ⊕ (Int × Image × Machine)) → Ex × St U
  | .inl r => (.ret, { tm := [(3, .v (vO (cK (.ptr 0 0) (cUnit)) (()))), (6, .v (vO (cPair cBool (cUnit)) (r.1, ()))), (10, .v (vO (cK (.ptr 1 0) (cUnit)) (()))), (13, .v (vO (cPair (cInt .i64) (cUnit)) (r.2.1, ())))], hp := [.cells ((cPair cImage (cUnit) : Cdc U (Image × Unit)).enc (r.2.2.1, ())) none, .cells ((cPair cMachine (cUnit) : Cdc U (Machine × Unit)).enc (r.2.2.2, ())) none] })
  | .inr r => (.exit 2, { tm := [(3, .v (vO (cK (.ptr 0 0) (cUnit)) (()))), (10, .v (vO (cK (.ptr 1 0) (cUnit)) (()))), (13, .v (vO (cPair (cInt .i64) (cUnit)) (r.1, ())))], hp := [.cells ((cPair cImage (cUnit) : Cdc U (Image × Unit)).enc (r.2.1, ())) none, .cells ((cPair cMachine (cUnit) : Cdc U (Machine × Unit)).enc (r.2.2, ())) none] })
noncomputable def xTlaw31_ImageLoaded_1 (y : ((Bool × Int × Image × Machine) ⊕ (Int × Image × Machine))) : Tree (Ex × St U) := .ite y.isLeft (.opt (Bool × Int × Image × Machine) y.getLeft? fun r => .leaf (.ret, { tm := [(3, .v (vO (cK (.ptr 0 0) (cUnit)) (()))), (6, .v (vO (cPair cBool (cUnit)) (r.1, ()))), (10, .v (vO (cK (.ptr 1 0) (cUnit)) (()))), (13, .v (vO (cPair (cInt .i64) (cUnit)) (r.2.1, ())))], hp := [.cells ((cPair cImage (cUnit) : Cdc U (Image × Unit)).enc (r.2.2.1, ())) none, .cells ((cPair cMachine (cUnit) : Cdc U (Machine × Unit)).enc (r.2.2.2, ())) none] })) (.opt (Int × Image × Machine) y.getRight? fun r => .leaf (.exit 2, { tm := [(3, .v (vO (cK (.ptr 0 0) (cUnit)) (()))), (10, .v (vO (cK (.ptr 1 0) (cUnit)) (()))), (13, .v (vO (cPair (cInt .i64) (cUnit)) (r.1, ())))], hp := [.cells ((cPair cImage (cUnit) : Cdc U (Image × Unit)).enc (r.2.1, ())) none, .cells ((cPair cMachine (cUnit) : Cdc U (Machine × Unit)).enc (r.2.2, ())) none] }))
noncomputable def hlaw31_ImageLoaded_1 : Hd := { keep := [2, 3, 9, 10, 12, 13, 88], xkeep := [3, 6, 10, 13], own := false }
noncomputable def Elaw31_ImageLoaded : Env U := { P := Try.prog, cd := cd, fns := (addF 26 false (Slaw31_ImageLoadedF1) fns7), lps := (addL 0 hlaw31_ImageLoaded_0 (mkLoop tAlaw31_ImageLoaded_0 tBlaw31_ImageLoaded_0 Plaw31_ImageLoaded_0 (Llaw31_ImageLoaded_0 none) xTlaw31_ImageLoaded_0) (addL 1 hlaw31_ImageLoaded_1 (mkLoop tAlaw31_ImageLoaded_1 tBlaw31_ImageLoaded_1 Plaw31_ImageLoaded_1 (Llaw31_ImageLoaded_1 none) xTlaw31_ImageLoaded_1) noL)), frz := fun _r => bif Nat.beq _r 11 then true else false, nt := 161, n0 := 0 }
noncomputable def Blaw31_ImageLoaded_0 : Code := (loopAt (Try.f8.body.getD .skip) 0 0).getD .skip
theorem roundlaw31_ImageLoaded_0 (s : Slaw31_ImageLoaded_0) : round Elaw31_ImageLoaded hlaw31_ImageLoaded_0 Blaw31_ImageLoaded_0 0 (eSlaw31_ImageLoaded_0 s) = (Wlaw31_ImageLoaded_0 s).map (sumE eSlaw31_ImageLoaded_0 xSlaw31_ImageLoaded_0) := by kernel_rfl
theorem lplaw31_ImageLoaded_0 : LpOk Elaw31_ImageLoaded Blaw31_ImageLoaded_0 0 := mkLoop_ok (A := tAlaw31_ImageLoaded_0) (B := tBlaw31_ImageLoaded_0) (f := Plaw31_ImageLoaded_0) (L := Llaw31_ImageLoaded_0 none) (tO_ok (cPair_ok (cInt_ok .u16) cUnit_ok) (tO_ok (cPair_ok (cInt_ok .u16) cUnit_ok) (tO_ok (cK_ok cUnit_ok) (tO_ok (cK_ok cUnit_ok) (tO_ok (cPair_ok (cInt_ok .i64) cUnit_ok) (tO_ok (cPair_ok (cInt_ok .i64) cUnit_ok) tNil_ok)))))) (bC_ok (cPair_ok cImage_ok cUnit_ok) (bC_ok (cPair_ok (cArr_ok 3 6) (cPair_ok (cArr_ok 3 2) (cPair_ok (cInt_ok .i64) (cPair_ok (cInt_ok .i64) (cK_ok (cPair_ok (cSl_ok 3) (cPair_ok cBool_ok (cPair_ok (cArr_ok 44 16) (cPair_ok (cInt_ok .i64) (cPair_ok (cInt_ok .i64) (cPair_ok cBool_ok (cPair_ok cBool_ok (cPair_ok (cInt_ok .i64) (cPair_ok (cInt_ok .i64) (cPair_ok (cSl_ok 144) (cPair_ok (cSl_ok 9) (cPair_ok (cSl_ok 3) (cPair_ok cBool_ok (cPair_ok cBool_ok (cPair_ok cBool_ok (cPair_ok (cInt_ok .i64) (cPair_ok (cInt_ok .i64) (cPair_ok (cInt_ok .i64) (cPair_ok (cInt_ok .i64) (cPair_ok (cInt_ok .i64) (cPair_ok (cSl_ok 9) (cPair_ok (cInt_ok .i64) (cPair_ok cBool_ok (cPair_ok cBool_ok (cPair_ok cBool_ok (cPair_ok cBool_ok (cPair_ok cBool_ok (cPair_ok (cInt_ok .i64) (cPair_ok (cInt_ok .i64) (cPair_ok (cInt_ok .i64) (cPair_ok (cInt_ok .i64) (cPair_ok (cInt_ok .i64) (cPair_ok cBool_ok (cPair_ok cBool_ok (cPair_ok (cInt_ok .i64) (cPair_ok cBool_ok cUnit_ok))))))))))))))))))))))))))))))))))))))))) (bRv_ok bNil_ok))) (enc := eSlaw31_ImageLoaded_0) (out := xTlaw31_ImageLoaded_0) (outS := xSlaw31_ImageLoaded_0) (step := Wlaw31_ImageLoaded_0) (fun _ => rfl) (fun _ _ => by kernel_rfl) (by kernel_rfl) (fun _ => rfl) roundlaw31_ImageLoaded_0
noncomputable def Blaw31_ImageLoaded_1 : Code := (loopAt (Try.f8.body.getD .skip) 0 1).getD .skip
theorem roundlaw31_ImageLoaded_1 (s : Slaw31_ImageLoaded_1) : round Elaw31_ImageLoaded hlaw31_ImageLoaded_1 Blaw31_ImageLoaded_1 1 (eSlaw31_ImageLoaded_1 s) = (Wlaw31_ImageLoaded_1 s).map (sumE eSlaw31_ImageLoaded_1 xSlaw31_ImageLoaded_1) := by kernel_rfl
theorem lplaw31_ImageLoaded_1 : LpOk Elaw31_ImageLoaded Blaw31_ImageLoaded_1 1 := mkLoop_ok (A := tAlaw31_ImageLoaded_1) (B := tBlaw31_ImageLoaded_1) (f := Plaw31_ImageLoaded_1) (L := Llaw31_ImageLoaded_1 none) (tO_ok (cPair_ok (cInt_ok .u16) cUnit_ok) (tO_ok (cK_ok cUnit_ok) (tO_ok (cPair_ok (cInt_ok .i64) cUnit_ok) (tO_ok (cK_ok cUnit_ok) (tO_ok (cK2_ok cUnit_ok) (tO_ok (cPair_ok (cInt_ok .i64) cUnit_ok) (tO_ok (cPair_ok (cInt_ok .i64) cUnit_ok) tNil_ok))))))) (bC_ok (cPair_ok cImage_ok cUnit_ok) (bC_ok (cPair_ok cMachine_ok cUnit_ok) bNil_ok)) (enc := eSlaw31_ImageLoaded_1) (out := xTlaw31_ImageLoaded_1) (outS := xSlaw31_ImageLoaded_1) (step := Wlaw31_ImageLoaded_1) (fun _ => rfl) (fun _ _ => by kernel_rfl) (by kernel_rfl) (fun b => by cases b <;> rfl) roundlaw31_ImageLoaded_1
theorem runlaw31_ImageLoaded (x : Image × Int × Int × Unit) (g : Unit) : execF Elaw31_ImageLoaded Try.f8 (Alaw31_ImageLoaded.enc x) (bNil.enc g) = (Tlaw31_ImageLoaded none x.1 x.2.1 x.2.2.1).map Rlaw31_ImageLoaded := by kernel_rfl
theorem oklaw31_ImageLoaded : FnOk Try.prog cd 8 Slaw31_ImageLoaded := mk_ok (E := Elaw31_ImageLoaded) cd_ok (addF_ok oklaw31_ImageLoadedF1 fns7_ok) Try.func8 (by kernel_rfl) (loops_of (addL_ok lplaw31_ImageLoaded_0 (addL_ok lplaw31_ImageLoaded_1 noL_ok))) (aA_ok cImage_ok (aO_ok (cInt_ok .u16) (aO_ok (cInt_ok .u16) (aNil_ok)))) bNil_ok (T := fun x _ => Tlaw31_ImageLoaded none x.1 x.2.1 x.2.2.1) (fun _ _ => rfl) runlaw31_ImageLoaded
noncomputable def fns8 := addF 8 true Slaw31_ImageLoaded fns7
theorem fns8_ok : ∀ f q t, fns8 f = some (q, t) → FnOk Try.prog cd f t := addF_ok oklaw31_ImageLoaded fns7_ok
/-- emulator/image.Find -/
structure Simage_Find_0 where
  t1 : (List UInt8)
  t9 : (List Symbol)
  t10 : Int
  t11 : Int
noncomputable def Wimage_Find_0 (s : Simage_Find_0) : Tree (Simage_Find_0 ⊕ ((Int × Bool) ⊕ Unit)) :=
  .ite (decide (s.t11 < s.t10))
    (.ite (decide (0 ≤ s.t11))
      (.opt Symbol (s.t9[(s.t11).toNat]?) fun y478 =>
        .ite (decide (y478.name = s.t1))
          (.leaf (.inr (.inl (y478.value, true))))
          (.leaf (.inl (Simage_Find_0.mk s.t1 s.t9 s.t10 (IntKind.wrap .i64 (s.t11 + (1 : Int)))))))
      .fail)
    (.leaf (.inr (.inr ())))
noncomputable def Limage_Find_0 (q : Option Nat) (s : Simage_Find_0) : Option ((Int × Bool) ⊕ Unit) := limQ q (fun s => (Wimage_Find_0 s).run) s
theorem leLimage_Find_0 (k : Nat) (s : Simage_Find_0) : Le (Limage_Find_0 (some k) s) (Limage_Find_0 none s) := limQ_le (fun _ => Le.rfl) s
noncomputable def Timage_Find (q : Option Nat) (x0 : Image) (x1 : (List UInt8)) : Tree (Int × Bool) :=
  .opt ((Int × Bool) ⊕ Unit) (Limage_Find_0 q (Simage_Find_0.mk x1 x0.symbols (x0.symbols.length : Int) (0 : Int))) fun l479 =>
    .ite (l479.isLeft)
      (.opt (Int × Bool) (l479.getLeft?) fun a480 =>
        .leaf ((a480.1, a480.2)))
      (.opt Unit (l479.getRight?) fun b481 =>
        .leaf (((0 : Int), false)))
noncomputable def image_Find (q : Option Nat) (x0 : Image) (x1 : (List UInt8)) : Option (Int × Bool) := (Timage_Find q x0 x1).run
theorem leimage_Find (k : Nat) (x0 : Image) (x1 : (List UInt8)) : Le (image_Find (some k) x0 x1) (image_Find none x0 x1) := (TLe.opt (leLimage_Find_0 k _) fun _ => TLe.rfl)
noncomputable def Aimage_Find : Arg U (Image × (List UInt8) × Unit) := aA cImage (aO cStr (aNil))
noncomputable def Rimage_Find (r : (Int × Bool)) : List (V U) × List (Blk U) := ([vO (cInt .i64) r.1, vO cBool r.2], [])
noncomputable def Simage_Find : List (V U) → List (Blk U) → Option (FnOut U) := mkSpec Aimage_Find bNil (fun x _ => image_Find none x.1 x.2.1) Rimage_Find
noncomputable def Pimage_Find_0 (x : ((List UInt8) × Unit) × ((List Symbol) × Unit) × (Int × Unit) × (Int × Unit) × Unit) (_g : Unit) : Simage_Find_0 := Simage_Find_0.mk x.1.1 x.2.1.1 x.2.2.1.1 x.2.2.2.1.1
noncomputable def tAimage_Find_0 : Tms U (((List UInt8) × Unit) × ((List Symbol) × Unit) × (Int × Unit) × (Int × Unit) × Unit) := tO 1 (cPair cStr (cUnit)) (tO 9 (cPair (cSl 75) (cUnit)) (tO 10 (cPair (cInt .i64) (cUnit)) (tO 11 (cPair (cInt .i64) (cUnit)) (tNil))))
noncomputable def tBimage_Find_0 : Bls U (Unit) := bNil
noncomputable def eSimage_Find_0 (s : Simage_Find_0) : St U := { tm := [(1, .v (vO (cPair cStr (cUnit)) (s.t1, ()))), (9, .v (vO (cPair (cSl 75) (cUnit)) (s.t9, ()))), (10, .v (vO (cPair (cInt .i64) (cUnit)) (s.t10, ()))), (11, .v (vO (cPair (cInt .i64) (cUnit)) (s.t11, ())))], hp := [] }
noncomputable def xSimage_Find_0 : ((Int × Bool) ⊕ Unit) → Ex × St U
  | .inl r => (.ret, { tm := [(4, .v (vO (cPair (cInt .i64) (cUnit)) (r.1, ()))), (5, .v (vO (cPair cBool (cUnit)) (r.2, ())))], hp := [] })
  | .inr r => (.exit 0, { tm := [], hp := [] })
noncomputable def xTimage_Find_0 (y : ((Int × Bool) ⊕ Unit)) : Tree (Ex × St U) := .ite y.isLeft (.opt (Int × Bool) y.getLeft? fun r => .leaf (.ret, { tm := [(4, .v (vO (cPair (cInt .i64) (cUnit)) (r.1, ()))), (5, .v (vO (cPair cBool (cUnit)) (r.2, ())))], hp := [] })) (.opt Unit y.getRight? fun r => .leaf (.exit 0, { tm := [], hp := [] }))
noncomputable def himage_Find_0 : Hd := { keep := [1, 9, 10, 11], xkeep := [4, 5], own := false }
noncomputable def Eimage_Find : Env U := { P := Try.prog, cd := cd, fns := fns8, lps := (addL 0 himage_Find_0 (mkLoop tAimage_Find_0 tBimage_Find_0 Pimage_Find_0 (Limage_Find_0 none) xTimage_Find_0) noL), frz := fun _r => false, nt := 22, n0 := 0 }
noncomputable def Bimage_Find_0 : Code := (loopAt (Try.f27.body.getD .skip) 0 0).getD .skip
theorem roundimage_Find_0 (s : Simage_Find_0) : round Eimage_Find himage_Find_0 Bimage_Find_0 0 (eSimage_Find_0 s) = (Wimage_Find_0 s).map (sumE eSimage_Find_0 xSimage_Find_0) := by kernel_rfl
theorem lpimage_Find_0 : LpOk Eimage_Find Bimage_Find_0 0 := mkLoop_ok (A := tAimage_Find_0) (B := tBimage_Find_0) (f := Pimage_Find_0) (L := Limage_Find_0 none) (tO_ok (cPair_ok cStr_ok cUnit_ok) (tO_ok (cPair_ok (cSl_ok 75) cUnit_ok) (tO_ok (cPair_ok (cInt_ok .i64) cUnit_ok) (tO_ok (cPair_ok (cInt_ok .i64) cUnit_ok) tNil_ok)))) bNil_ok (enc := eSimage_Find_0) (out := xTimage_Find_0) (outS := xSimage_Find_0) (step := Wimage_Find_0) (fun _ => rfl) (fun _ _ => by kernel_rfl) (by kernel_rfl) (fun b => by cases b <;> rfl) roundimage_Find_0
theorem runimage_Find (x : Image × (List UInt8) × Unit) (g : Unit) : execF Eimage_Find Try.f27 (Aimage_Find.enc x) (bNil.enc g) = (Timage_Find none x.1 x.2.1).map Rimage_Find := by kernel_rfl
theorem okimage_Find : FnOk Try.prog cd 27 Simage_Find := mk_ok (E := Eimage_Find) cd_ok fns8_ok Try.func27 (by kernel_rfl) (loops_of (addL_ok lpimage_Find_0 noL_ok)) (aA_ok cImage_ok (aO_ok cStr_ok (aNil_ok))) bNil_ok (T := fun x _ => Timage_Find none x.1 x.2.1) (fun _ _ => rfl) runimage_Find
noncomputable def fns27 := addF 27 true Simage_Find fns8
theorem fns27_ok : ∀ f q t, fns27 f = some (q, t) → FnOk Try.prog cd f t := addF_ok okimage_Find fns8_ok
/-- emulator/emulatorref31.Find -/
structure Sref31_Find_0 where
  t1 : (List UInt8)
  t6 : Int
  b0 : Image
noncomputable def Wref31_Find_0 (s : Sref31_Find_0) : Tree (Sref31_Find_0 ⊕ ((Int × Bool) ⊕ Unit)) :=
  .ite (decide (s.t6 < (s.b0.symbols.length : Int)))
    (.ite (decide (0 ≤ s.t6))
      (.opt Symbol (s.b0.symbols[(s.t6).toNat]?) fun y482 =>
        .ite (decide (y482.name = s.t1))
          (.ite (decide (0 ≤ s.t6))
            (.opt Symbol (s.b0.symbols[(s.t6).toNat]?) fun y483 =>
              .leaf (.inr (.inl (y483.value, true))))
            .fail)
          (.leaf (.inl (Sref31_Find_0.mk s.t1 (IntKind.wrap .i64 (s.t6 + (1 : Int))) s.b0))))
      .fail)
    (.leaf (.inr (.inr ())))
noncomputable def Lref31_Find_0 (q : Option Nat) (s : Sref31_Find_0) : Option ((Int × Bool) ⊕ Unit) := limQ q (fun s => (Wref31_Find_0 s).run) s
theorem leLref31_Find_0 (k : Nat) (s : Sref31_Find_0) : Le (Lref31_Find_0 (some k) s) (Lref31_Find_0 none s) := limQ_le (fun _ => Le.rfl) s
noncomputable def Tref31_Find (q : Option Nat) (x0 : Image) (x1 : (List UInt8)) : Tree (Int × Bool) :=
  .opt ((Int × Bool) ⊕ Unit) (Lref31_Find_0 q (Sref31_Find_0.mk x1 (0 : Int) x0)) fun l484 =>
    .ite (l484.isLeft)
      (.opt (Int × Bool) (l484.getLeft?) fun a485 =>
        .leaf ((a485.1, a485.2)))
      (.opt Unit (l484.getRight?) fun b486 =>
        .leaf (((0 : Int), false)))
noncomputable def ref31_Find (q : Option Nat) (x0 : Image) (x1 : (List UInt8)) : Option (Int × Bool) := (Tref31_Find q x0 x1).run
theorem leref31_Find (k : Nat) (x0 : Image) (x1 : (List UInt8)) : Le (ref31_Find (some k) x0 x1) (ref31_Find none x0 x1) := (TLe.opt (leLref31_Find_0 k _) fun _ => TLe.rfl)
noncomputable def Aref31_Find : Arg U (Image × (List UInt8) × Unit) := aA cImage (aO cStr (aNil))
noncomputable def Rref31_Find (r : (Int × Bool)) : List (V U) × List (Blk U) := ([vO (cInt .i64) r.1, vO cBool r.2], [])
noncomputable def Sref31_Find : List (V U) → List (Blk U) → Option (FnOut U) := mkSpec Aref31_Find bNil (fun x _ => ref31_Find none x.1 x.2.1) Rref31_Find
noncomputable def Pref31_Find_0 (x : ((List UInt8) × Unit) × (Unit) × (Int × Unit) × Unit) (g : (Image × Unit) × Unit) : Sref31_Find_0 := Sref31_Find_0.mk x.1.1 x.2.2.1.1 g.1.1
noncomputable def tAref31_Find_0 : Tms U (((List UInt8) × Unit) × (Unit) × (Int × Unit) × Unit) := tO 1 (cPair cStr (cUnit)) (tO 2 (cK (.ptr 0 0) (cUnit)) (tO 6 (cPair (cInt .i64) (cUnit)) (tNil)))
noncomputable def tBref31_Find_0 : Bls U ((Image × Unit) × Unit) := bC (cPair cImage (cUnit)) (bNil)
noncomputable def eSref31_Find_0 (s : Sref31_Find_0) : St U := { tm := [(1, .v (vO (cPair cStr (cUnit)) (s.t1, ()))), (2, .v (vO (cK (.ptr 0 0) (cUnit)) (()))), (6, .v (vO (cPair (cInt .i64) (cUnit)) (s.t6, ())))], hp := [.cells ((cPair cImage (cUnit) : Cdc U (Image × Unit)).enc (s.b0, ())) none] }
noncomputable def xSref31_Find_0 : ((Int × Bool) ⊕ Unit) → Ex × St U
  | .inl r => (.ret, { tm := [(4, .v (vO (cPair (cInt .i64) (cUnit)) (r.1, ()))), (5, .v (vO (cPair cBool (cUnit)) (r.2, ())))], hp := [] })
  | .inr r => (.exit 0, { tm := [], hp := [] })
noncomputable def xTref31_Find_0 (y : ((Int × Bool) ⊕ Unit)) : Tree (Ex × St U) := .ite y.isLeft (.opt (Int × Bool) y.getLeft? fun r => .leaf (.ret, { tm := [(4, .v (vO (cPair (cInt .i64) (cUnit)) (r.1, ()))), (5, .v (vO (cPair cBool (cUnit)) (r.2, ())))], hp := [] })) (.opt Unit y.getRight? fun r => .leaf (.exit 0, { tm := [], hp := [] }))
noncomputable def href31_Find_0 : Hd := { keep := [1, 2, 6], xkeep := [4, 5], own := false }
noncomputable def Eref31_Find : Env U := { P := Try.prog, cd := cd, fns := fns27, lps := (addL 0 href31_Find_0 (mkLoop tAref31_Find_0 tBref31_Find_0 Pref31_Find_0 (Lref31_Find_0 none) xTref31_Find_0) noL), frz := fun _r => false, nt := 28, n0 := 0 }
noncomputable def Bref31_Find_0 : Code := (loopAt (Try.f28.body.getD .skip) 0 0).getD .skip
theorem roundref31_Find_0 (s : Sref31_Find_0) : round Eref31_Find href31_Find_0 Bref31_Find_0 0 (eSref31_Find_0 s) = (Wref31_Find_0 s).map (sumE eSref31_Find_0 xSref31_Find_0) := by kernel_rfl
theorem lpref31_Find_0 : LpOk Eref31_Find Bref31_Find_0 0 := mkLoop_ok (A := tAref31_Find_0) (B := tBref31_Find_0) (f := Pref31_Find_0) (L := Lref31_Find_0 none) (tO_ok (cPair_ok cStr_ok cUnit_ok) (tO_ok (cK_ok cUnit_ok) (tO_ok (cPair_ok (cInt_ok .i64) cUnit_ok) tNil_ok))) (bC_ok (cPair_ok cImage_ok cUnit_ok) bNil_ok) (enc := eSref31_Find_0) (out := xTref31_Find_0) (outS := xSref31_Find_0) (step := Wref31_Find_0) (fun _ => rfl) (fun _ _ => by kernel_rfl) (by kernel_rfl) (fun b => by cases b <;> rfl) roundref31_Find_0
theorem runref31_Find (x : Image × (List UInt8) × Unit) (g : Unit) : execF Eref31_Find Try.f28 (Aref31_Find.enc x) (bNil.enc g) = (Tref31_Find none x.1 x.2.1).map Rref31_Find := by kernel_rfl
theorem okref31_Find : FnOk Try.prog cd 28 Sref31_Find := mk_ok (E := Eref31_Find) cd_ok fns27_ok Try.func28 (by kernel_rfl) (loops_of (addL_ok lpref31_Find_0 noL_ok)) (aA_ok cImage_ok (aO_ok cStr_ok (aNil_ok))) bNil_ok (T := fun x _ => Tref31_Find none x.1 x.2.1) (fun _ _ => rfl) runref31_Find
noncomputable def fns28 := addF 28 true Sref31_Find fns27
theorem fns28_ok : ∀ f q t, fns28 f = some (q, t) → FnOk Try.prog cd f t := addF_ok okref31_Find fns27_ok
/-- emulator/emulatorref31.Nearest -/
structure Sref31_Nearest_0 where
  t0 : (List Symbol)
  t1 : Int
  t7 : Int
  t8 : Int
noncomputable def Wref31_Nearest_0 (s : Sref31_Nearest_0) : Tree (Sref31_Nearest_0 ⊕ ((List Symbol) × Int × Int)) :=
  .ite (decide (s.t8 < (s.t0.length : Int)))
    (.ite (decide (0 ≤ s.t8))
      (.opt Symbol (s.t0[(s.t8).toNat]?) fun y487 =>
        .ite (decide (0 ≤ s.t8))
          (.opt Symbol (s.t0[(s.t8).toNat]?) fun y488 =>
            .ite (!decide (y488.section_ = (0 : Int)))
              (.ite (decide ((0 : Int) ≤ y487.value))
                (.ite (decide (y487.value ≤ (65535 : Int)))
                  (.ite (decide (y487.value ≤ s.t1))
                    (.ite (decide (s.t7 < (0 : Int)))
                      (.leaf (.inl (Sref31_Nearest_0.mk s.t0 s.t1 s.t8 (IntKind.wrap .i64 (s.t8 + (1 : Int))))))
                      (.ite (decide (0 ≤ s.t7))
                        (.opt Symbol (s.t0[(s.t7).toNat]?) fun y489 =>
                          .ite (decide (y489.value < y487.value))
                            (.leaf (.inl (Sref31_Nearest_0.mk s.t0 s.t1 s.t8 (IntKind.wrap .i64 (s.t8 + (1 : Int))))))
                            (.leaf (.inl (Sref31_Nearest_0.mk s.t0 s.t1 s.t7 (IntKind.wrap .i64 (s.t8 + (1 : Int)))))))
                        .fail))
                    (.leaf (.inl (Sref31_Nearest_0.mk s.t0 s.t1 s.t7 (IntKind.wrap .i64 (s.t8 + (1 : Int)))))))
                  (.leaf (.inl (Sref31_Nearest_0.mk s.t0 s.t1 s.t7 (IntKind.wrap .i64 (s.t8 + (1 : Int)))))))
                (.leaf (.inl (Sref31_Nearest_0.mk s.t0 s.t1 s.t7 (IntKind.wrap .i64 (s.t8 + (1 : Int)))))))
              (.leaf (.inl (Sref31_Nearest_0.mk s.t0 s.t1 s.t7 (IntKind.wrap .i64 (s.t8 + (1 : Int)))))))
          .fail)
      .fail)
    (.leaf (.inr (s.t0, s.t1, s.t7)))
noncomputable def Lref31_Nearest_0 (q : Option Nat) (s : Sref31_Nearest_0) : Option ((List Symbol) × Int × Int) := limQ q (fun s => (Wref31_Nearest_0 s).run) s
theorem leLref31_Nearest_0 (k : Nat) (s : Sref31_Nearest_0) : Le (Lref31_Nearest_0 (some k) s) (Lref31_Nearest_0 none s) := limQ_le (fun _ => Le.rfl) s
noncomputable def Tref31_Nearest (q : Option Nat) (x0 : (List Symbol)) (x1 : Int) : Tree ((List UInt8) × Int × Bool) :=
  .opt ((List Symbol) × Int × Int) (Lref31_Nearest_0 q (Sref31_Nearest_0.mk x0 x1 (-1 : Int) (0 : Int))) fun l490 =>
    .ite (decide (l490.2.2 < (0 : Int)))
      (.leaf ((([] : List UInt8), (0 : Int), false)))
      (.ite (decide (0 ≤ l490.2.2))
        (.opt Symbol (l490.1[(l490.2.2).toNat]?) fun y491 =>
          .ite (decide (0 ≤ l490.2.2))
            (.opt Symbol (l490.1[(l490.2.2).toNat]?) fun y492 =>
              .leaf ((y491.name, IntKind.wrap .i64 (l490.2.1 - y492.value), true)))
            .fail)
        .fail)
noncomputable def ref31_Nearest (q : Option Nat) (x0 : (List Symbol)) (x1 : Int) : Option ((List UInt8) × Int × Bool) := (Tref31_Nearest q x0 x1).run
theorem leref31_Nearest (k : Nat) (x0 : (List Symbol)) (x1 : Int) : Le (ref31_Nearest (some k) x0 x1) (ref31_Nearest none x0 x1) := (TLe.opt (leLref31_Nearest_0 k _) fun _ => TLe.rfl)
noncomputable def Aref31_Nearest : Arg U ((List Symbol) × Int × Unit) := aO (cSl 75) (aO (cInt .i64) (aNil))
noncomputable def Rref31_Nearest (r : ((List UInt8) × Int × Bool)) : List (V U) × List (Blk U) := ([vO cStr r.1, vO (cInt .i64) r.2.1, vO cBool r.2.2], [])
noncomputable def Sref31_Nearest : List (V U) → List (Blk U) → Option (FnOut U) := mkSpec Aref31_Nearest bNil (fun x _ => ref31_Nearest none x.1 x.2.1) Rref31_Nearest
noncomputable def Pref31_Nearest_0 (x : ((List Symbol) × Unit) × (Int × Unit) × (Int × Unit) × (Int × Unit) × Unit) (_g : Unit) : Sref31_Nearest_0 := Sref31_Nearest_0.mk x.1.1 x.2.1.1 x.2.2.1.1 x.2.2.2.1.1
noncomputable def tAref31_Nearest_0 : Tms U (((List Symbol) × Unit) × (Int × Unit) × (Int × Unit) × (Int × Unit) × Unit) := tO 0 (cPair (cSl 75) (cUnit)) (tO 1 (cPair (cInt .i64) (cUnit)) (tO 7 (cPair (cInt .i64) (cUnit)) (tO 8 (cPair (cInt .i64) (cUnit)) (tNil))))
noncomputable def tBref31_Nearest_0 : Bls U (Unit) := bNil
noncomputable def eSref31_Nearest_0 (s : Sref31_Nearest_0) : St U := { tm := [(0, .v (vO (cPair (cSl 75) (cUnit)) (s.t0, ()))), (1, .v (vO (cPair (cInt .i64) (cUnit)) (s.t1, ()))), (7, .v (vO (cPair (cInt .i64) (cUnit)) (s.t7, ()))), (8, .v (vO (cPair (cInt .i64) (cUnit)) (s.t8, ())))], hp := [] }
noncomputable def xSref31_Nearest_0 (r : ((List Symbol) × Int × Int)) : Ex × St U := (.exit 0, { tm := [(0, .v (vO (cPair (cSl 75) (cUnit)) (r.1, ()))), (1, .v (vO (cPair (cInt .i64) (cUnit)) (r.2.1, ()))), (7, .v (vO (cPair (cInt .i64) (cUnit)) (r.2.2, ())))], hp := [] })
noncomputable def xTref31_Nearest_0 (r : ((List Symbol) × Int × Int)) : Tree (Ex × St U) := .leaf (xSref31_Nearest_0 r)
noncomputable def href31_Nearest_0 : Hd := { keep := [0, 1, 7, 8], xkeep := [0, 1, 4, 5, 6, 7], own := false }
noncomputable def Eref31_Nearest : Env U := { P := Try.prog, cd := cd, fns := fns28, lps := (addL 0 href31_Nearest_0 (mkLoop tAref31_Nearest_0 tBref31_Nearest_0 Pref31_Nearest_0 (Lref31_Nearest_0 none) xTref31_Nearest_0) noL), frz := fun _r => false, nt := 68, n0 := 0 }
noncomputable def Bref31_Nearest_0 : Code := (loopAt (Try.f30.body.getD .skip) 0 0).getD .skip
theorem roundref31_Nearest_0 (s : Sref31_Nearest_0) : round Eref31_Nearest href31_Nearest_0 Bref31_Nearest_0 0 (eSref31_Nearest_0 s) = (Wref31_Nearest_0 s).map (sumE eSref31_Nearest_0 xSref31_Nearest_0) := by kernel_rfl
theorem lpref31_Nearest_0 : LpOk Eref31_Nearest Bref31_Nearest_0 0 := mkLoop_ok (A := tAref31_Nearest_0) (B := tBref31_Nearest_0) (f := Pref31_Nearest_0) (L := Lref31_Nearest_0 none) (tO_ok (cPair_ok (cSl_ok 75) cUnit_ok) (tO_ok (cPair_ok (cInt_ok .i64) cUnit_ok) (tO_ok (cPair_ok (cInt_ok .i64) cUnit_ok) (tO_ok (cPair_ok (cInt_ok .i64) cUnit_ok) tNil_ok)))) bNil_ok (enc := eSref31_Nearest_0) (out := xTref31_Nearest_0) (outS := xSref31_Nearest_0) (step := Wref31_Nearest_0) (fun _ => rfl) (fun _ _ => by kernel_rfl) (by kernel_rfl) (fun _ => rfl) roundref31_Nearest_0
theorem runref31_Nearest (x : (List Symbol) × Int × Unit) (g : Unit) : execF Eref31_Nearest Try.f30 (Aref31_Nearest.enc x) (bNil.enc g) = (Tref31_Nearest none x.1 x.2.1).map Rref31_Nearest := by kernel_rfl
theorem okref31_Nearest : FnOk Try.prog cd 30 Sref31_Nearest := mk_ok (E := Eref31_Nearest) cd_ok fns28_ok Try.func30 (by kernel_rfl) (loops_of (addL_ok lpref31_Nearest_0 noL_ok)) (aO_ok (cSl_ok 75) (aO_ok (cInt_ok .i64) (aNil_ok))) bNil_ok (T := fun x _ => Tref31_Nearest none x.1 x.2.1) (fun _ _ => rfl) runref31_Nearest
noncomputable def fns30 := addF 30 true Sref31_Nearest fns28
theorem fns30_ok : ∀ f q t, fns30 f = some (q, t) → FnOk Try.prog cd f t := addF_ok okref31_Nearest fns28_ok
/-- emulator/emulatorlaw31.ImageFinds -/
noncomputable def Tlaw31_ImageFinds (q : Option Nat) (x0 : Image) (x1 : (List UInt8)) (x2 : Int) : Tree Bool :=
  .opt Bool (law31_small q x0) fun r493 =>
    .ite (!r493)
      (.opt Bool (law31_alive q) fun r494 =>
        .leaf (r494))
      (.ite (decide ((100 : Int) < (x1.length : Int)))
        (.opt Bool (law31_alive q) fun r495 =>
          .leaf (r495))
        (.opt (Int × Bool) (image_Find q x0 x1) fun r496 =>
          .opt (Int × Bool) (ref31_Find q x0 x1) fun r497 =>
            .opt ((List UInt8) × Int × Bool) (image_Nearest q x0.symbols x2) fun r498 =>
              .opt ((List UInt8) × Int × Bool) (ref31_Nearest q x0.symbols x2) fun r499 =>
                .ite (decide (r496.1 = r497.1))
                  (.ite ((r496.2 == r497.2))
                    (.ite (decide (r498.1 = r499.1))
                      (.ite (decide (r498.2.1 = r499.2.1))
                        (.ite ((r498.2.2 == r499.2.2))
                          (.opt Bool (law31_alive q) fun r500 =>
                            .leaf (r500))
                          (.leaf (false)))
                        (.leaf (false)))
                      (.leaf (false)))
                    (.leaf (false)))
                  (.leaf (false))))
noncomputable def law31_ImageFinds (q : Option Nat) (x0 : Image) (x1 : (List UInt8)) (x2 : Int) : Option Bool := (Tlaw31_ImageFinds q x0 x1 x2).run
theorem lelaw31_ImageFinds (k : Nat) (x0 : Image) (x1 : (List UInt8)) (x2 : Int) : Le (law31_ImageFinds (some k) x0 x1 x2) (law31_ImageFinds none x0 x1 x2) := (TLe.opt (lelaw31_small k _) fun _ => (TLe.ite (TLe.opt (lelaw31_alive k) fun _ => TLe.rfl) (TLe.ite (TLe.opt (lelaw31_alive k) fun _ => TLe.rfl) (TLe.opt (leimage_Find k _ _) fun _ => (TLe.opt (leref31_Find k _ _) fun _ => (TLe.opt (leimage_Nearest k _ _) fun _ => (TLe.opt (leref31_Nearest k _ _) fun _ => (TLe.ite (TLe.ite (TLe.ite (TLe.ite (TLe.ite (TLe.opt (lelaw31_alive k) fun _ => TLe.rfl) TLe.rfl) TLe.rfl) TLe.rfl) TLe.rfl) TLe.rfl))))))))
noncomputable def Alaw31_ImageFinds : Arg U (Image × (List UInt8) × Int × Unit) := aA cImage (aO cStr (aO (cInt .i64) (aNil)))
noncomputable def Rlaw31_ImageFinds (r : Bool) : List (V U) × List (Blk U) := ([vO cBool r], [])
noncomputable def Slaw31_ImageFinds : List (V U) → List (Blk U) → Option (FnOut U) := mkSpec Alaw31_ImageFinds bNil (fun x _ => law31_ImageFinds none x.1 x.2.1 x.2.2.1) Rlaw31_ImageFinds
noncomputable def Elaw31_ImageFinds : Env U := { P := Try.prog, cd := cd, fns := fns30, lps := noL, frz := fun _r => false, nt := 80, n0 := 0 }
theorem runlaw31_ImageFinds (x : Image × (List UInt8) × Int × Unit) (g : Unit) : execF Elaw31_ImageFinds Try.f9 (Alaw31_ImageFinds.enc x) (bNil.enc g) = (Tlaw31_ImageFinds none x.1 x.2.1 x.2.2.1).map Rlaw31_ImageFinds := by kernel_rfl
theorem oklaw31_ImageFinds : FnOk Try.prog cd 9 Slaw31_ImageFinds := mk_ok (E := Elaw31_ImageFinds) cd_ok fns30_ok Try.func9 (by kernel_rfl) (noLoops_body (by kernel_rfl)) (aA_ok cImage_ok (aO_ok cStr_ok (aO_ok (cInt_ok .i64) (aNil_ok)))) bNil_ok (T := fun x _ => Tlaw31_ImageFinds none x.1 x.2.1 x.2.2.1) (fun _ _ => rfl) runlaw31_ImageFinds
noncomputable def fns9 := addF 9 true Slaw31_ImageFinds fns30
theorem fns9_ok : ∀ f q t, fns9 f = some (q, t) → FnOk Try.prog cd f t := addF_ok oklaw31_ImageFinds fns30_ok
end Go.Proofs.Ytghgcaieciklbaa
