/- (goes on) -/
import Derived.Test.YtiafliookmnjoaaGreatDoorAb23yp0
set_option linter.unusedSimpArgs false
namespace Go.Proofs.YtiafliookmnjoaaGreatDoor
open Go Go.Ab
/-- (*emulator/save.writer).line -/
noncomputable def Tsave_writer_line (q : Option Nat) (x1 : Line) (g0 : Unit) (g1 : (List Int)) : Tree (List Int) :=
  .opt ((List Bool) × (List Int)) (save_writer_truths q () ([x1.rxEnable, x1.rxReady, x1.overrun]) g1) fun r301 =>
    .opt ((List Int) × (List Int)) (save_writer_nums_V2 q (1 : Int) () ([x1.rxData]) r301.2) fun r302 =>
      .opt ((List Bool) × (List Int)) (save_writer_truths q () ([x1.txEnable, x1.txReady]) r302.2) fun r303 =>
        .opt ((List Int) × (List Int)) (save_writer_nums_V2 q (1 : Int) () ([x1.txData, x1.txLeft]) r303.2) fun r304 =>
          .opt (List Int) (save_writer_text q x1.out () r304.2) fun r305 =>
            .leaf (r305)
noncomputable def save_writer_line (q : Option Nat) (x1 : Line) (g0 : Unit) (g1 : (List Int)) : Option (List Int) := (Tsave_writer_line q x1 g0 g1).run
noncomputable def Asave_writer_line : Arg U (Line × Unit) := aP 0 0 (aA cLine (aNil))
noncomputable def Gsave_writer_line : Bls U (Unit × (List Int) × Unit) := bT (some 136) (cK (.ptr 0 0) (cK (.row 1 0) (cUnit))) (bR 5 (bNil))
noncomputable def Rsave_writer_line (_x : Line × Unit) (_g : Unit × (List Int) × Unit) (r : (List Int)) : List (V U) × List (Blk U) := ([], [.cells ((cK (.ptr 0 0) (cK (.row 1 5) (cUnit)) : Cdc U (Unit)).enc (())) (some 136), .row 5 5 r])
noncomputable def Ssave_writer_line : List (V U) → List (Blk U) → Option (FnOut U) := mkSpecG Asave_writer_line Gsave_writer_line (fun x g => save_writer_line none x.1 g.1 g.2.1) Rsave_writer_line
noncomputable def Esave_writer_line : Env U := { P := Tryz.prog, cd := cd, fns := (addF 130 false (Ssave_writer_text) (addF 92 false (Ssave_writer_nums_V2) (addF 91 false (Ssave_writer_truths) fns38))), lps := noL, frz := fun _r => false, nt := 36, n0 := 2 }
theorem rnsave_writer_line (x1 : Line) (g0 : Unit) (g1 : (List Int)) : execX false Esave_writer_line Tryz.f94 (Asave_writer_line.enc (x1, ())) (Gsave_writer_line.enc (g0, g1, ())) = (Tsave_writer_line none x1 g0 g1).map (Rsave_writer_line (x1, ()) (g0, g1, ())) := by kernel_rfl
theorem runsave_writer_line : ∀ (x : Line × Unit) (g : Unit × (List Int) × Unit), execX false Esave_writer_line Tryz.f94 (Asave_writer_line.enc x) (Gsave_writer_line.enc g) = (Tsave_writer_line none x.1 g.1 g.2.1).map (Rsave_writer_line x g)
  | (x1, ()), (g0, g1, ()) => rnsave_writer_line x1 g0 g1
theorem oksave_writer_line : FnOk Tryz.prog cd 94 Ssave_writer_line := mk_okG (E := Esave_writer_line) (A := Asave_writer_line) (B := Gsave_writer_line) false cd_ok (addF_ok oksave_writer_text (addF_ok oksave_writer_nums_V2 (addF_ok oksave_writer_truths fns38_ok))) Tryz.func94 (by kernel_rfl) (noLoops_body (by kernel_rfl)) (aP_ok (aA_ok cLine_ok (aNil_ok))) (bT_ok (cK_ok (cK_ok cUnit_ok)) (bR_ok bNil_ok)) (T := fun (x : Line × Unit) (g : Unit × (List Int) × Unit) => Tsave_writer_line none x.1 g.1 g.2.1) (fun _ _ => rfl) runsave_writer_line
/-- emulator/save.list[emulator/api.Line] -/
structure Ssave_list_api_Line_0 where
  t13 : (List Line)
  t14 : Int
  t15 : Int
  b1 : (List Int)
noncomputable def Wsave_list_api_Line_0 (q : Option Nat) (s : Ssave_list_api_Line_0) : Tree (Ssave_list_api_Line_0 ⊕ (List Int)) :=
  .ite (decide (s.t15 < s.t14))
    (.ite (decide (0 ≤ s.t15))
      (.opt Line (s.t13[(s.t15).toNat]?) fun y307 =>
        .opt (List Int) (save_writer_line q y307 () s.b1) fun r308 =>
          .leaf (.inl (Ssave_list_api_Line_0.mk s.t13 s.t14 (IntKind.wrap .i64 (s.t15 + (1 : Int))) r308)))
      .fail)
    (.leaf (.inr s.b1))
noncomputable def Lsave_list_api_Line_0 (q : Option Nat) (s : Ssave_list_api_Line_0) : Option (List Int) := limQ q (fun s => (Wsave_list_api_Line_0 q s).run) s
noncomputable def Tsave_list_api_Line (q : Option Nat) (x1 : (List Line)) (g0 : Unit) (g1 : (List Int)) : Tree (List Int) :=
  .opt ((List Int) × (List Int)) (save_writer_nums_V2 q (2 : Int) () ([(x1.length : Int)]) g1) fun r306 =>
    .opt (List Int) (Lsave_list_api_Line_0 q (Ssave_list_api_Line_0.mk x1 (x1.length : Int) (0 : Int) r306.2)) fun l309 =>
      .leaf (l309)
noncomputable def save_list_api_Line (q : Option Nat) (x1 : (List Line)) (g0 : Unit) (g1 : (List Int)) : Option (List Int) := (Tsave_list_api_Line q x1 g0 g1).run
noncomputable def Asave_list_api_Line : Arg U ((List Line) × Unit) := aP 0 0 (aO (cSl 66) (aKF (.fn 94 [(.ptr 0 0)] []) (aNil)))
noncomputable def Gsave_list_api_Line : Bls U (Unit × (List Int) × Unit) := bT (some 136) (cK (.ptr 0 0) (cK (.row 1 0) (cUnit))) (bR 5 (bNil))
noncomputable def Rsave_list_api_Line (_x : (List Line) × Unit) (_g : Unit × (List Int) × Unit) (r : (List Int)) : List (V U) × List (Blk U) := ([], [.cells ((cK (.ptr 0 0) (cK (.row 1 1) (cUnit)) : Cdc U (Unit)).enc (())) (some 136), .row 5 1 r])
noncomputable def Ssave_list_api_Line : List (V U) → List (Blk U) → Option (FnOut U) := mkSpecG Asave_list_api_Line Gsave_list_api_Line (fun x g => save_list_api_Line none x.1 g.1 g.2.1) Rsave_list_api_Line
noncomputable def Psave_list_api_Line_0 (x : (Unit) × ((List Line) × Unit) × (Int × Unit) × (Int × Unit) × Unit) (g : (Unit) × (List Int) × Unit) : Ssave_list_api_Line_0 := Ssave_list_api_Line_0.mk x.2.1.1 x.2.2.1.1 x.2.2.2.1.1 g.2.1
noncomputable def tAsave_list_api_Line_0 : Tms U ((Unit) × ((List Line) × Unit) × (Int × Unit) × (Int × Unit) × Unit) := tO 2 (cK2 (.fn 94 [(.ptr 0 0)] []) (cUnit)) (tO 13 (cPair (cSl 66) (cUnit)) (tO 14 (cPair (cInt .i64) (cUnit)) (tO 15 (cPair (cInt .i64) (cUnit)) (tNil))))
noncomputable def tBsave_list_api_Line_0 : Bls U ((Unit) × (List Int) × Unit) := bT (some 136) (cK (.ptr 0 0) (cK (.row 1 1) (cUnit))) (bRv 5 1 (bNil))
noncomputable def eSsave_list_api_Line_0 (s : Ssave_list_api_Line_0) : St U := { tm := [(2, .v (vO (cK2 (.fn 94 [(.ptr 0 0)] []) (cUnit)) (()))), (13, .v (vO (cPair (cSl 66) (cUnit)) (s.t13, ()))), (14, .v (vO (cPair (cInt .i64) (cUnit)) (s.t14, ()))), (15, .v (vO (cPair (cInt .i64) (cUnit)) (s.t15, ())))], hp := [.cells ((cK (.ptr 0 0) (cK (.row 1 1) (cUnit)) : Cdc U (Unit)).enc (())) (some 136), .row 5 1 s.b1] }
noncomputable def xSsave_list_api_Line_0 (r : (List Int)) : Ex × St U := (.exit 0, { tm := [], hp := [.cells ((cK (.ptr 0 0) (cK (.row 1 1) (cUnit)) : Cdc U (Unit)).enc (())) (some 136), .row 5 1 r] })
noncomputable def xTsave_list_api_Line_0 (r : (List Int)) : Tree (Ex × St U) := .leaf (xSsave_list_api_Line_0 r)
noncomputable def hsave_list_api_Line_0 : Hd := { keep := [2, 13, 14, 15], xkeep := [], own := false }
noncomputable def Esave_list_api_Line : Env U := { P := Tryz.prog, cd := cd, fns := (addF 94 false (Ssave_writer_line) (addF 92 false (Ssave_writer_nums_V2) fns38)), lps := (addL 0 hsave_list_api_Line_0 (mkLoop tAsave_list_api_Line_0 tBsave_list_api_Line_0 Psave_list_api_Line_0 (Lsave_list_api_Line_0 none) xTsave_list_api_Line_0) noL), frz := fun _r => false, nt := 23, n0 := 2 }
noncomputable def Bsave_list_api_Line_0 : Code := (loopAt (Tryz.f93.body.getD .skip) 0 0).getD .skip
theorem roundsave_list_api_Line_0 (s : Ssave_list_api_Line_0) : round Esave_list_api_Line hsave_list_api_Line_0 Bsave_list_api_Line_0 0 (eSsave_list_api_Line_0 s) = (Wsave_list_api_Line_0 none s).map (sumE eSsave_list_api_Line_0 xSsave_list_api_Line_0) := by kernel_rfl
theorem lpsave_list_api_Line_0 : LpOk Esave_list_api_Line Bsave_list_api_Line_0 0 := mkLoop_ok (A := tAsave_list_api_Line_0) (B := tBsave_list_api_Line_0) (f := Psave_list_api_Line_0) (L := Lsave_list_api_Line_0 none) (tO_ok (cK2_ok cUnit_ok) (tO_ok (cPair_ok (cSl_ok 66) cUnit_ok) (tO_ok (cPair_ok (cInt_ok .i64) cUnit_ok) (tO_ok (cPair_ok (cInt_ok .i64) cUnit_ok) tNil_ok)))) (bT_ok (cK_ok (cK_ok cUnit_ok)) (bRv_ok bNil_ok)) (enc := eSsave_list_api_Line_0) (out := xTsave_list_api_Line_0) (outS := xSsave_list_api_Line_0) (step := Wsave_list_api_Line_0 none) (fun _ => rfl) (fun _ _ => by kernel_rfl) (by kernel_rfl) (fun _ => rfl) roundsave_list_api_Line_0
theorem rnsave_list_api_Line (x1 : (List Line)) (g0 : Unit) (g1 : (List Int)) : execX false Esave_list_api_Line Tryz.f93 (Asave_list_api_Line.enc (x1, ())) (Gsave_list_api_Line.enc (g0, g1, ())) = (Tsave_list_api_Line none x1 g0 g1).map (Rsave_list_api_Line (x1, ()) (g0, g1, ())) := by kernel_rfl
theorem runsave_list_api_Line : ∀ (x : (List Line) × Unit) (g : Unit × (List Int) × Unit), execX false Esave_list_api_Line Tryz.f93 (Asave_list_api_Line.enc x) (Gsave_list_api_Line.enc g) = (Tsave_list_api_Line none x.1 g.1 g.2.1).map (Rsave_list_api_Line x g)
  | (x1, ()), (g0, g1, ()) => rnsave_list_api_Line x1 g0 g1
theorem oksave_list_api_Line : FnOk Tryz.prog cd 93 Ssave_list_api_Line := mk_okG (E := Esave_list_api_Line) (A := Asave_list_api_Line) (B := Gsave_list_api_Line) false cd_ok (addF_ok oksave_writer_line (addF_ok oksave_writer_nums_V2 fns38_ok)) Tryz.func93 (by kernel_rfl) (loops_of (addL_ok lpsave_list_api_Line_0 noL_ok)) (aP_ok (aO_ok (cSl_ok 66) (aKF_ok (aNil_ok)))) (bT_ok (cK_ok (cK_ok cUnit_ok)) (bR_ok bNil_ok)) (T := fun (x : (List Line) × Unit) (g : Unit × (List Int) × Unit) => Tsave_list_api_Line none x.1 g.1 g.2.1) (fun _ _ => rfl) runsave_list_api_Line
/-- emulator/save.list[string] -/
structure Ssave_list_string_0 where
  t13 : (List (List UInt8))
  t14 : Int
  t15 : Int
  b1 : (List Int)
noncomputable def Wsave_list_string_0 (q : Option Nat) (s : Ssave_list_string_0) : Tree (Ssave_list_string_0 ⊕ (List Int)) :=
  .ite (decide (s.t15 < s.t14))
    (.ite (decide (0 ≤ s.t15))
      (.opt (List UInt8) (s.t13[(s.t15).toNat]?) fun y319 =>
        .opt (List Int) (save_writer_text q y319 () s.b1) fun r320 =>
          .leaf (.inl (Ssave_list_string_0.mk s.t13 s.t14 (IntKind.wrap .i64 (s.t15 + (1 : Int))) r320)))
      .fail)
    (.leaf (.inr s.b1))
noncomputable def Lsave_list_string_0 (q : Option Nat) (s : Ssave_list_string_0) : Option (List Int) := limQ q (fun s => (Wsave_list_string_0 q s).run) s
noncomputable def Tsave_list_string (q : Option Nat) (x1 : (List (List UInt8))) (g0 : Unit) (g1 : (List Int)) : Tree (List Int) :=
  .opt ((List Int) × (List Int)) (save_writer_nums_V2 q (2 : Int) () ([(x1.length : Int)]) g1) fun r318 =>
    .opt (List Int) (Lsave_list_string_0 q (Ssave_list_string_0.mk x1 (x1.length : Int) (0 : Int) r318.2)) fun l321 =>
      .leaf (l321)
noncomputable def save_list_string (q : Option Nat) (x1 : (List (List UInt8))) (g0 : Unit) (g1 : (List Int)) : Option (List Int) := (Tsave_list_string q x1 g0 g1).run
noncomputable def Asave_list_string : Arg U ((List (List UInt8)) × Unit) := aP 0 0 (aO (cSl 9) (aKF (.fn 130 [(.ptr 0 0)] []) (aNil)))
noncomputable def Gsave_list_string : Bls U (Unit × (List Int) × Unit) := bT (some 136) (cK (.ptr 0 0) (cK (.row 1 0) (cUnit))) (bR 5 (bNil))
noncomputable def Rsave_list_string (_x : (List (List UInt8)) × Unit) (_g : Unit × (List Int) × Unit) (r : (List Int)) : List (V U) × List (Blk U) := ([], [.cells ((cK (.ptr 0 0) (cK (.row 1 1) (cUnit)) : Cdc U (Unit)).enc (())) (some 136), .row 5 1 r])
noncomputable def Ssave_list_string : List (V U) → List (Blk U) → Option (FnOut U) := mkSpecG Asave_list_string Gsave_list_string (fun x g => save_list_string none x.1 g.1 g.2.1) Rsave_list_string
noncomputable def Psave_list_string_0 (x : (Unit) × ((List (List UInt8)) × Unit) × (Int × Unit) × (Int × Unit) × Unit) (g : (Unit) × (List Int) × Unit) : Ssave_list_string_0 := Ssave_list_string_0.mk x.2.1.1 x.2.2.1.1 x.2.2.2.1.1 g.2.1
noncomputable def tAsave_list_string_0 : Tms U ((Unit) × ((List (List UInt8)) × Unit) × (Int × Unit) × (Int × Unit) × Unit) := tO 2 (cK2 (.fn 130 [(.ptr 0 0)] []) (cUnit)) (tO 13 (cPair (cSl 9) (cUnit)) (tO 14 (cPair (cInt .i64) (cUnit)) (tO 15 (cPair (cInt .i64) (cUnit)) (tNil))))
noncomputable def tBsave_list_string_0 : Bls U ((Unit) × (List Int) × Unit) := bT (some 136) (cK (.ptr 0 0) (cK (.row 1 1) (cUnit))) (bRv 5 1 (bNil))
noncomputable def eSsave_list_string_0 (s : Ssave_list_string_0) : St U := { tm := [(2, .v (vO (cK2 (.fn 130 [(.ptr 0 0)] []) (cUnit)) (()))), (13, .v (vO (cPair (cSl 9) (cUnit)) (s.t13, ()))), (14, .v (vO (cPair (cInt .i64) (cUnit)) (s.t14, ()))), (15, .v (vO (cPair (cInt .i64) (cUnit)) (s.t15, ())))], hp := [.cells ((cK (.ptr 0 0) (cK (.row 1 1) (cUnit)) : Cdc U (Unit)).enc (())) (some 136), .row 5 1 s.b1] }
noncomputable def xSsave_list_string_0 (r : (List Int)) : Ex × St U := (.exit 0, { tm := [], hp := [.cells ((cK (.ptr 0 0) (cK (.row 1 1) (cUnit)) : Cdc U (Unit)).enc (())) (some 136), .row 5 1 r] })
noncomputable def xTsave_list_string_0 (r : (List Int)) : Tree (Ex × St U) := .leaf (xSsave_list_string_0 r)
noncomputable def hsave_list_string_0 : Hd := { keep := [2, 13, 14, 15], xkeep := [], own := false }
noncomputable def Esave_list_string : Env U := { P := Tryz.prog, cd := cd, fns := (addF 130 false (Ssave_writer_text) (addF 92 false (Ssave_writer_nums_V2) fns38)), lps := (addL 0 hsave_list_string_0 (mkLoop tAsave_list_string_0 tBsave_list_string_0 Psave_list_string_0 (Lsave_list_string_0 none) xTsave_list_string_0) noL), frz := fun _r => false, nt := 23, n0 := 2 }
noncomputable def Bsave_list_string_0 : Code := (loopAt (Tryz.f131.body.getD .skip) 0 0).getD .skip
theorem roundsave_list_string_0 (s : Ssave_list_string_0) : round Esave_list_string hsave_list_string_0 Bsave_list_string_0 0 (eSsave_list_string_0 s) = (Wsave_list_string_0 none s).map (sumE eSsave_list_string_0 xSsave_list_string_0) := by kernel_rfl
theorem lpsave_list_string_0 : LpOk Esave_list_string Bsave_list_string_0 0 := mkLoop_ok (A := tAsave_list_string_0) (B := tBsave_list_string_0) (f := Psave_list_string_0) (L := Lsave_list_string_0 none) (tO_ok (cK2_ok cUnit_ok) (tO_ok (cPair_ok (cSl_ok 9) cUnit_ok) (tO_ok (cPair_ok (cInt_ok .i64) cUnit_ok) (tO_ok (cPair_ok (cInt_ok .i64) cUnit_ok) tNil_ok)))) (bT_ok (cK_ok (cK_ok cUnit_ok)) (bRv_ok bNil_ok)) (enc := eSsave_list_string_0) (out := xTsave_list_string_0) (outS := xSsave_list_string_0) (step := Wsave_list_string_0 none) (fun _ => rfl) (fun _ _ => by kernel_rfl) (by kernel_rfl) (fun _ => rfl) roundsave_list_string_0
theorem rnsave_list_string (x1 : (List (List UInt8))) (g0 : Unit) (g1 : (List Int)) : execX false Esave_list_string Tryz.f131 (Asave_list_string.enc (x1, ())) (Gsave_list_string.enc (g0, g1, ())) = (Tsave_list_string none x1 g0 g1).map (Rsave_list_string (x1, ()) (g0, g1, ())) := by kernel_rfl
theorem runsave_list_string : ∀ (x : (List (List UInt8)) × Unit) (g : Unit × (List Int) × Unit), execX false Esave_list_string Tryz.f131 (Asave_list_string.enc x) (Gsave_list_string.enc g) = (Tsave_list_string none x.1 g.1 g.2.1).map (Rsave_list_string x g)
  | (x1, ()), (g0, g1, ()) => rnsave_list_string x1 g0 g1
theorem oksave_list_string : FnOk Tryz.prog cd 131 Ssave_list_string := mk_okG (E := Esave_list_string) (A := Asave_list_string) (B := Gsave_list_string) false cd_ok (addF_ok oksave_writer_text (addF_ok oksave_writer_nums_V2 fns38_ok)) Tryz.func131 (by kernel_rfl) (loops_of (addL_ok lpsave_list_string_0 noL_ok)) (aP_ok (aO_ok (cSl_ok 9) (aKF_ok (aNil_ok)))) (bT_ok (cK_ok (cK_ok cUnit_ok)) (bR_ok bNil_ok)) (T := fun (x : (List (List UInt8)) × Unit) (g : Unit × (List Int) × Unit) => Tsave_list_string none x.1 g.1 g.2.1) (fun _ _ => rfl) runsave_list_string
/-- (*emulator/save.writer).disk -/
noncomputable def Tsave_writer_disk (q : Option Nat) (x1 : Disk) (g0 : Unit) (g1 : (List Int)) : Tree (List Int) :=
  .opt (List Int) (save_list_string q x1.drive.sectors () g1) fun r322 =>
    .opt (List Int) (save_list_int q x1.drive.bad () r322) fun r323 =>
      .opt ((List Bool) × (List Int)) (save_writer_truths q () ([x1.enable, x1.ready, x1.error]) r323) fun r324 =>
        .opt ((List Int) × (List Int)) (save_writer_nums_V2 q (1 : Int) () ([x1.command]) r324.2) fun r325 =>
          .opt ((List Int) × (List Int)) (save_writer_nums_V2 q (2 : Int) () ([x1.words, x1.addr, x1.start]) r325.2) fun r326 =>
            .opt ((List Int) × (List Int)) (save_writer_nums_V2 q (1 : Int) () ([x1.left]) r326.2) fun r327 =>
              .leaf (r327.2)
noncomputable def save_writer_disk (q : Option Nat) (x1 : Disk) (g0 : Unit) (g1 : (List Int)) : Option (List Int) := (Tsave_writer_disk q x1 g0 g1).run
noncomputable def Asave_writer_disk : Arg U (Disk × Unit) := aP 0 0 (aA cDisk (aNil))
noncomputable def Gsave_writer_disk : Bls U (Unit × (List Int) × Unit) := bT (some 136) (cK (.ptr 0 0) (cK (.row 1 0) (cUnit))) (bR 5 (bNil))
noncomputable def Rsave_writer_disk (_x : Disk × Unit) (_g : Unit × (List Int) × Unit) (r : (List Int)) : List (V U) × List (Blk U) := ([], [.cells ((cK (.ptr 0 0) (cK (.row 1 6) (cUnit)) : Cdc U (Unit)).enc (())) (some 136), .row 5 6 r])
noncomputable def Ssave_writer_disk : List (V U) → List (Blk U) → Option (FnOut U) := mkSpecG Asave_writer_disk Gsave_writer_disk (fun x g => save_writer_disk none x.1 g.1 g.2.1) Rsave_writer_disk
noncomputable def Esave_writer_disk : Env U := { P := Tryz.prog, cd := cd, fns := (addF 131 false (Ssave_list_string) (addF 92 false (Ssave_writer_nums_V2) (addF 91 false (Ssave_writer_truths) (addF 88 false (Ssave_list_int) fns38)))), lps := noL, frz := fun _r => false, nt := 46, n0 := 2 }
theorem rnsave_writer_disk (x1 : Disk) (g0 : Unit) (g1 : (List Int)) : execX false Esave_writer_disk Tryz.f95 (Asave_writer_disk.enc (x1, ())) (Gsave_writer_disk.enc (g0, g1, ())) = (Tsave_writer_disk none x1 g0 g1).map (Rsave_writer_disk (x1, ()) (g0, g1, ())) := by kernel_rfl
theorem runsave_writer_disk : ∀ (x : Disk × Unit) (g : Unit × (List Int) × Unit), execX false Esave_writer_disk Tryz.f95 (Asave_writer_disk.enc x) (Gsave_writer_disk.enc g) = (Tsave_writer_disk none x.1 g.1 g.2.1).map (Rsave_writer_disk x g)
  | (x1, ()), (g0, g1, ()) => rnsave_writer_disk x1 g0 g1
theorem oksave_writer_disk : FnOk Tryz.prog cd 95 Ssave_writer_disk := mk_okG (E := Esave_writer_disk) (A := Asave_writer_disk) (B := Gsave_writer_disk) false cd_ok (addF_ok oksave_list_string (addF_ok oksave_writer_nums_V2 (addF_ok oksave_writer_truths (addF_ok oksave_list_int fns38_ok)))) Tryz.func95 (by kernel_rfl) (noLoops_body (by kernel_rfl)) (aP_ok (aA_ok cDisk_ok (aNil_ok))) (bT_ok (cK_ok (cK_ok cUnit_ok)) (bR_ok bNil_ok)) (T := fun (x : Disk × Unit) (g : Unit × (List Int) × Unit) => Tsave_writer_disk none x.1 g.1 g.2.1) (fun _ _ => rfl) runsave_writer_disk
/-- (*emulator/save.writer).tape -/
noncomputable def Tsave_writer_tape (q : Option Nat) (x1 : Tape) (g0 : Unit) (g1 : (List Int)) : Tree (List Int) :=
  .opt (List Int) (save_list_string q x1.records () g1) fun r337 =>
    .opt ((List Int) × (List Int)) (save_writer_nums_V2 q (1 : Int) () ([x1.pos]) r337) fun r338 =>
      .opt ((List Bool) × (List Int)) (save_writer_truths q () ([x1.enable, x1.ready, x1.error, x1.mark, x1.end_]) r338.2) fun r339 =>
        .opt ((List Int) × (List Int)) (save_writer_nums_V2 q (1 : Int) () ([x1.command]) r339.2) fun r340 =>
          .opt ((List Int) × (List Int)) (save_writer_nums_V2 q (2 : Int) () ([x1.count, x1.addr]) r340.2) fun r341 =>
            .opt ((List Int) × (List Int)) (save_writer_nums_V2 q (1 : Int) () ([x1.left]) r341.2) fun r342 =>
              .leaf (r342.2)
noncomputable def save_writer_tape (q : Option Nat) (x1 : Tape) (g0 : Unit) (g1 : (List Int)) : Option (List Int) := (Tsave_writer_tape q x1 g0 g1).run
noncomputable def Asave_writer_tape : Arg U (Tape × Unit) := aP 0 0 (aA cTape (aNil))
noncomputable def Gsave_writer_tape : Bls U (Unit × (List Int) × Unit) := bT (some 136) (cK (.ptr 0 0) (cK (.row 1 0) (cUnit))) (bR 5 (bNil))
noncomputable def Rsave_writer_tape (_x : Tape × Unit) (_g : Unit × (List Int) × Unit) (r : (List Int)) : List (V U) × List (Blk U) := ([], [.cells ((cK (.ptr 0 0) (cK (.row 1 6) (cUnit)) : Cdc U (Unit)).enc (())) (some 136), .row 5 6 r])
noncomputable def Ssave_writer_tape : List (V U) → List (Blk U) → Option (FnOut U) := mkSpecG Asave_writer_tape Gsave_writer_tape (fun x g => save_writer_tape none x.1 g.1 g.2.1) Rsave_writer_tape
noncomputable def Esave_writer_tape : Env U := { P := Tryz.prog, cd := cd, fns := (addF 131 false (Ssave_list_string) (addF 92 false (Ssave_writer_nums_V2) (addF 91 false (Ssave_writer_truths) fns38))), lps := noL, frz := fun _r => false, nt := 45, n0 := 2 }
theorem rnsave_writer_tape (x1 : Tape) (g0 : Unit) (g1 : (List Int)) : execX false Esave_writer_tape Tryz.f96 (Asave_writer_tape.enc (x1, ())) (Gsave_writer_tape.enc (g0, g1, ())) = (Tsave_writer_tape none x1 g0 g1).map (Rsave_writer_tape (x1, ()) (g0, g1, ())) := by kernel_rfl
theorem runsave_writer_tape : ∀ (x : Tape × Unit) (g : Unit × (List Int) × Unit), execX false Esave_writer_tape Tryz.f96 (Asave_writer_tape.enc x) (Gsave_writer_tape.enc g) = (Tsave_writer_tape none x.1 g.1 g.2.1).map (Rsave_writer_tape x g)
  | (x1, ()), (g0, g1, ()) => rnsave_writer_tape x1 g0 g1
theorem oksave_writer_tape : FnOk Tryz.prog cd 96 Ssave_writer_tape := mk_okG (E := Esave_writer_tape) (A := Asave_writer_tape) (B := Gsave_writer_tape) false cd_ok (addF_ok oksave_list_string (addF_ok oksave_writer_nums_V2 (addF_ok oksave_writer_truths fns38_ok))) Tryz.func96 (by kernel_rfl) (noLoops_body (by kernel_rfl)) (aP_ok (aA_ok cTape_ok (aNil_ok))) (bT_ok (cK_ok (cK_ok cUnit_ok)) (bR_ok bNil_ok)) (T := fun (x : Tape × Unit) (g : Unit × (List Int) × Unit) => Tsave_writer_tape none x.1 g.1 g.2.1) (fun _ _ => rfl) runsave_writer_tape
end Go.Proofs.YtiafliookmnjoaaGreatDoor
namespace Go.Proofs
open Go.Shelf
shelf_lay Lays.n169 Nm 169 at Tryz as Tryz.lays97
theorem Tryz.extra97 : Builder.Extra Tryz.prog Tryz.lays97_ren where
  sizeBuilder := by kernel_rfl
  liesBuilder := by kernel_rfl
  t5 := Tryz.underlying5
  a5 := Tryz.isAgg5
  z5 := Tryz.sizeOf5
  v5 := Tryz.zeroValue5
  infoByte := by kernel_rfl
  cellsByte := by kernel_rfl
  sizeByte := by kernel_rfl
  neB5 := by decide
end Go.Proofs
namespace Go.Proofs.YtiafliookmnjoaaGreatDoor
open Go Go.Ab
theorem okstrings_Builder_String : FnOk Tryz.prog cd 97 (strSpec cd 5) := str_ok cd_ok Tryz.lays97 Tryz.extra97 Tryz.func97 (by kernel_rfl) (by kernel_rfl) rfl rfl
/-- emulator/save.body -/
noncomputable def Tsave_body (q : Option Nat) (x0 : Machine) : Tree (List UInt8) :=
  .opt (Int × (List Int)) (strings_Builder_WriteString ([69, 77, 85, 49] : List UInt8) ()) fun r357 =>
    .opt (List Int) (save_writer_cpu q x0.cpu () r357.2) fun r358 =>
      .opt (List Int) (save_list_int q x0.mem () r358) fun r359 =>
        .opt (List Int) (save_list_int q x0.bad () r359) fun r360 =>
          .opt (List Int) (save_writer_mmu q x0.mmu () r360) fun r361 =>
            .opt ((List Bool) × (List Int)) (save_writer_truths q () ([x0.clock.enable, x0.clock.ready]) r361) fun r362 =>
              .opt ((List Int) × (List Int)) (save_writer_nums_V2 q (2 : Int) () ([x0.clock.period, x0.clock.left]) r362.2) fun r363 =>
                .opt (List Int) (save_list_api_Line q x0.lines () r363.2) fun r364 =>
                  .opt (List Int) (save_writer_disk q x0.disk () r364) fun r365 =>
                    .opt (List Int) (save_writer_tape q x0.tape () r365) fun r366 =>
                      .opt ((List Int) × (List Int)) (save_writer_nums_V2 q (6 : Int) () ([x0.now]) r366) fun r367 =>
                        .opt ((List Bool) × (List Int)) (save_writer_truths q () ([x0.halted, x0.waiting]) r367.2) fun r368 =>
                          .opt ((List Int) × (List Int)) (save_writer_nums_V2 q (2 : Int) () ([x0.power]) r368.2) fun r369 =>
                            .opt ((List Bool) × (List Int)) (save_writer_truths q () ([x0.powerTrap]) r369.2) fun r370 =>
                              .opt (List UInt8) (strF (r370.2.map fun x => UInt8.ofNat x.toNat)) fun r371 =>
                                .leaf (r371)
noncomputable def save_body (q : Option Nat) (x0 : Machine) : Option (List UInt8) := (Tsave_body q x0).run
noncomputable def Asave_body : Arg U (Machine × Unit) := aA cMachine (aNil)
noncomputable def Rsave_body (r : (List UInt8)) : List (V U) × List (Blk U) := ([vO cStr r], [])
noncomputable def Ssave_body : List (V U) → List (Blk U) → Option (FnOut U) := mkSpec Asave_body bNil (fun x _ => save_body none x.1) Rsave_body
noncomputable def Esave_body : Env U := { P := Tryz.prog, cd := cd, fns := (addF 97 false (strSpec cd 5) (addF 96 false (Ssave_writer_tape) (addF 95 false (Ssave_writer_disk) (addF 93 false (Ssave_list_api_Line) (addF 92 false (Ssave_writer_nums_V2) (addF 91 false (Ssave_writer_truths) (addF 90 false (Ssave_writer_mmu) (addF 88 false (Ssave_list_int) (addF 87 false (Ssave_writer_cpu) (addF 86 false (Sstrings_Builder_WriteString) fns38)))))))))), lps := noL, frz := fun _r => false, nt := 88, n0 := 0 }
theorem runsave_body (x : Machine × Unit) (g : Unit) : execF Esave_body Tryz.f39 (Asave_body.enc x) (bNil.enc g) = (Tsave_body none x.1).map Rsave_body := by kernel_rfl
theorem oksave_body : FnOk Tryz.prog cd 39 Ssave_body := mk_ok (E := Esave_body) cd_ok (addF_ok okstrings_Builder_String (addF_ok oksave_writer_tape (addF_ok oksave_writer_disk (addF_ok oksave_list_api_Line (addF_ok oksave_writer_nums_V2 (addF_ok oksave_writer_truths (addF_ok oksave_writer_mmu (addF_ok oksave_list_int (addF_ok oksave_writer_cpu (addF_ok okstrings_Builder_WriteString fns38_ok)))))))))) Tryz.func39 (by kernel_rfl) (noLoops_body (by kernel_rfl)) (aA_ok cMachine_ok (aNil_ok)) bNil_ok (T := fun x _ => Tsave_body none x.1) (fun _ _ => rfl) runsave_body
noncomputable def fns39 := addF 39 true Ssave_body fns38
theorem fns39_ok : ∀ f q t, fns39 f = some (q, t) → FnOk Tryz.prog cd f t := addF_ok oksave_body fns38_ok
/-- emulator/save.Encode -/
noncomputable def Tsave_Encode (q : Option Nat) (x0 : Machine) : Tree ((List UInt8) × Int) :=
  .opt Bool (machine_Right q x0) fun r372 =>
    .ite (!r372)
      (.leaf ((([] : List UInt8), (1 : Int))))
      (.opt (List UInt8) (save_body q x0) fun r373 =>
        .opt (List UInt8) (octet_Seal q r373) fun r374 =>
          .leaf ((r374, (0 : Int))))
noncomputable def save_Encode (q : Option Nat) (x0 : Machine) : Option ((List UInt8) × Int) := (Tsave_Encode q x0).run
noncomputable def Asave_Encode : Arg U (Machine × Unit) := aA cMachine (aNil)
noncomputable def Rsave_Encode (r : ((List UInt8) × Int)) : List (V U) × List (Blk U) := ([vO cStr r.1, vO (cInt .i64) r.2], [])
noncomputable def Ssave_Encode : List (V U) → List (Blk U) → Option (FnOut U) := mkSpec Asave_Encode bNil (fun x _ => save_Encode none x.1) Rsave_Encode
noncomputable def Esave_Encode : Env U := { P := Tryz.prog, cd := cd, fns := fns39, lps := noL, frz := fun _r => false, nt := 10, n0 := 0 }
theorem runsave_Encode (x : Machine × Unit) (g : Unit) : execF Esave_Encode Tryz.f12 (Asave_Encode.enc x) (bNil.enc g) = (Tsave_Encode none x.1).map Rsave_Encode := by kernel_rfl
theorem oksave_Encode : FnOk Tryz.prog cd 12 Ssave_Encode := mk_ok (E := Esave_Encode) cd_ok fns39_ok Tryz.func12 (by kernel_rfl) (noLoops_body (by kernel_rfl)) (aA_ok cMachine_ok (aNil_ok)) bNil_ok (T := fun x _ => Tsave_Encode none x.1) (fun _ _ => rfl) runsave_Encode
noncomputable def fns12 := addF 12 true Ssave_Encode fns39
theorem fns12_ok : ∀ f q t, fns12 f = some (q, t) → FnOk Tryz.prog cd f t := addF_ok oksave_Encode fns39_ok
/-- slices.Equal[[]int,int] -/
structure Sslices_Equal_int_int_0 where
  t0 : (List Int)
  t1 : (List Int)
  t12 : Int
  t13 : Int
noncomputable def Wslices_Equal_int_int_0 (s : Sslices_Equal_int_int_0) : Tree (Sslices_Equal_int_int_0 ⊕ (Bool ⊕ Unit)) :=
  .ite (decide (s.t13 < s.t12))
    (.ite (decide (0 ≤ s.t13))
      (.opt Int (s.t0[(s.t13).toNat]?) fun y375 =>
        .ite (decide (0 ≤ s.t13))
          (.opt Int (s.t1[(s.t13).toNat]?) fun y376 =>
            .ite (!decide (y375 = y376))
              (.leaf (.inr (.inl false)))
              (.leaf (.inl (Sslices_Equal_int_int_0.mk s.t0 s.t1 s.t12 (IntKind.wrap .i64 (s.t13 + (1 : Int)))))))
          .fail)
      .fail)
    (.leaf (.inr (.inr ())))
noncomputable def Lslices_Equal_int_int_0 (q : Option Nat) (s : Sslices_Equal_int_int_0) : Option (Bool ⊕ Unit) := limQ q (fun s => (Wslices_Equal_int_int_0 s).run) s
noncomputable def Tslices_Equal_int_int (q : Option Nat) (x0 : (List Int)) (x1 : (List Int)) : Tree Bool :=
  .ite (!decide ((x0.length : Int) = (x1.length : Int)))
    (.leaf (false))
    (.opt (Bool ⊕ Unit) (Lslices_Equal_int_int_0 q (Sslices_Equal_int_int_0.mk x0 x1 (x0.length : Int) (0 : Int))) fun l377 =>
      .ite (l377.isLeft)
        (.opt Bool (l377.getLeft?) fun a378 =>
          .leaf (a378))
        (.opt Unit (l377.getRight?) fun b379 =>
          .leaf (true)))
noncomputable def slices_Equal_int_int (q : Option Nat) (x0 : (List Int)) (x1 : (List Int)) : Option Bool := (Tslices_Equal_int_int q x0 x1).run
noncomputable def Aslices_Equal_int_int : Arg U ((List Int) × (List Int) × Unit) := aO (cSl 3) (aO (cSl 3) (aNil))
noncomputable def Rslices_Equal_int_int (r : Bool) : List (V U) × List (Blk U) := ([vO cBool r], [])
noncomputable def Sslices_Equal_int_int : List (V U) → List (Blk U) → Option (FnOut U) := mkSpec Aslices_Equal_int_int bNil (fun x _ => slices_Equal_int_int none x.1 x.2.1) Rslices_Equal_int_int
noncomputable def Pslices_Equal_int_int_0 (x : ((List Int) × Unit) × ((List Int) × Unit) × (Int × Unit) × (Int × Unit) × Unit) (_g : Unit) : Sslices_Equal_int_int_0 := Sslices_Equal_int_int_0.mk x.1.1 x.2.1.1 x.2.2.1.1 x.2.2.2.1.1
noncomputable def tAslices_Equal_int_int_0 : Tms U (((List Int) × Unit) × ((List Int) × Unit) × (Int × Unit) × (Int × Unit) × Unit) := tO 0 (cPair (cSl 3) (cUnit)) (tO 1 (cPair (cSl 3) (cUnit)) (tO 12 (cPair (cInt .i64) (cUnit)) (tO 13 (cPair (cInt .i64) (cUnit)) (tNil))))
noncomputable def tBslices_Equal_int_int_0 : Bls U (Unit) := bNil
noncomputable def eSslices_Equal_int_int_0 (s : Sslices_Equal_int_int_0) : St U := { tm := [(0, .v (vO (cPair (cSl 3) (cUnit)) (s.t0, ()))), (1, .v (vO (cPair (cSl 3) (cUnit)) (s.t1, ()))), (12, .v (vO (cPair (cInt .i64) (cUnit)) (s.t12, ()))), (13, .v (vO (cPair (cInt .i64) (cUnit)) (s.t13, ())))], hp := [] }
noncomputable def xSslices_Equal_int_int_0 : (Bool ⊕ Unit) → Ex × St U
  | .inl r => (.ret, { tm := [(4, .v (vO (cPair cBool (cUnit)) (r, ())))], hp := [] })
  | .inr r => (.exit 0, { tm := [], hp := [] })
noncomputable def xTslices_Equal_int_int_0 (y : (Bool ⊕ Unit)) : Tree (Ex × St U) := .ite y.isLeft (.opt Bool y.getLeft? fun r => .leaf (.ret, { tm := [(4, .v (vO (cPair cBool (cUnit)) (r, ())))], hp := [] })) (.opt Unit y.getRight? fun r => .leaf (.exit 0, { tm := [], hp := [] }))
noncomputable def hslices_Equal_int_int_0 : Hd := { keep := [0, 1, 12, 13], xkeep := [4], own := false }
noncomputable def Eslices_Equal_int_int : Env U := { P := Tryz.prog, cd := cd, fns := fns12, lps := (addL 0 hslices_Equal_int_int_0 (mkLoop tAslices_Equal_int_int_0 tBslices_Equal_int_int_0 Pslices_Equal_int_int_0 (Lslices_Equal_int_int_0 none) xTslices_Equal_int_int_0) noL), frz := fun _r => false, nt := 26, n0 := 0 }
noncomputable def Bslices_Equal_int_int_0 : Code := (loopAt (Tryz.f81.body.getD .skip) 0 0).getD .skip
theorem roundslices_Equal_int_int_0 (s : Sslices_Equal_int_int_0) : round Eslices_Equal_int_int hslices_Equal_int_int_0 Bslices_Equal_int_int_0 0 (eSslices_Equal_int_int_0 s) = (Wslices_Equal_int_int_0 s).map (sumE eSslices_Equal_int_int_0 xSslices_Equal_int_int_0) := by kernel_rfl
theorem lpslices_Equal_int_int_0 : LpOk Eslices_Equal_int_int Bslices_Equal_int_int_0 0 := mkLoop_ok (A := tAslices_Equal_int_int_0) (B := tBslices_Equal_int_int_0) (f := Pslices_Equal_int_int_0) (L := Lslices_Equal_int_int_0 none) (tO_ok (cPair_ok (cSl_ok 3) cUnit_ok) (tO_ok (cPair_ok (cSl_ok 3) cUnit_ok) (tO_ok (cPair_ok (cInt_ok .i64) cUnit_ok) (tO_ok (cPair_ok (cInt_ok .i64) cUnit_ok) tNil_ok)))) bNil_ok (enc := eSslices_Equal_int_int_0) (out := xTslices_Equal_int_int_0) (outS := xSslices_Equal_int_int_0) (step := Wslices_Equal_int_int_0) (fun _ => rfl) (fun _ _ => by kernel_rfl) (by kernel_rfl) (fun b => by cases b <;> rfl) roundslices_Equal_int_int_0
theorem runslices_Equal_int_int (x : (List Int) × (List Int) × Unit) (g : Unit) : execF Eslices_Equal_int_int Tryz.f81 (Aslices_Equal_int_int.enc x) (bNil.enc g) = (Tslices_Equal_int_int none x.1 x.2.1).map Rslices_Equal_int_int := by kernel_rfl
theorem okslices_Equal_int_int : FnOk Tryz.prog cd 81 Sslices_Equal_int_int := mk_ok (E := Eslices_Equal_int_int) cd_ok fns12_ok Tryz.func81 (by kernel_rfl) (loops_of (addL_ok lpslices_Equal_int_int_0 noL_ok)) (aO_ok (cSl_ok 3) (aO_ok (cSl_ok 3) (aNil_ok))) bNil_ok (T := fun x _ => Tslices_Equal_int_int none x.1 x.2.1) (fun _ _ => rfl) runslices_Equal_int_int
noncomputable def fns81 := addF 81 true Sslices_Equal_int_int fns12
theorem fns81_ok : ∀ f q t, fns81 f = some (q, t) → FnOk Tryz.prog cd f t := addF_ok okslices_Equal_int_int fns12_ok
/-- slices.Equal[[]emulator/api.Line,emulator/api.Line] -/
structure Sslices_Equal_api_Line_api_Line_0 where
  t0 : (List Line)
  t1 : (List Line)
  t12 : Int
  t13 : Int
noncomputable def Wslices_Equal_api_Line_api_Line_0 (s : Sslices_Equal_api_Line_api_Line_0) : Tree (Sslices_Equal_api_Line_api_Line_0 ⊕ (Bool ⊕ Unit)) :=
  .ite (decide (s.t13 < s.t12))
    (.ite (decide (0 ≤ s.t13))
      (.opt Line (s.t0[(s.t13).toNat]?) fun y380 =>
        .ite (decide (0 ≤ s.t13))
          (.opt Line (s.t1[(s.t13).toNat]?) fun y381 =>
            .ite (!((y380.rxEnable == y381.rxEnable) && ((y380.rxReady == y381.rxReady) && ((y380.overrun == y381.overrun) && ((decide (y380.rxData = y381.rxData)) && ((y380.txEnable == y381.txEnable) && ((y380.txReady == y381.txReady) && ((decide (y380.txData = y381.txData)) && ((decide (y380.txLeft = y381.txLeft)) && (decide (y380.out = y381.out)))))))))))
              (.leaf (.inr (.inl false)))
              (.leaf (.inl (Sslices_Equal_api_Line_api_Line_0.mk s.t0 s.t1 s.t12 (IntKind.wrap .i64 (s.t13 + (1 : Int)))))))
          .fail)
      .fail)
    (.leaf (.inr (.inr ())))
noncomputable def Lslices_Equal_api_Line_api_Line_0 (q : Option Nat) (s : Sslices_Equal_api_Line_api_Line_0) : Option (Bool ⊕ Unit) := limQ q (fun s => (Wslices_Equal_api_Line_api_Line_0 s).run) s
noncomputable def Tslices_Equal_api_Line_api_Line (q : Option Nat) (x0 : (List Line)) (x1 : (List Line)) : Tree Bool :=
  .ite (!decide ((x0.length : Int) = (x1.length : Int)))
    (.leaf (false))
    (.opt (Bool ⊕ Unit) (Lslices_Equal_api_Line_api_Line_0 q (Sslices_Equal_api_Line_api_Line_0.mk x0 x1 (x0.length : Int) (0 : Int))) fun l382 =>
      .ite (l382.isLeft)
        (.opt Bool (l382.getLeft?) fun a383 =>
          .leaf (a383))
        (.opt Unit (l382.getRight?) fun b384 =>
          .leaf (true)))
noncomputable def slices_Equal_api_Line_api_Line (q : Option Nat) (x0 : (List Line)) (x1 : (List Line)) : Option Bool := (Tslices_Equal_api_Line_api_Line q x0 x1).run
noncomputable def Aslices_Equal_api_Line_api_Line : Arg U ((List Line) × (List Line) × Unit) := aO (cSl 66) (aO (cSl 66) (aNil))
noncomputable def Rslices_Equal_api_Line_api_Line (r : Bool) : List (V U) × List (Blk U) := ([vO cBool r], [])
noncomputable def Sslices_Equal_api_Line_api_Line : List (V U) → List (Blk U) → Option (FnOut U) := mkSpec Aslices_Equal_api_Line_api_Line bNil (fun x _ => slices_Equal_api_Line_api_Line none x.1 x.2.1) Rslices_Equal_api_Line_api_Line
noncomputable def Pslices_Equal_api_Line_api_Line_0 (x : ((List Line) × Unit) × ((List Line) × Unit) × (Int × Unit) × (Int × Unit) × Unit) (_g : Unit) : Sslices_Equal_api_Line_api_Line_0 := Sslices_Equal_api_Line_api_Line_0.mk x.1.1 x.2.1.1 x.2.2.1.1 x.2.2.2.1.1
noncomputable def tAslices_Equal_api_Line_api_Line_0 : Tms U (((List Line) × Unit) × ((List Line) × Unit) × (Int × Unit) × (Int × Unit) × Unit) := tO 0 (cPair (cSl 66) (cUnit)) (tO 1 (cPair (cSl 66) (cUnit)) (tO 12 (cPair (cInt .i64) (cUnit)) (tO 13 (cPair (cInt .i64) (cUnit)) (tNil))))
noncomputable def tBslices_Equal_api_Line_api_Line_0 : Bls U (Unit) := bNil
noncomputable def eSslices_Equal_api_Line_api_Line_0 (s : Sslices_Equal_api_Line_api_Line_0) : St U := { tm := [(0, .v (vO (cPair (cSl 66) (cUnit)) (s.t0, ()))), (1, .v (vO (cPair (cSl 66) (cUnit)) (s.t1, ()))), (12, .v (vO (cPair (cInt .i64) (cUnit)) (s.t12, ()))), (13, .v (vO (cPair (cInt .i64) (cUnit)) (s.t13, ())))], hp := [] }
noncomputable def xSslices_Equal_api_Line_api_Line_0 : (Bool ⊕ Unit) → Ex × St U
  | .inl r => (.ret, { tm := [(4, .v (vO (cPair cBool (cUnit)) (r, ())))], hp := [] })
  | .inr r => (.exit 0, { tm := [], hp := [] })
noncomputable def xTslices_Equal_api_Line_api_Line_0 (y : (Bool ⊕ Unit)) : Tree (Ex × St U) := .ite y.isLeft (.opt Bool y.getLeft? fun r => .leaf (.ret, { tm := [(4, .v (vO (cPair cBool (cUnit)) (r, ())))], hp := [] })) (.opt Unit y.getRight? fun r => .leaf (.exit 0, { tm := [], hp := [] }))
noncomputable def hslices_Equal_api_Line_api_Line_0 : Hd := { keep := [0, 1, 12, 13], xkeep := [4], own := false }
noncomputable def Eslices_Equal_api_Line_api_Line : Env U := { P := Tryz.prog, cd := cd, fns := fns81, lps := (addL 0 hslices_Equal_api_Line_api_Line_0 (mkLoop tAslices_Equal_api_Line_api_Line_0 tBslices_Equal_api_Line_api_Line_0 Pslices_Equal_api_Line_api_Line_0 (Lslices_Equal_api_Line_api_Line_0 none) xTslices_Equal_api_Line_api_Line_0) noL), frz := fun _r => false, nt := 26, n0 := 0 }
noncomputable def Bslices_Equal_api_Line_api_Line_0 : Code := (loopAt (Tryz.f82.body.getD .skip) 0 0).getD .skip
theorem roundslices_Equal_api_Line_api_Line_0 (s : Sslices_Equal_api_Line_api_Line_0) : round Eslices_Equal_api_Line_api_Line hslices_Equal_api_Line_api_Line_0 Bslices_Equal_api_Line_api_Line_0 0 (eSslices_Equal_api_Line_api_Line_0 s) = (Wslices_Equal_api_Line_api_Line_0 s).map (sumE eSslices_Equal_api_Line_api_Line_0 xSslices_Equal_api_Line_api_Line_0) := by kernel_rfl
theorem lpslices_Equal_api_Line_api_Line_0 : LpOk Eslices_Equal_api_Line_api_Line Bslices_Equal_api_Line_api_Line_0 0 := mkLoop_ok (A := tAslices_Equal_api_Line_api_Line_0) (B := tBslices_Equal_api_Line_api_Line_0) (f := Pslices_Equal_api_Line_api_Line_0) (L := Lslices_Equal_api_Line_api_Line_0 none) (tO_ok (cPair_ok (cSl_ok 66) cUnit_ok) (tO_ok (cPair_ok (cSl_ok 66) cUnit_ok) (tO_ok (cPair_ok (cInt_ok .i64) cUnit_ok) (tO_ok (cPair_ok (cInt_ok .i64) cUnit_ok) tNil_ok)))) bNil_ok (enc := eSslices_Equal_api_Line_api_Line_0) (out := xTslices_Equal_api_Line_api_Line_0) (outS := xSslices_Equal_api_Line_api_Line_0) (step := Wslices_Equal_api_Line_api_Line_0) (fun _ => rfl) (fun _ _ => by kernel_rfl) (by kernel_rfl) (fun b => by cases b <;> rfl) roundslices_Equal_api_Line_api_Line_0
theorem runslices_Equal_api_Line_api_Line (x : (List Line) × (List Line) × Unit) (g : Unit) : execF Eslices_Equal_api_Line_api_Line Tryz.f82 (Aslices_Equal_api_Line_api_Line.enc x) (bNil.enc g) = (Tslices_Equal_api_Line_api_Line none x.1 x.2.1).map Rslices_Equal_api_Line_api_Line := by kernel_rfl
theorem okslices_Equal_api_Line_api_Line : FnOk Tryz.prog cd 82 Sslices_Equal_api_Line_api_Line := mk_ok (E := Eslices_Equal_api_Line_api_Line) cd_ok fns81_ok Tryz.func82 (by kernel_rfl) (loops_of (addL_ok lpslices_Equal_api_Line_api_Line_0 noL_ok)) (aO_ok (cSl_ok 66) (aO_ok (cSl_ok 66) (aNil_ok))) bNil_ok (T := fun x _ => Tslices_Equal_api_Line_api_Line none x.1 x.2.1) (fun _ _ => rfl) runslices_Equal_api_Line_api_Line
noncomputable def fns82 := addF 82 true Sslices_Equal_api_Line_api_Line fns81
theorem fns82_ok : ∀ f q t, fns82 f = some (q, t) → FnOk Tryz.prog cd f t := addF_ok okslices_Equal_api_Line_api_Line fns81_ok
/-- slices.Equal[[]string,string] -/
structure Sslices_Equal_string_string_0 where
  t0 : (List (List UInt8))
  t1 : (List (List UInt8))
  t12 : Int
  t13 : Int
noncomputable def Wslices_Equal_string_string_0 (s : Sslices_Equal_string_string_0) : Tree (Sslices_Equal_string_string_0 ⊕ (Bool ⊕ Unit)) :=
  .ite (decide (s.t13 < s.t12))
    (.ite (decide (0 ≤ s.t13))
      (.opt (List UInt8) (s.t0[(s.t13).toNat]?) fun y385 =>
        .ite (decide (0 ≤ s.t13))
          (.opt (List UInt8) (s.t1[(s.t13).toNat]?) fun y386 =>
            .ite (!decide (y385 = y386))
              (.leaf (.inr (.inl false)))
              (.leaf (.inl (Sslices_Equal_string_string_0.mk s.t0 s.t1 s.t12 (IntKind.wrap .i64 (s.t13 + (1 : Int)))))))
          .fail)
      .fail)
    (.leaf (.inr (.inr ())))
noncomputable def Lslices_Equal_string_string_0 (q : Option Nat) (s : Sslices_Equal_string_string_0) : Option (Bool ⊕ Unit) := limQ q (fun s => (Wslices_Equal_string_string_0 s).run) s
noncomputable def Tslices_Equal_string_string (q : Option Nat) (x0 : (List (List UInt8))) (x1 : (List (List UInt8))) : Tree Bool :=
  .ite (!decide ((x0.length : Int) = (x1.length : Int)))
    (.leaf (false))
    (.opt (Bool ⊕ Unit) (Lslices_Equal_string_string_0 q (Sslices_Equal_string_string_0.mk x0 x1 (x0.length : Int) (0 : Int))) fun l387 =>
      .ite (l387.isLeft)
        (.opt Bool (l387.getLeft?) fun a388 =>
          .leaf (a388))
        (.opt Unit (l387.getRight?) fun b389 =>
          .leaf (true)))
noncomputable def slices_Equal_string_string (q : Option Nat) (x0 : (List (List UInt8))) (x1 : (List (List UInt8))) : Option Bool := (Tslices_Equal_string_string q x0 x1).run
noncomputable def Aslices_Equal_string_string : Arg U ((List (List UInt8)) × (List (List UInt8)) × Unit) := aO (cSl 9) (aO (cSl 9) (aNil))
noncomputable def Rslices_Equal_string_string (r : Bool) : List (V U) × List (Blk U) := ([vO cBool r], [])
noncomputable def Sslices_Equal_string_string : List (V U) → List (Blk U) → Option (FnOut U) := mkSpec Aslices_Equal_string_string bNil (fun x _ => slices_Equal_string_string none x.1 x.2.1) Rslices_Equal_string_string
noncomputable def Pslices_Equal_string_string_0 (x : ((List (List UInt8)) × Unit) × ((List (List UInt8)) × Unit) × (Int × Unit) × (Int × Unit) × Unit) (_g : Unit) : Sslices_Equal_string_string_0 := Sslices_Equal_string_string_0.mk x.1.1 x.2.1.1 x.2.2.1.1 x.2.2.2.1.1
noncomputable def tAslices_Equal_string_string_0 : Tms U (((List (List UInt8)) × Unit) × ((List (List UInt8)) × Unit) × (Int × Unit) × (Int × Unit) × Unit) := tO 0 (cPair (cSl 9) (cUnit)) (tO 1 (cPair (cSl 9) (cUnit)) (tO 12 (cPair (cInt .i64) (cUnit)) (tO 13 (cPair (cInt .i64) (cUnit)) (tNil))))
noncomputable def tBslices_Equal_string_string_0 : Bls U (Unit) := bNil
noncomputable def eSslices_Equal_string_string_0 (s : Sslices_Equal_string_string_0) : St U := { tm := [(0, .v (vO (cPair (cSl 9) (cUnit)) (s.t0, ()))), (1, .v (vO (cPair (cSl 9) (cUnit)) (s.t1, ()))), (12, .v (vO (cPair (cInt .i64) (cUnit)) (s.t12, ()))), (13, .v (vO (cPair (cInt .i64) (cUnit)) (s.t13, ())))], hp := [] }
noncomputable def xSslices_Equal_string_string_0 : (Bool ⊕ Unit) → Ex × St U
  | .inl r => (.ret, { tm := [(4, .v (vO (cPair cBool (cUnit)) (r, ())))], hp := [] })
  | .inr r => (.exit 0, { tm := [], hp := [] })
noncomputable def xTslices_Equal_string_string_0 (y : (Bool ⊕ Unit)) : Tree (Ex × St U) := .ite y.isLeft (.opt Bool y.getLeft? fun r => .leaf (.ret, { tm := [(4, .v (vO (cPair cBool (cUnit)) (r, ())))], hp := [] })) (.opt Unit y.getRight? fun r => .leaf (.exit 0, { tm := [], hp := [] }))
noncomputable def hslices_Equal_string_string_0 : Hd := { keep := [0, 1, 12, 13], xkeep := [4], own := false }
noncomputable def Eslices_Equal_string_string : Env U := { P := Tryz.prog, cd := cd, fns := fns82, lps := (addL 0 hslices_Equal_string_string_0 (mkLoop tAslices_Equal_string_string_0 tBslices_Equal_string_string_0 Pslices_Equal_string_string_0 (Lslices_Equal_string_string_0 none) xTslices_Equal_string_string_0) noL), frz := fun _r => false, nt := 26, n0 := 0 }
noncomputable def Bslices_Equal_string_string_0 : Code := (loopAt (Tryz.f128.body.getD .skip) 0 0).getD .skip
theorem roundslices_Equal_string_string_0 (s : Sslices_Equal_string_string_0) : round Eslices_Equal_string_string hslices_Equal_string_string_0 Bslices_Equal_string_string_0 0 (eSslices_Equal_string_string_0 s) = (Wslices_Equal_string_string_0 s).map (sumE eSslices_Equal_string_string_0 xSslices_Equal_string_string_0) := by kernel_rfl
theorem lpslices_Equal_string_string_0 : LpOk Eslices_Equal_string_string Bslices_Equal_string_string_0 0 := mkLoop_ok (A := tAslices_Equal_string_string_0) (B := tBslices_Equal_string_string_0) (f := Pslices_Equal_string_string_0) (L := Lslices_Equal_string_string_0 none) (tO_ok (cPair_ok (cSl_ok 9) cUnit_ok) (tO_ok (cPair_ok (cSl_ok 9) cUnit_ok) (tO_ok (cPair_ok (cInt_ok .i64) cUnit_ok) (tO_ok (cPair_ok (cInt_ok .i64) cUnit_ok) tNil_ok)))) bNil_ok (enc := eSslices_Equal_string_string_0) (out := xTslices_Equal_string_string_0) (outS := xSslices_Equal_string_string_0) (step := Wslices_Equal_string_string_0) (fun _ => rfl) (fun _ _ => by kernel_rfl) (by kernel_rfl) (fun b => by cases b <;> rfl) roundslices_Equal_string_string_0
theorem runslices_Equal_string_string (x : (List (List UInt8)) × (List (List UInt8)) × Unit) (g : Unit) : execF Eslices_Equal_string_string Tryz.f128 (Aslices_Equal_string_string.enc x) (bNil.enc g) = (Tslices_Equal_string_string none x.1 x.2.1).map Rslices_Equal_string_string := by kernel_rfl
theorem okslices_Equal_string_string : FnOk Tryz.prog cd 128 Sslices_Equal_string_string := mk_ok (E := Eslices_Equal_string_string) cd_ok fns82_ok Tryz.func128 (by kernel_rfl) (loops_of (addL_ok lpslices_Equal_string_string_0 noL_ok)) (aO_ok (cSl_ok 9) (aO_ok (cSl_ok 9) (aNil_ok))) bNil_ok (T := fun x _ => Tslices_Equal_string_string none x.1 x.2.1) (fun _ _ => rfl) runslices_Equal_string_string
noncomputable def fns128 := addF 128 true Sslices_Equal_string_string fns82
theorem fns128_ok : ∀ f q t, fns128 f = some (q, t) → FnOk Tryz.prog cd f t := addF_ok okslices_Equal_string_string fns82_ok
/-- emulator/save.sameDisk -/
noncomputable def Tsave_sameDisk (q : Option Nat) (x0 : Disk) (x1 : Disk) : Tree Bool :=
  .opt Bool (slices_Equal_string_string q x0.drive.sectors x1.drive.sectors) fun r390 =>
    .ite (r390)
      (.opt Bool (slices_Equal_int_int q x0.drive.bad x1.drive.bad) fun r391 =>
        .ite (r391)
          (.ite ((x0.enable == x1.enable))
            (.ite ((x0.ready == x1.ready))
              (.ite ((x0.error == x1.error))
                (.ite (decide (x0.command = x1.command))
                  (.ite (decide (x0.words = x1.words))
                    (.ite (decide (x0.addr = x1.addr))
                      (.ite (decide (x0.start = x1.start))
                        (.leaf (decide (x0.left = x1.left)))
                        (.leaf (false)))
                      (.leaf (false)))
                    (.leaf (false)))
                  (.leaf (false)))
                (.leaf (false)))
              (.leaf (false)))
            (.leaf (false)))
          (.leaf (false)))
      (.leaf (false))
noncomputable def save_sameDisk (q : Option Nat) (x0 : Disk) (x1 : Disk) : Option Bool := (Tsave_sameDisk q x0 x1).run
noncomputable def Asave_sameDisk : Arg U (Disk × Disk × Unit) := aA cDisk (aA cDisk (aNil))
noncomputable def Rsave_sameDisk (r : Bool) : List (V U) × List (Blk U) := ([vO cBool r], [])
noncomputable def Ssave_sameDisk : List (V U) → List (Blk U) → Option (FnOut U) := mkSpec Asave_sameDisk bNil (fun x _ => save_sameDisk none x.1 x.2.1) Rsave_sameDisk
noncomputable def Esave_sameDisk : Env U := { P := Tryz.prog, cd := cd, fns := fns128, lps := noL, frz := fun _r => false, nt := 79, n0 := 0, fps := fun _r _i => bif Nat.beq _r 1 && Nat.beq _i 2 then .rd [] else bif Nat.beq _r 1 && Nat.beq _i 3 then .rd [1] else bif Nat.beq _r 1 && Nat.beq _i 6 then .wr [2] 4 else .none }
theorem runsave_sameDisk (x : Disk × Disk × Unit) (g : Unit) : execF Esave_sameDisk Tryz.f83 (Asave_sameDisk.enc x) (bNil.enc g) = (Tsave_sameDisk none x.1 x.2.1).map Rsave_sameDisk := by kernel_rfl
theorem oksave_sameDisk : FnOk Tryz.prog cd 83 Ssave_sameDisk := mk_ok (E := Esave_sameDisk) cd_ok fns128_ok Tryz.func83 (by kernel_rfl) (noLoops_body (by kernel_rfl)) (aA_ok cDisk_ok (aA_ok cDisk_ok (aNil_ok))) bNil_ok (T := fun x _ => Tsave_sameDisk none x.1 x.2.1) (fun _ _ => rfl) runsave_sameDisk
noncomputable def fns83 := addF 83 true Ssave_sameDisk fns128
theorem fns83_ok : ∀ f q t, fns83 f = some (q, t) → FnOk Tryz.prog cd f t := addF_ok oksave_sameDisk fns128_ok
/-- emulator/save.sameTape -/
noncomputable def Tsave_sameTape (q : Option Nat) (x0 : Tape) (x1 : Tape) : Tree Bool :=
  .opt Bool (slices_Equal_string_string q x0.records x1.records) fun r392 =>
    .ite (r392)
      (.ite (decide (x0.pos = x1.pos))
        (.ite ((x0.enable == x1.enable))
          (.ite ((x0.ready == x1.ready))
            (.ite ((x0.error == x1.error))
              (.ite ((x0.mark == x1.mark))
                (.ite ((x0.end_ == x1.end_))
                  (.ite (decide (x0.command = x1.command))
                    (.ite (decide (x0.count = x1.count))
                      (.ite (decide (x0.addr = x1.addr))
                        (.leaf (decide (x0.left = x1.left)))
                        (.leaf (false)))
                      (.leaf (false)))
                    (.leaf (false)))
                  (.leaf (false)))
                (.leaf (false)))
              (.leaf (false)))
            (.leaf (false)))
          (.leaf (false)))
        (.leaf (false)))
      (.leaf (false))
noncomputable def save_sameTape (q : Option Nat) (x0 : Tape) (x1 : Tape) : Option Bool := (Tsave_sameTape q x0 x1).run
noncomputable def Asave_sameTape : Arg U (Tape × Tape × Unit) := aA cTape (aA cTape (aNil))
noncomputable def Rsave_sameTape (r : Bool) : List (V U) × List (Blk U) := ([vO cBool r], [])
noncomputable def Ssave_sameTape : List (V U) → List (Blk U) → Option (FnOut U) := mkSpec Asave_sameTape bNil (fun x _ => save_sameTape none x.1 x.2.1) Rsave_sameTape
noncomputable def Esave_sameTape : Env U := { P := Tryz.prog, cd := cd, fns := fns83, lps := noL, frz := fun _r => false, nt := 80, n0 := 0 }
theorem runsave_sameTape (x : Tape × Tape × Unit) (g : Unit) : execF Esave_sameTape Tryz.f84 (Asave_sameTape.enc x) (bNil.enc g) = (Tsave_sameTape none x.1 x.2.1).map Rsave_sameTape := by kernel_rfl
theorem oksave_sameTape : FnOk Tryz.prog cd 84 Ssave_sameTape := mk_ok (E := Esave_sameTape) cd_ok fns83_ok Tryz.func84 (by kernel_rfl) (noLoops_body (by kernel_rfl)) (aA_ok cTape_ok (aA_ok cTape_ok (aNil_ok))) bNil_ok (T := fun x _ => Tsave_sameTape none x.1 x.2.1) (fun _ _ => rfl) runsave_sameTape
noncomputable def fns84 := addF 84 true Ssave_sameTape fns83
theorem fns84_ok : ∀ f q t, fns84 f = some (q, t) → FnOk Tryz.prog cd f t := addF_ok oksave_sameTape fns83_ok
/-- emulator/save.Diff$1 -/
noncomputable def Tsave_Diff_1 (x0 : (List UInt8)) (x1 : Bool) (g0 : Unit) (g1 : (List (List UInt8))) : Tree (List (List UInt8)) :=
  .ite (!x1)
    (.ite (decide ((g1.length + ([x0]).length) * 16 ≤ 140737488355328))
      (.leaf (g1 ++ ([x0])))
      .fail)
    (.leaf (g1))
noncomputable def save_Diff_1 (x0 : (List UInt8)) (x1 : Bool) (g0 : Unit) (g1 : (List (List UInt8))) : Option (List (List UInt8)) := (Tsave_Diff_1 x0 x1 g0 g1).run
noncomputable def Asave_Diff_1 : Arg U ((List UInt8) × Bool × Unit) := aO cStr (aO cBool (aP 0 0 (aNil)))
noncomputable def Gsave_Diff_1 : Bls U (Unit × (List (List UInt8)) × Unit) := bT none (cK (.row 1 0) (cUnit)) (bR 9 (bNil))
noncomputable def Rsave_Diff_1 (_x : (List UInt8) × Bool × Unit) (_g : Unit × (List (List UInt8)) × Unit) (r : (List (List UInt8))) : List (V U) × List (Blk U) := ([], [.cells ((cK (.row 1 1) (cUnit) : Cdc U (Unit)).enc (())) none, .row 9 1 r])
noncomputable def Ssave_Diff_1 : List (V U) → List (Blk U) → Option (FnOut U) := mkSpecG Asave_Diff_1 Gsave_Diff_1 (fun x g => save_Diff_1 x.1 x.2.1 g.1 g.2.1) Rsave_Diff_1
noncomputable def Esave_Diff_1 : Env U := { P := Tryz.prog, cd := cd, fns := fns84, lps := noL, frz := fun _r => false, nt := 11, n0 := 2, bump := true }
theorem rnsave_Diff_1 (x0 : (List UInt8)) (x1 : Bool) (g0 : Unit) (g1 : (List (List UInt8))) : execX true Esave_Diff_1 Tryz.f80 (Asave_Diff_1.enc (x0, x1, ())) (Gsave_Diff_1.enc (g0, g1, ())) = (Tsave_Diff_1 x0 x1 g0 g1).map (Rsave_Diff_1 (x0, x1, ()) (g0, g1, ())) := by kernel_rfl
theorem runsave_Diff_1 : ∀ (x : (List UInt8) × Bool × Unit) (g : Unit × (List (List UInt8)) × Unit), execX true Esave_Diff_1 Tryz.f80 (Asave_Diff_1.enc x) (Gsave_Diff_1.enc g) = (Tsave_Diff_1 x.1 x.2.1 g.1 g.2.1).map (Rsave_Diff_1 x g)
  | (x0, x1, ()), (g0, g1, ()) => rnsave_Diff_1 x0 x1 g0 g1
theorem oksave_Diff_1 : FnOk Tryz.prog cd 80 Ssave_Diff_1 := mk_okG (E := Esave_Diff_1) (A := Asave_Diff_1) (B := Gsave_Diff_1) true cd_ok fns84_ok Tryz.func80 (by kernel_rfl) (noLoops_body (by kernel_rfl)) (aO_ok cStr_ok (aO_ok cBool_ok (aP_ok (aNil_ok)))) (bT_ok (cK_ok cUnit_ok) (bR_ok bNil_ok)) (T := fun (x : (List UInt8) × Bool × Unit) (g : Unit × (List (List UInt8)) × Unit) => Tsave_Diff_1 x.1 x.2.1 g.1 g.2.1) (fun _ _ => rfl) runsave_Diff_1
/-- emulator/save.Diff -/
noncomputable def Tsave_Diff (q : Option Nat) (x0 : Machine) (x1 : Machine) : Tree (List (List UInt8)) :=
  .opt (List (List UInt8)) (save_Diff_1 ([67, 112, 117] : List UInt8) ((decide (x0.cpu.r = x1.cpu.r)) && ((decide (x0.cpu.sP = x1.cpu.sP)) && ((decide (x0.cpu.pC = x1.cpu.pC)) && (decide (x0.cpu.pSW = x1.cpu.pSW))))) () ([])) fun r393 =>
    .opt Bool (slices_Equal_int_int q x0.mem x1.mem) fun r394 =>
      .opt (List (List UInt8)) (save_Diff_1 ([77, 101, 109] : List UInt8) r394 () r393) fun r395 =>
        .opt Bool (slices_Equal_int_int q x0.bad x1.bad) fun r396 =>
          .opt (List (List UInt8)) (save_Diff_1 ([66, 97, 100] : List UInt8) r396 () r395) fun r397 =>
            .opt (List (List UInt8)) (save_Diff_1 ([77, 109, 117] : List UInt8) ((x0.mmu.on == x1.mmu.on) && ((decide (x0.mmu.pages = x1.mmu.pages)) && ((decide (x0.mmu.status = x1.mmu.status)) && (decide (x0.mmu.addr = x1.mmu.addr))))) () r397) fun r398 =>
              .opt (List (List UInt8)) (save_Diff_1 ([67, 108, 111, 99, 107] : List UInt8) ((x0.clock.enable == x1.clock.enable) && ((x0.clock.ready == x1.clock.ready) && ((decide (x0.clock.period = x1.clock.period)) && (decide (x0.clock.left = x1.clock.left))))) () r398) fun r399 =>
                .opt Bool (slices_Equal_api_Line_api_Line q x0.lines x1.lines) fun r400 =>
                  .opt (List (List UInt8)) (save_Diff_1 ([76, 105, 110, 101, 115] : List UInt8) r400 () r399) fun r401 =>
                    .opt Bool (save_sameDisk q x0.disk x1.disk) fun r402 =>
                      .opt (List (List UInt8)) (save_Diff_1 ([68, 105, 115, 107] : List UInt8) r402 () r401) fun r403 =>
                        .opt Bool (save_sameTape q x0.tape x1.tape) fun r404 =>
                          .opt (List (List UInt8)) (save_Diff_1 ([84, 97, 112, 101] : List UInt8) r404 () r403) fun r405 =>
                            .opt (List (List UInt8)) (save_Diff_1 ([78, 111, 119] : List UInt8) (decide (x0.now = x1.now)) () r405) fun r406 =>
                              .opt (List (List UInt8)) (save_Diff_1 ([72, 97, 108, 116, 101, 100] : List UInt8) (x0.halted == x1.halted) () r406) fun r407 =>
                                .opt (List (List UInt8)) (save_Diff_1 ([87, 97, 105, 116, 105, 110, 103] : List UInt8) (x0.waiting == x1.waiting) () r407) fun r408 =>
                                  .opt (List (List UInt8)) (save_Diff_1 ([80, 111, 119, 101, 114] : List UInt8) (decide (x0.power = x1.power)) () r408) fun r409 =>
                                    .opt (List (List UInt8)) (save_Diff_1 ([80, 111, 119, 101, 114, 84, 114, 97, 112] : List UInt8) (x0.powerTrap == x1.powerTrap) () r409) fun r410 =>
                                      .leaf (r410)
noncomputable def save_Diff (q : Option Nat) (x0 : Machine) (x1 : Machine) : Option (List (List UInt8)) := (Tsave_Diff q x0 x1).run
noncomputable def Asave_Diff : Arg U (Machine × Machine × Unit) := aA cMachine (aA cMachine (aNil))
noncomputable def Rsave_Diff (r : (List (List UInt8))) : List (V U) × List (Blk U) := ([vO (cSl 9) r], [])
noncomputable def Ssave_Diff : List (V U) → List (Blk U) → Option (FnOut U) := mkSpec Asave_Diff bNil (fun x _ => save_Diff none x.1 x.2.1) Rsave_Diff
noncomputable def Esave_Diff : Env U := { P := Tryz.prog, cd := cd, fns := (addF 80 false (Ssave_Diff_1) fns84), lps := noL, frz := fun _r => false, nt := 100, n0 := 0, ownr := fun _r => Nat.beq _r 2 }
theorem runsave_Diff (x : Machine × Machine × Unit) (g : Unit) : execF Esave_Diff Tryz.f37 (Asave_Diff.enc x) (bNil.enc g) = (Tsave_Diff none x.1 x.2.1).map Rsave_Diff := by kernel_rfl
theorem oksave_Diff : FnOk Tryz.prog cd 37 Ssave_Diff := mk_ok (E := Esave_Diff) cd_ok (addF_ok oksave_Diff_1 fns84_ok) Tryz.func37 (by kernel_rfl) (noLoops_body (by kernel_rfl)) (aA_ok cMachine_ok (aA_ok cMachine_ok (aNil_ok))) bNil_ok (T := fun x _ => Tsave_Diff none x.1 x.2.1) (fun _ _ => rfl) runsave_Diff
noncomputable def fns37 := addF 37 true Ssave_Diff fns84
theorem fns37_ok : ∀ f q t, fns37 f = some (q, t) → FnOk Tryz.prog cd f t := addF_ok oksave_Diff fns84_ok
/-- emulator/save.Same -/
noncomputable def Tsave_Same (q : Option Nat) (x0 : Machine) (x1 : Machine) : Tree Bool :=
  .opt (List (List UInt8)) (save_Diff q x0 x1) fun r411 =>
    .leaf (decide ((r411.length : Int) = (0 : Int)))
noncomputable def save_Same (q : Option Nat) (x0 : Machine) (x1 : Machine) : Option Bool := (Tsave_Same q x0 x1).run
noncomputable def Asave_Same : Arg U (Machine × Machine × Unit) := aA cMachine (aA cMachine (aNil))
noncomputable def Rsave_Same (r : Bool) : List (V U) × List (Blk U) := ([vO cBool r], [])
noncomputable def Ssave_Same : List (V U) → List (Blk U) → Option (FnOut U) := mkSpec Asave_Same bNil (fun x _ => save_Same none x.1 x.2.1) Rsave_Same
noncomputable def Esave_Same : Env U := { P := Tryz.prog, cd := cd, fns := fns37, lps := noL, frz := fun _r => false, nt := 10, n0 := 0 }
theorem runsave_Same (x : Machine × Machine × Unit) (g : Unit) : execF Esave_Same Tryz.f17 (Asave_Same.enc x) (bNil.enc g) = (Tsave_Same none x.1 x.2.1).map Rsave_Same := by kernel_rfl
theorem oksave_Same : FnOk Tryz.prog cd 17 Ssave_Same := mk_ok (E := Esave_Same) cd_ok fns37_ok Tryz.func17 (by kernel_rfl) (noLoops_body (by kernel_rfl)) (aA_ok cMachine_ok (aA_ok cMachine_ok (aNil_ok))) bNil_ok (T := fun x _ => Tsave_Same none x.1 x.2.1) (fun _ _ => rfl) runsave_Same
noncomputable def fns17 := addF 17 true Ssave_Same fns37
theorem fns17_ok : ∀ f q t, fns17 f = some (q, t) → FnOk Tryz.prog cd f t := addF_ok oksave_Same fns37_ok
/-- emulator/memory.New -/
noncomputable def Tmemory_New (x0 : Int) : Tree ((List Int) × Int) :=
  .opt Bool (memory_sized x0) fun r412 =>
    .ite (!r412)
      (.leaf (([], (1 : Int))))
      (.ite (decide ((2 : Int) = 0))
        .fail
        (.ite (decide (IntKind.wrap .i64 ((x0).tdiv (2 : Int)) = IntKind.wrap .i64 ((x0).tdiv (2 : Int))))
          (.ite (decide (0 ≤ IntKind.wrap .i64 ((x0).tdiv (2 : Int))))
            (.ite (decide ((8 : Int) * (IntKind.wrap .i64 ((x0).tdiv (2 : Int))) ≤ 281474976710656))
              (.leaf ((List.replicate (IntKind.wrap .i64 ((x0).tdiv (2 : Int))).toNat (0 : Int), (0 : Int))))
              .fail)
            .fail)
          .fail))
noncomputable def memory_New (x0 : Int) : Option ((List Int) × Int) := (Tmemory_New x0).run
noncomputable def Amemory_New : Arg U (Int × Unit) := aO (cInt .i64) (aNil)
noncomputable def Rmemory_New (r : ((List Int) × Int)) : List (V U) × List (Blk U) := ([vO (cSl 3) r.1, vO (cInt .i64) r.2], [])
noncomputable def Smemory_New : List (V U) → List (Blk U) → Option (FnOut U) := mkSpec Amemory_New bNil (fun x _ => memory_New x.1) Rmemory_New
noncomputable def Ememory_New : Env U := { P := Tryz.prog, cd := cd, fns := fns17, lps := noL, frz := fun _r => false, nt := 10, n0 := 0 }
theorem runmemory_New (x : Int × Unit) (g : Unit) : execF Ememory_New Tryz.f74 (Amemory_New.enc x) (bNil.enc g) = (Tmemory_New x.1).map Rmemory_New := by kernel_rfl
theorem okmemory_New : FnOk Tryz.prog cd 74 Smemory_New := mk_ok (E := Ememory_New) cd_ok fns17_ok Tryz.func74 (by kernel_rfl) (noLoops_body (by kernel_rfl)) (aO_ok (cInt_ok .i64) (aNil_ok)) bNil_ok (T := fun x _ => Tmemory_New x.1) (fun _ _ => rfl) runmemory_New
noncomputable def fns74 := addF 74 true Smemory_New fns17
theorem fns74_ok : ∀ f q t, fns74 f = some (q, t) → FnOk Tryz.prog cd f t := addF_ok okmemory_New fns17_ok
/-- strings.Repeat -/
noncomputable def strings_Repeat (x0 : (List UInt8)) (x1 : Int) : Option (List UInt8) := repF x0 x1
noncomputable def Sstrings_Repeat : List (V U) → List (Blk U) → Option (FnOut U) := mkSpec (aO cStr (aO (cInt .i64) aNil) : Arg U (List UInt8 × Int × Unit)) bNil (fun x _ => strings_Repeat x.1 x.2.1) fun r => ([vO cStr r], [])
end Go.Proofs.YtiafliookmnjoaaGreatDoor
namespace Go.Proofs
open Go.Shelf
shelf_lay Lays.n105 Nm 105 at Tryz as Tryz.lays122
theorem Tryz.extra122 : Builder.Extra Tryz.prog Tryz.lays122_ren where
  sizeBuilder := by kernel_rfl
  liesBuilder := by kernel_rfl
  t5 := Tryz.underlying5
  a5 := Tryz.isAgg5
  z5 := Tryz.sizeOf5
  v5 := Tryz.zeroValue5
  infoByte := by kernel_rfl
  cellsByte := by kernel_rfl
  sizeByte := by kernel_rfl
  neB5 := by decide
end Go.Proofs
namespace Go.Proofs.YtiafliookmnjoaaGreatDoor
open Go Go.Ab
theorem okstrings_Repeat : FnOk Tryz.prog cd 122 Sstrings_Repeat := rep_ok Tryz.lays122 Tryz.extra122 Tryz.func122 (by kernel_rfl) (by kernel_rfl) rfl
noncomputable def fns122 := addF 122 true Sstrings_Repeat fns74
theorem fns122_ok : ∀ f q t, fns122 f = some (q, t) → FnOk Tryz.prog cd f t := addF_ok okstrings_Repeat fns74_ok
/-- math/bits.Mul32 -/
noncomputable def Tmath_bits_Mul32 (x0 : Int) (x1 : Int) : Tree (Int × Int) :=
  .ite (decide (0 ≤ (32 : Int)))
    (.leaf ((IntKind.wrap .u32 (((IntKind.wrap .u64 ((IntKind.wrap .u64 x0) * (IntKind.wrap .u64 x1)))).fdiv (2 ^ (min ((32 : Int)).toNat 64))), IntKind.wrap .u32 (IntKind.wrap .u64 ((IntKind.wrap .u64 x0) * (IntKind.wrap .u64 x1))))))
    .fail
noncomputable def math_bits_Mul32 (x0 : Int) (x1 : Int) : Option (Int × Int) := (Tmath_bits_Mul32 x0 x1).run
noncomputable def Amath_bits_Mul32 : Arg U (Int × Int × Unit) := aO (cInt .u32) (aO (cInt .u32) (aNil))
noncomputable def Rmath_bits_Mul32 (r : (Int × Int)) : List (V U) × List (Blk U) := ([vO (cInt .u32) r.1, vO (cInt .u32) r.2], [])
noncomputable def Smath_bits_Mul32 : List (V U) → List (Blk U) → Option (FnOut U) := mkSpec Amath_bits_Mul32 bNil (fun x _ => math_bits_Mul32 x.1 x.2.1) Rmath_bits_Mul32
noncomputable def Emath_bits_Mul32 : Env U := { P := Tryz.prog, cd := cd, fns := fns122, lps := noL, frz := fun _r => false, nt := 17, n0 := 0 }
theorem runmath_bits_Mul32 (x : Int × Int × Unit) (g : Unit) : execF Emath_bits_Mul32 Tryz.f149 (Amath_bits_Mul32.enc x) (bNil.enc g) = (Tmath_bits_Mul32 x.1 x.2.1).map Rmath_bits_Mul32 := by kernel_rfl
theorem okmath_bits_Mul32 : FnOk Tryz.prog cd 149 Smath_bits_Mul32 := mk_ok (E := Emath_bits_Mul32) cd_ok fns122_ok Tryz.func149 (by kernel_rfl) (noLoops_body (by kernel_rfl)) (aO_ok (cInt_ok .u32) (aO_ok (cInt_ok .u32) (aNil_ok))) bNil_ok (T := fun x _ => Tmath_bits_Mul32 x.1 x.2.1) (fun _ _ => rfl) runmath_bits_Mul32
noncomputable def fns149 := addF 149 true Smath_bits_Mul32 fns122
theorem fns149_ok : ∀ f q t, fns149 f = some (q, t) → FnOk Tryz.prog cd f t := addF_ok okmath_bits_Mul32 fns122_ok
/-- math/bits.Mul64 -/
noncomputable def Tmath_bits_Mul64 (x0 : Int) (x1 : Int) : Tree (Int × Int) :=
  .ite (decide (0 ≤ (32 : Int)))
    (.ite (decide (0 ≤ (32 : Int)))
      (.ite (decide (0 ≤ (32 : Int)))
        (.ite (decide (0 ≤ (32 : Int)))
          (.ite (decide (0 ≤ (32 : Int)))
            (.leaf ((IntKind.wrap .u64 ((IntKind.wrap .u64 ((IntKind.wrap .u64 (((x0).fdiv (2 ^ (min ((32 : Int)).toNat 64))) * ((x1).fdiv (2 ^ (min ((32 : Int)).toNat 64))))) + (((IntKind.wrap .u64 ((IntKind.wrap .u64 (((x0).fdiv (2 ^ (min ((32 : Int)).toNat 64))) * (IntKind.wrap .u64 (((BitVec.ofInt 64 x1 &&& BitVec.ofInt 64 (4294967295 : Int)).toNat : Int))))) + (((IntKind.wrap .u64 ((IntKind.wrap .u64 (((BitVec.ofInt 64 x0 &&& BitVec.ofInt 64 (4294967295 : Int)).toNat : Int))) * (IntKind.wrap .u64 (((BitVec.ofInt 64 x1 &&& BitVec.ofInt 64 (4294967295 : Int)).toNat : Int)))))).fdiv (2 ^ (min ((32 : Int)).toNat 64)))))).fdiv (2 ^ (min ((32 : Int)).toNat 64))))) + (((IntKind.wrap .u64 ((IntKind.wrap .u64 (((BitVec.ofInt 64 (IntKind.wrap .u64 ((IntKind.wrap .u64 (((x0).fdiv (2 ^ (min ((32 : Int)).toNat 64))) * (IntKind.wrap .u64 (((BitVec.ofInt 64 x1 &&& BitVec.ofInt 64 (4294967295 : Int)).toNat : Int))))) + (((IntKind.wrap .u64 ((IntKind.wrap .u64 (((BitVec.ofInt 64 x0 &&& BitVec.ofInt 64 (4294967295 : Int)).toNat : Int))) * (IntKind.wrap .u64 (((BitVec.ofInt 64 x1 &&& BitVec.ofInt 64 (4294967295 : Int)).toNat : Int)))))).fdiv (2 ^ (min ((32 : Int)).toNat 64))))) &&& BitVec.ofInt 64 (4294967295 : Int)).toNat : Int))) + (IntKind.wrap .u64 ((IntKind.wrap .u64 (((BitVec.ofInt 64 x0 &&& BitVec.ofInt 64 (4294967295 : Int)).toNat : Int))) * ((x1).fdiv (2 ^ (min ((32 : Int)).toNat 64)))))))).fdiv (2 ^ (min ((32 : Int)).toNat 64)))), IntKind.wrap .u64 (x0 * x1))))
            .fail)
          .fail)
        .fail)
      .fail)
    .fail
noncomputable def math_bits_Mul64 (x0 : Int) (x1 : Int) : Option (Int × Int) := (Tmath_bits_Mul64 x0 x1).run
noncomputable def Amath_bits_Mul64 : Arg U (Int × Int × Unit) := aO (cInt .u64) (aO (cInt .u64) (aNil))
noncomputable def Rmath_bits_Mul64 (r : (Int × Int)) : List (V U) × List (Blk U) := ([vO (cInt .u64) r.1, vO (cInt .u64) r.2], [])
noncomputable def Smath_bits_Mul64 : List (V U) → List (Blk U) → Option (FnOut U) := mkSpec Amath_bits_Mul64 bNil (fun x _ => math_bits_Mul64 x.1 x.2.1) Rmath_bits_Mul64
noncomputable def Emath_bits_Mul64 : Env U := { P := Tryz.prog, cd := cd, fns := fns149, lps := noL, frz := fun _r => false, nt := 51, n0 := 0 }
theorem runmath_bits_Mul64 (x : Int × Int × Unit) (g : Unit) : execF Emath_bits_Mul64 Tryz.f150 (Amath_bits_Mul64.enc x) (bNil.enc g) = (Tmath_bits_Mul64 x.1 x.2.1).map Rmath_bits_Mul64 := by kernel_rfl
theorem okmath_bits_Mul64 : FnOk Tryz.prog cd 150 Smath_bits_Mul64 := mk_ok (E := Emath_bits_Mul64) cd_ok fns149_ok Tryz.func150 (by kernel_rfl) (noLoops_body (by kernel_rfl)) (aO_ok (cInt_ok .u64) (aO_ok (cInt_ok .u64) (aNil_ok))) bNil_ok (T := fun x _ => Tmath_bits_Mul64 x.1 x.2.1) (fun _ _ => rfl) runmath_bits_Mul64
noncomputable def fns150 := addF 150 true Smath_bits_Mul64 fns149
theorem fns150_ok : ∀ f q t, fns150 f = some (q, t) → FnOk Tryz.prog cd f t := addF_ok okmath_bits_Mul64 fns149_ok
/-- math/bits.Mul -/
noncomputable def Tmath_bits_Mul (x0 : Int) (x1 : Int) : Tree (Int × Int) :=
  .opt (Int × Int) (math_bits_Mul64 x0 x1) fun r413 =>
    .leaf ((r413.1, r413.2))
noncomputable def math_bits_Mul (x0 : Int) (x1 : Int) : Option (Int × Int) := (Tmath_bits_Mul x0 x1).run
noncomputable def Amath_bits_Mul : Arg U (Int × Int × Unit) := aO (cInt .u64) (aO (cInt .u64) (aNil))
noncomputable def Rmath_bits_Mul (r : (Int × Int)) : List (V U) × List (Blk U) := ([vO (cInt .u64) r.1, vO (cInt .u64) r.2], [])
noncomputable def Smath_bits_Mul : List (V U) → List (Blk U) → Option (FnOut U) := mkSpec Amath_bits_Mul bNil (fun x _ => math_bits_Mul x.1 x.2.1) Rmath_bits_Mul
noncomputable def Emath_bits_Mul : Env U := { P := Tryz.prog, cd := cd, fns := fns150, lps := noL, frz := fun _r => false, nt := 30, n0 := 0 }
theorem runmath_bits_Mul (x : Int × Int × Unit) (g : Unit) : execF Emath_bits_Mul Tryz.f142 (Amath_bits_Mul.enc x) (bNil.enc g) = (Tmath_bits_Mul x.1 x.2.1).map Rmath_bits_Mul := by kernel_rfl
theorem okmath_bits_Mul : FnOk Tryz.prog cd 142 Smath_bits_Mul := mk_ok (E := Emath_bits_Mul) cd_ok fns150_ok Tryz.func142 (by kernel_rfl) (noLoops_body (by kernel_rfl)) (aO_ok (cInt_ok .u64) (aO_ok (cInt_ok .u64) (aNil_ok))) bNil_ok (T := fun x _ => Tmath_bits_Mul x.1 x.2.1) (fun _ _ => rfl) runmath_bits_Mul
noncomputable def fns142 := addF 142 true Smath_bits_Mul fns150
theorem fns142_ok : ∀ f q t, fns142 f = some (q, t) → FnOk Tryz.prog cd f t := addF_ok okmath_bits_Mul fns150_ok
/-- slices.Repeat[[]string,string] -/
structure Sslices_Repeat_string_string_0 where
  t8 : Int
  b0 : (List (List UInt8))
noncomputable def Wslices_Repeat_string_string_0 (s : Sslices_Repeat_string_string_0) : Tree (Sslices_Repeat_string_string_0 ⊕ (List (List UInt8))) :=
  .ite (decide (s.t8 < (s.b0.length : Int)))
    (.ite (decide (0 ≤ s.t8))
      (.ite (decide (s.t8 ≤ ((s.b0.length : Nat) : Int)))
        (.ite (decide (0 ≤ s.t8))
          (.ite (decide (s.t8 ≤ ((s.b0.length : Nat) : Int)))
            .fail
            .fail)
          .fail)
        .fail)
      .fail)
    (.leaf (.inr s.b0))
noncomputable def Lslices_Repeat_string_string_0 (q : Option Nat) (s : Sslices_Repeat_string_string_0) : Option (List (List UInt8)) := limQ q (fun s => (Wslices_Repeat_string_string_0 s).run) s
theorem leLslices_Repeat_string_string_0 (k : Nat) (s : Sslices_Repeat_string_string_0) : Le (Lslices_Repeat_string_string_0 (some k) s) (Lslices_Repeat_string_string_0 none s) := limQ_le (fun _ => Le.rfl) s
noncomputable def Tslices_Repeat_string_string (q : Option Nat) (x0 : (List (List UInt8))) (x1 : Int) : Tree (List (List UInt8)) :=
  .ite (decide (x1 < (0 : Int)))
    .fail
    (.opt (Int × Int) (math_bits_Mul (IntKind.wrap .u64 (x0.length : Int)) (IntKind.wrap .u64 x1)) fun r414 =>
      .ite (decide ((0 : Int) < r414.1))
        .fail
        (.ite (decide ((9223372036854775807 : Int) < r414.2))
          .fail
          (.ite (decide (IntKind.wrap .i64 r414.2 = IntKind.wrap .i64 r414.2))
            (.ite (decide (0 ≤ IntKind.wrap .i64 r414.2))
              (.ite (decide ((16 : Int) * (IntKind.wrap .i64 r414.2) ≤ 281474976710656))
                (.opt (List (List UInt8)) (Lslices_Repeat_string_string_0 q (Sslices_Repeat_string_string_0.mk ((Nat.min x0.length (List.replicate (IntKind.wrap .i64 r414.2).toNat ([] : List UInt8)).length : Nat) : Int) (x0.take (List.replicate (IntKind.wrap .i64 r414.2).toNat ([] : List UInt8)).length ++ (List.replicate (IntKind.wrap .i64 r414.2).toNat ([] : List UInt8)).drop x0.length))) fun l415 =>
                  .leaf (l415))
                .fail)
              .fail)
            .fail)))
noncomputable def slices_Repeat_string_string (q : Option Nat) (x0 : (List (List UInt8))) (x1 : Int) : Option (List (List UInt8)) := (Tslices_Repeat_string_string q x0 x1).run
theorem leslices_Repeat_string_string (k : Nat) (x0 : (List (List UInt8))) (x1 : Int) : Le (slices_Repeat_string_string (some k) x0 x1) (slices_Repeat_string_string none x0 x1) := (TLe.ite TLe.rfl (TLe.opt Le.rfl fun _ => (TLe.ite TLe.rfl (TLe.ite TLe.rfl (TLe.ite (TLe.ite (TLe.ite (TLe.opt (leLslices_Repeat_string_string_0 k _) fun _ => TLe.rfl) TLe.rfl) TLe.rfl) TLe.rfl)))))
noncomputable def Aslices_Repeat_string_string : Arg U ((List (List UInt8)) × Int × Unit) := aO (cSl 9) (aO (cInt .i64) (aNil))
noncomputable def Rslices_Repeat_string_string (r : (List (List UInt8))) : List (V U) × List (Blk U) := ([vO (cSl 9) r], [])
noncomputable def Sslices_Repeat_string_string : List (V U) → List (Blk U) → Option (FnOut U) := mkSpec Aslices_Repeat_string_string bNil (fun x _ => slices_Repeat_string_string none x.1 x.2.1) Rslices_Repeat_string_string
noncomputable def Pslices_Repeat_string_string_0 (x : (Unit) × (Int × Unit) × Unit) (g : (List (List UInt8)) × Unit) : Sslices_Repeat_string_string_0 := Sslices_Repeat_string_string_0.mk x.2.1.1 g.1
noncomputable def tAslices_Repeat_string_string_0 : Tms U ((Unit) × (Int × Unit) × Unit) := tO 7 (cK (.row 0 0) (cUnit)) (tO 8 (cPair (cInt .i64) (cUnit)) (tNil))
noncomputable def tBslices_Repeat_string_string_0 : Bls U ((List (List UInt8)) × Unit) := bRv 9 0 (bNil)
noncomputable def eSslices_Repeat_string_string_0 (s : Sslices_Repeat_string_string_0) : St U := { tm := [(7, .v (vO (cK (.row 0 0) (cUnit)) (()))), (8, .v (vO (cPair (cInt .i64) (cUnit)) (s.t8, ())))], hp := [.row 9 0 s.b0] }
noncomputable def xSslices_Repeat_string_string_0 (r : (List (List UInt8))) : Ex × St U := (.exit 0, { tm := [(7, .v (vO (cK (.row 0 0) (cUnit)) (())))], hp := [.row 9 0 r] })
noncomputable def xTslices_Repeat_string_string_0 (r : (List (List UInt8))) : Tree (Ex × St U) := .leaf (xSslices_Repeat_string_string_0 r)
noncomputable def hslices_Repeat_string_string_0 : Hd := { keep := [7, 8], xkeep := [4, 7], own := false }
noncomputable def Eslices_Repeat_string_string : Env U := { P := Tryz.prog, cd := cd, fns := fns142, lps := (addL 0 hslices_Repeat_string_string_0 (mkLoop tAslices_Repeat_string_string_0 tBslices_Repeat_string_string_0 Pslices_Repeat_string_string_0 (Lslices_Repeat_string_string_0 none) xTslices_Repeat_string_string_0) noL), frz := fun _r => false, nt := 48, n0 := 0 }
noncomputable def Bslices_Repeat_string_string_0 : Code := (loopAt (Tryz.f123.body.getD .skip) 0 0).getD .skip
theorem roundslices_Repeat_string_string_0 (s : Sslices_Repeat_string_string_0) : round Eslices_Repeat_string_string hslices_Repeat_string_string_0 Bslices_Repeat_string_string_0 0 (eSslices_Repeat_string_string_0 s) = (Wslices_Repeat_string_string_0 s).map (sumE eSslices_Repeat_string_string_0 xSslices_Repeat_string_string_0) := by kernel_rfl
theorem lpslices_Repeat_string_string_0 : LpOk Eslices_Repeat_string_string Bslices_Repeat_string_string_0 0 := mkLoop_ok (A := tAslices_Repeat_string_string_0) (B := tBslices_Repeat_string_string_0) (f := Pslices_Repeat_string_string_0) (L := Lslices_Repeat_string_string_0 none) (tO_ok (cK_ok cUnit_ok) (tO_ok (cPair_ok (cInt_ok .i64) cUnit_ok) tNil_ok)) (bRv_ok bNil_ok) (enc := eSslices_Repeat_string_string_0) (out := xTslices_Repeat_string_string_0) (outS := xSslices_Repeat_string_string_0) (step := Wslices_Repeat_string_string_0) (fun _ => rfl) (fun _ _ => by kernel_rfl) (by kernel_rfl) (fun _ => rfl) roundslices_Repeat_string_string_0
theorem runslices_Repeat_string_string (x : (List (List UInt8)) × Int × Unit) (g : Unit) : execF Eslices_Repeat_string_string Tryz.f123 (Aslices_Repeat_string_string.enc x) (bNil.enc g) = (Tslices_Repeat_string_string none x.1 x.2.1).map Rslices_Repeat_string_string := by kernel_rfl
theorem okslices_Repeat_string_string : FnOk Tryz.prog cd 123 Sslices_Repeat_string_string := mk_ok (E := Eslices_Repeat_string_string) cd_ok fns142_ok Tryz.func123 (by kernel_rfl) (loops_of (addL_ok lpslices_Repeat_string_string_0 noL_ok)) (aO_ok (cSl_ok 9) (aO_ok (cInt_ok .i64) (aNil_ok))) bNil_ok (T := fun x _ => Tslices_Repeat_string_string none x.1 x.2.1) (fun _ _ => rfl) runslices_Repeat_string_string
noncomputable def fns123 := addF 123 true Sslices_Repeat_string_string fns142
theorem fns123_ok : ∀ f q t, fns123 f = some (q, t) → FnOk Tryz.prog cd f t := addF_ok okslices_Repeat_string_string fns142_ok
/-- emulator/drive.New -/
noncomputable def Tdrive_New (q : Option Nat) (x0 : Int) : Tree (Drive × Int) :=
  .ite (decide (x0 < (1 : Int)))
    (.leaf ((Drive.mk ([]) ([]), (2 : Int))))
    (.ite (decide ((256 : Int) < x0))
      (.leaf ((Drive.mk ([]) ([]), (2 : Int))))
      (.opt (List UInt8) (strings_Repeat ([0] : List UInt8) (128 : Int)) fun r417 =>
        .opt (List (List UInt8)) (slices_Repeat_string_string q ([r417]) x0) fun r418 =>
          .leaf ((Drive.mk r418 ([]), (0 : Int)))))
noncomputable def drive_New (q : Option Nat) (x0 : Int) : Option (Drive × Int) := (Tdrive_New q x0).run
theorem ledrive_New (k : Nat) (x0 : Int) : Le (drive_New (some k) x0) (drive_New none x0) := (TLe.ite TLe.rfl (TLe.ite TLe.rfl (TLe.opt Le.rfl fun _ => (TLe.opt (leslices_Repeat_string_string k _ _) fun _ => TLe.rfl))))
noncomputable def Adrive_New : Arg U (Int × Unit) := aO (cInt .i64) (aNil)
noncomputable def Rdrive_New (r : (Drive × Int)) : List (V U) × List (Blk U) := ([vA cDrive r.1, vO (cInt .i64) r.2], [])
noncomputable def Sdrive_New : List (V U) → List (Blk U) → Option (FnOut U) := mkSpec Adrive_New bNil (fun x _ => drive_New none x.1) Rdrive_New
noncomputable def Edrive_New : Env U := { P := Tryz.prog, cd := cd, fns := (addF 123 false (frzSpec Sslices_Repeat_string_string) fns123), lps := noL, frz := fun _r => false, nt := 18, n0 := 0 }
theorem rundrive_New (x : Int × Unit) (g : Unit) : execF Edrive_New Tryz.f75 (Adrive_New.enc x) (bNil.enc g) = (Tdrive_New none x.1).map Rdrive_New := by kernel_rfl
theorem okdrive_New : FnOk Tryz.prog cd 75 Sdrive_New := mk_ok (E := Edrive_New) cd_ok (addF_ok (fnOk_frz cd_ok (mkSpec_out fun _ => rfl) okslices_Repeat_string_string) fns123_ok) Tryz.func75 (by kernel_rfl) (noLoops_body (by kernel_rfl)) (aO_ok (cInt_ok .i64) (aNil_ok)) bNil_ok (T := fun x _ => Tdrive_New none x.1) (fun _ _ => rfl) rundrive_New
noncomputable def fns75 := addF 75 true Sdrive_New fns123
theorem fns75_ok : ∀ f q t, fns75 f = some (q, t) → FnOk Tryz.prog cd f t := addF_ok okdrive_New fns123_ok
end Go.Proofs.YtiafliookmnjoaaGreatDoor
namespace Go.Proofs
shelf_lay_g SlLaysE0.n41 Slgn 41 at Tryz 127 as Tryz.lays127
end Go.Proofs
namespace Go.Proofs.YtiafliookmnjoaaGreatDoor
open Go Go.Ab
theorem okslices_Clone_string_string : FnOk Tryz.prog cd 127 (cloneSpec 9 16) := clone_ok2 cd_ok Tryz.lays127 Tryz.func127 (by kernel_rfl) (by kernel_rfl) rfl rfl (by kernel_rfl)
end Go.Proofs.YtiafliookmnjoaaGreatDoor
namespace Go.Proofs
shelf_lay_g SlLaysE0.n41 Slgn 41 at Tryz 145 as Tryz.lays145
end Go.Proofs
namespace Go.Proofs.YtiafliookmnjoaaGreatDoor
open Go Go.Ab
theorem okslices_Clone_int_int : FnOk Tryz.prog cd 145 (cloneSpec 3 8) := clone_ok2 cd_ok Tryz.lays145 Tryz.func145 (by kernel_rfl) (by kernel_rfl) rfl rfl (by kernel_rfl)
/-- emulator/diskctl.cloned -/
noncomputable def Tdiskctl_cloned (x0 : Drive) : Tree Drive :=
  .opt (List (List UInt8)) (cloneF 16 x0.sectors) fun r422 =>
    .opt (List Int) (cloneF 8 x0.bad) fun r423 =>
      .leaf (Drive.mk r422 r423)
noncomputable def diskctl_cloned (x0 : Drive) : Option Drive := (Tdiskctl_cloned x0).run
noncomputable def Adiskctl_cloned : Arg U (Drive × Unit) := aA cDrive (aNil)
noncomputable def Rdiskctl_cloned (r : Drive) : List (V U) × List (Blk U) := ([vA cDrive r], [])
noncomputable def Sdiskctl_cloned : List (V U) → List (Blk U) → Option (FnOut U) := mkSpec Adiskctl_cloned bNil (fun x _ => diskctl_cloned x.1) Rdiskctl_cloned
noncomputable def Ediskctl_cloned : Env U := { P := Tryz.prog, cd := cd, fns := (addF 145 false (cloneSpec 3 8) (addF 127 false (cloneSpec 9 16) fns75)), lps := noL, frz := fun _r => false, nt := 10, n0 := 0, fps := fun _r _i => bif Nat.beq _r 1 && Nat.beq _i 2 then .wr [] 2 else bif Nat.beq _r 1 && Nat.beq _i 3 then .rd [] else bif Nat.beq _r 1 && Nat.beq _i 4 then .rd [0] else .none }
theorem rundiskctl_cloned (x : Drive × Unit) (g : Unit) : execF Ediskctl_cloned Tryz.f124 (Adiskctl_cloned.enc x) (bNil.enc g) = (Tdiskctl_cloned x.1).map Rdiskctl_cloned := by kernel_rfl
theorem okdiskctl_cloned : FnOk Tryz.prog cd 124 Sdiskctl_cloned := mk_ok (E := Ediskctl_cloned) cd_ok (addF_ok okslices_Clone_int_int (addF_ok okslices_Clone_string_string fns75_ok)) Tryz.func124 (by kernel_rfl) (noLoops_body (by kernel_rfl)) (aA_ok cDrive_ok (aNil_ok)) bNil_ok (T := fun x _ => Tdiskctl_cloned x.1) (fun _ _ => rfl) rundiskctl_cloned
noncomputable def fns124 := addF 124 true Sdiskctl_cloned fns75
theorem fns124_ok : ∀ f q t, fns124 f = some (q, t) → FnOk Tryz.prog cd f t := addF_ok okdiskctl_cloned fns75_ok
/-- emulator/diskctl.New -/
noncomputable def Tdiskctl_New (x0 : Drive) : Tree Disk :=
  .opt Drive (diskctl_cloned x0) fun r424 =>
    .leaf (Disk.mk r424 false true false 0 0 0 0 0)
noncomputable def diskctl_New (x0 : Drive) : Option Disk := (Tdiskctl_New x0).run
noncomputable def Adiskctl_New : Arg U (Drive × Unit) := aA cDrive (aNil)
noncomputable def Rdiskctl_New (r : Disk) : List (V U) × List (Blk U) := ([vA cDisk r], [])
noncomputable def Sdiskctl_New : List (V U) → List (Blk U) → Option (FnOut U) := mkSpec Adiskctl_New bNil (fun x _ => diskctl_New x.1) Rdiskctl_New
noncomputable def Ediskctl_New : Env U := { P := Tryz.prog, cd := cd, fns := fns124, lps := noL, frz := fun _r => false, nt := 6, n0 := 0 }
theorem rundiskctl_New (x : Drive × Unit) (g : Unit) : execF Ediskctl_New Tryz.f76 (Adiskctl_New.enc x) (bNil.enc g) = (Tdiskctl_New x.1).map Rdiskctl_New := by kernel_rfl
theorem okdiskctl_New : FnOk Tryz.prog cd 76 Sdiskctl_New := mk_ok (E := Ediskctl_New) cd_ok fns124_ok Tryz.func76 (by kernel_rfl) (noLoops_body (by kernel_rfl)) (aA_ok cDrive_ok (aNil_ok)) bNil_ok (T := fun x _ => Tdiskctl_New x.1) (fun _ _ => rfl) rundiskctl_New
noncomputable def fns76 := addF 76 true Sdiskctl_New fns124
theorem fns76_ok : ∀ f q t, fns76 f = some (q, t) → FnOk Tryz.prog cd f t := addF_ok okdiskctl_New fns124_ok
/-- emulator/clock.New -/
noncomputable def Tclock_New (x0 : Int) : Tree (Clock × Int) :=
  .ite (decide (x0 < (1 : Int)))
    (.leaf ((Clock.mk false false 0 0, (2 : Int))))
    (.ite (decide ((65535 : Int) < x0))
      (.leaf ((Clock.mk false false 0 0, (2 : Int))))
      (.leaf ((Clock.mk false false x0 x0, (0 : Int)))))
noncomputable def clock_New (x0 : Int) : Option (Clock × Int) := (Tclock_New x0).run
noncomputable def Aclock_New : Arg U (Int × Unit) := aO (cInt .i64) (aNil)
noncomputable def Rclock_New (r : (Clock × Int)) : List (V U) × List (Blk U) := ([vA cClock r.1, vO (cInt .i64) r.2], [])
noncomputable def Sclock_New : List (V U) → List (Blk U) → Option (FnOut U) := mkSpec Aclock_New bNil (fun x _ => clock_New x.1) Rclock_New
noncomputable def Eclock_New : Env U := { P := Tryz.prog, cd := cd, fns := fns76, lps := noL, frz := fun _r => false, nt := 14, n0 := 0 }
theorem runclock_New (x : Int × Unit) (g : Unit) : execF Eclock_New Tryz.f77 (Aclock_New.enc x) (bNil.enc g) = (Tclock_New x.1).map Rclock_New := by kernel_rfl
theorem okclock_New : FnOk Tryz.prog cd 77 Sclock_New := mk_ok (E := Eclock_New) cd_ok fns76_ok Tryz.func77 (by kernel_rfl) (noLoops_body (by kernel_rfl)) (aO_ok (cInt_ok .i64) (aNil_ok)) bNil_ok (T := fun x _ => Tclock_New x.1) (fun _ _ => rfl) runclock_New
noncomputable def fns77 := addF 77 true Sclock_New fns76
theorem fns77_ok : ∀ f q t, fns77 f = some (q, t) → FnOk Tryz.prog cd f t := addF_ok okclock_New fns76_ok
/-- emulator/tape.New -/
noncomputable def Ttape_New (q : Option Nat) (x0 : (List (List UInt8))) : Tree (Tape × Int) :=
  .ite (decide ((64 : Int) < (x0.length : Int)))
    (.leaf ((Tape.mk ([]) 0 false false false false false 0 0 0 0, (12 : Int))))
    (.opt Bool (slices_ContainsFunc_string_string q x0) fun r425 =>
      .ite (r425)
        (.leaf ((Tape.mk ([]) 0 false false false false false 0 0 0 0, (7 : Int))))
        (.opt (List (List UInt8)) (cloneF 16 x0) fun r426 =>
          .leaf ((Tape.mk r426 0 false true false false false 0 0 0 0, (0 : Int)))))
noncomputable def tape_New (q : Option Nat) (x0 : (List (List UInt8))) : Option (Tape × Int) := (Ttape_New q x0).run
theorem letape_New (k : Nat) (x0 : (List (List UInt8))) : Le (tape_New (some k) x0) (tape_New none x0) := (TLe.ite TLe.rfl (TLe.opt (leslices_ContainsFunc_string_string k _) fun _ => TLe.rfl))
noncomputable def Atape_New : Arg U ((List (List UInt8)) × Unit) := aO (cSl 9) (aNil)
noncomputable def Rtape_New (r : (Tape × Int)) : List (V U) × List (Blk U) := ([vA cTape r.1, vO (cInt .i64) r.2], [])
noncomputable def Stape_New : List (V U) → List (Blk U) → Option (FnOut U) := mkSpec Atape_New bNil (fun x _ => tape_New none x.1) Rtape_New
noncomputable def Etape_New : Env U := { P := Tryz.prog, cd := cd, fns := (addF 127 false (cloneSpec 9 16) (addF 125 false (Sslices_ContainsFunc_string_string) fns77)), lps := noL, frz := fun _r => false, nt := 14, n0 := 0 }
theorem runtape_New (x : (List (List UInt8)) × Unit) (g : Unit) : execF Etape_New Tryz.f78 (Atape_New.enc x) (bNil.enc g) = (Ttape_New none x.1).map Rtape_New := by kernel_rfl
theorem oktape_New : FnOk Tryz.prog cd 78 Stape_New := mk_ok (E := Etape_New) cd_ok (addF_ok okslices_Clone_string_string (addF_ok okslices_ContainsFunc_string_string fns77_ok)) Tryz.func78 (by kernel_rfl) (noLoops_body (by kernel_rfl)) (aO_ok (cSl_ok 9) (aNil_ok)) bNil_ok (T := fun x _ => Ttape_New none x.1) (fun _ _ => rfl) runtape_New
noncomputable def fns78 := addF 78 true Stape_New fns77
theorem fns78_ok : ∀ f q t, fns78 f = some (q, t) → FnOk Tryz.prog cd f t := addF_ok oktape_New fns77_ok
/-- emulator/line.New -/
noncomputable def Tline_New  : Tree Line :=
  .leaf (Line.mk false false false 0 false true 0 0 ([]))
noncomputable def line_New  : Option Line := (Tline_New ).run
noncomputable def Aline_New : Arg U (Unit) := aNil
noncomputable def Rline_New (r : Line) : List (V U) × List (Blk U) := ([vA cLine r], [])
noncomputable def Sline_New : List (V U) → List (Blk U) → Option (FnOut U) := mkSpec Aline_New bNil (fun x _ => line_New ) Rline_New
noncomputable def Eline_New : Env U := { P := Tryz.prog, cd := cd, fns := fns78, lps := noL, frz := fun _r => false, nt := 2, n0 := 0 }
theorem runline_New (x : Unit) (g : Unit) : execF Eline_New Tryz.f79 (Aline_New.enc x) (bNil.enc g) = (Tline_New ).map Rline_New := by kernel_rfl
theorem okline_New : FnOk Tryz.prog cd 79 Sline_New := mk_ok (E := Eline_New) cd_ok fns78_ok Tryz.func79 (by kernel_rfl) (noLoops_body (by kernel_rfl)) (aNil_ok) bNil_ok (T := fun x _ => Tline_New ) (fun _ _ => rfl) runline_New
noncomputable def fns79 := addF 79 true Sline_New fns78
theorem fns79_ok : ∀ f q t, fns79 f = some (q, t) → FnOk Tryz.prog cd f t := addF_ok okline_New fns78_ok
/-- emulator/machine.New -/
structure Smachine_New_0 where
  t51 : Int
  t52 : Int
  b0_0 : (List Int)
  b0_1 : (List Int)
  b0_2 : Int
  b0_3 : Int
  b0_6 : Bool
  b0_7 : (List Page)
  b0_8 : Int
  b0_9 : Int
  b0_10 : Bool
  b0_11 : Bool
  b0_12 : Int
  b0_13 : Int
  b0_17 : Bool
  b0_18 : Bool
  b0_19 : Bool
  b0_20 : Int
  b0_21 : Int
  b0_22 : Int
  b0_23 : Int
  b0_24 : Int
  b0_26 : Int
  b0_27 : Bool
  b0_28 : Bool
  b0_29 : Bool
  b0_30 : Bool
  b0_31 : Bool
  b0_32 : Int
  b0_33 : Int
  b0_34 : Int
  b0_35 : Int
  b0_36 : Int
  b0_37 : Bool
  b0_38 : Bool
  b0_39 : Int
  b0_40 : Bool
  b1_0 : (List Int)
  b1_1 : (List Int)
  b1_2 : Int
  b1_3 : Int
  b1_4 : (List Int)
  b1_6 : Bool
  b1_7 : (List Page)
  b1_8 : Int
  b1_9 : Int
  b1_10 : Bool
  b1_11 : Bool
  b1_12 : Int
  b1_13 : Int
  b1_15 : (List (List UInt8))
  b1_16 : (List Int)
  b1_17 : Bool
  b1_18 : Bool
  b1_19 : Bool
  b1_20 : Int
  b1_21 : Int
  b1_22 : Int
  b1_23 : Int
  b1_24 : Int
  b1_25 : (List (List UInt8))
  b1_26 : Int
  b1_27 : Bool
  b1_28 : Bool
  b1_29 : Bool
  b1_30 : Bool
  b1_31 : Bool
  b1_32 : Int
  b1_33 : Int
  b1_34 : Int
  b1_35 : Int
  b1_36 : Int
  b1_37 : Bool
  b1_38 : Bool
  b1_39 : Int
  b1_40 : Bool
  b2 : (List Int)
  b3 : (List Int)
  b4 : (List Line)
  b5 : (List (List UInt8))
  b6 : (List Int)
  b7 : (List (List UInt8))
  b8 : (List Int)
  b9 : (List Line)
noncomputable def Wmachine_New_0 (s : Smachine_New_0) : Tree (Smachine_New_0 ⊕ ((List Int) × (List Int) × Int × Int × Bool × (List Page) × Int × Int × Bool × Bool × Int × Int × Bool × Bool × Bool × Int × Int × Int × Int × Int × Int × Bool × Bool × Bool × Bool × Bool × Int × Int × Int × Int × Int × Bool × Bool × Int × Bool × (List Int) × (List Int) × Int × Int × (List Int) × Bool × (List Page) × Int × Int × Bool × Bool × Int × Int × (List (List UInt8)) × (List Int) × Bool × Bool × Bool × Int × Int × Int × Int × Int × (List (List UInt8)) × Int × Bool × Bool × Bool × Bool × Bool × Int × Int × Int × Int × Int × Bool × Bool × Int × Bool × (List Int) × (List Int) × (List Line) × (List (List UInt8)) × (List Int) × (List (List UInt8)) × (List Int) × (List Line))) :=
  .ite (decide (s.t52 < s.t51))
    (.opt Line (line_New) fun r432 =>
      .ite (decide ((s.b9.length + ([r432]).length) * 56 ≤ 140737488355328))
        (.leaf (.inl (Smachine_New_0.mk s.t51 (IntKind.wrap .i64 (s.t52 + (1 : Int))) s.b0_0 s.b0_1 s.b0_2 s.b0_3 s.b0_6 s.b0_7 s.b0_8 s.b0_9 s.b0_10 s.b0_11 s.b0_12 s.b0_13 s.b0_17 s.b0_18 s.b0_19 s.b0_20 s.b0_21 s.b0_22 s.b0_23 s.b0_24 s.b0_26 s.b0_27 s.b0_28 s.b0_29 s.b0_30 s.b0_31 s.b0_32 s.b0_33 s.b0_34 s.b0_35 s.b0_36 s.b0_37 s.b0_38 s.b0_39 s.b0_40 s.b1_0 s.b1_1 s.b1_2 s.b1_3 s.b1_4 s.b1_6 s.b1_7 s.b1_8 s.b1_9 s.b1_10 s.b1_11 s.b1_12 s.b1_13 s.b1_15 s.b1_16 s.b1_17 s.b1_18 s.b1_19 s.b1_20 s.b1_21 s.b1_22 s.b1_23 s.b1_24 s.b1_25 s.b1_26 s.b1_27 s.b1_28 s.b1_29 s.b1_30 s.b1_31 s.b1_32 s.b1_33 s.b1_34 s.b1_35 s.b1_36 s.b1_37 s.b1_38 s.b1_39 s.b1_40 s.b2 s.b3 s.b4 s.b5 s.b6 s.b7 s.b8 (s.b9 ++ ([r432])))))
        .fail)
    (.leaf (.inr (s.b0_0, s.b0_1, s.b0_2, s.b0_3, s.b0_6, s.b0_7, s.b0_8, s.b0_9, s.b0_10, s.b0_11, s.b0_12, s.b0_13, s.b0_17, s.b0_18, s.b0_19, s.b0_20, s.b0_21, s.b0_22, s.b0_23, s.b0_24, s.b0_26, s.b0_27, s.b0_28, s.b0_29, s.b0_30, s.b0_31, s.b0_32, s.b0_33, s.b0_34, s.b0_35, s.b0_36, s.b0_37, s.b0_38, s.b0_39, s.b0_40, s.b1_0, s.b1_1, s.b1_2, s.b1_3, s.b1_4, s.b1_6, s.b1_7, s.b1_8, s.b1_9, s.b1_10, s.b1_11, s.b1_12, s.b1_13, s.b1_15, s.b1_16, s.b1_17, s.b1_18, s.b1_19, s.b1_20, s.b1_21, s.b1_22, s.b1_23, s.b1_24, s.b1_25, s.b1_26, s.b1_27, s.b1_28, s.b1_29, s.b1_30, s.b1_31, s.b1_32, s.b1_33, s.b1_34, s.b1_35, s.b1_36, s.b1_37, s.b1_38, s.b1_39, s.b1_40, s.b2, s.b3, s.b4, s.b5, s.b6, s.b7, s.b8, s.b9)))
noncomputable def Lmachine_New_0 (q : Option Nat) (s : Smachine_New_0) : Option ((List Int) × (List Int) × Int × Int × Bool × (List Page) × Int × Int × Bool × Bool × Int × Int × Bool × Bool × Bool × Int × Int × Int × Int × Int × Int × Bool × Bool × Bool × Bool × Bool × Int × Int × Int × Int × Int × Bool × Bool × Int × Bool × (List Int) × (List Int) × Int × Int × (List Int) × Bool × (List Page) × Int × Int × Bool × Bool × Int × Int × (List (List UInt8)) × (List Int) × Bool × Bool × Bool × Int × Int × Int × Int × Int × (List (List UInt8)) × Int × Bool × Bool × Bool × Bool × Bool × Int × Int × Int × Int × Int × Bool × Bool × Int × Bool × (List Int) × (List Int) × (List Line) × (List (List UInt8)) × (List Int) × (List (List UInt8)) × (List Int) × (List Line)) := limQ q (fun s => (Wmachine_New_0 s).run) s
theorem leLmachine_New_0 (k : Nat) (s : Smachine_New_0) : Le (Lmachine_New_0 (some k) s) (Lmachine_New_0 none s) := limQ_le (fun _ => Le.rfl) s
noncomputable def Tmachine_New (q : Option Nat) (x0 : Int) (x1 : Int) (x2 : Int) : Tree (Machine × Int) :=
  .opt ((List Int) × Int) (memory_New x0) fun r427 =>
    .ite (!decide (r427.2 = (0 : Int)))
      (.leaf ((Machine.mk (Cpu.mk (List.replicate 6 (0 : Int)) (List.replicate 2 (0 : Int)) 0 0) ([]) ([]) (Mmu.mk false (List.replicate 16 (Page.mk (0 : Int) (0 : Int) (0 : Int) false)) 0 0) (Clock.mk false false 0 0) ([]) (Disk.mk (Drive.mk ([]) ([])) false false false 0 0 0 0 0) (Tape.mk ([]) 0 false false false false false 0 0 0 0) 0 false false 0 false, r427.2)))
      (.ite (decide (x1 < (0 : Int)))
        (.leaf ((Machine.mk (Cpu.mk (List.replicate 6 (0 : Int)) (List.replicate 2 (0 : Int)) 0 0) ([]) ([]) (Mmu.mk false (List.replicate 16 (Page.mk (0 : Int) (0 : Int) (0 : Int) false)) 0 0) (Clock.mk false false 0 0) ([]) (Disk.mk (Drive.mk ([]) ([])) false false false 0 0 0 0 0) (Tape.mk ([]) 0 false false false false false 0 0 0 0) 0 false false 0 false, (2 : Int))))
        (.ite (decide ((4 : Int) < x1))
          (.leaf ((Machine.mk (Cpu.mk (List.replicate 6 (0 : Int)) (List.replicate 2 (0 : Int)) 0 0) ([]) ([]) (Mmu.mk false (List.replicate 16 (Page.mk (0 : Int) (0 : Int) (0 : Int) false)) 0 0) (Clock.mk false false 0 0) ([]) (Disk.mk (Drive.mk ([]) ([])) false false false 0 0 0 0 0) (Tape.mk ([]) 0 false false false false false 0 0 0 0) 0 false false 0 false, (2 : Int))))
          (.opt (Drive × Int) (drive_New q x2) fun r428 =>
            .ite (!decide (r428.2 = (0 : Int)))
              (.leaf ((Machine.mk (Cpu.mk (List.replicate 6 (0 : Int)) (List.replicate 2 (0 : Int)) 0 0) ([]) ([]) (Mmu.mk false (List.replicate 16 (Page.mk (0 : Int) (0 : Int) (0 : Int) false)) 0 0) (Clock.mk false false 0 0) ([]) (Disk.mk (Drive.mk ([]) ([])) false false false 0 0 0 0 0) (Tape.mk ([]) 0 false false false false false 0 0 0 0) 0 false false 0 false, r428.2)))
              (.opt Disk (diskctl_New r428.1) fun r429 =>
                .opt (Clock × Int) (clock_New (100 : Int)) fun r430 =>
                  .opt (Tape × Int) (tape_New q ([])) fun r431 =>
                    .opt ((List Int) × (List Int) × Int × Int × Bool × (List Page) × Int × Int × Bool × Bool × Int × Int × Bool × Bool × Bool × Int × Int × Int × Int × Int × Int × Bool × Bool × Bool × Bool × Bool × Int × Int × Int × Int × Int × Bool × Bool × Int × Bool × (List Int) × (List Int) × Int × Int × (List Int) × Bool × (List Page) × Int × Int × Bool × Bool × Int × Int × (List (List UInt8)) × (List Int) × Bool × Bool × Bool × Int × Int × Int × Int × Int × (List (List UInt8)) × Int × Bool × Bool × Bool × Bool × Bool × Int × Int × Int × Int × Int × Bool × Bool × Int × Bool × (List Int) × (List Int) × (List Line) × (List (List UInt8)) × (List Int) × (List (List UInt8)) × (List Int) × (List Line)) (Lmachine_New_0 q (Smachine_New_0.mk x1 (0 : Int) (List.replicate 6 (0 : Int)) (List.replicate 2 (0 : Int)) 0 0 false (List.replicate 16 (Page.mk (0 : Int) (0 : Int) (0 : Int) false)) 0 0 false false 0 0 false false false 0 0 0 0 0 0 false false false false false 0 0 0 0 0 false false 0 false (List.replicate 6 (0 : Int)) (List.replicate 2 (0 : Int)) 0 0 r427.1 false (List.replicate 16 (Page.mk (0 : Int) (0 : Int) (0 : Int) false)) 0 0 r430.1.enable r430.1.ready r430.1.period r430.1.left r429.drive.sectors r429.drive.bad r429.enable r429.ready r429.error r429.command r429.words r429.addr r429.start r429.left r431.1.records r431.1.pos r431.1.enable r431.1.ready r431.1.error r431.1.mark r431.1.end_ r431.1.command r431.1.count r431.1.addr r431.1.left 0 false false 0 false ([]) ([]) ([]) ([]) ([]) ([]) ([]) ([]))) fun l433 =>
                      .leaf ((Machine.mk (Cpu.mk l433.2.2.2.2.2.2.2.2.2.2.2.2.2.2.2.2.2.2.2.2.2.2.2.2.2.2.2.2.2.2.2.2.2.2.2.1 l433.2.2.2.2.2.2.2.2.2.2.2.2.2.2.2.2.2.2.2.2.2.2.2.2.2.2.2.2.2.2.2.2.2.2.2.2.1 l433.2.2.2.2.2.2.2.2.2.2.2.2.2.2.2.2.2.2.2.2.2.2.2.2.2.2.2.2.2.2.2.2.2.2.2.2.2.1 l433.2.2.2.2.2.2.2.2.2.2.2.2.2.2.2.2.2.2.2.2.2.2.2.2.2.2.2.2.2.2.2.2.2.2.2.2.2.2.1) l433.2.2.2.2.2.2.2.2.2.2.2.2.2.2.2.2.2.2.2.2.2.2.2.2.2.2.2.2.2.2.2.2.2.2.2.2.2.2.2.1 l433.2.2.2.2.2.2.2.2.2.2.2.2.2.2.2.2.2.2.2.2.2.2.2.2.2.2.2.2.2.2.2.2.2.2.2.2.2.2.2.2.2.2.2.2.2.2.2.2.2.2.2.2.2.2.2.2.2.2.2.2.2.2.2.2.2.2.2.2.2.2.2.2.2.2.2.2.2.2.2.2.1 (Mmu.mk l433.2.2.2.2.2.2.2.2.2.2.2.2.2.2.2.2.2.2.2.2.2.2.2.2.2.2.2.2.2.2.2.2.2.2.2.2.2.2.2.2.1 l433.2.2.2.2.2.2.2.2.2.2.2.2.2.2.2.2.2.2.2.2.2.2.2.2.2.2.2.2.2.2.2.2.2.2.2.2.2.2.2.2.2.1 l433.2.2.2.2.2.2.2.2.2.2.2.2.2.2.2.2.2.2.2.2.2.2.2.2.2.2.2.2.2.2.2.2.2.2.2.2.2.2.2.2.2.2.1 l433.2.2.2.2.2.2.2.2.2.2.2.2.2.2.2.2.2.2.2.2.2.2.2.2.2.2.2.2.2.2.2.2.2.2.2.2.2.2.2.2.2.2.2.1) (Clock.mk l433.2.2.2.2.2.2.2.2.2.2.2.2.2.2.2.2.2.2.2.2.2.2.2.2.2.2.2.2.2.2.2.2.2.2.2.2.2.2.2.2.2.2.2.2.1 l433.2.2.2.2.2.2.2.2.2.2.2.2.2.2.2.2.2.2.2.2.2.2.2.2.2.2.2.2.2.2.2.2.2.2.2.2.2.2.2.2.2.2.2.2.2.1 l433.2.2.2.2.2.2.2.2.2.2.2.2.2.2.2.2.2.2.2.2.2.2.2.2.2.2.2.2.2.2.2.2.2.2.2.2.2.2.2.2.2.2.2.2.2.2.1 l433.2.2.2.2.2.2.2.2.2.2.2.2.2.2.2.2.2.2.2.2.2.2.2.2.2.2.2.2.2.2.2.2.2.2.2.2.2.2.2.2.2.2.2.2.2.2.2.1) l433.2.2.2.2.2.2.2.2.2.2.2.2.2.2.2.2.2.2.2.2.2.2.2.2.2.2.2.2.2.2.2.2.2.2.2.2.2.2.2.2.2.2.2.2.2.2.2.2.2.2.2.2.2.2.2.2.2.2.2.2.2.2.2.2.2.2.2.2.2.2.2.2.2.2.2.2.2.2.2.2.2 (Disk.mk (Drive.mk l433.2.2.2.2.2.2.2.2.2.2.2.2.2.2.2.2.2.2.2.2.2.2.2.2.2.2.2.2.2.2.2.2.2.2.2.2.2.2.2.2.2.2.2.2.2.2.2.2.1 l433.2.2.2.2.2.2.2.2.2.2.2.2.2.2.2.2.2.2.2.2.2.2.2.2.2.2.2.2.2.2.2.2.2.2.2.2.2.2.2.2.2.2.2.2.2.2.2.2.2.1) l433.2.2.2.2.2.2.2.2.2.2.2.2.2.2.2.2.2.2.2.2.2.2.2.2.2.2.2.2.2.2.2.2.2.2.2.2.2.2.2.2.2.2.2.2.2.2.2.2.2.2.1 l433.2.2.2.2.2.2.2.2.2.2.2.2.2.2.2.2.2.2.2.2.2.2.2.2.2.2.2.2.2.2.2.2.2.2.2.2.2.2.2.2.2.2.2.2.2.2.2.2.2.2.2.1 l433.2.2.2.2.2.2.2.2.2.2.2.2.2.2.2.2.2.2.2.2.2.2.2.2.2.2.2.2.2.2.2.2.2.2.2.2.2.2.2.2.2.2.2.2.2.2.2.2.2.2.2.2.1 l433.2.2.2.2.2.2.2.2.2.2.2.2.2.2.2.2.2.2.2.2.2.2.2.2.2.2.2.2.2.2.2.2.2.2.2.2.2.2.2.2.2.2.2.2.2.2.2.2.2.2.2.2.2.1 l433.2.2.2.2.2.2.2.2.2.2.2.2.2.2.2.2.2.2.2.2.2.2.2.2.2.2.2.2.2.2.2.2.2.2.2.2.2.2.2.2.2.2.2.2.2.2.2.2.2.2.2.2.2.2.1 l433.2.2.2.2.2.2.2.2.2.2.2.2.2.2.2.2.2.2.2.2.2.2.2.2.2.2.2.2.2.2.2.2.2.2.2.2.2.2.2.2.2.2.2.2.2.2.2.2.2.2.2.2.2.2.2.1 l433.2.2.2.2.2.2.2.2.2.2.2.2.2.2.2.2.2.2.2.2.2.2.2.2.2.2.2.2.2.2.2.2.2.2.2.2.2.2.2.2.2.2.2.2.2.2.2.2.2.2.2.2.2.2.2.2.1 l433.2.2.2.2.2.2.2.2.2.2.2.2.2.2.2.2.2.2.2.2.2.2.2.2.2.2.2.2.2.2.2.2.2.2.2.2.2.2.2.2.2.2.2.2.2.2.2.2.2.2.2.2.2.2.2.2.2.1) (Tape.mk l433.2.2.2.2.2.2.2.2.2.2.2.2.2.2.2.2.2.2.2.2.2.2.2.2.2.2.2.2.2.2.2.2.2.2.2.2.2.2.2.2.2.2.2.2.2.2.2.2.2.2.2.2.2.2.2.2.2.2.1 l433.2.2.2.2.2.2.2.2.2.2.2.2.2.2.2.2.2.2.2.2.2.2.2.2.2.2.2.2.2.2.2.2.2.2.2.2.2.2.2.2.2.2.2.2.2.2.2.2.2.2.2.2.2.2.2.2.2.2.2.1 l433.2.2.2.2.2.2.2.2.2.2.2.2.2.2.2.2.2.2.2.2.2.2.2.2.2.2.2.2.2.2.2.2.2.2.2.2.2.2.2.2.2.2.2.2.2.2.2.2.2.2.2.2.2.2.2.2.2.2.2.2.1 l433.2.2.2.2.2.2.2.2.2.2.2.2.2.2.2.2.2.2.2.2.2.2.2.2.2.2.2.2.2.2.2.2.2.2.2.2.2.2.2.2.2.2.2.2.2.2.2.2.2.2.2.2.2.2.2.2.2.2.2.2.2.1 l433.2.2.2.2.2.2.2.2.2.2.2.2.2.2.2.2.2.2.2.2.2.2.2.2.2.2.2.2.2.2.2.2.2.2.2.2.2.2.2.2.2.2.2.2.2.2.2.2.2.2.2.2.2.2.2.2.2.2.2.2.2.2.1 l433.2.2.2.2.2.2.2.2.2.2.2.2.2.2.2.2.2.2.2.2.2.2.2.2.2.2.2.2.2.2.2.2.2.2.2.2.2.2.2.2.2.2.2.2.2.2.2.2.2.2.2.2.2.2.2.2.2.2.2.2.2.2.2.1 l433.2.2.2.2.2.2.2.2.2.2.2.2.2.2.2.2.2.2.2.2.2.2.2.2.2.2.2.2.2.2.2.2.2.2.2.2.2.2.2.2.2.2.2.2.2.2.2.2.2.2.2.2.2.2.2.2.2.2.2.2.2.2.2.2.1 l433.2.2.2.2.2.2.2.2.2.2.2.2.2.2.2.2.2.2.2.2.2.2.2.2.2.2.2.2.2.2.2.2.2.2.2.2.2.2.2.2.2.2.2.2.2.2.2.2.2.2.2.2.2.2.2.2.2.2.2.2.2.2.2.2.2.1 l433.2.2.2.2.2.2.2.2.2.2.2.2.2.2.2.2.2.2.2.2.2.2.2.2.2.2.2.2.2.2.2.2.2.2.2.2.2.2.2.2.2.2.2.2.2.2.2.2.2.2.2.2.2.2.2.2.2.2.2.2.2.2.2.2.2.2.1 l433.2.2.2.2.2.2.2.2.2.2.2.2.2.2.2.2.2.2.2.2.2.2.2.2.2.2.2.2.2.2.2.2.2.2.2.2.2.2.2.2.2.2.2.2.2.2.2.2.2.2.2.2.2.2.2.2.2.2.2.2.2.2.2.2.2.2.2.1 l433.2.2.2.2.2.2.2.2.2.2.2.2.2.2.2.2.2.2.2.2.2.2.2.2.2.2.2.2.2.2.2.2.2.2.2.2.2.2.2.2.2.2.2.2.2.2.2.2.2.2.2.2.2.2.2.2.2.2.2.2.2.2.2.2.2.2.2.2.1) l433.2.2.2.2.2.2.2.2.2.2.2.2.2.2.2.2.2.2.2.2.2.2.2.2.2.2.2.2.2.2.2.2.2.2.2.2.2.2.2.2.2.2.2.2.2.2.2.2.2.2.2.2.2.2.2.2.2.2.2.2.2.2.2.2.2.2.2.2.2.1 l433.2.2.2.2.2.2.2.2.2.2.2.2.2.2.2.2.2.2.2.2.2.2.2.2.2.2.2.2.2.2.2.2.2.2.2.2.2.2.2.2.2.2.2.2.2.2.2.2.2.2.2.2.2.2.2.2.2.2.2.2.2.2.2.2.2.2.2.2.2.2.1 l433.2.2.2.2.2.2.2.2.2.2.2.2.2.2.2.2.2.2.2.2.2.2.2.2.2.2.2.2.2.2.2.2.2.2.2.2.2.2.2.2.2.2.2.2.2.2.2.2.2.2.2.2.2.2.2.2.2.2.2.2.2.2.2.2.2.2.2.2.2.2.2.1 l433.2.2.2.2.2.2.2.2.2.2.2.2.2.2.2.2.2.2.2.2.2.2.2.2.2.2.2.2.2.2.2.2.2.2.2.2.2.2.2.2.2.2.2.2.2.2.2.2.2.2.2.2.2.2.2.2.2.2.2.2.2.2.2.2.2.2.2.2.2.2.2.2.1 l433.2.2.2.2.2.2.2.2.2.2.2.2.2.2.2.2.2.2.2.2.2.2.2.2.2.2.2.2.2.2.2.2.2.2.2.2.2.2.2.2.2.2.2.2.2.2.2.2.2.2.2.2.2.2.2.2.2.2.2.2.2.2.2.2.2.2.2.2.2.2.2.2.2.1, (0 : Int)))))))
noncomputable def machine_New (q : Option Nat) (x0 : Int) (x1 : Int) (x2 : Int) : Option (Machine × Int) := (Tmachine_New q x0 x1 x2).run
theorem lemachine_New (k : Nat) (x0 : Int) (x1 : Int) (x2 : Int) : Le (machine_New (some k) x0 x1 x2) (machine_New none x0 x1 x2) := (TLe.opt Le.rfl fun _ => (TLe.ite TLe.rfl (TLe.ite TLe.rfl (TLe.ite TLe.rfl (TLe.opt (ledrive_New k _) fun _ => (TLe.ite TLe.rfl (TLe.opt Le.rfl fun _ => (TLe.opt Le.rfl fun _ => (TLe.opt (letape_New k _) fun _ => (TLe.opt (leLmachine_New_0 k _) fun _ => TLe.rfl))))))))))
noncomputable def Amachine_New : Arg U (Int × Int × Int × Unit) := aO (cInt .i64) (aO (cInt .i64) (aO (cInt .i64) (aNil)))
noncomputable def Rmachine_New (r : (Machine × Int)) : List (V U) × List (Blk U) := ([vA cMachine r.1, vO (cInt .i64) r.2], [])
noncomputable def Smachine_New : List (V U) → List (Blk U) → Option (FnOut U) := mkSpec Amachine_New bNil (fun x _ => machine_New none x.1 x.2.1 x.2.2.1) Rmachine_New
noncomputable def Pmachine_New_0 (x : (Unit) × (Unit) × (Int × Unit) × (Int × Unit) × Unit) (g : ((List Int) × (List Int) × Int × Int × Bool × (List Page) × Int × Int × Bool × Bool × Int × Int × Bool × Bool × Bool × Int × Int × Int × Int × Int × Int × Bool × Bool × Bool × Bool × Bool × Int × Int × Int × Int × Int × Bool × Bool × Int × Bool × Unit) × ((List Int) × (List Int) × Int × Int × (List Int) × Bool × (List Page) × Int × Int × Bool × Bool × Int × Int × (List (List UInt8)) × (List Int) × Bool × Bool × Bool × Int × Int × Int × Int × Int × (List (List UInt8)) × Int × Bool × Bool × Bool × Bool × Bool × Int × Int × Int × Int × Int × Bool × Bool × Int × Bool × Unit) × (List Int) × (List Int) × (List Line) × (List (List UInt8)) × (List Int) × (List (List UInt8)) × (List Int) × (List Line) × Unit) : Smachine_New_0 := Smachine_New_0.mk x.2.2.1.1 x.2.2.2.1.1 g.1.1 g.1.2.1 g.1.2.2.1 g.1.2.2.2.1 g.1.2.2.2.2.1 g.1.2.2.2.2.2.1 g.1.2.2.2.2.2.2.1 g.1.2.2.2.2.2.2.2.1 g.1.2.2.2.2.2.2.2.2.1 g.1.2.2.2.2.2.2.2.2.2.1 g.1.2.2.2.2.2.2.2.2.2.2.1 g.1.2.2.2.2.2.2.2.2.2.2.2.1 g.1.2.2.2.2.2.2.2.2.2.2.2.2.1 g.1.2.2.2.2.2.2.2.2.2.2.2.2.2.1 g.1.2.2.2.2.2.2.2.2.2.2.2.2.2.2.1 g.1.2.2.2.2.2.2.2.2.2.2.2.2.2.2.2.1 g.1.2.2.2.2.2.2.2.2.2.2.2.2.2.2.2.2.1 g.1.2.2.2.2.2.2.2.2.2.2.2.2.2.2.2.2.2.1 g.1.2.2.2.2.2.2.2.2.2.2.2.2.2.2.2.2.2.2.1 g.1.2.2.2.2.2.2.2.2.2.2.2.2.2.2.2.2.2.2.2.1 g.1.2.2.2.2.2.2.2.2.2.2.2.2.2.2.2.2.2.2.2.2.1 g.1.2.2.2.2.2.2.2.2.2.2.2.2.2.2.2.2.2.2.2.2.2.1 g.1.2.2.2.2.2.2.2.2.2.2.2.2.2.2.2.2.2.2.2.2.2.2.1 g.1.2.2.2.2.2.2.2.2.2.2.2.2.2.2.2.2.2.2.2.2.2.2.2.1 g.1.2.2.2.2.2.2.2.2.2.2.2.2.2.2.2.2.2.2.2.2.2.2.2.2.1 g.1.2.2.2.2.2.2.2.2.2.2.2.2.2.2.2.2.2.2.2.2.2.2.2.2.2.1 g.1.2.2.2.2.2.2.2.2.2.2.2.2.2.2.2.2.2.2.2.2.2.2.2.2.2.2.1 g.1.2.2.2.2.2.2.2.2.2.2.2.2.2.2.2.2.2.2.2.2.2.2.2.2.2.2.2.1 g.1.2.2.2.2.2.2.2.2.2.2.2.2.2.2.2.2.2.2.2.2.2.2.2.2.2.2.2.2.1 g.1.2.2.2.2.2.2.2.2.2.2.2.2.2.2.2.2.2.2.2.2.2.2.2.2.2.2.2.2.2.1 g.1.2.2.2.2.2.2.2.2.2.2.2.2.2.2.2.2.2.2.2.2.2.2.2.2.2.2.2.2.2.2.1 g.1.2.2.2.2.2.2.2.2.2.2.2.2.2.2.2.2.2.2.2.2.2.2.2.2.2.2.2.2.2.2.2.1 g.1.2.2.2.2.2.2.2.2.2.2.2.2.2.2.2.2.2.2.2.2.2.2.2.2.2.2.2.2.2.2.2.2.1 g.1.2.2.2.2.2.2.2.2.2.2.2.2.2.2.2.2.2.2.2.2.2.2.2.2.2.2.2.2.2.2.2.2.2.1 g.1.2.2.2.2.2.2.2.2.2.2.2.2.2.2.2.2.2.2.2.2.2.2.2.2.2.2.2.2.2.2.2.2.2.2.1 g.2.1.1 g.2.1.2.1 g.2.1.2.2.1 g.2.1.2.2.2.1 g.2.1.2.2.2.2.1 g.2.1.2.2.2.2.2.1 g.2.1.2.2.2.2.2.2.1 g.2.1.2.2.2.2.2.2.2.1 g.2.1.2.2.2.2.2.2.2.2.1 g.2.1.2.2.2.2.2.2.2.2.2.1 g.2.1.2.2.2.2.2.2.2.2.2.2.1 g.2.1.2.2.2.2.2.2.2.2.2.2.2.1 g.2.1.2.2.2.2.2.2.2.2.2.2.2.2.1 g.2.1.2.2.2.2.2.2.2.2.2.2.2.2.2.1 g.2.1.2.2.2.2.2.2.2.2.2.2.2.2.2.2.1 g.2.1.2.2.2.2.2.2.2.2.2.2.2.2.2.2.2.1 g.2.1.2.2.2.2.2.2.2.2.2.2.2.2.2.2.2.2.1 g.2.1.2.2.2.2.2.2.2.2.2.2.2.2.2.2.2.2.2.1 g.2.1.2.2.2.2.2.2.2.2.2.2.2.2.2.2.2.2.2.2.1 g.2.1.2.2.2.2.2.2.2.2.2.2.2.2.2.2.2.2.2.2.2.1 g.2.1.2.2.2.2.2.2.2.2.2.2.2.2.2.2.2.2.2.2.2.2.1 g.2.1.2.2.2.2.2.2.2.2.2.2.2.2.2.2.2.2.2.2.2.2.2.1 g.2.1.2.2.2.2.2.2.2.2.2.2.2.2.2.2.2.2.2.2.2.2.2.2.1 g.2.1.2.2.2.2.2.2.2.2.2.2.2.2.2.2.2.2.2.2.2.2.2.2.2.1 g.2.1.2.2.2.2.2.2.2.2.2.2.2.2.2.2.2.2.2.2.2.2.2.2.2.2.1 g.2.1.2.2.2.2.2.2.2.2.2.2.2.2.2.2.2.2.2.2.2.2.2.2.2.2.2.1 g.2.1.2.2.2.2.2.2.2.2.2.2.2.2.2.2.2.2.2.2.2.2.2.2.2.2.2.2.1 g.2.1.2.2.2.2.2.2.2.2.2.2.2.2.2.2.2.2.2.2.2.2.2.2.2.2.2.2.2.1 g.2.1.2.2.2.2.2.2.2.2.2.2.2.2.2.2.2.2.2.2.2.2.2.2.2.2.2.2.2.2.1 g.2.1.2.2.2.2.2.2.2.2.2.2.2.2.2.2.2.2.2.2.2.2.2.2.2.2.2.2.2.2.2.1 g.2.1.2.2.2.2.2.2.2.2.2.2.2.2.2.2.2.2.2.2.2.2.2.2.2.2.2.2.2.2.2.2.1 g.2.1.2.2.2.2.2.2.2.2.2.2.2.2.2.2.2.2.2.2.2.2.2.2.2.2.2.2.2.2.2.2.2.1 g.2.1.2.2.2.2.2.2.2.2.2.2.2.2.2.2.2.2.2.2.2.2.2.2.2.2.2.2.2.2.2.2.2.2.1 g.2.1.2.2.2.2.2.2.2.2.2.2.2.2.2.2.2.2.2.2.2.2.2.2.2.2.2.2.2.2.2.2.2.2.2.1 g.2.1.2.2.2.2.2.2.2.2.2.2.2.2.2.2.2.2.2.2.2.2.2.2.2.2.2.2.2.2.2.2.2.2.2.2.1 g.2.1.2.2.2.2.2.2.2.2.2.2.2.2.2.2.2.2.2.2.2.2.2.2.2.2.2.2.2.2.2.2.2.2.2.2.2.1 g.2.1.2.2.2.2.2.2.2.2.2.2.2.2.2.2.2.2.2.2.2.2.2.2.2.2.2.2.2.2.2.2.2.2.2.2.2.2.1 g.2.1.2.2.2.2.2.2.2.2.2.2.2.2.2.2.2.2.2.2.2.2.2.2.2.2.2.2.2.2.2.2.2.2.2.2.2.2.2.1 g.2.1.2.2.2.2.2.2.2.2.2.2.2.2.2.2.2.2.2.2.2.2.2.2.2.2.2.2.2.2.2.2.2.2.2.2.2.2.2.2.1 g.2.2.1 g.2.2.2.1 g.2.2.2.2.1 g.2.2.2.2.2.1 g.2.2.2.2.2.2.1 g.2.2.2.2.2.2.2.1 g.2.2.2.2.2.2.2.2.1 g.2.2.2.2.2.2.2.2.2.1
noncomputable def tAmachine_New_0 : Tms U ((Unit) × (Unit) × (Int × Unit) × (Int × Unit) × Unit) := tO 6 (cK (.ptr 0 0) (cUnit)) (tO 11 (cK (.ptr 1 0) (cUnit)) (tO 51 (cPair (cInt .i64) (cUnit)) (tO 52 (cPair (cInt .i64) (cUnit)) (tNil))))
noncomputable def tBmachine_New_0 : Bls U (((List Int) × (List Int) × Int × Int × Bool × (List Page) × Int × Int × Bool × Bool × Int × Int × Bool × Bool × Bool × Int × Int × Int × Int × Int × Int × Bool × Bool × Bool × Bool × Bool × Int × Int × Int × Int × Int × Bool × Bool × Int × Bool × Unit) × ((List Int) × (List Int) × Int × Int × (List Int) × Bool × (List Page) × Int × Int × Bool × Bool × Int × Int × (List (List UInt8)) × (List Int) × Bool × Bool × Bool × Int × Int × Int × Int × Int × (List (List UInt8)) × Int × Bool × Bool × Bool × Bool × Bool × Int × Int × Int × Int × Int × Bool × Bool × Int × Bool × Unit) × (List Int) × (List Int) × (List Line) × (List (List UInt8)) × (List Int) × (List (List UInt8)) × (List Int) × (List Line) × Unit) := bC (cPair (cArr 3 6) (cPair (cArr 3 2) (cPair (cInt .i64) (cPair (cInt .i64) (cK (.row 2 0) (cK (.row 3 0) (cPair cBool (cPair (cArr 28 16) (cPair (cInt .i64) (cPair (cInt .i64) (cPair cBool (cPair cBool (cPair (cInt .i64) (cPair (cInt .i64) (cK (.row 4 0) (cK (.row 5 0) (cK (.row 6 0) (cPair cBool (cPair cBool (cPair cBool (cPair (cInt .i64) (cPair (cInt .i64) (cPair (cInt .i64) (cPair (cInt .i64) (cPair (cInt .i64) (cK (.row 7 0) (cPair (cInt .i64) (cPair cBool (cPair cBool (cPair cBool (cPair cBool (cPair cBool (cPair (cInt .i64) (cPair (cInt .i64) (cPair (cInt .i64) (cPair (cInt .i64) (cPair (cInt .i64) (cPair cBool (cPair cBool (cPair (cInt .i64) (cPair cBool (cUnit)))))))))))))))))))))))))))))))))))))))))) (bC (cPair (cArr 3 6) (cPair (cArr 3 2) (cPair (cInt .i64) (cPair (cInt .i64) (cPair (cSl 3) (cK (.row 8 0) (cPair cBool (cPair (cArr 28 16) (cPair (cInt .i64) (cPair (cInt .i64) (cPair cBool (cPair cBool (cPair (cInt .i64) (cPair (cInt .i64) (cK (.row 9 0) (cPair (cSl 9) (cPair (cSl 3) (cPair cBool (cPair cBool (cPair cBool (cPair (cInt .i64) (cPair (cInt .i64) (cPair (cInt .i64) (cPair (cInt .i64) (cPair (cInt .i64) (cPair (cSl 9) (cPair (cInt .i64) (cPair cBool (cPair cBool (cPair cBool (cPair cBool (cPair cBool (cPair (cInt .i64) (cPair (cInt .i64) (cPair (cInt .i64) (cPair (cInt .i64) (cPair (cInt .i64) (cPair cBool (cPair cBool (cPair (cInt .i64) (cPair cBool (cUnit)))))))))))))))))))))))))))))))))))))))))) (bRv 3 0 (bRv 3 0 (bRv 66 0 (bRv 9 0 (bRv 3 0 (bRv 9 0 (bRv 3 0 (bRv 66 0 (bNil))))))))))
noncomputable def eSmachine_New_0 (s : Smachine_New_0) : St U := { tm := [(6, .v (vO (cK (.ptr 0 0) (cUnit)) (()))), (11, .v (vO (cK (.ptr 1 0) (cUnit)) (()))), (51, .v (vO (cPair (cInt .i64) (cUnit)) (s.t51, ()))), (52, .v (vO (cPair (cInt .i64) (cUnit)) (s.t52, ())))], hp := [.cells ((cPair (cArr 3 6) (cPair (cArr 3 2) (cPair (cInt .i64) (cPair (cInt .i64) (cK (.row 2 0) (cK (.row 3 0) (cPair cBool (cPair (cArr 28 16) (cPair (cInt .i64) (cPair (cInt .i64) (cPair cBool (cPair cBool (cPair (cInt .i64) (cPair (cInt .i64) (cK (.row 4 0) (cK (.row 5 0) (cK (.row 6 0) (cPair cBool (cPair cBool (cPair cBool (cPair (cInt .i64) (cPair (cInt .i64) (cPair (cInt .i64) (cPair (cInt .i64) (cPair (cInt .i64) (cK (.row 7 0) (cPair (cInt .i64) (cPair cBool (cPair cBool (cPair cBool (cPair cBool (cPair cBool (cPair (cInt .i64) (cPair (cInt .i64) (cPair (cInt .i64) (cPair (cInt .i64) (cPair (cInt .i64) (cPair cBool (cPair cBool (cPair (cInt .i64) (cPair cBool (cUnit))))))))))))))))))))))))))))))))))))))))) : Cdc U ((List Int) × (List Int) × Int × Int × Bool × (List Page) × Int × Int × Bool × Bool × Int × Int × Bool × Bool × Bool × Int × Int × Int × Int × Int × Int × Bool × Bool × Bool × Bool × Bool × Int × Int × Int × Int × Int × Bool × Bool × Int × Bool × Unit)).enc (s.b0_0, s.b0_1, s.b0_2, s.b0_3, s.b0_6, s.b0_7, s.b0_8, s.b0_9, s.b0_10, s.b0_11, s.b0_12, s.b0_13, s.b0_17, s.b0_18, s.b0_19, s.b0_20, s.b0_21, s.b0_22, s.b0_23, s.b0_24, s.b0_26, s.b0_27, s.b0_28, s.b0_29, s.b0_30, s.b0_31, s.b0_32, s.b0_33, s.b0_34, s.b0_35, s.b0_36, s.b0_37, s.b0_38, s.b0_39, s.b0_40, ())) none, .cells ((cPair (cArr 3 6) (cPair (cArr 3 2) (cPair (cInt .i64) (cPair (cInt .i64) (cPair (cSl 3) (cK (.row 8 0) (cPair cBool (cPair (cArr 28 16) (cPair (cInt .i64) (cPair (cInt .i64) (cPair cBool (cPair cBool (cPair (cInt .i64) (cPair (cInt .i64) (cK (.row 9 0) (cPair (cSl 9) (cPair (cSl 3) (cPair cBool (cPair cBool (cPair cBool (cPair (cInt .i64) (cPair (cInt .i64) (cPair (cInt .i64) (cPair (cInt .i64) (cPair (cInt .i64) (cPair (cSl 9) (cPair (cInt .i64) (cPair cBool (cPair cBool (cPair cBool (cPair cBool (cPair cBool (cPair (cInt .i64) (cPair (cInt .i64) (cPair (cInt .i64) (cPair (cInt .i64) (cPair (cInt .i64) (cPair cBool (cPair cBool (cPair (cInt .i64) (cPair cBool (cUnit))))))))))))))))))))))))))))))))))))))))) : Cdc U ((List Int) × (List Int) × Int × Int × (List Int) × Bool × (List Page) × Int × Int × Bool × Bool × Int × Int × (List (List UInt8)) × (List Int) × Bool × Bool × Bool × Int × Int × Int × Int × Int × (List (List UInt8)) × Int × Bool × Bool × Bool × Bool × Bool × Int × Int × Int × Int × Int × Bool × Bool × Int × Bool × Unit)).enc (s.b1_0, s.b1_1, s.b1_2, s.b1_3, s.b1_4, s.b1_6, s.b1_7, s.b1_8, s.b1_9, s.b1_10, s.b1_11, s.b1_12, s.b1_13, s.b1_15, s.b1_16, s.b1_17, s.b1_18, s.b1_19, s.b1_20, s.b1_21, s.b1_22, s.b1_23, s.b1_24, s.b1_25, s.b1_26, s.b1_27, s.b1_28, s.b1_29, s.b1_30, s.b1_31, s.b1_32, s.b1_33, s.b1_34, s.b1_35, s.b1_36, s.b1_37, s.b1_38, s.b1_39, s.b1_40, ())) none, .row 3 0 s.b2, .row 3 0 s.b3, .row 66 0 s.b4, .row 9 0 s.b5, .row 3 0 s.b6, .row 9 0 s.b7, .row 3 0 s.b8, .row 66 0 s.b9] }
noncomputable def xSmachine_New_0 (r : ((List Int) × (List Int) × Int × Int × Bool × (List Page) × Int × Int × Bool × Bool × Int × Int × Bool × Bool × Bool × Int × Int × Int × Int × Int × Int × Bool × Bool × Bool × Bool × Bool × Int × Int × Int × Int × Int × Bool × Bool × Int × Bool × (List Int) × (List Int) × Int × Int × (List Int) × Bool × (List Page) × Int × Int × Bool × Bool × Int × Int × (List (List UInt8)) × (List Int) × Bool × Bool × Bool × Int × Int × Int × Int × Int × (List (List UInt8)) × Int × Bool × Bool × Bool × Bool × Bool × Int × Int × Int × Int × Int × Bool × Bool × Int × Bool × (List Int) × (List Int) × (List Line) × (List (List UInt8)) × (List Int) × (List (List UInt8)) × (List Int) × (List Line))) : Ex × St U := (.exit 0, { tm := [(6, .v (vO (cK (.ptr 0 0) (cUnit)) (()))), (11, .v (vO (cK (.ptr 1 0) (cUnit)) (())))], hp := [.cells ((cPair (cArr 3 6) (cPair (cArr 3 2) (cPair (cInt .i64) (cPair (cInt .i64) (cK (.row 2 0) (cK (.row 3 0) (cPair cBool (cPair (cArr 28 16) (cPair (cInt .i64) (cPair (cInt .i64) (cPair cBool (cPair cBool (cPair (cInt .i64) (cPair (cInt .i64) (cK (.row 4 0) (cK (.row 5 0) (cK (.row 6 0) (cPair cBool (cPair cBool (cPair cBool (cPair (cInt .i64) (cPair (cInt .i64) (cPair (cInt .i64) (cPair (cInt .i64) (cPair (cInt .i64) (cK (.row 7 0) (cPair (cInt .i64) (cPair cBool (cPair cBool (cPair cBool (cPair cBool (cPair cBool (cPair (cInt .i64) (cPair (cInt .i64) (cPair (cInt .i64) (cPair (cInt .i64) (cPair (cInt .i64) (cPair cBool (cPair cBool (cPair (cInt .i64) (cPair cBool (cUnit))))))))))))))))))))))))))))))))))))))))) : Cdc U ((List Int) × (List Int) × Int × Int × Bool × (List Page) × Int × Int × Bool × Bool × Int × Int × Bool × Bool × Bool × Int × Int × Int × Int × Int × Int × Bool × Bool × Bool × Bool × Bool × Int × Int × Int × Int × Int × Bool × Bool × Int × Bool × Unit)).enc (r.1, r.2.1, r.2.2.1, r.2.2.2.1, r.2.2.2.2.1, r.2.2.2.2.2.1, r.2.2.2.2.2.2.1, r.2.2.2.2.2.2.2.1, r.2.2.2.2.2.2.2.2.1, r.2.2.2.2.2.2.2.2.2.1, r.2.2.2.2.2.2.2.2.2.2.1, r.2.2.2.2.2.2.2.2.2.2.2.1, r.2.2.2.2.2.2.2.2.2.2.2.2.1, r.2.2.2.2.2.2.2.2.2.2.2.2.2.1, r.2.2.2.2.2.2.2.2.2.2.2.2.2.2.1, r.2.2.2.2.2.2.2.2.2.2.2.2.2.2.2.1, r.2.2.2.2.2.2.2.2.2.2.2.2.2.2.2.2.1, r.2.2.2.2.2.2.2.2.2.2.2.2.2.2.2.2.2.1, r.2.2.2.2.2.2.2.2.2.2.2.2.2.2.2.2.2.2.1, r.2.2.2.2.2.2.2.2.2.2.2.2.2.2.2.2.2.2.2.1, r.2.2.2.2.2.2.2.2.2.2.2.2.2.2.2.2.2.2.2.2.1, r.2.2.2.2.2.2.2.2.2.2.2.2.2.2.2.2.2.2.2.2.2.1, r.2.2.2.2.2.2.2.2.2.2.2.2.2.2.2.2.2.2.2.2.2.2.1, r.2.2.2.2.2.2.2.2.2.2.2.2.2.2.2.2.2.2.2.2.2.2.2.1, r.2.2.2.2.2.2.2.2.2.2.2.2.2.2.2.2.2.2.2.2.2.2.2.2.1, r.2.2.2.2.2.2.2.2.2.2.2.2.2.2.2.2.2.2.2.2.2.2.2.2.2.1, r.2.2.2.2.2.2.2.2.2.2.2.2.2.2.2.2.2.2.2.2.2.2.2.2.2.2.1, r.2.2.2.2.2.2.2.2.2.2.2.2.2.2.2.2.2.2.2.2.2.2.2.2.2.2.2.1, r.2.2.2.2.2.2.2.2.2.2.2.2.2.2.2.2.2.2.2.2.2.2.2.2.2.2.2.2.1, r.2.2.2.2.2.2.2.2.2.2.2.2.2.2.2.2.2.2.2.2.2.2.2.2.2.2.2.2.2.1, r.2.2.2.2.2.2.2.2.2.2.2.2.2.2.2.2.2.2.2.2.2.2.2.2.2.2.2.2.2.2.1, r.2.2.2.2.2.2.2.2.2.2.2.2.2.2.2.2.2.2.2.2.2.2.2.2.2.2.2.2.2.2.2.1, r.2.2.2.2.2.2.2.2.2.2.2.2.2.2.2.2.2.2.2.2.2.2.2.2.2.2.2.2.2.2.2.2.1, r.2.2.2.2.2.2.2.2.2.2.2.2.2.2.2.2.2.2.2.2.2.2.2.2.2.2.2.2.2.2.2.2.2.1, r.2.2.2.2.2.2.2.2.2.2.2.2.2.2.2.2.2.2.2.2.2.2.2.2.2.2.2.2.2.2.2.2.2.2.1, ())) none, .cells ((cPair (cArr 3 6) (cPair (cArr 3 2) (cPair (cInt .i64) (cPair (cInt .i64) (cPair (cSl 3) (cK (.row 8 0) (cPair cBool (cPair (cArr 28 16) (cPair (cInt .i64) (cPair (cInt .i64) (cPair cBool (cPair cBool (cPair (cInt .i64) (cPair (cInt .i64) (cK (.row 9 0) (cPair (cSl 9) (cPair (cSl 3) (cPair cBool (cPair cBool (cPair cBool (cPair (cInt .i64) (cPair (cInt .i64) (cPair (cInt .i64) (cPair (cInt .i64) (cPair (cInt .i64) (cPair (cSl 9) (cPair (cInt .i64) (cPair cBool (cPair cBool (cPair cBool (cPair cBool (cPair cBool (cPair (cInt .i64) (cPair (cInt .i64) (cPair (cInt .i64) (cPair (cInt .i64) (cPair (cInt .i64) (cPair cBool (cPair cBool (cPair (cInt .i64) (cPair cBool (cUnit))))))))))))))))))))))))))))))))))))))))) : Cdc U ((List Int) × (List Int) × Int × Int × (List Int) × Bool × (List Page) × Int × Int × Bool × Bool × Int × Int × (List (List UInt8)) × (List Int) × Bool × Bool × Bool × Int × Int × Int × Int × Int × (List (List UInt8)) × Int × Bool × Bool × Bool × Bool × Bool × Int × Int × Int × Int × Int × Bool × Bool × Int × Bool × Unit)).enc (r.2.2.2.2.2.2.2.2.2.2.2.2.2.2.2.2.2.2.2.2.2.2.2.2.2.2.2.2.2.2.2.2.2.2.2.1, r.2.2.2.2.2.2.2.2.2.2.2.2.2.2.2.2.2.2.2.2.2.2.2.2.2.2.2.2.2.2.2.2.2.2.2.2.1, r.2.2.2.2.2.2.2.2.2.2.2.2.2.2.2.2.2.2.2.2.2.2.2.2.2.2.2.2.2.2.2.2.2.2.2.2.2.1, r.2.2.2.2.2.2.2.2.2.2.2.2.2.2.2.2.2.2.2.2.2.2.2.2.2.2.2.2.2.2.2.2.2.2.2.2.2.2.1, r.2.2.2.2.2.2.2.2.2.2.2.2.2.2.2.2.2.2.2.2.2.2.2.2.2.2.2.2.2.2.2.2.2.2.2.2.2.2.2.1, r.2.2.2.2.2.2.2.2.2.2.2.2.2.2.2.2.2.2.2.2.2.2.2.2.2.2.2.2.2.2.2.2.2.2.2.2.2.2.2.2.1, r.2.2.2.2.2.2.2.2.2.2.2.2.2.2.2.2.2.2.2.2.2.2.2.2.2.2.2.2.2.2.2.2.2.2.2.2.2.2.2.2.2.1, r.2.2.2.2.2.2.2.2.2.2.2.2.2.2.2.2.2.2.2.2.2.2.2.2.2.2.2.2.2.2.2.2.2.2.2.2.2.2.2.2.2.2.1, r.2.2.2.2.2.2.2.2.2.2.2.2.2.2.2.2.2.2.2.2.2.2.2.2.2.2.2.2.2.2.2.2.2.2.2.2.2.2.2.2.2.2.2.1, r.2.2.2.2.2.2.2.2.2.2.2.2.2.2.2.2.2.2.2.2.2.2.2.2.2.2.2.2.2.2.2.2.2.2.2.2.2.2.2.2.2.2.2.2.1, r.2.2.2.2.2.2.2.2.2.2.2.2.2.2.2.2.2.2.2.2.2.2.2.2.2.2.2.2.2.2.2.2.2.2.2.2.2.2.2.2.2.2.2.2.2.1, r.2.2.2.2.2.2.2.2.2.2.2.2.2.2.2.2.2.2.2.2.2.2.2.2.2.2.2.2.2.2.2.2.2.2.2.2.2.2.2.2.2.2.2.2.2.2.1, r.2.2.2.2.2.2.2.2.2.2.2.2.2.2.2.2.2.2.2.2.2.2.2.2.2.2.2.2.2.2.2.2.2.2.2.2.2.2.2.2.2.2.2.2.2.2.2.1, r.2.2.2.2.2.2.2.2.2.2.2.2.2.2.2.2.2.2.2.2.2.2.2.2.2.2.2.2.2.2.2.2.2.2.2.2.2.2.2.2.2.2.2.2.2.2.2.2.1, r.2.2.2.2.2.2.2.2.2.2.2.2.2.2.2.2.2.2.2.2.2.2.2.2.2.2.2.2.2.2.2.2.2.2.2.2.2.2.2.2.2.2.2.2.2.2.2.2.2.1, r.2.2.2.2.2.2.2.2.2.2.2.2.2.2.2.2.2.2.2.2.2.2.2.2.2.2.2.2.2.2.2.2.2.2.2.2.2.2.2.2.2.2.2.2.2.2.2.2.2.2.1, r.2.2.2.2.2.2.2.2.2.2.2.2.2.2.2.2.2.2.2.2.2.2.2.2.2.2.2.2.2.2.2.2.2.2.2.2.2.2.2.2.2.2.2.2.2.2.2.2.2.2.2.1, r.2.2.2.2.2.2.2.2.2.2.2.2.2.2.2.2.2.2.2.2.2.2.2.2.2.2.2.2.2.2.2.2.2.2.2.2.2.2.2.2.2.2.2.2.2.2.2.2.2.2.2.2.1, r.2.2.2.2.2.2.2.2.2.2.2.2.2.2.2.2.2.2.2.2.2.2.2.2.2.2.2.2.2.2.2.2.2.2.2.2.2.2.2.2.2.2.2.2.2.2.2.2.2.2.2.2.2.1, r.2.2.2.2.2.2.2.2.2.2.2.2.2.2.2.2.2.2.2.2.2.2.2.2.2.2.2.2.2.2.2.2.2.2.2.2.2.2.2.2.2.2.2.2.2.2.2.2.2.2.2.2.2.2.1, r.2.2.2.2.2.2.2.2.2.2.2.2.2.2.2.2.2.2.2.2.2.2.2.2.2.2.2.2.2.2.2.2.2.2.2.2.2.2.2.2.2.2.2.2.2.2.2.2.2.2.2.2.2.2.2.1, r.2.2.2.2.2.2.2.2.2.2.2.2.2.2.2.2.2.2.2.2.2.2.2.2.2.2.2.2.2.2.2.2.2.2.2.2.2.2.2.2.2.2.2.2.2.2.2.2.2.2.2.2.2.2.2.2.1, r.2.2.2.2.2.2.2.2.2.2.2.2.2.2.2.2.2.2.2.2.2.2.2.2.2.2.2.2.2.2.2.2.2.2.2.2.2.2.2.2.2.2.2.2.2.2.2.2.2.2.2.2.2.2.2.2.2.1, r.2.2.2.2.2.2.2.2.2.2.2.2.2.2.2.2.2.2.2.2.2.2.2.2.2.2.2.2.2.2.2.2.2.2.2.2.2.2.2.2.2.2.2.2.2.2.2.2.2.2.2.2.2.2.2.2.2.2.1, r.2.2.2.2.2.2.2.2.2.2.2.2.2.2.2.2.2.2.2.2.2.2.2.2.2.2.2.2.2.2.2.2.2.2.2.2.2.2.2.2.2.2.2.2.2.2.2.2.2.2.2.2.2.2.2.2.2.2.2.1, r.2.2.2.2.2.2.2.2.2.2.2.2.2.2.2.2.2.2.2.2.2.2.2.2.2.2.2.2.2.2.2.2.2.2.2.2.2.2.2.2.2.2.2.2.2.2.2.2.2.2.2.2.2.2.2.2.2.2.2.2.1, r.2.2.2.2.2.2.2.2.2.2.2.2.2.2.2.2.2.2.2.2.2.2.2.2.2.2.2.2.2.2.2.2.2.2.2.2.2.2.2.2.2.2.2.2.2.2.2.2.2.2.2.2.2.2.2.2.2.2.2.2.2.1, r.2.2.2.2.2.2.2.2.2.2.2.2.2.2.2.2.2.2.2.2.2.2.2.2.2.2.2.2.2.2.2.2.2.2.2.2.2.2.2.2.2.2.2.2.2.2.2.2.2.2.2.2.2.2.2.2.2.2.2.2.2.2.1, r.2.2.2.2.2.2.2.2.2.2.2.2.2.2.2.2.2.2.2.2.2.2.2.2.2.2.2.2.2.2.2.2.2.2.2.2.2.2.2.2.2.2.2.2.2.2.2.2.2.2.2.2.2.2.2.2.2.2.2.2.2.2.2.1, r.2.2.2.2.2.2.2.2.2.2.2.2.2.2.2.2.2.2.2.2.2.2.2.2.2.2.2.2.2.2.2.2.2.2.2.2.2.2.2.2.2.2.2.2.2.2.2.2.2.2.2.2.2.2.2.2.2.2.2.2.2.2.2.2.1, r.2.2.2.2.2.2.2.2.2.2.2.2.2.2.2.2.2.2.2.2.2.2.2.2.2.2.2.2.2.2.2.2.2.2.2.2.2.2.2.2.2.2.2.2.2.2.2.2.2.2.2.2.2.2.2.2.2.2.2.2.2.2.2.2.2.1, r.2.2.2.2.2.2.2.2.2.2.2.2.2.2.2.2.2.2.2.2.2.2.2.2.2.2.2.2.2.2.2.2.2.2.2.2.2.2.2.2.2.2.2.2.2.2.2.2.2.2.2.2.2.2.2.2.2.2.2.2.2.2.2.2.2.2.1, r.2.2.2.2.2.2.2.2.2.2.2.2.2.2.2.2.2.2.2.2.2.2.2.2.2.2.2.2.2.2.2.2.2.2.2.2.2.2.2.2.2.2.2.2.2.2.2.2.2.2.2.2.2.2.2.2.2.2.2.2.2.2.2.2.2.2.2.1, r.2.2.2.2.2.2.2.2.2.2.2.2.2.2.2.2.2.2.2.2.2.2.2.2.2.2.2.2.2.2.2.2.2.2.2.2.2.2.2.2.2.2.2.2.2.2.2.2.2.2.2.2.2.2.2.2.2.2.2.2.2.2.2.2.2.2.2.2.1, r.2.2.2.2.2.2.2.2.2.2.2.2.2.2.2.2.2.2.2.2.2.2.2.2.2.2.2.2.2.2.2.2.2.2.2.2.2.2.2.2.2.2.2.2.2.2.2.2.2.2.2.2.2.2.2.2.2.2.2.2.2.2.2.2.2.2.2.2.2.1, r.2.2.2.2.2.2.2.2.2.2.2.2.2.2.2.2.2.2.2.2.2.2.2.2.2.2.2.2.2.2.2.2.2.2.2.2.2.2.2.2.2.2.2.2.2.2.2.2.2.2.2.2.2.2.2.2.2.2.2.2.2.2.2.2.2.2.2.2.2.2.1, r.2.2.2.2.2.2.2.2.2.2.2.2.2.2.2.2.2.2.2.2.2.2.2.2.2.2.2.2.2.2.2.2.2.2.2.2.2.2.2.2.2.2.2.2.2.2.2.2.2.2.2.2.2.2.2.2.2.2.2.2.2.2.2.2.2.2.2.2.2.2.2.1, r.2.2.2.2.2.2.2.2.2.2.2.2.2.2.2.2.2.2.2.2.2.2.2.2.2.2.2.2.2.2.2.2.2.2.2.2.2.2.2.2.2.2.2.2.2.2.2.2.2.2.2.2.2.2.2.2.2.2.2.2.2.2.2.2.2.2.2.2.2.2.2.2.1, r.2.2.2.2.2.2.2.2.2.2.2.2.2.2.2.2.2.2.2.2.2.2.2.2.2.2.2.2.2.2.2.2.2.2.2.2.2.2.2.2.2.2.2.2.2.2.2.2.2.2.2.2.2.2.2.2.2.2.2.2.2.2.2.2.2.2.2.2.2.2.2.2.2.1, ())) none, .row 3 0 r.2.2.2.2.2.2.2.2.2.2.2.2.2.2.2.2.2.2.2.2.2.2.2.2.2.2.2.2.2.2.2.2.2.2.2.2.2.2.2.2.2.2.2.2.2.2.2.2.2.2.2.2.2.2.2.2.2.2.2.2.2.2.2.2.2.2.2.2.2.2.2.2.2.2.1, .row 3 0 r.2.2.2.2.2.2.2.2.2.2.2.2.2.2.2.2.2.2.2.2.2.2.2.2.2.2.2.2.2.2.2.2.2.2.2.2.2.2.2.2.2.2.2.2.2.2.2.2.2.2.2.2.2.2.2.2.2.2.2.2.2.2.2.2.2.2.2.2.2.2.2.2.2.2.2.1, .row 66 0 r.2.2.2.2.2.2.2.2.2.2.2.2.2.2.2.2.2.2.2.2.2.2.2.2.2.2.2.2.2.2.2.2.2.2.2.2.2.2.2.2.2.2.2.2.2.2.2.2.2.2.2.2.2.2.2.2.2.2.2.2.2.2.2.2.2.2.2.2.2.2.2.2.2.2.2.2.1, .row 9 0 r.2.2.2.2.2.2.2.2.2.2.2.2.2.2.2.2.2.2.2.2.2.2.2.2.2.2.2.2.2.2.2.2.2.2.2.2.2.2.2.2.2.2.2.2.2.2.2.2.2.2.2.2.2.2.2.2.2.2.2.2.2.2.2.2.2.2.2.2.2.2.2.2.2.2.2.2.2.1, .row 3 0 r.2.2.2.2.2.2.2.2.2.2.2.2.2.2.2.2.2.2.2.2.2.2.2.2.2.2.2.2.2.2.2.2.2.2.2.2.2.2.2.2.2.2.2.2.2.2.2.2.2.2.2.2.2.2.2.2.2.2.2.2.2.2.2.2.2.2.2.2.2.2.2.2.2.2.2.2.2.2.1, .row 9 0 r.2.2.2.2.2.2.2.2.2.2.2.2.2.2.2.2.2.2.2.2.2.2.2.2.2.2.2.2.2.2.2.2.2.2.2.2.2.2.2.2.2.2.2.2.2.2.2.2.2.2.2.2.2.2.2.2.2.2.2.2.2.2.2.2.2.2.2.2.2.2.2.2.2.2.2.2.2.2.2.1, .row 3 0 r.2.2.2.2.2.2.2.2.2.2.2.2.2.2.2.2.2.2.2.2.2.2.2.2.2.2.2.2.2.2.2.2.2.2.2.2.2.2.2.2.2.2.2.2.2.2.2.2.2.2.2.2.2.2.2.2.2.2.2.2.2.2.2.2.2.2.2.2.2.2.2.2.2.2.2.2.2.2.2.2.1, .row 66 0 r.2.2.2.2.2.2.2.2.2.2.2.2.2.2.2.2.2.2.2.2.2.2.2.2.2.2.2.2.2.2.2.2.2.2.2.2.2.2.2.2.2.2.2.2.2.2.2.2.2.2.2.2.2.2.2.2.2.2.2.2.2.2.2.2.2.2.2.2.2.2.2.2.2.2.2.2.2.2.2.2.2] })
noncomputable def xTmachine_New_0 (r : ((List Int) × (List Int) × Int × Int × Bool × (List Page) × Int × Int × Bool × Bool × Int × Int × Bool × Bool × Bool × Int × Int × Int × Int × Int × Int × Bool × Bool × Bool × Bool × Bool × Int × Int × Int × Int × Int × Bool × Bool × Int × Bool × (List Int) × (List Int) × Int × Int × (List Int) × Bool × (List Page) × Int × Int × Bool × Bool × Int × Int × (List (List UInt8)) × (List Int) × Bool × Bool × Bool × Int × Int × Int × Int × Int × (List (List UInt8)) × Int × Bool × Bool × Bool × Bool × Bool × Int × Int × Int × Int × Int × Bool × Bool × Int × Bool × (List Int) × (List Int) × (List Line) × (List (List UInt8)) × (List Int) × (List (List UInt8)) × (List Int) × (List Line))) : Tree (Ex × St U) := .leaf (xSmachine_New_0 r)
noncomputable def hmachine_New_0 : Hd := { keep := [6, 11, 51, 52], xkeep := [6, 7, 11], own := true }
noncomputable def Emachine_New : Env U := { P := Tryz.prog, cd := cd, fns := fns79, lps := (addL 0 hmachine_New_0 (mkLoop tAmachine_New_0 tBmachine_New_0 Pmachine_New_0 (Lmachine_New_0 none) xTmachine_New_0) noL), frz := fun _r => false, nt := 62, n0 := 0 }
noncomputable def Bmachine_New_0 : Code := (loopAt (Tryz.f35.body.getD .skip) 0 0).getD .skip
theorem roundmachine_New_0 (s : Smachine_New_0) : round Emachine_New hmachine_New_0 Bmachine_New_0 0 (eSmachine_New_0 s) = (Wmachine_New_0 s).map (sumE eSmachine_New_0 xSmachine_New_0) := by kernel_rfl
theorem lpmachine_New_0 : LpOk Emachine_New Bmachine_New_0 0 := mkLoop_ok (A := tAmachine_New_0) (B := tBmachine_New_0) (f := Pmachine_New_0) (L := Lmachine_New_0 none) (tO_ok (cK_ok cUnit_ok) (tO_ok (cK_ok cUnit_ok) (tO_ok (cPair_ok (cInt_ok .i64) cUnit_ok) (tO_ok (cPair_ok (cInt_ok .i64) cUnit_ok) tNil_ok)))) (bC_ok (cPair_ok (cArr_ok 3 6) (cPair_ok (cArr_ok 3 2) (cPair_ok (cInt_ok .i64) (cPair_ok (cInt_ok .i64) (cK_ok (cK_ok (cPair_ok cBool_ok (cPair_ok (cArr_ok 28 16) (cPair_ok (cInt_ok .i64) (cPair_ok (cInt_ok .i64) (cPair_ok cBool_ok (cPair_ok cBool_ok (cPair_ok (cInt_ok .i64) (cPair_ok (cInt_ok .i64) (cK_ok (cK_ok (cK_ok (cPair_ok cBool_ok (cPair_ok cBool_ok (cPair_ok cBool_ok (cPair_ok (cInt_ok .i64) (cPair_ok (cInt_ok .i64) (cPair_ok (cInt_ok .i64) (cPair_ok (cInt_ok .i64) (cPair_ok (cInt_ok .i64) (cK_ok (cPair_ok (cInt_ok .i64) (cPair_ok cBool_ok (cPair_ok cBool_ok (cPair_ok cBool_ok (cPair_ok cBool_ok (cPair_ok cBool_ok (cPair_ok (cInt_ok .i64) (cPair_ok (cInt_ok .i64) (cPair_ok (cInt_ok .i64) (cPair_ok (cInt_ok .i64) (cPair_ok (cInt_ok .i64) (cPair_ok cBool_ok (cPair_ok cBool_ok (cPair_ok (cInt_ok .i64) (cPair_ok cBool_ok cUnit_ok))))))))))))))))))))))))))))))))))))))))) (bC_ok (cPair_ok (cArr_ok 3 6) (cPair_ok (cArr_ok 3 2) (cPair_ok (cInt_ok .i64) (cPair_ok (cInt_ok .i64) (cPair_ok (cSl_ok 3) (cK_ok (cPair_ok cBool_ok (cPair_ok (cArr_ok 28 16) (cPair_ok (cInt_ok .i64) (cPair_ok (cInt_ok .i64) (cPair_ok cBool_ok (cPair_ok cBool_ok (cPair_ok (cInt_ok .i64) (cPair_ok (cInt_ok .i64) (cK_ok (cPair_ok (cSl_ok 9) (cPair_ok (cSl_ok 3) (cPair_ok cBool_ok (cPair_ok cBool_ok (cPair_ok cBool_ok (cPair_ok (cInt_ok .i64) (cPair_ok (cInt_ok .i64) (cPair_ok (cInt_ok .i64) (cPair_ok (cInt_ok .i64) (cPair_ok (cInt_ok .i64) (cPair_ok (cSl_ok 9) (cPair_ok (cInt_ok .i64) (cPair_ok cBool_ok (cPair_ok cBool_ok (cPair_ok cBool_ok (cPair_ok cBool_ok (cPair_ok cBool_ok (cPair_ok (cInt_ok .i64) (cPair_ok (cInt_ok .i64) (cPair_ok (cInt_ok .i64) (cPair_ok (cInt_ok .i64) (cPair_ok (cInt_ok .i64) (cPair_ok cBool_ok (cPair_ok cBool_ok (cPair_ok (cInt_ok .i64) (cPair_ok cBool_ok cUnit_ok))))))))))))))))))))))))))))))))))))))))) (bRv_ok (bRv_ok (bRv_ok (bRv_ok (bRv_ok (bRv_ok (bRv_ok (bRv_ok bNil_ok)))))))))) (enc := eSmachine_New_0) (out := xTmachine_New_0) (outS := xSmachine_New_0) (step := Wmachine_New_0) (fun _ => rfl) (fun _ _ => by kernel_rfl) (by kernel_rfl) (fun _ => rfl) roundmachine_New_0
theorem runmachine_New (x : Int × Int × Int × Unit) (g : Unit) : execF Emachine_New Tryz.f35 (Amachine_New.enc x) (bNil.enc g) = (Tmachine_New none x.1 x.2.1 x.2.2.1).map Rmachine_New := by kernel_rfl
theorem okmachine_New : FnOk Tryz.prog cd 35 Smachine_New := mk_ok (E := Emachine_New) cd_ok fns79_ok Tryz.func35 (by kernel_rfl) (loops_of (addL_ok lpmachine_New_0 noL_ok)) (aO_ok (cInt_ok .i64) (aO_ok (cInt_ok .i64) (aO_ok (cInt_ok .i64) (aNil_ok)))) bNil_ok (T := fun x _ => Tmachine_New none x.1 x.2.1 x.2.2.1) (fun _ _ => rfl) runmachine_New
noncomputable def fns35 := addF 35 true Smachine_New fns79
theorem fns35_ok : ∀ f q t, fns35 f = some (q, t) → FnOk Tryz.prog cd f t := addF_ok okmachine_New fns79_ok
/-- emulator/emulatorref02.Same -/
structure Sref02_Same_0 where
  t0 : (List (List UInt8))
  t1 : (List (List UInt8))
  t5 : Int
noncomputable def Wref02_Same_0 (s : Sref02_Same_0) : Tree (Sref02_Same_0 ⊕ (Bool ⊕ Unit)) :=
  .ite (decide (s.t5 < (s.t0.length : Int)))
    (.ite (decide (0 ≤ s.t5))
      (.opt (List UInt8) (s.t0[(s.t5).toNat]?) fun y434 =>
        .ite (decide (0 ≤ s.t5))
          (.opt (List UInt8) (s.t1[(s.t5).toNat]?) fun y435 =>
            .ite (!decide (y434 = y435))
              (.leaf (.inr (.inl false)))
              (.leaf (.inl (Sref02_Same_0.mk s.t0 s.t1 (IntKind.wrap .i64 (s.t5 + (1 : Int)))))))
          .fail)
      .fail)
    (.leaf (.inr (.inr ())))
noncomputable def Lref02_Same_0 (q : Option Nat) (s : Sref02_Same_0) : Option (Bool ⊕ Unit) := limQ q (fun s => (Wref02_Same_0 s).run) s
noncomputable def Tref02_Same (q : Option Nat) (x0 : (List (List UInt8))) (x1 : (List (List UInt8))) : Tree Bool :=
  .ite (!decide ((x0.length : Int) = (x1.length : Int)))
    (.leaf (false))
    (.opt (Bool ⊕ Unit) (Lref02_Same_0 q (Sref02_Same_0.mk x0 x1 (0 : Int))) fun l436 =>
      .ite (l436.isLeft)
        (.opt Bool (l436.getLeft?) fun a437 =>
          .leaf (a437))
        (.opt Unit (l436.getRight?) fun b438 =>
          .leaf (true)))
noncomputable def ref02_Same (q : Option Nat) (x0 : (List (List UInt8))) (x1 : (List (List UInt8))) : Option Bool := (Tref02_Same q x0 x1).run
noncomputable def Aref02_Same : Arg U ((List (List UInt8)) × (List (List UInt8)) × Unit) := aO (cSl 9) (aO (cSl 9) (aNil))
noncomputable def Rref02_Same (r : Bool) : List (V U) × List (Blk U) := ([vO cBool r], [])
noncomputable def Sref02_Same : List (V U) → List (Blk U) → Option (FnOut U) := mkSpec Aref02_Same bNil (fun x _ => ref02_Same none x.1 x.2.1) Rref02_Same
noncomputable def Pref02_Same_0 (x : ((List (List UInt8)) × Unit) × ((List (List UInt8)) × Unit) × (Int × Unit) × Unit) (_g : Unit) : Sref02_Same_0 := Sref02_Same_0.mk x.1.1 x.2.1.1 x.2.2.1.1
noncomputable def tAref02_Same_0 : Tms U (((List (List UInt8)) × Unit) × ((List (List UInt8)) × Unit) × (Int × Unit) × Unit) := tO 0 (cPair (cSl 9) (cUnit)) (tO 1 (cPair (cSl 9) (cUnit)) (tO 5 (cPair (cInt .i64) (cUnit)) (tNil)))
noncomputable def tBref02_Same_0 : Bls U (Unit) := bNil
noncomputable def eSref02_Same_0 (s : Sref02_Same_0) : St U := { tm := [(0, .v (vO (cPair (cSl 9) (cUnit)) (s.t0, ()))), (1, .v (vO (cPair (cSl 9) (cUnit)) (s.t1, ()))), (5, .v (vO (cPair (cInt .i64) (cUnit)) (s.t5, ())))], hp := [] }
noncomputable def xSref02_Same_0 : (Bool ⊕ Unit) → Ex × St U
  | .inl r => (.ret, { tm := [(4, .v (vO (cPair cBool (cUnit)) (r, ())))], hp := [] })
  | .inr r => (.exit 0, { tm := [], hp := [] })
noncomputable def xTref02_Same_0 (y : (Bool ⊕ Unit)) : Tree (Ex × St U) := .ite y.isLeft (.opt Bool y.getLeft? fun r => .leaf (.ret, { tm := [(4, .v (vO (cPair cBool (cUnit)) (r, ())))], hp := [] })) (.opt Unit y.getRight? fun r => .leaf (.exit 0, { tm := [], hp := [] }))
noncomputable def href02_Same_0 : Hd := { keep := [0, 1, 5], xkeep := [4], own := false }
noncomputable def Eref02_Same : Env U := { P := Tryz.prog, cd := cd, fns := fns35, lps := (addL 0 href02_Same_0 (mkLoop tAref02_Same_0 tBref02_Same_0 Pref02_Same_0 (Lref02_Same_0 none) xTref02_Same_0) noL), frz := fun _r => false, nt := 26, n0 := 0 }
noncomputable def Bref02_Same_0 : Code := (loopAt (Tryz.f36.body.getD .skip) 0 0).getD .skip
theorem roundref02_Same_0 (s : Sref02_Same_0) : round Eref02_Same href02_Same_0 Bref02_Same_0 0 (eSref02_Same_0 s) = (Wref02_Same_0 s).map (sumE eSref02_Same_0 xSref02_Same_0) := by kernel_rfl
theorem lpref02_Same_0 : LpOk Eref02_Same Bref02_Same_0 0 := mkLoop_ok (A := tAref02_Same_0) (B := tBref02_Same_0) (f := Pref02_Same_0) (L := Lref02_Same_0 none) (tO_ok (cPair_ok (cSl_ok 9) cUnit_ok) (tO_ok (cPair_ok (cSl_ok 9) cUnit_ok) (tO_ok (cPair_ok (cInt_ok .i64) cUnit_ok) tNil_ok))) bNil_ok (enc := eSref02_Same_0) (out := xTref02_Same_0) (outS := xSref02_Same_0) (step := Wref02_Same_0) (fun _ => rfl) (fun _ _ => by kernel_rfl) (by kernel_rfl) (fun b => by cases b <;> rfl) roundref02_Same_0
theorem runref02_Same (x : (List (List UInt8)) × (List (List UInt8)) × Unit) (g : Unit) : execF Eref02_Same Tryz.f36 (Aref02_Same.enc x) (bNil.enc g) = (Tref02_Same none x.1 x.2.1).map Rref02_Same := by kernel_rfl
theorem okref02_Same : FnOk Tryz.prog cd 36 Sref02_Same := mk_ok (E := Eref02_Same) cd_ok fns35_ok Tryz.func36 (by kernel_rfl) (loops_of (addL_ok lpref02_Same_0 noL_ok)) (aO_ok (cSl_ok 9) (aO_ok (cSl_ok 9) (aNil_ok))) bNil_ok (T := fun x _ => Tref02_Same none x.1 x.2.1) (fun _ _ => rfl) runref02_Same
noncomputable def fns36 := addF 36 true Sref02_Same fns35
theorem fns36_ok : ∀ f q t, fns36 f = some (q, t) → FnOk Tryz.prog cd f t := addF_ok okref02_Same fns35_ok
/-- emulator/emulatorlaw23.alive -/
noncomputable def Tlaw23_alive (q : Option Nat)  : Tree Bool :=
  .opt (Machine × Int) (machine_New q (256 : Int) (0 : Int) (1 : Int)) fun r446 =>
    .opt ((List UInt8) × Int) (save_Encode q r446.1) fun r447 =>
      .ite (!decide (r446.2 = (0 : Int)))
        (.leaf (false))
        (.ite (!decide (r447.2 = (0 : Int)))
          (.leaf (false))
          (.ite (decide ((r447.1.length : Int) < (28 : Int)))
            (.leaf (false))
            (.opt (Machine × Int) (save_Decode q r447.1) fun r448 =>
              .ite (decide (0 ≤ (10 : Int)))
                (.ite (decide ((10 : Int) ≤ ((r447.1.length : Nat) : Int)))
                  (.ite (decide (((r447.1.drop (0)).take (((10 : Int)).toNat - 0)).length + ([1] : List UInt8).length ≤ 9223372036854775807))
                    (.ite (decide (0 ≤ (11 : Int)))
                      (.ite (decide ((11 : Int) ≤ ((r447.1.length : Nat) : Int)))
                        (.ite (decide ((((r447.1.drop (0)).take (((10 : Int)).toNat - 0)) ++ ([1] : List UInt8)).length + ((r447.1.drop (((11 : Int)).toNat)).take (r447.1.length - ((11 : Int)).toNat)).length ≤ 9223372036854775807))
                          (.opt (Machine × Int) (save_Decode q ((((r447.1.drop (0)).take (((10 : Int)).toNat - 0)) ++ ([1] : List UInt8)) ++ ((r447.1.drop (((11 : Int)).toNat)).take (r447.1.length - ((11 : Int)).toNat)))) fun r449 =>
                            .opt (Machine × Int) (save_Decode q ([] : List UInt8)) fun r450 =>
                              .ite (decide (0 ≤ (24 : Int)))
                                (.ite (decide ((24 : Int) ≤ ((r447.1.length : Nat) : Int)))
                                  (.ite (decide (((r447.1.drop (0)).take (((24 : Int)).toNat - 0)) = ([69, 77, 85, 49, 0, 0, 0, 0, 0, 0, 0, 0, 0, 0, 0, 0, 0, 0, 0, 0, 0, 0, 0, 0] : List UInt8)))
                                    (.ite (decide (r448.2 = (0 : Int)))
                                      (.opt Bool (save_Same q r446.1 r448.1) fun r451 =>
                                        .ite (r451)
                                          (.ite (decide (r449.2 = (10 : Int)))
                                            (.ite (decide (r450.2 = (8 : Int)))
                                              (.opt (List (List UInt8)) (save_Diff q r446.1 (Machine.mk (Cpu.mk r446.1.cpu.r r446.1.cpu.sP (2 : Int) r446.1.cpu.pSW) r446.1.mem r446.1.bad r446.1.mmu r446.1.clock r446.1.lines r446.1.disk r446.1.tape (1 : Int) r446.1.halted r446.1.waiting r446.1.power r446.1.powerTrap)) fun r452 =>
                                                .opt Bool (ref02_Same q r452 ([([67, 112, 117] : List UInt8), ([78, 111, 119] : List UInt8)])) fun r453 =>
                                                  .ite (r453)
                                                    (.opt Bool (save_Same q r446.1 (Machine.mk (Cpu.mk r446.1.cpu.r r446.1.cpu.sP (2 : Int) r446.1.cpu.pSW) r446.1.mem r446.1.bad r446.1.mmu r446.1.clock r446.1.lines r446.1.disk r446.1.tape (1 : Int) r446.1.halted r446.1.waiting r446.1.power r446.1.powerTrap)) fun r454 =>
                                                      .leaf (!r454))
                                                    (.leaf (false)))
                                              (.leaf (false)))
                                            (.leaf (false)))
                                          (.leaf (false)))
                                      (.leaf (false)))
                                    (.leaf (false)))
                                  .fail)
                                .fail)
                          .fail)
                        .fail)
                      .fail)
                    .fail)
                  .fail)
                .fail)))
noncomputable def law23_alive (q : Option Nat)  : Option Bool := (Tlaw23_alive q ).run
noncomputable def Alaw23_alive : Arg U (Unit) := aNil
noncomputable def Rlaw23_alive (r : Bool) : List (V U) × List (Blk U) := ([vO cBool r], [])
noncomputable def Slaw23_alive : List (V U) → List (Blk U) → Option (FnOut U) := mkSpec Alaw23_alive bNil (fun x _ => law23_alive none ) Rlaw23_alive
noncomputable def Elaw23_alive : Env U := { P := Tryz.prog, cd := cd, fns := (addF 36 false (frzSpec Sref02_Same) fns36), lps := noL, frz := fun _r => false, nt := 88, n0 := 0 }
theorem runlaw23_alive (x : Unit) (g : Unit) : execF Elaw23_alive Tryz.f10 (Alaw23_alive.enc x) (bNil.enc g) = (Tlaw23_alive none ).map Rlaw23_alive := by kernel_rfl
theorem oklaw23_alive : FnOk Tryz.prog cd 10 Slaw23_alive := mk_ok (E := Elaw23_alive) cd_ok (addF_ok (fnOk_frz cd_ok (mkSpec_out fun _ => rfl) okref02_Same) fns36_ok) Tryz.func10 (by kernel_rfl) (noLoops_body (by kernel_rfl)) (aNil_ok) bNil_ok (T := fun x _ => Tlaw23_alive none ) (fun _ _ => rfl) runlaw23_alive
noncomputable def fns10 := addF 10 true Slaw23_alive fns36
theorem fns10_ok : ∀ f q t, fns10 f = some (q, t) → FnOk Tryz.prog cd f t := addF_ok oklaw23_alive fns36_ok
/-- emulator/emulatorref23.Great -/
structure Sref23_Great_0 where
  t3 : Int
  b0 : Machine
noncomputable def Wref23_Great_0 (s : Sref23_Great_0) : Tree (Sref23_Great_0 ⊕ ((Bool × Machine) ⊕ Machine)) :=
  .ite (decide (s.t3 < (s.b0.lines.length : Int)))
    (.ite (decide (0 ≤ s.t3))
      (.opt Line (s.b0.lines[(s.t3).toNat]?) fun y455 =>
        .ite (decide ((600 : Int) < (y455.out.length : Int)))
          (.leaf (.inr (.inl (true, s.b0))))
          (.leaf (.inl (Sref23_Great_0.mk (IntKind.wrap .i64 (s.t3 + (1 : Int))) s.b0))))
      .fail)
    (.leaf (.inr (.inr s.b0)))
noncomputable def Lref23_Great_0 (q : Option Nat) (s : Sref23_Great_0) : Option ((Bool × Machine) ⊕ Machine) := limQ q (fun s => (Wref23_Great_0 s).run) s
structure Sref23_Great_1 where
  t4 : Int
  b0 : Machine
noncomputable def Wref23_Great_1 (s : Sref23_Great_1) : Tree (Sref23_Great_1 ⊕ ((Bool × Machine) ⊕ Machine)) :=
  .ite (decide (s.t4 < (s.b0.disk.drive.sectors.length : Int)))
    (.ite (decide (0 ≤ s.t4))
      (.opt (List UInt8) (s.b0.disk.drive.sectors[(s.t4).toNat]?) fun y459 =>
        .ite (decide ((600 : Int) < (y459.length : Int)))
          (.leaf (.inr (.inl (true, s.b0))))
          (.leaf (.inl (Sref23_Great_1.mk (IntKind.wrap .i64 (s.t4 + (1 : Int))) s.b0))))
      .fail)
    (.leaf (.inr (.inr s.b0)))
noncomputable def Lref23_Great_1 (q : Option Nat) (s : Sref23_Great_1) : Option ((Bool × Machine) ⊕ Machine) := limQ q (fun s => (Wref23_Great_1 s).run) s
structure Sref23_Great_2 where
  t5 : Int
  b0 : Machine
noncomputable def Wref23_Great_2 (s : Sref23_Great_2) : Tree (Sref23_Great_2 ⊕ (Bool ⊕ Unit)) :=
  .ite (decide (s.t5 < (s.b0.tape.records.length : Int)))
    (.ite (decide (0 ≤ s.t5))
      (.opt (List UInt8) (s.b0.tape.records[(s.t5).toNat]?) fun y463 =>
        .ite (decide ((600 : Int) < (y463.length : Int)))
          (.leaf (.inr (.inl true)))
          (.leaf (.inl (Sref23_Great_2.mk (IntKind.wrap .i64 (s.t5 + (1 : Int))) s.b0))))
      .fail)
    (.leaf (.inr (.inr ())))
noncomputable def Lref23_Great_2 (q : Option Nat) (s : Sref23_Great_2) : Option (Bool ⊕ Unit) := limQ q (fun s => (Wref23_Great_2 s).run) s
noncomputable def Tref23_Great (q : Option Nat) (x0 : Machine) : Tree Bool :=
  .ite (decide ((2048 : Int) < (x0.mem.length : Int)))
    (.leaf (true))
    (.ite (decide ((100 : Int) < (x0.bad.length : Int)))
      (.leaf (true))
      (.ite (decide ((10 : Int) < (x0.lines.length : Int)))
        (.leaf (true))
        (.ite (decide ((64 : Int) < (x0.disk.drive.sectors.length : Int)))
          (.leaf (true))
          (.ite (decide ((100 : Int) < (x0.disk.drive.bad.length : Int)))
            (.leaf (true))
            (.ite (decide ((10 : Int) < (x0.tape.records.length : Int)))
              (.leaf (true))
              (.opt ((Bool × Machine) ⊕ Machine) (Lref23_Great_0 q (Sref23_Great_0.mk (0 : Int) x0)) fun l456 =>
                .ite (l456.isLeft)
                  (.opt (Bool × Machine) (l456.getLeft?) fun a457 =>
                    .leaf (a457.1))
                  (.opt Machine (l456.getRight?) fun b458 =>
                    .opt ((Bool × Machine) ⊕ Machine) (Lref23_Great_1 q (Sref23_Great_1.mk (0 : Int) b458)) fun l460 =>
                      .ite (l460.isLeft)
                        (.opt (Bool × Machine) (l460.getLeft?) fun a461 =>
                          .leaf (a461.1))
                        (.opt Machine (l460.getRight?) fun b462 =>
                          .opt (Bool ⊕ Unit) (Lref23_Great_2 q (Sref23_Great_2.mk (0 : Int) b462)) fun l464 =>
                            .ite (l464.isLeft)
                              (.opt Bool (l464.getLeft?) fun a465 =>
                                .leaf (a465))
                              (.opt Unit (l464.getRight?) fun b466 =>
                                .leaf (false))))))))))
noncomputable def ref23_Great (q : Option Nat) (x0 : Machine) : Option Bool := (Tref23_Great q x0).run
noncomputable def Aref23_Great : Arg U (Machine × Unit) := aA cMachine (aNil)
noncomputable def Rref23_Great (r : Bool) : List (V U) × List (Blk U) := ([vO cBool r], [])
noncomputable def Sref23_Great : List (V U) → List (Blk U) → Option (FnOut U) := mkSpec Aref23_Great bNil (fun x _ => ref23_Great none x.1) Rref23_Great
noncomputable def Pref23_Great_0 (x : (Unit) × (Int × Unit) × Unit) (g : (Machine × Unit) × Unit) : Sref23_Great_0 := Sref23_Great_0.mk x.2.1.1 g.1.1
noncomputable def tAref23_Great_0 : Tms U ((Unit) × (Int × Unit) × Unit) := tO 1 (cK (.ptr 0 0) (cUnit)) (tO 3 (cPair (cInt .i64) (cUnit)) (tNil))
noncomputable def tBref23_Great_0 : Bls U ((Machine × Unit) × Unit) := bC (cPair cMachine (cUnit)) (bNil)
noncomputable def eSref23_Great_0 (s : Sref23_Great_0) : St U := { tm := [(1, .v (vO (cK (.ptr 0 0) (cUnit)) (()))), (3, .v (vO (cPair (cInt .i64) (cUnit)) (s.t3, ())))], hp := [.cells ((cPair cMachine (cUnit) : Cdc U (Machine × Unit)).enc (s.b0, ())) none] }
noncomputable def xSref23_Great_0 : ((Bool × Machine) ⊕ Machine) → Ex × St U
  | .inl r => (.ret, { tm := [(1, .v (vO (cK (.ptr 0 0) (cUnit)) (()))), (2, .v (vO (cPair cBool (cUnit)) (r.1, ())))], hp := [.cells ((cPair cMachine (cUnit) : Cdc U (Machine × Unit)).enc (r.2, ())) none] })
  | .inr r => (.exit 0, { tm := [(1, .v (vO (cK (.ptr 0 0) (cUnit)) (())))], hp := [.cells ((cPair cMachine (cUnit) : Cdc U (Machine × Unit)).enc (r, ())) none] })
noncomputable def xTref23_Great_0 (y : ((Bool × Machine) ⊕ Machine)) : Tree (Ex × St U) := .ite y.isLeft (.opt (Bool × Machine) y.getLeft? fun r => .leaf (.ret, { tm := [(1, .v (vO (cK (.ptr 0 0) (cUnit)) (()))), (2, .v (vO (cPair cBool (cUnit)) (r.1, ())))], hp := [.cells ((cPair cMachine (cUnit) : Cdc U (Machine × Unit)).enc (r.2, ())) none] })) (.opt Machine y.getRight? fun r => .leaf (.exit 0, { tm := [(1, .v (vO (cK (.ptr 0 0) (cUnit)) (())))], hp := [.cells ((cPair cMachine (cUnit) : Cdc U (Machine × Unit)).enc (r, ())) none] }))
noncomputable def href23_Great_0 : Hd := { keep := [1, 3], xkeep := [1, 2], own := false }
noncomputable def Pref23_Great_1 (x : (Unit) × (Int × Unit) × Unit) (g : (Machine × Unit) × Unit) : Sref23_Great_1 := Sref23_Great_1.mk x.2.1.1 g.1.1
noncomputable def tAref23_Great_1 : Tms U ((Unit) × (Int × Unit) × Unit) := tO 1 (cK (.ptr 0 0) (cUnit)) (tO 4 (cPair (cInt .i64) (cUnit)) (tNil))
noncomputable def tBref23_Great_1 : Bls U ((Machine × Unit) × Unit) := bC (cPair cMachine (cUnit)) (bNil)
noncomputable def eSref23_Great_1 (s : Sref23_Great_1) : St U := { tm := [(1, .v (vO (cK (.ptr 0 0) (cUnit)) (()))), (4, .v (vO (cPair (cInt .i64) (cUnit)) (s.t4, ())))], hp := [.cells ((cPair cMachine (cUnit) : Cdc U (Machine × Unit)).enc (s.b0, ())) none] }
noncomputable def xSref23_Great_1 : ((Bool × Machine) ⊕ Machine) → Ex × St U
  | .inl r => (.ret, { tm := [(1, .v (vO (cK (.ptr 0 0) (cUnit)) (()))), (2, .v (vO (cPair cBool (cUnit)) (r.1, ())))], hp := [.cells ((cPair cMachine (cUnit) : Cdc U (Machine × Unit)).enc (r.2, ())) none] })
  | .inr r => (.exit 2, { tm := [(1, .v (vO (cK (.ptr 0 0) (cUnit)) (())))], hp := [.cells ((cPair cMachine (cUnit) : Cdc U (Machine × Unit)).enc (r, ())) none] })
noncomputable def xTref23_Great_1 (y : ((Bool × Machine) ⊕ Machine)) : Tree (Ex × St U) := .ite y.isLeft (.opt (Bool × Machine) y.getLeft? fun r => .leaf (.ret, { tm := [(1, .v (vO (cK (.ptr 0 0) (cUnit)) (()))), (2, .v (vO (cPair cBool (cUnit)) (r.1, ())))], hp := [.cells ((cPair cMachine (cUnit) : Cdc U (Machine × Unit)).enc (r.2, ())) none] })) (.opt Machine y.getRight? fun r => .leaf (.exit 2, { tm := [(1, .v (vO (cK (.ptr 0 0) (cUnit)) (())))], hp := [.cells ((cPair cMachine (cUnit) : Cdc U (Machine × Unit)).enc (r, ())) none] }))
noncomputable def href23_Great_1 : Hd := { keep := [1, 4], xkeep := [1, 2], own := false }
noncomputable def Pref23_Great_2 (x : (Unit) × (Int × Unit) × Unit) (g : (Machine × Unit) × Unit) : Sref23_Great_2 := Sref23_Great_2.mk x.2.1.1 g.1.1
noncomputable def tAref23_Great_2 : Tms U ((Unit) × (Int × Unit) × Unit) := tO 1 (cK (.ptr 0 0) (cUnit)) (tO 5 (cPair (cInt .i64) (cUnit)) (tNil))
noncomputable def tBref23_Great_2 : Bls U ((Machine × Unit) × Unit) := bC (cPair cMachine (cUnit)) (bNil)
noncomputable def eSref23_Great_2 (s : Sref23_Great_2) : St U := { tm := [(1, .v (vO (cK (.ptr 0 0) (cUnit)) (()))), (5, .v (vO (cPair (cInt .i64) (cUnit)) (s.t5, ())))], hp := [.cells ((cPair cMachine (cUnit) : Cdc U (Machine × Unit)).enc (s.b0, ())) none] }
noncomputable def xSref23_Great_2 : (Bool ⊕ Unit) → Ex × St U
  | .inl r => (.ret, { tm := [(2, .v (vO (cPair cBool (cUnit)) (r, ())))], hp := [] })
  | .inr r => (.exit 4, { tm := [], hp := [] })
noncomputable def xTref23_Great_2 (y : (Bool ⊕ Unit)) : Tree (Ex × St U) := .ite y.isLeft (.opt Bool y.getLeft? fun r => .leaf (.ret, { tm := [(2, .v (vO (cPair cBool (cUnit)) (r, ())))], hp := [] })) (.opt Unit y.getRight? fun r => .leaf (.exit 4, { tm := [], hp := [] }))
noncomputable def href23_Great_2 : Hd := { keep := [1, 5], xkeep := [2], own := false }
noncomputable def Eref23_Great : Env U := { P := Tryz.prog, cd := cd, fns := fns10, lps := (addL 0 href23_Great_0 (mkLoop tAref23_Great_0 tBref23_Great_0 Pref23_Great_0 (Lref23_Great_0 none) xTref23_Great_0) (addL 1 href23_Great_1 (mkLoop tAref23_Great_1 tBref23_Great_1 Pref23_Great_1 (Lref23_Great_1 none) xTref23_Great_1) (addL 2 href23_Great_2 (mkLoop tAref23_Great_2 tBref23_Great_2 Pref23_Great_2 (Lref23_Great_2 none) xTref23_Great_2) noL))), frz := fun _r => false, nt := 94, n0 := 0 }
noncomputable def Bref23_Great_0 : Code := (loopAt (Tryz.f11.body.getD .skip) 0 0).getD .skip
theorem roundref23_Great_0 (s : Sref23_Great_0) : round Eref23_Great href23_Great_0 Bref23_Great_0 0 (eSref23_Great_0 s) = (Wref23_Great_0 s).map (sumE eSref23_Great_0 xSref23_Great_0) := by kernel_rfl
theorem lpref23_Great_0 : LpOk Eref23_Great Bref23_Great_0 0 := mkLoop_ok (A := tAref23_Great_0) (B := tBref23_Great_0) (f := Pref23_Great_0) (L := Lref23_Great_0 none) (tO_ok (cK_ok cUnit_ok) (tO_ok (cPair_ok (cInt_ok .i64) cUnit_ok) tNil_ok)) (bC_ok (cPair_ok cMachine_ok cUnit_ok) bNil_ok) (enc := eSref23_Great_0) (out := xTref23_Great_0) (outS := xSref23_Great_0) (step := Wref23_Great_0) (fun _ => rfl) (fun _ _ => by kernel_rfl) (by kernel_rfl) (fun b => by cases b <;> rfl) roundref23_Great_0
noncomputable def Bref23_Great_1 : Code := (loopAt (Tryz.f11.body.getD .skip) 0 1).getD .skip
theorem roundref23_Great_1 (s : Sref23_Great_1) : round Eref23_Great href23_Great_1 Bref23_Great_1 1 (eSref23_Great_1 s) = (Wref23_Great_1 s).map (sumE eSref23_Great_1 xSref23_Great_1) := by kernel_rfl
theorem lpref23_Great_1 : LpOk Eref23_Great Bref23_Great_1 1 := mkLoop_ok (A := tAref23_Great_1) (B := tBref23_Great_1) (f := Pref23_Great_1) (L := Lref23_Great_1 none) (tO_ok (cK_ok cUnit_ok) (tO_ok (cPair_ok (cInt_ok .i64) cUnit_ok) tNil_ok)) (bC_ok (cPair_ok cMachine_ok cUnit_ok) bNil_ok) (enc := eSref23_Great_1) (out := xTref23_Great_1) (outS := xSref23_Great_1) (step := Wref23_Great_1) (fun _ => rfl) (fun _ _ => by kernel_rfl) (by kernel_rfl) (fun b => by cases b <;> rfl) roundref23_Great_1
noncomputable def Bref23_Great_2 : Code := (loopAt (Tryz.f11.body.getD .skip) 0 2).getD .skip
theorem roundref23_Great_2 (s : Sref23_Great_2) : round Eref23_Great href23_Great_2 Bref23_Great_2 2 (eSref23_Great_2 s) = (Wref23_Great_2 s).map (sumE eSref23_Great_2 xSref23_Great_2) := by kernel_rfl
theorem lpref23_Great_2 : LpOk Eref23_Great Bref23_Great_2 2 := mkLoop_ok (A := tAref23_Great_2) (B := tBref23_Great_2) (f := Pref23_Great_2) (L := Lref23_Great_2 none) (tO_ok (cK_ok cUnit_ok) (tO_ok (cPair_ok (cInt_ok .i64) cUnit_ok) tNil_ok)) (bC_ok (cPair_ok cMachine_ok cUnit_ok) bNil_ok) (enc := eSref23_Great_2) (out := xTref23_Great_2) (outS := xSref23_Great_2) (step := Wref23_Great_2) (fun _ => rfl) (fun _ _ => by kernel_rfl) (by kernel_rfl) (fun b => by cases b <;> rfl) roundref23_Great_2
theorem runref23_Great (x : Machine × Unit) (g : Unit) : execF Eref23_Great Tryz.f11 (Aref23_Great.enc x) (bNil.enc g) = (Tref23_Great none x.1).map Rref23_Great := by kernel_rfl
theorem okref23_Great : FnOk Tryz.prog cd 11 Sref23_Great := mk_ok (E := Eref23_Great) cd_ok fns10_ok Tryz.func11 (by kernel_rfl) (loops_of (addL_ok lpref23_Great_0 (addL_ok lpref23_Great_1 (addL_ok lpref23_Great_2 noL_ok)))) (aA_ok cMachine_ok (aNil_ok)) bNil_ok (T := fun x _ => Tref23_Great none x.1) (fun _ _ => rfl) runref23_Great
noncomputable def fns11 := addF 11 true Sref23_Great fns10
theorem fns11_ok : ∀ f q t, fns11 f = some (q, t) → FnOk Tryz.prog cd f t := addF_ok okref23_Great fns10_ok
/-- emulator/octet.Crc -/
noncomputable def Toctet_Crc (q : Option Nat) (x0 : (List UInt8)) : Tree Int :=
  .opt Int (octet_sum q ([x0])) fun r467 =>
    .leaf (r467)
noncomputable def octet_Crc (q : Option Nat) (x0 : (List UInt8)) : Option Int := (Toctet_Crc q x0).run
noncomputable def Aoctet_Crc : Arg U ((List UInt8) × Unit) := aO cStr (aNil)
noncomputable def Roctet_Crc (r : Int) : List (V U) × List (Blk U) := ([vO (cInt .i64) r], [])
noncomputable def Soctet_Crc : List (V U) → List (Blk U) → Option (FnOut U) := mkSpec Aoctet_Crc bNil (fun x _ => octet_Crc none x.1) Roctet_Crc
noncomputable def Eoctet_Crc : Env U := { P := Tryz.prog, cd := cd, fns := (addF 46 false (frzSpec Soctet_sum) fns11), lps := noL, frz := fun _r => false, nt := 6, n0 := 0 }
theorem runoctet_Crc (x : (List UInt8) × Unit) (g : Unit) : execF Eoctet_Crc Tryz.f41 (Aoctet_Crc.enc x) (bNil.enc g) = (Toctet_Crc none x.1).map Roctet_Crc := by kernel_rfl
theorem okoctet_Crc : FnOk Tryz.prog cd 41 Soctet_Crc := mk_ok (E := Eoctet_Crc) cd_ok (addF_ok (fnOk_frz cd_ok (mkSpec_out fun _ => rfl) okoctet_sum) fns11_ok) Tryz.func41 (by kernel_rfl) (noLoops_body (by kernel_rfl)) (aO_ok cStr_ok (aNil_ok)) bNil_ok (T := fun x _ => Toctet_Crc none x.1) (fun _ _ => rfl) runoctet_Crc
noncomputable def fns41 := addF 41 true Soctet_Crc fns11
theorem fns41_ok : ∀ f q t, fns41 f = some (q, t) → FnOk Tryz.prog cd f t := addF_ok okoctet_Crc fns11_ok
/-- emulator/save.Digest -/
noncomputable def Tsave_Digest (q : Option Nat) (x0 : Machine) : Tree Int :=
  .opt ((List UInt8) × Int) (save_Encode q x0) fun r468 =>
    .ite (!decide (r468.2 = (0 : Int)))
      (.leaf ((0 : Int)))
      (.ite (decide (0 ≤ IntKind.wrap .i64 ((r468.1.length : Int) - (4 : Int))))
        (.ite (decide (IntKind.wrap .i64 ((r468.1.length : Int) - (4 : Int)) ≤ ((r468.1.length : Nat) : Int)))
          (.opt Int (octet_Crc q ((r468.1.drop (0)).take ((IntKind.wrap .i64 ((r468.1.length : Int) - (4 : Int))).toNat - 0))) fun r469 =>
            .leaf (r469))
          .fail)
        .fail)
noncomputable def save_Digest (q : Option Nat) (x0 : Machine) : Option Int := (Tsave_Digest q x0).run
noncomputable def Asave_Digest : Arg U (Machine × Unit) := aA cMachine (aNil)
noncomputable def Rsave_Digest (r : Int) : List (V U) × List (Blk U) := ([vO (cInt .i64) r], [])
noncomputable def Ssave_Digest : List (V U) → List (Blk U) → Option (FnOut U) := mkSpec Asave_Digest bNil (fun x _ => save_Digest none x.1) Rsave_Digest
noncomputable def Esave_Digest : Env U := { P := Tryz.prog, cd := cd, fns := fns41, lps := noL, frz := fun _r => false, nt := 18, n0 := 0 }
theorem runsave_Digest (x : Machine × Unit) (g : Unit) : execF Esave_Digest Tryz.f14 (Asave_Digest.enc x) (bNil.enc g) = (Tsave_Digest none x.1).map Rsave_Digest := by kernel_rfl
theorem oksave_Digest : FnOk Tryz.prog cd 14 Ssave_Digest := mk_ok (E := Esave_Digest) cd_ok fns41_ok Tryz.func14 (by kernel_rfl) (noLoops_body (by kernel_rfl)) (aA_ok cMachine_ok (aNil_ok)) bNil_ok (T := fun x _ => Tsave_Digest none x.1) (fun _ _ => rfl) runsave_Digest
noncomputable def fns14 := addF 14 true Ssave_Digest fns41
theorem fns14_ok : ∀ f q t, fns14 f = some (q, t) → FnOk Tryz.prog cd f t := addF_ok oksave_Digest fns41_ok
/-- emulator/emulatorref14.Right -/
noncomputable def Tref14_Right (x0 : Line) : Tree Bool :=
  .ite (decide (x0.rxData < (0 : Int)))
    (.leaf (false))
    (.ite (decide ((255 : Int) < x0.rxData))
      (.leaf (false))
      (.ite (decide (x0.txData < (0 : Int)))
        (.leaf (false))
        (.ite (decide ((255 : Int) < x0.txData))
          (.leaf (false))
          (.ite (decide ((4096 : Int) < (x0.out.length : Int)))
            (.leaf (false))
            (.ite (decide ((0 : Int) ≤ x0.txLeft))
              (.ite (decide (x0.txLeft ≤ (4 : Int)))
                (.leaf ((x0.txReady == (decide (x0.txLeft = (0 : Int))))))
                (.leaf (false)))
              (.leaf (false)))))))
noncomputable def ref14_Right (x0 : Line) : Option Bool := (Tref14_Right x0).run
noncomputable def Aref14_Right : Arg U (Line × Unit) := aA cLine (aNil)
noncomputable def Rref14_Right (r : Bool) : List (V U) × List (Blk U) := ([vO cBool r], [])
noncomputable def Sref14_Right : List (V U) → List (Blk U) → Option (FnOut U) := mkSpec Aref14_Right bNil (fun x _ => ref14_Right x.1) Rref14_Right
noncomputable def Eref14_Right : Env U := { P := Tryz.prog, cd := cd, fns := fns14, lps := noL, frz := fun _r => false, nt := 43, n0 := 0 }
theorem runref14_Right (x : Line × Unit) (g : Unit) : execF Eref14_Right Tryz.f98 (Aref14_Right.enc x) (bNil.enc g) = (Tref14_Right x.1).map Rref14_Right := by kernel_rfl
theorem okref14_Right : FnOk Tryz.prog cd 98 Sref14_Right := mk_ok (E := Eref14_Right) cd_ok fns14_ok Tryz.func98 (by kernel_rfl) (noLoops_body (by kernel_rfl)) (aA_ok cLine_ok (aNil_ok)) bNil_ok (T := fun x _ => Tref14_Right x.1) (fun _ _ => rfl) runref14_Right
noncomputable def fns98 := addF 98 true Sref14_Right fns14
theorem fns98_ok : ∀ f q t, fns98 f = some (q, t) → FnOk Tryz.prog cd f t := addF_ok okref14_Right fns14_ok
/-- emulator/emulatorref08.Size -/
noncomputable def Tref08_Size (x0 : Int) : Tree Bool :=
  .ite (decide ((256 : Int) ≤ x0))
    (.ite (decide (x0 ≤ (32768 : Int)))
      (.ite (decide ((64 : Int) = 0))
        .fail
        (.leaf (decide (((x0).tmod (64 : Int)) = (0 : Int)))))
      (.leaf (false)))
    (.leaf (false))
noncomputable def ref08_Size (x0 : Int) : Option Bool := (Tref08_Size x0).run
noncomputable def Aref08_Size : Arg U (Int × Unit) := aO (cInt .i64) (aNil)
noncomputable def Rref08_Size (r : Bool) : List (V U) × List (Blk U) := ([vO cBool r], [])
noncomputable def Sref08_Size : List (V U) → List (Blk U) → Option (FnOut U) := mkSpec Aref08_Size bNil (fun x _ => ref08_Size x.1) Rref08_Size
noncomputable def Eref08_Size : Env U := { P := Tryz.prog, cd := cd, fns := fns98, lps := noL, frz := fun _r => false, nt := 14, n0 := 0 }
theorem runref08_Size (x : Int × Unit) (g : Unit) : execF Eref08_Size Tryz.f132 (Aref08_Size.enc x) (bNil.enc g) = (Tref08_Size x.1).map Rref08_Size := by kernel_rfl
theorem okref08_Size : FnOk Tryz.prog cd 132 Sref08_Size := mk_ok (E := Eref08_Size) cd_ok fns98_ok Tryz.func132 (by kernel_rfl) (noLoops_body (by kernel_rfl)) (aO_ok (cInt_ok .i64) (aNil_ok)) bNil_ok (T := fun x _ => Tref08_Size x.1) (fun _ _ => rfl) runref08_Size
noncomputable def fns132 := addF 132 true Sref08_Size fns98
theorem fns132_ok : ∀ f q t, fns132 f = some (q, t) → FnOk Tryz.prog cd f t := addF_ok okref08_Size fns98_ok
/-- emulator/emulatorref08.Right -/
structure Sref08_Right_0 where
  t0 : (List Int)
  t1 : (List Int)
  t5 : Int
noncomputable def Wref08_Right_0 (s : Sref08_Right_0) : Tree (Sref08_Right_0 ⊕ (((List Int) × (List Int) × Bool) ⊕ ((List Int) × (List Int)))) :=
  .ite (decide (s.t5 < (s.t0.length : Int)))
    (.ite (decide (0 ≤ s.t5))
      (.opt Int (s.t0[(s.t5).toNat]?) fun y471 =>
        .ite (decide (y471 < (0 : Int)))
          (.leaf (.inr (.inl (s.t0, s.t1, false))))
          (.ite (decide (0 ≤ s.t5))
            (.opt Int (s.t0[(s.t5).toNat]?) fun y472 =>
              .ite (decide ((65535 : Int) < y472))
                (.leaf (.inr (.inl (s.t0, s.t1, false))))
                (.leaf (.inl (Sref08_Right_0.mk s.t0 s.t1 (IntKind.wrap .i64 (s.t5 + (1 : Int)))))))
            .fail))
      .fail)
    (.leaf (.inr (.inr (s.t0, s.t1))))
noncomputable def Lref08_Right_0 (q : Option Nat) (s : Sref08_Right_0) : Option (((List Int) × (List Int) × Bool) ⊕ ((List Int) × (List Int))) := limQ q (fun s => (Wref08_Right_0 s).run) s
structure Sref08_Right_1 where
  t0 : (List Int)
  t1 : (List Int)
  t6 : Int
noncomputable def Wref08_Right_1 (s : Sref08_Right_1) : Tree (Sref08_Right_1 ⊕ (Bool ⊕ Unit)) :=
  .ite (decide (s.t6 < (s.t1.length : Int)))
    (.ite (decide (0 ≤ s.t6))
      (.opt Int (s.t1[(s.t6).toNat]?) fun y476 =>
        .ite (decide (y476 < (0 : Int)))
          (.leaf (.inr (.inl false)))
          (.ite (decide (0 ≤ s.t6))
            (.opt Int (s.t1[(s.t6).toNat]?) fun y477 =>
              .ite (decide ((IntKind.wrap .i64 ((2 : Int) * (s.t0.length : Int))) ≤ y477))
                (.leaf (.inr (.inl false)))
                (.ite (decide (0 ≤ s.t6))
                  (.opt Int (s.t1[(s.t6).toNat]?) fun y478 =>
                    .ite (decide ((2 : Int) = 0))
                      .fail
                      (.ite (!decide (((y478).tmod (2 : Int)) = (0 : Int)))
                        (.leaf (.inr (.inl false)))
                        (.ite (decide ((0 : Int) < s.t6))
                          (.ite (decide (0 ≤ s.t6))
                            (.opt Int (s.t1[(s.t6).toNat]?) fun y479 =>
                              .ite (decide (0 ≤ IntKind.wrap .i64 (s.t6 - (1 : Int))))
                                (.opt Int (s.t1[(IntKind.wrap .i64 (s.t6 - (1 : Int))).toNat]?) fun y480 =>
                                  .ite (decide (y479 ≤ y480))
                                    (.leaf (.inr (.inl false)))
                                    (.leaf (.inl (Sref08_Right_1.mk s.t0 s.t1 (IntKind.wrap .i64 (s.t6 + (1 : Int)))))))
                                .fail)
                            .fail)
                          (.leaf (.inl (Sref08_Right_1.mk s.t0 s.t1 (IntKind.wrap .i64 (s.t6 + (1 : Int)))))))))
                  .fail))
            .fail))
      .fail)
    (.leaf (.inr (.inr ())))
noncomputable def Lref08_Right_1 (q : Option Nat) (s : Sref08_Right_1) : Option (Bool ⊕ Unit) := limQ q (fun s => (Wref08_Right_1 s).run) s
noncomputable def Tref08_Right (q : Option Nat) (x0 : (List Int)) (x1 : (List Int)) : Tree Bool :=
  .opt Bool (ref08_Size (IntKind.wrap .i64 ((2 : Int) * (x0.length : Int)))) fun r470 =>
    .ite (!r470)
      (.leaf (false))
      (.opt (((List Int) × (List Int) × Bool) ⊕ ((List Int) × (List Int))) (Lref08_Right_0 q (Sref08_Right_0.mk x0 x1 (0 : Int))) fun l473 =>
        .ite (l473.isLeft)
          (.opt ((List Int) × (List Int) × Bool) (l473.getLeft?) fun a474 =>
            .leaf (a474.2.2))
          (.opt ((List Int) × (List Int)) (l473.getRight?) fun b475 =>
            .opt (Bool ⊕ Unit) (Lref08_Right_1 q (Sref08_Right_1.mk b475.1 b475.2 (0 : Int))) fun l481 =>
              .ite (l481.isLeft)
                (.opt Bool (l481.getLeft?) fun a482 =>
                  .leaf (a482))
                (.opt Unit (l481.getRight?) fun b483 =>
                  .leaf (true))))
noncomputable def ref08_Right (q : Option Nat) (x0 : (List Int)) (x1 : (List Int)) : Option Bool := (Tref08_Right q x0 x1).run
noncomputable def Aref08_Right : Arg U ((List Int) × (List Int) × Unit) := aO (cSl 3) (aO (cSl 3) (aNil))
noncomputable def Rref08_Right (r : Bool) : List (V U) × List (Blk U) := ([vO cBool r], [])
noncomputable def Sref08_Right : List (V U) → List (Blk U) → Option (FnOut U) := mkSpec Aref08_Right bNil (fun x _ => ref08_Right none x.1 x.2.1) Rref08_Right
noncomputable def Pref08_Right_0 (x : ((List Int) × Unit) × ((List Int) × Unit) × (Int × Unit) × Unit) (_g : Unit) : Sref08_Right_0 := Sref08_Right_0.mk x.1.1 x.2.1.1 x.2.2.1.1
noncomputable def tAref08_Right_0 : Tms U (((List Int) × Unit) × ((List Int) × Unit) × (Int × Unit) × Unit) := tO 0 (cPair (cSl 3) (cUnit)) (tO 1 (cPair (cSl 3) (cUnit)) (tO 5 (cPair (cInt .i64) (cUnit)) (tNil)))
noncomputable def tBref08_Right_0 : Bls U (Unit) := bNil
noncomputable def eSref08_Right_0 (s : Sref08_Right_0) : St U := { tm := [(0, .v (vO (cPair (cSl 3) (cUnit)) (s.t0, ()))), (1, .v (vO (cPair (cSl 3) (cUnit)) (s.t1, ()))), (5, .v (vO (cPair (cInt .i64) (cUnit)) (s.t5, ())))], hp := [] }
noncomputable def xSref08_Right_0 : (((List Int) × (List Int) × Bool) ⊕ ((List Int) × (List Int))) → Ex × St U
  | .inl r => (.ret, { tm := [(0, .v (vO (cPair (cSl 3) (cUnit)) (r.1, ()))), (1, .v (vO (cPair (cSl 3) (cUnit)) (r.2.1, ()))), (4, .v (vO (cPair cBool (cUnit)) (r.2.2, ())))], hp := [] })
  | .inr r => (.exit 0, { tm := [(0, .v (vO (cPair (cSl 3) (cUnit)) (r.1, ()))), (1, .v (vO (cPair (cSl 3) (cUnit)) (r.2, ())))], hp := [] })
noncomputable def xTref08_Right_0 (y : (((List Int) × (List Int) × Bool) ⊕ ((List Int) × (List Int)))) : Tree (Ex × St U) := .ite y.isLeft (.opt ((List Int) × (List Int) × Bool) y.getLeft? fun r => .leaf (.ret, { tm := [(0, .v (vO (cPair (cSl 3) (cUnit)) (r.1, ()))), (1, .v (vO (cPair (cSl 3) (cUnit)) (r.2.1, ()))), (4, .v (vO (cPair cBool (cUnit)) (r.2.2, ())))], hp := [] })) (.opt ((List Int) × (List Int)) y.getRight? fun r => .leaf (.exit 0, { tm := [(0, .v (vO (cPair (cSl 3) (cUnit)) (r.1, ()))), (1, .v (vO (cPair (cSl 3) (cUnit)) (r.2, ())))], hp := [] }))
noncomputable def href08_Right_0 : Hd := { keep := [0, 1, 5], xkeep := [0, 1, 4], own := false }
noncomputable def Pref08_Right_1 (x : ((List Int) × Unit) × ((List Int) × Unit) × (Int × Unit) × Unit) (_g : Unit) : Sref08_Right_1 := Sref08_Right_1.mk x.1.1 x.2.1.1 x.2.2.1.1
noncomputable def tAref08_Right_1 : Tms U (((List Int) × Unit) × ((List Int) × Unit) × (Int × Unit) × Unit) := tO 0 (cPair (cSl 3) (cUnit)) (tO 1 (cPair (cSl 3) (cUnit)) (tO 6 (cPair (cInt .i64) (cUnit)) (tNil)))
noncomputable def tBref08_Right_1 : Bls U (Unit) := bNil
noncomputable def eSref08_Right_1 (s : Sref08_Right_1) : St U := { tm := [(0, .v (vO (cPair (cSl 3) (cUnit)) (s.t0, ()))), (1, .v (vO (cPair (cSl 3) (cUnit)) (s.t1, ()))), (6, .v (vO (cPair (cInt .i64) (cUnit)) (s.t6, ())))], hp := [] }
noncomputable def xSref08_Right_1 : (Bool ⊕ Unit) → Ex × St U
  | .inl r => (.ret, { tm := [(4, .v (vO (cPair cBool (cUnit)) (r, ())))], hp := [] })
  | .inr r => (.exit 2, { tm := [], hp := [] })
noncomputable def xTref08_Right_1 (y : (Bool ⊕ Unit)) : Tree (Ex × St U) := .ite y.isLeft (.opt Bool y.getLeft? fun r => .leaf (.ret, { tm := [(4, .v (vO (cPair cBool (cUnit)) (r, ())))], hp := [] })) (.opt Unit y.getRight? fun r => .leaf (.exit 2, { tm := [], hp := [] }))
noncomputable def href08_Right_1 : Hd := { keep := [0, 1, 6], xkeep := [4], own := false }
noncomputable def Eref08_Right : Env U := { P := Tryz.prog, cd := cd, fns := fns132, lps := (addL 0 href08_Right_0 (mkLoop tAref08_Right_0 tBref08_Right_0 Pref08_Right_0 (Lref08_Right_0 none) xTref08_Right_0) (addL 1 href08_Right_1 (mkLoop tAref08_Right_1 tBref08_Right_1 Pref08_Right_1 (Lref08_Right_1 none) xTref08_Right_1) noL)), frz := fun _r => false, nt := 75, n0 := 0 }
noncomputable def Bref08_Right_0 : Code := (loopAt (Tryz.f99.body.getD .skip) 0 0).getD .skip
theorem roundref08_Right_0 (s : Sref08_Right_0) : round Eref08_Right href08_Right_0 Bref08_Right_0 0 (eSref08_Right_0 s) = (Wref08_Right_0 s).map (sumE eSref08_Right_0 xSref08_Right_0) := by kernel_rfl
theorem lpref08_Right_0 : LpOk Eref08_Right Bref08_Right_0 0 := mkLoop_ok (A := tAref08_Right_0) (B := tBref08_Right_0) (f := Pref08_Right_0) (L := Lref08_Right_0 none) (tO_ok (cPair_ok (cSl_ok 3) cUnit_ok) (tO_ok (cPair_ok (cSl_ok 3) cUnit_ok) (tO_ok (cPair_ok (cInt_ok .i64) cUnit_ok) tNil_ok))) bNil_ok (enc := eSref08_Right_0) (out := xTref08_Right_0) (outS := xSref08_Right_0) (step := Wref08_Right_0) (fun _ => rfl) (fun _ _ => by kernel_rfl) (by kernel_rfl) (fun b => by cases b <;> rfl) roundref08_Right_0
noncomputable def Bref08_Right_1 : Code := (loopAt (Tryz.f99.body.getD .skip) 0 1).getD .skip
theorem roundref08_Right_1 (s : Sref08_Right_1) : round Eref08_Right href08_Right_1 Bref08_Right_1 1 (eSref08_Right_1 s) = (Wref08_Right_1 s).map (sumE eSref08_Right_1 xSref08_Right_1) := by kernel_rfl
theorem lpref08_Right_1 : LpOk Eref08_Right Bref08_Right_1 1 := mkLoop_ok (A := tAref08_Right_1) (B := tBref08_Right_1) (f := Pref08_Right_1) (L := Lref08_Right_1 none) (tO_ok (cPair_ok (cSl_ok 3) cUnit_ok) (tO_ok (cPair_ok (cSl_ok 3) cUnit_ok) (tO_ok (cPair_ok (cInt_ok .i64) cUnit_ok) tNil_ok))) bNil_ok (enc := eSref08_Right_1) (out := xTref08_Right_1) (outS := xSref08_Right_1) (step := Wref08_Right_1) (fun _ => rfl) (fun _ _ => by kernel_rfl) (by kernel_rfl) (fun b => by cases b <;> rfl) roundref08_Right_1
theorem runref08_Right (x : (List Int) × (List Int) × Unit) (g : Unit) : execF Eref08_Right Tryz.f99 (Aref08_Right.enc x) (bNil.enc g) = (Tref08_Right none x.1 x.2.1).map Rref08_Right := by kernel_rfl
theorem okref08_Right : FnOk Tryz.prog cd 99 Sref08_Right := mk_ok (E := Eref08_Right) cd_ok fns132_ok Tryz.func99 (by kernel_rfl) (loops_of (addL_ok lpref08_Right_0 (addL_ok lpref08_Right_1 noL_ok))) (aO_ok (cSl_ok 3) (aO_ok (cSl_ok 3) (aNil_ok))) bNil_ok (T := fun x _ => Tref08_Right none x.1 x.2.1) (fun _ _ => rfl) runref08_Right
noncomputable def fns99 := addF 99 true Sref08_Right fns132
theorem fns99_ok : ∀ f q t, fns99 f = some (q, t) → FnOk Tryz.prog cd f t := addF_ok okref08_Right fns132_ok
/-- emulator/emulatorref09.Right -/
structure Sref09_Right_1 where
  t3 : Int
  t4 : Int
  b0 : Mmu
noncomputable def Wref09_Right_1 (s : Sref09_Right_1) : Tree (Sref09_Right_1 ⊕ ((Bool × Int × Mmu) ⊕ (Int × Mmu))) :=
  .ite (decide (s.t4 < (8 : Int)))
    (.ite (decide (0 ≤ s.t3))
      (.ite (decide (s.t3 < (2 : Int)))
        (.ite (decide (0 ≤ s.t4))
          (.ite (decide (s.t4 < (8 : Int)))
            (.opt Page (s.b0.pages[(s.t3).toNat * 8 + (s.t4).toNat * 1]?) fun y484 =>
              .ite (decide (y484.base < (0 : Int)))
                (.leaf (.inr (.inl (false, s.t3, s.b0))))
                (.ite (decide ((4095 : Int) < y484.base))
                  (.leaf (.inr (.inl (false, s.t3, s.b0))))
                  (.ite (decide (y484.length < (0 : Int)))
                    (.leaf (.inr (.inl (false, s.t3, s.b0))))
                    (.ite (decide ((128 : Int) < y484.length))
                      (.leaf (.inr (.inl (false, s.t3, s.b0))))
                      (.ite (decide (y484.access < (0 : Int)))
                        (.leaf (.inr (.inl (false, s.t3, s.b0))))
                        (.ite (decide ((2 : Int) < y484.access))
                          (.leaf (.inr (.inl (false, s.t3, s.b0))))
                          (.leaf (.inl (Sref09_Right_1.mk s.t3 (IntKind.wrap .i64 (s.t4 + (1 : Int))) s.b0)))))))))
            .fail)
          .fail)
        .fail)
      .fail)
    (.leaf (.inr (.inr (s.t3, s.b0))))
noncomputable def Lref09_Right_1 (q : Option Nat) (s : Sref09_Right_1) : Option ((Bool × Int × Mmu) ⊕ (Int × Mmu)) := limQ q (fun s => (Wref09_Right_1 s).run) s
structure Sref09_Right_0 where
  t3 : Int
  b0 : Mmu
noncomputable def Wref09_Right_0 (q : Option Nat) (s : Sref09_Right_0) : Tree (Sref09_Right_0 ⊕ ((Bool × Mmu) ⊕ Mmu)) :=
  .ite (decide (s.t3 < (2 : Int)))
    (.opt ((Bool × Int × Mmu) ⊕ (Int × Mmu)) (Lref09_Right_1 q (Sref09_Right_1.mk s.t3 (0 : Int) s.b0)) fun l485 =>
      .ite (l485.isLeft)
        (.opt (Bool × Int × Mmu) (l485.getLeft?) fun a486 =>
          .leaf (.inr (.inl (a486.1, a486.2.2))))
        (.opt (Int × Mmu) (l485.getRight?) fun b487 =>
          .leaf (.inl (Sref09_Right_0.mk (IntKind.wrap .i64 (b487.1 + (1 : Int))) b487.2))))
    (.leaf (.inr (.inr s.b0)))
noncomputable def Lref09_Right_0 (q : Option Nat) (s : Sref09_Right_0) : Option ((Bool × Mmu) ⊕ Mmu) := limQ q (fun s => (Wref09_Right_0 q s).run) s
noncomputable def Tref09_Right (q : Option Nat) (x0 : Mmu) : Tree Bool :=
  .opt ((Bool × Mmu) ⊕ Mmu) (Lref09_Right_0 q (Sref09_Right_0.mk (0 : Int) x0)) fun l488 =>
    .ite (l488.isLeft)
      (.opt (Bool × Mmu) (l488.getLeft?) fun a489 =>
        .leaf (a489.1))
      (.opt Mmu (l488.getRight?) fun b490 =>
        .ite (decide ((0 : Int) ≤ b490.status))
          (.ite (decide (b490.status ≤ (3 : Int)))
            (.ite (decide ((0 : Int) ≤ b490.addr))
              (.leaf (decide (b490.addr < (65536 : Int))))
              (.leaf (false)))
            (.leaf (false)))
          (.leaf (false)))
noncomputable def ref09_Right (q : Option Nat) (x0 : Mmu) : Option Bool := (Tref09_Right q x0).run
noncomputable def Aref09_Right : Arg U (Mmu × Unit) := aA cMmu (aNil)
noncomputable def Rref09_Right (r : Bool) : List (V U) × List (Blk U) := ([vO cBool r], [])
noncomputable def Sref09_Right : List (V U) → List (Blk U) → Option (FnOut U) := mkSpec Aref09_Right bNil (fun x _ => ref09_Right none x.1) Rref09_Right
noncomputable def Pref09_Right_0 (x : (Unit) × (Int × Unit) × Unit) (g : (Mmu × Unit) × Unit) : Sref09_Right_0 := Sref09_Right_0.mk x.2.1.1 g.1.1
noncomputable def tAref09_Right_0 : Tms U ((Unit) × (Int × Unit) × Unit) := tO 1 (cK (.ptr 0 0) (cUnit)) (tO 3 (cPair (cInt .i64) (cUnit)) (tNil))
noncomputable def tBref09_Right_0 : Bls U ((Mmu × Unit) × Unit) := bC (cPair cMmu (cUnit)) (bNil)
noncomputable def eSref09_Right_0 (s : Sref09_Right_0) : St U := { tm := [(1, .v (vO (cK (.ptr 0 0) (cUnit)) (()))), (3, .v (vO (cPair (cInt .i64) (cUnit)) (s.t3, ())))], hp := [.cells ((cPair cMmu (cUnit) : Cdc U (Mmu × Unit)).enc (s.b0, ())) none] }
noncomputable def xSref09_Right_0 : ((Bool × Mmu) ⊕ Mmu) → Ex × St U
  | .inl r => (.ret, { tm := [(1, .v (vO (cK (.ptr 0 0) (cUnit)) (()))), (2, .v (vO (cPair cBool (cUnit)) (r.1, ())))], hp := [.cells ((cPair cMmu (cUnit) : Cdc U (Mmu × Unit)).enc (r.2, ())) none] })
  | .inr r => (.exit 0, { tm := [(1, .v (vO (cK (.ptr 0 0) (cUnit)) (())))], hp := [.cells ((cPair cMmu (cUnit) : Cdc U (Mmu × Unit)).enc (r, ())) none] })
noncomputable def xTref09_Right_0 (y : ((Bool × Mmu) ⊕ Mmu)) : Tree (Ex × St U) := .ite y.isLeft (.opt (Bool × Mmu) y.getLeft? fun r => .leaf (.ret, { tm := [(1, .v (vO (cK (.ptr 0 0) (cUnit)) (()))), (2, .v (vO (cPair cBool (cUnit)) (r.1, ())))], hp := [.cells ((cPair cMmu (cUnit) : Cdc U (Mmu × Unit)).enc (r.2, ())) none] })) (.opt Mmu y.getRight? fun r => .leaf (.exit 0, { tm := [(1, .v (vO (cK (.ptr 0 0) (cUnit)) (())))], hp := [.cells ((cPair cMmu (cUnit) : Cdc U (Mmu × Unit)).enc (r, ())) none] }))
noncomputable def href09_Right_0 : Hd := { keep := [1, 3], xkeep := [1, 2], own := false }
noncomputable def Pref09_Right_1 (x : (Unit) × (Int × Unit) × (Int × Unit) × Unit) (g : (Mmu × Unit) × Unit) : Sref09_Right_1 := Sref09_Right_1.mk x.2.1.1 x.2.2.1.1 g.1.1
noncomputable def tAref09_Right_1 : Tms U ((Unit) × (Int × Unit) × (Int × Unit) × Unit) := tO 1 (cK (.ptr 0 0) (cUnit)) (tO 3 (cPair (cInt .i64) (cUnit)) (tO 4 (cPair (cInt .i64) (cUnit)) (tNil)))
noncomputable def tBref09_Right_1 : Bls U ((Mmu × Unit) × Unit) := bC (cPair cMmu (cUnit)) (bNil)
noncomputable def eSref09_Right_1 (s : Sref09_Right_1) : St U := { tm := [(1, .v (vO (cK (.ptr 0 0) (cUnit)) (()))), (3, .v (vO (cPair (cInt .i64) (cUnit)) (s.t3, ()))), (4, .v (vO (cPair (cInt .i64) (cUnit)) (s.t4, ())))], hp := [.cells ((cPair cMmu (cUnit) : Cdc U (Mmu × Unit)).enc (s.b0, ())) none] }
noncomputable def xSref09_Right_1 : ((Bool × Int × Mmu) ⊕ (Int × Mmu)) → Ex × St U
  | .inl r => (.ret, { tm := [(1, .v (vO (cK (.ptr 0 0) (cUnit)) (()))), (2, .v (vO (cPair cBool (cUnit)) (r.1, ()))), (3, .v (vO (cPair (cInt .i64) (cUnit)) (r.2.1, ())))], hp := [.cells ((cPair cMmu (cUnit) : Cdc U (Mmu × Unit)).enc (r.2.2, ())) none] })
  | .inr r => (.exit 2, { tm := [(1, .v (vO (cK (.ptr 0 0) (cUnit)) (()))), (3, .v (vO (cPair (cInt .i64) (cUnit)) (r.1, ())))], hp := [.cells ((cPair cMmu (cUnit) : Cdc U (Mmu × Unit)).enc (r.2, ())) none] })
noncomputable def xTref09_Right_1 (y : ((Bool × Int × Mmu) ⊕ (Int × Mmu))) : Tree (Ex × St U) := .ite y.isLeft (.opt (Bool × Int × Mmu) y.getLeft? fun r => .leaf (.ret, { tm := [(1, .v (vO (cK (.ptr 0 0) (cUnit)) (()))), (2, .v (vO (cPair cBool (cUnit)) (r.1, ()))), (3, .v (vO (cPair (cInt .i64) (cUnit)) (r.2.1, ())))], hp := [.cells ((cPair cMmu (cUnit) : Cdc U (Mmu × Unit)).enc (r.2.2, ())) none] })) (.opt (Int × Mmu) y.getRight? fun r => .leaf (.exit 2, { tm := [(1, .v (vO (cK (.ptr 0 0) (cUnit)) (()))), (3, .v (vO (cPair (cInt .i64) (cUnit)) (r.1, ())))], hp := [.cells ((cPair cMmu (cUnit) : Cdc U (Mmu × Unit)).enc (r.2, ())) none] }))
noncomputable def href09_Right_1 : Hd := { keep := [1, 3, 4], xkeep := [1, 2, 3], own := false }
noncomputable def Eref09_Right : Env U := { P := Tryz.prog, cd := cd, fns := fns99, lps := (addL 0 href09_Right_0 (mkLoop tAref09_Right_0 tBref09_Right_0 Pref09_Right_0 (Lref09_Right_0 none) xTref09_Right_0) (addL 1 href09_Right_1 (mkLoop tAref09_Right_1 tBref09_Right_1 Pref09_Right_1 (Lref09_Right_1 none) xTref09_Right_1) noL)), frz := fun _r => false, nt := 66, n0 := 0 }
noncomputable def Bref09_Right_0 : Code := (loopAt (Tryz.f100.body.getD .skip) 0 0).getD .skip
theorem roundref09_Right_0 (s : Sref09_Right_0) : round Eref09_Right href09_Right_0 Bref09_Right_0 0 (eSref09_Right_0 s) = (Wref09_Right_0 none s).map (sumE eSref09_Right_0 xSref09_Right_0) := by kernel_rfl
theorem lpref09_Right_0 : LpOk Eref09_Right Bref09_Right_0 0 := mkLoop_ok (A := tAref09_Right_0) (B := tBref09_Right_0) (f := Pref09_Right_0) (L := Lref09_Right_0 none) (tO_ok (cK_ok cUnit_ok) (tO_ok (cPair_ok (cInt_ok .i64) cUnit_ok) tNil_ok)) (bC_ok (cPair_ok cMmu_ok cUnit_ok) bNil_ok) (enc := eSref09_Right_0) (out := xTref09_Right_0) (outS := xSref09_Right_0) (step := Wref09_Right_0 none) (fun _ => rfl) (fun _ _ => by kernel_rfl) (by kernel_rfl) (fun b => by cases b <;> rfl) roundref09_Right_0
noncomputable def Bref09_Right_1 : Code := (loopAt (Tryz.f100.body.getD .skip) 0 1).getD .skip
theorem roundref09_Right_1 (s : Sref09_Right_1) : round Eref09_Right href09_Right_1 Bref09_Right_1 1 (eSref09_Right_1 s) = (Wref09_Right_1 s).map (sumE eSref09_Right_1 xSref09_Right_1) := by kernel_rfl
theorem lpref09_Right_1 : LpOk Eref09_Right Bref09_Right_1 1 := mkLoop_ok (A := tAref09_Right_1) (B := tBref09_Right_1) (f := Pref09_Right_1) (L := Lref09_Right_1 none) (tO_ok (cK_ok cUnit_ok) (tO_ok (cPair_ok (cInt_ok .i64) cUnit_ok) (tO_ok (cPair_ok (cInt_ok .i64) cUnit_ok) tNil_ok))) (bC_ok (cPair_ok cMmu_ok cUnit_ok) bNil_ok) (enc := eSref09_Right_1) (out := xTref09_Right_1) (outS := xSref09_Right_1) (step := Wref09_Right_1) (fun _ => rfl) (fun _ _ => by kernel_rfl) (by kernel_rfl) (fun b => by cases b <;> rfl) roundref09_Right_1
theorem runref09_Right (x : Mmu × Unit) (g : Unit) : execF Eref09_Right Tryz.f100 (Aref09_Right.enc x) (bNil.enc g) = (Tref09_Right none x.1).map Rref09_Right := by kernel_rfl
theorem okref09_Right : FnOk Tryz.prog cd 100 Sref09_Right := mk_ok (E := Eref09_Right) cd_ok fns99_ok Tryz.func100 (by kernel_rfl) (loops_of (addL_ok lpref09_Right_0 (addL_ok lpref09_Right_1 noL_ok))) (aA_ok cMmu_ok (aNil_ok)) bNil_ok (T := fun x _ => Tref09_Right none x.1) (fun _ _ => rfl) runref09_Right
noncomputable def fns100 := addF 100 true Sref09_Right fns99
theorem fns100_ok : ∀ f q t, fns100 f = some (q, t) → FnOk Tryz.prog cd f t := addF_ok okref09_Right fns99_ok
/-- emulator/emulatorref13.Right -/
noncomputable def Tref13_Right (x0 : Clock) : Tree Bool :=
  .ite (decide ((1 : Int) ≤ x0.period))
    (.ite (decide (x0.period ≤ (65535 : Int)))
      (.ite (decide ((1 : Int) ≤ x0.left))
        (.leaf (decide (x0.left ≤ x0.period)))
        (.leaf (false)))
      (.leaf (false)))
    (.leaf (false))
noncomputable def ref13_Right (x0 : Clock) : Option Bool := (Tref13_Right x0).run
noncomputable def Aref13_Right : Arg U (Clock × Unit) := aA cClock (aNil)
noncomputable def Rref13_Right (r : Bool) : List (V U) × List (Blk U) := ([vO cBool r], [])
noncomputable def Sref13_Right : List (V U) → List (Blk U) → Option (FnOut U) := mkSpec Aref13_Right bNil (fun x _ => ref13_Right x.1) Rref13_Right
noncomputable def Eref13_Right : Env U := { P := Tryz.prog, cd := cd, fns := fns100, lps := noL, frz := fun _r => false, nt := 23, n0 := 0 }
theorem runref13_Right (x : Clock × Unit) (g : Unit) : execF Eref13_Right Tryz.f101 (Aref13_Right.enc x) (bNil.enc g) = (Tref13_Right x.1).map Rref13_Right := by kernel_rfl
theorem okref13_Right : FnOk Tryz.prog cd 101 Sref13_Right := mk_ok (E := Eref13_Right) cd_ok fns100_ok Tryz.func101 (by kernel_rfl) (noLoops_body (by kernel_rfl)) (aA_ok cClock_ok (aNil_ok)) bNil_ok (T := fun x _ => Tref13_Right x.1) (fun _ _ => rfl) runref13_Right
noncomputable def fns101 := addF 101 true Sref13_Right fns100
theorem fns101_ok : ∀ f q t, fns101 f = some (q, t) → FnOk Tryz.prog cd f t := addF_ok okref13_Right fns100_ok
/-- emulator/emulatorref16.word -/
noncomputable def Tref16_word (x0 : Int) : Tree Bool :=
  .ite (decide ((0 : Int) ≤ x0))
    (.leaf (decide (x0 ≤ (65535 : Int))))
    (.leaf (false))
noncomputable def ref16_word (x0 : Int) : Option Bool := (Tref16_word x0).run
noncomputable def Aref16_word : Arg U (Int × Unit) := aO (cInt .i64) (aNil)
noncomputable def Rref16_word (r : Bool) : List (V U) × List (Blk U) := ([vO cBool r], [])
noncomputable def Sref16_word : List (V U) → List (Blk U) → Option (FnOut U) := mkSpec Aref16_word bNil (fun x _ => ref16_word x.1) Rref16_word
noncomputable def Eref16_word : Env U := { P := Tryz.prog, cd := cd, fns := fns101, lps := noL, frz := fun _r => false, nt := 9, n0 := 0 }
theorem runref16_word (x : Int × Unit) (g : Unit) : execF Eref16_word Tryz.f133 (Aref16_word.enc x) (bNil.enc g) = (Tref16_word x.1).map Rref16_word := by kernel_rfl
theorem okref16_word : FnOk Tryz.prog cd 133 Sref16_word := mk_ok (E := Eref16_word) cd_ok fns101_ok Tryz.func133 (by kernel_rfl) (noLoops_body (by kernel_rfl)) (aO_ok (cInt_ok .i64) (aNil_ok)) bNil_ok (T := fun x _ => Tref16_word x.1) (fun _ _ => rfl) runref16_word
noncomputable def fns133 := addF 133 true Sref16_word fns101
theorem fns133_ok : ∀ f q t, fns133 f = some (q, t) → FnOk Tryz.prog cd f t := addF_ok okref16_word fns101_ok
/-- emulator/emulatorref15.Right -/
structure Sref15_Right_0 where
  t3 : Int
  b0 : Drive
noncomputable def Wref15_Right_0 (s : Sref15_Right_0) : Tree (Sref15_Right_0 ⊕ ((Bool × Drive) ⊕ Drive)) :=
  .ite (decide (s.t3 < (s.b0.sectors.length : Int)))
    (.ite (decide (0 ≤ s.t3))
      (.opt (List UInt8) (s.b0.sectors[(s.t3).toNat]?) fun y491 =>
        .ite (!decide ((y491.length : Int) = (128 : Int)))
          (.leaf (.inr (.inl (false, s.b0))))
          (.leaf (.inl (Sref15_Right_0.mk (IntKind.wrap .i64 (s.t3 + (1 : Int))) s.b0))))
      .fail)
    (.leaf (.inr (.inr s.b0)))
noncomputable def Lref15_Right_0 (q : Option Nat) (s : Sref15_Right_0) : Option ((Bool × Drive) ⊕ Drive) := limQ q (fun s => (Wref15_Right_0 s).run) s
structure Sref15_Right_1 where
  t4 : Int
  b0 : Drive
noncomputable def Wref15_Right_1 (s : Sref15_Right_1) : Tree (Sref15_Right_1 ⊕ (Bool ⊕ Unit)) :=
  .ite (decide (s.t4 < (s.b0.bad.length : Int)))
    (.ite (decide (0 ≤ s.t4))
      (.opt Int (s.b0.bad[(s.t4).toNat]?) fun y495 =>
        .ite (decide (y495 < (0 : Int)))
          (.leaf (.inr (.inl false)))
          (.ite (decide (0 ≤ s.t4))
            (.opt Int (s.b0.bad[(s.t4).toNat]?) fun y496 =>
              .ite (decide ((s.b0.sectors.length : Int) ≤ y496))
                (.leaf (.inr (.inl false)))
                (.ite (decide ((0 : Int) < s.t4))
                  (.ite (decide (0 ≤ IntKind.wrap .i64 (s.t4 - (1 : Int))))
                    (.opt Int (s.b0.bad[(IntKind.wrap .i64 (s.t4 - (1 : Int))).toNat]?) fun y497 =>
                      .ite (decide (0 ≤ s.t4))
                        (.opt Int (s.b0.bad[(s.t4).toNat]?) fun y498 =>
                          .ite (decide (y498 ≤ y497))
                            (.leaf (.inr (.inl false)))
                            (.leaf (.inl (Sref15_Right_1.mk (IntKind.wrap .i64 (s.t4 + (1 : Int))) s.b0))))
                        .fail)
                    .fail)
                  (.leaf (.inl (Sref15_Right_1.mk (IntKind.wrap .i64 (s.t4 + (1 : Int))) s.b0)))))
            .fail))
      .fail)
    (.leaf (.inr (.inr ())))
noncomputable def Lref15_Right_1 (q : Option Nat) (s : Sref15_Right_1) : Option (Bool ⊕ Unit) := limQ q (fun s => (Wref15_Right_1 s).run) s
noncomputable def Tref15_Right (q : Option Nat) (x0 : Drive) : Tree Bool :=
  .ite (decide ((x0.sectors.length : Int) < (1 : Int)))
    (.leaf (false))
    (.ite (decide ((256 : Int) < (x0.sectors.length : Int)))
      (.leaf (false))
      (.opt ((Bool × Drive) ⊕ Drive) (Lref15_Right_0 q (Sref15_Right_0.mk (0 : Int) x0)) fun l492 =>
        .ite (l492.isLeft)
          (.opt (Bool × Drive) (l492.getLeft?) fun a493 =>
            .leaf (a493.1))
          (.opt Drive (l492.getRight?) fun b494 =>
            .opt (Bool ⊕ Unit) (Lref15_Right_1 q (Sref15_Right_1.mk (0 : Int) b494)) fun l499 =>
              .ite (l499.isLeft)
                (.opt Bool (l499.getLeft?) fun a500 =>
                  .leaf (a500))
                (.opt Unit (l499.getRight?) fun b501 =>
                  .leaf (true)))))
noncomputable def ref15_Right (q : Option Nat) (x0 : Drive) : Option Bool := (Tref15_Right q x0).run
noncomputable def Aref15_Right : Arg U (Drive × Unit) := aA cDrive (aNil)
noncomputable def Rref15_Right (r : Bool) : List (V U) × List (Blk U) := ([vO cBool r], [])
noncomputable def Sref15_Right : List (V U) → List (Blk U) → Option (FnOut U) := mkSpec Aref15_Right bNil (fun x _ => ref15_Right none x.1) Rref15_Right
noncomputable def Pref15_Right_0 (x : (Unit) × (Int × Unit) × Unit) (g : (Drive × Unit) × Unit) : Sref15_Right_0 := Sref15_Right_0.mk x.2.1.1 g.1.1
noncomputable def tAref15_Right_0 : Tms U ((Unit) × (Int × Unit) × Unit) := tO 1 (cK (.ptr 0 0) (cUnit)) (tO 3 (cPair (cInt .i64) (cUnit)) (tNil))
noncomputable def tBref15_Right_0 : Bls U ((Drive × Unit) × Unit) := bC (cPair cDrive (cUnit)) (bNil)
noncomputable def eSref15_Right_0 (s : Sref15_Right_0) : St U := { tm := [(1, .v (vO (cK (.ptr 0 0) (cUnit)) (()))), (3, .v (vO (cPair (cInt .i64) (cUnit)) (s.t3, ())))], hp := [.cells ((cPair cDrive (cUnit) : Cdc U (Drive × Unit)).enc (s.b0, ())) none] }
noncomputable def xSref15_Right_0 : ((Bool × Drive) ⊕ Drive) → Ex × St U
  | .inl r => (.ret, { tm := [(1, .v (vO (cK (.ptr 0 0) (cUnit)) (()))), (2, .v (vO (cPair cBool (cUnit)) (r.1, ())))], hp := [.cells ((cPair cDrive (cUnit) : Cdc U (Drive × Unit)).enc (r.2, ())) none] })
  | .inr r => (.exit 0, { tm := [(1, .v (vO (cK (.ptr 0 0) (cUnit)) (())))], hp := [.cells ((cPair cDrive (cUnit) : Cdc U (Drive × Unit)).enc (r, ())) none] })
noncomputable def xTref15_Right_0 (y : ((Bool × Drive) ⊕ Drive)) : Tree (Ex × St U) := .ite y.isLeft (.opt (Bool × Drive) y.getLeft? fun r => .leaf (.ret, { tm := [(1, .v (vO (cK (.ptr 0 0) (cUnit)) (()))), (2, .v (vO (cPair cBool (cUnit)) (r.1, ())))], hp := [.cells ((cPair cDrive (cUnit) : Cdc U (Drive × Unit)).enc (r.2, ())) none] })) (.opt Drive y.getRight? fun r => .leaf (.exit 0, { tm := [(1, .v (vO (cK (.ptr 0 0) (cUnit)) (())))], hp := [.cells ((cPair cDrive (cUnit) : Cdc U (Drive × Unit)).enc (r, ())) none] }))
noncomputable def href15_Right_0 : Hd := { keep := [1, 3], xkeep := [1, 2], own := false }
noncomputable def Pref15_Right_1 (x : (Unit) × (Int × Unit) × Unit) (g : (Drive × Unit) × Unit) : Sref15_Right_1 := Sref15_Right_1.mk x.2.1.1 g.1.1
noncomputable def tAref15_Right_1 : Tms U ((Unit) × (Int × Unit) × Unit) := tO 1 (cK (.ptr 0 0) (cUnit)) (tO 4 (cPair (cInt .i64) (cUnit)) (tNil))
noncomputable def tBref15_Right_1 : Bls U ((Drive × Unit) × Unit) := bC (cPair cDrive (cUnit)) (bNil)
noncomputable def eSref15_Right_1 (s : Sref15_Right_1) : St U := { tm := [(1, .v (vO (cK (.ptr 0 0) (cUnit)) (()))), (4, .v (vO (cPair (cInt .i64) (cUnit)) (s.t4, ())))], hp := [.cells ((cPair cDrive (cUnit) : Cdc U (Drive × Unit)).enc (s.b0, ())) none] }
noncomputable def xSref15_Right_1 : (Bool ⊕ Unit) → Ex × St U
  | .inl r => (.ret, { tm := [(2, .v (vO (cPair cBool (cUnit)) (r, ())))], hp := [] })
  | .inr r => (.exit 2, { tm := [], hp := [] })
noncomputable def xTref15_Right_1 (y : (Bool ⊕ Unit)) : Tree (Ex × St U) := .ite y.isLeft (.opt Bool y.getLeft? fun r => .leaf (.ret, { tm := [(2, .v (vO (cPair cBool (cUnit)) (r, ())))], hp := [] })) (.opt Unit y.getRight? fun r => .leaf (.exit 2, { tm := [], hp := [] }))
noncomputable def href15_Right_1 : Hd := { keep := [1, 4], xkeep := [2], own := false }
noncomputable def Eref15_Right : Env U := { P := Tryz.prog, cd := cd, fns := fns133, lps := (addL 0 href15_Right_0 (mkLoop tAref15_Right_0 tBref15_Right_0 Pref15_Right_0 (Lref15_Right_0 none) xTref15_Right_0) (addL 1 href15_Right_1 (mkLoop tAref15_Right_1 tBref15_Right_1 Pref15_Right_1 (Lref15_Right_1 none) xTref15_Right_1) noL)), frz := fun _r => false, nt := 71, n0 := 0 }
noncomputable def Bref15_Right_0 : Code := (loopAt (Tryz.f134.body.getD .skip) 0 0).getD .skip
theorem roundref15_Right_0 (s : Sref15_Right_0) : round Eref15_Right href15_Right_0 Bref15_Right_0 0 (eSref15_Right_0 s) = (Wref15_Right_0 s).map (sumE eSref15_Right_0 xSref15_Right_0) := by kernel_rfl
theorem lpref15_Right_0 : LpOk Eref15_Right Bref15_Right_0 0 := mkLoop_ok (A := tAref15_Right_0) (B := tBref15_Right_0) (f := Pref15_Right_0) (L := Lref15_Right_0 none) (tO_ok (cK_ok cUnit_ok) (tO_ok (cPair_ok (cInt_ok .i64) cUnit_ok) tNil_ok)) (bC_ok (cPair_ok cDrive_ok cUnit_ok) bNil_ok) (enc := eSref15_Right_0) (out := xTref15_Right_0) (outS := xSref15_Right_0) (step := Wref15_Right_0) (fun _ => rfl) (fun _ _ => by kernel_rfl) (by kernel_rfl) (fun b => by cases b <;> rfl) roundref15_Right_0
noncomputable def Bref15_Right_1 : Code := (loopAt (Tryz.f134.body.getD .skip) 0 1).getD .skip
theorem roundref15_Right_1 (s : Sref15_Right_1) : round Eref15_Right href15_Right_1 Bref15_Right_1 1 (eSref15_Right_1 s) = (Wref15_Right_1 s).map (sumE eSref15_Right_1 xSref15_Right_1) := by kernel_rfl
theorem lpref15_Right_1 : LpOk Eref15_Right Bref15_Right_1 1 := mkLoop_ok (A := tAref15_Right_1) (B := tBref15_Right_1) (f := Pref15_Right_1) (L := Lref15_Right_1 none) (tO_ok (cK_ok cUnit_ok) (tO_ok (cPair_ok (cInt_ok .i64) cUnit_ok) tNil_ok)) (bC_ok (cPair_ok cDrive_ok cUnit_ok) bNil_ok) (enc := eSref15_Right_1) (out := xTref15_Right_1) (outS := xSref15_Right_1) (step := Wref15_Right_1) (fun _ => rfl) (fun _ _ => by kernel_rfl) (by kernel_rfl) (fun b => by cases b <;> rfl) roundref15_Right_1
theorem runref15_Right (x : Drive × Unit) (g : Unit) : execF Eref15_Right Tryz.f134 (Aref15_Right.enc x) (bNil.enc g) = (Tref15_Right none x.1).map Rref15_Right := by kernel_rfl
theorem okref15_Right : FnOk Tryz.prog cd 134 Sref15_Right := mk_ok (E := Eref15_Right) cd_ok fns133_ok Tryz.func134 (by kernel_rfl) (loops_of (addL_ok lpref15_Right_0 (addL_ok lpref15_Right_1 noL_ok))) (aA_ok cDrive_ok (aNil_ok)) bNil_ok (T := fun x _ => Tref15_Right none x.1) (fun _ _ => rfl) runref15_Right
noncomputable def fns134 := addF 134 true Sref15_Right fns133
theorem fns134_ok : ∀ f q t, fns134 f = some (q, t) → FnOk Tryz.prog cd f t := addF_ok okref15_Right fns133_ok
/-- emulator/emulatorref16.Right -/
noncomputable def Tref16_Right (q : Option Nat) (x0 : Disk) : Tree Bool :=
  .ite (decide (x0.command < (0 : Int)))
    (.leaf (false))
    (.ite (decide ((3 : Int) < x0.command))
      (.leaf (false))
      (.opt Bool (ref16_word x0.words) fun r502 =>
        .ite (!r502)
          (.leaf (false))
          (.opt Bool (ref16_word x0.addr) fun r503 =>
            .ite (!r503)
              (.leaf (false))
              (.opt Bool (ref16_word x0.start) fun r504 =>
                .ite (!r504)
                  (.leaf (false))
                  (.ite (decide ((2 : Int) = 0))
                    .fail
                    (.ite (!decide (((x0.addr).tmod (2 : Int)) = (0 : Int)))
                      (.leaf (false))
                      (.ite (decide (x0.left < (0 : Int)))
                        (.leaf (false))
                        (.ite (decide ((8 : Int) < x0.left))
                          (.leaf (false))
                          (.ite (!(x0.ready == (decide (x0.left = (0 : Int)))))
                            (.leaf (false))
                            (.ite (!decide (x0.left = (0 : Int)))
                              (.ite (decide (x0.command = (0 : Int)))
                                (.leaf (false))
                                (.ite (decide (x0.words = (0 : Int)))
                                  (.leaf (false))
                                  (.opt Bool (ref15_Right q x0.drive) fun r505 =>
                                    .leaf (r505))))
                              (.opt Bool (ref15_Right q x0.drive) fun r506 =>
                                .leaf (r506))))))))))))
noncomputable def ref16_Right (q : Option Nat) (x0 : Disk) : Option Bool := (Tref16_Right q x0).run
noncomputable def Aref16_Right : Arg U (Disk × Unit) := aA cDisk (aNil)
noncomputable def Rref16_Right (r : Bool) : List (V U) × List (Blk U) := ([vO cBool r], [])
noncomputable def Sref16_Right : List (V U) → List (Blk U) → Option (FnOut U) := mkSpec Aref16_Right bNil (fun x _ => ref16_Right none x.1) Rref16_Right
noncomputable def Eref16_Right : Env U := { P := Tryz.prog, cd := cd, fns := fns134, lps := noL, frz := fun _r => false, nt := 69, n0 := 0 }
theorem runref16_Right (x : Disk × Unit) (g : Unit) : execF Eref16_Right Tryz.f102 (Aref16_Right.enc x) (bNil.enc g) = (Tref16_Right none x.1).map Rref16_Right := by kernel_rfl
theorem okref16_Right : FnOk Tryz.prog cd 102 Sref16_Right := mk_ok (E := Eref16_Right) cd_ok fns134_ok Tryz.func102 (by kernel_rfl) (noLoops_body (by kernel_rfl)) (aA_ok cDisk_ok (aNil_ok)) bNil_ok (T := fun x _ => Tref16_Right none x.1) (fun _ _ => rfl) runref16_Right
noncomputable def fns102 := addF 102 true Sref16_Right fns134
theorem fns102_ok : ∀ f q t, fns102 f = some (q, t) → FnOk Tryz.prog cd f t := addF_ok okref16_Right fns134_ok
/-- emulator/emulatorref17.word -/
noncomputable def Tref17_word (x0 : Int) : Tree Bool :=
  .ite (decide ((0 : Int) ≤ x0))
    (.leaf (decide (x0 ≤ (65535 : Int))))
    (.leaf (false))
noncomputable def ref17_word (x0 : Int) : Option Bool := (Tref17_word x0).run
noncomputable def Aref17_word : Arg U (Int × Unit) := aO (cInt .i64) (aNil)
noncomputable def Rref17_word (r : Bool) : List (V U) × List (Blk U) := ([vO cBool r], [])
noncomputable def Sref17_word : List (V U) → List (Blk U) → Option (FnOut U) := mkSpec Aref17_word bNil (fun x _ => ref17_word x.1) Rref17_word
noncomputable def Eref17_word : Env U := { P := Tryz.prog, cd := cd, fns := fns102, lps := noL, frz := fun _r => false, nt := 9, n0 := 0 }
theorem runref17_word (x : Int × Unit) (g : Unit) : execF Eref17_word Tryz.f135 (Aref17_word.enc x) (bNil.enc g) = (Tref17_word x.1).map Rref17_word := by kernel_rfl
theorem okref17_word : FnOk Tryz.prog cd 135 Sref17_word := mk_ok (E := Eref17_word) cd_ok fns102_ok Tryz.func135 (by kernel_rfl) (noLoops_body (by kernel_rfl)) (aO_ok (cInt_ok .i64) (aNil_ok)) bNil_ok (T := fun x _ => Tref17_word x.1) (fun _ _ => rfl) runref17_word
noncomputable def fns135 := addF 135 true Sref17_word fns102
theorem fns135_ok : ∀ f q t, fns135 f = some (q, t) → FnOk Tryz.prog cd f t := addF_ok okref17_word fns102_ok
/-- emulator/emulatorref17.Right -/
structure Sref17_Right_0 where
  t3 : Int
  b0 : Tape
noncomputable def Wref17_Right_0 (s : Sref17_Right_0) : Tree (Sref17_Right_0 ⊕ ((Bool × Tape) ⊕ Tape)) :=
  .ite (decide (s.t3 < (s.b0.records.length : Int)))
    (.ite (decide (0 ≤ s.t3))
      (.opt (List UInt8) (s.b0.records[(s.t3).toNat]?) fun y509 =>
        .ite (decide ((512 : Int) < (y509.length : Int)))
          (.leaf (.inr (.inl (false, s.b0))))
          (.leaf (.inl (Sref17_Right_0.mk (IntKind.wrap .i64 (s.t3 + (1 : Int))) s.b0))))
      .fail)
    (.leaf (.inr (.inr s.b0)))
noncomputable def Lref17_Right_0 (q : Option Nat) (s : Sref17_Right_0) : Option ((Bool × Tape) ⊕ Tape) := limQ q (fun s => (Wref17_Right_0 s).run) s
noncomputable def Tref17_Right (q : Option Nat) (x0 : Tape) : Tree Bool :=
  .ite (decide ((64 : Int) < (x0.records.length : Int)))
    (.leaf (false))
    (.ite (decide (x0.pos < (0 : Int)))
      (.leaf (false))
      (.ite (decide ((x0.records.length : Int) < x0.pos))
        (.leaf (false))
        (.ite (decide (x0.command < (0 : Int)))
          (.leaf (false))
          (.ite (decide ((6 : Int) < x0.command))
            (.leaf (false))
            (.opt Bool (ref17_word x0.count) fun r507 =>
              .ite (!r507)
                (.leaf (false))
                (.opt Bool (ref17_word x0.addr) fun r508 =>
                  .ite (!r508)
                    (.leaf (false))
                    (.opt ((Bool × Tape) ⊕ Tape) (Lref17_Right_0 q (Sref17_Right_0.mk (0 : Int) x0)) fun l510 =>
                      .ite (l510.isLeft)
                        (.opt (Bool × Tape) (l510.getLeft?) fun a511 =>
                          .leaf (a511.1))
                        (.opt Tape (l510.getRight?) fun b512 =>
                          .ite (decide ((0 : Int) ≤ b512.left))
                            (.ite (decide (b512.left ≤ (16 : Int)))
                              (.leaf ((b512.ready == (decide (b512.left = (0 : Int))))))
                              (.leaf (false)))
                            (.leaf (false))))))))))
noncomputable def ref17_Right (q : Option Nat) (x0 : Tape) : Option Bool := (Tref17_Right q x0).run
noncomputable def Aref17_Right : Arg U (Tape × Unit) := aA cTape (aNil)
noncomputable def Rref17_Right (r : Bool) : List (V U) × List (Blk U) := ([vO cBool r], [])
noncomputable def Sref17_Right : List (V U) → List (Blk U) → Option (FnOut U) := mkSpec Aref17_Right bNil (fun x _ => ref17_Right none x.1) Rref17_Right
noncomputable def Pref17_Right_0 (x : (Unit) × (Int × Unit) × Unit) (g : (Tape × Unit) × Unit) : Sref17_Right_0 := Sref17_Right_0.mk x.2.1.1 g.1.1
noncomputable def tAref17_Right_0 : Tms U ((Unit) × (Int × Unit) × Unit) := tO 1 (cK (.ptr 0 0) (cUnit)) (tO 3 (cPair (cInt .i64) (cUnit)) (tNil))
noncomputable def tBref17_Right_0 : Bls U ((Tape × Unit) × Unit) := bC (cPair cTape (cUnit)) (bNil)
noncomputable def eSref17_Right_0 (s : Sref17_Right_0) : St U := { tm := [(1, .v (vO (cK (.ptr 0 0) (cUnit)) (()))), (3, .v (vO (cPair (cInt .i64) (cUnit)) (s.t3, ())))], hp := [.cells ((cPair cTape (cUnit) : Cdc U (Tape × Unit)).enc (s.b0, ())) none] }
noncomputable def xSref17_Right_0 : ((Bool × Tape) ⊕ Tape) → Ex × St U
  | .inl r => (.ret, { tm := [(1, .v (vO (cK (.ptr 0 0) (cUnit)) (()))), (2, .v (vO (cPair cBool (cUnit)) (r.1, ())))], hp := [.cells ((cPair cTape (cUnit) : Cdc U (Tape × Unit)).enc (r.2, ())) none] })
  | .inr r => (.exit 0, { tm := [(1, .v (vO (cK (.ptr 0 0) (cUnit)) (())))], hp := [.cells ((cPair cTape (cUnit) : Cdc U (Tape × Unit)).enc (r, ())) none] })
noncomputable def xTref17_Right_0 (y : ((Bool × Tape) ⊕ Tape)) : Tree (Ex × St U) := .ite y.isLeft (.opt (Bool × Tape) y.getLeft? fun r => .leaf (.ret, { tm := [(1, .v (vO (cK (.ptr 0 0) (cUnit)) (()))), (2, .v (vO (cPair cBool (cUnit)) (r.1, ())))], hp := [.cells ((cPair cTape (cUnit) : Cdc U (Tape × Unit)).enc (r.2, ())) none] })) (.opt Tape y.getRight? fun r => .leaf (.exit 0, { tm := [(1, .v (vO (cK (.ptr 0 0) (cUnit)) (())))], hp := [.cells ((cPair cTape (cUnit) : Cdc U (Tape × Unit)).enc (r, ())) none] }))
noncomputable def href17_Right_0 : Hd := { keep := [1, 3], xkeep := [1, 2], own := false }
noncomputable def Eref17_Right : Env U := { P := Tryz.prog, cd := cd, fns := fns135, lps := (addL 0 href17_Right_0 (mkLoop tAref17_Right_0 tBref17_Right_0 Pref17_Right_0 (Lref17_Right_0 none) xTref17_Right_0) noL), frz := fun _r => false, nt := 73, n0 := 0 }
noncomputable def Bref17_Right_0 : Code := (loopAt (Tryz.f103.body.getD .skip) 0 0).getD .skip
theorem roundref17_Right_0 (s : Sref17_Right_0) : round Eref17_Right href17_Right_0 Bref17_Right_0 0 (eSref17_Right_0 s) = (Wref17_Right_0 s).map (sumE eSref17_Right_0 xSref17_Right_0) := by kernel_rfl
theorem lpref17_Right_0 : LpOk Eref17_Right Bref17_Right_0 0 := mkLoop_ok (A := tAref17_Right_0) (B := tBref17_Right_0) (f := Pref17_Right_0) (L := Lref17_Right_0 none) (tO_ok (cK_ok cUnit_ok) (tO_ok (cPair_ok (cInt_ok .i64) cUnit_ok) tNil_ok)) (bC_ok (cPair_ok cTape_ok cUnit_ok) bNil_ok) (enc := eSref17_Right_0) (out := xTref17_Right_0) (outS := xSref17_Right_0) (step := Wref17_Right_0) (fun _ => rfl) (fun _ _ => by kernel_rfl) (by kernel_rfl) (fun b => by cases b <;> rfl) roundref17_Right_0
theorem runref17_Right (x : Tape × Unit) (g : Unit) : execF Eref17_Right Tryz.f103 (Aref17_Right.enc x) (bNil.enc g) = (Tref17_Right none x.1).map Rref17_Right := by kernel_rfl
theorem okref17_Right : FnOk Tryz.prog cd 103 Sref17_Right := mk_ok (E := Eref17_Right) cd_ok fns135_ok Tryz.func103 (by kernel_rfl) (loops_of (addL_ok lpref17_Right_0 noL_ok)) (aA_ok cTape_ok (aNil_ok)) bNil_ok (T := fun x _ => Tref17_Right none x.1) (fun _ _ => rfl) runref17_Right
noncomputable def fns103 := addF 103 true Sref17_Right fns135
theorem fns103_ok : ∀ f q t, fns103 f = some (q, t) → FnOk Tryz.prog cd f t := addF_ok okref17_Right fns135_ok
/-- emulator/emulatorref18.Right -/
structure Sref18_Right_0 where
  t3 : Int
  b0 : Machine
noncomputable def Wref18_Right_0 (s : Sref18_Right_0) : Tree (Sref18_Right_0 ⊕ ((Bool × Machine) ⊕ Machine)) :=
  .ite (decide (s.t3 < (s.b0.lines.length : Int)))
    (.ite (decide (0 ≤ s.t3))
      (.opt Line (s.b0.lines[(s.t3).toNat]?) fun y513 =>
        .opt Bool (ref14_Right y513) fun r514 =>
          .ite (!r514)
            (.leaf (.inr (.inl (false, s.b0))))
            (.leaf (.inl (Sref18_Right_0.mk (IntKind.wrap .i64 (s.t3 + (1 : Int))) s.b0))))
      .fail)
    (.leaf (.inr (.inr s.b0)))
noncomputable def Lref18_Right_0 (q : Option Nat) (s : Sref18_Right_0) : Option ((Bool × Machine) ⊕ Machine) := limQ q (fun s => (Wref18_Right_0 s).run) s
noncomputable def Tref18_Right (q : Option Nat) (x0 : Machine) : Tree Bool :=
  .ite (decide ((4 : Int) < (x0.lines.length : Int)))
    (.leaf (false))
    (.opt ((Bool × Machine) ⊕ Machine) (Lref18_Right_0 q (Sref18_Right_0.mk (0 : Int) x0)) fun l515 =>
      .ite (l515.isLeft)
        (.opt (Bool × Machine) (l515.getLeft?) fun a516 =>
          .leaf (a516.1))
        (.opt Machine (l515.getRight?) fun b517 =>
          .opt Bool (ref08_Right q b517.mem b517.bad) fun r518 =>
            .ite (r518)
              (.opt Bool (ref09_Right q b517.mmu) fun r519 =>
                .ite (r519)
                  (.opt Bool (ref13_Right b517.clock) fun r520 =>
                    .ite (r520)
                      (.opt Bool (ref16_Right q b517.disk) fun r521 =>
                        .ite (r521)
                          (.opt Bool (ref17_Right q b517.tape) fun r522 =>
                            .leaf (r522))
                          (.leaf (false)))
                      (.leaf (false)))
                  (.leaf (false)))
              (.leaf (false))))
noncomputable def ref18_Right (q : Option Nat) (x0 : Machine) : Option Bool := (Tref18_Right q x0).run
noncomputable def Aref18_Right : Arg U (Machine × Unit) := aA cMachine (aNil)
noncomputable def Rref18_Right (r : Bool) : List (V U) × List (Blk U) := ([vO cBool r], [])
noncomputable def Sref18_Right : List (V U) → List (Blk U) → Option (FnOut U) := mkSpec Aref18_Right bNil (fun x _ => ref18_Right none x.1) Rref18_Right
noncomputable def Pref18_Right_0 (x : (Unit) × (Int × Unit) × Unit) (g : (Machine × Unit) × Unit) : Sref18_Right_0 := Sref18_Right_0.mk x.2.1.1 g.1.1
noncomputable def tAref18_Right_0 : Tms U ((Unit) × (Int × Unit) × Unit) := tO 1 (cK (.ptr 0 0) (cUnit)) (tO 3 (cPair (cInt .i64) (cUnit)) (tNil))
noncomputable def tBref18_Right_0 : Bls U ((Machine × Unit) × Unit) := bC (cPair cMachine (cUnit)) (bNil)
noncomputable def eSref18_Right_0 (s : Sref18_Right_0) : St U := { tm := [(1, .v (vO (cK (.ptr 0 0) (cUnit)) (()))), (3, .v (vO (cPair (cInt .i64) (cUnit)) (s.t3, ())))], hp := [.cells ((cPair cMachine (cUnit) : Cdc U (Machine × Unit)).enc (s.b0, ())) none] }
noncomputable def xSref18_Right_0 : ((Bool × Machine) ⊕ Machine) → Ex × St U
  | .inl r => (.ret, { tm := [(1, .v (vO (cK (.ptr 0 0) (cUnit)) (()))), (2, .v (vO (cPair cBool (cUnit)) (r.1, ())))], hp := [.cells ((cPair cMachine (cUnit) : Cdc U (Machine × Unit)).enc (r.2, ())) none] })
  | .inr r => (.exit 0, { tm := [(1, .v (vO (cK (.ptr 0 0) (cUnit)) (())))], hp := [.cells ((cPair cMachine (cUnit) : Cdc U (Machine × Unit)).enc (r, ())) none] })
noncomputable def xTref18_Right_0 (y : ((Bool × Machine) ⊕ Machine)) : Tree (Ex × St U) := .ite y.isLeft (.opt (Bool × Machine) y.getLeft? fun r => .leaf (.ret, { tm := [(1, .v (vO (cK (.ptr 0 0) (cUnit)) (()))), (2, .v (vO (cPair cBool (cUnit)) (r.1, ())))], hp := [.cells ((cPair cMachine (cUnit) : Cdc U (Machine × Unit)).enc (r.2, ())) none] })) (.opt Machine y.getRight? fun r => .leaf (.exit 0, { tm := [(1, .v (vO (cK (.ptr 0 0) (cUnit)) (())))], hp := [.cells ((cPair cMachine (cUnit) : Cdc U (Machine × Unit)).enc (r, ())) none] }))
noncomputable def href18_Right_0 : Hd := { keep := [1, 3], xkeep := [1, 2], own := false }
noncomputable def Eref18_Right : Env U := { P := Tryz.prog, cd := cd, fns := fns103, lps := (addL 0 href18_Right_0 (mkLoop tAref18_Right_0 tBref18_Right_0 Pref18_Right_0 (Lref18_Right_0 none) xTref18_Right_0) noL), frz := fun _r => false, nt := 47, n0 := 0 }
noncomputable def Bref18_Right_0 : Code := (loopAt (Tryz.f43.body.getD .skip) 0 0).getD .skip
theorem roundref18_Right_0 (s : Sref18_Right_0) : round Eref18_Right href18_Right_0 Bref18_Right_0 0 (eSref18_Right_0 s) = (Wref18_Right_0 s).map (sumE eSref18_Right_0 xSref18_Right_0) := by kernel_rfl
theorem lpref18_Right_0 : LpOk Eref18_Right Bref18_Right_0 0 := mkLoop_ok (A := tAref18_Right_0) (B := tBref18_Right_0) (f := Pref18_Right_0) (L := Lref18_Right_0 none) (tO_ok (cK_ok cUnit_ok) (tO_ok (cPair_ok (cInt_ok .i64) cUnit_ok) tNil_ok)) (bC_ok (cPair_ok cMachine_ok cUnit_ok) bNil_ok) (enc := eSref18_Right_0) (out := xTref18_Right_0) (outS := xSref18_Right_0) (step := Wref18_Right_0) (fun _ => rfl) (fun _ _ => by kernel_rfl) (by kernel_rfl) (fun b => by cases b <;> rfl) roundref18_Right_0
theorem runref18_Right (x : Machine × Unit) (g : Unit) : execF Eref18_Right Tryz.f43 (Aref18_Right.enc x) (bNil.enc g) = (Tref18_Right none x.1).map Rref18_Right := by kernel_rfl
theorem okref18_Right : FnOk Tryz.prog cd 43 Sref18_Right := mk_ok (E := Eref18_Right) cd_ok fns103_ok Tryz.func43 (by kernel_rfl) (loops_of (addL_ok lpref18_Right_0 noL_ok)) (aA_ok cMachine_ok (aNil_ok)) bNil_ok (T := fun x _ => Tref18_Right none x.1) (fun _ _ => rfl) runref18_Right
noncomputable def fns43 := addF 43 true Sref18_Right fns103
theorem fns43_ok : ∀ f q t, fns43 f = some (q, t) → FnOk Tryz.prog cd f t := addF_ok okref18_Right fns103_ok
/-- emulator/emulatorref19.word -/
noncomputable def Tref19_word (x0 : Int) : Tree Bool :=
  .ite (decide ((0 : Int) ≤ x0))
    (.leaf (decide (x0 < (65536 : Int))))
    (.leaf (false))
noncomputable def ref19_word (x0 : Int) : Option Bool := (Tref19_word x0).run
noncomputable def Aref19_word : Arg U (Int × Unit) := aO (cInt .i64) (aNil)
noncomputable def Rref19_word (r : Bool) : List (V U) × List (Blk U) := ([vO cBool r], [])
noncomputable def Sref19_word : List (V U) → List (Blk U) → Option (FnOut U) := mkSpec Aref19_word bNil (fun x _ => ref19_word x.1) Rref19_word
noncomputable def Eref19_word : Env U := { P := Tryz.prog, cd := cd, fns := fns43, lps := noL, frz := fun _r => false, nt := 9, n0 := 0 }
theorem runref19_word (x : Int × Unit) (g : Unit) : execF Eref19_word Tryz.f104 (Aref19_word.enc x) (bNil.enc g) = (Tref19_word x.1).map Rref19_word := by kernel_rfl
theorem okref19_word : FnOk Tryz.prog cd 104 Sref19_word := mk_ok (E := Eref19_word) cd_ok fns43_ok Tryz.func104 (by kernel_rfl) (noLoops_body (by kernel_rfl)) (aO_ok (cInt_ok .i64) (aNil_ok)) bNil_ok (T := fun x _ => Tref19_word x.1) (fun _ _ => rfl) runref19_word
noncomputable def fns104 := addF 104 true Sref19_word fns43
theorem fns104_ok : ∀ f q t, fns104 f = some (q, t) → FnOk Tryz.prog cd f t := addF_ok okref19_word fns43_ok
/-- emulator/emulatorref04.Valid -/
noncomputable def Tref04_Valid (x0 : Int) : Tree Bool :=
  .ite (decide ((0 : Int) ≤ x0))
    (.ite (decide (x0 ≤ (65535 : Int)))
      (.leaf (decide ((IntKind.wrap .i64 (((BitVec.ofInt 64 x0 &&& ~~~BitVec.ofInt 64 (49407 : Int)).toNat : Int))) = (0 : Int))))
      (.leaf (false)))
    (.leaf (false))
noncomputable def ref04_Valid (x0 : Int) : Option Bool := (Tref04_Valid x0).run
noncomputable def Aref04_Valid : Arg U (Int × Unit) := aO (cInt .i64) (aNil)
noncomputable def Rref04_Valid (r : Bool) : List (V U) × List (Blk U) := ([vO cBool r], [])
noncomputable def Sref04_Valid : List (V U) → List (Blk U) → Option (FnOut U) := mkSpec Aref04_Valid bNil (fun x _ => ref04_Valid x.1) Rref04_Valid
noncomputable def Eref04_Valid : Env U := { P := Tryz.prog, cd := cd, fns := fns104, lps := noL, frz := fun _r => false, nt := 14, n0 := 0 }
theorem runref04_Valid (x : Int × Unit) (g : Unit) : execF Eref04_Valid Tryz.f105 (Aref04_Valid.enc x) (bNil.enc g) = (Tref04_Valid x.1).map Rref04_Valid := by kernel_rfl
theorem okref04_Valid : FnOk Tryz.prog cd 105 Sref04_Valid := mk_ok (E := Eref04_Valid) cd_ok fns104_ok Tryz.func105 (by kernel_rfl) (noLoops_body (by kernel_rfl)) (aO_ok (cInt_ok .i64) (aNil_ok)) bNil_ok (T := fun x _ => Tref04_Valid x.1) (fun _ _ => rfl) runref04_Valid
noncomputable def fns105 := addF 105 true Sref04_Valid fns104
theorem fns105_ok : ∀ f q t, fns105 f = some (q, t) → FnOk Tryz.prog cd f t := addF_ok okref04_Valid fns104_ok
/-- emulator/emulatorref19.Right -/
structure Sref19_Right_0 where
  t3 : Int
  b0 : Cpu
noncomputable def Wref19_Right_0 (s : Sref19_Right_0) : Tree (Sref19_Right_0 ⊕ ((Bool × Cpu) ⊕ Cpu)) :=
  .ite (decide (s.t3 < (6 : Int)))
    (.ite (decide (0 ≤ s.t3))
      (.ite (decide (s.t3 < (6 : Int)))
        (.opt Int (s.b0.r[(s.t3).toNat * 1]?) fun y523 =>
          .opt Bool (ref19_word y523) fun r524 =>
            .ite (!r524)
              (.leaf (.inr (.inl (false, s.b0))))
              (.leaf (.inl (Sref19_Right_0.mk (IntKind.wrap .i64 (s.t3 + (1 : Int))) s.b0))))
        .fail)
      .fail)
    (.leaf (.inr (.inr s.b0)))
noncomputable def Lref19_Right_0 (q : Option Nat) (s : Sref19_Right_0) : Option ((Bool × Cpu) ⊕ Cpu) := limQ q (fun s => (Wref19_Right_0 s).run) s
noncomputable def Tref19_Right (q : Option Nat) (x0 : Cpu) : Tree Bool :=
  .opt ((Bool × Cpu) ⊕ Cpu) (Lref19_Right_0 q (Sref19_Right_0.mk (0 : Int) x0)) fun l525 =>
    .ite (l525.isLeft)
      (.opt (Bool × Cpu) (l525.getLeft?) fun a526 =>
        .leaf (a526.1))
      (.opt Cpu (l525.getRight?) fun b527 =>
        .ite (decide (0 ≤ (0 : Int)))
          (.ite (decide ((0 : Int) < (2 : Int)))
            (.opt Int (b527.sP[((0 : Int)).toNat * 1]?) fun y528 =>
              .opt Bool (ref19_word y528) fun r529 =>
                .ite (r529)
                  (.ite (decide (0 ≤ (1 : Int)))
                    (.ite (decide ((1 : Int) < (2 : Int)))
                      (.opt Int (b527.sP[((1 : Int)).toNat * 1]?) fun y530 =>
                        .opt Bool (ref19_word y530) fun r531 =>
                          .ite (r531)
                            (.opt Bool (ref19_word b527.pC) fun r532 =>
                              .ite (r532)
                                (.opt Bool (ref04_Valid b527.pSW) fun r533 =>
                                  .leaf (r533))
                                (.leaf (false)))
                            (.leaf (false)))
                      .fail)
                    .fail)
                  (.leaf (false)))
            .fail)
          .fail)
noncomputable def ref19_Right (q : Option Nat) (x0 : Cpu) : Option Bool := (Tref19_Right q x0).run
noncomputable def Aref19_Right : Arg U (Cpu × Unit) := aA cCpu (aNil)
noncomputable def Rref19_Right (r : Bool) : List (V U) × List (Blk U) := ([vO cBool r], [])
noncomputable def Sref19_Right : List (V U) → List (Blk U) → Option (FnOut U) := mkSpec Aref19_Right bNil (fun x _ => ref19_Right none x.1) Rref19_Right
noncomputable def Pref19_Right_0 (x : (Unit) × (Int × Unit) × Unit) (g : (Cpu × Unit) × Unit) : Sref19_Right_0 := Sref19_Right_0.mk x.2.1.1 g.1.1
noncomputable def tAref19_Right_0 : Tms U ((Unit) × (Int × Unit) × Unit) := tO 1 (cK (.ptr 0 0) (cUnit)) (tO 3 (cPair (cInt .i64) (cUnit)) (tNil))
noncomputable def tBref19_Right_0 : Bls U ((Cpu × Unit) × Unit) := bC (cPair cCpu (cUnit)) (bNil)
noncomputable def eSref19_Right_0 (s : Sref19_Right_0) : St U := { tm := [(1, .v (vO (cK (.ptr 0 0) (cUnit)) (()))), (3, .v (vO (cPair (cInt .i64) (cUnit)) (s.t3, ())))], hp := [.cells ((cPair cCpu (cUnit) : Cdc U (Cpu × Unit)).enc (s.b0, ())) none] }
noncomputable def xSref19_Right_0 : ((Bool × Cpu) ⊕ Cpu) → Ex × St U
  | .inl r => (.ret, { tm := [(1, .v (vO (cK (.ptr 0 0) (cUnit)) (()))), (2, .v (vO (cPair cBool (cUnit)) (r.1, ())))], hp := [.cells ((cPair cCpu (cUnit) : Cdc U (Cpu × Unit)).enc (r.2, ())) none] })
  | .inr r => (.exit 0, { tm := [(1, .v (vO (cK (.ptr 0 0) (cUnit)) (())))], hp := [.cells ((cPair cCpu (cUnit) : Cdc U (Cpu × Unit)).enc (r, ())) none] })
noncomputable def xTref19_Right_0 (y : ((Bool × Cpu) ⊕ Cpu)) : Tree (Ex × St U) := .ite y.isLeft (.opt (Bool × Cpu) y.getLeft? fun r => .leaf (.ret, { tm := [(1, .v (vO (cK (.ptr 0 0) (cUnit)) (()))), (2, .v (vO (cPair cBool (cUnit)) (r.1, ())))], hp := [.cells ((cPair cCpu (cUnit) : Cdc U (Cpu × Unit)).enc (r.2, ())) none] })) (.opt Cpu y.getRight? fun r => .leaf (.exit 0, { tm := [(1, .v (vO (cK (.ptr 0 0) (cUnit)) (())))], hp := [.cells ((cPair cCpu (cUnit) : Cdc U (Cpu × Unit)).enc (r, ())) none] }))
noncomputable def href19_Right_0 : Hd := { keep := [1, 3], xkeep := [1, 2], own := false }
noncomputable def Eref19_Right : Env U := { P := Tryz.prog, cd := cd, fns := fns105, lps := (addL 0 href19_Right_0 (mkLoop tAref19_Right_0 tBref19_Right_0 Pref19_Right_0 (Lref19_Right_0 none) xTref19_Right_0) noL), frz := fun _r => false, nt := 34, n0 := 0 }
noncomputable def Bref19_Right_0 : Code := (loopAt (Tryz.f44.body.getD .skip) 0 0).getD .skip
theorem roundref19_Right_0 (s : Sref19_Right_0) : round Eref19_Right href19_Right_0 Bref19_Right_0 0 (eSref19_Right_0 s) = (Wref19_Right_0 s).map (sumE eSref19_Right_0 xSref19_Right_0) := by kernel_rfl
theorem lpref19_Right_0 : LpOk Eref19_Right Bref19_Right_0 0 := mkLoop_ok (A := tAref19_Right_0) (B := tBref19_Right_0) (f := Pref19_Right_0) (L := Lref19_Right_0 none) (tO_ok (cK_ok cUnit_ok) (tO_ok (cPair_ok (cInt_ok .i64) cUnit_ok) tNil_ok)) (bC_ok (cPair_ok cCpu_ok cUnit_ok) bNil_ok) (enc := eSref19_Right_0) (out := xTref19_Right_0) (outS := xSref19_Right_0) (step := Wref19_Right_0) (fun _ => rfl) (fun _ _ => by kernel_rfl) (by kernel_rfl) (fun b => by cases b <;> rfl) roundref19_Right_0
theorem runref19_Right (x : Cpu × Unit) (g : Unit) : execF Eref19_Right Tryz.f44 (Aref19_Right.enc x) (bNil.enc g) = (Tref19_Right none x.1).map Rref19_Right := by kernel_rfl
theorem okref19_Right : FnOk Tryz.prog cd 44 Sref19_Right := mk_ok (E := Eref19_Right) cd_ok fns105_ok Tryz.func44 (by kernel_rfl) (loops_of (addL_ok lpref19_Right_0 noL_ok)) (aA_ok cCpu_ok (aNil_ok)) bNil_ok (T := fun x _ => Tref19_Right none x.1) (fun _ _ => rfl) runref19_Right
noncomputable def fns44 := addF 44 true Sref19_Right fns105
theorem fns44_ok : ∀ f q t, fns44 f = some (q, t) → FnOk Tryz.prog cd f t := addF_ok okref19_Right fns105_ok
/-- emulator/emulatorref20.Right -/
noncomputable def Tref20_Right (q : Option Nat) (x0 : Machine) : Tree Bool :=
  .ite (decide (x0.now < (0 : Int)))
    (.leaf (false))
    (.ite (decide ((1099511627776 : Int) < x0.now))
      (.leaf (false))
      (.ite (decide (x0.power < (0 : Int)))
        (.leaf (false))
        (.ite (decide ((10000 : Int) < x0.power))
          (.leaf (false))
          (.ite (x0.halted)
            (.ite (x0.waiting)
              (.leaf (false))
              (.ite (!decide (x0.power = (0 : Int)))
                (.leaf (false))
                (.ite (x0.powerTrap)
                  (.leaf (false))
                  (.opt Bool (ref18_Right q x0) fun r534 =>
                    .ite (r534)
                      (.opt Bool (ref19_Right q x0.cpu) fun r535 =>
                        .leaf (r535))
                      (.leaf (false))))))
            (.opt Bool (ref18_Right q x0) fun r536 =>
              .ite (r536)
                (.opt Bool (ref19_Right q x0.cpu) fun r537 =>
                  .leaf (r537))
                (.leaf (false)))))))
noncomputable def ref20_Right (q : Option Nat) (x0 : Machine) : Option Bool := (Tref20_Right q x0).run
noncomputable def Aref20_Right : Arg U (Machine × Unit) := aA cMachine (aNil)
noncomputable def Rref20_Right (r : Bool) : List (V U) × List (Blk U) := ([vO cBool r], [])
noncomputable def Sref20_Right : List (V U) → List (Blk U) → Option (FnOut U) := mkSpec Aref20_Right bNil (fun x _ => ref20_Right none x.1) Rref20_Right
noncomputable def Eref20_Right : Env U := { P := Tryz.prog, cd := cd, fns := fns44, lps := noL, frz := fun _r => false, nt := 43, n0 := 0 }
theorem runref20_Right (x : Machine × Unit) (g : Unit) : execF Eref20_Right Tryz.f16 (Aref20_Right.enc x) (bNil.enc g) = (Tref20_Right none x.1).map Rref20_Right := by kernel_rfl
theorem okref20_Right : FnOk Tryz.prog cd 16 Sref20_Right := mk_ok (E := Eref20_Right) cd_ok fns44_ok Tryz.func16 (by kernel_rfl) (noLoops_body (by kernel_rfl)) (aA_ok cMachine_ok (aNil_ok)) bNil_ok (T := fun x _ => Tref20_Right none x.1) (fun _ _ => rfl) runref20_Right
noncomputable def fns16 := addF 16 true Sref20_Right fns44
theorem fns16_ok : ∀ f q t, fns16 f = some (q, t) → FnOk Tryz.prog cd f t := addF_ok okref20_Right fns44_ok
/-- emulator/emulatorlaw23.SaveReturns -/
noncomputable def Tlaw23_SaveReturns (q : Option Nat) (x0 : Machine) : Tree Bool :=
  .opt Bool (ref23_Great q x0) fun r538 =>
    .ite (r538)
      (.leaf (true))
      (.opt Bool (ref20_Right q x0) fun r539 =>
        .ite (!r539)
          (.leaf (true))
          (.opt ((List UInt8) × Int) (save_Encode q x0) fun r540 =>
            .opt (Machine × Int) (save_Decode q r540.1) fun r541 =>
              .opt ((List UInt8) × Int) (save_Encode q r541.1) fun r542 =>
                .ite (decide (r540.2 = (0 : Int)))
                  (.ite (decide (r541.2 = (0 : Int)))
                    (.ite (decide (r542.2 = (0 : Int)))
                      (.opt Bool (save_Same q x0 r541.1) fun r543 =>
                        .ite (r543)
                          (.ite (decide (r540.1 = r542.1))
                            (.opt Int (save_Digest q x0) fun r544 =>
                              .opt Int (save_Digest q r541.1) fun r545 =>
                                .ite (decide (r544 = r545))
                                  (.opt Bool (law23_alive q) fun r546 =>
                                    .leaf (r546))
                                  (.leaf (false)))
                            (.leaf (false)))
                          (.leaf (false)))
                      (.leaf (false)))
                    (.leaf (false)))
                  (.leaf (false))))
noncomputable def law23_SaveReturns (q : Option Nat) (x0 : Machine) : Option Bool := (Tlaw23_SaveReturns q x0).run
noncomputable def Alaw23_SaveReturns : Arg U (Machine × Unit) := aA cMachine (aNil)
noncomputable def Rlaw23_SaveReturns (r : Bool) : List (V U) × List (Blk U) := ([vO cBool r], [])
noncomputable def Slaw23_SaveReturns : List (V U) → List (Blk U) → Option (FnOut U) := mkSpec Alaw23_SaveReturns bNil (fun x _ => law23_SaveReturns none x.1) Rlaw23_SaveReturns
noncomputable def Elaw23_SaveReturns : Env U := { P := Tryz.prog, cd := cd, fns := fns16, lps := noL, frz := fun _r => false, nt := 61, n0 := 0 }
theorem runlaw23_SaveReturns (x : Machine × Unit) (g : Unit) : execF Elaw23_SaveReturns Tryz.f5 (Alaw23_SaveReturns.enc x) (bNil.enc g) = (Tlaw23_SaveReturns none x.1).map Rlaw23_SaveReturns := by kernel_rfl
theorem oklaw23_SaveReturns : FnOk Tryz.prog cd 5 Slaw23_SaveReturns := mk_ok (E := Elaw23_SaveReturns) cd_ok fns16_ok Tryz.func5 (by kernel_rfl) (noLoops_body (by kernel_rfl)) (aA_ok cMachine_ok (aNil_ok)) bNil_ok (T := fun x _ => Tlaw23_SaveReturns none x.1) (fun _ _ => rfl) runlaw23_SaveReturns
noncomputable def fns5 := addF 5 true Slaw23_SaveReturns fns16
theorem fns5_ok : ∀ f q t, fns5 f = some (q, t) → FnOk Tryz.prog cd f t := addF_ok oklaw23_SaveReturns fns16_ok
/-- emulator/emulatorlaw23.SaveTells -/
noncomputable def Tlaw23_SaveTells (q : Option Nat) (x0 : Machine) (x1 : Machine) : Tree Bool :=
  .opt Bool (ref23_Great q x0) fun r547 =>
    .ite (r547)
      (.leaf (true))
      (.opt Bool (ref23_Great q x1) fun r548 =>
        .ite (r548)
          (.leaf (true))
          (.opt Bool (ref20_Right q x0) fun r549 =>
            .ite (!r549)
              (.leaf (true))
              (.opt Bool (ref20_Right q x1) fun r550 =>
                .ite (!r550)
                  (.leaf (true))
                  (.opt ((List UInt8) × Int) (save_Encode q x0) fun r551 =>
                    .opt ((List UInt8) × Int) (save_Encode q x1) fun r552 =>
                      .ite (decide (r551.2 = (0 : Int)))
                        (.ite (decide (r552.2 = (0 : Int)))
                          (.opt Bool (save_Same q x0 x1) fun r553 =>
                            .ite (((decide (r551.1 = r552.1)) == r553))
                              (.ite (!decide (r551.1 = r552.1))
                                (.opt Bool (law23_alive q) fun r554 =>
                                  .leaf (r554))
                                (.opt Int (save_Digest q x0) fun r555 =>
                                  .opt Int (save_Digest q x1) fun r556 =>
                                    .ite (decide (r555 = r556))
                                      (.opt Bool (law23_alive q) fun r557 =>
                                        .leaf (r557))
                                      (.leaf (false))))
                              (.leaf (false)))
                          (.leaf (false)))
                        (.leaf (false))))))
noncomputable def law23_SaveTells (q : Option Nat) (x0 : Machine) (x1 : Machine) : Option Bool := (Tlaw23_SaveTells q x0 x1).run
noncomputable def Alaw23_SaveTells : Arg U (Machine × Machine × Unit) := aA cMachine (aA cMachine (aNil))
noncomputable def Rlaw23_SaveTells (r : Bool) : List (V U) × List (Blk U) := ([vO cBool r], [])
noncomputable def Slaw23_SaveTells : List (V U) → List (Blk U) → Option (FnOut U) := mkSpec Alaw23_SaveTells bNil (fun x _ => law23_SaveTells none x.1 x.2.1) Rlaw23_SaveTells
noncomputable def Elaw23_SaveTells : Env U := { P := Tryz.prog, cd := cd, fns := fns5, lps := noL, frz := fun _r => false, nt := 65, n0 := 0 }
theorem runlaw23_SaveTells (x : Machine × Machine × Unit) (g : Unit) : execF Elaw23_SaveTells Tryz.f6 (Alaw23_SaveTells.enc x) (bNil.enc g) = (Tlaw23_SaveTells none x.1 x.2.1).map Rlaw23_SaveTells := by kernel_rfl
theorem oklaw23_SaveTells : FnOk Tryz.prog cd 6 Slaw23_SaveTells := mk_ok (E := Elaw23_SaveTells) cd_ok fns5_ok Tryz.func6 (by kernel_rfl) (noLoops_body (by kernel_rfl)) (aA_ok cMachine_ok (aA_ok cMachine_ok (aNil_ok))) bNil_ok (T := fun x _ => Tlaw23_SaveTells none x.1 x.2.1) (fun _ _ => rfl) runlaw23_SaveTells
end Go.Proofs.YtiafliookmnjoaaGreatDoor
