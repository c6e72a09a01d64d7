/- The types of the program, and how they are told in cells. -/
import Derived.Test.YtmibajkdenldpaaAbMore
import Derived.Test.YtmibajkdenldpaaAbFrz
import Derived.Test.YtmibajkdenldpaaProg
import Derived.KernelRfl
set_option linter.unusedSimpArgs false
namespace Go.Proofs.Ytmibajkdenldpaa
open Go Go.Ab
structure Line where
  rxEnable : Bool
  rxReady : Bool
  overrun : Bool
  rxData : Int
  txEnable : Bool
  txReady : Bool
  txData : Int
  txLeft : Int
  out : (List UInt8)
  deriving DecidableEq
structure Request where
  priority : Int
  vector : Int
  deriving DecidableEq
structure Deed where
  kind : Int
  reg : Int
  n : Int
  deriving DecidableEq
abbrev tys : List (Nat × Type) := [(5, Int), (35, Deed), (45, Request)]
abbrev U : Nat → Type := findT tys
noncomputable def cLine : Cdc U Line := cMap (fun x => Line.mk x.1 x.2.1 x.2.2.1 x.2.2.2.1 x.2.2.2.2.1 x.2.2.2.2.2.1 x.2.2.2.2.2.2.1 x.2.2.2.2.2.2.2.1 x.2.2.2.2.2.2.2.2.1) (fun x => (x.rxEnable, x.rxReady, x.overrun, x.rxData, x.txEnable, x.txReady, x.txData, x.txLeft, x.out, ())) (cPair cBool (cPair cBool (cPair cBool (cPair (cInt .i64) (cPair cBool (cPair cBool (cPair (cInt .i64) (cPair (cInt .i64) (cPair cStr (cUnit))))))))))
theorem cLine_ok : cLine.Ok := cMap_ok (cPair_ok cBool_ok (cPair_ok cBool_ok (cPair_ok cBool_ok (cPair_ok (cInt_ok .i64) (cPair_ok cBool_ok (cPair_ok cBool_ok (cPair_ok (cInt_ok .i64) (cPair_ok (cInt_ok .i64) (cPair_ok cStr_ok cUnit_ok))))))))) fun _ => rfl
noncomputable def cRequest : Cdc U Request := cMap (fun x => Request.mk x.1 x.2.1) (fun x => (x.priority, x.vector, ())) (cPair (cInt .i64) (cPair (cInt .i64) (cUnit)))
theorem cRequest_ok : cRequest.Ok := cMap_ok (cPair_ok (cInt_ok .i64) (cPair_ok (cInt_ok .i64) cUnit_ok)) fun _ => rfl
noncomputable def cDeed : Cdc U Deed := cMap (fun x => Deed.mk x.1 x.2.1 x.2.2.1) (fun x => (x.kind, x.reg, x.n, ())) (cPair (cInt .i64) (cPair (cInt .i64) (cPair (cInt .i64) (cUnit))))
theorem cDeed_ok : cDeed.Ok := cMap_ok (cPair_ok (cInt_ok .i64) (cPair_ok (cInt_ok .i64) (cPair_ok (cInt_ok .i64) cUnit_ok))) fun _ => rfl
noncomputable def ents : Ents U tys := .cons ⟨(cInt .u8), some 0, some (fun x => x, fun x => x), some inferInstance⟩ (.cons ⟨cDeed, some (Deed.mk 0 0 0), none, some inferInstance⟩ (.cons ⟨cRequest, some (Request.mk 0 0), none, some inferInstance⟩ (.nil)))
noncomputable def cd : Cd U := cdOf ents
theorem eqSDeed (cd : Cd U) (x y : Deed) : eqT Try.prog cd false 4 35 (cDeed.enc x) (cDeed.enc y) = some (decide (x = y)) := by
  have h : eqT Try.prog cd false 4 35 (cDeed.enc x) (cDeed.enc y) = some (decide (x.kind = y.kind) && (decide (x.reg = y.reg) && decide (x.n = y.n))) := by kernel_rfl
  rw [h]
  cases x; cases y; rw [Option.some.injEq, Bool.eq_iff_iff]; simp
theorem eqSRequest (cd : Cd U) (x y : Request) : eqT Try.prog cd false 4 45 (cRequest.enc x) (cRequest.enc y) = some (decide (x = y)) := by
  have h : eqT Try.prog cd false 4 45 (cRequest.enc x) (cRequest.enc y) = some (decide (x.priority = y.priority) && decide (x.vector = y.vector)) := by kernel_rfl
  rw [h]
  cases x; cases y; rw [Option.some.injEq, Bool.eq_iff_iff]; simp
theorem ents_ok : EntsOk Try.prog ents := ⟨⟨(cInt_ok .u8), (fun x => by kernel_rfl), (fun x => List.all_eq_true.1 (show (((cInt .u8) : Cdc U _).enc x).all plainC = true by kernel_rfl)), (fun f g h => by simp only [Option.some.injEq, Prod.mk.injEq] at h; obtain ⟨rfl, rfl⟩ := h; exact ⟨by kernel_rfl, fun _ => rfl, fun _ => rfl⟩), (fun d h cd x y => by cases h; exact eqT_int cd (by kernel_rfl) x y)⟩, ⟨cDeed_ok, (fun x => by kernel_rfl), (fun x => List.all_eq_true.1 (show ((cDeed : Cdc U _).enc x).all plainC = true by kernel_rfl)), (fun f g h => by cases h), (fun d h cd x y => by cases h; exact eqSDeed cd x y)⟩, ⟨cRequest_ok, (fun x => by kernel_rfl), (fun x => List.all_eq_true.1 (show ((cRequest : Cdc U _).enc x).all plainC = true by kernel_rfl)), (fun f g h => by cases h), (fun d h cd x y => by cases h; exact eqSRequest cd x y)⟩, trivial⟩
theorem cd_ok : CdOk Try.prog cd := cdOf_ok ents ents_ok
/-- emulator/line.isByte -/
noncomputable def Tline_isByte (x0 : Int) : Tree Bool :=
  .leaf (decide ((IntKind.wrap .i64 (((BitVec.ofInt 64 x0 &&& BitVec.ofInt 64 (255 : Int)).toNat : Int))) = x0))
noncomputable def line_isByte (x0 : Int) : Option Bool := (Tline_isByte x0).run
noncomputable def Aline_isByte : Arg U (Int × Unit) := aO (cInt .i64) (aNil)
noncomputable def Rline_isByte (r : Bool) : List (V U) × List (Blk U) := ([vO cBool r], [])
noncomputable def Sline_isByte : List (V U) → List (Blk U) → Option (FnOut U) := mkSpec Aline_isByte bNil (fun x _ => line_isByte x.1) Rline_isByte
noncomputable def Eline_isByte : Env U := { P := Try.prog, cd := cd, fns := noF, lps := noL, frz := fun _r => false, nt := 7, n0 := 0 }
theorem runline_isByte (x : Int × Unit) (g : Unit) : execF Eline_isByte Try.f29 (Aline_isByte.enc x) (bNil.enc g) = (Tline_isByte x.1).map Rline_isByte := by kernel_rfl
theorem okline_isByte : FnOk Try.prog cd 29 Sline_isByte := mk_ok (E := Eline_isByte) cd_ok noF_ok Try.func29 (by kernel_rfl) (noLoops_body (by kernel_rfl)) (aO_ok (cInt_ok .i64) (aNil_ok)) bNil_ok (T := fun x _ => Tline_isByte x.1) (fun _ _ => rfl) runline_isByte
noncomputable def fns29 := addF 29 true Sline_isByte noF
theorem fns29_ok : ∀ f q t, fns29 f = some (q, t) → FnOk Try.prog cd f t := addF_ok okline_isByte noF_ok
/-- emulator/line.Right -/
noncomputable def Tline_Right (x0 : Line) : Tree Bool :=
  .opt Bool (line_isByte x0.rxData) fun r1 =>
    .ite (r1)
      (.opt Bool (line_isByte x0.txData) fun r2 =>
        .ite (r2)
          (.ite (decide ((0 : Int) ≤ x0.txLeft))
            (.ite (decide (x0.txLeft ≤ (4 : Int)))
              (.ite ((x0.txReady == (decide (x0.txLeft = (0 : Int)))))
                (.leaf (decide ((x0.out.length : Int) ≤ (4096 : Int))))
                (.leaf (false)))
              (.leaf (false)))
            (.leaf (false)))
          (.leaf (false)))
      (.leaf (false))
noncomputable def line_Right (x0 : Line) : Option Bool := (Tline_Right x0).run
noncomputable def Aline_Right : Arg U (Line × Unit) := aA cLine (aNil)
noncomputable def Rline_Right (r : Bool) : List (V U) × List (Blk U) := ([vO cBool r], [])
noncomputable def Sline_Right : List (V U) → List (Blk U) → Option (FnOut U) := mkSpec Aline_Right bNil (fun x _ => line_Right x.1) Rline_Right
noncomputable def Eline_Right : Env U := { P := Try.prog, cd := cd, fns := fns29, lps := noL, frz := fun _r => false, nt := 35, n0 := 0 }
theorem runline_Right (x : Line × Unit) (g : Unit) : execF Eline_Right Try.f9 (Aline_Right.enc x) (bNil.enc g) = (Tline_Right x.1).map Rline_Right := by kernel_rfl
theorem okline_Right : FnOk Try.prog cd 9 Sline_Right := mk_ok (E := Eline_Right) cd_ok fns29_ok Try.func9 (by kernel_rfl) (noLoops_body (by kernel_rfl)) (aA_ok cLine_ok (aNil_ok)) bNil_ok (T := fun x _ => Tline_Right x.1) (fun _ _ => rfl) runline_Right
noncomputable def fns9 := addF 9 true Sline_Right fns29
theorem fns9_ok : ∀ f q t, fns9 f = some (q, t) → FnOk Try.prog cd f t := addF_ok okline_Right fns29_ok
/-- emulator/emulatorref14.Right -/
noncomputable def Tref14_Right (x0 : Line) : Tree Bool :=
  .ite (decide (x0.rxData < (0 : Int)))
    (.leaf (false))
    (.ite (decide ((255 : Int) < x0.rxData))
      (.leaf (false))
      (.ite (decide (x0.txData < (0 : Int)))
        (.leaf (false))
        (.ite (decide ((255 : Int) < x0.txData))
          (.leaf (false))
          (.ite (decide ((4096 : Int) < (x0.out.length : Int)))
            (.leaf (false))
            (.ite (decide ((0 : Int) ≤ x0.txLeft))
              (.ite (decide (x0.txLeft ≤ (4 : Int)))
                (.leaf ((x0.txReady == (decide (x0.txLeft = (0 : Int))))))
                (.leaf (false)))
              (.leaf (false)))))))
noncomputable def ref14_Right (x0 : Line) : Option Bool := (Tref14_Right x0).run
noncomputable def Aref14_Right : Arg U (Line × Unit) := aA cLine (aNil)
noncomputable def Rref14_Right (r : Bool) : List (V U) × List (Blk U) := ([vO cBool r], [])
noncomputable def Sref14_Right : List (V U) → List (Blk U) → Option (FnOut U) := mkSpec Aref14_Right bNil (fun x _ => ref14_Right x.1) Rref14_Right
noncomputable def Eref14_Right : Env U := { P := Try.prog, cd := cd, fns := fns9, lps := noL, frz := fun _r => false, nt := 43, n0 := 0 }
theorem runref14_Right (x : Line × Unit) (g : Unit) : execF Eref14_Right Try.f10 (Aref14_Right.enc x) (bNil.enc g) = (Tref14_Right x.1).map Rref14_Right := by kernel_rfl
theorem okref14_Right : FnOk Try.prog cd 10 Sref14_Right := mk_ok (E := Eref14_Right) cd_ok fns9_ok Try.func10 (by kernel_rfl) (noLoops_body (by kernel_rfl)) (aA_ok cLine_ok (aNil_ok)) bNil_ok (T := fun x _ => Tref14_Right x.1) (fun _ _ => rfl) runref14_Right
noncomputable def fns10 := addF 10 true Sref14_Right fns9
theorem fns10_ok : ∀ f q t, fns10 f = some (q, t) → FnOk Try.prog cd f t := addF_ok okref14_Right fns9_ok
/-- emulator/line.New -/
noncomputable def Tline_New  : Tree Line :=
  .leaf (Line.mk false false false 0 false true 0 0 ([]))
noncomputable def line_New  : Option Line := (Tline_New ).run
noncomputable def Aline_New : Arg U (Unit) := aNil
noncomputable def Rline_New (r : Line) : List (V U) × List (Blk U) := ([vA cLine r], [])
noncomputable def Sline_New : List (V U) → List (Blk U) → Option (FnOut U) := mkSpec Aline_New bNil (fun x _ => line_New ) Rline_New
noncomputable def Eline_New : Env U := { P := Try.prog, cd := cd, fns := fns10, lps := noL, frz := fun _r => false, nt := 2, n0 := 0 }
theorem runline_New (x : Unit) (g : Unit) : execF Eline_New Try.f11 (Aline_New.enc x) (bNil.enc g) = (Tline_New ).map Rline_New := by kernel_rfl
theorem okline_New : FnOk Try.prog cd 11 Sline_New := mk_ok (E := Eline_New) cd_ok fns10_ok Try.func11 (by kernel_rfl) (noLoops_body (by kernel_rfl)) (aNil_ok) bNil_ok (T := fun x _ => Tline_New ) (fun _ _ => rfl) runline_New
noncomputable def fns11 := addF 11 true Sline_New fns10
theorem fns11_ok : ∀ f q t, fns11 f = some (q, t) → FnOk Try.prog cd f t := addF_ok okline_New fns10_ok
/-- emulator/emulatorref14.New -/
noncomputable def Tref14_New  : Tree Line :=
  .leaf (Line.mk false false false 0 false true 0 0 ([]))
noncomputable def ref14_New  : Option Line := (Tref14_New ).run
noncomputable def Aref14_New : Arg U (Unit) := aNil
noncomputable def Rref14_New (r : Line) : List (V U) × List (Blk U) := ([vA cLine r], [])
noncomputable def Sref14_New : List (V U) → List (Blk U) → Option (FnOut U) := mkSpec Aref14_New bNil (fun x _ => ref14_New ) Rref14_New
noncomputable def Eref14_New : Env U := { P := Try.prog, cd := cd, fns := fns11, lps := noL, frz := fun _r => false, nt := 2, n0 := 0 }
theorem runref14_New (x : Unit) (g : Unit) : execF Eref14_New Try.f12 (Aref14_New.enc x) (bNil.enc g) = (Tref14_New ).map Rref14_New := by kernel_rfl
theorem okref14_New : FnOk Try.prog cd 12 Sref14_New := mk_ok (E := Eref14_New) cd_ok fns11_ok Try.func12 (by kernel_rfl) (noLoops_body (by kernel_rfl)) (aNil_ok) bNil_ok (T := fun x _ => Tref14_New ) (fun _ _ => rfl) runref14_New
noncomputable def fns12 := addF 12 true Sref14_New fns11
theorem fns12_ok : ∀ f q t, fns12 f = some (q, t) → FnOk Try.prog cd f t := addF_ok okref14_New fns11_ok
/-- emulator/emulatorref14.SameRequests -/
structure Sref14_SameRequests_0 where
  t0 : (List Request)
  t1 : (List Request)
  t5 : Int
noncomputable def Wref14_SameRequests_0 (s : Sref14_SameRequests_0) : Tree (Sref14_SameRequests_0 ⊕ (Bool ⊕ Unit)) :=
  .ite (decide (s.t5 < (s.t0.length : Int)))
    (.ite (decide (0 ≤ s.t5))
      (.opt Request (s.t0[(s.t5).toNat]?) fun y3 =>
        .ite (decide (0 ≤ s.t5))
          (.opt Request (s.t1[(s.t5).toNat]?) fun y4 =>
            .ite (!((decide (y3.priority = y4.priority)) && (decide (y3.vector = y4.vector))))
              (.leaf (.inr (.inl false)))
              (.leaf (.inl (Sref14_SameRequests_0.mk s.t0 s.t1 (IntKind.wrap .i64 (s.t5 + (1 : Int)))))))
          .fail)
      .fail)
    (.leaf (.inr (.inr ())))
noncomputable def Lref14_SameRequests_0 (q : Option Nat) (s : Sref14_SameRequests_0) : Option (Bool ⊕ Unit) := limQ q (fun s => (Wref14_SameRequests_0 s).run) s
theorem leLref14_SameRequests_0 (k : Nat) (s : Sref14_SameRequests_0) : Le (Lref14_SameRequests_0 (some k) s) (Lref14_SameRequests_0 none s) := limQ_le (fun _ => Le.rfl) s
noncomputable def Tref14_SameRequests (q : Option Nat) (x0 : (List Request)) (x1 : (List Request)) : Tree Bool :=
  .ite (!decide ((x0.length : Int) = (x1.length : Int)))
    (.leaf (false))
    (.opt (Bool ⊕ Unit) (Lref14_SameRequests_0 q (Sref14_SameRequests_0.mk x0 x1 (0 : Int))) fun l5 =>
      .ite (l5.isLeft)
        (.opt Bool (l5.getLeft?) fun a6 =>
          .leaf (a6))
        (.opt Unit (l5.getRight?) fun b7 =>
          .leaf (true)))
noncomputable def ref14_SameRequests (q : Option Nat) (x0 : (List Request)) (x1 : (List Request)) : Option Bool := (Tref14_SameRequests q x0 x1).run
theorem leref14_SameRequests (k : Nat) (x0 : (List Request)) (x1 : (List Request)) : Le (ref14_SameRequests (some k) x0 x1) (ref14_SameRequests none x0 x1) := (TLe.ite TLe.rfl (TLe.opt (leLref14_SameRequests_0 k _) fun _ => TLe.rfl))
noncomputable def Aref14_SameRequests : Arg U ((List Request) × (List Request) × Unit) := aO (cSl 45) (aO (cSl 45) (aNil))
noncomputable def Rref14_SameRequests (r : Bool) : List (V U) × List (Blk U) := ([vO cBool r], [])
noncomputable def Sref14_SameRequests : List (V U) → List (Blk U) → Option (FnOut U) := mkSpec Aref14_SameRequests bNil (fun x _ => ref14_SameRequests none x.1 x.2.1) Rref14_SameRequests
noncomputable def Pref14_SameRequests_0 (x : ((List Request) × Unit) × ((List Request) × Unit) × (Int × Unit) × Unit) (_g : Unit) : Sref14_SameRequests_0 := Sref14_SameRequests_0.mk x.1.1 x.2.1.1 x.2.2.1.1
noncomputable def tAref14_SameRequests_0 : Tms U (((List Request) × Unit) × ((List Request) × Unit) × (Int × Unit) × Unit) := tO 0 (cPair (cSl 45) (cUnit)) (tO 1 (cPair (cSl 45) (cUnit)) (tO 5 (cPair (cInt .i64) (cUnit)) (tNil)))
noncomputable def tBref14_SameRequests_0 : Bls U (Unit) := bNil
noncomputable def eSref14_SameRequests_0 (s : Sref14_SameRequests_0) : St U := { tm := [(0, .v (vO (cPair (cSl 45) (cUnit)) (s.t0, ()))), (1, .v (vO (cPair (cSl 45) (cUnit)) (s.t1, ()))), (5, .v (vO (cPair (cInt .i64) (cUnit)) (s.t5, ())))], hp := [] }
noncomputable def xSref14_SameRequests_0 : (Bool ⊕ Unit) → Ex × St U
  | .inl r => (.ret, { tm := [(4, .v (vO (cPair cBool (cUnit)) (r, ())))], hp := [] })
  | .inr r => (.exit 0, { tm := [], hp := [] })
noncomputable def xTref14_SameRequests_0 (y : (Bool ⊕ Unit)) : Tree (Ex × St U) := .ite y.isLeft (.opt Bool y.getLeft? fun r => .leaf (.ret, { tm := [(4, .v (vO (cPair cBool (cUnit)) (r, ())))], hp := [] })) (.opt Unit y.getRight? fun r => .leaf (.exit 0, { tm := [], hp := [] }))
noncomputable def href14_SameRequests_0 : Hd := { keep := [0, 1, 5], xkeep := [4], own := false }
noncomputable def Eref14_SameRequests : Env U := { P := Try.prog, cd := cd, fns := fns12, lps := (addL 0 href14_SameRequests_0 (mkLoop tAref14_SameRequests_0 tBref14_SameRequests_0 Pref14_SameRequests_0 (Lref14_SameRequests_0 none) xTref14_SameRequests_0) noL), frz := fun _r => false, nt := 26, n0 := 0 }
noncomputable def Bref14_SameRequests_0 : Code := (loopAt (Try.f14.body.getD .skip) 0 0).getD .skip
theorem roundref14_SameRequests_0 (s : Sref14_SameRequests_0) : round Eref14_SameRequests href14_SameRequests_0 Bref14_SameRequests_0 0 (eSref14_SameRequests_0 s) = (Wref14_SameRequests_0 s).map (sumE eSref14_SameRequests_0 xSref14_SameRequests_0) := by kernel_rfl
theorem lpref14_SameRequests_0 : LpOk Eref14_SameRequests Bref14_SameRequests_0 0 := mkLoop_ok (A := tAref14_SameRequests_0) (B := tBref14_SameRequests_0) (f := Pref14_SameRequests_0) (L := Lref14_SameRequests_0 none) (tO_ok (cPair_ok (cSl_ok 45) cUnit_ok) (tO_ok (cPair_ok (cSl_ok 45) cUnit_ok) (tO_ok (cPair_ok (cInt_ok .i64) cUnit_ok) tNil_ok))) bNil_ok (enc := eSref14_SameRequests_0) (out := xTref14_SameRequests_0) (outS := xSref14_SameRequests_0) (step := Wref14_SameRequests_0) (fun _ => rfl) (fun _ _ => by kernel_rfl) (by kernel_rfl) (fun b => by cases b <;> rfl) roundref14_SameRequests_0
theorem runref14_SameRequests (x : (List Request) × (List Request) × Unit) (g : Unit) : execF Eref14_SameRequests Try.f14 (Aref14_SameRequests.enc x) (bNil.enc g) = (Tref14_SameRequests none x.1 x.2.1).map Rref14_SameRequests := by kernel_rfl
theorem okref14_SameRequests : FnOk Try.prog cd 14 Sref14_SameRequests := mk_ok (E := Eref14_SameRequests) cd_ok fns12_ok Try.func14 (by kernel_rfl) (loops_of (addL_ok lpref14_SameRequests_0 noL_ok)) (aO_ok (cSl_ok 45) (aO_ok (cSl_ok 45) (aNil_ok))) bNil_ok (T := fun x _ => Tref14_SameRequests none x.1 x.2.1) (fun _ _ => rfl) runref14_SameRequests
noncomputable def fns14 := addF 14 true Sref14_SameRequests fns12
theorem fns14_ok : ∀ f q t, fns14 f = some (q, t) → FnOk Try.prog cd f t := addF_ok okref14_SameRequests fns12_ok
/-- emulator/line.Requests -/
noncomputable def Tline_Requests (x0 : Line) (x1 : Int) : Tree (List Request) :=
  .ite (decide (x1 < (0 : Int)))
    (.leaf ([]))
    (.ite (decide ((4 : Int) ≤ x1))
      (.leaf ([]))
      (.ite (x0.rxEnable)
        (.ite (x0.rxReady)
          (.ite (decide (([Request.mk (4 : Int) (IntKind.wrap .i64 ((128 : Int) + (IntKind.wrap .i64 ((8 : Int) * x1))))]).length * 16 ≤ 140737488355328))
            (.ite (x0.txEnable)
              (.ite (x0.txReady)
                (.ite (decide ((([Request.mk (4 : Int) (IntKind.wrap .i64 ((128 : Int) + (IntKind.wrap .i64 ((8 : Int) * x1))))]).length + ([Request.mk (4 : Int) (IntKind.wrap .i64 ((132 : Int) + (IntKind.wrap .i64 ((8 : Int) * x1))))]).length) * 16 ≤ 140737488355328))
                  (.leaf (([Request.mk (4 : Int) (IntKind.wrap .i64 ((128 : Int) + (IntKind.wrap .i64 ((8 : Int) * x1))))]) ++ ([Request.mk (4 : Int) (IntKind.wrap .i64 ((132 : Int) + (IntKind.wrap .i64 ((8 : Int) * x1))))])))
                  .fail)
                (.leaf ([Request.mk (4 : Int) (IntKind.wrap .i64 ((128 : Int) + (IntKind.wrap .i64 ((8 : Int) * x1))))])))
              (.leaf ([Request.mk (4 : Int) (IntKind.wrap .i64 ((128 : Int) + (IntKind.wrap .i64 ((8 : Int) * x1))))])))
            .fail)
          (.ite (x0.txEnable)
            (.ite (x0.txReady)
              (.ite (decide (([Request.mk (4 : Int) (IntKind.wrap .i64 ((132 : Int) + (IntKind.wrap .i64 ((8 : Int) * x1))))]).length * 16 ≤ 140737488355328))
                (.leaf ([Request.mk (4 : Int) (IntKind.wrap .i64 ((132 : Int) + (IntKind.wrap .i64 ((8 : Int) * x1))))]))
                .fail)
              (.leaf ([])))
            (.leaf ([]))))
        (.ite (x0.txEnable)
          (.ite (x0.txReady)
            (.ite (decide (([Request.mk (4 : Int) (IntKind.wrap .i64 ((132 : Int) + (IntKind.wrap .i64 ((8 : Int) * x1))))]).length * 16 ≤ 140737488355328))
              (.leaf ([Request.mk (4 : Int) (IntKind.wrap .i64 ((132 : Int) + (IntKind.wrap .i64 ((8 : Int) * x1))))]))
              .fail)
            (.leaf ([])))
          (.leaf ([])))))
noncomputable def line_Requests (x0 : Line) (x1 : Int) : Option (List Request) := (Tline_Requests x0 x1).run
noncomputable def Aline_Requests : Arg U (Line × Int × Unit) := aA cLine (aO (cInt .i64) (aNil))
noncomputable def Rline_Requests (r : (List Request)) : List (V U) × List (Blk U) := ([vO (cSl 45) r], [])
noncomputable def Sline_Requests : List (V U) → List (Blk U) → Option (FnOut U) := mkSpec Aline_Requests bNil (fun x _ => line_Requests x.1 x.2.1) Rline_Requests
noncomputable def Eline_Requests : Env U := { P := Try.prog, cd := cd, fns := fns14, lps := noL, frz := fun _r => false, nt := 39, n0 := 0 }
theorem runline_Requests (x : Line × Int × Unit) (g : Unit) : execF Eline_Requests Try.f15 (Aline_Requests.enc x) (bNil.enc g) = (Tline_Requests x.1 x.2.1).map Rline_Requests := by kernel_rfl
theorem okline_Requests : FnOk Try.prog cd 15 Sline_Requests := mk_ok (E := Eline_Requests) cd_ok fns14_ok Try.func15 (by kernel_rfl) (noLoops_body (by kernel_rfl)) (aA_ok cLine_ok (aO_ok (cInt_ok .i64) (aNil_ok))) bNil_ok (T := fun x _ => Tline_Requests x.1 x.2.1) (fun _ _ => rfl) runline_Requests
noncomputable def fns15 := addF 15 true Sline_Requests fns14
theorem fns15_ok : ∀ f q t, fns15 f = some (q, t) → FnOk Try.prog cd f t := addF_ok okline_Requests fns14_ok
/-- emulator/line.status -/
noncomputable def Tline_status (x0 : Bool) (x1 : Bool) : Tree Int :=
  .ite (x0)
    (.ite (x1)
      (.leaf (IntKind.wrap .i64 ((64 : Int) + (128 : Int))))
      (.leaf ((64 : Int))))
    (.ite (x1)
      (.leaf (IntKind.wrap .i64 ((0 : Int) + (128 : Int))))
      (.leaf ((0 : Int))))
noncomputable def line_status (x0 : Bool) (x1 : Bool) : Option Int := (Tline_status x0 x1).run
noncomputable def Aline_status : Arg U (Bool × Bool × Unit) := aO cBool (aO cBool (aNil))
noncomputable def Rline_status (r : Int) : List (V U) × List (Blk U) := ([vO (cInt .i64) r], [])
noncomputable def Sline_status : List (V U) → List (Blk U) → Option (FnOut U) := mkSpec Aline_status bNil (fun x _ => line_status x.1 x.2.1) Rline_status
noncomputable def Eline_status : Env U := { P := Try.prog, cd := cd, fns := fns15, lps := noL, frz := fun _r => false, nt := 11, n0 := 0 }
theorem runline_status (x : Bool × Bool × Unit) (g : Unit) : execF Eline_status Try.f30 (Aline_status.enc x) (bNil.enc g) = (Tline_status x.1 x.2.1).map Rline_status := by kernel_rfl
theorem okline_status : FnOk Try.prog cd 30 Sline_status := mk_ok (E := Eline_status) cd_ok fns15_ok Try.func30 (by kernel_rfl) (noLoops_body (by kernel_rfl)) (aO_ok cBool_ok (aO_ok cBool_ok (aNil_ok))) bNil_ok (T := fun x _ => Tline_status x.1 x.2.1) (fun _ _ => rfl) runline_status
noncomputable def fns30 := addF 30 true Sline_status fns15
theorem fns30_ok : ∀ f q t, fns30 f = some (q, t) → FnOk Try.prog cd f t := addF_ok okline_status fns15_ok
/-- emulator/line.Read -/
noncomputable def Tline_Read (x0 : Line) (x1 : Int) : Tree (Line × Int) :=
  .ite (decide (x1 = (0 : Int)))
    (.opt Int (line_status x0.rxEnable x0.rxReady) fun r8 =>
      .leaf ((x0, r8)))
    (.ite (decide (x1 = (4 : Int)))
      (.opt Int (line_status x0.txEnable x0.txReady) fun r9 =>
        .leaf ((x0, r9)))
      (.ite (decide (x1 = (2 : Int)))
        (.ite (x0.overrun)
          (.leaf ((Line.mk x0.rxEnable false false x0.rxData x0.txEnable x0.txReady x0.txData x0.txLeft x0.out, IntKind.wrap .i64 (x0.rxData + (32768 : Int)))))
          (.leaf ((Line.mk x0.rxEnable false false x0.rxData x0.txEnable x0.txReady x0.txData x0.txLeft x0.out, x0.rxData))))
        (.leaf ((x0, (0 : Int))))))
noncomputable def line_Read (x0 : Line) (x1 : Int) : Option (Line × Int) := (Tline_Read x0 x1).run
noncomputable def Aline_Read : Arg U (Line × Int × Unit) := aA cLine (aO (cInt .i64) (aNil))
noncomputable def Rline_Read (r : (Line × Int)) : List (V U) × List (Blk U) := ([vA cLine r.1, vO (cInt .i64) r.2], [])
noncomputable def Sline_Read : List (V U) → List (Blk U) → Option (FnOut U) := mkSpec Aline_Read bNil (fun x _ => line_Read x.1 x.2.1) Rline_Read
noncomputable def Eline_Read : Env U := { P := Try.prog, cd := cd, fns := fns30, lps := noL, frz := fun _r => false, nt := 37, n0 := 0 }
theorem runline_Read (x : Line × Int × Unit) (g : Unit) : execF Eline_Read Try.f17 (Aline_Read.enc x) (bNil.enc g) = (Tline_Read x.1 x.2.1).map Rline_Read := by kernel_rfl
theorem okline_Read : FnOk Try.prog cd 17 Sline_Read := mk_ok (E := Eline_Read) cd_ok fns30_ok Try.func17 (by kernel_rfl) (noLoops_body (by kernel_rfl)) (aA_ok cLine_ok (aO_ok (cInt_ok .i64) (aNil_ok))) bNil_ok (T := fun x _ => Tline_Read x.1 x.2.1) (fun _ _ => rfl) runline_Read
noncomputable def fns17 := addF 17 true Sline_Read fns30
theorem fns17_ok : ∀ f q t, fns17 f = some (q, t) → FnOk Try.prog cd f t := addF_ok okline_Read fns30_ok
/-- emulator/line.Type -/
noncomputable def Tline_Type (x0 : Line) (x1 : Int) : Tree Line :=
  .ite (x0.overrun)
    (.leaf (Line.mk x0.rxEnable true true (IntKind.wrap .i64 (((BitVec.ofInt 64 x1 &&& BitVec.ofInt 64 (255 : Int)).toNat : Int))) x0.txEnable x0.txReady x0.txData x0.txLeft x0.out))
    (.leaf (Line.mk x0.rxEnable true x0.rxReady (IntKind.wrap .i64 (((BitVec.ofInt 64 x1 &&& BitVec.ofInt 64 (255 : Int)).toNat : Int))) x0.txEnable x0.txReady x0.txData x0.txLeft x0.out))
noncomputable def line_Type (x0 : Line) (x1 : Int) : Option Line := (Tline_Type x0 x1).run
noncomputable def Aline_Type : Arg U (Line × Int × Unit) := aA cLine (aO (cInt .i64) (aNil))
noncomputable def Rline_Type (r : Line) : List (V U) × List (Blk U) := ([vA cLine r], [])
noncomputable def Sline_Type : List (V U) → List (Blk U) → Option (FnOut U) := mkSpec Aline_Type bNil (fun x _ => line_Type x.1 x.2.1) Rline_Type
noncomputable def Eline_Type : Env U := { P := Try.prog, cd := cd, fns := fns17, lps := noL, frz := fun _r => false, nt := 17, n0 := 0 }
theorem runline_Type (x : Line × Int × Unit) (g : Unit) : execF Eline_Type Try.f18 (Aline_Type.enc x) (bNil.enc g) = (Tline_Type x.1 x.2.1).map Rline_Type := by kernel_rfl
theorem okline_Type : FnOk Try.prog cd 18 Sline_Type := mk_ok (E := Eline_Type) cd_ok fns17_ok Try.func18 (by kernel_rfl) (noLoops_body (by kernel_rfl)) (aA_ok cLine_ok (aO_ok (cInt_ok .i64) (aNil_ok))) bNil_ok (T := fun x _ => Tline_Type x.1 x.2.1) (fun _ _ => rfl) runline_Type
noncomputable def fns18 := addF 18 true Sline_Type fns17
theorem fns18_ok : ∀ f q t, fns18 f = some (q, t) → FnOk Try.prog cd f t := addF_ok okline_Type fns17_ok
/-- emulator/line.Write -/
noncomputable def Tline_Write (x0 : Line) (x1 : Int) (x2 : Int) : Tree Line :=
  .ite (decide (x1 = (0 : Int)))
    (.leaf (Line.mk (!decide ((IntKind.wrap .i64 (((BitVec.ofInt 64 x2 &&& BitVec.ofInt 64 (64 : Int)).toNat : Int))) = (0 : Int))) x0.rxReady x0.overrun x0.rxData x0.txEnable x0.txReady x0.txData x0.txLeft x0.out))
    (.ite (decide (x1 = (4 : Int)))
      (.leaf (Line.mk x0.rxEnable x0.rxReady x0.overrun x0.rxData (!decide ((IntKind.wrap .i64 (((BitVec.ofInt 64 x2 &&& BitVec.ofInt 64 (64 : Int)).toNat : Int))) = (0 : Int))) x0.txReady x0.txData x0.txLeft x0.out))
      (.ite (decide (x1 = (6 : Int)))
        (.ite (x0.txReady)
          (.leaf (Line.mk x0.rxEnable x0.rxReady x0.overrun x0.rxData x0.txEnable false (IntKind.wrap .i64 (((BitVec.ofInt 64 x2 &&& BitVec.ofInt 64 (255 : Int)).toNat : Int))) (4 : Int) x0.out))
          (.leaf (x0)))
        (.leaf (x0))))
noncomputable def line_Write (x0 : Line) (x1 : Int) (x2 : Int) : Option Line := (Tline_Write x0 x1 x2).run
noncomputable def Aline_Write : Arg U (Line × Int × Int × Unit) := aA cLine (aO (cInt .i64) (aO (cInt .i64) (aNil)))
noncomputable def Rline_Write (r : Line) : List (V U) × List (Blk U) := ([vA cLine r], [])
noncomputable def Sline_Write : List (V U) → List (Blk U) → Option (FnOut U) := mkSpec Aline_Write bNil (fun x _ => line_Write x.1 x.2.1 x.2.2.1) Rline_Write
noncomputable def Eline_Write : Env U := { P := Try.prog, cd := cd, fns := fns18, lps := noL, frz := fun _r => false, nt := 30, n0 := 0 }
theorem runline_Write (x : Line × Int × Int × Unit) (g : Unit) : execF Eline_Write Try.f21 (Aline_Write.enc x) (bNil.enc g) = (Tline_Write x.1 x.2.1 x.2.2.1).map Rline_Write := by kernel_rfl
theorem okline_Write : FnOk Try.prog cd 21 Sline_Write := mk_ok (E := Eline_Write) cd_ok fns18_ok Try.func21 (by kernel_rfl) (noLoops_body (by kernel_rfl)) (aA_ok cLine_ok (aO_ok (cInt_ok .i64) (aO_ok (cInt_ok .i64) (aNil_ok)))) bNil_ok (T := fun x _ => Tline_Write x.1 x.2.1 x.2.2.1) (fun _ _ => rfl) runline_Write
noncomputable def fns21 := addF 21 true Sline_Write fns18
theorem fns21_ok : ∀ f q t, fns21 f = some (q, t) → FnOk Try.prog cd f t := addF_ok okline_Write fns18_ok
/-- emulator/line.Tick -/
noncomputable def Tline_Tick (x0 : Line) : Tree Line :=
  .ite (decide (x0.txLeft = (0 : Int)))
    (.leaf (x0))
    (.ite (decide ((IntKind.wrap .i64 (x0.txLeft - (1 : Int))) = (0 : Int)))
      (.ite (decide (x0.out.length + (([IntKind.wrap .u8 x0.txData]).map fun x => UInt8.ofNat x.toNat).length ≤ 9223372036854775807))
        (.ite (decide (0 ≤ (if IntKind.wrap .i64 (((x0.out ++ (([IntKind.wrap .u8 x0.txData]).map fun x => UInt8.ofNat x.toNat)).length : Int) - (4096 : Int)) > (0 : Int) then IntKind.wrap .i64 (((x0.out ++ (([IntKind.wrap .u8 x0.txData]).map fun x => UInt8.ofNat x.toNat)).length : Int) - (4096 : Int)) else (0 : Int))))
          (.ite (decide ((if IntKind.wrap .i64 (((x0.out ++ (([IntKind.wrap .u8 x0.txData]).map fun x => UInt8.ofNat x.toNat)).length : Int) - (4096 : Int)) > (0 : Int) then IntKind.wrap .i64 (((x0.out ++ (([IntKind.wrap .u8 x0.txData]).map fun x => UInt8.ofNat x.toNat)).length : Int) - (4096 : Int)) else (0 : Int)) ≤ (((x0.out ++ (([IntKind.wrap .u8 x0.txData]).map fun x => UInt8.ofNat x.toNat)).length : Nat) : Int)))
            (.leaf (Line.mk x0.rxEnable x0.rxReady x0.overrun x0.rxData x0.txEnable true x0.txData (IntKind.wrap .i64 (x0.txLeft - (1 : Int))) (((x0.out ++ (([IntKind.wrap .u8 x0.txData]).map fun x => UInt8.ofNat x.toNat)).drop (((if IntKind.wrap .i64 (((x0.out ++ (([IntKind.wrap .u8 x0.txData]).map fun x => UInt8.ofNat x.toNat)).length : Int) - (4096 : Int)) > (0 : Int) then IntKind.wrap .i64 (((x0.out ++ (([IntKind.wrap .u8 x0.txData]).map fun x => UInt8.ofNat x.toNat)).length : Int) - (4096 : Int)) else (0 : Int))).toNat)).take ((x0.out ++ (([IntKind.wrap .u8 x0.txData]).map fun x => UInt8.ofNat x.toNat)).length - ((if IntKind.wrap .i64 (((x0.out ++ (([IntKind.wrap .u8 x0.txData]).map fun x => UInt8.ofNat x.toNat)).length : Int) - (4096 : Int)) > (0 : Int) then IntKind.wrap .i64 (((x0.out ++ (([IntKind.wrap .u8 x0.txData]).map fun x => UInt8.ofNat x.toNat)).length : Int) - (4096 : Int)) else (0 : Int))).toNat))))
            .fail)
          .fail)
        .fail)
      (.leaf (Line.mk x0.rxEnable x0.rxReady x0.overrun x0.rxData x0.txEnable x0.txReady x0.txData (IntKind.wrap .i64 (x0.txLeft - (1 : Int))) x0.out)))
noncomputable def line_Tick (x0 : Line) : Option Line := (Tline_Tick x0).run
noncomputable def Aline_Tick : Arg U (Line × Unit) := aA cLine (aNil)
noncomputable def Rline_Tick (r : Line) : List (V U) × List (Blk U) := ([vA cLine r], [])
noncomputable def Sline_Tick : List (V U) → List (Blk U) → Option (FnOut U) := mkSpec Aline_Tick bNil (fun x _ => line_Tick x.1) Rline_Tick
noncomputable def Eline_Tick : Env U := { P := Try.prog, cd := cd, fns := fns21, lps := noL, frz := fun _r => false, nt := 34, n0 := 0 }
theorem runline_Tick (x : Line × Unit) (g : Unit) : execF Eline_Tick Try.f23 (Aline_Tick.enc x) (bNil.enc g) = (Tline_Tick x.1).map Rline_Tick := by kernel_rfl
theorem okline_Tick : FnOk Try.prog cd 23 Sline_Tick := mk_ok (E := Eline_Tick) cd_ok fns21_ok Try.func23 (by kernel_rfl) (noLoops_body (by kernel_rfl)) (aA_ok cLine_ok (aNil_ok)) bNil_ok (T := fun x _ => Tline_Tick x.1) (fun _ _ => rfl) runline_Tick
noncomputable def fns23 := addF 23 true Sline_Tick fns21
theorem fns23_ok : ∀ f q t, fns23 f = some (q, t) → FnOk Try.prog cd f t := addF_ok okline_Tick fns21_ok
/-- emulator/emulatorlaw14.alive -/
structure Slaw14_alive_0 where
  t2 : Int
  t4 : Int
  t6 : Int
  b0 : Line
noncomputable def Wlaw14_alive_0 (s : Slaw14_alive_0) : Tree (Slaw14_alive_0 ⊕ (Int × Int × Line)) :=
  .ite (decide (s.t6 < (3 : Int)))
    (.opt Line (line_Tick s.b0) fun r32 =>
      .leaf (.inl (Slaw14_alive_0.mk s.t2 s.t4 (IntKind.wrap .i64 (s.t6 + (1 : Int))) r32)))
    (.leaf (.inr (s.t2, s.t4, s.b0)))
noncomputable def Llaw14_alive_0 (q : Option Nat) (s : Slaw14_alive_0) : Option (Int × Int × Line) := limQ q (fun s => (Wlaw14_alive_0 s).run) s
theorem leLlaw14_alive_0 (k : Nat) (s : Slaw14_alive_0) : Le (Llaw14_alive_0 (some k) s) (Llaw14_alive_0 none s) := limQ_le (fun _ => Le.rfl) s
noncomputable def Tlaw14_alive (q : Option Nat)  : Tree Bool :=
  .opt Line (line_New) fun r25 =>
    .opt Line (line_Type r25 (65 : Int)) fun r26 =>
      .opt Line (line_Type r26 (66 : Int)) fun r27 =>
        .opt (Line × Int) (line_Read r27 (2 : Int)) fun r28 =>
          .opt (Line × Int) (line_Read r28.1 (2 : Int)) fun r29 =>
            .opt Line (line_New) fun r30 =>
              .opt Line (line_Write r30 (6 : Int) (321 : Int)) fun r31 =>
                .opt (Int × Int × Line) (Llaw14_alive_0 q (Slaw14_alive_0.mk r28.2 r29.2 (0 : Int) r31)) fun l33 =>
                  .opt (Line × Int) (line_Read l33.2.2 (4 : Int)) fun r34 =>
                    .opt Line (line_Tick l33.2.2) fun r35 =>
                      .opt (Line × Int) (line_Read r35 (4 : Int)) fun r36 =>
                        .opt Line (line_New) fun r37 =>
                          .opt Line (line_Write r37 (4 : Int) (64 : Int)) fun r38 =>
                            .ite (decide (l33.1 = (32834 : Int)))
                              (.ite (decide (l33.2.1 = (66 : Int)))
                                (.ite (decide (l33.2.2.txData = (65 : Int)))
                                  (.ite (decide (l33.2.2.out = ([])))
                                    (.ite (decide (r34.2 = (0 : Int)))
                                      (.ite (decide (r35.out = ([65])))
                                        (.ite (decide (r36.2 = (128 : Int)))
                                          (.opt (List Request) (line_Requests r38 (1 : Int)) fun r39 =>
                                            .opt Bool (ref14_SameRequests q r39 ([Request.mk (4 : Int) (140 : Int)])) fun r40 =>
                                              .ite (r40)
                                                (.opt (List Request) (line_Requests r38 (4 : Int)) fun r41 =>
                                                  .ite (decide ((r41.length : Int) = (0 : Int)))
                                                    (.opt Bool (line_Right r38) fun r42 =>
                                                      .leaf (r42))
                                                    (.leaf (false)))
                                                (.leaf (false)))
                                          (.leaf (false)))
                                        (.leaf (false)))
                                      (.leaf (false)))
                                    (.leaf (false)))
                                  (.leaf (false)))
                                (.leaf (false)))
                              (.leaf (false))
noncomputable def law14_alive (q : Option Nat)  : Option Bool := (Tlaw14_alive q ).run
theorem lelaw14_alive (k : Nat)  : Le (law14_alive (some k) ) (law14_alive none ) := (TLe.opt Le.rfl fun _ => (TLe.opt Le.rfl fun _ => (TLe.opt Le.rfl fun _ => (TLe.opt Le.rfl fun _ => (TLe.opt Le.rfl fun _ => (TLe.opt Le.rfl fun _ => (TLe.opt Le.rfl fun _ => (TLe.opt (leLlaw14_alive_0 k _) fun _ => (TLe.opt Le.rfl fun _ => (TLe.opt Le.rfl fun _ => (TLe.opt Le.rfl fun _ => (TLe.opt Le.rfl fun _ => (TLe.opt Le.rfl fun _ => (TLe.ite (TLe.ite (TLe.ite (TLe.ite (TLe.ite (TLe.ite (TLe.ite (TLe.opt Le.rfl fun _ => (TLe.opt (leref14_SameRequests k _ _) fun _ => TLe.rfl)) TLe.rfl) TLe.rfl) TLe.rfl) TLe.rfl) TLe.rfl) TLe.rfl) TLe.rfl))))))))))))))
noncomputable def Alaw14_alive : Arg U (Unit) := aNil
noncomputable def Rlaw14_alive (r : Bool) : List (V U) × List (Blk U) := ([vO cBool r], [])
noncomputable def Slaw14_alive : List (V U) → List (Blk U) → Option (FnOut U) := mkSpec Alaw14_alive bNil (fun x _ => law14_alive none ) Rlaw14_alive
noncomputable def Plaw14_alive_0 (x : (Int × Unit) × (Int × Unit) × (Unit) × (Int × Unit) × Unit) (g : (Line × Unit) × Unit) : Slaw14_alive_0 := Slaw14_alive_0.mk x.1.1 x.2.1.1 x.2.2.2.1.1 g.1.1
noncomputable def tAlaw14_alive_0 : Tms U ((Int × Unit) × (Int × Unit) × (Unit) × (Int × Unit) × Unit) := tO 2 (cPair (cInt .i64) (cUnit)) (tO 4 (cPair (cInt .i64) (cUnit)) (tO 5 (cK (.ptr 0 0) (cUnit)) (tO 6 (cPair (cInt .i64) (cUnit)) (tNil))))
noncomputable def tBlaw14_alive_0 : Bls U ((Line × Unit) × Unit) := bC (cPair cLine (cUnit)) (bNil)
noncomputable def eSlaw14_alive_0 (s : Slaw14_alive_0) : St U := { tm := [(2, .v (vO (cPair (cInt .i64) (cUnit)) (s.t2, ()))), (4, .v (vO (cPair (cInt .i64) (cUnit)) (s.t4, ()))), (5, .v (vO (cK (.ptr 0 0) (cUnit)) (()))), (6, .v (vO (cPair (cInt .i64) (cUnit)) (s.t6, ())))], hp := [.cells ((cPair cLine (cUnit) : Cdc U (Line × Unit)).enc (s.b0, ()))] }
noncomputable def xSlaw14_alive_0 (r : (Int × Int × Line)) : Ex × St U := (.exit 0, { tm := [(2, .v (vO (cPair (cInt .i64) (cUnit)) (r.1, ()))), (4, .v (vO (cPair (cInt .i64) (cUnit)) (r.2.1, ()))), (5, .v (vO (cK (.ptr 0 0) (cUnit)) (())))], hp := [.cells ((cPair cLine (cUnit) : Cdc U (Line × Unit)).enc (r.2.2, ()))] })
noncomputable def xTlaw14_alive_0 (r : (Int × Int × Line)) : Tree (Ex × St U) := .leaf (xSlaw14_alive_0 r)
noncomputable def hlaw14_alive_0 : Hd := { keep := [2, 4, 5, 6], xkeep := [0, 2, 4, 5], own := false }
noncomputable def Elaw14_alive : Env U := { P := Try.prog, cd := cd, fns := (addF 14 false (frzSpec Sref14_SameRequests) fns23), lps := (addL 0 hlaw14_alive_0 (mkLoop tAlaw14_alive_0 tBlaw14_alive_0 Plaw14_alive_0 (Llaw14_alive_0 none) xTlaw14_alive_0) noL), frz := fun _r => false, nt := 94, n0 := 0 }
noncomputable def Blaw14_alive_0 : Code := (loopAt (Try.f13.body.getD .skip) 0 0).getD .skip
theorem roundlaw14_alive_0 (s : Slaw14_alive_0) : round Elaw14_alive hlaw14_alive_0 Blaw14_alive_0 0 (eSlaw14_alive_0 s) = (Wlaw14_alive_0 s).map (sumE eSlaw14_alive_0 xSlaw14_alive_0) := by kernel_rfl
theorem lplaw14_alive_0 : LpOk Elaw14_alive Blaw14_alive_0 0 := mkLoop_ok (A := tAlaw14_alive_0) (B := tBlaw14_alive_0) (f := Plaw14_alive_0) (L := Llaw14_alive_0 none) (tO_ok (cPair_ok (cInt_ok .i64) cUnit_ok) (tO_ok (cPair_ok (cInt_ok .i64) cUnit_ok) (tO_ok (cK_ok cUnit_ok) (tO_ok (cPair_ok (cInt_ok .i64) cUnit_ok) tNil_ok)))) (bC_ok (cPair_ok cLine_ok cUnit_ok) bNil_ok) (enc := eSlaw14_alive_0) (out := xTlaw14_alive_0) (outS := xSlaw14_alive_0) (step := Wlaw14_alive_0) (fun _ => rfl) (fun _ _ => by kernel_rfl) (by kernel_rfl) (fun _ => rfl) roundlaw14_alive_0
theorem runlaw14_alive (x : Unit) (g : Unit) : execF Elaw14_alive Try.f13 (Alaw14_alive.enc x) (bNil.enc g) = (Tlaw14_alive none ).map Rlaw14_alive := by kernel_rfl
theorem oklaw14_alive : FnOk Try.prog cd 13 Slaw14_alive := mk_ok (E := Elaw14_alive) cd_ok (addF_ok (fnOk_frz cd_ok (mkSpec_out fun _ => rfl) okref14_SameRequests) fns23_ok) Try.func13 (by kernel_rfl) (loops_of (addL_ok lplaw14_alive_0 noL_ok)) (aNil_ok) bNil_ok (T := fun x _ => Tlaw14_alive none ) (fun _ _ => rfl) runlaw14_alive
noncomputable def fns13 := addF 13 true Slaw14_alive fns23
theorem fns13_ok : ∀ f q t, fns13 f = some (q, t) → FnOk Try.prog cd f t := addF_ok oklaw14_alive fns23_ok
/-- emulator/emulatorlaw14.LineRight -/
noncomputable def Tlaw14_LineRight (q : Option Nat) (x0 : Line) : Tree Bool :=
  .opt Bool (line_Right x0) fun r43 =>
    .opt Bool (ref14_Right x0) fun r44 =>
      .ite ((r43 == r44))
        (.opt Line (line_New) fun r45 =>
          .opt Line (ref14_New) fun r46 =>
            .ite (((r45.rxEnable == r46.rxEnable) && ((r45.rxReady == r46.rxReady) && ((r45.overrun == r46.overrun) && ((decide (r45.rxData = r46.rxData)) && ((r45.txEnable == r46.txEnable) && ((r45.txReady == r46.txReady) && ((decide (r45.txData = r46.txData)) && ((decide (r45.txLeft = r46.txLeft)) && (decide (r45.out = r46.out)))))))))))
              (.opt Bool (law14_alive q) fun r47 =>
                .leaf (r47))
              (.leaf (false)))
        (.leaf (false))
noncomputable def law14_LineRight (q : Option Nat) (x0 : Line) : Option Bool := (Tlaw14_LineRight q x0).run
theorem lelaw14_LineRight (k : Nat) (x0 : Line) : Le (law14_LineRight (some k) x0) (law14_LineRight none x0) := (TLe.opt Le.rfl fun _ => (TLe.opt Le.rfl fun _ => (TLe.ite (TLe.opt Le.rfl fun _ => (TLe.opt Le.rfl fun _ => (TLe.ite (TLe.opt (lelaw14_alive k) fun _ => TLe.rfl) TLe.rfl))) TLe.rfl)))
noncomputable def Alaw14_LineRight : Arg U (Line × Unit) := aA cLine (aNil)
noncomputable def Rlaw14_LineRight (r : Bool) : List (V U) × List (Blk U) := ([vO cBool r], [])
noncomputable def Slaw14_LineRight : List (V U) → List (Blk U) → Option (FnOut U) := mkSpec Alaw14_LineRight bNil (fun x _ => law14_LineRight none x.1) Rlaw14_LineRight
noncomputable def Elaw14_LineRight : Env U := { P := Try.prog, cd := cd, fns := fns13, lps := noL, frz := fun _r => false, nt := 16, n0 := 0 }
theorem runlaw14_LineRight (x : Line × Unit) (g : Unit) : execF Elaw14_LineRight Try.f3 (Alaw14_LineRight.enc x) (bNil.enc g) = (Tlaw14_LineRight none x.1).map Rlaw14_LineRight := by kernel_rfl
theorem oklaw14_LineRight : FnOk Try.prog cd 3 Slaw14_LineRight := mk_ok (E := Elaw14_LineRight) cd_ok fns13_ok Try.func3 (by kernel_rfl) (noLoops_body (by kernel_rfl)) (aA_ok cLine_ok (aNil_ok)) bNil_ok (T := fun x _ => Tlaw14_LineRight none x.1) (fun _ _ => rfl) runlaw14_LineRight
noncomputable def fns3 := addF 3 true Slaw14_LineRight fns13
theorem fns3_ok : ∀ f q t, fns3 f = some (q, t) → FnOk Try.prog cd f t := addF_ok oklaw14_LineRight fns13_ok
/-- emulator/emulatorref14.Requests -/
noncomputable def Tref14_Requests (x0 : Line) (x1 : Int) : Tree (List Request) :=
  .ite (decide (x1 < (0 : Int)))
    (.leaf ([]))
    (.ite (decide ((4 : Int) ≤ x1))
      (.leaf ([]))
      (.ite (x0.rxEnable)
        (.ite (x0.rxReady)
          (.ite (decide (([Request.mk (4 : Int) (IntKind.wrap .i64 ((128 : Int) + (IntKind.wrap .i64 ((8 : Int) * x1))))]).length * 16 ≤ 140737488355328))
            (.ite (x0.txEnable)
              (.ite (x0.txReady)
                (.ite (decide ((([Request.mk (4 : Int) (IntKind.wrap .i64 ((128 : Int) + (IntKind.wrap .i64 ((8 : Int) * x1))))]).length + ([Request.mk (4 : Int) (IntKind.wrap .i64 ((132 : Int) + (IntKind.wrap .i64 ((8 : Int) * x1))))]).length) * 16 ≤ 140737488355328))
                  (.leaf (([Request.mk (4 : Int) (IntKind.wrap .i64 ((128 : Int) + (IntKind.wrap .i64 ((8 : Int) * x1))))]) ++ ([Request.mk (4 : Int) (IntKind.wrap .i64 ((132 : Int) + (IntKind.wrap .i64 ((8 : Int) * x1))))])))
                  .fail)
                (.leaf ([Request.mk (4 : Int) (IntKind.wrap .i64 ((128 : Int) + (IntKind.wrap .i64 ((8 : Int) * x1))))])))
              (.leaf ([Request.mk (4 : Int) (IntKind.wrap .i64 ((128 : Int) + (IntKind.wrap .i64 ((8 : Int) * x1))))])))
            .fail)
          (.ite (x0.txEnable)
            (.ite (x0.txReady)
              (.ite (decide (([Request.mk (4 : Int) (IntKind.wrap .i64 ((132 : Int) + (IntKind.wrap .i64 ((8 : Int) * x1))))]).length * 16 ≤ 140737488355328))
                (.leaf ([Request.mk (4 : Int) (IntKind.wrap .i64 ((132 : Int) + (IntKind.wrap .i64 ((8 : Int) * x1))))]))
                .fail)
              (.leaf ([])))
            (.leaf ([]))))
        (.ite (x0.txEnable)
          (.ite (x0.txReady)
            (.ite (decide (([Request.mk (4 : Int) (IntKind.wrap .i64 ((132 : Int) + (IntKind.wrap .i64 ((8 : Int) * x1))))]).length * 16 ≤ 140737488355328))
              (.leaf ([Request.mk (4 : Int) (IntKind.wrap .i64 ((132 : Int) + (IntKind.wrap .i64 ((8 : Int) * x1))))]))
              .fail)
            (.leaf ([])))
          (.leaf ([])))))
noncomputable def ref14_Requests (x0 : Line) (x1 : Int) : Option (List Request) := (Tref14_Requests x0 x1).run
noncomputable def Aref14_Requests : Arg U (Line × Int × Unit) := aA cLine (aO (cInt .i64) (aNil))
noncomputable def Rref14_Requests (r : (List Request)) : List (V U) × List (Blk U) := ([vO (cSl 45) r], [])
noncomputable def Sref14_Requests : List (V U) → List (Blk U) → Option (FnOut U) := mkSpec Aref14_Requests bNil (fun x _ => ref14_Requests x.1 x.2.1) Rref14_Requests
noncomputable def Eref14_Requests : Env U := { P := Try.prog, cd := cd, fns := fns3, lps := noL, frz := fun _r => false, nt := 40, n0 := 0 }
theorem runref14_Requests (x : Line × Int × Unit) (g : Unit) : execF Eref14_Requests Try.f16 (Aref14_Requests.enc x) (bNil.enc g) = (Tref14_Requests x.1 x.2.1).map Rref14_Requests := by kernel_rfl
theorem okref14_Requests : FnOk Try.prog cd 16 Sref14_Requests := mk_ok (E := Eref14_Requests) cd_ok fns3_ok Try.func16 (by kernel_rfl) (noLoops_body (by kernel_rfl)) (aA_ok cLine_ok (aO_ok (cInt_ok .i64) (aNil_ok))) bNil_ok (T := fun x _ => Tref14_Requests x.1 x.2.1) (fun _ _ => rfl) runref14_Requests
noncomputable def fns16 := addF 16 true Sref14_Requests fns3
theorem fns16_ok : ∀ f q t, fns16 f = some (q, t) → FnOk Try.prog cd f t := addF_ok okref14_Requests fns3_ok
/-- emulator/emulatorlaw14.LineRequests -/
noncomputable def Tlaw14_LineRequests (q : Option Nat) (x0 : Line) (x1 : Int) : Tree Bool :=
  .opt (List Request) (line_Requests x0 x1) fun r48 =>
    .opt (List Request) (ref14_Requests x0 x1) fun r49 =>
      .opt Bool (ref14_SameRequests q r48 r49) fun r50 =>
        .ite (r50)
          (.opt Bool (law14_alive q) fun r51 =>
            .leaf (r51))
          (.leaf (false))
noncomputable def law14_LineRequests (q : Option Nat) (x0 : Line) (x1 : Int) : Option Bool := (Tlaw14_LineRequests q x0 x1).run
theorem lelaw14_LineRequests (k : Nat) (x0 : Line) (x1 : Int) : Le (law14_LineRequests (some k) x0 x1) (law14_LineRequests none x0 x1) := (TLe.opt Le.rfl fun _ => (TLe.opt Le.rfl fun _ => (TLe.opt (leref14_SameRequests k _ _) fun _ => (TLe.ite (TLe.opt (lelaw14_alive k) fun _ => TLe.rfl) TLe.rfl))))
noncomputable def Alaw14_LineRequests : Arg U (Line × Int × Unit) := aA cLine (aO (cInt .i64) (aNil))
noncomputable def Rlaw14_LineRequests (r : Bool) : List (V U) × List (Blk U) := ([vO cBool r], [])
noncomputable def Slaw14_LineRequests : List (V U) → List (Blk U) → Option (FnOut U) := mkSpec Alaw14_LineRequests bNil (fun x _ => law14_LineRequests none x.1 x.2.1) Rlaw14_LineRequests
noncomputable def Elaw14_LineRequests : Env U := { P := Try.prog, cd := cd, fns := fns16, lps := noL, frz := fun _r => false, nt := 15, n0 := 0 }
theorem runlaw14_LineRequests (x : Line × Int × Unit) (g : Unit) : execF Elaw14_LineRequests Try.f4 (Alaw14_LineRequests.enc x) (bNil.enc g) = (Tlaw14_LineRequests none x.1 x.2.1).map Rlaw14_LineRequests := by kernel_rfl
theorem oklaw14_LineRequests : FnOk Try.prog cd 4 Slaw14_LineRequests := mk_ok (E := Elaw14_LineRequests) cd_ok fns16_ok Try.func4 (by kernel_rfl) (noLoops_body (by kernel_rfl)) (aA_ok cLine_ok (aO_ok (cInt_ok .i64) (aNil_ok))) bNil_ok (T := fun x _ => Tlaw14_LineRequests none x.1 x.2.1) (fun _ _ => rfl) runlaw14_LineRequests
noncomputable def fns4 := addF 4 true Slaw14_LineRequests fns16
theorem fns4_ok : ∀ f q t, fns4 f = some (q, t) → FnOk Try.prog cd f t := addF_ok oklaw14_LineRequests fns16_ok
/-- emulator/emulatorlaw14.LineReads -/
noncomputable def Tlaw14_LineReads (q : Option Nat) (x0 : Line) (x1 : Int) : Tree Bool :=
  .opt Bool (ref14_Right x0) fun r52 =>
    .ite (!r52)
      (.leaf (true))
      (.opt Line (line_Type x0 x1) fun r53 =>
        .opt (Line × Int) (line_Read r53 (2 : Int)) fun r54 =>
          .opt (Line × Int) (line_Read r54.1 (2 : Int)) fun r55 =>
            .opt (Line × Int) (line_Read r54.1 (0 : Int)) fun r56 =>
              .ite (decide ((IntKind.wrap .i64 (((BitVec.ofInt 64 r54.2 &&& BitVec.ofInt 64 (255 : Int)).toNat : Int))) = (IntKind.wrap .i64 (((BitVec.ofInt 64 x1 &&& BitVec.ofInt 64 (255 : Int)).toNat : Int)))))
                (.ite (x0.rxReady)
                  (.ite (((decide ((32768 : Int) ≤ r54.2)) == true))
                    (.ite (decide (r55.2 = (IntKind.wrap .i64 (((BitVec.ofInt 64 x1 &&& BitVec.ofInt 64 (255 : Int)).toNat : Int)))))
                      (.ite (((r55.1.rxEnable == r54.1.rxEnable) && ((r55.1.rxReady == r54.1.rxReady) && ((r55.1.overrun == r54.1.overrun) && ((decide (r55.1.rxData = r54.1.rxData)) && ((r55.1.txEnable == r54.1.txEnable) && ((r55.1.txReady == r54.1.txReady) && ((decide (r55.1.txData = r54.1.txData)) && ((decide (r55.1.txLeft = r54.1.txLeft)) && (decide (r55.1.out = r54.1.out)))))))))))
                        (.ite (decide ((IntKind.wrap .i64 (((BitVec.ofInt 64 r56.2 &&& BitVec.ofInt 64 (128 : Int)).toNat : Int))) = (0 : Int)))
                          (.opt Bool (law14_alive q) fun r57 =>
                            .leaf (r57))
                          (.leaf (false)))
                        (.leaf (false)))
                      (.leaf (false)))
                    (.leaf (false)))
                  (.ite (((decide ((32768 : Int) ≤ r54.2)) == x0.overrun))
                    (.ite (decide (r55.2 = (IntKind.wrap .i64 (((BitVec.ofInt 64 x1 &&& BitVec.ofInt 64 (255 : Int)).toNat : Int)))))
                      (.ite (((r55.1.rxEnable == r54.1.rxEnable) && ((r55.1.rxReady == r54.1.rxReady) && ((r55.1.overrun == r54.1.overrun) && ((decide (r55.1.rxData = r54.1.rxData)) && ((r55.1.txEnable == r54.1.txEnable) && ((r55.1.txReady == r54.1.txReady) && ((decide (r55.1.txData = r54.1.txData)) && ((decide (r55.1.txLeft = r54.1.txLeft)) && (decide (r55.1.out = r54.1.out)))))))))))
                        (.ite (decide ((IntKind.wrap .i64 (((BitVec.ofInt 64 r56.2 &&& BitVec.ofInt 64 (128 : Int)).toNat : Int))) = (0 : Int)))
                          (.opt Bool (law14_alive q) fun r58 =>
                            .leaf (r58))
                          (.leaf (false)))
                        (.leaf (false)))
                      (.leaf (false)))
                    (.leaf (false))))
                (.leaf (false)))
noncomputable def law14_LineReads (q : Option Nat) (x0 : Line) (x1 : Int) : Option Bool := (Tlaw14_LineReads q x0 x1).run
theorem lelaw14_LineReads (k : Nat) (x0 : Line) (x1 : Int) : Le (law14_LineReads (some k) x0 x1) (law14_LineReads none x0 x1) := (TLe.opt Le.rfl fun _ => (TLe.ite TLe.rfl (TLe.opt Le.rfl fun _ => (TLe.opt Le.rfl fun _ => (TLe.opt Le.rfl fun _ => (TLe.opt Le.rfl fun _ => (TLe.ite (TLe.ite (TLe.ite (TLe.ite (TLe.ite (TLe.ite (TLe.opt (lelaw14_alive k) fun _ => TLe.rfl) TLe.rfl) TLe.rfl) TLe.rfl) TLe.rfl) (TLe.ite (TLe.ite (TLe.ite (TLe.ite (TLe.opt (lelaw14_alive k) fun _ => TLe.rfl) TLe.rfl) TLe.rfl) TLe.rfl) TLe.rfl)) TLe.rfl)))))))
noncomputable def Alaw14_LineReads : Arg U (Line × Int × Unit) := aA cLine (aO (cInt .i64) (aNil))
noncomputable def Rlaw14_LineReads (r : Bool) : List (V U) × List (Blk U) := ([vO cBool r], [])
noncomputable def Slaw14_LineReads : List (V U) → List (Blk U) → Option (FnOut U) := mkSpec Alaw14_LineReads bNil (fun x _ => law14_LineReads none x.1 x.2.1) Rlaw14_LineReads
noncomputable def Elaw14_LineReads : Env U := { P := Try.prog, cd := cd, fns := fns4, lps := noL, frz := fun _r => false, nt := 66, n0 := 0 }
theorem runlaw14_LineReads (x : Line × Int × Unit) (g : Unit) : execF Elaw14_LineReads Try.f5 (Alaw14_LineReads.enc x) (bNil.enc g) = (Tlaw14_LineReads none x.1 x.2.1).map Rlaw14_LineReads := by kernel_rfl
theorem oklaw14_LineReads : FnOk Try.prog cd 5 Slaw14_LineReads := mk_ok (E := Elaw14_LineReads) cd_ok fns4_ok Try.func5 (by kernel_rfl) (noLoops_body (by kernel_rfl)) (aA_ok cLine_ok (aO_ok (cInt_ok .i64) (aNil_ok))) bNil_ok (T := fun x _ => Tlaw14_LineReads none x.1 x.2.1) (fun _ _ => rfl) runlaw14_LineReads
noncomputable def fns5 := addF 5 true Slaw14_LineReads fns4
theorem fns5_ok : ∀ f q t, fns5 f = some (q, t) → FnOk Try.prog cd f t := addF_ok oklaw14_LineReads fns4_ok
/-- emulator/emulatorref14.bits -/
noncomputable def Tref14_bits (x0 : Bool) (x1 : Bool) : Tree Int :=
  .ite (x0)
    (.ite (x1)
      (.leaf (IntKind.wrap .i64 ((IntKind.wrap .i64 ((0 : Int) + (64 : Int))) + (128 : Int))))
      (.leaf (IntKind.wrap .i64 ((0 : Int) + (64 : Int)))))
    (.ite (x1)
      (.leaf (IntKind.wrap .i64 ((0 : Int) + (128 : Int))))
      (.leaf ((0 : Int))))
noncomputable def ref14_bits (x0 : Bool) (x1 : Bool) : Option Int := (Tref14_bits x0 x1).run
noncomputable def Aref14_bits : Arg U (Bool × Bool × Unit) := aO cBool (aO cBool (aNil))
noncomputable def Rref14_bits (r : Int) : List (V U) × List (Blk U) := ([vO (cInt .i64) r], [])
noncomputable def Sref14_bits : List (V U) → List (Blk U) → Option (FnOut U) := mkSpec Aref14_bits bNil (fun x _ => ref14_bits x.1 x.2.1) Rref14_bits
noncomputable def Eref14_bits : Env U := { P := Try.prog, cd := cd, fns := fns5, lps := noL, frz := fun _r => false, nt := 13, n0 := 0 }
theorem runref14_bits (x : Bool × Bool × Unit) (g : Unit) : execF Eref14_bits Try.f31 (Aref14_bits.enc x) (bNil.enc g) = (Tref14_bits x.1 x.2.1).map Rref14_bits := by kernel_rfl
theorem okref14_bits : FnOk Try.prog cd 31 Sref14_bits := mk_ok (E := Eref14_bits) cd_ok fns5_ok Try.func31 (by kernel_rfl) (noLoops_body (by kernel_rfl)) (aO_ok cBool_ok (aO_ok cBool_ok (aNil_ok))) bNil_ok (T := fun x _ => Tref14_bits x.1 x.2.1) (fun _ _ => rfl) runref14_bits
noncomputable def fns31 := addF 31 true Sref14_bits fns5
theorem fns31_ok : ∀ f q t, fns31 f = some (q, t) → FnOk Try.prog cd f t := addF_ok okref14_bits fns5_ok
/-- emulator/emulatorref14.Read -/
noncomputable def Tref14_Read (x0 : Line) (x1 : Int) : Tree (Line × Int) :=
  .ite (decide (x1 = (0 : Int)))
    (.opt Int (ref14_bits x0.rxEnable x0.rxReady) fun r59 =>
      .leaf ((x0, r59)))
    (.ite (decide (x1 = (2 : Int)))
      (.ite (x0.overrun)
        (.leaf ((Line.mk x0.rxEnable false false x0.rxData x0.txEnable x0.txReady x0.txData x0.txLeft x0.out, IntKind.wrap .i64 (x0.rxData + (32768 : Int)))))
        (.leaf ((Line.mk x0.rxEnable false false x0.rxData x0.txEnable x0.txReady x0.txData x0.txLeft x0.out, x0.rxData))))
      (.ite (decide (x1 = (4 : Int)))
        (.opt Int (ref14_bits x0.txEnable x0.txReady) fun r60 =>
          .leaf ((x0, r60)))
        (.leaf ((x0, (0 : Int))))))
noncomputable def ref14_Read (x0 : Line) (x1 : Int) : Option (Line × Int) := (Tref14_Read x0 x1).run
noncomputable def Aref14_Read : Arg U (Line × Int × Unit) := aA cLine (aO (cInt .i64) (aNil))
noncomputable def Rref14_Read (r : (Line × Int)) : List (V U) × List (Blk U) := ([vA cLine r.1, vO (cInt .i64) r.2], [])
noncomputable def Sref14_Read : List (V U) → List (Blk U) → Option (FnOut U) := mkSpec Aref14_Read bNil (fun x _ => ref14_Read x.1 x.2.1) Rref14_Read
noncomputable def Eref14_Read : Env U := { P := Try.prog, cd := cd, fns := fns31, lps := noL, frz := fun _r => false, nt := 37, n0 := 0 }
theorem runref14_Read (x : Line × Int × Unit) (g : Unit) : execF Eref14_Read Try.f19 (Aref14_Read.enc x) (bNil.enc g) = (Tref14_Read x.1 x.2.1).map Rref14_Read := by kernel_rfl
theorem okref14_Read : FnOk Try.prog cd 19 Sref14_Read := mk_ok (E := Eref14_Read) cd_ok fns31_ok Try.func19 (by kernel_rfl) (noLoops_body (by kernel_rfl)) (aA_ok cLine_ok (aO_ok (cInt_ok .i64) (aNil_ok))) bNil_ok (T := fun x _ => Tref14_Read x.1 x.2.1) (fun _ _ => rfl) runref14_Read
noncomputable def fns19 := addF 19 true Sref14_Read fns31
theorem fns19_ok : ∀ f q t, fns19 f = some (q, t) → FnOk Try.prog cd f t := addF_ok okref14_Read fns31_ok
/-- emulator/emulatorref14.Type -/
noncomputable def Tref14_Type (x0 : Line) (x1 : Int) : Tree Line :=
  .ite (x0.overrun)
    (.leaf (Line.mk x0.rxEnable true true (IntKind.wrap .i64 (((BitVec.ofInt 64 x1 &&& BitVec.ofInt 64 (255 : Int)).toNat : Int))) x0.txEnable x0.txReady x0.txData x0.txLeft x0.out))
    (.leaf (Line.mk x0.rxEnable true x0.rxReady (IntKind.wrap .i64 (((BitVec.ofInt 64 x1 &&& BitVec.ofInt 64 (255 : Int)).toNat : Int))) x0.txEnable x0.txReady x0.txData x0.txLeft x0.out))
noncomputable def ref14_Type (x0 : Line) (x1 : Int) : Option Line := (Tref14_Type x0 x1).run
noncomputable def Aref14_Type : Arg U (Line × Int × Unit) := aA cLine (aO (cInt .i64) (aNil))
noncomputable def Rref14_Type (r : Line) : List (V U) × List (Blk U) := ([vA cLine r], [])
noncomputable def Sref14_Type : List (V U) → List (Blk U) → Option (FnOut U) := mkSpec Aref14_Type bNil (fun x _ => ref14_Type x.1 x.2.1) Rref14_Type
noncomputable def Eref14_Type : Env U := { P := Try.prog, cd := cd, fns := fns19, lps := noL, frz := fun _r => false, nt := 17, n0 := 0 }
theorem runref14_Type (x : Line × Int × Unit) (g : Unit) : execF Eref14_Type Try.f20 (Aref14_Type.enc x) (bNil.enc g) = (Tref14_Type x.1 x.2.1).map Rref14_Type := by kernel_rfl
theorem okref14_Type : FnOk Try.prog cd 20 Sref14_Type := mk_ok (E := Eref14_Type) cd_ok fns19_ok Try.func20 (by kernel_rfl) (noLoops_body (by kernel_rfl)) (aA_ok cLine_ok (aO_ok (cInt_ok .i64) (aNil_ok))) bNil_ok (T := fun x _ => Tref14_Type x.1 x.2.1) (fun _ _ => rfl) runref14_Type
noncomputable def fns20 := addF 20 true Sref14_Type fns19
theorem fns20_ok : ∀ f q t, fns20 f = some (q, t) → FnOk Try.prog cd f t := addF_ok okref14_Type fns19_ok
/-- emulator/emulatorref14.Write -/
noncomputable def Tref14_Write (x0 : Line) (x1 : Int) (x2 : Int) : Tree Line :=
  .ite (decide (x1 = (0 : Int)))
    (.leaf (Line.mk (!decide ((IntKind.wrap .i64 (((BitVec.ofInt 64 x2 &&& BitVec.ofInt 64 (64 : Int)).toNat : Int))) = (0 : Int))) x0.rxReady x0.overrun x0.rxData x0.txEnable x0.txReady x0.txData x0.txLeft x0.out))
    (.ite (decide (x1 = (4 : Int)))
      (.leaf (Line.mk x0.rxEnable x0.rxReady x0.overrun x0.rxData (!decide ((IntKind.wrap .i64 (((BitVec.ofInt 64 x2 &&& BitVec.ofInt 64 (64 : Int)).toNat : Int))) = (0 : Int))) x0.txReady x0.txData x0.txLeft x0.out))
      (.ite (decide (x1 = (6 : Int)))
        (.ite (x0.txReady)
          (.leaf (Line.mk x0.rxEnable x0.rxReady x0.overrun x0.rxData x0.txEnable false (IntKind.wrap .i64 (((BitVec.ofInt 64 x2 &&& BitVec.ofInt 64 (255 : Int)).toNat : Int))) (4 : Int) x0.out))
          (.leaf (x0)))
        (.leaf (x0))))
noncomputable def ref14_Write (x0 : Line) (x1 : Int) (x2 : Int) : Option Line := (Tref14_Write x0 x1 x2).run
noncomputable def Aref14_Write : Arg U (Line × Int × Int × Unit) := aA cLine (aO (cInt .i64) (aO (cInt .i64) (aNil)))
noncomputable def Rref14_Write (r : Line) : List (V U) × List (Blk U) := ([vA cLine r], [])
noncomputable def Sref14_Write : List (V U) → List (Blk U) → Option (FnOut U) := mkSpec Aref14_Write bNil (fun x _ => ref14_Write x.1 x.2.1 x.2.2.1) Rref14_Write
noncomputable def Eref14_Write : Env U := { P := Try.prog, cd := cd, fns := fns20, lps := noL, frz := fun _r => false, nt := 30, n0 := 0 }
theorem runref14_Write (x : Line × Int × Int × Unit) (g : Unit) : execF Eref14_Write Try.f22 (Aref14_Write.enc x) (bNil.enc g) = (Tref14_Write x.1 x.2.1 x.2.2.1).map Rref14_Write := by kernel_rfl
theorem okref14_Write : FnOk Try.prog cd 22 Sref14_Write := mk_ok (E := Eref14_Write) cd_ok fns20_ok Try.func22 (by kernel_rfl) (noLoops_body (by kernel_rfl)) (aA_ok cLine_ok (aO_ok (cInt_ok .i64) (aO_ok (cInt_ok .i64) (aNil_ok)))) bNil_ok (T := fun x _ => Tref14_Write x.1 x.2.1 x.2.2.1) (fun _ _ => rfl) runref14_Write
noncomputable def fns22 := addF 22 true Sref14_Write fns20
theorem fns22_ok : ∀ f q t, fns22 f = some (q, t) → FnOk Try.prog cd f t := addF_ok okref14_Write fns20_ok
/-- emulator/emulatorref14.Tick -/
noncomputable def Tref14_Tick (x0 : Line) : Tree Line :=
  .ite (decide (x0.txLeft ≤ (0 : Int)))
    (.leaf (x0))
    (.ite (decide ((0 : Int) < (IntKind.wrap .i64 (x0.txLeft - (1 : Int)))))
      (.leaf (Line.mk x0.rxEnable x0.rxReady x0.overrun x0.rxData x0.txEnable x0.txReady x0.txData (IntKind.wrap .i64 (x0.txLeft - (1 : Int))) x0.out))
      (.ite (decide (x0.out.length + (([IntKind.wrap .u8 x0.txData]).map fun x => UInt8.ofNat x.toNat).length ≤ 9223372036854775807))
        (.ite (decide ((4096 : Int) < ((x0.out ++ (([IntKind.wrap .u8 x0.txData]).map fun x => UInt8.ofNat x.toNat)).length : Int)))
          (.ite (decide (0 ≤ IntKind.wrap .i64 (((x0.out ++ (([IntKind.wrap .u8 x0.txData]).map fun x => UInt8.ofNat x.toNat)).length : Int) - (4096 : Int))))
            (.ite (decide (IntKind.wrap .i64 (((x0.out ++ (([IntKind.wrap .u8 x0.txData]).map fun x => UInt8.ofNat x.toNat)).length : Int) - (4096 : Int)) ≤ (((x0.out ++ (([IntKind.wrap .u8 x0.txData]).map fun x => UInt8.ofNat x.toNat)).length : Nat) : Int)))
              (.leaf (Line.mk x0.rxEnable x0.rxReady x0.overrun x0.rxData x0.txEnable true x0.txData (IntKind.wrap .i64 (x0.txLeft - (1 : Int))) (((x0.out ++ (([IntKind.wrap .u8 x0.txData]).map fun x => UInt8.ofNat x.toNat)).drop ((IntKind.wrap .i64 (((x0.out ++ (([IntKind.wrap .u8 x0.txData]).map fun x => UInt8.ofNat x.toNat)).length : Int) - (4096 : Int))).toNat)).take ((x0.out ++ (([IntKind.wrap .u8 x0.txData]).map fun x => UInt8.ofNat x.toNat)).length - (IntKind.wrap .i64 (((x0.out ++ (([IntKind.wrap .u8 x0.txData]).map fun x => UInt8.ofNat x.toNat)).length : Int) - (4096 : Int))).toNat))))
              .fail)
            .fail)
          (.leaf (Line.mk x0.rxEnable x0.rxReady x0.overrun x0.rxData x0.txEnable true x0.txData (IntKind.wrap .i64 (x0.txLeft - (1 : Int))) (x0.out ++ (([IntKind.wrap .u8 x0.txData]).map fun x => UInt8.ofNat x.toNat)))))
        .fail))
noncomputable def ref14_Tick (x0 : Line) : Option Line := (Tref14_Tick x0).run
noncomputable def Aref14_Tick : Arg U (Line × Unit) := aA cLine (aNil)
noncomputable def Rref14_Tick (r : Line) : List (V U) × List (Blk U) := ([vA cLine r], [])
noncomputable def Sref14_Tick : List (V U) → List (Blk U) → Option (FnOut U) := mkSpec Aref14_Tick bNil (fun x _ => ref14_Tick x.1) Rref14_Tick
noncomputable def Eref14_Tick : Env U := { P := Try.prog, cd := cd, fns := fns22, lps := noL, frz := fun _r => false, nt := 38, n0 := 0 }
theorem runref14_Tick (x : Line × Unit) (g : Unit) : execF Eref14_Tick Try.f24 (Aref14_Tick.enc x) (bNil.enc g) = (Tref14_Tick x.1).map Rref14_Tick := by kernel_rfl
theorem okref14_Tick : FnOk Try.prog cd 24 Sref14_Tick := mk_ok (E := Eref14_Tick) cd_ok fns22_ok Try.func24 (by kernel_rfl) (noLoops_body (by kernel_rfl)) (aA_ok cLine_ok (aNil_ok)) bNil_ok (T := fun x _ => Tref14_Tick x.1) (fun _ _ => rfl) runref14_Tick
noncomputable def fns24 := addF 24 true Sref14_Tick fns22
theorem fns24_ok : ∀ f q t, fns24 f = some (q, t) → FnOk Try.prog cd f t := addF_ok okref14_Tick fns22_ok
/-- emulator/line.Reset -/
noncomputable def Tline_Reset (x0 : Line) : Tree Line :=
  .leaf (Line.mk false false false x0.rxData false true x0.txData 0 x0.out)
noncomputable def line_Reset (x0 : Line) : Option Line := (Tline_Reset x0).run
noncomputable def Aline_Reset : Arg U (Line × Unit) := aA cLine (aNil)
noncomputable def Rline_Reset (r : Line) : List (V U) × List (Blk U) := ([vA cLine r], [])
noncomputable def Sline_Reset : List (V U) → List (Blk U) → Option (FnOut U) := mkSpec Aline_Reset bNil (fun x _ => line_Reset x.1) Rline_Reset
noncomputable def Eline_Reset : Env U := { P := Try.prog, cd := cd, fns := fns24, lps := noL, frz := fun _r => false, nt := 10, n0 := 0 }
theorem runline_Reset (x : Line × Unit) (g : Unit) : execF Eline_Reset Try.f25 (Aline_Reset.enc x) (bNil.enc g) = (Tline_Reset x.1).map Rline_Reset := by kernel_rfl
theorem okline_Reset : FnOk Try.prog cd 25 Sline_Reset := mk_ok (E := Eline_Reset) cd_ok fns24_ok Try.func25 (by kernel_rfl) (noLoops_body (by kernel_rfl)) (aA_ok cLine_ok (aNil_ok)) bNil_ok (T := fun x _ => Tline_Reset x.1) (fun _ _ => rfl) runline_Reset
noncomputable def fns25 := addF 25 true Sline_Reset fns24
theorem fns25_ok : ∀ f q t, fns25 f = some (q, t) → FnOk Try.prog cd f t := addF_ok okline_Reset fns24_ok
/-- emulator/emulatorref14.Reset -/
noncomputable def Tref14_Reset (x0 : Line) : Tree Line :=
  .leaf (Line.mk false false false x0.rxData false true x0.txData (0 : Int) x0.out)
noncomputable def ref14_Reset (x0 : Line) : Option Line := (Tref14_Reset x0).run
noncomputable def Aref14_Reset : Arg U (Line × Unit) := aA cLine (aNil)
noncomputable def Rref14_Reset (r : Line) : List (V U) × List (Blk U) := ([vA cLine r], [])
noncomputable def Sref14_Reset : List (V U) → List (Blk U) → Option (FnOut U) := mkSpec Aref14_Reset bNil (fun x _ => ref14_Reset x.1) Rref14_Reset
noncomputable def Eref14_Reset : Env U := { P := Try.prog, cd := cd, fns := fns25, lps := noL, frz := fun _r => false, nt := 10, n0 := 0 }
theorem runref14_Reset (x : Line × Unit) (g : Unit) : execF Eref14_Reset Try.f26 (Aref14_Reset.enc x) (bNil.enc g) = (Tref14_Reset x.1).map Rref14_Reset := by kernel_rfl
theorem okref14_Reset : FnOk Try.prog cd 26 Sref14_Reset := mk_ok (E := Eref14_Reset) cd_ok fns25_ok Try.func26 (by kernel_rfl) (noLoops_body (by kernel_rfl)) (aA_ok cLine_ok (aNil_ok)) bNil_ok (T := fun x _ => Tref14_Reset x.1) (fun _ _ => rfl) runref14_Reset
noncomputable def fns26 := addF 26 true Sref14_Reset fns25
theorem fns26_ok : ∀ f q t, fns26 f = some (q, t) → FnOk Try.prog cd f t := addF_ok okref14_Reset fns25_ok
/-- emulator/line.Accept -/
noncomputable def Tline_Accept (x0 : Line) (x1 : Int) (x2 : Int) : Tree Line :=
  .leaf (x0)
noncomputable def line_Accept (x0 : Line) (x1 : Int) (x2 : Int) : Option Line := (Tline_Accept x0 x1 x2).run
noncomputable def Aline_Accept : Arg U (Line × Int × Int × Unit) := aA cLine (aO (cInt .i64) (aO (cInt .i64) (aNil)))
noncomputable def Rline_Accept (r : Line) : List (V U) × List (Blk U) := ([vA cLine r], [])
noncomputable def Sline_Accept : List (V U) → List (Blk U) → Option (FnOut U) := mkSpec Aline_Accept bNil (fun x _ => line_Accept x.1 x.2.1 x.2.2.1) Rline_Accept
noncomputable def Eline_Accept : Env U := { P := Try.prog, cd := cd, fns := fns26, lps := noL, frz := fun _r => false, nt := 8, n0 := 0 }
theorem runline_Accept (x : Line × Int × Int × Unit) (g : Unit) : execF Eline_Accept Try.f27 (Aline_Accept.enc x) (bNil.enc g) = (Tline_Accept x.1 x.2.1 x.2.2.1).map Rline_Accept := by kernel_rfl
theorem okline_Accept : FnOk Try.prog cd 27 Sline_Accept := mk_ok (E := Eline_Accept) cd_ok fns26_ok Try.func27 (by kernel_rfl) (noLoops_body (by kernel_rfl)) (aA_ok cLine_ok (aO_ok (cInt_ok .i64) (aO_ok (cInt_ok .i64) (aNil_ok)))) bNil_ok (T := fun x _ => Tline_Accept x.1 x.2.1 x.2.2.1) (fun _ _ => rfl) runline_Accept
noncomputable def fns27 := addF 27 true Sline_Accept fns26
theorem fns27_ok : ∀ f q t, fns27 f = some (q, t) → FnOk Try.prog cd f t := addF_ok okline_Accept fns26_ok
/-- emulator/emulatorlaw14.LineDoes -/
noncomputable def Tlaw14_LineDoes (q : Option Nat) (x0 : Line) (x1 : Deed) : Tree Bool :=
  .opt Bool (ref14_Right x0) fun r61 =>
    .ite (!r61)
      (.leaf (true))
      (.opt (Line × Int) (line_Read x0 x1.reg) fun r62 =>
        .opt (Line × Int) (ref14_Read x0 x1.reg) fun r63 =>
          .ite (!((r62.1.rxEnable == r63.1.rxEnable) && ((r62.1.rxReady == r63.1.rxReady) && ((r62.1.overrun == r63.1.overrun) && ((decide (r62.1.rxData = r63.1.rxData)) && ((r62.1.txEnable == r63.1.txEnable) && ((r62.1.txReady == r63.1.txReady) && ((decide (r62.1.txData = r63.1.txData)) && ((decide (r62.1.txLeft = r63.1.txLeft)) && (decide (r62.1.out = r63.1.out)))))))))))
            (.leaf (false))
            (.ite (!decide (r62.2 = r63.2))
              (.leaf (false))
              (.opt Line (line_Type x0 x1.n) fun r64 =>
                .opt Line (ref14_Type x0 x1.n) fun r65 =>
                  .ite (!((r64.rxEnable == r65.rxEnable) && ((r64.rxReady == r65.rxReady) && ((r64.overrun == r65.overrun) && ((decide (r64.rxData = r65.rxData)) && ((r64.txEnable == r65.txEnable) && ((r64.txReady == r65.txReady) && ((decide (r64.txData = r65.txData)) && ((decide (r64.txLeft = r65.txLeft)) && (decide (r64.out = r65.out)))))))))))
                    (.leaf (false))
                    (.opt Line (line_Write x0 x1.reg x1.n) fun r66 =>
                      .opt Line (ref14_Write x0 x1.reg x1.n) fun r67 =>
                        .ite (!((r66.rxEnable == r67.rxEnable) && ((r66.rxReady == r67.rxReady) && ((r66.overrun == r67.overrun) && ((decide (r66.rxData = r67.rxData)) && ((r66.txEnable == r67.txEnable) && ((r66.txReady == r67.txReady) && ((decide (r66.txData = r67.txData)) && ((decide (r66.txLeft = r67.txLeft)) && (decide (r66.out = r67.out)))))))))))
                          (.leaf (false))
                          (.opt Line (line_Tick x0) fun r68 =>
                            .opt Line (ref14_Tick x0) fun r69 =>
                              .ite (((r68.rxEnable == r69.rxEnable) && ((r68.rxReady == r69.rxReady) && ((r68.overrun == r69.overrun) && ((decide (r68.rxData = r69.rxData)) && ((r68.txEnable == r69.txEnable) && ((r68.txReady == r69.txReady) && ((decide (r68.txData = r69.txData)) && ((decide (r68.txLeft = r69.txLeft)) && (decide (r68.out = r69.out)))))))))))
                                (.opt Line (line_Reset x0) fun r70 =>
                                  .opt Line (ref14_Reset x0) fun r71 =>
                                    .ite (((r70.rxEnable == r71.rxEnable) && ((r70.rxReady == r71.rxReady) && ((r70.overrun == r71.overrun) && ((decide (r70.rxData = r71.rxData)) && ((r70.txEnable == r71.txEnable) && ((r70.txReady == r71.txReady) && ((decide (r70.txData = r71.txData)) && ((decide (r70.txLeft = r71.txLeft)) && (decide (r70.out = r71.out)))))))))))
                                      (.opt Line (line_Accept x0 x1.n x1.reg) fun r72 =>
                                        .ite (((r72.rxEnable == x0.rxEnable) && ((r72.rxReady == x0.rxReady) && ((r72.overrun == x0.overrun) && ((decide (r72.rxData = x0.rxData)) && ((r72.txEnable == x0.txEnable) && ((r72.txReady == x0.txReady) && ((decide (r72.txData = x0.txData)) && ((decide (r72.txLeft = x0.txLeft)) && (decide (r72.out = x0.out)))))))))))
                                          (.opt Bool (law14_alive q) fun r73 =>
                                            .leaf (r73))
                                          (.leaf (false)))
                                      (.leaf (false)))
                                (.leaf (false)))))))
noncomputable def law14_LineDoes (q : Option Nat) (x0 : Line) (x1 : Deed) : Option Bool := (Tlaw14_LineDoes q x0 x1).run
theorem lelaw14_LineDoes (k : Nat) (x0 : Line) (x1 : Deed) : Le (law14_LineDoes (some k) x0 x1) (law14_LineDoes none x0 x1) := (TLe.opt Le.rfl fun _ => (TLe.ite TLe.rfl (TLe.opt Le.rfl fun _ => (TLe.opt Le.rfl fun _ => (TLe.ite TLe.rfl (TLe.ite TLe.rfl (TLe.opt Le.rfl fun _ => (TLe.opt Le.rfl fun _ => (TLe.ite TLe.rfl (TLe.opt Le.rfl fun _ => (TLe.opt Le.rfl fun _ => (TLe.ite TLe.rfl (TLe.opt Le.rfl fun _ => (TLe.opt Le.rfl fun _ => (TLe.ite (TLe.opt Le.rfl fun _ => (TLe.opt Le.rfl fun _ => (TLe.ite (TLe.opt Le.rfl fun _ => (TLe.ite (TLe.opt (lelaw14_alive k) fun _ => TLe.rfl) TLe.rfl)) TLe.rfl))) TLe.rfl)))))))))))))))
noncomputable def Alaw14_LineDoes : Arg U (Line × Deed × Unit) := aA cLine (aA cDeed (aNil))
noncomputable def Rlaw14_LineDoes (r : Bool) : List (V U) × List (Blk U) := ([vO cBool r], [])
noncomputable def Slaw14_LineDoes : List (V U) → List (Blk U) → Option (FnOut U) := mkSpec Alaw14_LineDoes bNil (fun x _ => law14_LineDoes none x.1 x.2.1) Rlaw14_LineDoes
noncomputable def Elaw14_LineDoes : Env U := { P := Try.prog, cd := cd, fns := fns27, lps := noL, frz := fun _r => false, nt := 85, n0 := 0 }
theorem runlaw14_LineDoes (x : Line × Deed × Unit) (g : Unit) : execF Elaw14_LineDoes Try.f6 (Alaw14_LineDoes.enc x) (bNil.enc g) = (Tlaw14_LineDoes none x.1 x.2.1).map Rlaw14_LineDoes := by kernel_rfl
theorem oklaw14_LineDoes : FnOk Try.prog cd 6 Slaw14_LineDoes := mk_ok (E := Elaw14_LineDoes) cd_ok fns27_ok Try.func6 (by kernel_rfl) (noLoops_body (by kernel_rfl)) (aA_ok cLine_ok (aA_ok cDeed_ok (aNil_ok))) bNil_ok (T := fun x _ => Tlaw14_LineDoes none x.1 x.2.1) (fun _ _ => rfl) runlaw14_LineDoes
noncomputable def fns6 := addF 6 true Slaw14_LineDoes fns27
theorem fns6_ok : ∀ f q t, fns6 f = some (q, t) → FnOk Try.prog cd f t := addF_ok oklaw14_LineDoes fns27_ok
/-- emulator/emulatorlaw14.next -/
noncomputable def Tlaw14_next (x0 : Line) (x1 : Deed) : Tree Line :=
  .ite (decide (x1.kind = (0 : Int)))
    (.opt Line (line_Type x0 x1.n) fun r74 =>
      .leaf (r74))
    (.ite (decide (x1.kind = (1 : Int)))
      (.opt (Line × Int) (line_Read x0 x1.reg) fun r75 =>
        .leaf (r75.1))
      (.ite (decide (x1.kind = (2 : Int)))
        (.opt Line (line_Write x0 x1.reg x1.n) fun r76 =>
          .leaf (r76))
        (.ite (decide (x1.kind = (3 : Int)))
          (.opt Line (line_Tick x0) fun r77 =>
            .leaf (r77))
          (.ite (decide (x1.kind = (4 : Int)))
            (.opt Line (line_Reset x0) fun r78 =>
              .leaf (r78))
            (.ite (decide (x1.kind = (5 : Int)))
              (.opt Line (line_Accept x0 x1.n x1.reg) fun r79 =>
                .leaf (r79))
              (.leaf (x0)))))))
noncomputable def law14_next (x0 : Line) (x1 : Deed) : Option Line := (Tlaw14_next x0 x1).run
noncomputable def Alaw14_next : Arg U (Line × Deed × Unit) := aA cLine (aA cDeed (aNil))
noncomputable def Rlaw14_next (r : Line) : List (V U) × List (Blk U) := ([vA cLine r], [])
noncomputable def Slaw14_next : List (V U) → List (Blk U) → Option (FnOut U) := mkSpec Alaw14_next bNil (fun x _ => law14_next x.1 x.2.1) Rlaw14_next
noncomputable def Elaw14_next : Env U := { P := Try.prog, cd := cd, fns := fns6, lps := noL, frz := fun _r => false, nt := 47, n0 := 0 }
theorem runlaw14_next (x : Line × Deed × Unit) (g : Unit) : execF Elaw14_next Try.f28 (Alaw14_next.enc x) (bNil.enc g) = (Tlaw14_next x.1 x.2.1).map Rlaw14_next := by kernel_rfl
theorem oklaw14_next : FnOk Try.prog cd 28 Slaw14_next := mk_ok (E := Elaw14_next) cd_ok fns6_ok Try.func28 (by kernel_rfl) (noLoops_body (by kernel_rfl)) (aA_ok cLine_ok (aA_ok cDeed_ok (aNil_ok))) bNil_ok (T := fun x _ => Tlaw14_next x.1 x.2.1) (fun _ _ => rfl) runlaw14_next
noncomputable def fns28 := addF 28 true Slaw14_next fns6
theorem fns28_ok : ∀ f q t, fns28 f = some (q, t) → FnOk Try.prog cd f t := addF_ok oklaw14_next fns6_ok
/-- emulator/emulatorlaw14.LineStays -/
structure Slaw14_LineStays_0 where
  t1 : (List Deed)
  t5 : Int
  b0 : Line
noncomputable def Wlaw14_LineStays_0 (s : Slaw14_LineStays_0) : Tree (Slaw14_LineStays_0 ⊕ (Bool ⊕ Unit)) :=
  .ite (decide (s.t5 < (s.t1.length : Int)))
    (.ite (decide (0 ≤ s.t5))
      (.opt Deed (s.t1[(s.t5).toNat]?) fun y85 =>
        .opt Line (law14_next s.b0 y85) fun r86 =>
          .opt Bool (line_Right r86) fun r87 =>
            .ite (!r87)
              (.leaf (.inr (.inl false)))
              (.ite (decide ((r86.out.length : Int) < (s.b0.out.length : Int)))
                (.leaf (.inr (.inl false)))
                (.ite (decide (0 ≤ s.t5))
                  (.opt Deed (s.t1[(s.t5).toNat]?) fun y88 =>
                    .ite (!decide (y88.kind = (3 : Int)))
                      (.ite (!decide (r86.out = s.b0.out))
                        (.leaf (.inr (.inl false)))
                        (.leaf (.inl (Slaw14_LineStays_0.mk s.t1 (IntKind.wrap .i64 (s.t5 + (1 : Int))) r86))))
                      (.leaf (.inl (Slaw14_LineStays_0.mk s.t1 (IntKind.wrap .i64 (s.t5 + (1 : Int))) r86))))
                  .fail)))
      .fail)
    (.leaf (.inr (.inr ())))
noncomputable def Llaw14_LineStays_0 (q : Option Nat) (s : Slaw14_LineStays_0) : Option (Bool ⊕ Unit) := limQ q (fun s => (Wlaw14_LineStays_0 s).run) s
theorem leLlaw14_LineStays_0 (k : Nat) (s : Slaw14_LineStays_0) : Le (Llaw14_LineStays_0 (some k) s) (Llaw14_LineStays_0 none s) := limQ_le (fun _ => Le.rfl) s
noncomputable def Tlaw14_LineStays (q : Option Nat) (x0 : Line) (x1 : (List Deed)) : Tree Bool :=
  .opt Bool (line_Right x0) fun r80 =>
    .ite (!r80)
      (.opt Bool (law14_alive q) fun r82 =>
        .leaf (r82))
      (.opt Bool (ref14_Right x0) fun r81 =>
        .ite (!r81)
          (.opt Bool (law14_alive q) fun r83 =>
            .leaf (r83))
          (.ite (decide ((100 : Int) < (x1.length : Int)))
            (.opt Bool (law14_alive q) fun r84 =>
              .leaf (r84))
            (.opt (Bool ⊕ Unit) (Llaw14_LineStays_0 q (Slaw14_LineStays_0.mk x1 (0 : Int) x0)) fun l89 =>
              .ite (l89.isLeft)
                (.opt Bool (l89.getLeft?) fun a90 =>
                  .leaf (a90))
                (.opt Unit (l89.getRight?) fun b91 =>
                  .opt Bool (law14_alive q) fun r92 =>
                    .leaf (r92)))))
noncomputable def law14_LineStays (q : Option Nat) (x0 : Line) (x1 : (List Deed)) : Option Bool := (Tlaw14_LineStays q x0 x1).run
theorem lelaw14_LineStays (k : Nat) (x0 : Line) (x1 : (List Deed)) : Le (law14_LineStays (some k) x0 x1) (law14_LineStays none x0 x1) := (TLe.opt Le.rfl fun _ => (TLe.ite (TLe.opt (lelaw14_alive k) fun _ => TLe.rfl) (TLe.opt Le.rfl fun _ => (TLe.ite (TLe.opt (lelaw14_alive k) fun _ => TLe.rfl) (TLe.ite (TLe.opt (lelaw14_alive k) fun _ => TLe.rfl) (TLe.opt (leLlaw14_LineStays_0 k _) fun _ => (TLe.ite TLe.rfl (TLe.opt Le.rfl fun _ => (TLe.opt (lelaw14_alive k) fun _ => TLe.rfl)))))))))
noncomputable def Alaw14_LineStays : Arg U (Line × (List Deed) × Unit) := aA cLine (aO (cSl 35) (aNil))
noncomputable def Rlaw14_LineStays (r : Bool) : List (V U) × List (Blk U) := ([vO cBool r], [])
noncomputable def Slaw14_LineStays : List (V U) → List (Blk U) → Option (FnOut U) := mkSpec Alaw14_LineStays bNil (fun x _ => law14_LineStays none x.1 x.2.1) Rlaw14_LineStays
noncomputable def Plaw14_LineStays_0 (x : ((List Deed) × Unit) × (Unit) × (Int × Unit) × Unit) (g : (Line × Unit) × Unit) : Slaw14_LineStays_0 := Slaw14_LineStays_0.mk x.1.1 x.2.2.1.1 g.1.1
noncomputable def tAlaw14_LineStays_0 : Tms U (((List Deed) × Unit) × (Unit) × (Int × Unit) × Unit) := tO 1 (cPair (cSl 35) (cUnit)) (tO 2 (cK (.ptr 0 0) (cUnit)) (tO 5 (cPair (cInt .i64) (cUnit)) (tNil)))
noncomputable def tBlaw14_LineStays_0 : Bls U ((Line × Unit) × Unit) := bC (cPair cLine (cUnit)) (bNil)
noncomputable def eSlaw14_LineStays_0 (s : Slaw14_LineStays_0) : St U := { tm := [(1, .v (vO (cPair (cSl 35) (cUnit)) (s.t1, ()))), (2, .v (vO (cK (.ptr 0 0) (cUnit)) (()))), (5, .v (vO (cPair (cInt .i64) (cUnit)) (s.t5, ())))], hp := [.cells ((cPair cLine (cUnit) : Cdc U (Line × Unit)).enc (s.b0, ()))] }
noncomputable def xSlaw14_LineStays_0 : (Bool ⊕ Unit) → Ex × St U
  | .inl r => (.ret, { tm := [(4, .v (vO (cPair cBool (cUnit)) (r, ())))], hp := [] })
  | .inr r => (.exit 0, { tm := [], hp := [] })
noncomputable def xTlaw14_LineStays_0 (y : (Bool ⊕ Unit)) : Tree (Ex × St U) := .ite y.isLeft (.opt Bool y.getLeft? fun r => .leaf (.ret, { tm := [(4, .v (vO (cPair cBool (cUnit)) (r, ())))], hp := [] })) (.opt Unit y.getRight? fun r => .leaf (.exit 0, { tm := [], hp := [] }))
noncomputable def hlaw14_LineStays_0 : Hd := { keep := [1, 2, 5], xkeep := [4], own := false }
noncomputable def Elaw14_LineStays : Env U := { P := Try.prog, cd := cd, fns := fns28, lps := (addL 0 hlaw14_LineStays_0 (mkLoop tAlaw14_LineStays_0 tBlaw14_LineStays_0 Plaw14_LineStays_0 (Llaw14_LineStays_0 none) xTlaw14_LineStays_0) noL), frz := fun _r => false, nt := 62, n0 := 0 }
noncomputable def Blaw14_LineStays_0 : Code := (loopAt (Try.f7.body.getD .skip) 0 0).getD .skip
theorem roundlaw14_LineStays_0 (s : Slaw14_LineStays_0) : round Elaw14_LineStays hlaw14_LineStays_0 Blaw14_LineStays_0 0 (eSlaw14_LineStays_0 s) = (Wlaw14_LineStays_0 s).map (sumE eSlaw14_LineStays_0 xSlaw14_LineStays_0) := by kernel_rfl
theorem lplaw14_LineStays_0 : LpOk Elaw14_LineStays Blaw14_LineStays_0 0 := mkLoop_ok (A := tAlaw14_LineStays_0) (B := tBlaw14_LineStays_0) (f := Plaw14_LineStays_0) (L := Llaw14_LineStays_0 none) (tO_ok (cPair_ok (cSl_ok 35) cUnit_ok) (tO_ok (cK_ok cUnit_ok) (tO_ok (cPair_ok (cInt_ok .i64) cUnit_ok) tNil_ok))) (bC_ok (cPair_ok cLine_ok cUnit_ok) bNil_ok) (enc := eSlaw14_LineStays_0) (out := xTlaw14_LineStays_0) (outS := xSlaw14_LineStays_0) (step := Wlaw14_LineStays_0) (fun _ => rfl) (fun _ _ => by kernel_rfl) (by kernel_rfl) (fun b => by cases b <;> rfl) roundlaw14_LineStays_0
theorem runlaw14_LineStays (x : Line × (List Deed) × Unit) (g : Unit) : execF Elaw14_LineStays Try.f7 (Alaw14_LineStays.enc x) (bNil.enc g) = (Tlaw14_LineStays none x.1 x.2.1).map Rlaw14_LineStays := by kernel_rfl
theorem oklaw14_LineStays : FnOk Try.prog cd 7 Slaw14_LineStays := mk_ok (E := Elaw14_LineStays) cd_ok fns28_ok Try.func7 (by kernel_rfl) (loops_of (addL_ok lplaw14_LineStays_0 noL_ok)) (aA_ok cLine_ok (aO_ok (cSl_ok 35) (aNil_ok))) bNil_ok (T := fun x _ => Tlaw14_LineStays none x.1 x.2.1) (fun _ _ => rfl) runlaw14_LineStays
noncomputable def fns7 := addF 7 true Slaw14_LineStays fns28
theorem fns7_ok : ∀ f q t, fns7 f = some (q, t) → FnOk Try.prog cd f t := addF_ok oklaw14_LineStays fns28_ok
/-- emulator/emulatorlaw14.LineSends -/
structure Slaw14_LineSends_0 where
  t1 : Int
  t2 : (List Deed)
  t8 : Int
  b0 : Line
  b1 : Line
noncomputable def Wlaw14_LineSends_0 (s : Slaw14_LineSends_0) : Tree (Slaw14_LineSends_0 ⊕ ((Int × Bool × Line × Line) ⊕ (Int × Line × Line))) :=
  .ite (decide (s.t8 < (4 : Int)))
    (.ite (decide (s.t8 < (s.t2.length : Int)))
      (.ite (decide (0 ≤ s.t8))
        (.opt Deed (s.t2[(s.t8).toNat]?) fun y95 =>
          .ite (!decide (y95.kind = (3 : Int)))
            (.ite (decide (0 ≤ s.t8))
              (.opt Deed (s.t2[(s.t8).toNat]?) fun y96 =>
                .ite (!decide (y96.kind = (4 : Int)))
                  (.ite (decide (0 ≤ s.t8))
                    (.opt Deed (s.t2[(s.t8).toNat]?) fun y97 =>
                      .opt Line (law14_next s.b1 y97) fun r98 =>
                        .ite (!decide (r98.out = s.b0.out))
                          (.leaf (.inr (.inl (s.t1, false, s.b0, r98))))
                          (.ite (r98.txReady)
                            (.leaf (.inr (.inl (s.t1, false, s.b0, r98))))
                            (.opt Line (line_Tick r98) fun r99 =>
                              .leaf (.inl (Slaw14_LineSends_0.mk s.t1 s.t2 (IntKind.wrap .i64 (s.t8 + (1 : Int))) s.b0 r99)))))
                    .fail)
                  (.ite (!decide (s.b1.out = s.b0.out))
                    (.leaf (.inr (.inl (s.t1, false, s.b0, s.b1))))
                    (.ite (s.b1.txReady)
                      (.leaf (.inr (.inl (s.t1, false, s.b0, s.b1))))
                      (.opt Line (line_Tick s.b1) fun r100 =>
                        .leaf (.inl (Slaw14_LineSends_0.mk s.t1 s.t2 (IntKind.wrap .i64 (s.t8 + (1 : Int))) s.b0 r100))))))
              .fail)
            (.ite (!decide (s.b1.out = s.b0.out))
              (.leaf (.inr (.inl (s.t1, false, s.b0, s.b1))))
              (.ite (s.b1.txReady)
                (.leaf (.inr (.inl (s.t1, false, s.b0, s.b1))))
                (.opt Line (line_Tick s.b1) fun r101 =>
                  .leaf (.inl (Slaw14_LineSends_0.mk s.t1 s.t2 (IntKind.wrap .i64 (s.t8 + (1 : Int))) s.b0 r101))))))
        .fail)
      (.ite (!decide (s.b1.out = s.b0.out))
        (.leaf (.inr (.inl (s.t1, false, s.b0, s.b1))))
        (.ite (s.b1.txReady)
          (.leaf (.inr (.inl (s.t1, false, s.b0, s.b1))))
          (.opt Line (line_Tick s.b1) fun r102 =>
            .leaf (.inl (Slaw14_LineSends_0.mk s.t1 s.t2 (IntKind.wrap .i64 (s.t8 + (1 : Int))) s.b0 r102))))))
    (.leaf (.inr (.inr (s.t1, s.b0, s.b1))))
noncomputable def Llaw14_LineSends_0 (q : Option Nat) (s : Slaw14_LineSends_0) : Option ((Int × Bool × Line × Line) ⊕ (Int × Line × Line)) := limQ q (fun s => (Wlaw14_LineSends_0 s).run) s
theorem leLlaw14_LineSends_0 (k : Nat) (s : Slaw14_LineSends_0) : Le (Llaw14_LineSends_0 (some k) s) (Llaw14_LineSends_0 none s) := limQ_le (fun _ => Le.rfl) s
noncomputable def Tlaw14_LineSends (q : Option Nat) (x0 : Line) (x1 : Int) (x2 : (List Deed)) : Tree Bool :=
  .opt Bool (ref14_Right x0) fun r93 =>
    .ite (!r93)
      (.leaf (true))
      (.ite (!x0.txReady)
        (.leaf (true))
        (.opt Line (line_Write x0 (6 : Int) x1) fun r94 =>
          .opt ((Int × Bool × Line × Line) ⊕ (Int × Line × Line)) (Llaw14_LineSends_0 q (Slaw14_LineSends_0.mk x1 x2 (0 : Int) x0 r94)) fun l103 =>
            .ite (l103.isLeft)
              (.opt (Int × Bool × Line × Line) (l103.getLeft?) fun a104 =>
                .leaf (a104.2.1))
              (.opt (Int × Line × Line) (l103.getRight?) fun b105 =>
                .ite (decide ((0 : Int) < (b105.2.2.out.length : Int)))
                  (.ite (decide (0 ≤ IntKind.wrap .i64 ((b105.2.2.out.length : Int) - (1 : Int))))
                    (.opt UInt8 (b105.2.2.out[(IntKind.wrap .i64 ((b105.2.2.out.length : Int) - (1 : Int))).toNat]?) fun y106 =>
                      .ite (decide ((IntKind.wrap .i64 (y106.toNat : Int)) = (IntKind.wrap .i64 (((BitVec.ofInt 64 b105.1 &&& BitVec.ofInt 64 (255 : Int)).toNat : Int)))))
                        (.ite (b105.2.2.txReady)
                          (.ite (decide ((b105.2.1.out.length : Int) = (4096 : Int)))
                            (.opt Bool (law14_alive q) fun r107 =>
                              .leaf (r107))
                            (.ite (decide (0 ≤ IntKind.wrap .i64 ((b105.2.2.out.length : Int) - (1 : Int))))
                              (.ite (decide (IntKind.wrap .i64 ((b105.2.2.out.length : Int) - (1 : Int)) ≤ ((b105.2.2.out.length : Nat) : Int)))
                                (.ite (decide (((b105.2.2.out.drop (0)).take ((IntKind.wrap .i64 ((b105.2.2.out.length : Int) - (1 : Int))).toNat - 0)) = b105.2.1.out))
                                  (.opt Bool (law14_alive q) fun r108 =>
                                    .leaf (r108))
                                  (.leaf (false)))
                                .fail)
                              .fail))
                          (.leaf (false)))
                        (.leaf (false)))
                    .fail)
                  (.leaf (false)))))
noncomputable def law14_LineSends (q : Option Nat) (x0 : Line) (x1 : Int) (x2 : (List Deed)) : Option Bool := (Tlaw14_LineSends q x0 x1 x2).run
theorem lelaw14_LineSends (k : Nat) (x0 : Line) (x1 : Int) (x2 : (List Deed)) : Le (law14_LineSends (some k) x0 x1 x2) (law14_LineSends none x0 x1 x2) := (TLe.opt Le.rfl fun _ => (TLe.ite TLe.rfl (TLe.ite TLe.rfl (TLe.opt Le.rfl fun _ => (TLe.opt (leLlaw14_LineSends_0 k _) fun _ => (TLe.ite TLe.rfl (TLe.opt Le.rfl fun _ => (TLe.ite (TLe.ite (TLe.opt Le.rfl fun _ => (TLe.ite (TLe.ite (TLe.ite (TLe.opt (lelaw14_alive k) fun _ => TLe.rfl) (TLe.ite (TLe.ite (TLe.ite (TLe.opt (lelaw14_alive k) fun _ => TLe.rfl) TLe.rfl) TLe.rfl) TLe.rfl)) TLe.rfl) TLe.rfl)) TLe.rfl) TLe.rfl))))))))
noncomputable def Alaw14_LineSends : Arg U (Line × Int × (List Deed) × Unit) := aA cLine (aO (cInt .i64) (aO (cSl 35) (aNil)))
noncomputable def Rlaw14_LineSends (r : Bool) : List (V U) × List (Blk U) := ([vO cBool r], [])
noncomputable def Slaw14_LineSends : List (V U) → List (Blk U) → Option (FnOut U) := mkSpec Alaw14_LineSends bNil (fun x _ => law14_LineSends none x.1 x.2.1 x.2.2.1) Rlaw14_LineSends
noncomputable def Plaw14_LineSends_0 (x : (Int × Unit) × ((List Deed) × Unit) × (Unit) × (Unit) × (Int × Unit) × Unit) (g : (Line × Unit) × (Line × Unit) × Unit) : Slaw14_LineSends_0 := Slaw14_LineSends_0.mk x.1.1 x.2.1.1 x.2.2.2.2.1.1 g.1.1 g.2.1.1
noncomputable def tAlaw14_LineSends_0 : Tms U ((Int × Unit) × ((List Deed) × Unit) × (Unit) × (Unit) × (Int × Unit) × Unit) := tO 1 (cPair (cInt .i64) (cUnit)) (tO 2 (cPair (cSl 35) (cUnit)) (tO 3 (cK (.ptr 0 0) (cUnit)) (tO 7 (cK (.ptr 1 0) (cUnit)) (tO 8 (cPair (cInt .i64) (cUnit)) (tNil)))))
noncomputable def tBlaw14_LineSends_0 : Bls U ((Line × Unit) × (Line × Unit) × Unit) := bC (cPair cLine (cUnit)) (bC (cPair cLine (cUnit)) (bNil))
noncomputable def eSlaw14_LineSends_0 (s : Slaw14_LineSends_0) : St U := { tm := [(1, .v (vO (cPair (cInt .i64) (cUnit)) (s.t1, ()))), (2, .v (vO (cPair (cSl 35) (cUnit)) (s.t2, ()))), (3, .v (vO (cK (.ptr 0 0) (cUnit)) (()))), (7, .v (vO (cK (.ptr 1 0) (cUnit)) (()))), (8, .v (vO (cPair (cInt .i64) (cUnit)) (s.t8, ())))], hp := [.cells ((cPair cLine (cUnit) : Cdc U (Line × Unit)).enc (s.b0, ())), .cells ((cPair cLine (cUnit) : Cdc U (Line × Unit)).enc (s.b1, ()))] }
noncomputable def xSlaw14_LineSends_0 : ((Int × Bool × Line × Line) ⊕ (Int × Line × Line)) → Ex × St U
  | .inl r => (.ret, { tm := [(1, .v (vO (cPair (cInt .i64) (cUnit)) (r.1, ()))), (3, .v (vO (cK (.ptr 0 0) (cUnit)) (()))), (6, .v (vO (cPair cBool (cUnit)) (r.2.1, ()))), (7, .v (vO (cK (.ptr 1 0) (cUnit)) (())))], hp := [.cells ((cPair cLine (cUnit) : Cdc U (Line × Unit)).enc (r.2.2.1, ())), .cells ((cPair cLine (cUnit) : Cdc U (Line × Unit)).enc (r.2.2.2, ()))] })
  | .inr r => (.exit 0, { tm := [(1, .v (vO (cPair (cInt .i64) (cUnit)) (r.1, ()))), (3, .v (vO (cK (.ptr 0 0) (cUnit)) (()))), (7, .v (vO (cK (.ptr 1 0) (cUnit)) (())))], hp := [.cells ((cPair cLine (cUnit) : Cdc U (Line × Unit)).enc (r.2.1, ())), .cells ((cPair cLine (cUnit) : Cdc U (Line × Unit)).enc (r.2.2, ()))] })
noncomputable def xTlaw14_LineSends_0 (y : ((Int × Bool × Line × Line) ⊕ (Int × Line × Line))) : Tree (Ex × St U) := .ite y.isLeft (.opt (Int × Bool × Line × Line) y.getLeft? fun r => .leaf (.ret, { tm := [(1, .v (vO (cPair (cInt .i64) (cUnit)) (r.1, ()))), (3, .v (vO (cK (.ptr 0 0) (cUnit)) (()))), (6, .v (vO (cPair cBool (cUnit)) (r.2.1, ()))), (7, .v (vO (cK (.ptr 1 0) (cUnit)) (())))], hp := [.cells ((cPair cLine (cUnit) : Cdc U (Line × Unit)).enc (r.2.2.1, ())), .cells ((cPair cLine (cUnit) : Cdc U (Line × Unit)).enc (r.2.2.2, ()))] })) (.opt (Int × Line × Line) y.getRight? fun r => .leaf (.exit 0, { tm := [(1, .v (vO (cPair (cInt .i64) (cUnit)) (r.1, ()))), (3, .v (vO (cK (.ptr 0 0) (cUnit)) (()))), (7, .v (vO (cK (.ptr 1 0) (cUnit)) (())))], hp := [.cells ((cPair cLine (cUnit) : Cdc U (Line × Unit)).enc (r.2.1, ())), .cells ((cPair cLine (cUnit) : Cdc U (Line × Unit)).enc (r.2.2, ()))] }))
noncomputable def hlaw14_LineSends_0 : Hd := { keep := [1, 2, 3, 7, 8], xkeep := [1, 3, 6, 7], own := false }
noncomputable def Elaw14_LineSends : Env U := { P := Try.prog, cd := cd, fns := fns7, lps := (addL 0 hlaw14_LineSends_0 (mkLoop tAlaw14_LineSends_0 tBlaw14_LineSends_0 Plaw14_LineSends_0 (Llaw14_LineSends_0 none) xTlaw14_LineSends_0) noL), frz := fun _r => false, nt := 101, n0 := 0 }
noncomputable def Blaw14_LineSends_0 : Code := (loopAt (Try.f8.body.getD .skip) 0 0).getD .skip
theorem roundlaw14_LineSends_0 (s : Slaw14_LineSends_0) : round Elaw14_LineSends hlaw14_LineSends_0 Blaw14_LineSends_0 0 (eSlaw14_LineSends_0 s) = (Wlaw14_LineSends_0 s).map (sumE eSlaw14_LineSends_0 xSlaw14_LineSends_0) := by kernel_rfl
theorem lplaw14_LineSends_0 : LpOk Elaw14_LineSends Blaw14_LineSends_0 0 := mkLoop_ok (A := tAlaw14_LineSends_0) (B := tBlaw14_LineSends_0) (f := Plaw14_LineSends_0) (L := Llaw14_LineSends_0 none) (tO_ok (cPair_ok (cInt_ok .i64) cUnit_ok) (tO_ok (cPair_ok (cSl_ok 35) cUnit_ok) (tO_ok (cK_ok cUnit_ok) (tO_ok (cK_ok cUnit_ok) (tO_ok (cPair_ok (cInt_ok .i64) cUnit_ok) tNil_ok))))) (bC_ok (cPair_ok cLine_ok cUnit_ok) (bC_ok (cPair_ok cLine_ok cUnit_ok) bNil_ok)) (enc := eSlaw14_LineSends_0) (out := xTlaw14_LineSends_0) (outS := xSlaw14_LineSends_0) (step := Wlaw14_LineSends_0) (fun _ => rfl) (fun _ _ => by kernel_rfl) (by kernel_rfl) (fun b => by cases b <;> rfl) roundlaw14_LineSends_0
theorem runlaw14_LineSends (x : Line × Int × (List Deed) × Unit) (g : Unit) : execF Elaw14_LineSends Try.f8 (Alaw14_LineSends.enc x) (bNil.enc g) = (Tlaw14_LineSends none x.1 x.2.1 x.2.2.1).map Rlaw14_LineSends := by kernel_rfl
theorem oklaw14_LineSends : FnOk Try.prog cd 8 Slaw14_LineSends := mk_ok (E := Elaw14_LineSends) cd_ok fns7_ok Try.func8 (by kernel_rfl) (loops_of (addL_ok lplaw14_LineSends_0 noL_ok)) (aA_ok cLine_ok (aO_ok (cInt_ok .i64) (aO_ok (cSl_ok 35) (aNil_ok)))) bNil_ok (T := fun x _ => Tlaw14_LineSends none x.1 x.2.1 x.2.2.1) (fun _ _ => rfl) runlaw14_LineSends
noncomputable def fns8 := addF 8 true Slaw14_LineSends fns7
theorem fns8_ok : ∀ f q t, fns8 f = some (q, t) → FnOk Try.prog cd f t := addF_ok oklaw14_LineSends fns7_ok
end Go.Proofs.Ytmibajkdenldpaa
