/- The types of the program, and how they are told in cells. -/
import Derived.Test.YtegaghacannjpaaAbMore
import Derived.Test.YtegaghacannjpaaProg
import Derived.KernelRfl
set_option linter.unusedSimpArgs false
namespace Go.Proofs.Ytegaghacannjpaa
open Go Go.Ab
structure Clock where
  enable : Bool
  ready : Bool
  period : Int
  left : Int
  deriving DecidableEq
structure Request where
  priority : Int
  vector : Int
  deriving DecidableEq
abbrev tys : List (Nat × Type) := [(38, Request)]
abbrev U : Nat → Type := findT tys
noncomputable def cClock : Cdc U Clock := cMap (fun x => Clock.mk x.1 x.2.1 x.2.2.1 x.2.2.2.1) (fun x => (x.enable, x.ready, x.period, x.left, ())) (cPair cBool (cPair cBool (cPair (cInt .i64) (cPair (cInt .i64) (cUnit)))))
theorem cClock_ok : cClock.Ok := cMap_ok (cPair_ok cBool_ok (cPair_ok cBool_ok (cPair_ok (cInt_ok .i64) (cPair_ok (cInt_ok .i64) cUnit_ok)))) fun _ => rfl
noncomputable def cRequest : Cdc U Request := cMap (fun x => Request.mk x.1 x.2.1) (fun x => (x.priority, x.vector, ())) (cPair (cInt .i64) (cPair (cInt .i64) (cUnit)))
theorem cRequest_ok : cRequest.Ok := cMap_ok (cPair_ok (cInt_ok .i64) (cPair_ok (cInt_ok .i64) cUnit_ok)) fun _ => rfl
noncomputable def ents : Ents U tys := .cons ⟨cRequest, some (Request.mk 0 0), none, some inferInstance⟩ (.nil)
noncomputable def cd : Cd U := cdOf ents
theorem eqSRequest (cd : Cd U) (x y : Request) : eqT Try.prog cd false 4 38 (cRequest.enc x) (cRequest.enc y) = some (decide (x = y)) := by
  have h : eqT Try.prog cd false 4 38 (cRequest.enc x) (cRequest.enc y) = some (decide (x.priority = y.priority) && decide (x.vector = y.vector)) := by kernel_rfl
  rw [h]
  cases x; cases y; simp [Bool.eq_iff_iff]
theorem ents_ok : EntsOk Try.prog ents := ⟨⟨cRequest_ok, (fun x => by kernel_rfl), (fun x => List.all_eq_true.1 (show ((cRequest : Cdc U _).enc x).all plainC = true by kernel_rfl)), (fun f g h => by cases h), (fun d h cd x y => by cases h; exact eqSRequest cd x y)⟩, trivial⟩
theorem cd_ok : CdOk Try.prog cd := cdOf_ok ents ents_ok
/-- emulator/emulatorref13.Right -/
noncomputable def Tref13_Right (x0 : Clock) : Tree Bool :=
  .ite (decide ((1 : Int) ≤ x0.period))
    (.ite (decide (x0.period ≤ (65535 : Int)))
      (.ite (decide ((1 : Int) ≤ x0.left))
        (.leaf (decide (x0.left ≤ x0.period)))
        (.leaf (false)))
      (.leaf (false)))
    (.leaf (false))
noncomputable def ref13_Right (x0 : Clock) : Option Bool := (Tref13_Right x0).run
noncomputable def Aref13_Right : Arg U (Clock × Unit) := aA cClock (aNil)
noncomputable def Rref13_Right (r : Bool) : List (V U) × List (Blk U) := ([vO cBool r], [])
noncomputable def Sref13_Right : List (V U) → List (Blk U) → Option (FnOut U) := mkSpec Aref13_Right bNil (fun x _ => ref13_Right x.1) Rref13_Right
noncomputable def Eref13_Right : Env U := { P := Try.prog, cd := cd, fns := noF, lps := noL, frz := fun _r => false, nt := 23, n0 := 0 }
theorem runref13_Right (x : Clock × Unit) (g : Unit) : execF Eref13_Right Try.f7 (Aref13_Right.enc x) (bNil.enc g) = (Tref13_Right x.1).map Rref13_Right := by kernel_rfl
theorem okref13_Right : FnOk Try.prog cd 7 Sref13_Right := mk_ok (E := Eref13_Right) cd_ok noF_ok Try.func7 (by kernel_rfl) (noLoops_body (by kernel_rfl)) (aA_ok cClock_ok (aNil_ok)) bNil_ok (T := fun x _ => Tref13_Right x.1) (fun _ _ => rfl) runref13_Right
noncomputable def fns7 := addF 7 true Sref13_Right noF
theorem fns7_ok : ∀ f q t, fns7 f = some (q, t) → FnOk Try.prog cd f t := addF_ok okref13_Right noF_ok
/-- emulator/clock.Read -/
noncomputable def Tclock_Read (x0 : Clock) : Tree Int :=
  .ite (x0.enable)
    (.ite (x0.ready)
      (.leaf (IntKind.wrap .i64 ((IntKind.wrap .i64 ((0 : Int) + (64 : Int))) + (128 : Int))))
      (.leaf (IntKind.wrap .i64 ((0 : Int) + (64 : Int)))))
    (.ite (x0.ready)
      (.leaf (IntKind.wrap .i64 ((0 : Int) + (128 : Int))))
      (.leaf ((0 : Int))))
noncomputable def clock_Read (x0 : Clock) : Option Int := (Tclock_Read x0).run
noncomputable def Aclock_Read : Arg U (Clock × Unit) := aA cClock (aNil)
noncomputable def Rclock_Read (r : Int) : List (V U) × List (Blk U) := ([vO (cInt .i64) r], [])
noncomputable def Sclock_Read : List (V U) → List (Blk U) → Option (FnOut U) := mkSpec Aclock_Read bNil (fun x _ => clock_Read x.1) Rclock_Read
noncomputable def Eclock_Read : Env U := { P := Try.prog, cd := cd, fns := fns7, lps := noL, frz := fun _r => false, nt := 13, n0 := 0 }
theorem runclock_Read (x : Clock × Unit) (g : Unit) : execF Eclock_Read Try.f9 (Aclock_Read.enc x) (bNil.enc g) = (Tclock_Read x.1).map Rclock_Read := by kernel_rfl
theorem okclock_Read : FnOk Try.prog cd 9 Sclock_Read := mk_ok (E := Eclock_Read) cd_ok fns7_ok Try.func9 (by kernel_rfl) (noLoops_body (by kernel_rfl)) (aA_ok cClock_ok (aNil_ok)) bNil_ok (T := fun x _ => Tclock_Read x.1) (fun _ _ => rfl) runclock_Read
noncomputable def fns9 := addF 9 true Sclock_Read fns7
theorem fns9_ok : ∀ f q t, fns9 f = some (q, t) → FnOk Try.prog cd f t := addF_ok okclock_Read fns7_ok
/-- emulator/clock.Write -/
noncomputable def Tclock_Write (x0 : Clock) (x1 : Int) : Tree Clock :=
  .ite (x0.ready)
    (.leaf (Clock.mk (!decide ((IntKind.wrap .i64 (((BitVec.ofInt 64 x1 &&& BitVec.ofInt 64 (64 : Int)).toNat : Int))) = (0 : Int))) (!decide ((IntKind.wrap .i64 (((BitVec.ofInt 64 x1 &&& BitVec.ofInt 64 (128 : Int)).toNat : Int))) = (0 : Int))) x0.period x0.left))
    (.leaf (Clock.mk (!decide ((IntKind.wrap .i64 (((BitVec.ofInt 64 x1 &&& BitVec.ofInt 64 (64 : Int)).toNat : Int))) = (0 : Int))) false x0.period x0.left))
noncomputable def clock_Write (x0 : Clock) (x1 : Int) : Option Clock := (Tclock_Write x0 x1).run
noncomputable def Aclock_Write : Arg U (Clock × Int × Unit) := aA cClock (aO (cInt .i64) (aNil))
noncomputable def Rclock_Write (r : Clock) : List (V U) × List (Blk U) := ([vA cClock r], [])
noncomputable def Sclock_Write : List (V U) → List (Blk U) → Option (FnOut U) := mkSpec Aclock_Write bNil (fun x _ => clock_Write x.1 x.2.1) Rclock_Write
noncomputable def Eclock_Write : Env U := { P := Try.prog, cd := cd, fns := fns9, lps := noL, frz := fun _r => false, nt := 18, n0 := 0 }
theorem runclock_Write (x : Clock × Int × Unit) (g : Unit) : execF Eclock_Write Try.f11 (Aclock_Write.enc x) (bNil.enc g) = (Tclock_Write x.1 x.2.1).map Rclock_Write := by kernel_rfl
theorem okclock_Write : FnOk Try.prog cd 11 Sclock_Write := mk_ok (E := Eclock_Write) cd_ok fns9_ok Try.func11 (by kernel_rfl) (noLoops_body (by kernel_rfl)) (aA_ok cClock_ok (aO_ok (cInt_ok .i64) (aNil_ok))) bNil_ok (T := fun x _ => Tclock_Write x.1 x.2.1) (fun _ _ => rfl) runclock_Write
noncomputable def fns11 := addF 11 true Sclock_Write fns9
theorem fns11_ok : ∀ f q t, fns11 f = some (q, t) → FnOk Try.prog cd f t := addF_ok okclock_Write fns9_ok
/-- emulator/clock.Requests -/
noncomputable def Tclock_Requests (x0 : Clock) : Tree (List Request) :=
  .ite (!x0.enable)
    (.leaf ([]))
    (.ite (!x0.ready)
      (.leaf ([]))
      (.leaf ([Request.mk (6 : Int) (64 : Int)])))
noncomputable def clock_Requests (x0 : Clock) : Option (List Request) := (Tclock_Requests x0).run
noncomputable def Aclock_Requests : Arg U (Clock × Unit) := aA cClock (aNil)
noncomputable def Rclock_Requests (r : (List Request)) : List (V U) × List (Blk U) := ([vO (cSl 38) r], [])
noncomputable def Sclock_Requests : List (V U) → List (Blk U) → Option (FnOut U) := mkSpec Aclock_Requests bNil (fun x _ => clock_Requests x.1) Rclock_Requests
noncomputable def Eclock_Requests : Env U := { P := Try.prog, cd := cd, fns := fns11, lps := noL, frz := fun _r => false, nt := 13, n0 := 0 }
theorem runclock_Requests (x : Clock × Unit) (g : Unit) : execF Eclock_Requests Try.f14 (Aclock_Requests.enc x) (bNil.enc g) = (Tclock_Requests x.1).map Rclock_Requests := by kernel_rfl
theorem okclock_Requests : FnOk Try.prog cd 14 Sclock_Requests := mk_ok (E := Eclock_Requests) cd_ok fns11_ok Try.func14 (by kernel_rfl) (noLoops_body (by kernel_rfl)) (aA_ok cClock_ok (aNil_ok)) bNil_ok (T := fun x _ => Tclock_Requests x.1) (fun _ _ => rfl) runclock_Requests
noncomputable def fns14 := addF 14 true Sclock_Requests fns11
theorem fns14_ok : ∀ f q t, fns14 f = some (q, t) → FnOk Try.prog cd f t := addF_ok okclock_Requests fns11_ok
/-- emulator/clock.Accept -/
noncomputable def Tclock_Accept (x0 : Clock) (x1 : Int) : Tree Clock :=
  .ite (x0.ready)
    (.leaf (Clock.mk x0.enable (!decide (x1 = (64 : Int))) x0.period x0.left))
    (.leaf (Clock.mk x0.enable false x0.period x0.left))
noncomputable def clock_Accept (x0 : Clock) (x1 : Int) : Option Clock := (Tclock_Accept x0 x1).run
noncomputable def Aclock_Accept : Arg U (Clock × Int × Unit) := aA cClock (aO (cInt .i64) (aNil))
noncomputable def Rclock_Accept (r : Clock) : List (V U) × List (Blk U) := ([vA cClock r], [])
noncomputable def Sclock_Accept : List (V U) → List (Blk U) → Option (FnOut U) := mkSpec Aclock_Accept bNil (fun x _ => clock_Accept x.1 x.2.1) Rclock_Accept
noncomputable def Eclock_Accept : Env U := { P := Try.prog, cd := cd, fns := fns14, lps := noL, frz := fun _r => false, nt := 13, n0 := 0 }
theorem runclock_Accept (x : Clock × Int × Unit) (g : Unit) : execF Eclock_Accept Try.f16 (Aclock_Accept.enc x) (bNil.enc g) = (Tclock_Accept x.1 x.2.1).map Rclock_Accept := by kernel_rfl
theorem okclock_Accept : FnOk Try.prog cd 16 Sclock_Accept := mk_ok (E := Eclock_Accept) cd_ok fns14_ok Try.func16 (by kernel_rfl) (noLoops_body (by kernel_rfl)) (aA_ok cClock_ok (aO_ok (cInt_ok .i64) (aNil_ok))) bNil_ok (T := fun x _ => Tclock_Accept x.1 x.2.1) (fun _ _ => rfl) runclock_Accept
noncomputable def fns16 := addF 16 true Sclock_Accept fns14
theorem fns16_ok : ∀ f q t, fns16 f = some (q, t) → FnOk Try.prog cd f t := addF_ok okclock_Accept fns14_ok
/-- emulator/clock.New -/
noncomputable def Tclock_New (x0 : Int) : Tree (Clock × Int) :=
  .ite (decide (x0 < (1 : Int)))
    (.leaf ((Clock.mk false false 0 0, (2 : Int))))
    (.ite (decide ((65535 : Int) < x0))
      (.leaf ((Clock.mk false false 0 0, (2 : Int))))
      (.leaf ((Clock.mk false false x0 x0, (0 : Int)))))
noncomputable def clock_New (x0 : Int) : Option (Clock × Int) := (Tclock_New x0).run
noncomputable def Aclock_New : Arg U (Int × Unit) := aO (cInt .i64) (aNil)
noncomputable def Rclock_New (r : (Clock × Int)) : List (V U) × List (Blk U) := ([vA cClock r.1, vO (cInt .i64) r.2], [])
noncomputable def Sclock_New : List (V U) → List (Blk U) → Option (FnOut U) := mkSpec Aclock_New bNil (fun x _ => clock_New x.1) Rclock_New
noncomputable def Eclock_New : Env U := { P := Try.prog, cd := cd, fns := fns16, lps := noL, frz := fun _r => false, nt := 14, n0 := 0 }
theorem runclock_New (x : Int × Unit) (g : Unit) : execF Eclock_New Try.f18 (Aclock_New.enc x) (bNil.enc g) = (Tclock_New x.1).map Rclock_New := by kernel_rfl
theorem okclock_New : FnOk Try.prog cd 18 Sclock_New := mk_ok (E := Eclock_New) cd_ok fns16_ok Try.func18 (by kernel_rfl) (noLoops_body (by kernel_rfl)) (aO_ok (cInt_ok .i64) (aNil_ok)) bNil_ok (T := fun x _ => Tclock_New x.1) (fun _ _ => rfl) runclock_New
noncomputable def fns18 := addF 18 true Sclock_New fns16
theorem fns18_ok : ∀ f q t, fns18 f = some (q, t) → FnOk Try.prog cd f t := addF_ok okclock_New fns16_ok
/-- emulator/clock.Tick -/
noncomputable def Tclock_Tick (x0 : Clock) : Tree Clock :=
  .ite (decide ((IntKind.wrap .i64 (x0.left - (1 : Int))) = (0 : Int)))
    (.leaf (Clock.mk x0.enable true x0.period x0.period))
    (.leaf (Clock.mk x0.enable x0.ready x0.period (IntKind.wrap .i64 (x0.left - (1 : Int)))))
noncomputable def clock_Tick (x0 : Clock) : Option Clock := (Tclock_Tick x0).run
noncomputable def Aclock_Tick : Arg U (Clock × Unit) := aA cClock (aNil)
noncomputable def Rclock_Tick (r : Clock) : List (V U) × List (Blk U) := ([vA cClock r], [])
noncomputable def Sclock_Tick : List (V U) → List (Blk U) → Option (FnOut U) := mkSpec Aclock_Tick bNil (fun x _ => clock_Tick x.1) Rclock_Tick
noncomputable def Eclock_Tick : Env U := { P := Try.prog, cd := cd, fns := fns18, lps := noL, frz := fun _r => false, nt := 15, n0 := 0 }
theorem runclock_Tick (x : Clock × Unit) (g : Unit) : execF Eclock_Tick Try.f21 (Aclock_Tick.enc x) (bNil.enc g) = (Tclock_Tick x.1).map Rclock_Tick := by kernel_rfl
theorem okclock_Tick : FnOk Try.prog cd 21 Sclock_Tick := mk_ok (E := Eclock_Tick) cd_ok fns18_ok Try.func21 (by kernel_rfl) (noLoops_body (by kernel_rfl)) (aA_ok cClock_ok (aNil_ok)) bNil_ok (T := fun x _ => Tclock_Tick x.1) (fun _ _ => rfl) runclock_Tick
noncomputable def fns21 := addF 21 true Sclock_Tick fns18
theorem fns21_ok : ∀ f q t, fns21 f = some (q, t) → FnOk Try.prog cd f t := addF_ok okclock_Tick fns18_ok
/-- emulator/emulatorlaw13.alive -/
noncomputable def Tlaw13_alive  : Tree Bool :=
  .opt (Clock × Int) (clock_New (2 : Int)) fun r1 =>
    .opt Clock (clock_Tick r1.1) fun r2 =>
      .opt Clock (clock_Tick r2) fun r3 =>
        .opt Clock (clock_Write r3 (192 : Int)) fun r4 =>
          .opt (Clock × Int) (clock_New (0 : Int)) fun r5 =>
            .ite (decide (r1.2 = (0 : Int)))
              (.ite (decide (r1.1.left = (2 : Int)))
                (.ite (r3.ready)
                  (.ite (decide (r3.left = (2 : Int)))
                    (.opt Int (clock_Read r3) fun r6 =>
                      .ite (decide (r6 = (128 : Int)))
                        (.opt Int (clock_Read r4) fun r7 =>
                          .ite (decide (r7 = (192 : Int)))
                            (.opt (List Request) (clock_Requests r4) fun r8 =>
                              .ite (decide ((r8.length : Int) = (1 : Int)))
                                (.opt Clock (clock_Accept r4 (64 : Int)) fun r9 =>
                                  .opt Int (clock_Read r9) fun r10 =>
                                    .ite (decide (r10 = (64 : Int)))
                                      (.leaf (decide (r5.2 = (2 : Int))))
                                      (.leaf (false)))
                                (.leaf (false)))
                            (.leaf (false)))
                        (.leaf (false)))
                    (.leaf (false)))
                  (.leaf (false)))
                (.leaf (false)))
              (.leaf (false))
noncomputable def law13_alive  : Option Bool := (Tlaw13_alive ).run
noncomputable def Alaw13_alive : Arg U (Unit) := aNil
noncomputable def Rlaw13_alive (r : Bool) : List (V U) × List (Blk U) := ([vO cBool r], [])
noncomputable def Slaw13_alive : List (V U) → List (Blk U) → Option (FnOut U) := mkSpec Alaw13_alive bNil (fun x _ => law13_alive ) Rlaw13_alive
noncomputable def Elaw13_alive : Env U := { P := Try.prog, cd := cd, fns := fns21, lps := noL, frz := fun _r => false, nt := 62, n0 := 0 }
theorem runlaw13_alive (x : Unit) (g : Unit) : execF Elaw13_alive Try.f8 (Alaw13_alive.enc x) (bNil.enc g) = (Tlaw13_alive ).map Rlaw13_alive := by kernel_rfl
theorem oklaw13_alive : FnOk Try.prog cd 8 Slaw13_alive := mk_ok (E := Elaw13_alive) cd_ok fns21_ok Try.func8 (by kernel_rfl) (noLoops_body (by kernel_rfl)) (aNil_ok) bNil_ok (T := fun x _ => Tlaw13_alive ) (fun _ _ => rfl) runlaw13_alive
noncomputable def fns8 := addF 8 true Slaw13_alive fns21
theorem fns8_ok : ∀ f q t, fns8 f = some (q, t) → FnOk Try.prog cd f t := addF_ok oklaw13_alive fns21_ok
/-- emulator/emulatorref13.Read -/
noncomputable def Tref13_Read (x0 : Clock) : Tree Int :=
  .ite (x0.enable)
    (.ite (x0.ready)
      (.leaf (IntKind.wrap .i64 ((IntKind.wrap .i64 ((0 : Int) + (64 : Int))) + (128 : Int))))
      (.leaf (IntKind.wrap .i64 ((0 : Int) + (64 : Int)))))
    (.ite (x0.ready)
      (.leaf (IntKind.wrap .i64 ((0 : Int) + (128 : Int))))
      (.leaf ((0 : Int))))
noncomputable def ref13_Read (x0 : Clock) : Option Int := (Tref13_Read x0).run
noncomputable def Aref13_Read : Arg U (Clock × Unit) := aA cClock (aNil)
noncomputable def Rref13_Read (r : Int) : List (V U) × List (Blk U) := ([vO (cInt .i64) r], [])
noncomputable def Sref13_Read : List (V U) → List (Blk U) → Option (FnOut U) := mkSpec Aref13_Read bNil (fun x _ => ref13_Read x.1) Rref13_Read
noncomputable def Eref13_Read : Env U := { P := Try.prog, cd := cd, fns := fns8, lps := noL, frz := fun _r => false, nt := 13, n0 := 0 }
theorem runref13_Read (x : Clock × Unit) (g : Unit) : execF Eref13_Read Try.f10 (Aref13_Read.enc x) (bNil.enc g) = (Tref13_Read x.1).map Rref13_Read := by kernel_rfl
theorem okref13_Read : FnOk Try.prog cd 10 Sref13_Read := mk_ok (E := Eref13_Read) cd_ok fns8_ok Try.func10 (by kernel_rfl) (noLoops_body (by kernel_rfl)) (aA_ok cClock_ok (aNil_ok)) bNil_ok (T := fun x _ => Tref13_Read x.1) (fun _ _ => rfl) runref13_Read
noncomputable def fns10 := addF 10 true Sref13_Read fns8
theorem fns10_ok : ∀ f q t, fns10 f = some (q, t) → FnOk Try.prog cd f t := addF_ok okref13_Read fns8_ok
/-- emulator/emulatorref13.Write -/
noncomputable def Tref13_Write (x0 : Clock) (x1 : Int) : Tree Clock :=
  .ite (x0.ready)
    (.leaf (Clock.mk (!decide ((IntKind.wrap .i64 (((BitVec.ofInt 64 x1 &&& BitVec.ofInt 64 (64 : Int)).toNat : Int))) = (0 : Int))) (!decide ((IntKind.wrap .i64 (((BitVec.ofInt 64 x1 &&& BitVec.ofInt 64 (128 : Int)).toNat : Int))) = (0 : Int))) x0.period x0.left))
    (.leaf (Clock.mk (!decide ((IntKind.wrap .i64 (((BitVec.ofInt 64 x1 &&& BitVec.ofInt 64 (64 : Int)).toNat : Int))) = (0 : Int))) false x0.period x0.left))
noncomputable def ref13_Write (x0 : Clock) (x1 : Int) : Option Clock := (Tref13_Write x0 x1).run
noncomputable def Aref13_Write : Arg U (Clock × Int × Unit) := aA cClock (aO (cInt .i64) (aNil))
noncomputable def Rref13_Write (r : Clock) : List (V U) × List (Blk U) := ([vA cClock r], [])
noncomputable def Sref13_Write : List (V U) → List (Blk U) → Option (FnOut U) := mkSpec Aref13_Write bNil (fun x _ => ref13_Write x.1 x.2.1) Rref13_Write
noncomputable def Eref13_Write : Env U := { P := Try.prog, cd := cd, fns := fns10, lps := noL, frz := fun _r => false, nt := 18, n0 := 0 }
theorem runref13_Write (x : Clock × Int × Unit) (g : Unit) : execF Eref13_Write Try.f12 (Aref13_Write.enc x) (bNil.enc g) = (Tref13_Write x.1 x.2.1).map Rref13_Write := by kernel_rfl
theorem okref13_Write : FnOk Try.prog cd 12 Sref13_Write := mk_ok (E := Eref13_Write) cd_ok fns10_ok Try.func12 (by kernel_rfl) (noLoops_body (by kernel_rfl)) (aA_ok cClock_ok (aO_ok (cInt_ok .i64) (aNil_ok))) bNil_ok (T := fun x _ => Tref13_Write x.1 x.2.1) (fun _ _ => rfl) runref13_Write
noncomputable def fns12 := addF 12 true Sref13_Write fns10
theorem fns12_ok : ∀ f q t, fns12 f = some (q, t) → FnOk Try.prog cd f t := addF_ok okref13_Write fns10_ok
/-- emulator/emulatorlaw13.same -/
structure Slaw13_same_0 where
  t0 : (List Request)
  t1 : (List Request)
  t12 : Int
  t13 : Int
noncomputable def Wlaw13_same_0 (s : Slaw13_same_0) : Tree (Slaw13_same_0 ⊕ (Bool ⊕ Unit)) :=
  .ite (decide (s.t13 < s.t12))
    (.ite (decide (0 ≤ s.t13))
      (.opt Request (s.t0[(s.t13).toNat]?) fun y11 =>
        .ite (decide (0 ≤ s.t13))
          (.opt Request (s.t1[(s.t13).toNat]?) fun y12 =>
            .ite (!((decide (y11.priority = y12.priority)) && (decide (y11.vector = y12.vector))))
              (.leaf (.inr (.inl false)))
              (.leaf (.inl (Slaw13_same_0.mk s.t0 s.t1 s.t12 (IntKind.wrap .i64 (s.t13 + (1 : Int)))))))
          .fail)
      .fail)
    (.leaf (.inr (.inr ())))
noncomputable def Llaw13_same_0 (s : Slaw13_same_0) : Option (Bool ⊕ Unit) := lim (fun s => (Wlaw13_same_0 s).run) s
noncomputable def Tlaw13_same (x0 : (List Request)) (x1 : (List Request)) : Tree Bool :=
  .ite (!decide ((x0.length : Int) = (x1.length : Int)))
    (.leaf (false))
    (.opt (Bool ⊕ Unit) (Llaw13_same_0 (Slaw13_same_0.mk x0 x1 (x0.length : Int) (0 : Int))) fun l13 =>
      .ite (l13.isLeft)
        (.opt Bool (l13.getLeft?) fun a14 =>
          .leaf (a14))
        (.opt Unit (l13.getRight?) fun b15 =>
          .leaf (true)))
noncomputable def law13_same (x0 : (List Request)) (x1 : (List Request)) : Option Bool := (Tlaw13_same x0 x1).run
noncomputable def Alaw13_same : Arg U ((List Request) × (List Request) × Unit) := aO (cSl 38) (aO (cSl 38) (aNil))
noncomputable def Rlaw13_same (r : Bool) : List (V U) × List (Blk U) := ([vO cBool r], [])
noncomputable def Slaw13_same : List (V U) → List (Blk U) → Option (FnOut U) := mkSpec Alaw13_same bNil (fun x _ => law13_same x.1 x.2.1) Rlaw13_same
noncomputable def Plaw13_same_0 (x : ((List Request) × Unit) × ((List Request) × Unit) × (Int × Unit) × (Int × Unit) × Unit) (_g : Unit) : Slaw13_same_0 := Slaw13_same_0.mk x.1.1 x.2.1.1 x.2.2.1.1 x.2.2.2.1.1
noncomputable def tAlaw13_same_0 : Tms U (((List Request) × Unit) × ((List Request) × Unit) × (Int × Unit) × (Int × Unit) × Unit) := tO 0 (cPair (cSl 38) (cUnit)) (tO 1 (cPair (cSl 38) (cUnit)) (tO 12 (cPair (cInt .i64) (cUnit)) (tO 13 (cPair (cInt .i64) (cUnit)) (tNil))))
noncomputable def tBlaw13_same_0 : Bls U (Unit) := bNil
noncomputable def eSlaw13_same_0 (s : Slaw13_same_0) : St U := { tm := [(0, .v (vO (cPair (cSl 38) (cUnit)) (s.t0, ()))), (1, .v (vO (cPair (cSl 38) (cUnit)) (s.t1, ()))), (12, .v (vO (cPair (cInt .i64) (cUnit)) (s.t12, ()))), (13, .v (vO (cPair (cInt .i64) (cUnit)) (s.t13, ())))], hp := [] }
noncomputable def xSlaw13_same_0 : (Bool ⊕ Unit) → Ex × St U
  | .inl r => (.ret, { tm := [(4, .v (vO (cPair cBool (cUnit)) (r, ())))], hp := [] })
  | .inr r => (.exit 0, { tm := [], hp := [] })
noncomputable def xTlaw13_same_0 (y : (Bool ⊕ Unit)) : Tree (Ex × St U) := .ite y.isLeft (.opt Bool y.getLeft? fun r => .leaf (.ret, { tm := [(4, .v (vO (cPair cBool (cUnit)) (r, ())))], hp := [] })) (.opt Unit y.getRight? fun r => .leaf (.exit 0, { tm := [], hp := [] }))
noncomputable def hlaw13_same_0 : Hd := { keep := [0, 1, 12, 13], xkeep := [4], own := false }
noncomputable def Elaw13_same : Env U := { P := Try.prog, cd := cd, fns := fns12, lps := (addL 0 hlaw13_same_0 (mkLoop tAlaw13_same_0 tBlaw13_same_0 Plaw13_same_0 Llaw13_same_0 xTlaw13_same_0) noL), frz := fun _r => false, nt := 26, n0 := 0 }
noncomputable def Blaw13_same_0 : Code := (loopAt (Try.f13.body.getD .skip) 0 0).getD .skip
theorem roundlaw13_same_0 (s : Slaw13_same_0) : round Elaw13_same hlaw13_same_0 Blaw13_same_0 0 (eSlaw13_same_0 s) = (Wlaw13_same_0 s).map (sumE eSlaw13_same_0 xSlaw13_same_0) := by kernel_rfl
theorem lplaw13_same_0 : LpOk Elaw13_same Blaw13_same_0 0 := mkLoop_ok (A := tAlaw13_same_0) (B := tBlaw13_same_0) (f := Plaw13_same_0) (L := Llaw13_same_0) (tO_ok (cPair_ok (cSl_ok 38) cUnit_ok) (tO_ok (cPair_ok (cSl_ok 38) cUnit_ok) (tO_ok (cPair_ok (cInt_ok .i64) cUnit_ok) (tO_ok (cPair_ok (cInt_ok .i64) cUnit_ok) tNil_ok)))) bNil_ok (enc := eSlaw13_same_0) (out := xTlaw13_same_0) (outS := xSlaw13_same_0) (step := Wlaw13_same_0) (fun _ => rfl) (fun _ _ => by kernel_rfl) (by kernel_rfl) (fun b => by cases b <;> rfl) roundlaw13_same_0
theorem runlaw13_same (x : (List Request) × (List Request) × Unit) (g : Unit) : execF Elaw13_same Try.f13 (Alaw13_same.enc x) (bNil.enc g) = (Tlaw13_same x.1 x.2.1).map Rlaw13_same := by kernel_rfl
theorem oklaw13_same : FnOk Try.prog cd 13 Slaw13_same := mk_ok (E := Elaw13_same) cd_ok fns12_ok Try.func13 (by kernel_rfl) (loops_of (addL_ok lplaw13_same_0 noL_ok)) (aO_ok (cSl_ok 38) (aO_ok (cSl_ok 38) (aNil_ok))) bNil_ok (T := fun x _ => Tlaw13_same x.1 x.2.1) (fun _ _ => rfl) runlaw13_same
noncomputable def fns13 := addF 13 true Slaw13_same fns12
theorem fns13_ok : ∀ f q t, fns13 f = some (q, t) → FnOk Try.prog cd f t := addF_ok oklaw13_same fns12_ok
/-- emulator/emulatorref13.Requests -/
noncomputable def Tref13_Requests (x0 : Clock) : Tree (List Request) :=
  .ite (x0.enable)
    (.ite (x0.ready)
      (.leaf ([Request.mk (6 : Int) (64 : Int)]))
      (.leaf ([])))
    (.leaf ([]))
noncomputable def ref13_Requests (x0 : Clock) : Option (List Request) := (Tref13_Requests x0).run
noncomputable def Aref13_Requests : Arg U (Clock × Unit) := aA cClock (aNil)
noncomputable def Rref13_Requests (r : (List Request)) : List (V U) × List (Blk U) := ([vO (cSl 38) r], [])
noncomputable def Sref13_Requests : List (V U) → List (Blk U) → Option (FnOut U) := mkSpec Aref13_Requests bNil (fun x _ => ref13_Requests x.1) Rref13_Requests
noncomputable def Eref13_Requests : Env U := { P := Try.prog, cd := cd, fns := fns13, lps := noL, frz := fun _r => false, nt := 11, n0 := 0 }
theorem runref13_Requests (x : Clock × Unit) (g : Unit) : execF Eref13_Requests Try.f15 (Aref13_Requests.enc x) (bNil.enc g) = (Tref13_Requests x.1).map Rref13_Requests := by kernel_rfl
theorem okref13_Requests : FnOk Try.prog cd 15 Sref13_Requests := mk_ok (E := Eref13_Requests) cd_ok fns13_ok Try.func15 (by kernel_rfl) (noLoops_body (by kernel_rfl)) (aA_ok cClock_ok (aNil_ok)) bNil_ok (T := fun x _ => Tref13_Requests x.1) (fun _ _ => rfl) runref13_Requests
noncomputable def fns15 := addF 15 true Sref13_Requests fns13
theorem fns15_ok : ∀ f q t, fns15 f = some (q, t) → FnOk Try.prog cd f t := addF_ok okref13_Requests fns13_ok
/-- emulator/emulatorref13.Accept -/
noncomputable def Tref13_Accept (x0 : Clock) (x1 : Int) : Tree Clock :=
  .ite (decide (x1 = (64 : Int)))
    (.leaf (Clock.mk x0.enable false x0.period x0.left))
    (.leaf (x0))
noncomputable def ref13_Accept (x0 : Clock) (x1 : Int) : Option Clock := (Tref13_Accept x0 x1).run
noncomputable def Aref13_Accept : Arg U (Clock × Int × Unit) := aA cClock (aO (cInt .i64) (aNil))
noncomputable def Rref13_Accept (r : Clock) : List (V U) × List (Blk U) := ([vA cClock r], [])
noncomputable def Sref13_Accept : List (V U) → List (Blk U) → Option (FnOut U) := mkSpec Aref13_Accept bNil (fun x _ => ref13_Accept x.1 x.2.1) Rref13_Accept
noncomputable def Eref13_Accept : Env U := { P := Try.prog, cd := cd, fns := fns15, lps := noL, frz := fun _r => false, nt := 9, n0 := 0 }
theorem runref13_Accept (x : Clock × Int × Unit) (g : Unit) : execF Eref13_Accept Try.f17 (Aref13_Accept.enc x) (bNil.enc g) = (Tref13_Accept x.1 x.2.1).map Rref13_Accept := by kernel_rfl
theorem okref13_Accept : FnOk Try.prog cd 17 Sref13_Accept := mk_ok (E := Eref13_Accept) cd_ok fns15_ok Try.func17 (by kernel_rfl) (noLoops_body (by kernel_rfl)) (aA_ok cClock_ok (aO_ok (cInt_ok .i64) (aNil_ok))) bNil_ok (T := fun x _ => Tref13_Accept x.1 x.2.1) (fun _ _ => rfl) runref13_Accept
noncomputable def fns17 := addF 17 true Sref13_Accept fns15
theorem fns17_ok : ∀ f q t, fns17 f = some (q, t) → FnOk Try.prog cd f t := addF_ok okref13_Accept fns15_ok
/-- emulator/emulatorlaw13.ClockRegisters -/
noncomputable def Tlaw13_ClockRegisters (x0 : Clock) (x1 : Int) : Tree Bool :=
  .opt Bool (ref13_Right x0) fun r16 =>
    .ite (!r16)
      (.opt Bool (law13_alive) fun r17 =>
        .leaf (r17))
      (.opt Int (clock_Read x0) fun r18 =>
        .opt Int (ref13_Read x0) fun r19 =>
          .ite (decide (r18 = r19))
            (.opt Clock (clock_Write x0 x1) fun r20 =>
              .opt Clock (ref13_Write x0 x1) fun r21 =>
                .ite (((r20.enable == r21.enable) && ((r20.ready == r21.ready) && ((decide (r20.period = r21.period)) && (decide (r20.left = r21.left))))))
                  (.opt (List Request) (clock_Requests x0) fun r22 =>
                    .opt (List Request) (ref13_Requests x0) fun r23 =>
                      .opt Bool (law13_same r22 r23) fun r24 =>
                        .ite (r24)
                          (.opt Clock (clock_Accept x0 x1) fun r25 =>
                            .opt Clock (ref13_Accept x0 x1) fun r26 =>
                              .ite (((r25.enable == r26.enable) && ((r25.ready == r26.ready) && ((decide (r25.period = r26.period)) && (decide (r25.left = r26.left))))))
                                (.opt Bool (law13_alive) fun r27 =>
                                  .leaf (r27))
                                (.leaf (false)))
                          (.leaf (false)))
                  (.leaf (false)))
            (.leaf (false)))
noncomputable def law13_ClockRegisters (x0 : Clock) (x1 : Int) : Option Bool := (Tlaw13_ClockRegisters x0 x1).run
noncomputable def Alaw13_ClockRegisters : Arg U (Clock × Int × Unit) := aA cClock (aO (cInt .i64) (aNil))
noncomputable def Rlaw13_ClockRegisters (r : Bool) : List (V U) × List (Blk U) := ([vO cBool r], [])
noncomputable def Slaw13_ClockRegisters : List (V U) → List (Blk U) → Option (FnOut U) := mkSpec Alaw13_ClockRegisters bNil (fun x _ => law13_ClockRegisters x.1 x.2.1) Rlaw13_ClockRegisters
noncomputable def Elaw13_ClockRegisters : Env U := { P := Try.prog, cd := cd, fns := fns17, lps := noL, frz := fun _r => false, nt := 42, n0 := 0 }
theorem runlaw13_ClockRegisters (x : Clock × Int × Unit) (g : Unit) : execF Elaw13_ClockRegisters Try.f3 (Alaw13_ClockRegisters.enc x) (bNil.enc g) = (Tlaw13_ClockRegisters x.1 x.2.1).map Rlaw13_ClockRegisters := by kernel_rfl
theorem oklaw13_ClockRegisters : FnOk Try.prog cd 3 Slaw13_ClockRegisters := mk_ok (E := Elaw13_ClockRegisters) cd_ok fns17_ok Try.func3 (by kernel_rfl) (noLoops_body (by kernel_rfl)) (aA_ok cClock_ok (aO_ok (cInt_ok .i64) (aNil_ok))) bNil_ok (T := fun x _ => Tlaw13_ClockRegisters x.1 x.2.1) (fun _ _ => rfl) runlaw13_ClockRegisters
noncomputable def fns3 := addF 3 true Slaw13_ClockRegisters fns17
theorem fns3_ok : ∀ f q t, fns3 f = some (q, t) → FnOk Try.prog cd f t := addF_ok oklaw13_ClockRegisters fns17_ok
/-- emulator/emulatorref13.New -/
noncomputable def Tref13_New (x0 : Int) : Tree (Clock × Int) :=
  .ite (decide (x0 < (1 : Int)))
    (.leaf ((Clock.mk false false 0 0, (2 : Int))))
    (.ite (decide ((65535 : Int) < x0))
      (.leaf ((Clock.mk false false 0 0, (2 : Int))))
      (.leaf ((Clock.mk false false x0 x0, (0 : Int)))))
noncomputable def ref13_New (x0 : Int) : Option (Clock × Int) := (Tref13_New x0).run
noncomputable def Aref13_New : Arg U (Int × Unit) := aO (cInt .i64) (aNil)
noncomputable def Rref13_New (r : (Clock × Int)) : List (V U) × List (Blk U) := ([vA cClock r.1, vO (cInt .i64) r.2], [])
noncomputable def Sref13_New : List (V U) → List (Blk U) → Option (FnOut U) := mkSpec Aref13_New bNil (fun x _ => ref13_New x.1) Rref13_New
noncomputable def Eref13_New : Env U := { P := Try.prog, cd := cd, fns := fns3, lps := noL, frz := fun _r => false, nt := 14, n0 := 0 }
theorem runref13_New (x : Int × Unit) (g : Unit) : execF Eref13_New Try.f19 (Aref13_New.enc x) (bNil.enc g) = (Tref13_New x.1).map Rref13_New := by kernel_rfl
theorem okref13_New : FnOk Try.prog cd 19 Sref13_New := mk_ok (E := Eref13_New) cd_ok fns3_ok Try.func19 (by kernel_rfl) (noLoops_body (by kernel_rfl)) (aO_ok (cInt_ok .i64) (aNil_ok)) bNil_ok (T := fun x _ => Tref13_New x.1) (fun _ _ => rfl) runref13_New
noncomputable def fns19 := addF 19 true Sref13_New fns3
theorem fns19_ok : ∀ f q t, fns19 f = some (q, t) → FnOk Try.prog cd f t := addF_ok okref13_New fns3_ok
/-- emulator/clock.Right -/
noncomputable def Tclock_Right (x0 : Clock) : Tree Bool :=
  .ite (decide ((1 : Int) ≤ x0.period))
    (.ite (decide (x0.period ≤ (65535 : Int)))
      (.ite (decide ((1 : Int) ≤ x0.left))
        (.leaf (decide (x0.left ≤ x0.period)))
        (.leaf (false)))
      (.leaf (false)))
    (.leaf (false))
noncomputable def clock_Right (x0 : Clock) : Option Bool := (Tclock_Right x0).run
noncomputable def Aclock_Right : Arg U (Clock × Unit) := aA cClock (aNil)
noncomputable def Rclock_Right (r : Bool) : List (V U) × List (Blk U) := ([vO cBool r], [])
noncomputable def Sclock_Right : List (V U) → List (Blk U) → Option (FnOut U) := mkSpec Aclock_Right bNil (fun x _ => clock_Right x.1) Rclock_Right
noncomputable def Eclock_Right : Env U := { P := Try.prog, cd := cd, fns := fns19, lps := noL, frz := fun _r => false, nt := 23, n0 := 0 }
theorem runclock_Right (x : Clock × Unit) (g : Unit) : execF Eclock_Right Try.f20 (Aclock_Right.enc x) (bNil.enc g) = (Tclock_Right x.1).map Rclock_Right := by kernel_rfl
theorem okclock_Right : FnOk Try.prog cd 20 Sclock_Right := mk_ok (E := Eclock_Right) cd_ok fns19_ok Try.func20 (by kernel_rfl) (noLoops_body (by kernel_rfl)) (aA_ok cClock_ok (aNil_ok)) bNil_ok (T := fun x _ => Tclock_Right x.1) (fun _ _ => rfl) runclock_Right
noncomputable def fns20 := addF 20 true Sclock_Right fns19
theorem fns20_ok : ∀ f q t, fns20 f = some (q, t) → FnOk Try.prog cd f t := addF_ok okclock_Right fns19_ok
/-- emulator/emulatorlaw13.ClockNews -/
noncomputable def Tlaw13_ClockNews (x0 : Clock) (x1 : Int) : Tree Bool :=
  .opt (Clock × Int) (clock_New x1) fun r28 =>
    .opt (Clock × Int) (ref13_New x1) fun r29 =>
      .ite (((r28.1.enable == r29.1.enable) && ((r28.1.ready == r29.1.ready) && ((decide (r28.1.period = r29.1.period)) && (decide (r28.1.left = r29.1.left))))))
        (.ite (decide (r28.2 = r29.2))
          (.opt Bool (clock_Right x0) fun r30 =>
            .opt Bool (ref13_Right x0) fun r31 =>
              .ite ((r30 == r31))
                (.opt Bool (law13_alive) fun r32 =>
                  .leaf (r32))
                (.leaf (false)))
          (.leaf (false)))
        (.leaf (false))
noncomputable def law13_ClockNews (x0 : Clock) (x1 : Int) : Option Bool := (Tlaw13_ClockNews x0 x1).run
noncomputable def Alaw13_ClockNews : Arg U (Clock × Int × Unit) := aA cClock (aO (cInt .i64) (aNil))
noncomputable def Rlaw13_ClockNews (r : Bool) : List (V U) × List (Blk U) := ([vO cBool r], [])
noncomputable def Slaw13_ClockNews : List (V U) → List (Blk U) → Option (FnOut U) := mkSpec Alaw13_ClockNews bNil (fun x _ => law13_ClockNews x.1 x.2.1) Rlaw13_ClockNews
noncomputable def Elaw13_ClockNews : Env U := { P := Try.prog, cd := cd, fns := fns20, lps := noL, frz := fun _r => false, nt := 37, n0 := 0 }
theorem runlaw13_ClockNews (x : Clock × Int × Unit) (g : Unit) : execF Elaw13_ClockNews Try.f4 (Alaw13_ClockNews.enc x) (bNil.enc g) = (Tlaw13_ClockNews x.1 x.2.1).map Rlaw13_ClockNews := by kernel_rfl
theorem oklaw13_ClockNews : FnOk Try.prog cd 4 Slaw13_ClockNews := mk_ok (E := Elaw13_ClockNews) cd_ok fns20_ok Try.func4 (by kernel_rfl) (noLoops_body (by kernel_rfl)) (aA_ok cClock_ok (aO_ok (cInt_ok .i64) (aNil_ok))) bNil_ok (T := fun x _ => Tlaw13_ClockNews x.1 x.2.1) (fun _ _ => rfl) runlaw13_ClockNews
noncomputable def fns4 := addF 4 true Slaw13_ClockNews fns20
theorem fns4_ok : ∀ f q t, fns4 f = some (q, t) → FnOk Try.prog cd f t := addF_ok oklaw13_ClockNews fns20_ok
/-- emulator/emulatorlaw13.ClockPeriods -/
structure Slaw13_ClockPeriods_0 where
  t5 : Int
  t6 : Int
  t9 : Int
  b0_0 : Bool
  b0_1 : Bool
  b0_2 : Int
  b0_3 : Int
noncomputable def Wlaw13_ClockPeriods_0 (s : Slaw13_ClockPeriods_0) : Tree (Slaw13_ClockPeriods_0 ⊕ (Bool ⊕ Unit)) :=
  .ite (decide (s.t9 ≤ s.t6))
    (.opt Clock (clock_Tick (Clock.mk s.b0_0 s.b0_1 s.b0_2 s.b0_3)) fun r35 =>
      .opt (List Request) (clock_Requests r35) fun r36 =>
        .ite (decide (s.t5 = 0))
          .fail
          (.ite (!((decide ((r36.length : Int) = (1 : Int))) == (decide (((s.t9).tmod s.t5) = (0 : Int)))))
            (.leaf (.inr (.inl false)))
            (.ite (decide ((1 : Int) < (r36.length : Int)))
              (.leaf (.inr (.inl false)))
              (.opt Bool (clock_Right r35) fun r37 =>
                .ite (!r37)
                  (.leaf (.inr (.inl false)))
                  (.ite (decide (s.t5 = 0))
                    .fail
                    (.ite (!decide (r35.left = (IntKind.wrap .i64 (s.t5 - ((s.t9).tmod s.t5)))))
                      (.leaf (.inr (.inl false)))
                      (.ite (decide ((r36.length : Int) = (1 : Int)))
                        (.ite (decide (0 ≤ (0 : Int)))
                          (.opt Request (r36[((0 : Int)).toNat]?) fun y38 =>
                            .ite (!decide (y38.priority = (6 : Int)))
                              (.leaf (.inr (.inl false)))
                              (.ite (decide (0 ≤ (0 : Int)))
                                (.opt Request (r36[((0 : Int)).toNat]?) fun y39 =>
                                  .ite (!decide (y39.vector = (64 : Int)))
                                    (.leaf (.inr (.inl false)))
                                    (.opt Clock (clock_Accept r35 (60 : Int)) fun r40 =>
                                      .ite (!((r40.enable == r35.enable) && ((r40.ready == r35.ready) && ((decide (r40.period = r35.period)) && (decide (r40.left = r35.left))))))
                                        (.leaf (.inr (.inl false)))
                                        (.ite (decide (0 ≤ (0 : Int)))
                                          (.opt Request (r36[((0 : Int)).toNat]?) fun y41 =>
                                            .opt Clock (clock_Accept r35 y41.vector) fun r42 =>
                                              .leaf (.inl (Slaw13_ClockPeriods_0.mk s.t5 s.t6 (IntKind.wrap .i64 (s.t9 + (1 : Int))) r42.enable r42.ready r42.period r42.left)))
                                          .fail)))
                                .fail))
                          .fail)
                        (.leaf (.inl (Slaw13_ClockPeriods_0.mk s.t5 s.t6 (IntKind.wrap .i64 (s.t9 + (1 : Int))) r35.enable r35.ready r35.period r35.left))))))))))
    (.leaf (.inr (.inr ())))
noncomputable def Llaw13_ClockPeriods_0 (s : Slaw13_ClockPeriods_0) : Option (Bool ⊕ Unit) := lim (fun s => (Wlaw13_ClockPeriods_0 s).run) s
noncomputable def Tlaw13_ClockPeriods (x0 : Int) (x1 : Int) : Tree Bool :=
  .ite (decide ((300 : Int) = 0))
    .fail
    (.ite (decide ((300 : Int) = 0))
      .fail
      (.opt (Clock × Int) (clock_New (IntKind.wrap .i64 ((IntKind.wrap .i64 ((x0).tmod (300 : Int))) + (1 : Int)))) fun r33 =>
        .ite (!decide (r33.2 = (0 : Int)))
          (.leaf (false))
          (.opt Clock (clock_Write r33.1 (64 : Int)) fun r34 =>
            .opt (Bool ⊕ Unit) (Llaw13_ClockPeriods_0 (Slaw13_ClockPeriods_0.mk (IntKind.wrap .i64 ((IntKind.wrap .i64 ((x0).tmod (300 : Int))) + (1 : Int))) (IntKind.wrap .i64 ((x1).tmod (300 : Int))) (1 : Int) r34.enable r34.ready r34.period r34.left)) fun l43 =>
              .ite (l43.isLeft)
                (.opt Bool (l43.getLeft?) fun a44 =>
                  .leaf (a44))
                (.opt Unit (l43.getRight?) fun b45 =>
                  .opt Bool (law13_alive) fun r46 =>
                    .leaf (r46)))))
noncomputable def law13_ClockPeriods (x0 : Int) (x1 : Int) : Option Bool := (Tlaw13_ClockPeriods x0 x1).run
noncomputable def Alaw13_ClockPeriods : Arg U (Int × Int × Unit) := aO (cInt .u16) (aO (cInt .u16) (aNil))
noncomputable def Rlaw13_ClockPeriods (r : Bool) : List (V U) × List (Blk U) := ([vO cBool r], [])
noncomputable def Slaw13_ClockPeriods : List (V U) → List (Blk U) → Option (FnOut U) := mkSpec Alaw13_ClockPeriods bNil (fun x _ => law13_ClockPeriods x.1 x.2.1) Rlaw13_ClockPeriods
noncomputable def Plaw13_ClockPeriods_0 (x : (Int × Unit) × (Int × Unit) × (Unit) × (Int × Unit) × Unit) (g : (Bool × Bool × Int × Int × Unit) × Unit) : Slaw13_ClockPeriods_0 := Slaw13_ClockPeriods_0.mk x.1.1 x.2.1.1 x.2.2.2.1.1 g.1.1 g.1.2.1 g.1.2.2.1 g.1.2.2.2.1
noncomputable def tAlaw13_ClockPeriods_0 : Tms U ((Int × Unit) × (Int × Unit) × (Unit) × (Int × Unit) × Unit) := tO 5 (cPair (cInt .i64) (cUnit)) (tO 6 (cPair (cInt .i64) (cUnit)) (tO 7 (cK (.ptr 0 0) (cUnit)) (tO 9 (cPair (cInt .i64) (cUnit)) (tNil))))
noncomputable def tBlaw13_ClockPeriods_0 : Bls U ((Bool × Bool × Int × Int × Unit) × Unit) := bC (cPair cBool (cPair cBool (cPair (cInt .i64) (cPair (cInt .i64) (cUnit))))) (bNil)
noncomputable def eSlaw13_ClockPeriods_0 (s : Slaw13_ClockPeriods_0) : St U := { tm := [(5, .v (vO (cPair (cInt .i64) (cUnit)) (s.t5, ()))), (6, .v (vO (cPair (cInt .i64) (cUnit)) (s.t6, ()))), (7, .v (vO (cK (.ptr 0 0) (cUnit)) (()))), (9, .v (vO (cPair (cInt .i64) (cUnit)) (s.t9, ())))], hp := [.cells ((cPair cBool (cPair cBool (cPair (cInt .i64) (cPair (cInt .i64) (cUnit)))) : Cdc U (Bool × Bool × Int × Int × Unit)).enc (s.b0_0, s.b0_1, s.b0_2, s.b0_3, ()))] }
noncomputable def xSlaw13_ClockPeriods_0 : (Bool ⊕ Unit) → Ex × St U
  | .inl r => (.ret, { tm := [(4, .v (vO (cPair cBool (cUnit)) (r, ())))], hp := [] })
  | .inr r => (.exit 0, { tm := [], hp := [] })
noncomputable def xTlaw13_ClockPeriods_0 (y : (Bool ⊕ Unit)) : Tree (Ex × St U) := .ite y.isLeft (.opt Bool y.getLeft? fun r => .leaf (.ret, { tm := [(4, .v (vO (cPair cBool (cUnit)) (r, ())))], hp := [] })) (.opt Unit y.getRight? fun r => .leaf (.exit 0, { tm := [], hp := [] }))
noncomputable def hlaw13_ClockPeriods_0 : Hd := { keep := [5, 6, 7, 9], xkeep := [4], own := false }
noncomputable def Elaw13_ClockPeriods : Env U := { P := Try.prog, cd := cd, fns := fns4, lps := (addL 0 hlaw13_ClockPeriods_0 (mkLoop tAlaw13_ClockPeriods_0 tBlaw13_ClockPeriods_0 Plaw13_ClockPeriods_0 Llaw13_ClockPeriods_0 xTlaw13_ClockPeriods_0) noL), frz := fun _r => false, nt := 92, n0 := 0 }
noncomputable def Blaw13_ClockPeriods_0 : Code := (loopAt (Try.f5.body.getD .skip) 0 0).getD .skip
theorem roundlaw13_ClockPeriods_0 (s : Slaw13_ClockPeriods_0) : round Elaw13_ClockPeriods hlaw13_ClockPeriods_0 Blaw13_ClockPeriods_0 0 (eSlaw13_ClockPeriods_0 s) = (Wlaw13_ClockPeriods_0 s).map (sumE eSlaw13_ClockPeriods_0 xSlaw13_ClockPeriods_0) := by kernel_rfl
theorem lplaw13_ClockPeriods_0 : LpOk Elaw13_ClockPeriods Blaw13_ClockPeriods_0 0 := mkLoop_ok (A := tAlaw13_ClockPeriods_0) (B := tBlaw13_ClockPeriods_0) (f := Plaw13_ClockPeriods_0) (L := Llaw13_ClockPeriods_0) (tO_ok (cPair_ok (cInt_ok .i64) cUnit_ok) (tO_ok (cPair_ok (cInt_ok .i64) cUnit_ok) (tO_ok (cK_ok cUnit_ok) (tO_ok (cPair_ok (cInt_ok .i64) cUnit_ok) tNil_ok)))) (bC_ok (cPair_ok cBool_ok (cPair_ok cBool_ok (cPair_ok (cInt_ok .i64) (cPair_ok (cInt_ok .i64) cUnit_ok)))) bNil_ok) (enc := eSlaw13_ClockPeriods_0) (out := xTlaw13_ClockPeriods_0) (outS := xSlaw13_ClockPeriods_0) (step := Wlaw13_ClockPeriods_0) (fun _ => rfl) (fun _ _ => by kernel_rfl) (by kernel_rfl) (fun b => by cases b <;> rfl) roundlaw13_ClockPeriods_0
theorem runlaw13_ClockPeriods (x : Int × Int × Unit) (g : Unit) : execF Elaw13_ClockPeriods Try.f5 (Alaw13_ClockPeriods.enc x) (bNil.enc g) = (Tlaw13_ClockPeriods x.1 x.2.1).map Rlaw13_ClockPeriods := by kernel_rfl
theorem oklaw13_ClockPeriods : FnOk Try.prog cd 5 Slaw13_ClockPeriods := mk_ok (E := Elaw13_ClockPeriods) cd_ok fns4_ok Try.func5 (by kernel_rfl) (loops_of (addL_ok lplaw13_ClockPeriods_0 noL_ok)) (aO_ok (cInt_ok .u16) (aO_ok (cInt_ok .u16) (aNil_ok))) bNil_ok (T := fun x _ => Tlaw13_ClockPeriods x.1 x.2.1) (fun _ _ => rfl) runlaw13_ClockPeriods
noncomputable def fns5 := addF 5 true Slaw13_ClockPeriods fns4
theorem fns5_ok : ∀ f q t, fns5 f = some (q, t) → FnOk Try.prog cd f t := addF_ok oklaw13_ClockPeriods fns4_ok
/-- emulator/emulatorref13.Tick -/
noncomputable def Tref13_Tick (x0 : Clock) : Tree Clock :=
  .ite (decide ((IntKind.wrap .i64 (x0.left - (1 : Int))) = (0 : Int)))
    (.leaf (Clock.mk x0.enable true x0.period x0.period))
    (.leaf (Clock.mk x0.enable x0.ready x0.period (IntKind.wrap .i64 (x0.left - (1 : Int)))))
noncomputable def ref13_Tick (x0 : Clock) : Option Clock := (Tref13_Tick x0).run
noncomputable def Aref13_Tick : Arg U (Clock × Unit) := aA cClock (aNil)
noncomputable def Rref13_Tick (r : Clock) : List (V U) × List (Blk U) := ([vA cClock r], [])
noncomputable def Sref13_Tick : List (V U) → List (Blk U) → Option (FnOut U) := mkSpec Aref13_Tick bNil (fun x _ => ref13_Tick x.1) Rref13_Tick
noncomputable def Eref13_Tick : Env U := { P := Try.prog, cd := cd, fns := fns5, lps := noL, frz := fun _r => false, nt := 15, n0 := 0 }
theorem runref13_Tick (x : Clock × Unit) (g : Unit) : execF Eref13_Tick Try.f22 (Aref13_Tick.enc x) (bNil.enc g) = (Tref13_Tick x.1).map Rref13_Tick := by kernel_rfl
theorem okref13_Tick : FnOk Try.prog cd 22 Sref13_Tick := mk_ok (E := Eref13_Tick) cd_ok fns5_ok Try.func22 (by kernel_rfl) (noLoops_body (by kernel_rfl)) (aA_ok cClock_ok (aNil_ok)) bNil_ok (T := fun x _ => Tref13_Tick x.1) (fun _ _ => rfl) runref13_Tick
noncomputable def fns22 := addF 22 true Sref13_Tick fns5
theorem fns22_ok : ∀ f q t, fns22 f = some (q, t) → FnOk Try.prog cd f t := addF_ok okref13_Tick fns5_ok
/-- emulator/clock.Reset -/
noncomputable def Tclock_Reset (x0 : Clock) : Tree Clock :=
  .leaf (Clock.mk false false x0.period x0.period)
noncomputable def clock_Reset (x0 : Clock) : Option Clock := (Tclock_Reset x0).run
noncomputable def Aclock_Reset : Arg U (Clock × Unit) := aA cClock (aNil)
noncomputable def Rclock_Reset (r : Clock) : List (V U) × List (Blk U) := ([vA cClock r], [])
noncomputable def Sclock_Reset : List (V U) → List (Blk U) → Option (FnOut U) := mkSpec Aclock_Reset bNil (fun x _ => clock_Reset x.1) Rclock_Reset
noncomputable def Eclock_Reset : Env U := { P := Try.prog, cd := cd, fns := fns22, lps := noL, frz := fun _r => false, nt := 8, n0 := 0 }
theorem runclock_Reset (x : Clock × Unit) (g : Unit) : execF Eclock_Reset Try.f23 (Aclock_Reset.enc x) (bNil.enc g) = (Tclock_Reset x.1).map Rclock_Reset := by kernel_rfl
theorem okclock_Reset : FnOk Try.prog cd 23 Sclock_Reset := mk_ok (E := Eclock_Reset) cd_ok fns22_ok Try.func23 (by kernel_rfl) (noLoops_body (by kernel_rfl)) (aA_ok cClock_ok (aNil_ok)) bNil_ok (T := fun x _ => Tclock_Reset x.1) (fun _ _ => rfl) runclock_Reset
noncomputable def fns23 := addF 23 true Sclock_Reset fns22
theorem fns23_ok : ∀ f q t, fns23 f = some (q, t) → FnOk Try.prog cd f t := addF_ok okclock_Reset fns22_ok
/-- emulator/emulatorref13.Reset -/
noncomputable def Tref13_Reset (x0 : Clock) : Tree Clock :=
  .leaf (Clock.mk false false x0.period x0.period)
noncomputable def ref13_Reset (x0 : Clock) : Option Clock := (Tref13_Reset x0).run
noncomputable def Aref13_Reset : Arg U (Clock × Unit) := aA cClock (aNil)
noncomputable def Rref13_Reset (r : Clock) : List (V U) × List (Blk U) := ([vA cClock r], [])
noncomputable def Sref13_Reset : List (V U) → List (Blk U) → Option (FnOut U) := mkSpec Aref13_Reset bNil (fun x _ => ref13_Reset x.1) Rref13_Reset
noncomputable def Eref13_Reset : Env U := { P := Try.prog, cd := cd, fns := fns23, lps := noL, frz := fun _r => false, nt := 8, n0 := 0 }
theorem runref13_Reset (x : Clock × Unit) (g : Unit) : execF Eref13_Reset Try.f24 (Aref13_Reset.enc x) (bNil.enc g) = (Tref13_Reset x.1).map Rref13_Reset := by kernel_rfl
theorem okref13_Reset : FnOk Try.prog cd 24 Sref13_Reset := mk_ok (E := Eref13_Reset) cd_ok fns23_ok Try.func24 (by kernel_rfl) (noLoops_body (by kernel_rfl)) (aA_ok cClock_ok (aNil_ok)) bNil_ok (T := fun x _ => Tref13_Reset x.1) (fun _ _ => rfl) runref13_Reset
noncomputable def fns24 := addF 24 true Sref13_Reset fns23
theorem fns24_ok : ∀ f q t, fns24 f = some (q, t) → FnOk Try.prog cd f t := addF_ok okref13_Reset fns23_ok
/-- emulator/emulatorlaw13.ClockTicks -/
noncomputable def Tlaw13_ClockTicks (x0 : Clock) : Tree Bool :=
  .opt Bool (ref13_Right x0) fun r47 =>
    .ite (!r47)
      (.opt Bool (law13_alive) fun r48 =>
        .leaf (r48))
      (.opt Clock (clock_Tick x0) fun r49 =>
        .opt Clock (ref13_Tick x0) fun r50 =>
          .ite (((r49.enable == r50.enable) && ((r49.ready == r50.ready) && ((decide (r49.period = r50.period)) && (decide (r49.left = r50.left))))))
            (.opt Clock (clock_Reset x0) fun r51 =>
              .opt Clock (ref13_Reset x0) fun r52 =>
                .ite (((r51.enable == r52.enable) && ((r51.ready == r52.ready) && ((decide (r51.period = r52.period)) && (decide (r51.left = r52.left))))))
                  (.opt Clock (clock_Tick x0) fun r53 =>
                    .opt Bool (clock_Right r53) fun r54 =>
                      .ite (r54)
                        (.opt Clock (clock_Reset x0) fun r55 =>
                          .opt Bool (clock_Right r55) fun r56 =>
                            .ite (r56)
                              (.opt Bool (law13_alive) fun r57 =>
                                .leaf (r57))
                              (.leaf (false)))
                        (.leaf (false)))
                  (.leaf (false)))
            (.leaf (false)))
noncomputable def law13_ClockTicks (x0 : Clock) : Option Bool := (Tlaw13_ClockTicks x0).run
noncomputable def Alaw13_ClockTicks : Arg U (Clock × Unit) := aA cClock (aNil)
noncomputable def Rlaw13_ClockTicks (r : Bool) : List (V U) × List (Blk U) := ([vO cBool r], [])
noncomputable def Slaw13_ClockTicks : List (V U) → List (Blk U) → Option (FnOut U) := mkSpec Alaw13_ClockTicks bNil (fun x _ => law13_ClockTicks x.1) Rlaw13_ClockTicks
noncomputable def Elaw13_ClockTicks : Env U := { P := Try.prog, cd := cd, fns := fns24, lps := noL, frz := fun _r => false, nt := 32, n0 := 0 }
theorem runlaw13_ClockTicks (x : Clock × Unit) (g : Unit) : execF Elaw13_ClockTicks Try.f6 (Alaw13_ClockTicks.enc x) (bNil.enc g) = (Tlaw13_ClockTicks x.1).map Rlaw13_ClockTicks := by kernel_rfl
theorem oklaw13_ClockTicks : FnOk Try.prog cd 6 Slaw13_ClockTicks := mk_ok (E := Elaw13_ClockTicks) cd_ok fns24_ok Try.func6 (by kernel_rfl) (noLoops_body (by kernel_rfl)) (aA_ok cClock_ok (aNil_ok)) bNil_ok (T := fun x _ => Tlaw13_ClockTicks x.1) (fun _ _ => rfl) runlaw13_ClockTicks
noncomputable def fns6 := addF 6 true Slaw13_ClockTicks fns24
theorem fns6_ok : ∀ f q t, fns6 f = some (q, t) → FnOk Try.prog cd f t := addF_ok oklaw13_ClockTicks fns24_ok
end Go.Proofs.Ytegaghacannjpaa
