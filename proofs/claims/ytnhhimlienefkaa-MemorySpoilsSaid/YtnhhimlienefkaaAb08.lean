/- The types of the program, and how they are told in cells. -/
import Derived.Test.YtnhhimlienefkaaAbMore
import Derived.Test.YtnhhimlienefkaaAbClone
import Derived.Ground.Names2Prog
import Derived.Shelf.Lay
import Derived.Shelf.SlGeneric
import Derived.Ground.SlgnProg
import Derived.Test.YtnhhimlienefkaaProg
import Derived.KernelRfl
set_option linter.unusedSimpArgs false
namespace Go.Proofs.Ytnhhimlienefkaa
open Go Go.Ab
structure Access where
  addr : Int
  byte : Bool
  value : Int
  deriving DecidableEq
structure Span where
  to : Int
  from_ : Int
  count : Int
  deriving DecidableEq
structure Two where
  access : Access
  other : Int
  deriving DecidableEq
abbrev tys : List (Nat × Type) := [(3, Int), (5, Int)]
abbrev U : Nat → Type := findT tys
noncomputable def cAccess : Cdc U Access := cMap (fun x => Access.mk x.1 x.2.1 x.2.2.1) (fun x => (x.addr, x.byte, x.value, ())) (cPair (cInt .i64) (cPair cBool (cPair (cInt .i64) (cUnit))))
theorem cAccess_ok : cAccess.Ok := cMap_ok (cPair_ok (cInt_ok .i64) (cPair_ok cBool_ok (cPair_ok (cInt_ok .i64) cUnit_ok))) fun _ => rfl
noncomputable def cSpan : Cdc U Span := cMap (fun x => Span.mk x.1 x.2.1 x.2.2.1) (fun x => (x.to, x.from_, x.count, ())) (cPair (cInt .i64) (cPair (cInt .i64) (cPair (cInt .i64) (cUnit))))
theorem cSpan_ok : cSpan.Ok := cMap_ok (cPair_ok (cInt_ok .i64) (cPair_ok (cInt_ok .i64) (cPair_ok (cInt_ok .i64) cUnit_ok))) fun _ => rfl
noncomputable def cTwo : Cdc U Two := cMap (fun x => Two.mk x.1 x.2.1) (fun x => (x.access, x.other, ())) (cPair cAccess (cPair (cInt .i64) (cUnit)))
theorem cTwo_ok : cTwo.Ok := cMap_ok (cPair_ok cAccess_ok (cPair_ok (cInt_ok .i64) cUnit_ok)) fun _ => rfl
noncomputable def ents : Ents U tys := .cons ⟨(cInt .i64), some (0 : Int), none, some inferInstance⟩ (.cons ⟨(cInt .u8), some (0 : Int), some (fun x => x, fun x => x), some inferInstance⟩ (.nil))
noncomputable def cd : Cd U := cdOf ents
theorem ents_ok : EntsOk Try.prog ents := ⟨⟨(cInt_ok .i64), (fun x => by kernel_rfl), (fun x => List.all_eq_true.1 (show (((cInt .i64) : Cdc U _).enc x).all plainC = true by kernel_rfl)), (fun f g h => by cases h), (fun d h cd x y => by cases h; exact eqT_int cd (by kernel_rfl) x y)⟩, ⟨(cInt_ok .u8), (fun x => by kernel_rfl), (fun x => List.all_eq_true.1 (show (((cInt .u8) : Cdc U _).enc x).all plainC = true by kernel_rfl)), (fun f g h => by simp only [Option.some.injEq, Prod.mk.injEq] at h; obtain ⟨rfl, rfl⟩ := h; exact ⟨by kernel_rfl, fun _ => rfl, fun _ => rfl⟩), (fun d h cd x y => by cases h; exact eqT_int cd (by kernel_rfl) x y)⟩, trivial⟩
theorem cd_ok : CdOk Try.prog cd := cdOf_ok ents ents_ok
/-- emulator/emulatorref08.Size -/
noncomputable def Tref08_Size (x0 : Int) : Tree Bool :=
  .ite (decide ((256 : Int) ≤ x0))
    (.ite (decide (x0 ≤ (32768 : Int)))
      (.ite (decide ((64 : Int) = 0))
        .fail
        (.leaf (decide (((x0).tmod (64 : Int)) = (0 : Int)))))
      (.leaf (false)))
    (.leaf (false))
noncomputable def ref08_Size (x0 : Int) : Option Bool := (Tref08_Size x0).run
noncomputable def Aref08_Size : Arg U (Int × Unit) := aO (cInt .i64) (aNil)
noncomputable def Rref08_Size (r : Bool) : List (V U) × List (Blk U) := ([vO cBool r], [])
noncomputable def Sref08_Size : List (V U) → List (Blk U) → Option (FnOut U) := mkSpec Aref08_Size bNil (fun x _ => ref08_Size x.1) Rref08_Size
noncomputable def Eref08_Size : Env U := { P := Try.prog, cd := cd, fns := noF, lps := noL, frz := fun _r => false, nt := 14, n0 := 0 }
theorem runref08_Size (x : Int × Unit) (g : Unit) : execF Eref08_Size Try.f42 (Aref08_Size.enc x) (bNil.enc g) = (Tref08_Size x.1).map Rref08_Size := by kernel_rfl
theorem okref08_Size : FnOk Try.prog cd 42 Sref08_Size := mk_ok (E := Eref08_Size) cd_ok noF_ok Try.func42 (by kernel_rfl) (noLoops_body (by kernel_rfl)) (aO_ok (cInt_ok .i64) (aNil_ok)) bNil_ok (T := fun x _ => Tref08_Size x.1) (fun _ _ => rfl) runref08_Size
noncomputable def fns42 := addF 42 true Sref08_Size noF
theorem fns42_ok : ∀ f q t, fns42 f = some (q, t) → FnOk Try.prog cd f t := addF_ok okref08_Size noF_ok
/-- emulator/emulatorref08.Right -/
structure Sref08_Right_0 where
  t0 : (List Int)
  t1 : (List Int)
  t5 : Int
noncomputable def Wref08_Right_0 (s : Sref08_Right_0) : Tree (Sref08_Right_0 ⊕ (((List Int) × (List Int) × Bool) ⊕ ((List Int) × (List Int)))) :=
  .ite (decide (s.t5 < (s.t0.length : Int)))
    (.ite (decide (0 ≤ s.t5))
      (.opt Int (s.t0[(s.t5).toNat]?) fun y2 =>
        .ite (decide (y2 < (0 : Int)))
          (.leaf (.inr (.inl (s.t0, s.t1, false))))
          (.ite (decide (0 ≤ s.t5))
            (.opt Int (s.t0[(s.t5).toNat]?) fun y3 =>
              .ite (decide ((65535 : Int) < y3))
                (.leaf (.inr (.inl (s.t0, s.t1, false))))
                (.leaf (.inl (Sref08_Right_0.mk s.t0 s.t1 (IntKind.wrap .i64 (s.t5 + (1 : Int)))))))
            .fail))
      .fail)
    (.leaf (.inr (.inr (s.t0, s.t1))))
noncomputable def Lref08_Right_0 (q : Option Nat) (s : Sref08_Right_0) : Option (((List Int) × (List Int) × Bool) ⊕ ((List Int) × (List Int))) := limQ q (fun s => (Wref08_Right_0 s).run) s
theorem leLref08_Right_0 (k : Nat) (s : Sref08_Right_0) : Le (Lref08_Right_0 (some k) s) (Lref08_Right_0 none s) := limQ_le (fun _ => Le.rfl) s
structure Sref08_Right_1 where
  t0 : (List Int)
  t1 : (List Int)
  t6 : Int
noncomputable def Wref08_Right_1 (s : Sref08_Right_1) : Tree (Sref08_Right_1 ⊕ (Bool ⊕ Unit)) :=
  .ite (decide (s.t6 < (s.t1.length : Int)))
    (.ite (decide (0 ≤ s.t6))
      (.opt Int (s.t1[(s.t6).toNat]?) fun y7 =>
        .ite (decide (y7 < (0 : Int)))
          (.leaf (.inr (.inl false)))
          (.ite (decide (0 ≤ s.t6))
            (.opt Int (s.t1[(s.t6).toNat]?) fun y8 =>
              .ite (decide ((IntKind.wrap .i64 ((2 : Int) * (s.t0.length : Int))) ≤ y8))
                (.leaf (.inr (.inl false)))
                (.ite (decide (0 ≤ s.t6))
                  (.opt Int (s.t1[(s.t6).toNat]?) fun y9 =>
                    .ite (decide ((2 : Int) = 0))
                      .fail
                      (.ite (!decide (((y9).tmod (2 : Int)) = (0 : Int)))
                        (.leaf (.inr (.inl false)))
                        (.ite (decide ((0 : Int) < s.t6))
                          (.ite (decide (0 ≤ s.t6))
                            (.opt Int (s.t1[(s.t6).toNat]?) fun y10 =>
                              .ite (decide (0 ≤ IntKind.wrap .i64 (s.t6 - (1 : Int))))
                                (.opt Int (s.t1[(IntKind.wrap .i64 (s.t6 - (1 : Int))).toNat]?) fun y11 =>
                                  .ite (decide (y10 ≤ y11))
                                    (.leaf (.inr (.inl false)))
                                    (.leaf (.inl (Sref08_Right_1.mk s.t0 s.t1 (IntKind.wrap .i64 (s.t6 + (1 : Int)))))))
                                .fail)
                            .fail)
                          (.leaf (.inl (Sref08_Right_1.mk s.t0 s.t1 (IntKind.wrap .i64 (s.t6 + (1 : Int)))))))))
                  .fail))
            .fail))
      .fail)
    (.leaf (.inr (.inr ())))
noncomputable def Lref08_Right_1 (q : Option Nat) (s : Sref08_Right_1) : Option (Bool ⊕ Unit) := limQ q (fun s => (Wref08_Right_1 s).run) s
theorem leLref08_Right_1 (k : Nat) (s : Sref08_Right_1) : Le (Lref08_Right_1 (some k) s) (Lref08_Right_1 none s) := limQ_le (fun _ => Le.rfl) s
noncomputable def Tref08_Right (q : Option Nat) (x0 : (List Int)) (x1 : (List Int)) : Tree Bool :=
  .opt Bool (ref08_Size (IntKind.wrap .i64 ((2 : Int) * (x0.length : Int)))) fun r1 =>
    .ite (!r1)
      (.leaf (false))
      (.opt (((List Int) × (List Int) × Bool) ⊕ ((List Int) × (List Int))) (Lref08_Right_0 q (Sref08_Right_0.mk x0 x1 (0 : Int))) fun l4 =>
        .ite (l4.isLeft)
          (.opt ((List Int) × (List Int) × Bool) (l4.getLeft?) fun a5 =>
            .leaf (a5.2.2))
          (.opt ((List Int) × (List Int)) (l4.getRight?) fun b6 =>
            .opt (Bool ⊕ Unit) (Lref08_Right_1 q (Sref08_Right_1.mk b6.1 b6.2 (0 : Int))) fun l12 =>
              .ite (l12.isLeft)
                (.opt Bool (l12.getLeft?) fun a13 =>
                  .leaf (a13))
                (.opt Unit (l12.getRight?) fun b14 =>
                  .leaf (true))))
noncomputable def ref08_Right (q : Option Nat) (x0 : (List Int)) (x1 : (List Int)) : Option Bool := (Tref08_Right q x0 x1).run
theorem leref08_Right (k : Nat) (x0 : (List Int)) (x1 : (List Int)) : Le (ref08_Right (some k) x0 x1) (ref08_Right none x0 x1) := (TLe.opt Le.rfl fun _ => (TLe.ite TLe.rfl (TLe.opt (leLref08_Right_0 k _) fun _ => (TLe.ite TLe.rfl (TLe.opt Le.rfl fun _ => (TLe.opt (leLref08_Right_1 k _) fun _ => TLe.rfl))))))
noncomputable def Aref08_Right : Arg U ((List Int) × (List Int) × Unit) := aO (cSl 3) (aO (cSl 3) (aNil))
noncomputable def Rref08_Right (r : Bool) : List (V U) × List (Blk U) := ([vO cBool r], [])
noncomputable def Sref08_Right : List (V U) → List (Blk U) → Option (FnOut U) := mkSpec Aref08_Right bNil (fun x _ => ref08_Right none x.1 x.2.1) Rref08_Right
noncomputable def Pref08_Right_0 (x : ((List Int) × Unit) × ((List Int) × Unit) × (Int × Unit) × Unit) (_g : Unit) : Sref08_Right_0 := Sref08_Right_0.mk x.1.1 x.2.1.1 x.2.2.1.1
noncomputable def tAref08_Right_0 : Tms U (((List Int) × Unit) × ((List Int) × Unit) × (Int × Unit) × Unit) := tO 0 (cPair (cSl 3) (cUnit)) (tO 1 (cPair (cSl 3) (cUnit)) (tO 5 (cPair (cInt .i64) (cUnit)) (tNil)))
noncomputable def tBref08_Right_0 : Bls U (Unit) := bNil
noncomputable def eSref08_Right_0 (s : Sref08_Right_0) : St U := { tm := [(0, .v (vO (cPair (cSl 3) (cUnit)) (s.t0, ()))), (1, .v (vO (cPair (cSl 3) (cUnit)) (s.t1, ()))), (5, .v (vO (cPair (cInt .i64) (cUnit)) (s.t5, ())))], hp := [] }
noncomputable def xSref08_Right_0 : (((List Int) × (List Int) × Bool) ⊕ ((List Int) × (List Int))) → Ex × St U
  | .inl r => (.ret, { tm := [(0, .v (vO (cPair (cSl 3) (cUnit)) (r.1, ()))), (1, .v (vO (cPair (cSl 3) (cUnit)) (r.2.1, ()))), (4, .v (vO (cPair cBool (cUnit)) (r.2.2, ())))], hp := [] })
  | .inr r => (.exit 0, { tm := [(0, .v (vO (cPair (cSl 3) (cUnit)) (r.1, ()))), (1, .v (vO (cPair (cSl 3) (cUnit)) (r.2, ())))], hp := [] })
noncomputable def xTref08_Right_0 (y : (((List Int) × (List Int) × Bool) ⊕ ((List Int) × (List Int)))) : Tree (Ex × St U) := .ite y.isLeft (.opt ((List Int) × (List Int) × Bool) y.getLeft? fun r => .leaf (.ret, { tm := [(0, .v (vO (cPair (cSl 3) (cUnit)) (r.1, ()))), (1, .v (vO (cPair (cSl 3) (cUnit)) (r.2.1, ()))), (4, .v (vO (cPair cBool (cUnit)) (r.2.2, ())))], hp := [] })) (.opt ((List Int) × (List Int)) y.getRight? fun r => .leaf (.exit 0, { tm := [(0, .v (vO (cPair (cSl 3) (cUnit)) (r.1, ()))), (1, .v (vO (cPair (cSl 3) (cUnit)) (r.2, ())))], hp := [] }))
noncomputable def href08_Right_0 : Hd := { keep := [0, 1, 5], xkeep := [0, 1, 4], own := false }
noncomputable def Pref08_Right_1 (x : ((List Int) × Unit) × ((List Int) × Unit) × (Int × Unit) × Unit) (_g : Unit) : Sref08_Right_1 := Sref08_Right_1.mk x.1.1 x.2.1.1 x.2.2.1.1
noncomputable def tAref08_Right_1 : Tms U (((List Int) × Unit) × ((List Int) × Unit) × (Int × Unit) × Unit) := tO 0 (cPair (cSl 3) (cUnit)) (tO 1 (cPair (cSl 3) (cUnit)) (tO 6 (cPair (cInt .i64) (cUnit)) (tNil)))
noncomputable def tBref08_Right_1 : Bls U (Unit) := bNil
noncomputable def eSref08_Right_1 (s : Sref08_Right_1) : St U := { tm := [(0, .v (vO (cPair (cSl 3) (cUnit)) (s.t0, ()))), (1, .v (vO (cPair (cSl 3) (cUnit)) (s.t1, ()))), (6, .v (vO (cPair (cInt .i64) (cUnit)) (s.t6, ())))], hp := [] }
noncomputable def xSref08_Right_1 : (Bool ⊕ Unit) → Ex × St U
  | .inl r => (.ret, { tm := [(4, .v (vO (cPair cBool (cUnit)) (r, ())))], hp := [] })
  | .inr r => (.exit 2, { tm := [], hp := [] })
noncomputable def xTref08_Right_1 (y : (Bool ⊕ Unit)) : Tree (Ex × St U) := .ite y.isLeft (.opt Bool y.getLeft? fun r => .leaf (.ret, { tm := [(4, .v (vO (cPair cBool (cUnit)) (r, ())))], hp := [] })) (.opt Unit y.getRight? fun r => .leaf (.exit 2, { tm := [], hp := [] }))
noncomputable def href08_Right_1 : Hd := { keep := [0, 1, 6], xkeep := [4], own := false }
noncomputable def Eref08_Right : Env U := { P := Try.prog, cd := cd, fns := fns42, lps := (addL 0 href08_Right_0 (mkLoop tAref08_Right_0 tBref08_Right_0 Pref08_Right_0 (Lref08_Right_0 none) xTref08_Right_0) (addL 1 href08_Right_1 (mkLoop tAref08_Right_1 tBref08_Right_1 Pref08_Right_1 (Lref08_Right_1 none) xTref08_Right_1) noL)), frz := fun _r => false, nt := 75, n0 := 0 }
noncomputable def Bref08_Right_0 : Code := (loopAt (Try.f25.body.getD .skip) 0 0).getD .skip
theorem roundref08_Right_0 (s : Sref08_Right_0) : round Eref08_Right href08_Right_0 Bref08_Right_0 0 (eSref08_Right_0 s) = (Wref08_Right_0 s).map (sumE eSref08_Right_0 xSref08_Right_0) := by kernel_rfl
theorem lpref08_Right_0 : LpOk Eref08_Right Bref08_Right_0 0 := mkLoop_ok (A := tAref08_Right_0) (B := tBref08_Right_0) (f := Pref08_Right_0) (L := Lref08_Right_0 none) (tO_ok (cPair_ok (cSl_ok 3) cUnit_ok) (tO_ok (cPair_ok (cSl_ok 3) cUnit_ok) (tO_ok (cPair_ok (cInt_ok .i64) cUnit_ok) tNil_ok))) bNil_ok (enc := eSref08_Right_0) (out := xTref08_Right_0) (outS := xSref08_Right_0) (step := Wref08_Right_0) (fun _ => rfl) (fun _ _ => by kernel_rfl) (by kernel_rfl) (fun b => by cases b <;> rfl) roundref08_Right_0
noncomputable def Bref08_Right_1 : Code := (loopAt (Try.f25.body.getD .skip) 0 1).getD .skip
theorem roundref08_Right_1 (s : Sref08_Right_1) : round Eref08_Right href08_Right_1 Bref08_Right_1 1 (eSref08_Right_1 s) = (Wref08_Right_1 s).map (sumE eSref08_Right_1 xSref08_Right_1) := by kernel_rfl
theorem lpref08_Right_1 : LpOk Eref08_Right Bref08_Right_1 1 := mkLoop_ok (A := tAref08_Right_1) (B := tBref08_Right_1) (f := Pref08_Right_1) (L := Lref08_Right_1 none) (tO_ok (cPair_ok (cSl_ok 3) cUnit_ok) (tO_ok (cPair_ok (cSl_ok 3) cUnit_ok) (tO_ok (cPair_ok (cInt_ok .i64) cUnit_ok) tNil_ok))) bNil_ok (enc := eSref08_Right_1) (out := xTref08_Right_1) (outS := xSref08_Right_1) (step := Wref08_Right_1) (fun _ => rfl) (fun _ _ => by kernel_rfl) (by kernel_rfl) (fun b => by cases b <;> rfl) roundref08_Right_1
theorem runref08_Right (x : (List Int) × (List Int) × Unit) (g : Unit) : execF Eref08_Right Try.f25 (Aref08_Right.enc x) (bNil.enc g) = (Tref08_Right none x.1 x.2.1).map Rref08_Right := by kernel_rfl
theorem okref08_Right : FnOk Try.prog cd 25 Sref08_Right := mk_ok (E := Eref08_Right) cd_ok fns42_ok Try.func25 (by kernel_rfl) (loops_of (addL_ok lpref08_Right_0 (addL_ok lpref08_Right_1 noL_ok))) (aO_ok (cSl_ok 3) (aO_ok (cSl_ok 3) (aNil_ok))) bNil_ok (T := fun x _ => Tref08_Right none x.1 x.2.1) (fun _ _ => rfl) runref08_Right
noncomputable def fns25 := addF 25 true Sref08_Right fns42
theorem fns25_ok : ∀ f q t, fns25 f = some (q, t) → FnOk Try.prog cd f t := addF_ok okref08_Right fns42_ok
/-- emulator/emulatorlaw08.small -/
noncomputable def Tlaw08_small (q : Option Nat) (x0 : (List Int)) (x1 : (List Int)) : Tree Bool :=
  .ite (decide ((x0.length : Int) ≤ (2048 : Int)))
    (.ite (decide ((x1.length : Int) ≤ (2048 : Int)))
      (.opt Bool (ref08_Right q x0 x1) fun r15 =>
        .leaf (r15))
      (.leaf (false)))
    (.leaf (false))
noncomputable def law08_small (q : Option Nat) (x0 : (List Int)) (x1 : (List Int)) : Option Bool := (Tlaw08_small q x0 x1).run
theorem lelaw08_small (k : Nat) (x0 : (List Int)) (x1 : (List Int)) : Le (law08_small (some k) x0 x1) (law08_small none x0 x1) := (TLe.ite (TLe.ite (TLe.opt (leref08_Right k _ _) fun _ => TLe.rfl) TLe.rfl) TLe.rfl)
noncomputable def Alaw08_small : Arg U ((List Int) × (List Int) × Unit) := aO (cSl 3) (aO (cSl 3) (aNil))
noncomputable def Rlaw08_small (r : Bool) : List (V U) × List (Blk U) := ([vO cBool r], [])
noncomputable def Slaw08_small : List (V U) → List (Blk U) → Option (FnOut U) := mkSpec Alaw08_small bNil (fun x _ => law08_small none x.1 x.2.1) Rlaw08_small
noncomputable def Elaw08_small : Env U := { P := Try.prog, cd := cd, fns := fns25, lps := noL, frz := fun _r => false, nt := 18, n0 := 0 }
theorem runlaw08_small (x : (List Int) × (List Int) × Unit) (g : Unit) : execF Elaw08_small Try.f9 (Alaw08_small.enc x) (bNil.enc g) = (Tlaw08_small none x.1 x.2.1).map Rlaw08_small := by kernel_rfl
theorem oklaw08_small : FnOk Try.prog cd 9 Slaw08_small := mk_ok (E := Elaw08_small) cd_ok fns25_ok Try.func9 (by kernel_rfl) (noLoops_body (by kernel_rfl)) (aO_ok (cSl_ok 3) (aO_ok (cSl_ok 3) (aNil_ok))) bNil_ok (T := fun x _ => Tlaw08_small none x.1 x.2.1) (fun _ _ => rfl) runlaw08_small
noncomputable def fns9 := addF 9 true Slaw08_small fns25
theorem fns9_ok : ∀ f q t, fns9 f = some (q, t) → FnOk Try.prog cd f t := addF_ok oklaw08_small fns25_ok
/-- emulator/memory.misses -/
noncomputable def Tmemory_misses (x0 : (List Int)) (x1 : Int) (x2 : Bool) : Tree Bool :=
  .ite (!x2)
    (.ite (decide ((2 : Int) = 0))
      .fail
      (.ite (!decide (((x1).tmod (2 : Int)) = (0 : Int)))
        (.leaf (true))
        (.ite (decide (x1 < (0 : Int)))
          (.leaf (true))
          (.leaf (decide ((IntKind.wrap .i64 ((2 : Int) * (x0.length : Int))) ≤ x1))))))
    (.ite (decide (x1 < (0 : Int)))
      (.leaf (true))
      (.leaf (decide ((IntKind.wrap .i64 ((2 : Int) * (x0.length : Int))) ≤ x1))))
noncomputable def memory_misses (x0 : (List Int)) (x1 : Int) (x2 : Bool) : Option Bool := (Tmemory_misses x0 x1 x2).run
noncomputable def Amemory_misses : Arg U ((List Int) × Int × Bool × Unit) := aO (cSl 3) (aO (cInt .i64) (aO cBool (aNil)))
noncomputable def Rmemory_misses (r : Bool) : List (V U) × List (Blk U) := ([vO cBool r], [])
noncomputable def Smemory_misses : List (V U) → List (Blk U) → Option (FnOut U) := mkSpec Amemory_misses bNil (fun x _ => memory_misses x.1 x.2.1 x.2.2.1) Rmemory_misses
noncomputable def Ememory_misses : Env U := { P := Try.prog, cd := cd, fns := fns9, lps := noL, frz := fun _r => false, nt := 25, n0 := 0 }
theorem runmemory_misses (x : (List Int) × Int × Bool × Unit) (g : Unit) : execF Ememory_misses Try.f28 (Amemory_misses.enc x) (bNil.enc g) = (Tmemory_misses x.1 x.2.1 x.2.2.1).map Rmemory_misses := by kernel_rfl
theorem okmemory_misses : FnOk Try.prog cd 28 Smemory_misses := mk_ok (E := Ememory_misses) cd_ok fns9_ok Try.func28 (by kernel_rfl) (noLoops_body (by kernel_rfl)) (aO_ok (cSl_ok 3) (aO_ok (cInt_ok .i64) (aO_ok cBool_ok (aNil_ok)))) bNil_ok (T := fun x _ => Tmemory_misses x.1 x.2.1 x.2.2.1) (fun _ _ => rfl) runmemory_misses
noncomputable def fns28 := addF 28 true Smemory_misses fns9
theorem fns28_ok : ∀ f q t, fns28 f = some (q, t) → FnOk Try.prog cd f t := addF_ok okmemory_misses fns9_ok
/-- slices.Index[[]int,int] -/
structure Sslices_Index_int_int_0 where
  t0 : (List Int)
  t1 : Int
  t7 : Int
  t8 : Int
noncomputable def Wslices_Index_int_int_0 (s : Sslices_Index_int_int_0) : Tree (Sslices_Index_int_int_0 ⊕ (Int ⊕ Unit)) :=
  .ite (decide (s.t8 < s.t7))
    (.ite (decide (0 ≤ s.t8))
      (.opt Int (s.t0[(s.t8).toNat]?) fun y16 =>
        .ite (decide (s.t1 = y16))
          (.leaf (.inr (.inl s.t8)))
          (.leaf (.inl (Sslices_Index_int_int_0.mk s.t0 s.t1 s.t7 (IntKind.wrap .i64 (s.t8 + (1 : Int)))))))
      .fail)
    (.leaf (.inr (.inr ())))
noncomputable def Lslices_Index_int_int_0 (q : Option Nat) (s : Sslices_Index_int_int_0) : Option (Int ⊕ Unit) := limQ q (fun s => (Wslices_Index_int_int_0 s).run) s
theorem leLslices_Index_int_int_0 (k : Nat) (s : Sslices_Index_int_int_0) : Le (Lslices_Index_int_int_0 (some k) s) (Lslices_Index_int_int_0 none s) := limQ_le (fun _ => Le.rfl) s
noncomputable def Tslices_Index_int_int (q : Option Nat) (x0 : (List Int)) (x1 : Int) : Tree Int :=
  .opt (Int ⊕ Unit) (Lslices_Index_int_int_0 q (Sslices_Index_int_int_0.mk x0 x1 (x0.length : Int) (0 : Int))) fun l17 =>
    .ite (l17.isLeft)
      (.opt Int (l17.getLeft?) fun a18 =>
        .leaf (a18))
      (.opt Unit (l17.getRight?) fun b19 =>
        .leaf ((-1 : Int)))
noncomputable def slices_Index_int_int (q : Option Nat) (x0 : (List Int)) (x1 : Int) : Option Int := (Tslices_Index_int_int q x0 x1).run
theorem leslices_Index_int_int (k : Nat) (x0 : (List Int)) (x1 : Int) : Le (slices_Index_int_int (some k) x0 x1) (slices_Index_int_int none x0 x1) := (TLe.opt (leLslices_Index_int_int_0 k _) fun _ => TLe.rfl)
noncomputable def Aslices_Index_int_int : Arg U ((List Int) × Int × Unit) := aO (cSl 3) (aO (cInt .i64) (aNil))
noncomputable def Rslices_Index_int_int (r : Int) : List (V U) × List (Blk U) := ([vO (cInt .i64) r], [])
noncomputable def Sslices_Index_int_int : List (V U) → List (Blk U) → Option (FnOut U) := mkSpec Aslices_Index_int_int bNil (fun x _ => slices_Index_int_int none x.1 x.2.1) Rslices_Index_int_int
noncomputable def Pslices_Index_int_int_0 (x : ((List Int) × Unit) × (Int × Unit) × (Int × Unit) × (Int × Unit) × Unit) (_g : Unit) : Sslices_Index_int_int_0 := Sslices_Index_int_int_0.mk x.1.1 x.2.1.1 x.2.2.1.1 x.2.2.2.1.1
noncomputable def tAslices_Index_int_int_0 : Tms U (((List Int) × Unit) × (Int × Unit) × (Int × Unit) × (Int × Unit) × Unit) := tO 0 (cPair (cSl 3) (cUnit)) (tO 1 (cPair (cInt .i64) (cUnit)) (tO 7 (cPair (cInt .i64) (cUnit)) (tO 8 (cPair (cInt .i64) (cUnit)) (tNil))))
noncomputable def tBslices_Index_int_int_0 : Bls U (Unit) := bNil
noncomputable def eSslices_Index_int_int_0 (s : Sslices_Index_int_int_0) : St U := { tm := [(0, .v (vO (cPair (cSl 3) (cUnit)) (s.t0, ()))), (1, .v (vO (cPair (cInt .i64) (cUnit)) (s.t1, ()))), (7, .v (vO (cPair (cInt .i64) (cUnit)) (s.t7, ()))), (8, .v (vO (cPair (cInt .i64) (cUnit)) (s.t8, ())))], hp := [] }
noncomputable def xSslices_Index_int_int_0 : (Int ⊕ Unit) → Ex × St U
  | .inl r => (.ret, { tm := [(4, .v (vO (cPair (cInt .i64) (cUnit)) (r, ())))], hp := [] })
  | .inr r => (.exit 0, { tm := [], hp := [] })
noncomputable def xTslices_Index_int_int_0 (y : (Int ⊕ Unit)) : Tree (Ex × St U) := .ite y.isLeft (.opt Int y.getLeft? fun r => .leaf (.ret, { tm := [(4, .v (vO (cPair (cInt .i64) (cUnit)) (r, ())))], hp := [] })) (.opt Unit y.getRight? fun r => .leaf (.exit 0, { tm := [], hp := [] }))
noncomputable def hslices_Index_int_int_0 : Hd := { keep := [0, 1, 7, 8], xkeep := [4], own := false }
noncomputable def Eslices_Index_int_int : Env U := { P := Try.prog, cd := cd, fns := fns28, lps := (addL 0 hslices_Index_int_int_0 (mkLoop tAslices_Index_int_int_0 tBslices_Index_int_int_0 Pslices_Index_int_int_0 (Lslices_Index_int_int_0 none) xTslices_Index_int_int_0) noL), frz := fun _r => false, nt := 19, n0 := 0 }
noncomputable def Bslices_Index_int_int_0 : Code := (loopAt (Try.f45.body.getD .skip) 0 0).getD .skip
theorem roundslices_Index_int_int_0 (s : Sslices_Index_int_int_0) : round Eslices_Index_int_int hslices_Index_int_int_0 Bslices_Index_int_int_0 0 (eSslices_Index_int_int_0 s) = (Wslices_Index_int_int_0 s).map (sumE eSslices_Index_int_int_0 xSslices_Index_int_int_0) := by kernel_rfl
theorem lpslices_Index_int_int_0 : LpOk Eslices_Index_int_int Bslices_Index_int_int_0 0 := mkLoop_ok (A := tAslices_Index_int_int_0) (B := tBslices_Index_int_int_0) (f := Pslices_Index_int_int_0) (L := Lslices_Index_int_int_0 none) (tO_ok (cPair_ok (cSl_ok 3) cUnit_ok) (tO_ok (cPair_ok (cInt_ok .i64) cUnit_ok) (tO_ok (cPair_ok (cInt_ok .i64) cUnit_ok) (tO_ok (cPair_ok (cInt_ok .i64) cUnit_ok) tNil_ok)))) bNil_ok (enc := eSslices_Index_int_int_0) (out := xTslices_Index_int_int_0) (outS := xSslices_Index_int_int_0) (step := Wslices_Index_int_int_0) (fun _ => rfl) (fun _ _ => by kernel_rfl) (by kernel_rfl) (fun b => by cases b <;> rfl) roundslices_Index_int_int_0
theorem runslices_Index_int_int (x : (List Int) × Int × Unit) (g : Unit) : execF Eslices_Index_int_int Try.f45 (Aslices_Index_int_int.enc x) (bNil.enc g) = (Tslices_Index_int_int none x.1 x.2.1).map Rslices_Index_int_int := by kernel_rfl
theorem okslices_Index_int_int : FnOk Try.prog cd 45 Sslices_Index_int_int := mk_ok (E := Eslices_Index_int_int) cd_ok fns28_ok Try.func45 (by kernel_rfl) (loops_of (addL_ok lpslices_Index_int_int_0 noL_ok)) (aO_ok (cSl_ok 3) (aO_ok (cInt_ok .i64) (aNil_ok))) bNil_ok (T := fun x _ => Tslices_Index_int_int none x.1 x.2.1) (fun _ _ => rfl) runslices_Index_int_int
noncomputable def fns45 := addF 45 true Sslices_Index_int_int fns28
theorem fns45_ok : ∀ f q t, fns45 f = some (q, t) → FnOk Try.prog cd f t := addF_ok okslices_Index_int_int fns28_ok
/-- slices.Contains[[]int,int] -/
noncomputable def Tslices_Contains_int_int (q : Option Nat) (x0 : (List Int)) (x1 : Int) : Tree Bool :=
  .opt Int (slices_Index_int_int q x0 x1) fun r20 =>
    .leaf (decide ((0 : Int) ≤ r20))
noncomputable def slices_Contains_int_int (q : Option Nat) (x0 : (List Int)) (x1 : Int) : Option Bool := (Tslices_Contains_int_int q x0 x1).run
theorem leslices_Contains_int_int (k : Nat) (x0 : (List Int)) (x1 : Int) : Le (slices_Contains_int_int (some k) x0 x1) (slices_Contains_int_int none x0 x1) := (TLe.opt (leslices_Index_int_int k _ _) fun _ => TLe.rfl)
noncomputable def Aslices_Contains_int_int : Arg U ((List Int) × Int × Unit) := aO (cSl 3) (aO (cInt .i64) (aNil))
noncomputable def Rslices_Contains_int_int (r : Bool) : List (V U) × List (Blk U) := ([vO cBool r], [])
noncomputable def Sslices_Contains_int_int : List (V U) → List (Blk U) → Option (FnOut U) := mkSpec Aslices_Contains_int_int bNil (fun x _ => slices_Contains_int_int none x.1 x.2.1) Rslices_Contains_int_int
noncomputable def Eslices_Contains_int_int : Env U := { P := Try.prog, cd := cd, fns := fns45, lps := noL, frz := fun _r => false, nt := 9, n0 := 0 }
theorem runslices_Contains_int_int (x : (List Int) × Int × Unit) (g : Unit) : execF Eslices_Contains_int_int Try.f29 (Aslices_Contains_int_int.enc x) (bNil.enc g) = (Tslices_Contains_int_int none x.1 x.2.1).map Rslices_Contains_int_int := by kernel_rfl
theorem okslices_Contains_int_int : FnOk Try.prog cd 29 Sslices_Contains_int_int := mk_ok (E := Eslices_Contains_int_int) cd_ok fns45_ok Try.func29 (by kernel_rfl) (noLoops_body (by kernel_rfl)) (aO_ok (cSl_ok 3) (aO_ok (cInt_ok .i64) (aNil_ok))) bNil_ok (T := fun x _ => Tslices_Contains_int_int none x.1 x.2.1) (fun _ _ => rfl) runslices_Contains_int_int
noncomputable def fns29 := addF 29 true Sslices_Contains_int_int fns45
theorem fns29_ok : ∀ f q t, fns29 f = some (q, t) → FnOk Try.prog cd f t := addF_ok okslices_Contains_int_int fns45_ok
/-- emulator/memory.Read -/
noncomputable def Tmemory_Read (q : Option Nat) (x0 : (List Int)) (x1 : (List Int)) (x2 : Int) (x3 : Bool) : Tree (Int × Int) :=
  .opt Bool (memory_misses x0 x2 x3) fun r21 =>
    .ite (r21)
      (.leaf (((0 : Int), (1 : Int))))
      (.opt Bool (slices_Contains_int_int q x1 (IntKind.wrap .i64 (((BitVec.ofInt 64 x2 &&& ~~~BitVec.ofInt 64 (1 : Int)).toNat : Int)))) fun r22 =>
        .ite (r22)
          (.leaf (((0 : Int), (9 : Int))))
          (.ite (decide ((2 : Int) = 0))
            .fail
            (.ite (decide (0 ≤ IntKind.wrap .i64 ((x2).tdiv (2 : Int))))
              (.opt Int (x0[(IntKind.wrap .i64 ((x2).tdiv (2 : Int))).toNat]?) fun y23 =>
                .ite (x3)
                  (.ite (decide ((2 : Int) = 0))
                    .fail
                    (.ite (decide (0 ≤ (IntKind.wrap .i64 (((x2).tmod (2 : Int)) * (8 : Int)))))
                      (.leaf ((IntKind.wrap .i64 (((BitVec.ofInt 64 ((y23).fdiv (2 ^ (min ((IntKind.wrap .i64 (((x2).tmod (2 : Int)) * (8 : Int)))).toNat 64))) &&& BitVec.ofInt 64 (255 : Int)).toNat : Int)), (0 : Int))))
                      .fail))
                  (.leaf ((y23, (0 : Int)))))
              .fail)))
noncomputable def memory_Read (q : Option Nat) (x0 : (List Int)) (x1 : (List Int)) (x2 : Int) (x3 : Bool) : Option (Int × Int) := (Tmemory_Read q x0 x1 x2 x3).run
theorem lememory_Read (k : Nat) (x0 : (List Int)) (x1 : (List Int)) (x2 : Int) (x3 : Bool) : Le (memory_Read (some k) x0 x1 x2 x3) (memory_Read none x0 x1 x2 x3) := (TLe.opt Le.rfl fun _ => (TLe.ite TLe.rfl (TLe.opt (leslices_Contains_int_int k _ _) fun _ => TLe.rfl)))
noncomputable def Amemory_Read : Arg U ((List Int) × (List Int) × Int × Bool × Unit) := aO (cSl 3) (aO (cSl 3) (aO (cInt .i64) (aO cBool (aNil))))
noncomputable def Rmemory_Read (r : (Int × Int)) : List (V U) × List (Blk U) := ([vO (cInt .i64) r.1, vO (cInt .i64) r.2], [])
noncomputable def Smemory_Read : List (V U) → List (Blk U) → Option (FnOut U) := mkSpec Amemory_Read bNil (fun x _ => memory_Read none x.1 x.2.1 x.2.2.1 x.2.2.2.1) Rmemory_Read
noncomputable def Ememory_Read : Env U := { P := Try.prog, cd := cd, fns := fns29, lps := noL, frz := fun _r => false, nt := 32, n0 := 0 }
theorem runmemory_Read (x : (List Int) × (List Int) × Int × Bool × Unit) (g : Unit) : execF Ememory_Read Try.f10 (Amemory_Read.enc x) (bNil.enc g) = (Tmemory_Read none x.1 x.2.1 x.2.2.1 x.2.2.2.1).map Rmemory_Read := by kernel_rfl
theorem okmemory_Read : FnOk Try.prog cd 10 Smemory_Read := mk_ok (E := Ememory_Read) cd_ok fns29_ok Try.func10 (by kernel_rfl) (noLoops_body (by kernel_rfl)) (aO_ok (cSl_ok 3) (aO_ok (cSl_ok 3) (aO_ok (cInt_ok .i64) (aO_ok cBool_ok (aNil_ok))))) bNil_ok (T := fun x _ => Tmemory_Read none x.1 x.2.1 x.2.2.1 x.2.2.2.1) (fun _ _ => rfl) runmemory_Read
noncomputable def fns10 := addF 10 true Smemory_Read fns29
theorem fns10_ok : ∀ f q t, fns10 f = some (q, t) → FnOk Try.prog cd f t := addF_ok okmemory_Read fns29_ok
/-- emulator/emulatorref08.access -/
noncomputable def Tref08_access (x0 : (List Int)) (x1 : Int) (x2 : Bool) : Tree Int :=
  .ite (decide (x1 < (0 : Int)))
    (.leaf ((1 : Int)))
    (.ite (decide ((IntKind.wrap .i64 ((2 : Int) * (x0.length : Int))) ≤ x1))
      (.leaf ((1 : Int)))
      (.ite (!x2)
        (.ite (decide ((2 : Int) = 0))
          .fail
          (.ite (!decide (((x1).tmod (2 : Int)) = (0 : Int)))
            (.leaf ((1 : Int)))
            (.leaf ((0 : Int)))))
        (.leaf ((0 : Int)))))
noncomputable def ref08_access (x0 : (List Int)) (x1 : Int) (x2 : Bool) : Option Int := (Tref08_access x0 x1 x2).run
noncomputable def Aref08_access : Arg U ((List Int) × Int × Bool × Unit) := aO (cSl 3) (aO (cInt .i64) (aO cBool (aNil)))
noncomputable def Rref08_access (r : Int) : List (V U) × List (Blk U) := ([vO (cInt .i64) r], [])
noncomputable def Sref08_access : List (V U) → List (Blk U) → Option (FnOut U) := mkSpec Aref08_access bNil (fun x _ => ref08_access x.1 x.2.1 x.2.2.1) Rref08_access
noncomputable def Eref08_access : Env U := { P := Try.prog, cd := cd, fns := fns10, lps := noL, frz := fun _r => false, nt := 25, n0 := 0 }
theorem runref08_access (x : (List Int) × Int × Bool × Unit) (g : Unit) : execF Eref08_access Try.f30 (Aref08_access.enc x) (bNil.enc g) = (Tref08_access x.1 x.2.1 x.2.2.1).map Rref08_access := by kernel_rfl
theorem okref08_access : FnOk Try.prog cd 30 Sref08_access := mk_ok (E := Eref08_access) cd_ok fns10_ok Try.func30 (by kernel_rfl) (noLoops_body (by kernel_rfl)) (aO_ok (cSl_ok 3) (aO_ok (cInt_ok .i64) (aO_ok cBool_ok (aNil_ok)))) bNil_ok (T := fun x _ => Tref08_access x.1 x.2.1 x.2.2.1) (fun _ _ => rfl) runref08_access
noncomputable def fns30 := addF 30 true Sref08_access fns10
theorem fns30_ok : ∀ f q t, fns30 f = some (q, t) → FnOk Try.prog cd f t := addF_ok okref08_access fns10_ok
/-- emulator/emulatorref08.Has -/
structure Sref08_Has_0 where
  t0 : (List Int)
  t1 : Int
  t5 : Int
noncomputable def Wref08_Has_0 (s : Sref08_Has_0) : Tree (Sref08_Has_0 ⊕ (Bool ⊕ Unit)) :=
  .ite (decide (s.t5 < (s.t0.length : Int)))
    (.ite (decide (0 ≤ s.t5))
      (.opt Int (s.t0[(s.t5).toNat]?) fun y24 =>
        .ite (decide (y24 = s.t1))
          (.leaf (.inr (.inl true)))
          (.leaf (.inl (Sref08_Has_0.mk s.t0 s.t1 (IntKind.wrap .i64 (s.t5 + (1 : Int)))))))
      .fail)
    (.leaf (.inr (.inr ())))
noncomputable def Lref08_Has_0 (q : Option Nat) (s : Sref08_Has_0) : Option (Bool ⊕ Unit) := limQ q (fun s => (Wref08_Has_0 s).run) s
theorem leLref08_Has_0 (k : Nat) (s : Sref08_Has_0) : Le (Lref08_Has_0 (some k) s) (Lref08_Has_0 none s) := limQ_le (fun _ => Le.rfl) s
noncomputable def Tref08_Has (q : Option Nat) (x0 : (List Int)) (x1 : Int) : Tree Bool :=
  .opt (Bool ⊕ Unit) (Lref08_Has_0 q (Sref08_Has_0.mk x0 x1 (0 : Int))) fun l25 =>
    .ite (l25.isLeft)
      (.opt Bool (l25.getLeft?) fun a26 =>
        .leaf (a26))
      (.opt Unit (l25.getRight?) fun b27 =>
        .leaf (false))
noncomputable def ref08_Has (q : Option Nat) (x0 : (List Int)) (x1 : Int) : Option Bool := (Tref08_Has q x0 x1).run
theorem leref08_Has (k : Nat) (x0 : (List Int)) (x1 : Int) : Le (ref08_Has (some k) x0 x1) (ref08_Has none x0 x1) := (TLe.opt (leLref08_Has_0 k _) fun _ => TLe.rfl)
noncomputable def Aref08_Has : Arg U ((List Int) × Int × Unit) := aO (cSl 3) (aO (cInt .i64) (aNil))
noncomputable def Rref08_Has (r : Bool) : List (V U) × List (Blk U) := ([vO cBool r], [])
noncomputable def Sref08_Has : List (V U) → List (Blk U) → Option (FnOut U) := mkSpec Aref08_Has bNil (fun x _ => ref08_Has none x.1 x.2.1) Rref08_Has
noncomputable def Pref08_Has_0 (x : ((List Int) × Unit) × (Int × Unit) × (Int × Unit) × Unit) (_g : Unit) : Sref08_Has_0 := Sref08_Has_0.mk x.1.1 x.2.1.1 x.2.2.1.1
noncomputable def tAref08_Has_0 : Tms U (((List Int) × Unit) × (Int × Unit) × (Int × Unit) × Unit) := tO 0 (cPair (cSl 3) (cUnit)) (tO 1 (cPair (cInt .i64) (cUnit)) (tO 5 (cPair (cInt .i64) (cUnit)) (tNil)))
noncomputable def tBref08_Has_0 : Bls U (Unit) := bNil
noncomputable def eSref08_Has_0 (s : Sref08_Has_0) : St U := { tm := [(0, .v (vO (cPair (cSl 3) (cUnit)) (s.t0, ()))), (1, .v (vO (cPair (cInt .i64) (cUnit)) (s.t1, ()))), (5, .v (vO (cPair (cInt .i64) (cUnit)) (s.t5, ())))], hp := [] }
noncomputable def xSref08_Has_0 : (Bool ⊕ Unit) → Ex × St U
  | .inl r => (.ret, { tm := [(4, .v (vO (cPair cBool (cUnit)) (r, ())))], hp := [] })
  | .inr r => (.exit 0, { tm := [], hp := [] })
noncomputable def xTref08_Has_0 (y : (Bool ⊕ Unit)) : Tree (Ex × St U) := .ite y.isLeft (.opt Bool y.getLeft? fun r => .leaf (.ret, { tm := [(4, .v (vO (cPair cBool (cUnit)) (r, ())))], hp := [] })) (.opt Unit y.getRight? fun r => .leaf (.exit 0, { tm := [], hp := [] }))
noncomputable def href08_Has_0 : Hd := { keep := [0, 1, 5], xkeep := [4], own := false }
noncomputable def Eref08_Has : Env U := { P := Try.prog, cd := cd, fns := fns30, lps := (addL 0 href08_Has_0 (mkLoop tAref08_Has_0 tBref08_Has_0 Pref08_Has_0 (Lref08_Has_0 none) xTref08_Has_0) noL), frz := fun _r => false, nt := 18, n0 := 0 }
noncomputable def Bref08_Has_0 : Code := (loopAt (Try.f31.body.getD .skip) 0 0).getD .skip
theorem roundref08_Has_0 (s : Sref08_Has_0) : round Eref08_Has href08_Has_0 Bref08_Has_0 0 (eSref08_Has_0 s) = (Wref08_Has_0 s).map (sumE eSref08_Has_0 xSref08_Has_0) := by kernel_rfl
theorem lpref08_Has_0 : LpOk Eref08_Has Bref08_Has_0 0 := mkLoop_ok (A := tAref08_Has_0) (B := tBref08_Has_0) (f := Pref08_Has_0) (L := Lref08_Has_0 none) (tO_ok (cPair_ok (cSl_ok 3) cUnit_ok) (tO_ok (cPair_ok (cInt_ok .i64) cUnit_ok) (tO_ok (cPair_ok (cInt_ok .i64) cUnit_ok) tNil_ok))) bNil_ok (enc := eSref08_Has_0) (out := xTref08_Has_0) (outS := xSref08_Has_0) (step := Wref08_Has_0) (fun _ => rfl) (fun _ _ => by kernel_rfl) (by kernel_rfl) (fun b => by cases b <;> rfl) roundref08_Has_0
theorem runref08_Has (x : (List Int) × Int × Unit) (g : Unit) : execF Eref08_Has Try.f31 (Aref08_Has.enc x) (bNil.enc g) = (Tref08_Has none x.1 x.2.1).map Rref08_Has := by kernel_rfl
theorem okref08_Has : FnOk Try.prog cd 31 Sref08_Has := mk_ok (E := Eref08_Has) cd_ok fns30_ok Try.func31 (by kernel_rfl) (loops_of (addL_ok lpref08_Has_0 noL_ok)) (aO_ok (cSl_ok 3) (aO_ok (cInt_ok .i64) (aNil_ok))) bNil_ok (T := fun x _ => Tref08_Has none x.1 x.2.1) (fun _ _ => rfl) runref08_Has
noncomputable def fns31 := addF 31 true Sref08_Has fns30
theorem fns31_ok : ∀ f q t, fns31 f = some (q, t) → FnOk Try.prog cd f t := addF_ok okref08_Has fns30_ok
/-- emulator/emulatorref08.Byte -/
noncomputable def Tref08_Byte (x0 : (List Int)) (x1 : Int) : Tree Int :=
  .ite (decide ((2 : Int) = 0))
    .fail
    (.ite (decide (((x1).tmod (2 : Int)) = (0 : Int)))
      (.ite (decide ((2 : Int) = 0))
        .fail
        (.ite (decide (0 ≤ IntKind.wrap .i64 ((x1).tdiv (2 : Int))))
          (.opt Int (x0[(IntKind.wrap .i64 ((x1).tdiv (2 : Int))).toNat]?) fun y28 =>
            .leaf (IntKind.wrap .i64 (((BitVec.ofInt 64 y28 &&& BitVec.ofInt 64 (255 : Int)).toNat : Int))))
          .fail))
      (.ite (decide ((2 : Int) = 0))
        .fail
        (.ite (decide (0 ≤ IntKind.wrap .i64 ((x1).tdiv (2 : Int))))
          (.opt Int (x0[(IntKind.wrap .i64 ((x1).tdiv (2 : Int))).toNat]?) fun y29 =>
            .ite (decide (0 ≤ (8 : Int)))
              (.leaf (IntKind.wrap .i64 (((BitVec.ofInt 64 ((y29).fdiv (2 ^ (min ((8 : Int)).toNat 64))) &&& BitVec.ofInt 64 (255 : Int)).toNat : Int))))
              .fail)
          .fail)))
noncomputable def ref08_Byte (x0 : (List Int)) (x1 : Int) : Option Int := (Tref08_Byte x0 x1).run
noncomputable def Aref08_Byte : Arg U ((List Int) × Int × Unit) := aO (cSl 3) (aO (cInt .i64) (aNil))
noncomputable def Rref08_Byte (r : Int) : List (V U) × List (Blk U) := ([vO (cInt .i64) r], [])
noncomputable def Sref08_Byte : List (V U) → List (Blk U) → Option (FnOut U) := mkSpec Aref08_Byte bNil (fun x _ => ref08_Byte x.1 x.2.1) Rref08_Byte
noncomputable def Eref08_Byte : Env U := { P := Try.prog, cd := cd, fns := fns31, lps := noL, frz := fun _r => false, nt := 21, n0 := 0 }
theorem runref08_Byte (x : (List Int) × Int × Unit) (g : Unit) : execF Eref08_Byte Try.f32 (Aref08_Byte.enc x) (bNil.enc g) = (Tref08_Byte x.1 x.2.1).map Rref08_Byte := by kernel_rfl
theorem okref08_Byte : FnOk Try.prog cd 32 Sref08_Byte := mk_ok (E := Eref08_Byte) cd_ok fns31_ok Try.func32 (by kernel_rfl) (noLoops_body (by kernel_rfl)) (aO_ok (cSl_ok 3) (aO_ok (cInt_ok .i64) (aNil_ok))) bNil_ok (T := fun x _ => Tref08_Byte x.1 x.2.1) (fun _ _ => rfl) runref08_Byte
noncomputable def fns32 := addF 32 true Sref08_Byte fns31
theorem fns32_ok : ∀ f q t, fns32 f = some (q, t) → FnOk Try.prog cd f t := addF_ok okref08_Byte fns31_ok
/-- emulator/emulatorref08.Read -/
noncomputable def Tref08_Read (q : Option Nat) (x0 : (List Int)) (x1 : (List Int)) (x2 : Int) (x3 : Bool) : Tree (Int × Int) :=
  .opt Int (ref08_access x0 x2 x3) fun r30 =>
    .ite (!decide (r30 = (0 : Int)))
      (.leaf (((0 : Int), r30)))
      (.ite (decide ((2 : Int) = 0))
        .fail
        (.opt Bool (ref08_Has q x1 (IntKind.wrap .i64 (x2 - ((x2).tmod (2 : Int))))) fun r31 =>
          .ite (r31)
            (.leaf (((0 : Int), (9 : Int))))
            (.ite (x3)
              (.opt Int (ref08_Byte x0 x2) fun r32 =>
                .leaf ((r32, (0 : Int))))
              (.ite (decide ((2 : Int) = 0))
                .fail
                (.ite (decide (0 ≤ IntKind.wrap .i64 ((x2).tdiv (2 : Int))))
                  (.opt Int (x0[(IntKind.wrap .i64 ((x2).tdiv (2 : Int))).toNat]?) fun y33 =>
                    .leaf ((y33, (0 : Int))))
                  .fail)))))
noncomputable def ref08_Read (q : Option Nat) (x0 : (List Int)) (x1 : (List Int)) (x2 : Int) (x3 : Bool) : Option (Int × Int) := (Tref08_Read q x0 x1 x2 x3).run
theorem leref08_Read (k : Nat) (x0 : (List Int)) (x1 : (List Int)) (x2 : Int) (x3 : Bool) : Le (ref08_Read (some k) x0 x1 x2 x3) (ref08_Read none x0 x1 x2 x3) := (TLe.opt Le.rfl fun _ => (TLe.ite TLe.rfl (TLe.ite TLe.rfl (TLe.opt (leref08_Has k _ _) fun _ => TLe.rfl))))
noncomputable def Aref08_Read : Arg U ((List Int) × (List Int) × Int × Bool × Unit) := aO (cSl 3) (aO (cSl 3) (aO (cInt .i64) (aO cBool (aNil))))
noncomputable def Rref08_Read (r : (Int × Int)) : List (V U) × List (Blk U) := ([vO (cInt .i64) r.1, vO (cInt .i64) r.2], [])
noncomputable def Sref08_Read : List (V U) → List (Blk U) → Option (FnOut U) := mkSpec Aref08_Read bNil (fun x _ => ref08_Read none x.1 x.2.1 x.2.2.1 x.2.2.2.1) Rref08_Read
noncomputable def Eref08_Read : Env U := { P := Try.prog, cd := cd, fns := fns32, lps := noL, frz := fun _r => false, nt := 33, n0 := 0 }
theorem runref08_Read (x : (List Int) × (List Int) × Int × Bool × Unit) (g : Unit) : execF Eref08_Read Try.f11 (Aref08_Read.enc x) (bNil.enc g) = (Tref08_Read none x.1 x.2.1 x.2.2.1 x.2.2.2.1).map Rref08_Read := by kernel_rfl
theorem okref08_Read : FnOk Try.prog cd 11 Sref08_Read := mk_ok (E := Eref08_Read) cd_ok fns32_ok Try.func11 (by kernel_rfl) (noLoops_body (by kernel_rfl)) (aO_ok (cSl_ok 3) (aO_ok (cSl_ok 3) (aO_ok (cInt_ok .i64) (aO_ok cBool_ok (aNil_ok))))) bNil_ok (T := fun x _ => Tref08_Read none x.1 x.2.1 x.2.2.1 x.2.2.2.1) (fun _ _ => rfl) runref08_Read
noncomputable def fns11 := addF 11 true Sref08_Read fns32
theorem fns11_ok : ∀ f q t, fns11 f = some (q, t) → FnOk Try.prog cd f t := addF_ok okref08_Read fns32_ok
/-- emulator/memory.copied -/
noncomputable def Tmemory_copied (x0 : (List Int)) : Tree (List Int) :=
  .ite (decide ((x0.length : Int) = (x0.length : Int)))
    (.ite (decide (0 ≤ (x0.length : Int)))
      (.ite (decide ((8 : Int) * (x0.length : Int) ≤ 281474976710656))
        (.leaf (x0.take (List.replicate ((x0.length : Int)).toNat (0 : Int)).length ++ (List.replicate ((x0.length : Int)).toNat (0 : Int)).drop x0.length))
        .fail)
      .fail)
    .fail
noncomputable def memory_copied (x0 : (List Int)) : Option (List Int) := (Tmemory_copied x0).run
noncomputable def Amemory_copied : Arg U ((List Int) × Unit) := aO (cSl 3) (aNil)
noncomputable def Gmemory_copied : Bls U (Unit) := bNil
noncomputable def Rmemory_copied (_x : (List Int) × Unit) (_g : Unit) (r : (List Int)) : List (V U) × List (Blk U) := ([vO (cK (.row 0 0) (cUnit)) (())], [.row 3 0 r])
noncomputable def Smemory_copied : List (V U) → List (Blk U) → Option (FnOut U) := mkSpecG Amemory_copied Gmemory_copied (fun x _ => memory_copied x.1) Rmemory_copied
noncomputable def Ememory_copied : Env U := { P := Try.prog, cd := cd, fns := fns11, lps := noL, frz := fun _r => false, nt := 11, n0 := 0 }
theorem rnmemory_copied (x0 : (List Int)) : execX true Ememory_copied Try.f33 (Amemory_copied.enc (x0, ())) (Gmemory_copied.enc ()) = (Tmemory_copied x0).map (Rmemory_copied (x0, ()) ()) := by kernel_rfl
theorem runmemory_copied : ∀ (x : (List Int) × Unit) (g : Unit), execX true Ememory_copied Try.f33 (Amemory_copied.enc x) (Gmemory_copied.enc g) = (Tmemory_copied x.1).map (Rmemory_copied x g)
  | (x0, ()), () => rnmemory_copied x0
theorem okmemory_copied : FnOk Try.prog cd 33 Smemory_copied := mk_okG (E := Ememory_copied) (A := Amemory_copied) (B := Gmemory_copied) true cd_ok fns11_ok Try.func33 (by kernel_rfl) (noLoops_body (by kernel_rfl)) (aO_ok (cSl_ok 3) (aNil_ok)) bNil_ok (T := fun (x : (List Int) × Unit) (_ : Unit) => Tmemory_copied x.1) (fun _ _ => rfl) runmemory_copied
end Go.Proofs.Ytnhhimlienefkaa
namespace Go.Proofs
shelf_lay_g SlLaysE0.n41 Slgn 41 at Try 35 as Try.lays35
end Go.Proofs
namespace Go.Proofs.Ytnhhimlienefkaa
open Go Go.Ab
theorem okslices_Clone_int_int : FnOk Try.prog cd 35 (cloneSpec 3 8) := clone_ok2 cd_ok Try.lays35 Try.func35 (by kernel_rfl) (by kernel_rfl) rfl rfl (by kernel_rfl)
/-- emulator/memory.Write$1 -/
noncomputable def Tmemory_Write_1 (x0 : Int) (g0 : Int) : Tree Bool :=
  .leaf (decide (x0 = (IntKind.wrap .i64 (((BitVec.ofInt 64 g0 &&& ~~~BitVec.ofInt 64 (1 : Int)).toNat : Int)))))
noncomputable def memory_Write_1 (x0 : Int) (g0 : Int) : Option Bool := (Tmemory_Write_1 x0 g0).run
noncomputable def Amemory_Write_1 : Arg U (Int × Unit) := aO (cInt .i64) (aP 0 0 (aNil))
noncomputable def Gmemory_Write_1 : Bls U (Int × Unit) := bC (cInt .i64) (bNil)
noncomputable def Rmemory_Write_1 (_x : Int × Unit) (g : Int × Unit) (r : Bool) : List (V U) × List (Blk U) := ([vO (cPair cBool (cUnit)) (r, ())], [.cells (((cInt .i64) : Cdc U Int).enc g.1)])
noncomputable def Smemory_Write_1 : List (V U) → List (Blk U) → Option (FnOut U) := mkSpecG Amemory_Write_1 Gmemory_Write_1 (fun x g => memory_Write_1 x.1 g.1) Rmemory_Write_1
noncomputable def Ememory_Write_1 : Env U := { P := Try.prog, cd := cd, fns := fns11, lps := noL, frz := fun _r => false, nt := 8, n0 := 1 }
theorem rnmemory_Write_1 (x0 : Int) (g0 : Int) : execX false Ememory_Write_1 Try.f36 (Amemory_Write_1.enc (x0, ())) (Gmemory_Write_1.enc (g0, ())) = (Tmemory_Write_1 x0 g0).map (Rmemory_Write_1 (x0, ()) (g0, ())) := by kernel_rfl
theorem runmemory_Write_1 : ∀ (x : Int × Unit) (g : Int × Unit), execX false Ememory_Write_1 Try.f36 (Amemory_Write_1.enc x) (Gmemory_Write_1.enc g) = (Tmemory_Write_1 x.1 g.1).map (Rmemory_Write_1 x g)
  | (x0, ()), (g0, ()) => rnmemory_Write_1 x0 g0
theorem okmemory_Write_1 : FnOk Try.prog cd 36 Smemory_Write_1 := mk_okG (E := Ememory_Write_1) (A := Amemory_Write_1) (B := Gmemory_Write_1) false cd_ok fns11_ok Try.func36 (by kernel_rfl) (noLoops_body (by kernel_rfl)) (aO_ok (cInt_ok .i64) (aP_ok (aNil_ok))) (bC_ok (cInt_ok .i64) bNil_ok) (T := fun (x : Int × Unit) (g : Int × Unit) => Tmemory_Write_1 x.1 g.1) (fun _ _ => rfl) runmemory_Write_1
/-- slices.IndexFunc[[]int,int] -/
structure Sslices_IndexFunc_int_int_0 where
  t7 : Int
  t8 : Int
  b0 : (List Int)
  b1_0 : Int
noncomputable def Wslices_IndexFunc_int_int_0 (s : Sslices_IndexFunc_int_int_0) : Tree (Sslices_IndexFunc_int_int_0 ⊕ ((Int × (List Int) × Int) ⊕ ((List Int) × Int))) :=
  .ite (decide (s.t8 < s.t7))
    (.ite (decide (0 ≤ s.t8))
      (.ite (decide (s.t8 < (s.b0.length : Int)))
        (.opt Int (s.b0[(s.t8).toNat]?) fun y46 =>
          .opt Bool (memory_Write_1 y46 s.b1_0) fun r47 =>
            .ite (r47)
              (.leaf (.inr (.inl (s.t8, s.b0, s.b1_0))))
              (.leaf (.inl (Sslices_IndexFunc_int_int_0.mk s.t7 (IntKind.wrap .i64 (s.t8 + (1 : Int))) s.b0 s.b1_0))))
        .fail)
      .fail)
    (.leaf (.inr (.inr (s.b0, s.b1_0))))
noncomputable def Lslices_IndexFunc_int_int_0 (q : Option Nat) (s : Sslices_IndexFunc_int_int_0) : Option ((Int × (List Int) × Int) ⊕ ((List Int) × Int)) := limQ q (fun s => (Wslices_IndexFunc_int_int_0 s).run) s
theorem leLslices_IndexFunc_int_int_0 (k : Nat) (s : Sslices_IndexFunc_int_int_0) : Le (Lslices_IndexFunc_int_int_0 (some k) s) (Lslices_IndexFunc_int_int_0 none s) := limQ_le (fun _ => Le.rfl) s
noncomputable def Tslices_IndexFunc_int_int (q : Option Nat) (g0 : (List Int)) (g1 : Int) : Tree (Int × (List Int) × Int) :=
  .opt ((Int × (List Int) × Int) ⊕ ((List Int) × Int)) (Lslices_IndexFunc_int_int_0 q (Sslices_IndexFunc_int_int_0.mk (g0.length : Int) (0 : Int) g0 g1)) fun l48 =>
    .ite (l48.isLeft)
      (.opt (Int × (List Int) × Int) (l48.getLeft?) fun a49 =>
        .leaf ((a49.1, a49.2.1, a49.2.2)))
      (.opt ((List Int) × Int) (l48.getRight?) fun b50 =>
        .leaf (((-1 : Int), b50.1, b50.2)))
noncomputable def slices_IndexFunc_int_int (q : Option Nat) (g0 : (List Int)) (g1 : Int) : Option (Int × (List Int) × Int) := (Tslices_IndexFunc_int_int q g0 g1).run
theorem leslices_IndexFunc_int_int (k : Nat) (g0 : (List Int)) (g1 : Int) : Le (slices_IndexFunc_int_int (some k) g0 g1) (slices_IndexFunc_int_int none g0 g1) := (TLe.opt (leLslices_IndexFunc_int_int_0 k _) fun _ => TLe.rfl)
noncomputable def Aslices_IndexFunc_int_int : Arg U (Unit) := aR 0 (aF 36 [(.ptr 1 0)] (aNil))
noncomputable def Gslices_IndexFunc_int_int : Bls U ((List Int) × Int × Unit) := bR 3 (bC (cInt .i64) (bNil))
noncomputable def Rslices_IndexFunc_int_int (_x : Unit) (_g : (List Int) × Int × Unit) (r : (Int × (List Int) × Int)) : List (V U) × List (Blk U) := ([vO (cPair (cInt .i64) (cUnit)) (r.1, ())], [.row 3 0 r.2.1, .cells ((cPair (cInt .i64) (cUnit) : Cdc U (Int × Unit)).enc (r.2.2, ()))])
noncomputable def Sslices_IndexFunc_int_int : List (V U) → List (Blk U) → Option (FnOut U) := mkSpecG Aslices_IndexFunc_int_int Gslices_IndexFunc_int_int (fun x g => slices_IndexFunc_int_int none g.1 g.2.1) Rslices_IndexFunc_int_int
noncomputable def Pslices_IndexFunc_int_int_0 (x : (Unit) × (Unit) × (Int × Unit) × (Int × Unit) × Unit) (g : (List Int) × (Int × Unit) × Unit) : Sslices_IndexFunc_int_int_0 := Sslices_IndexFunc_int_int_0.mk x.2.2.1.1 x.2.2.2.1.1 g.1 g.2.1.1
noncomputable def tAslices_IndexFunc_int_int_0 : Tms U ((Unit) × (Unit) × (Int × Unit) × (Int × Unit) × Unit) := tO 0 (cK (.row 0 0) (cUnit)) (tO 1 (cK2 (.fn 36 [] [(.ptr 1 0)]) (cUnit)) (tO 7 (cPair (cInt .i64) (cUnit)) (tO 8 (cPair (cInt .i64) (cUnit)) (tNil))))
noncomputable def tBslices_IndexFunc_int_int_0 : Bls U ((List Int) × (Int × Unit) × Unit) := bRv 3 0 (bC (cPair (cInt .i64) (cUnit)) (bNil))
noncomputable def eSslices_IndexFunc_int_int_0 (s : Sslices_IndexFunc_int_int_0) : St U := { tm := [(0, .v (vO (cK (.row 0 0) (cUnit)) (()))), (1, .v (vO (cK2 (.fn 36 [] [(.ptr 1 0)]) (cUnit)) (()))), (7, .v (vO (cPair (cInt .i64) (cUnit)) (s.t7, ()))), (8, .v (vO (cPair (cInt .i64) (cUnit)) (s.t8, ())))], hp := [.row 3 0 s.b0, .cells ((cPair (cInt .i64) (cUnit) : Cdc U (Int × Unit)).enc (s.b1_0, ()))] }
noncomputable def xSslices_IndexFunc_int_int_0 : ((Int × (List Int) × Int) ⊕ ((List Int) × Int)) → Ex × St U
  | .inl r => (.ret, { tm := [(4, .v (vO (cPair (cInt .i64) (cUnit)) (r.1, ())))], hp := [.row 3 0 r.2.1, .cells ((cPair (cInt .i64) (cUnit) : Cdc U (Int × Unit)).enc (r.2.2, ()))] })
  | .inr r => (.exit 0, { tm := [], hp := [.row 3 0 r.1, .cells ((cPair (cInt .i64) (cUnit) : Cdc U (Int × Unit)).enc (r.2, ()))] })
noncomputable def xTslices_IndexFunc_int_int_0 (y : ((Int × (List Int) × Int) ⊕ ((List Int) × Int))) : Tree (Ex × St U) := .ite y.isLeft (.opt (Int × (List Int) × Int) y.getLeft? fun r => .leaf (.ret, { tm := [(4, .v (vO (cPair (cInt .i64) (cUnit)) (r.1, ())))], hp := [.row 3 0 r.2.1, .cells ((cPair (cInt .i64) (cUnit) : Cdc U (Int × Unit)).enc (r.2.2, ()))] })) (.opt ((List Int) × Int) y.getRight? fun r => .leaf (.exit 0, { tm := [], hp := [.row 3 0 r.1, .cells ((cPair (cInt .i64) (cUnit) : Cdc U (Int × Unit)).enc (r.2, ()))] }))
noncomputable def hslices_IndexFunc_int_int_0 : Hd := { keep := [0, 1, 7, 8], xkeep := [4], own := false }
noncomputable def Eslices_IndexFunc_int_int : Env U := { P := Try.prog, cd := cd, fns := (addF 36 false (Smemory_Write_1) fns11), lps := (addL 0 hslices_IndexFunc_int_int_0 (mkLoop tAslices_IndexFunc_int_int_0 tBslices_IndexFunc_int_int_0 Pslices_IndexFunc_int_int_0 (Lslices_IndexFunc_int_int_0 none) xTslices_IndexFunc_int_int_0) noL), frz := fun _r => false, nt := 19, n0 := 2 }
noncomputable def Bslices_IndexFunc_int_int_0 : Code := (loopAt (Try.f46.body.getD .skip) 0 0).getD .skip
theorem roundslices_IndexFunc_int_int_0 (s : Sslices_IndexFunc_int_int_0) : round Eslices_IndexFunc_int_int hslices_IndexFunc_int_int_0 Bslices_IndexFunc_int_int_0 0 (eSslices_IndexFunc_int_int_0 s) = (Wslices_IndexFunc_int_int_0 s).map (sumE eSslices_IndexFunc_int_int_0 xSslices_IndexFunc_int_int_0) := by kernel_rfl
theorem lpslices_IndexFunc_int_int_0 : LpOk Eslices_IndexFunc_int_int Bslices_IndexFunc_int_int_0 0 := mkLoop_ok (A := tAslices_IndexFunc_int_int_0) (B := tBslices_IndexFunc_int_int_0) (f := Pslices_IndexFunc_int_int_0) (L := Lslices_IndexFunc_int_int_0 none) (tO_ok (cK_ok cUnit_ok) (tO_ok (cK2_ok cUnit_ok) (tO_ok (cPair_ok (cInt_ok .i64) cUnit_ok) (tO_ok (cPair_ok (cInt_ok .i64) cUnit_ok) tNil_ok)))) (bRv_ok (bC_ok (cPair_ok (cInt_ok .i64) cUnit_ok) bNil_ok)) (enc := eSslices_IndexFunc_int_int_0) (out := xTslices_IndexFunc_int_int_0) (outS := xSslices_IndexFunc_int_int_0) (step := Wslices_IndexFunc_int_int_0) (fun _ => rfl) (fun _ _ => by kernel_rfl) (by kernel_rfl) (fun b => by cases b <;> rfl) roundslices_IndexFunc_int_int_0
theorem rnslices_IndexFunc_int_int (g0 : (List Int)) (g1 : Int) : execX false Eslices_IndexFunc_int_int Try.f46 (Aslices_IndexFunc_int_int.enc ()) (Gslices_IndexFunc_int_int.enc (g0, g1, ())) = (Tslices_IndexFunc_int_int none g0 g1).map (Rslices_IndexFunc_int_int () (g0, g1, ())) := by kernel_rfl
theorem runslices_IndexFunc_int_int : ∀ (x : Unit) (g : (List Int) × Int × Unit), execX false Eslices_IndexFunc_int_int Try.f46 (Aslices_IndexFunc_int_int.enc x) (Gslices_IndexFunc_int_int.enc g) = (Tslices_IndexFunc_int_int none g.1 g.2.1).map (Rslices_IndexFunc_int_int x g)
  | (), (g0, g1, ()) => rnslices_IndexFunc_int_int g0 g1
theorem okslices_IndexFunc_int_int : FnOk Try.prog cd 46 Sslices_IndexFunc_int_int := mk_okG (E := Eslices_IndexFunc_int_int) (A := Aslices_IndexFunc_int_int) (B := Gslices_IndexFunc_int_int) false cd_ok (addF_ok okmemory_Write_1 fns11_ok) Try.func46 (by kernel_rfl) (loops_of (addL_ok lpslices_IndexFunc_int_int_0 noL_ok)) (aR_ok (aF_ok (aNil_ok))) (bR_ok (bC_ok (cInt_ok .i64) bNil_ok)) (T := fun (x : Unit) (g : (List Int) × Int × Unit) => Tslices_IndexFunc_int_int none g.1 g.2.1) (fun _ _ => rfl) runslices_IndexFunc_int_int
/-- slices.DeleteFunc[[]int,int] -/
structure Sslices_DeleteFunc_int_int_0 where
  t5 : Int
  t6 : Int
  b0 : (List Int)
  b1_0 : Int
noncomputable def Wslices_DeleteFunc_int_int_0 (s : Sslices_DeleteFunc_int_int_0) : Tree (Sslices_DeleteFunc_int_int_0 ⊕ (Int × (List Int) × Int)) :=
  .ite (decide (s.t6 < (s.b0.length : Int)))
    (.ite (decide (0 ≤ s.t6))
      (.ite (decide (s.t6 < (s.b0.length : Int)))
        (.opt Int (s.b0[(s.t6).toNat]?) fun y52 =>
          .opt Bool (memory_Write_1 y52 s.b1_0) fun r53 =>
            .ite (!r53)
              (.ite (decide (0 ≤ s.t5))
                (.ite (decide (s.t5 < (s.b0.length : Int)))
                  (.opt Int (s.b0[(s.t5).toNat]?) fun y54 =>
                    .leaf (.inl (Sslices_DeleteFunc_int_int_0.mk (IntKind.wrap .i64 (s.t5 + (1 : Int))) (IntKind.wrap .i64 (s.t6 + (1 : Int))) (s.b0.set ((s.t5).toNat) y52) s.b1_0)))
                  .fail)
                .fail)
              (.leaf (.inl (Sslices_DeleteFunc_int_int_0.mk s.t5 (IntKind.wrap .i64 (s.t6 + (1 : Int))) s.b0 s.b1_0))))
        .fail)
      .fail)
    (.leaf (.inr (s.t5, s.b0, s.b1_0)))
noncomputable def Lslices_DeleteFunc_int_int_0 (q : Option Nat) (s : Sslices_DeleteFunc_int_int_0) : Option (Int × (List Int) × Int) := limQ q (fun s => (Wslices_DeleteFunc_int_int_0 s).run) s
theorem leLslices_DeleteFunc_int_int_0 (k : Nat) (s : Sslices_DeleteFunc_int_int_0) : Le (Lslices_DeleteFunc_int_int_0 (some k) s) (Lslices_DeleteFunc_int_int_0 none s) := limQ_le (fun _ => Le.rfl) s
noncomputable def Tslices_DeleteFunc_int_int (q : Option Nat) (g0 : (List Int)) (g1 : Int) : Tree (((List Int) × Int) ⊕ ((Nat × Nat) × (List Int) × Int)) :=
  .opt (Int × (List Int) × Int) (slices_IndexFunc_int_int q g0 g1) fun r51 =>
    .ite (decide (r51.1 = (-1 : Int)))
      (.leaf (.inl (r51.2.1, r51.2.2)))
      (.opt (Int × (List Int) × Int) (Lslices_DeleteFunc_int_int_0 q (Sslices_DeleteFunc_int_int_0.mk r51.1 (IntKind.wrap .i64 (r51.1 + (1 : Int))) r51.2.1 r51.2.2)) fun l55 =>
        .ite (decide (0 ≤ l55.1))
          (.ite (decide (l55.1 ≤ ((l55.2.1.length : Nat) : Int)))
            (.ite (decide (0 ≤ l55.1))
              (.ite (decide (l55.1 ≤ (((l55.2.1.take ((l55.1).toNat) ++ List.replicate (l55.2.1.length - (l55.1).toNat) (0 : Int) ++ l55.2.1.drop ((l55.1).toNat + (l55.2.1.length - (l55.1).toNat))).length : Nat) : Int)))
                (.leaf (.inr ((0, (l55.1).toNat - 0), l55.2.1.take ((l55.1).toNat) ++ List.replicate (l55.2.1.length - (l55.1).toNat) (0 : Int) ++ l55.2.1.drop ((l55.1).toNat + (l55.2.1.length - (l55.1).toNat)), l55.2.2)))
                .fail)
              .fail)
            .fail)
          .fail)
noncomputable def slices_DeleteFunc_int_int (q : Option Nat) (g0 : (List Int)) (g1 : Int) : Option (((List Int) × Int) ⊕ ((Nat × Nat) × (List Int) × Int)) := (Tslices_DeleteFunc_int_int q g0 g1).run
theorem leslices_DeleteFunc_int_int (k : Nat) (g0 : (List Int)) (g1 : Int) : Le (slices_DeleteFunc_int_int (some k) g0 g1) (slices_DeleteFunc_int_int none g0 g1) := (TLe.opt (leslices_IndexFunc_int_int k _ _) fun _ => (TLe.ite TLe.rfl (TLe.opt (leLslices_DeleteFunc_int_int_0 k _) fun _ => TLe.rfl)))
noncomputable def Aslices_DeleteFunc_int_int : Arg U (Unit) := aR 0 (aF 36 [(.ptr 1 0)] (aNil))
noncomputable def Gslices_DeleteFunc_int_int : Bls U ((List Int) × Int × Unit) := bR 3 (bC (cInt .i64) (bNil))
noncomputable def Rslices_DeleteFunc_int_int (_x : Unit) (_g : (List Int) × Int × Unit) (r : ((List Int) × Int)) : List (V U) × List (Blk U) := ([vO (cK (.row 0 0) (cUnit)) (())], [.row 3 0 r.1, .cells ((cPair (cInt .i64) (cUnit) : Cdc U (Int × Unit)).enc (r.2, ()))])
noncomputable def Rslices_DeleteFunc_int_intb (_x : Unit) (_g : (List Int) × Int × Unit) (r : ((Nat × Nat) × (List Int) × Int)) : List (V U) × List (Blk U) := ([vO (cPair (cOwn 0 0) (cUnit)) (r.1, ())], [.row 3 0 r.2.1, .cells ((cPair (cInt .i64) (cUnit) : Cdc U (Int × Unit)).enc (r.2.2, ()))])
noncomputable def Sslices_DeleteFunc_int_int : List (V U) → List (Blk U) → Option (FnOut U) := mkSpecG2 Aslices_DeleteFunc_int_int Gslices_DeleteFunc_int_int (fun x g => slices_DeleteFunc_int_int none g.1 g.2.1) Rslices_DeleteFunc_int_int Rslices_DeleteFunc_int_intb
noncomputable def Pslices_DeleteFunc_int_int_0 (x : (Unit) × (Unit) × (Int × Unit) × (Int × Unit) × Unit) (g : (List Int) × (Int × Unit) × Unit) : Sslices_DeleteFunc_int_int_0 := Sslices_DeleteFunc_int_int_0.mk x.2.2.1.1 x.2.2.2.1.1 g.1 g.2.1.1
noncomputable def tAslices_DeleteFunc_int_int_0 : Tms U ((Unit) × (Unit) × (Int × Unit) × (Int × Unit) × Unit) := tO 0 (cK (.row 0 0) (cUnit)) (tO 1 (cK2 (.fn 36 [] [(.ptr 1 0)]) (cUnit)) (tO 5 (cPair (cInt .i64) (cUnit)) (tO 6 (cPair (cInt .i64) (cUnit)) (tNil))))
noncomputable def tBslices_DeleteFunc_int_int_0 : Bls U ((List Int) × (Int × Unit) × Unit) := bRv 3 0 (bC (cPair (cInt .i64) (cUnit)) (bNil))
noncomputable def eSslices_DeleteFunc_int_int_0 (s : Sslices_DeleteFunc_int_int_0) : St U := { tm := [(0, .v (vO (cK (.row 0 0) (cUnit)) (()))), (1, .v (vO (cK2 (.fn 36 [] [(.ptr 1 0)]) (cUnit)) (()))), (5, .v (vO (cPair (cInt .i64) (cUnit)) (s.t5, ()))), (6, .v (vO (cPair (cInt .i64) (cUnit)) (s.t6, ())))], hp := [.row 3 0 s.b0, .cells ((cPair (cInt .i64) (cUnit) : Cdc U (Int × Unit)).enc (s.b1_0, ()))] }
noncomputable def xSslices_DeleteFunc_int_int_0 (r : (Int × (List Int) × Int)) : Ex × St U := (.exit 0, { tm := [(0, .v (vO (cK (.row 0 0) (cUnit)) (()))), (5, .v (vO (cPair (cInt .i64) (cUnit)) (r.1, ())))], hp := [.row 3 0 r.2.1, .cells ((cPair (cInt .i64) (cUnit) : Cdc U (Int × Unit)).enc (r.2.2, ()))] })
noncomputable def xTslices_DeleteFunc_int_int_0 (r : (Int × (List Int) × Int)) : Tree (Ex × St U) := .leaf (xSslices_DeleteFunc_int_int_0 r)
noncomputable def hslices_DeleteFunc_int_int_0 : Hd := { keep := [0, 1, 5, 6], xkeep := [0, 4, 5], own := false }
noncomputable def Eslices_DeleteFunc_int_int : Env U := { P := Try.prog, cd := cd, fns := (addF 46 false (Sslices_IndexFunc_int_int) (addF 36 false (Smemory_Write_1) fns11)), lps := (addL 0 hslices_DeleteFunc_int_int_0 (mkLoop tAslices_DeleteFunc_int_int_0 tBslices_DeleteFunc_int_int_0 Pslices_DeleteFunc_int_int_0 (Lslices_DeleteFunc_int_int_0 none) xTslices_DeleteFunc_int_int_0) noL), frz := fun _r => false, nt := 42, n0 := 2 }
noncomputable def Bslices_DeleteFunc_int_int_0 : Code := (loopAt (Try.f34.body.getD .skip) 0 0).getD .skip
theorem roundslices_DeleteFunc_int_int_0 (s : Sslices_DeleteFunc_int_int_0) : round Eslices_DeleteFunc_int_int hslices_DeleteFunc_int_int_0 Bslices_DeleteFunc_int_int_0 0 (eSslices_DeleteFunc_int_int_0 s) = (Wslices_DeleteFunc_int_int_0 s).map (sumE eSslices_DeleteFunc_int_int_0 xSslices_DeleteFunc_int_int_0) := by kernel_rfl
theorem lpslices_DeleteFunc_int_int_0 : LpOk Eslices_DeleteFunc_int_int Bslices_DeleteFunc_int_int_0 0 := mkLoop_ok (A := tAslices_DeleteFunc_int_int_0) (B := tBslices_DeleteFunc_int_int_0) (f := Pslices_DeleteFunc_int_int_0) (L := Lslices_DeleteFunc_int_int_0 none) (tO_ok (cK_ok cUnit_ok) (tO_ok (cK2_ok cUnit_ok) (tO_ok (cPair_ok (cInt_ok .i64) cUnit_ok) (tO_ok (cPair_ok (cInt_ok .i64) cUnit_ok) tNil_ok)))) (bRv_ok (bC_ok (cPair_ok (cInt_ok .i64) cUnit_ok) bNil_ok)) (enc := eSslices_DeleteFunc_int_int_0) (out := xTslices_DeleteFunc_int_int_0) (outS := xSslices_DeleteFunc_int_int_0) (step := Wslices_DeleteFunc_int_int_0) (fun _ => rfl) (fun _ _ => by kernel_rfl) (by kernel_rfl) (fun _ => rfl) roundslices_DeleteFunc_int_int_0
theorem rnslices_DeleteFunc_int_int (g0 : (List Int)) (g1 : Int) : execX false Eslices_DeleteFunc_int_int Try.f34 (Aslices_DeleteFunc_int_int.enc ()) (Gslices_DeleteFunc_int_int.enc (g0, g1, ())) = (Tslices_DeleteFunc_int_int none g0 g1).map ((Sum.elim (Rslices_DeleteFunc_int_int () (g0, g1, ())) (Rslices_DeleteFunc_int_intb () (g0, g1, ())))) := by kernel_rfl
theorem runslices_DeleteFunc_int_int : ∀ (x : Unit) (g : (List Int) × Int × Unit), execX false Eslices_DeleteFunc_int_int Try.f34 (Aslices_DeleteFunc_int_int.enc x) (Gslices_DeleteFunc_int_int.enc g) = (Tslices_DeleteFunc_int_int none g.1 g.2.1).map ((Sum.elim (Rslices_DeleteFunc_int_int x g) (Rslices_DeleteFunc_int_intb x g)))
  | (), (g0, g1, ()) => rnslices_DeleteFunc_int_int g0 g1
theorem okslices_DeleteFunc_int_int : FnOk Try.prog cd 34 Sslices_DeleteFunc_int_int := mk_okG2 (E := Eslices_DeleteFunc_int_int) (A := Aslices_DeleteFunc_int_int) (B := Gslices_DeleteFunc_int_int) false cd_ok (addF_ok okslices_IndexFunc_int_int (addF_ok okmemory_Write_1 fns11_ok)) Try.func34 (by kernel_rfl) (loops_of (addL_ok lpslices_DeleteFunc_int_int_0 noL_ok)) (aR_ok (aF_ok (aNil_ok))) (bR_ok (bC_ok (cInt_ok .i64) bNil_ok)) (T := fun (x : Unit) (g : (List Int) × Int × Unit) => Tslices_DeleteFunc_int_int none g.1 g.2.1) (fun _ _ => rfl) runslices_DeleteFunc_int_int
/-- emulator/memory.Write -/
noncomputable def Tmemory_Write (q : Option Nat) (x0 : (List Int)) (x1 : (List Int)) (x2 : Int) (x3 : Bool) (x4 : Int) : Tree ((List Int) × (List Int) × Int) :=
  .opt Bool (memory_misses x0 x2 x3) fun r56 =>
    .ite (r56)
      (.leaf (([], [], (1 : Int))))
      (.opt (List Int) (memory_copied x0) fun r57 =>
        .ite (x3)
          (.ite (decide ((2 : Int) = 0))
            .fail
            (.ite (decide ((2 : Int) = 0))
              .fail
              (.ite (decide ((2 : Int) = 0))
                .fail
                (.ite (decide (0 ≤ IntKind.wrap .i64 ((x2).tdiv (2 : Int))))
                  (.ite (decide (IntKind.wrap .i64 ((x2).tdiv (2 : Int)) < (r57.length : Int)))
                    (.opt Int (r57[(IntKind.wrap .i64 ((x2).tdiv (2 : Int))).toNat]?) fun y58 =>
                      .ite (decide (0 ≤ (IntKind.wrap .i64 (((x2).tmod (2 : Int)) * (8 : Int)))))
                        (.ite (decide (0 ≤ (IntKind.wrap .i64 (((x2).tmod (2 : Int)) * (8 : Int)))))
                          (.ite (decide (0 ≤ IntKind.wrap .i64 ((x2).tdiv (2 : Int))))
                            (.ite (decide (IntKind.wrap .i64 ((x2).tdiv (2 : Int)) < (r57.length : Int)))
                              (.opt Int (r57[(IntKind.wrap .i64 ((x2).tdiv (2 : Int))).toNat]?) fun y59 =>
                                .opt (List Int) (cloneF 8 x1) fun r60 =>
                                  .opt (((List Int) × Int) ⊕ ((Nat × Nat) × (List Int) × Int)) (slices_DeleteFunc_int_int q r60 x2) fun r61 =>
                                    .ite (r61.isLeft)
                                      (.opt ((List Int) × Int) (r61.getLeft?) fun a62 =>
                                        .leaf ((r57.set ((IntKind.wrap .i64 ((x2).tdiv (2 : Int))).toNat) (IntKind.wrap .i64 (((BitVec.ofInt 64 (IntKind.wrap .i64 (((BitVec.ofInt 64 y58 &&& ~~~BitVec.ofInt 64 (IntKind.wrap .i64 ((255 : Int) * 2 ^ (min ((IntKind.wrap .i64 (((x2).tmod (2 : Int)) * (8 : Int)))).toNat 64)))).toNat : Int))) ||| BitVec.ofInt 64 (IntKind.wrap .i64 ((IntKind.wrap .i64 (((BitVec.ofInt 64 x4 &&& BitVec.ofInt 64 (255 : Int)).toNat : Int))) * 2 ^ (min ((IntKind.wrap .i64 (((x2).tmod (2 : Int)) * (8 : Int)))).toNat 64)))).toNat : Int))), a62.1, (0 : Int))))
                                      (.opt ((Nat × Nat) × (List Int) × Int) (r61.getRight?) fun b63 =>
                                        .leaf ((r57.set ((IntKind.wrap .i64 ((x2).tdiv (2 : Int))).toNat) (IntKind.wrap .i64 (((BitVec.ofInt 64 (IntKind.wrap .i64 (((BitVec.ofInt 64 y58 &&& ~~~BitVec.ofInt 64 (IntKind.wrap .i64 ((255 : Int) * 2 ^ (min ((IntKind.wrap .i64 (((x2).tmod (2 : Int)) * (8 : Int)))).toNat 64)))).toNat : Int))) ||| BitVec.ofInt 64 (IntKind.wrap .i64 ((IntKind.wrap .i64 (((BitVec.ofInt 64 x4 &&& BitVec.ofInt 64 (255 : Int)).toNat : Int))) * 2 ^ (min ((IntKind.wrap .i64 (((x2).tmod (2 : Int)) * (8 : Int)))).toNat 64)))).toNat : Int))), (b63.2.1.drop (b63.1.1)).take (b63.1.2), (0 : Int)))))
                              .fail)
                            .fail)
                          .fail)
                        .fail)
                    .fail)
                  .fail))))
          (.ite (decide ((2 : Int) = 0))
            .fail
            (.ite (decide ((2 : Int) = 0))
              .fail
              (.ite (decide (0 ≤ IntKind.wrap .i64 ((x2).tdiv (2 : Int))))
                (.ite (decide (IntKind.wrap .i64 ((x2).tdiv (2 : Int)) < (r57.length : Int)))
                  (.opt Int (r57[(IntKind.wrap .i64 ((x2).tdiv (2 : Int))).toNat]?) fun y64 =>
                    .ite (decide (0 ≤ (0 : Int)))
                      (.ite (decide (0 ≤ (0 : Int)))
                        (.ite (decide (0 ≤ IntKind.wrap .i64 ((x2).tdiv (2 : Int))))
                          (.ite (decide (IntKind.wrap .i64 ((x2).tdiv (2 : Int)) < (r57.length : Int)))
                            (.opt Int (r57[(IntKind.wrap .i64 ((x2).tdiv (2 : Int))).toNat]?) fun y65 =>
                              .opt (List Int) (cloneF 8 x1) fun r66 =>
                                .opt (((List Int) × Int) ⊕ ((Nat × Nat) × (List Int) × Int)) (slices_DeleteFunc_int_int q r66 x2) fun r67 =>
                                  .ite (r67.isLeft)
                                    (.opt ((List Int) × Int) (r67.getLeft?) fun a68 =>
                                      .leaf ((r57.set ((IntKind.wrap .i64 ((x2).tdiv (2 : Int))).toNat) (IntKind.wrap .i64 (((BitVec.ofInt 64 (IntKind.wrap .i64 (((BitVec.ofInt 64 y64 &&& ~~~BitVec.ofInt 64 (IntKind.wrap .i64 ((65535 : Int) * 2 ^ (min ((0 : Int)).toNat 64)))).toNat : Int))) ||| BitVec.ofInt 64 (IntKind.wrap .i64 ((IntKind.wrap .i64 (((BitVec.ofInt 64 x4 &&& BitVec.ofInt 64 (65535 : Int)).toNat : Int))) * 2 ^ (min ((0 : Int)).toNat 64)))).toNat : Int))), a68.1, (0 : Int))))
                                    (.opt ((Nat × Nat) × (List Int) × Int) (r67.getRight?) fun b69 =>
                                      .leaf ((r57.set ((IntKind.wrap .i64 ((x2).tdiv (2 : Int))).toNat) (IntKind.wrap .i64 (((BitVec.ofInt 64 (IntKind.wrap .i64 (((BitVec.ofInt 64 y64 &&& ~~~BitVec.ofInt 64 (IntKind.wrap .i64 ((65535 : Int) * 2 ^ (min ((0 : Int)).toNat 64)))).toNat : Int))) ||| BitVec.ofInt 64 (IntKind.wrap .i64 ((IntKind.wrap .i64 (((BitVec.ofInt 64 x4 &&& BitVec.ofInt 64 (65535 : Int)).toNat : Int))) * 2 ^ (min ((0 : Int)).toNat 64)))).toNat : Int))), (b69.2.1.drop (b69.1.1)).take (b69.1.2), (0 : Int)))))
                            .fail)
                          .fail)
                        .fail)
                      .fail)
                  .fail)
                .fail))))
noncomputable def memory_Write (q : Option Nat) (x0 : (List Int)) (x1 : (List Int)) (x2 : Int) (x3 : Bool) (x4 : Int) : Option ((List Int) × (List Int) × Int) := (Tmemory_Write q x0 x1 x2 x3 x4).run
theorem lememory_Write (k : Nat) (x0 : (List Int)) (x1 : (List Int)) (x2 : Int) (x3 : Bool) (x4 : Int) : Le (memory_Write (some k) x0 x1 x2 x3 x4) (memory_Write none x0 x1 x2 x3 x4) := (TLe.opt Le.rfl fun _ => (TLe.ite TLe.rfl (TLe.opt Le.rfl fun _ => (TLe.ite (TLe.ite TLe.rfl (TLe.ite TLe.rfl (TLe.ite TLe.rfl (TLe.ite (TLe.ite (TLe.opt Le.rfl fun _ => (TLe.ite (TLe.ite (TLe.ite (TLe.ite (TLe.opt Le.rfl fun _ => (TLe.opt Le.rfl fun _ => (TLe.opt (leslices_DeleteFunc_int_int k _ _) fun _ => TLe.rfl))) TLe.rfl) TLe.rfl) TLe.rfl) TLe.rfl)) TLe.rfl) TLe.rfl)))) (TLe.ite TLe.rfl (TLe.ite TLe.rfl (TLe.ite (TLe.ite (TLe.opt Le.rfl fun _ => (TLe.ite (TLe.ite (TLe.ite (TLe.ite (TLe.opt Le.rfl fun _ => (TLe.opt Le.rfl fun _ => (TLe.opt (leslices_DeleteFunc_int_int k _ _) fun _ => TLe.rfl))) TLe.rfl) TLe.rfl) TLe.rfl) TLe.rfl)) TLe.rfl) TLe.rfl)))))))
noncomputable def Amemory_Write : Arg U ((List Int) × (List Int) × Int × Bool × Int × Unit) := aO (cSl 3) (aO (cSl 3) (aO (cInt .i64) (aO cBool (aO (cInt .i64) (aNil)))))
noncomputable def Rmemory_Write (r : ((List Int) × (List Int) × Int)) : List (V U) × List (Blk U) := ([vO (cSl 3) r.1, vO (cSl 3) r.2.1, vO (cInt .i64) r.2.2], [])
noncomputable def Smemory_Write : List (V U) → List (Blk U) → Option (FnOut U) := mkSpec Amemory_Write bNil (fun x _ => memory_Write none x.1 x.2.1 x.2.2.1 x.2.2.2.1 x.2.2.2.2.1) Rmemory_Write
noncomputable def Ememory_Write : Env U := { P := Try.prog, cd := cd, fns := (addF 35 false (cloneSpec 3 8) (addF 34 false (Sslices_DeleteFunc_int_int) (addF 33 false (Smemory_copied) fns11))), lps := noL, frz := fun _r => false, nt := 52, n0 := 0 }
theorem runmemory_Write (x : (List Int) × (List Int) × Int × Bool × Int × Unit) (g : Unit) : execF Ememory_Write Try.f12 (Amemory_Write.enc x) (bNil.enc g) = (Tmemory_Write none x.1 x.2.1 x.2.2.1 x.2.2.2.1 x.2.2.2.2.1).map Rmemory_Write := by kernel_rfl
theorem okmemory_Write : FnOk Try.prog cd 12 Smemory_Write := mk_ok (E := Ememory_Write) cd_ok (addF_ok okslices_Clone_int_int (addF_ok okslices_DeleteFunc_int_int (addF_ok okmemory_copied fns11_ok))) Try.func12 (by kernel_rfl) (noLoops_body (by kernel_rfl)) (aO_ok (cSl_ok 3) (aO_ok (cSl_ok 3) (aO_ok (cInt_ok .i64) (aO_ok cBool_ok (aO_ok (cInt_ok .i64) (aNil_ok)))))) bNil_ok (T := fun x _ => Tmemory_Write none x.1 x.2.1 x.2.2.1 x.2.2.2.1 x.2.2.2.2.1) (fun _ _ => rfl) runmemory_Write
noncomputable def fns12 := addF 12 true Smemory_Write fns11
theorem fns12_ok : ∀ f q t, fns12 f = some (q, t) → FnOk Try.prog cd f t := addF_ok okmemory_Write fns11_ok
/-- emulator/emulatorref08.Without -/
structure Sref08_Without_0 where
  t0 : (List Int)
  t1 : Int
  t6 : Int
  b0 : (List Int)
noncomputable def Wref08_Without_0 (s : Sref08_Without_0) : Tree (Sref08_Without_0 ⊕ (List Int)) :=
  .ite (decide (s.t6 < (s.t0.length : Int)))
    (.ite (decide (0 ≤ s.t6))
      (.opt Int (s.t0[(s.t6).toNat]?) fun y73 =>
        .ite (!decide (y73 = s.t1))
          (.ite (decide (0 ≤ s.t6))
            (.opt Int (s.t0[(s.t6).toNat]?) fun y74 =>
              .ite (decide ((s.b0.length + ([y74]).length) * 8 ≤ 140737488355328))
                (.leaf (.inl (Sref08_Without_0.mk s.t0 s.t1 (IntKind.wrap .i64 (s.t6 + (1 : Int))) (s.b0 ++ ([y74])))))
                .fail)
            .fail)
          (.leaf (.inl (Sref08_Without_0.mk s.t0 s.t1 (IntKind.wrap .i64 (s.t6 + (1 : Int))) s.b0))))
      .fail)
    (.leaf (.inr s.b0))
noncomputable def Lref08_Without_0 (q : Option Nat) (s : Sref08_Without_0) : Option (List Int) := limQ q (fun s => (Wref08_Without_0 s).run) s
theorem leLref08_Without_0 (k : Nat) (s : Sref08_Without_0) : Le (Lref08_Without_0 (some k) s) (Lref08_Without_0 none s) := limQ_le (fun _ => Le.rfl) s
noncomputable def Tref08_Without (q : Option Nat) (x0 : (List Int)) (x1 : Int) : Tree (List Int) :=
  .opt (List Int) (Lref08_Without_0 q (Sref08_Without_0.mk x0 x1 (0 : Int) ([]))) fun l75 =>
    .leaf (l75)
noncomputable def ref08_Without (q : Option Nat) (x0 : (List Int)) (x1 : Int) : Option (List Int) := (Tref08_Without q x0 x1).run
theorem leref08_Without (k : Nat) (x0 : (List Int)) (x1 : Int) : Le (ref08_Without (some k) x0 x1) (ref08_Without none x0 x1) := (TLe.opt (leLref08_Without_0 k _) fun _ => TLe.rfl)
noncomputable def Aref08_Without : Arg U ((List Int) × Int × Unit) := aO (cSl 3) (aO (cInt .i64) (aNil))
noncomputable def Rref08_Without (r : (List Int)) : List (V U) × List (Blk U) := ([vO (cSl 3) r], [])
noncomputable def Sref08_Without : List (V U) → List (Blk U) → Option (FnOut U) := mkSpec Aref08_Without bNil (fun x _ => ref08_Without none x.1 x.2.1) Rref08_Without
noncomputable def Pref08_Without_0 (x : ((List Int) × Unit) × (Int × Unit) × (Unit) × (Int × Unit) × Unit) (g : (List Int) × Unit) : Sref08_Without_0 := Sref08_Without_0.mk x.1.1 x.2.1.1 x.2.2.2.1.1 g.1
noncomputable def tAref08_Without_0 : Tms U (((List Int) × Unit) × (Int × Unit) × (Unit) × (Int × Unit) × Unit) := tO 0 (cPair (cSl 3) (cUnit)) (tO 1 (cPair (cInt .i64) (cUnit)) (tO 5 (cK (.row 0 0) (cUnit)) (tO 6 (cPair (cInt .i64) (cUnit)) (tNil))))
noncomputable def tBref08_Without_0 : Bls U ((List Int) × Unit) := bRv 3 0 (bNil)
noncomputable def eSref08_Without_0 (s : Sref08_Without_0) : St U := { tm := [(0, .v (vO (cPair (cSl 3) (cUnit)) (s.t0, ()))), (1, .v (vO (cPair (cInt .i64) (cUnit)) (s.t1, ()))), (5, .v (vO (cK (.row 0 0) (cUnit)) (()))), (6, .v (vO (cPair (cInt .i64) (cUnit)) (s.t6, ())))], hp := [.row 3 0 s.b0] }
noncomputable def xSref08_Without_0 (r : (List Int)) : Ex × St U := (.exit 0, { tm := [(5, .v (vO (cK (.row 0 0) (cUnit)) (())))], hp := [.row 3 0 r] })
noncomputable def xTref08_Without_0 (r : (List Int)) : Tree (Ex × St U) := .leaf (xSref08_Without_0 r)
noncomputable def href08_Without_0 : Hd := { keep := [0, 1, 5, 6], xkeep := [4, 5], own := true }
noncomputable def Eref08_Without : Env U := { P := Try.prog, cd := cd, fns := fns12, lps := (addL 0 href08_Without_0 (mkLoop tAref08_Without_0 tBref08_Without_0 Pref08_Without_0 (Lref08_Without_0 none) xTref08_Without_0) noL), frz := fun _r => false, nt := 27, n0 := 0 }
noncomputable def Bref08_Without_0 : Code := (loopAt (Try.f38.body.getD .skip) 0 0).getD .skip
theorem roundref08_Without_0 (s : Sref08_Without_0) : round Eref08_Without href08_Without_0 Bref08_Without_0 0 (eSref08_Without_0 s) = (Wref08_Without_0 s).map (sumE eSref08_Without_0 xSref08_Without_0) := by kernel_rfl
theorem lpref08_Without_0 : LpOk Eref08_Without Bref08_Without_0 0 := mkLoop_ok (A := tAref08_Without_0) (B := tBref08_Without_0) (f := Pref08_Without_0) (L := Lref08_Without_0 none) (tO_ok (cPair_ok (cSl_ok 3) cUnit_ok) (tO_ok (cPair_ok (cInt_ok .i64) cUnit_ok) (tO_ok (cK_ok cUnit_ok) (tO_ok (cPair_ok (cInt_ok .i64) cUnit_ok) tNil_ok)))) (bRv_ok bNil_ok) (enc := eSref08_Without_0) (out := xTref08_Without_0) (outS := xSref08_Without_0) (step := Wref08_Without_0) (fun _ => rfl) (fun _ _ => by kernel_rfl) (by kernel_rfl) (fun _ => rfl) roundref08_Without_0
theorem runref08_Without (x : (List Int) × Int × Unit) (g : Unit) : execF Eref08_Without Try.f38 (Aref08_Without.enc x) (bNil.enc g) = (Tref08_Without none x.1 x.2.1).map Rref08_Without := by kernel_rfl
theorem okref08_Without : FnOk Try.prog cd 38 Sref08_Without := mk_ok (E := Eref08_Without) cd_ok fns12_ok Try.func38 (by kernel_rfl) (loops_of (addL_ok lpref08_Without_0 noL_ok)) (aO_ok (cSl_ok 3) (aO_ok (cInt_ok .i64) (aNil_ok))) bNil_ok (T := fun x _ => Tref08_Without none x.1 x.2.1) (fun _ _ => rfl) runref08_Without
noncomputable def fns38 := addF 38 true Sref08_Without fns12
theorem fns38_ok : ∀ f q t, fns38 f = some (q, t) → FnOk Try.prog cd f t := addF_ok okref08_Without fns12_ok
/-- emulator/emulatorref08.set -/
noncomputable def Tref08_set (x1 : Int) (x2 : Int) (g0 : (List Int)) : Tree (List Int) :=
  .ite (decide ((2 : Int) = 0))
    .fail
    (.ite (decide (0 ≤ IntKind.wrap .i64 ((x1).tdiv (2 : Int))))
      (.ite (decide (IntKind.wrap .i64 ((x1).tdiv (2 : Int)) < (g0.length : Int)))
        (.opt Int (g0[(IntKind.wrap .i64 ((x1).tdiv (2 : Int))).toNat]?) fun y77 =>
          .ite (decide ((2 : Int) = 0))
            .fail
            (.ite (decide (((x1).tmod (2 : Int)) = (0 : Int)))
              (.ite (decide ((2 : Int) = 0))
                .fail
                (.ite (decide (0 ≤ IntKind.wrap .i64 ((x1).tdiv (2 : Int))))
                  (.ite (decide (IntKind.wrap .i64 ((x1).tdiv (2 : Int)) < (g0.length : Int)))
                    (.opt Int (g0[(IntKind.wrap .i64 ((x1).tdiv (2 : Int))).toNat]?) fun y78 =>
                      .leaf (g0.set ((IntKind.wrap .i64 ((x1).tdiv (2 : Int))).toNat) (IntKind.wrap .i64 (((BitVec.ofInt 64 (IntKind.wrap .i64 (((BitVec.ofInt 64 y77 &&& BitVec.ofInt 64 (65280 : Int)).toNat : Int))) ||| BitVec.ofInt 64 x2).toNat : Int)))))
                    .fail)
                  .fail))
              (.ite (decide ((2 : Int) = 0))
                .fail
                (.ite (decide (0 ≤ (8 : Int)))
                  (.ite (decide (0 ≤ IntKind.wrap .i64 ((x1).tdiv (2 : Int))))
                    (.ite (decide (IntKind.wrap .i64 ((x1).tdiv (2 : Int)) < (g0.length : Int)))
                      (.opt Int (g0[(IntKind.wrap .i64 ((x1).tdiv (2 : Int))).toNat]?) fun y79 =>
                        .leaf (g0.set ((IntKind.wrap .i64 ((x1).tdiv (2 : Int))).toNat) (IntKind.wrap .i64 (((BitVec.ofInt 64 (IntKind.wrap .i64 (((BitVec.ofInt 64 y77 &&& BitVec.ofInt 64 (255 : Int)).toNat : Int))) ||| BitVec.ofInt 64 (IntKind.wrap .i64 (x2 * 2 ^ (min ((8 : Int)).toNat 64)))).toNat : Int)))))
                      .fail)
                    .fail)
                  .fail))))
        .fail)
      .fail)
noncomputable def ref08_set (x1 : Int) (x2 : Int) (g0 : (List Int)) : Option (List Int) := (Tref08_set x1 x2 g0).run
noncomputable def Aref08_set : Arg U (Int × Int × Unit) := aR 0 (aO (cInt .i64) (aO (cInt .i64) (aNil)))
noncomputable def Gref08_set : Bls U ((List Int) × Unit) := bR 3 (bNil)
noncomputable def Rref08_set (_x : Int × Int × Unit) (_g : (List Int) × Unit) (r : (List Int)) : List (V U) × List (Blk U) := ([], [.row 3 0 r])
noncomputable def Sref08_set : List (V U) → List (Blk U) → Option (FnOut U) := mkSpecG Aref08_set Gref08_set (fun x g => ref08_set x.1 x.2.1 g.1) Rref08_set
noncomputable def Eref08_set : Env U := { P := Try.prog, cd := cd, fns := fns38, lps := noL, frz := fun _r => false, nt := 32, n0 := 1 }
theorem rnref08_set (x1 : Int) (x2 : Int) (g0 : (List Int)) : execX false Eref08_set Try.f37 (Aref08_set.enc (x1, x2, ())) (Gref08_set.enc (g0, ())) = (Tref08_set x1 x2 g0).map (Rref08_set (x1, x2, ()) (g0, ())) := by kernel_rfl
theorem runref08_set : ∀ (x : Int × Int × Unit) (g : (List Int) × Unit), execX false Eref08_set Try.f37 (Aref08_set.enc x) (Gref08_set.enc g) = (Tref08_set x.1 x.2.1 g.1).map (Rref08_set x g)
  | (x1, x2, ()), (g0, ()) => rnref08_set x1 x2 g0
theorem okref08_set : FnOk Try.prog cd 37 Sref08_set := mk_okG (E := Eref08_set) (A := Aref08_set) (B := Gref08_set) false cd_ok fns38_ok Try.func37 (by kernel_rfl) (noLoops_body (by kernel_rfl)) (aR_ok (aO_ok (cInt_ok .i64) (aO_ok (cInt_ok .i64) (aNil_ok)))) (bR_ok bNil_ok) (T := fun (x : Int × Int × Unit) (g : (List Int) × Unit) => Tref08_set x.1 x.2.1 g.1) (fun _ _ => rfl) runref08_set
/-- emulator/emulatorref08.Write -/
noncomputable def Tref08_Write (q : Option Nat) (x0 : (List Int)) (x1 : (List Int)) (x2 : Int) (x3 : Bool) (x4 : Int) : Tree ((List Int) × (List Int) × Int) :=
  .opt Int (ref08_access x0 x2 x3) fun r80 =>
    .ite (!decide (r80 = (0 : Int)))
      (.leaf (([], [], r80)))
      (.ite (decide ((([] : List Int).length + x0.length) * 8 ≤ 140737488355328))
        (.ite (x3)
          (.opt (List Int) (ref08_set x2 (IntKind.wrap .i64 (((BitVec.ofInt 64 x4 &&& BitVec.ofInt 64 (255 : Int)).toNat : Int))) (([] : List Int) ++ x0)) fun r81 =>
            .ite (decide ((2 : Int) = 0))
              .fail
              (.opt (List Int) (ref08_Without q x1 (IntKind.wrap .i64 (x2 - ((x2).tmod (2 : Int))))) fun r83 =>
                .leaf ((r81, r83, (0 : Int)))))
          (.ite (decide ((2 : Int) = 0))
            .fail
            (.ite (decide (0 ≤ IntKind.wrap .i64 ((x2).tdiv (2 : Int))))
              (.ite (decide (IntKind.wrap .i64 ((x2).tdiv (2 : Int)) < ((([] : List Int) ++ x0).length : Int)))
                (.opt Int ((([] : List Int) ++ x0)[(IntKind.wrap .i64 ((x2).tdiv (2 : Int))).toNat]?) fun y82 =>
                  .ite (decide ((2 : Int) = 0))
                    .fail
                    (.opt (List Int) (ref08_Without q x1 (IntKind.wrap .i64 (x2 - ((x2).tmod (2 : Int))))) fun r84 =>
                      .leaf (((([] : List Int) ++ x0).set ((IntKind.wrap .i64 ((x2).tdiv (2 : Int))).toNat) (IntKind.wrap .i64 (((BitVec.ofInt 64 x4 &&& BitVec.ofInt 64 (65535 : Int)).toNat : Int))), r84, (0 : Int)))))
                .fail)
              .fail)))
        .fail)
noncomputable def ref08_Write (q : Option Nat) (x0 : (List Int)) (x1 : (List Int)) (x2 : Int) (x3 : Bool) (x4 : Int) : Option ((List Int) × (List Int) × Int) := (Tref08_Write q x0 x1 x2 x3 x4).run
theorem leref08_Write (k : Nat) (x0 : (List Int)) (x1 : (List Int)) (x2 : Int) (x3 : Bool) (x4 : Int) : Le (ref08_Write (some k) x0 x1 x2 x3 x4) (ref08_Write none x0 x1 x2 x3 x4) := (TLe.opt Le.rfl fun _ => (TLe.ite TLe.rfl (TLe.ite (TLe.ite (TLe.opt Le.rfl fun _ => (TLe.ite TLe.rfl (TLe.opt (leref08_Without k _ _) fun _ => TLe.rfl))) (TLe.ite TLe.rfl (TLe.ite (TLe.ite (TLe.opt Le.rfl fun _ => (TLe.ite TLe.rfl (TLe.opt (leref08_Without k _ _) fun _ => TLe.rfl))) TLe.rfl) TLe.rfl))) TLe.rfl)))
noncomputable def Aref08_Write : Arg U ((List Int) × (List Int) × Int × Bool × Int × Unit) := aO (cSl 3) (aO (cSl 3) (aO (cInt .i64) (aO cBool (aO (cInt .i64) (aNil)))))
noncomputable def Rref08_Write (r : ((List Int) × (List Int) × Int)) : List (V U) × List (Blk U) := ([vO (cSl 3) r.1, vO (cSl 3) r.2.1, vO (cInt .i64) r.2.2], [])
noncomputable def Sref08_Write : List (V U) → List (Blk U) → Option (FnOut U) := mkSpec Aref08_Write bNil (fun x _ => ref08_Write none x.1 x.2.1 x.2.2.1 x.2.2.2.1 x.2.2.2.2.1) Rref08_Write
noncomputable def Eref08_Write : Env U := { P := Try.prog, cd := cd, fns := (addF 37 false (Sref08_set) fns38), lps := noL, frz := fun _r => false, nt := 44, n0 := 0 }
theorem runref08_Write (x : (List Int) × (List Int) × Int × Bool × Int × Unit) (g : Unit) : execF Eref08_Write Try.f13 (Aref08_Write.enc x) (bNil.enc g) = (Tref08_Write none x.1 x.2.1 x.2.2.1 x.2.2.2.1 x.2.2.2.2.1).map Rref08_Write := by kernel_rfl
theorem okref08_Write : FnOk Try.prog cd 13 Sref08_Write := mk_ok (E := Eref08_Write) cd_ok (addF_ok okref08_set fns38_ok) Try.func13 (by kernel_rfl) (noLoops_body (by kernel_rfl)) (aO_ok (cSl_ok 3) (aO_ok (cSl_ok 3) (aO_ok (cInt_ok .i64) (aO_ok cBool_ok (aO_ok (cInt_ok .i64) (aNil_ok)))))) bNil_ok (T := fun x _ => Tref08_Write none x.1 x.2.1 x.2.2.1 x.2.2.2.1 x.2.2.2.2.1) (fun _ _ => rfl) runref08_Write
noncomputable def fns13 := addF 13 true Sref08_Write fns38
theorem fns13_ok : ∀ f q t, fns13 f = some (q, t) → FnOk Try.prog cd f t := addF_ok okref08_Write fns38_ok
/-- emulator/emulatorref08.Same -/
structure Sref08_Same_0 where
  t0 : (List Int)
  t1 : (List Int)
  t5 : Int
noncomputable def Wref08_Same_0 (s : Sref08_Same_0) : Tree (Sref08_Same_0 ⊕ (Bool ⊕ Unit)) :=
  .ite (decide (s.t5 < (s.t0.length : Int)))
    (.ite (decide (0 ≤ s.t5))
      (.opt Int (s.t0[(s.t5).toNat]?) fun y85 =>
        .ite (decide (0 ≤ s.t5))
          (.opt Int (s.t1[(s.t5).toNat]?) fun y86 =>
            .ite (!decide (y85 = y86))
              (.leaf (.inr (.inl false)))
              (.leaf (.inl (Sref08_Same_0.mk s.t0 s.t1 (IntKind.wrap .i64 (s.t5 + (1 : Int)))))))
          .fail)
      .fail)
    (.leaf (.inr (.inr ())))
noncomputable def Lref08_Same_0 (q : Option Nat) (s : Sref08_Same_0) : Option (Bool ⊕ Unit) := limQ q (fun s => (Wref08_Same_0 s).run) s
theorem leLref08_Same_0 (k : Nat) (s : Sref08_Same_0) : Le (Lref08_Same_0 (some k) s) (Lref08_Same_0 none s) := limQ_le (fun _ => Le.rfl) s
noncomputable def Tref08_Same (q : Option Nat) (x0 : (List Int)) (x1 : (List Int)) : Tree Bool :=
  .ite (!decide ((x0.length : Int) = (x1.length : Int)))
    (.leaf (false))
    (.opt (Bool ⊕ Unit) (Lref08_Same_0 q (Sref08_Same_0.mk x0 x1 (0 : Int))) fun l87 =>
      .ite (l87.isLeft)
        (.opt Bool (l87.getLeft?) fun a88 =>
          .leaf (a88))
        (.opt Unit (l87.getRight?) fun b89 =>
          .leaf (true)))
noncomputable def ref08_Same (q : Option Nat) (x0 : (List Int)) (x1 : (List Int)) : Option Bool := (Tref08_Same q x0 x1).run
theorem leref08_Same (k : Nat) (x0 : (List Int)) (x1 : (List Int)) : Le (ref08_Same (some k) x0 x1) (ref08_Same none x0 x1) := (TLe.ite TLe.rfl (TLe.opt (leLref08_Same_0 k _) fun _ => TLe.rfl))
noncomputable def Aref08_Same : Arg U ((List Int) × (List Int) × Unit) := aO (cSl 3) (aO (cSl 3) (aNil))
noncomputable def Rref08_Same (r : Bool) : List (V U) × List (Blk U) := ([vO cBool r], [])
noncomputable def Sref08_Same : List (V U) → List (Blk U) → Option (FnOut U) := mkSpec Aref08_Same bNil (fun x _ => ref08_Same none x.1 x.2.1) Rref08_Same
noncomputable def Pref08_Same_0 (x : ((List Int) × Unit) × ((List Int) × Unit) × (Int × Unit) × Unit) (_g : Unit) : Sref08_Same_0 := Sref08_Same_0.mk x.1.1 x.2.1.1 x.2.2.1.1
noncomputable def tAref08_Same_0 : Tms U (((List Int) × Unit) × ((List Int) × Unit) × (Int × Unit) × Unit) := tO 0 (cPair (cSl 3) (cUnit)) (tO 1 (cPair (cSl 3) (cUnit)) (tO 5 (cPair (cInt .i64) (cUnit)) (tNil)))
noncomputable def tBref08_Same_0 : Bls U (Unit) := bNil
noncomputable def eSref08_Same_0 (s : Sref08_Same_0) : St U := { tm := [(0, .v (vO (cPair (cSl 3) (cUnit)) (s.t0, ()))), (1, .v (vO (cPair (cSl 3) (cUnit)) (s.t1, ()))), (5, .v (vO (cPair (cInt .i64) (cUnit)) (s.t5, ())))], hp := [] }
noncomputable def xSref08_Same_0 : (Bool ⊕ Unit) → Ex × St U
  | .inl r => (.ret, { tm := [(4, .v (vO (cPair cBool (cUnit)) (r, ())))], hp := [] })
  | .inr r => (.exit 0, { tm := [], hp := [] })
noncomputable def xTref08_Same_0 (y : (Bool ⊕ Unit)) : Tree (Ex × St U) := .ite y.isLeft (.opt Bool y.getLeft? fun r => .leaf (.ret, { tm := [(4, .v (vO (cPair cBool (cUnit)) (r, ())))], hp := [] })) (.opt Unit y.getRight? fun r => .leaf (.exit 0, { tm := [], hp := [] }))
noncomputable def href08_Same_0 : Hd := { keep := [0, 1, 5], xkeep := [4], own := false }
noncomputable def Eref08_Same : Env U := { P := Try.prog, cd := cd, fns := fns13, lps := (addL 0 href08_Same_0 (mkLoop tAref08_Same_0 tBref08_Same_0 Pref08_Same_0 (Lref08_Same_0 none) xTref08_Same_0) noL), frz := fun _r => false, nt := 26, n0 := 0 }
noncomputable def Bref08_Same_0 : Code := (loopAt (Try.f14.body.getD .skip) 0 0).getD .skip
theorem roundref08_Same_0 (s : Sref08_Same_0) : round Eref08_Same href08_Same_0 Bref08_Same_0 0 (eSref08_Same_0 s) = (Wref08_Same_0 s).map (sumE eSref08_Same_0 xSref08_Same_0) := by kernel_rfl
theorem lpref08_Same_0 : LpOk Eref08_Same Bref08_Same_0 0 := mkLoop_ok (A := tAref08_Same_0) (B := tBref08_Same_0) (f := Pref08_Same_0) (L := Lref08_Same_0 none) (tO_ok (cPair_ok (cSl_ok 3) cUnit_ok) (tO_ok (cPair_ok (cSl_ok 3) cUnit_ok) (tO_ok (cPair_ok (cInt_ok .i64) cUnit_ok) tNil_ok))) bNil_ok (enc := eSref08_Same_0) (out := xTref08_Same_0) (outS := xSref08_Same_0) (step := Wref08_Same_0) (fun _ => rfl) (fun _ _ => by kernel_rfl) (by kernel_rfl) (fun b => by cases b <;> rfl) roundref08_Same_0
theorem runref08_Same (x : (List Int) × (List Int) × Unit) (g : Unit) : execF Eref08_Same Try.f14 (Aref08_Same.enc x) (bNil.enc g) = (Tref08_Same none x.1 x.2.1).map Rref08_Same := by kernel_rfl
theorem okref08_Same : FnOk Try.prog cd 14 Sref08_Same := mk_ok (E := Eref08_Same) cd_ok fns13_ok Try.func14 (by kernel_rfl) (loops_of (addL_ok lpref08_Same_0 noL_ok)) (aO_ok (cSl_ok 3) (aO_ok (cSl_ok 3) (aNil_ok))) bNil_ok (T := fun x _ => Tref08_Same none x.1 x.2.1) (fun _ _ => rfl) runref08_Same
noncomputable def fns14 := addF 14 true Sref08_Same fns13
theorem fns14_ok : ∀ f q t, fns14 f = some (q, t) → FnOk Try.prog cd f t := addF_ok okref08_Same fns13_ok
/-- emulator/memory.within -/
noncomputable def Tmemory_within (x0 : (List Int)) (x1 : Int) (x2 : Int) : Tree Bool :=
  .ite (decide ((0 : Int) ≤ x1))
    (.ite (decide ((0 : Int) ≤ x2))
      (.ite (decide (x1 ≤ (IntKind.wrap .i64 ((2 : Int) * (x0.length : Int)))))
        (.leaf (decide (x2 ≤ (IntKind.wrap .i64 ((IntKind.wrap .i64 ((2 : Int) * (x0.length : Int))) - x1)))))
        (.leaf (false)))
      (.leaf (false)))
    (.leaf (false))
noncomputable def memory_within (x0 : (List Int)) (x1 : Int) (x2 : Int) : Option Bool := (Tmemory_within x0 x1 x2).run
noncomputable def Amemory_within : Arg U ((List Int) × Int × Int × Unit) := aO (cSl 3) (aO (cInt .i64) (aO (cInt .i64) (aNil)))
noncomputable def Rmemory_within (r : Bool) : List (V U) × List (Blk U) := ([vO cBool r], [])
noncomputable def Smemory_within : List (V U) → List (Blk U) → Option (FnOut U) := mkSpec Amemory_within bNil (fun x _ => memory_within x.1 x.2.1 x.2.2.1) Rmemory_within
noncomputable def Ememory_within : Env U := { P := Try.prog, cd := cd, fns := fns14, lps := noL, frz := fun _r => false, nt := 29, n0 := 0 }
theorem runmemory_within (x : (List Int) × Int × Int × Unit) (g : Unit) : execF Ememory_within Try.f39 (Amemory_within.enc x) (bNil.enc g) = (Tmemory_within x.1 x.2.1 x.2.2.1).map Rmemory_within := by kernel_rfl
theorem okmemory_within : FnOk Try.prog cd 39 Smemory_within := mk_ok (E := Ememory_within) cd_ok fns14_ok Try.func39 (by kernel_rfl) (noLoops_body (by kernel_rfl)) (aO_ok (cSl_ok 3) (aO_ok (cInt_ok .i64) (aO_ok (cInt_ok .i64) (aNil_ok)))) bNil_ok (T := fun x _ => Tmemory_within x.1 x.2.1 x.2.2.1) (fun _ _ => rfl) runmemory_within
noncomputable def fns39 := addF 39 true Smemory_within fns14
theorem fns39_ok : ∀ f q t, fns39 f = some (q, t) → FnOk Try.prog cd f t := addF_ok okmemory_within fns14_ok
/-- emulator/memory.Bytes -/
structure Smemory_Bytes_0 where
  t0 : (List Int)
  t1 : Int
  t19 : Int
  t20 : Int
  b0 : (List Int)
noncomputable def Wmemory_Bytes_0 (s : Smemory_Bytes_0) : Tree (Smemory_Bytes_0 ⊕ (List Int)) :=
  .ite (decide (s.t20 < s.t19))
    (.ite (decide ((2 : Int) = 0))
      .fail
      (.ite (decide (0 ≤ IntKind.wrap .i64 (((IntKind.wrap .i64 (s.t1 + s.t20))).tdiv (2 : Int))))
        (.opt Int (s.t0[(IntKind.wrap .i64 (((IntKind.wrap .i64 (s.t1 + s.t20))).tdiv (2 : Int))).toNat]?) fun y91 =>
          .ite (decide ((2 : Int) = 0))
            .fail
            (.ite (decide (0 ≤ (IntKind.wrap .i64 ((((IntKind.wrap .i64 (s.t1 + s.t20))).tmod (2 : Int)) * (8 : Int)))))
              (.ite (decide (0 ≤ s.t20))
                (.ite (decide (s.t20 < (s.b0.length : Int)))
                  (.opt Int (s.b0[(s.t20).toNat]?) fun y92 =>
                    .leaf (.inl (Smemory_Bytes_0.mk s.t0 s.t1 s.t19 (IntKind.wrap .i64 (s.t20 + (1 : Int))) (s.b0.set ((s.t20).toNat) (IntKind.wrap .u8 ((y91).fdiv (2 ^ (min ((IntKind.wrap .i64 ((((IntKind.wrap .i64 (s.t1 + s.t20))).tmod (2 : Int)) * (8 : Int)))).toNat 64))))))))
                  .fail)
                .fail)
              .fail))
        .fail))
    (.leaf (.inr s.b0))
noncomputable def Lmemory_Bytes_0 (q : Option Nat) (s : Smemory_Bytes_0) : Option (List Int) := limQ q (fun s => (Wmemory_Bytes_0 s).run) s
theorem leLmemory_Bytes_0 (k : Nat) (s : Smemory_Bytes_0) : Le (Lmemory_Bytes_0 (some k) s) (Lmemory_Bytes_0 none s) := limQ_le (fun _ => Le.rfl) s
noncomputable def Tmemory_Bytes (q : Option Nat) (x0 : (List Int)) (x1 : Int) (x2 : Int) : Tree ((List UInt8) × Int) :=
  .opt Bool (memory_within x0 x1 x2) fun r90 =>
    .ite (!r90)
      (.leaf (([], (2 : Int))))
      (.ite (decide (x2 = x2))
        (.ite (decide (0 ≤ x2))
          (.ite (decide ((1 : Int) * x2 ≤ 281474976710656))
            (.opt (List Int) (Lmemory_Bytes_0 q (Smemory_Bytes_0.mk x0 x1 ((List.replicate (x2).toNat (0 : Int)).length : Int) (0 : Int) (List.replicate (x2).toNat (0 : Int)))) fun l93 =>
              .leaf ((l93.map fun x => UInt8.ofNat x.toNat, (0 : Int))))
            .fail)
          .fail)
        .fail)
noncomputable def memory_Bytes (q : Option Nat) (x0 : (List Int)) (x1 : Int) (x2 : Int) : Option ((List UInt8) × Int) := (Tmemory_Bytes q x0 x1 x2).run
theorem lememory_Bytes (k : Nat) (x0 : (List Int)) (x1 : Int) (x2 : Int) : Le (memory_Bytes (some k) x0 x1 x2) (memory_Bytes none x0 x1 x2) := (TLe.opt Le.rfl fun _ => (TLe.ite TLe.rfl (TLe.ite (TLe.ite (TLe.ite (TLe.opt (leLmemory_Bytes_0 k _) fun _ => TLe.rfl) TLe.rfl) TLe.rfl) TLe.rfl)))
noncomputable def Amemory_Bytes : Arg U ((List Int) × Int × Int × Unit) := aO (cSl 3) (aO (cInt .i64) (aO (cInt .i64) (aNil)))
noncomputable def Rmemory_Bytes (r : ((List UInt8) × Int)) : List (V U) × List (Blk U) := ([vO cStr r.1, vO (cInt .i64) r.2], [])
noncomputable def Smemory_Bytes : List (V U) → List (Blk U) → Option (FnOut U) := mkSpec Amemory_Bytes bNil (fun x _ => memory_Bytes none x.1 x.2.1 x.2.2.1) Rmemory_Bytes
noncomputable def Pmemory_Bytes_0 (x : ((List Int) × Unit) × (Int × Unit) × (Unit) × (Int × Unit) × (Int × Unit) × Unit) (g : (List Int) × Unit) : Smemory_Bytes_0 := Smemory_Bytes_0.mk x.1.1 x.2.1.1 x.2.2.2.1.1 x.2.2.2.2.1.1 g.1
noncomputable def tAmemory_Bytes_0 : Tms U (((List Int) × Unit) × (Int × Unit) × (Unit) × (Int × Unit) × (Int × Unit) × Unit) := tO 0 (cPair (cSl 3) (cUnit)) (tO 1 (cPair (cInt .i64) (cUnit)) (tO 8 (cK (.row 0 0) (cUnit)) (tO 19 (cPair (cInt .i64) (cUnit)) (tO 20 (cPair (cInt .i64) (cUnit)) (tNil)))))
noncomputable def tBmemory_Bytes_0 : Bls U ((List Int) × Unit) := bRv 5 0 (bNil)
noncomputable def eSmemory_Bytes_0 (s : Smemory_Bytes_0) : St U := { tm := [(0, .v (vO (cPair (cSl 3) (cUnit)) (s.t0, ()))), (1, .v (vO (cPair (cInt .i64) (cUnit)) (s.t1, ()))), (8, .v (vO (cK (.row 0 0) (cUnit)) (()))), (19, .v (vO (cPair (cInt .i64) (cUnit)) (s.t19, ()))), (20, .v (vO (cPair (cInt .i64) (cUnit)) (s.t20, ())))], hp := [.row 5 0 s.b0] }
noncomputable def xSmemory_Bytes_0 (r : (List Int)) : Ex × St U := (.exit 0, { tm := [(8, .v (vO (cK (.row 0 0) (cUnit)) (())))], hp := [.row 5 0 r] })
noncomputable def xTmemory_Bytes_0 (r : (List Int)) : Tree (Ex × St U) := .leaf (xSmemory_Bytes_0 r)
noncomputable def hmemory_Bytes_0 : Hd := { keep := [0, 1, 8, 19, 20], xkeep := [6, 7, 8], own := false }
noncomputable def Ememory_Bytes : Env U := { P := Try.prog, cd := cd, fns := fns39, lps := (addL 0 hmemory_Bytes_0 (mkLoop tAmemory_Bytes_0 tBmemory_Bytes_0 Pmemory_Bytes_0 (Lmemory_Bytes_0 none) xTmemory_Bytes_0) noL), frz := fun _r => false, nt := 42, n0 := 0 }
noncomputable def Bmemory_Bytes_0 : Code := (loopAt (Try.f16.body.getD .skip) 0 0).getD .skip
theorem roundmemory_Bytes_0 (s : Smemory_Bytes_0) : round Ememory_Bytes hmemory_Bytes_0 Bmemory_Bytes_0 0 (eSmemory_Bytes_0 s) = (Wmemory_Bytes_0 s).map (sumE eSmemory_Bytes_0 xSmemory_Bytes_0) := by kernel_rfl
theorem lpmemory_Bytes_0 : LpOk Ememory_Bytes Bmemory_Bytes_0 0 := mkLoop_ok (A := tAmemory_Bytes_0) (B := tBmemory_Bytes_0) (f := Pmemory_Bytes_0) (L := Lmemory_Bytes_0 none) (tO_ok (cPair_ok (cSl_ok 3) cUnit_ok) (tO_ok (cPair_ok (cInt_ok .i64) cUnit_ok) (tO_ok (cK_ok cUnit_ok) (tO_ok (cPair_ok (cInt_ok .i64) cUnit_ok) (tO_ok (cPair_ok (cInt_ok .i64) cUnit_ok) tNil_ok))))) (bRv_ok bNil_ok) (enc := eSmemory_Bytes_0) (out := xTmemory_Bytes_0) (outS := xSmemory_Bytes_0) (step := Wmemory_Bytes_0) (fun _ => rfl) (fun _ _ => by kernel_rfl) (by kernel_rfl) (fun _ => rfl) roundmemory_Bytes_0
theorem runmemory_Bytes (x : (List Int) × Int × Int × Unit) (g : Unit) : execF Ememory_Bytes Try.f16 (Amemory_Bytes.enc x) (bNil.enc g) = (Tmemory_Bytes none x.1 x.2.1 x.2.2.1).map Rmemory_Bytes := by kernel_rfl
theorem okmemory_Bytes : FnOk Try.prog cd 16 Smemory_Bytes := mk_ok (E := Ememory_Bytes) cd_ok fns39_ok Try.func16 (by kernel_rfl) (loops_of (addL_ok lpmemory_Bytes_0 noL_ok)) (aO_ok (cSl_ok 3) (aO_ok (cInt_ok .i64) (aO_ok (cInt_ok .i64) (aNil_ok)))) bNil_ok (T := fun x _ => Tmemory_Bytes none x.1 x.2.1 x.2.2.1) (fun _ _ => rfl) runmemory_Bytes
noncomputable def fns16 := addF 16 true Smemory_Bytes fns39
theorem fns16_ok : ∀ f q t, fns16 f = some (q, t) → FnOk Try.prog cd f t := addF_ok okmemory_Bytes fns39_ok
/-- emulator/memory.Store -/
structure Smemory_Store_0 where
  t1 : Int
  t2 : (List UInt8)
  t21 : Int
  t22 : Int
  b0 : (List Int)
noncomputable def Wmemory_Store_0 (s : Smemory_Store_0) : Tree (Smemory_Store_0 ⊕ (List Int)) :=
  .ite (decide (s.t22 < s.t21))
    (.ite (decide ((2 : Int) = 0))
      .fail
      (.ite (decide ((2 : Int) = 0))
        .fail
        (.ite (decide ((2 : Int) = 0))
          .fail
          (.ite (decide (0 ≤ IntKind.wrap .i64 (((IntKind.wrap .i64 (s.t1 + s.t22))).tdiv (2 : Int))))
            (.ite (decide (IntKind.wrap .i64 (((IntKind.wrap .i64 (s.t1 + s.t22))).tdiv (2 : Int)) < (s.b0.length : Int)))
              (.opt Int (s.b0[(IntKind.wrap .i64 (((IntKind.wrap .i64 (s.t1 + s.t22))).tdiv (2 : Int))).toNat]?) fun y96 =>
                .ite (decide (0 ≤ (IntKind.wrap .i64 ((((IntKind.wrap .i64 (s.t1 + s.t22))).tmod (2 : Int)) * (8 : Int)))))
                  (.ite (decide (0 ≤ s.t22))
                    (.opt UInt8 (s.t2[(s.t22).toNat]?) fun y97 =>
                      .ite (decide (0 ≤ (IntKind.wrap .i64 ((((IntKind.wrap .i64 (s.t1 + s.t22))).tmod (2 : Int)) * (8 : Int)))))
                        (.ite (decide (0 ≤ IntKind.wrap .i64 (((IntKind.wrap .i64 (s.t1 + s.t22))).tdiv (2 : Int))))
                          (.ite (decide (IntKind.wrap .i64 (((IntKind.wrap .i64 (s.t1 + s.t22))).tdiv (2 : Int)) < (s.b0.length : Int)))
                            (.opt Int (s.b0[(IntKind.wrap .i64 (((IntKind.wrap .i64 (s.t1 + s.t22))).tdiv (2 : Int))).toNat]?) fun y98 =>
                              .leaf (.inl (Smemory_Store_0.mk s.t1 s.t2 s.t21 (IntKind.wrap .i64 (s.t22 + (1 : Int))) (s.b0.set ((IntKind.wrap .i64 (((IntKind.wrap .i64 (s.t1 + s.t22))).tdiv (2 : Int))).toNat) (IntKind.wrap .i64 (((BitVec.ofInt 64 (IntKind.wrap .i64 (((BitVec.ofInt 64 y96 &&& ~~~BitVec.ofInt 64 (IntKind.wrap .i64 ((255 : Int) * 2 ^ (min ((IntKind.wrap .i64 ((((IntKind.wrap .i64 (s.t1 + s.t22))).tmod (2 : Int)) * (8 : Int)))).toNat 64)))).toNat : Int))) ||| BitVec.ofInt 64 (IntKind.wrap .i64 ((IntKind.wrap .i64 (y97.toNat : Int)) * 2 ^ (min ((IntKind.wrap .i64 ((((IntKind.wrap .i64 (s.t1 + s.t22))).tmod (2 : Int)) * (8 : Int)))).toNat 64)))).toNat : Int)))))))
                            .fail)
                          .fail)
                        .fail)
                    .fail)
                  .fail)
              .fail)
            .fail))))
    (.leaf (.inr s.b0))
noncomputable def Lmemory_Store_0 (q : Option Nat) (s : Smemory_Store_0) : Option (List Int) := limQ q (fun s => (Wmemory_Store_0 s).run) s
theorem leLmemory_Store_0 (k : Nat) (s : Smemory_Store_0) : Le (Lmemory_Store_0 (some k) s) (Lmemory_Store_0 none s) := limQ_le (fun _ => Le.rfl) s
noncomputable def Tmemory_Store (q : Option Nat) (x0 : (List Int)) (x1 : Int) (x2 : (List UInt8)) : Tree ((List Int) × Int) :=
  .opt Bool (memory_within x0 x1 (x2.length : Int)) fun r94 =>
    .ite (!r94)
      (.leaf (([], (2 : Int))))
      (.opt (List Int) (memory_copied x0) fun r95 =>
        .opt (List Int) (Lmemory_Store_0 q (Smemory_Store_0.mk x1 x2 (x2.length : Int) (0 : Int) r95)) fun l99 =>
          .leaf ((l99, (0 : Int))))
noncomputable def memory_Store (q : Option Nat) (x0 : (List Int)) (x1 : Int) (x2 : (List UInt8)) : Option ((List Int) × Int) := (Tmemory_Store q x0 x1 x2).run
theorem lememory_Store (k : Nat) (x0 : (List Int)) (x1 : Int) (x2 : (List UInt8)) : Le (memory_Store (some k) x0 x1 x2) (memory_Store none x0 x1 x2) := (TLe.opt Le.rfl fun _ => (TLe.ite TLe.rfl (TLe.opt Le.rfl fun _ => (TLe.opt (leLmemory_Store_0 k _) fun _ => TLe.rfl))))
noncomputable def Amemory_Store : Arg U ((List Int) × Int × (List UInt8) × Unit) := aO (cSl 3) (aO (cInt .i64) (aO cStr (aNil)))
noncomputable def Rmemory_Store (r : ((List Int) × Int)) : List (V U) × List (Blk U) := ([vO (cSl 3) r.1, vO (cInt .i64) r.2], [])
noncomputable def Smemory_Store : List (V U) → List (Blk U) → Option (FnOut U) := mkSpec Amemory_Store bNil (fun x _ => memory_Store none x.1 x.2.1 x.2.2.1) Rmemory_Store
noncomputable def Pmemory_Store_0 (x : (Int × Unit) × ((List UInt8) × Unit) × (Unit) × (Int × Unit) × (Int × Unit) × Unit) (g : (List Int) × Unit) : Smemory_Store_0 := Smemory_Store_0.mk x.1.1 x.2.1.1 x.2.2.2.1.1 x.2.2.2.2.1.1 g.1
noncomputable def tAmemory_Store_0 : Tms U ((Int × Unit) × ((List UInt8) × Unit) × (Unit) × (Int × Unit) × (Int × Unit) × Unit) := tO 1 (cPair (cInt .i64) (cUnit)) (tO 2 (cPair cStr (cUnit)) (tO 8 (cK (.row 0 0) (cUnit)) (tO 21 (cPair (cInt .i64) (cUnit)) (tO 22 (cPair (cInt .i64) (cUnit)) (tNil)))))
noncomputable def tBmemory_Store_0 : Bls U ((List Int) × Unit) := bRv 3 0 (bNil)
noncomputable def eSmemory_Store_0 (s : Smemory_Store_0) : St U := { tm := [(1, .v (vO (cPair (cInt .i64) (cUnit)) (s.t1, ()))), (2, .v (vO (cPair cStr (cUnit)) (s.t2, ()))), (8, .v (vO (cK (.row 0 0) (cUnit)) (()))), (21, .v (vO (cPair (cInt .i64) (cUnit)) (s.t21, ()))), (22, .v (vO (cPair (cInt .i64) (cUnit)) (s.t22, ())))], hp := [.row 3 0 s.b0] }
noncomputable def xSmemory_Store_0 (r : (List Int)) : Ex × St U := (.exit 0, { tm := [(8, .v (vO (cK (.row 0 0) (cUnit)) (())))], hp := [.row 3 0 r] })
noncomputable def xTmemory_Store_0 (r : (List Int)) : Tree (Ex × St U) := .leaf (xSmemory_Store_0 r)
noncomputable def hmemory_Store_0 : Hd := { keep := [1, 2, 8, 21, 22], xkeep := [6, 7, 8], own := false }
noncomputable def Ememory_Store : Env U := { P := Try.prog, cd := cd, fns := (addF 33 false (Smemory_copied) fns16), lps := (addL 0 hmemory_Store_0 (mkLoop tAmemory_Store_0 tBmemory_Store_0 Pmemory_Store_0 (Lmemory_Store_0 none) xTmemory_Store_0) noL), frz := fun _r => false, nt := 52, n0 := 0 }
noncomputable def Bmemory_Store_0 : Code := (loopAt (Try.f18.body.getD .skip) 0 0).getD .skip
theorem roundmemory_Store_0 (s : Smemory_Store_0) : round Ememory_Store hmemory_Store_0 Bmemory_Store_0 0 (eSmemory_Store_0 s) = (Wmemory_Store_0 s).map (sumE eSmemory_Store_0 xSmemory_Store_0) := by kernel_rfl
theorem lpmemory_Store_0 : LpOk Ememory_Store Bmemory_Store_0 0 := mkLoop_ok (A := tAmemory_Store_0) (B := tBmemory_Store_0) (f := Pmemory_Store_0) (L := Lmemory_Store_0 none) (tO_ok (cPair_ok (cInt_ok .i64) cUnit_ok) (tO_ok (cPair_ok cStr_ok cUnit_ok) (tO_ok (cK_ok cUnit_ok) (tO_ok (cPair_ok (cInt_ok .i64) cUnit_ok) (tO_ok (cPair_ok (cInt_ok .i64) cUnit_ok) tNil_ok))))) (bRv_ok bNil_ok) (enc := eSmemory_Store_0) (out := xTmemory_Store_0) (outS := xSmemory_Store_0) (step := Wmemory_Store_0) (fun _ => rfl) (fun _ _ => by kernel_rfl) (by kernel_rfl) (fun _ => rfl) roundmemory_Store_0
theorem runmemory_Store (x : (List Int) × Int × (List UInt8) × Unit) (g : Unit) : execF Ememory_Store Try.f18 (Amemory_Store.enc x) (bNil.enc g) = (Tmemory_Store none x.1 x.2.1 x.2.2.1).map Rmemory_Store := by kernel_rfl
theorem okmemory_Store : FnOk Try.prog cd 18 Smemory_Store := mk_ok (E := Ememory_Store) cd_ok (addF_ok okmemory_copied fns16_ok) Try.func18 (by kernel_rfl) (loops_of (addL_ok lpmemory_Store_0 noL_ok)) (aO_ok (cSl_ok 3) (aO_ok (cInt_ok .i64) (aO_ok cStr_ok (aNil_ok)))) bNil_ok (T := fun x _ => Tmemory_Store none x.1 x.2.1 x.2.2.1) (fun _ _ => rfl) runmemory_Store
noncomputable def fns18 := addF 18 true Smemory_Store fns16
theorem fns18_ok : ∀ f q t, fns18 f = some (q, t) → FnOk Try.prog cd f t := addF_ok okmemory_Store fns16_ok
/-- emulator/memory.Move -/
noncomputable def Tmemory_Move (q : Option Nat) (x0 : (List Int)) (x1 : Int) (x2 : Int) (x3 : Int) : Tree ((List Int) × Int) :=
  .opt Bool (memory_within x0 x1 x3) fun r100 =>
    .ite (!r100)
      (.leaf (([], (2 : Int))))
      (.opt ((List UInt8) × Int) (memory_Bytes q x0 x2 x3) fun r101 =>
        .ite (!decide (r101.2 = (0 : Int)))
          (.leaf (([], r101.2)))
          (.opt ((List Int) × Int) (memory_Store q x0 x1 r101.1) fun r102 =>
            .leaf ((r102.1, r102.2))))
noncomputable def memory_Move (q : Option Nat) (x0 : (List Int)) (x1 : Int) (x2 : Int) (x3 : Int) : Option ((List Int) × Int) := (Tmemory_Move q x0 x1 x2 x3).run
theorem lememory_Move (k : Nat) (x0 : (List Int)) (x1 : Int) (x2 : Int) (x3 : Int) : Le (memory_Move (some k) x0 x1 x2 x3) (memory_Move none x0 x1 x2 x3) := (TLe.opt Le.rfl fun _ => (TLe.ite TLe.rfl (TLe.opt (lememory_Bytes k _ _ _) fun _ => (TLe.ite TLe.rfl (TLe.opt (lememory_Store k _ _ _) fun _ => TLe.rfl)))))
noncomputable def Amemory_Move : Arg U ((List Int) × Int × Int × Int × Unit) := aO (cSl 3) (aO (cInt .i64) (aO (cInt .i64) (aO (cInt .i64) (aNil))))
noncomputable def Rmemory_Move (r : ((List Int) × Int)) : List (V U) × List (Blk U) := ([vO (cSl 3) r.1, vO (cInt .i64) r.2], [])
noncomputable def Smemory_Move : List (V U) → List (Blk U) → Option (FnOut U) := mkSpec Amemory_Move bNil (fun x _ => memory_Move none x.1 x.2.1 x.2.2.1 x.2.2.2.1) Rmemory_Move
noncomputable def Ememory_Move : Env U := { P := Try.prog, cd := cd, fns := fns18, lps := noL, frz := fun _r => false, nt := 33, n0 := 0 }
theorem runmemory_Move (x : (List Int) × Int × Int × Int × Unit) (g : Unit) : execF Ememory_Move Try.f20 (Amemory_Move.enc x) (bNil.enc g) = (Tmemory_Move none x.1 x.2.1 x.2.2.1 x.2.2.2.1).map Rmemory_Move := by kernel_rfl
theorem okmemory_Move : FnOk Try.prog cd 20 Smemory_Move := mk_ok (E := Ememory_Move) cd_ok fns18_ok Try.func20 (by kernel_rfl) (noLoops_body (by kernel_rfl)) (aO_ok (cSl_ok 3) (aO_ok (cInt_ok .i64) (aO_ok (cInt_ok .i64) (aO_ok (cInt_ok .i64) (aNil_ok))))) bNil_ok (T := fun x _ => Tmemory_Move none x.1 x.2.1 x.2.2.1 x.2.2.2.1) (fun _ _ => rfl) runmemory_Move
noncomputable def fns20 := addF 20 true Smemory_Move fns18
theorem fns20_ok : ∀ f q t, fns20 f = some (q, t) → FnOk Try.prog cd f t := addF_ok okmemory_Move fns18_ok
/-- emulator/memory.sized -/
noncomputable def Tmemory_sized (x0 : Int) : Tree Bool :=
  .ite (decide ((256 : Int) ≤ x0))
    (.ite (decide (x0 ≤ (32768 : Int)))
      (.ite (decide ((64 : Int) = 0))
        .fail
        (.leaf (decide (((x0).tmod (64 : Int)) = (0 : Int)))))
      (.leaf (false)))
    (.leaf (false))
noncomputable def memory_sized (x0 : Int) : Option Bool := (Tmemory_sized x0).run
noncomputable def Amemory_sized : Arg U (Int × Unit) := aO (cInt .i64) (aNil)
noncomputable def Rmemory_sized (r : Bool) : List (V U) × List (Blk U) := ([vO cBool r], [])
noncomputable def Smemory_sized : List (V U) → List (Blk U) → Option (FnOut U) := mkSpec Amemory_sized bNil (fun x _ => memory_sized x.1) Rmemory_sized
noncomputable def Ememory_sized : Env U := { P := Try.prog, cd := cd, fns := fns20, lps := noL, frz := fun _r => false, nt := 14, n0 := 0 }
theorem runmemory_sized (x : Int × Unit) (g : Unit) : execF Ememory_sized Try.f41 (Amemory_sized.enc x) (bNil.enc g) = (Tmemory_sized x.1).map Rmemory_sized := by kernel_rfl
theorem okmemory_sized : FnOk Try.prog cd 41 Smemory_sized := mk_ok (E := Ememory_sized) cd_ok fns20_ok Try.func41 (by kernel_rfl) (noLoops_body (by kernel_rfl)) (aO_ok (cInt_ok .i64) (aNil_ok)) bNil_ok (T := fun x _ => Tmemory_sized x.1) (fun _ _ => rfl) runmemory_sized
noncomputable def fns41 := addF 41 true Smemory_sized fns20
theorem fns41_ok : ∀ f q t, fns41 f = some (q, t) → FnOk Try.prog cd f t := addF_ok okmemory_sized fns20_ok
/-- emulator/memory.New -/
noncomputable def Tmemory_New (x0 : Int) : Tree ((List Int) × Int) :=
  .opt Bool (memory_sized x0) fun r103 =>
    .ite (!r103)
      (.leaf (([], (1 : Int))))
      (.ite (decide ((2 : Int) = 0))
        .fail
        (.ite (decide (IntKind.wrap .i64 ((x0).tdiv (2 : Int)) = IntKind.wrap .i64 ((x0).tdiv (2 : Int))))
          (.ite (decide (0 ≤ IntKind.wrap .i64 ((x0).tdiv (2 : Int))))
            (.ite (decide ((8 : Int) * (IntKind.wrap .i64 ((x0).tdiv (2 : Int))) ≤ 281474976710656))
              (.leaf ((List.replicate (IntKind.wrap .i64 ((x0).tdiv (2 : Int))).toNat (0 : Int), (0 : Int))))
              .fail)
            .fail)
          .fail))
noncomputable def memory_New (x0 : Int) : Option ((List Int) × Int) := (Tmemory_New x0).run
noncomputable def Amemory_New : Arg U (Int × Unit) := aO (cInt .i64) (aNil)
noncomputable def Rmemory_New (r : ((List Int) × Int)) : List (V U) × List (Blk U) := ([vO (cSl 3) r.1, vO (cInt .i64) r.2], [])
noncomputable def Smemory_New : List (V U) → List (Blk U) → Option (FnOut U) := mkSpec Amemory_New bNil (fun x _ => memory_New x.1) Rmemory_New
noncomputable def Ememory_New : Env U := { P := Try.prog, cd := cd, fns := fns41, lps := noL, frz := fun _r => false, nt := 10, n0 := 0 }
theorem runmemory_New (x : Int × Unit) (g : Unit) : execF Ememory_New Try.f22 (Amemory_New.enc x) (bNil.enc g) = (Tmemory_New x.1).map Rmemory_New := by kernel_rfl
theorem okmemory_New : FnOk Try.prog cd 22 Smemory_New := mk_ok (E := Ememory_New) cd_ok fns41_ok Try.func22 (by kernel_rfl) (noLoops_body (by kernel_rfl)) (aO_ok (cInt_ok .i64) (aNil_ok)) bNil_ok (T := fun x _ => Tmemory_New x.1) (fun _ _ => rfl) runmemory_New
noncomputable def fns22 := addF 22 true Smemory_New fns41
theorem fns22_ok : ∀ f q t, fns22 f = some (q, t) → FnOk Try.prog cd f t := addF_ok okmemory_New fns41_ok
/-- cmp.isNaN[int] -/
noncomputable def Tcmp_isNaN_int (x0 : Int) : Tree Bool :=
  .leaf (!decide (x0 = x0))
noncomputable def cmp_isNaN_int (x0 : Int) : Option Bool := (Tcmp_isNaN_int x0).run
noncomputable def Acmp_isNaN_int : Arg U (Int × Unit) := aO (cInt .i64) (aNil)
noncomputable def Rcmp_isNaN_int (r : Bool) : List (V U) × List (Blk U) := ([vO cBool r], [])
noncomputable def Scmp_isNaN_int : List (V U) → List (Blk U) → Option (FnOut U) := mkSpec Acmp_isNaN_int bNil (fun x _ => cmp_isNaN_int x.1) Rcmp_isNaN_int
noncomputable def Ecmp_isNaN_int : Env U := { P := Try.prog, cd := cd, fns := fns22, lps := noL, frz := fun _r => false, nt := 6, n0 := 0 }
theorem runcmp_isNaN_int (x : Int × Unit) (g : Unit) : execF Ecmp_isNaN_int Try.f51 (Acmp_isNaN_int.enc x) (bNil.enc g) = (Tcmp_isNaN_int x.1).map Rcmp_isNaN_int := by kernel_rfl
theorem okcmp_isNaN_int : FnOk Try.prog cd 51 Scmp_isNaN_int := mk_ok (E := Ecmp_isNaN_int) cd_ok fns22_ok Try.func51 (by kernel_rfl) (noLoops_body (by kernel_rfl)) (aO_ok (cInt_ok .i64) (aNil_ok)) bNil_ok (T := fun x _ => Tcmp_isNaN_int x.1) (fun _ _ => rfl) runcmp_isNaN_int
noncomputable def fns51 := addF 51 true Scmp_isNaN_int fns22
theorem fns51_ok : ∀ f q t, fns51 f = some (q, t) → FnOk Try.prog cd f t := addF_ok okcmp_isNaN_int fns22_ok
/-- cmp.Less[int] -/
noncomputable def Tcmp_Less_int (x0 : Int) (x1 : Int) : Tree Bool :=
  .opt Bool (cmp_isNaN_int x0) fun r104 =>
    .ite (r104)
      (.opt Bool (cmp_isNaN_int x1) fun r105 =>
        .ite (!r105)
          (.leaf (true))
          (.leaf (decide (x0 < x1))))
      (.leaf (decide (x0 < x1)))
noncomputable def cmp_Less_int (x0 : Int) (x1 : Int) : Option Bool := (Tcmp_Less_int x0 x1).run
noncomputable def Acmp_Less_int : Arg U (Int × Int × Unit) := aO (cInt .i64) (aO (cInt .i64) (aNil))
noncomputable def Rcmp_Less_int (r : Bool) : List (V U) × List (Blk U) := ([vO cBool r], [])
noncomputable def Scmp_Less_int : List (V U) → List (Blk U) → Option (FnOut U) := mkSpec Acmp_Less_int bNil (fun x _ => cmp_Less_int x.1 x.2.1) Rcmp_Less_int
noncomputable def Ecmp_Less_int : Env U := { P := Try.prog, cd := cd, fns := fns51, lps := noL, frz := fun _r => false, nt := 17, n0 := 0 }
theorem runcmp_Less_int (x : Int × Int × Unit) (g : Unit) : execF Ecmp_Less_int Try.f47 (Acmp_Less_int.enc x) (bNil.enc g) = (Tcmp_Less_int x.1 x.2.1).map Rcmp_Less_int := by kernel_rfl
theorem okcmp_Less_int : FnOk Try.prog cd 47 Scmp_Less_int := mk_ok (E := Ecmp_Less_int) cd_ok fns51_ok Try.func47 (by kernel_rfl) (noLoops_body (by kernel_rfl)) (aO_ok (cInt_ok .i64) (aO_ok (cInt_ok .i64) (aNil_ok))) bNil_ok (T := fun x _ => Tcmp_Less_int x.1 x.2.1) (fun _ _ => rfl) runcmp_Less_int
noncomputable def fns47 := addF 47 true Scmp_Less_int fns51
theorem fns47_ok : ∀ f q t, fns47 f = some (q, t) → FnOk Try.prog cd f t := addF_ok okcmp_Less_int fns51_ok
/-- slices.isNaN[int] -/
noncomputable def Tslices_isNaN_int (x0 : Int) : Tree Bool :=
  .leaf (!decide (x0 = x0))
noncomputable def slices_isNaN_int (x0 : Int) : Option Bool := (Tslices_isNaN_int x0).run
noncomputable def Aslices_isNaN_int : Arg U (Int × Unit) := aO (cInt .i64) (aNil)
noncomputable def Rslices_isNaN_int (r : Bool) : List (V U) × List (Blk U) := ([vO cBool r], [])
noncomputable def Sslices_isNaN_int : List (V U) → List (Blk U) → Option (FnOut U) := mkSpec Aslices_isNaN_int bNil (fun x _ => slices_isNaN_int x.1) Rslices_isNaN_int
noncomputable def Eslices_isNaN_int : Env U := { P := Try.prog, cd := cd, fns := fns47, lps := noL, frz := fun _r => false, nt := 6, n0 := 0 }
theorem runslices_isNaN_int (x : Int × Unit) (g : Unit) : execF Eslices_isNaN_int Try.f48 (Aslices_isNaN_int.enc x) (bNil.enc g) = (Tslices_isNaN_int x.1).map Rslices_isNaN_int := by kernel_rfl
theorem okslices_isNaN_int : FnOk Try.prog cd 48 Sslices_isNaN_int := mk_ok (E := Eslices_isNaN_int) cd_ok fns47_ok Try.func48 (by kernel_rfl) (noLoops_body (by kernel_rfl)) (aO_ok (cInt_ok .i64) (aNil_ok)) bNil_ok (T := fun x _ => Tslices_isNaN_int x.1) (fun _ _ => rfl) runslices_isNaN_int
noncomputable def fns48 := addF 48 true Sslices_isNaN_int fns47
theorem fns48_ok : ∀ f q t, fns48 f = some (q, t) → FnOk Try.prog cd f t := addF_ok okslices_isNaN_int fns47_ok
/-- slices.BinarySearch[[]int,int] -/
structure Sslices_BinarySearch_int_int_0 where
  t0 : (List Int)
  t1 : Int
  t6 : Int
  t7 : Int
  t8 : Int
noncomputable def Wslices_BinarySearch_int_int_0 (s : Sslices_BinarySearch_int_int_0) : Tree (Sslices_BinarySearch_int_int_0 ⊕ ((List Int) × Int × Int × Int)) :=
  .ite (decide (s.t7 < s.t8))
    (.ite (decide (0 ≤ (1 : Int)))
      (.ite (decide (0 ≤ IntKind.wrap .i64 (((IntKind.wrap .u64 (IntKind.wrap .i64 (s.t7 + s.t8)))).fdiv (2 ^ (min ((1 : Int)).toNat 64)))))
        (.opt Int (s.t0[(IntKind.wrap .i64 (((IntKind.wrap .u64 (IntKind.wrap .i64 (s.t7 + s.t8)))).fdiv (2 ^ (min ((1 : Int)).toNat 64)))).toNat]?) fun y106 =>
          .opt Bool (cmp_Less_int y106 s.t1) fun r107 =>
            .ite (r107)
              (.leaf (.inl (Sslices_BinarySearch_int_int_0.mk s.t0 s.t1 s.t6 (IntKind.wrap .i64 ((IntKind.wrap .i64 (((IntKind.wrap .u64 (IntKind.wrap .i64 (s.t7 + s.t8)))).fdiv (2 ^ (min ((1 : Int)).toNat 64)))) + (1 : Int))) s.t8)))
              (.leaf (.inl (Sslices_BinarySearch_int_int_0.mk s.t0 s.t1 s.t6 s.t7 (IntKind.wrap .i64 (((IntKind.wrap .u64 (IntKind.wrap .i64 (s.t7 + s.t8)))).fdiv (2 ^ (min ((1 : Int)).toNat 64))))))))
        .fail)
      .fail)
    (.leaf (.inr (s.t0, s.t1, s.t6, s.t7)))
noncomputable def Lslices_BinarySearch_int_int_0 (q : Option Nat) (s : Sslices_BinarySearch_int_int_0) : Option ((List Int) × Int × Int × Int) := limQ q (fun s => (Wslices_BinarySearch_int_int_0 s).run) s
theorem leLslices_BinarySearch_int_int_0 (k : Nat) (s : Sslices_BinarySearch_int_int_0) : Le (Lslices_BinarySearch_int_int_0 (some k) s) (Lslices_BinarySearch_int_int_0 none s) := limQ_le (fun _ => Le.rfl) s
noncomputable def Tslices_BinarySearch_int_int (q : Option Nat) (x0 : (List Int)) (x1 : Int) : Tree (Int × Bool) :=
  .opt ((List Int) × Int × Int × Int) (Lslices_BinarySearch_int_int_0 q (Sslices_BinarySearch_int_int_0.mk x0 x1 (x0.length : Int) (0 : Int) (x0.length : Int))) fun l108 =>
    .ite (decide (l108.2.2.2 < l108.2.2.1))
      (.ite (decide (0 ≤ l108.2.2.2))
        (.opt Int (l108.1[(l108.2.2.2).toNat]?) fun y109 =>
          .ite (decide (y109 = l108.2.1))
            (.leaf ((l108.2.2.2, true)))
            (.ite (decide (0 ≤ l108.2.2.2))
              (.opt Int (l108.1[(l108.2.2.2).toNat]?) fun y110 =>
                .opt Bool (slices_isNaN_int y110) fun r111 =>
                  .ite (r111)
                    (.opt Bool (slices_isNaN_int l108.2.1) fun r112 =>
                      .leaf ((l108.2.2.2, r112)))
                    (.leaf ((l108.2.2.2, false))))
              .fail))
        .fail)
      (.leaf ((l108.2.2.2, false)))
noncomputable def slices_BinarySearch_int_int (q : Option Nat) (x0 : (List Int)) (x1 : Int) : Option (Int × Bool) := (Tslices_BinarySearch_int_int q x0 x1).run
theorem leslices_BinarySearch_int_int (k : Nat) (x0 : (List Int)) (x1 : Int) : Le (slices_BinarySearch_int_int (some k) x0 x1) (slices_BinarySearch_int_int none x0 x1) := (TLe.opt (leLslices_BinarySearch_int_int_0 k _) fun _ => TLe.rfl)
noncomputable def Aslices_BinarySearch_int_int : Arg U ((List Int) × Int × Unit) := aO (cSl 3) (aO (cInt .i64) (aNil))
noncomputable def Rslices_BinarySearch_int_int (r : (Int × Bool)) : List (V U) × List (Blk U) := ([vO (cInt .i64) r.1, vO cBool r.2], [])
noncomputable def Sslices_BinarySearch_int_int : List (V U) → List (Blk U) → Option (FnOut U) := mkSpec Aslices_BinarySearch_int_int bNil (fun x _ => slices_BinarySearch_int_int none x.1 x.2.1) Rslices_BinarySearch_int_int
noncomputable def Pslices_BinarySearch_int_int_0 (x : ((List Int) × Unit) × (Int × Unit) × (Int × Unit) × (Int × Unit) × (Int × Unit) × Unit) (_g : Unit) : Sslices_BinarySearch_int_int_0 := Sslices_BinarySearch_int_int_0.mk x.1.1 x.2.1.1 x.2.2.1.1 x.2.2.2.1.1 x.2.2.2.2.1.1
noncomputable def tAslices_BinarySearch_int_int_0 : Tms U (((List Int) × Unit) × (Int × Unit) × (Int × Unit) × (Int × Unit) × (Int × Unit) × Unit) := tO 0 (cPair (cSl 3) (cUnit)) (tO 1 (cPair (cInt .i64) (cUnit)) (tO 6 (cPair (cInt .i64) (cUnit)) (tO 7 (cPair (cInt .i64) (cUnit)) (tO 8 (cPair (cInt .i64) (cUnit)) (tNil)))))
noncomputable def tBslices_BinarySearch_int_int_0 : Bls U (Unit) := bNil
noncomputable def eSslices_BinarySearch_int_int_0 (s : Sslices_BinarySearch_int_int_0) : St U := { tm := [(0, .v (vO (cPair (cSl 3) (cUnit)) (s.t0, ()))), (1, .v (vO (cPair (cInt .i64) (cUnit)) (s.t1, ()))), (6, .v (vO (cPair (cInt .i64) (cUnit)) (s.t6, ()))), (7, .v (vO (cPair (cInt .i64) (cUnit)) (s.t7, ()))), (8, .v (vO (cPair (cInt .i64) (cUnit)) (s.t8, ())))], hp := [] }
noncomputable def xSslices_BinarySearch_int_int_0 (r : ((List Int) × Int × Int × Int)) : Ex × St U := (.exit 0, { tm := [(0, .v (vO (cPair (cSl 3) (cUnit)) (r.1, ()))), (1, .v (vO (cPair (cInt .i64) (cUnit)) (r.2.1, ()))), (6, .v (vO (cPair (cInt .i64) (cUnit)) (r.2.2.1, ()))), (7, .v (vO (cPair (cInt .i64) (cUnit)) (r.2.2.2, ())))], hp := [] })
noncomputable def xTslices_BinarySearch_int_int_0 (r : ((List Int) × Int × Int × Int)) : Tree (Ex × St U) := .leaf (xSslices_BinarySearch_int_int_0 r)
noncomputable def hslices_BinarySearch_int_int_0 : Hd := { keep := [0, 1, 6, 7, 8], xkeep := [0, 1, 4, 5, 6, 7], own := false }
noncomputable def Eslices_BinarySearch_int_int : Env U := { P := Try.prog, cd := cd, fns := fns48, lps := (addL 0 hslices_BinarySearch_int_int_0 (mkLoop tAslices_BinarySearch_int_int_0 tBslices_BinarySearch_int_int_0 Pslices_BinarySearch_int_int_0 (Lslices_BinarySearch_int_int_0 none) xTslices_BinarySearch_int_int_0) noL), frz := fun _r => false, nt := 54, n0 := 0 }
noncomputable def Bslices_BinarySearch_int_int_0 : Code := (loopAt (Try.f43.body.getD .skip) 0 0).getD .skip
theorem roundslices_BinarySearch_int_int_0 (s : Sslices_BinarySearch_int_int_0) : round Eslices_BinarySearch_int_int hslices_BinarySearch_int_int_0 Bslices_BinarySearch_int_int_0 0 (eSslices_BinarySearch_int_int_0 s) = (Wslices_BinarySearch_int_int_0 s).map (sumE eSslices_BinarySearch_int_int_0 xSslices_BinarySearch_int_int_0) := by kernel_rfl
theorem lpslices_BinarySearch_int_int_0 : LpOk Eslices_BinarySearch_int_int Bslices_BinarySearch_int_int_0 0 := mkLoop_ok (A := tAslices_BinarySearch_int_int_0) (B := tBslices_BinarySearch_int_int_0) (f := Pslices_BinarySearch_int_int_0) (L := Lslices_BinarySearch_int_int_0 none) (tO_ok (cPair_ok (cSl_ok 3) cUnit_ok) (tO_ok (cPair_ok (cInt_ok .i64) cUnit_ok) (tO_ok (cPair_ok (cInt_ok .i64) cUnit_ok) (tO_ok (cPair_ok (cInt_ok .i64) cUnit_ok) (tO_ok (cPair_ok (cInt_ok .i64) cUnit_ok) tNil_ok))))) bNil_ok (enc := eSslices_BinarySearch_int_int_0) (out := xTslices_BinarySearch_int_int_0) (outS := xSslices_BinarySearch_int_int_0) (step := Wslices_BinarySearch_int_int_0) (fun _ => rfl) (fun _ _ => by kernel_rfl) (by kernel_rfl) (fun _ => rfl) roundslices_BinarySearch_int_int_0
theorem runslices_BinarySearch_int_int (x : (List Int) × Int × Unit) (g : Unit) : execF Eslices_BinarySearch_int_int Try.f43 (Aslices_BinarySearch_int_int.enc x) (bNil.enc g) = (Tslices_BinarySearch_int_int none x.1 x.2.1).map Rslices_BinarySearch_int_int := by kernel_rfl
theorem okslices_BinarySearch_int_int : FnOk Try.prog cd 43 Sslices_BinarySearch_int_int := mk_ok (E := Eslices_BinarySearch_int_int) cd_ok fns48_ok Try.func43 (by kernel_rfl) (loops_of (addL_ok lpslices_BinarySearch_int_int_0 noL_ok)) (aO_ok (cSl_ok 3) (aO_ok (cInt_ok .i64) (aNil_ok))) bNil_ok (T := fun x _ => Tslices_BinarySearch_int_int none x.1 x.2.1) (fun _ _ => rfl) runslices_BinarySearch_int_int
noncomputable def fns43 := addF 43 true Sslices_BinarySearch_int_int fns48
theorem fns43_ok : ∀ f q t, fns43 f = some (q, t) → FnOk Try.prog cd f t := addF_ok okslices_BinarySearch_int_int fns48_ok
end Go.Proofs.Ytnhhimlienefkaa
namespace Go.Proofs
shelf_lay Lays2.n21 Nm2 21 at Try as Try.lays44
end Go.Proofs
namespace Go.Proofs.Ytnhhimlienefkaa
open Go Go.Ab
theorem okslices_Insert_int_int : FnOk Try.prog cd 44 (insSpec 3) := insert_ok cd_ok Try.lays44 Try.func44 (by kernel_rfl) (by kernel_rfl) rfl rfl (by kernel_rfl)
/-- emulator/memory.Spoil -/
noncomputable def Tmemory_Spoil (q : Option Nat) (x0 : (List Int)) (x1 : (List Int)) (x2 : Int) : Tree ((List Int) × Int) :=
  .ite (decide ((2 : Int) = 0))
    .fail
    (.ite (!decide (((x2).tmod (2 : Int)) = (0 : Int)))
      (.leaf (([], (1 : Int))))
      (.ite (decide (x2 < (0 : Int)))
        (.leaf (([], (2 : Int))))
        (.ite (decide ((IntKind.wrap .i64 ((2 : Int) * (x0.length : Int))) ≤ x2))
          (.leaf (([], (2 : Int))))
          (.opt (Int × Bool) (slices_BinarySearch_int_int q x1 x2) fun r117 =>
            .ite (r117.2)
              (.opt (List Int) (cloneF 8 x1) fun r118 =>
                .leaf ((r118, (0 : Int))))
              (.opt (List Int) (cloneF 8 x1) fun r119 =>
                .opt (List Int) (insF r117.1 r119 ([x2])) fun r120 =>
                  .leaf ((r120, (0 : Int))))))))
noncomputable def memory_Spoil (q : Option Nat) (x0 : (List Int)) (x1 : (List Int)) (x2 : Int) : Option ((List Int) × Int) := (Tmemory_Spoil q x0 x1 x2).run
theorem lememory_Spoil (k : Nat) (x0 : (List Int)) (x1 : (List Int)) (x2 : Int) : Le (memory_Spoil (some k) x0 x1 x2) (memory_Spoil none x0 x1 x2) := (TLe.ite TLe.rfl (TLe.ite TLe.rfl (TLe.ite TLe.rfl (TLe.ite TLe.rfl (TLe.opt (leslices_BinarySearch_int_int k _ _) fun _ => TLe.rfl)))))
noncomputable def Amemory_Spoil : Arg U ((List Int) × (List Int) × Int × Unit) := aO (cSl 3) (aO (cSl 3) (aO (cInt .i64) (aNil)))
noncomputable def Rmemory_Spoil (r : ((List Int) × Int)) : List (V U) × List (Blk U) := ([vO (cSl 3) r.1, vO (cInt .i64) r.2], [])
noncomputable def Smemory_Spoil : List (V U) → List (Blk U) → Option (FnOut U) := mkSpec Amemory_Spoil bNil (fun x _ => memory_Spoil none x.1 x.2.1 x.2.2.1) Rmemory_Spoil
noncomputable def Ememory_Spoil : Env U := { P := Try.prog, cd := cd, fns := (addF 44 false (insSpec 3) (addF 35 false (cloneSpec 3 8) fns43)), lps := noL, frz := fun _r => false, nt := 37, n0 := 0 }
theorem runmemory_Spoil (x : (List Int) × (List Int) × Int × Unit) (g : Unit) : execF Ememory_Spoil Try.f26 (Amemory_Spoil.enc x) (bNil.enc g) = (Tmemory_Spoil none x.1 x.2.1 x.2.2.1).map Rmemory_Spoil := by kernel_rfl
theorem okmemory_Spoil : FnOk Try.prog cd 26 Smemory_Spoil := mk_ok (E := Ememory_Spoil) cd_ok (addF_ok okslices_Insert_int_int (addF_ok okslices_Clone_int_int fns43_ok)) Try.func26 (by kernel_rfl) (noLoops_body (by kernel_rfl)) (aO_ok (cSl_ok 3) (aO_ok (cSl_ok 3) (aO_ok (cInt_ok .i64) (aNil_ok)))) bNil_ok (T := fun x _ => Tmemory_Spoil none x.1 x.2.1 x.2.2.1) (fun _ _ => rfl) runmemory_Spoil
noncomputable def fns26 := addF 26 true Smemory_Spoil fns43
theorem fns26_ok : ∀ f q t, fns26 f = some (q, t) → FnOk Try.prog cd f t := addF_ok okmemory_Spoil fns43_ok
/-- emulator/emulatorlaw08.alive -/
noncomputable def Tlaw08_alive (q : Option Nat)  : Tree Bool :=
  .opt ((List Int) × Int) (memory_New (256 : Int)) fun r137 =>
    .opt ((List Int) × Int) (memory_New (255 : Int)) fun r138 =>
      .opt ((List Int) × Int) (memory_New (192 : Int)) fun r139 =>
        .ite (!decide (r137.2 = (0 : Int)))
          (.leaf (false))
          (.ite (!decide ((r137.1.length : Int) = (128 : Int)))
            (.leaf (false))
            (.ite (!decide (r138.2 = (1 : Int)))
              (.leaf (false))
              (.ite (!decide (r139.2 = (1 : Int)))
                (.leaf (false))
                (.opt ((List Int) × (List Int) × Int) (memory_Write q r137.1 ([]) (2 : Int) false (4660 : Int)) fun r140 =>
                  .opt (Int × Int) (memory_Read q r140.1 r140.2.1 (2 : Int) true) fun r141 =>
                    .opt (Int × Int) (memory_Read q r140.1 r140.2.1 (3 : Int) true) fun r142 =>
                      .opt (Int × Int) (memory_Read q r140.1 r140.2.1 (3 : Int) false) fun r143 =>
                        .opt ((List Int) × Int) (memory_Spoil q r140.1 r140.2.1 (2 : Int)) fun r144 =>
                          .opt (Int × Int) (memory_Read q r140.1 r144.1 (3 : Int) true) fun r145 =>
                            .opt ((List Int) × (List Int) × Int) (memory_Write q r140.1 r144.1 (3 : Int) true (5 : Int)) fun r146 =>
                              .opt (Int × Int) (memory_Read q r146.1 r146.2.1 (2 : Int) false) fun r147 =>
                                .opt ((List UInt8) × Int) (memory_Bytes q r137.1 (250 : Int) (7 : Int)) fun r148 =>
                                  .opt ((List UInt8) × Int) (memory_Bytes q r137.1 (256 : Int) (0 : Int)) fun r149 =>
                                    .opt ((List Int) × Int) (memory_Store q r137.1 (0 : Int) ([97, 98, 99])) fun r150 =>
                                      .opt ((List Int) × Int) (memory_Move q r150.1 (1 : Int) (0 : Int) (3 : Int)) fun r151 =>
                                        .opt ((List UInt8) × Int) (memory_Bytes q r151.1 (0 : Int) (4 : Int)) fun r152 =>
                                          .ite (decide (r140.2.2 = (0 : Int)))
                                            (.ite (decide (r141.1 = (52 : Int)))
                                              (.ite (decide (r142.1 = (18 : Int)))
                                                (.ite (decide (r143.2 = (1 : Int)))
                                                  (.ite (decide (r144.2 = (0 : Int)))
                                                    (.opt Bool (ref08_Same q r144.1 ([(2 : Int)])) fun r153 =>
                                                      .ite (r153)
                                                        (.ite (decide (r145.2 = (9 : Int)))
                                                          (.ite (decide (r146.2.2 = (0 : Int)))
                                                            (.ite (decide (r147.1 = (1332 : Int)))
                                                              (.ite (decide (r147.2 = (0 : Int)))
                                                                (.ite (decide ((r146.2.1.length : Int) = (0 : Int)))
                                                                  (.ite (decide (r148.2 = (2 : Int)))
                                                                    (.ite (decide (r149.1 = ([])))
                                                                      (.ite (decide (r149.2 = (0 : Int)))
                                                                        (.leaf (decide (r152.1 = ([97, 97, 98, 99]))))
                                                                        (.leaf (false)))
                                                                      (.leaf (false)))
                                                                    (.leaf (false)))
                                                                  (.leaf (false)))
                                                                (.leaf (false)))
                                                              (.leaf (false)))
                                                            (.leaf (false)))
                                                          (.leaf (false)))
                                                        (.leaf (false)))
                                                    (.leaf (false)))
                                                  (.leaf (false)))
                                                (.leaf (false)))
                                              (.leaf (false)))
                                            (.leaf (false))))))
noncomputable def law08_alive (q : Option Nat)  : Option Bool := (Tlaw08_alive q ).run
theorem lelaw08_alive (k : Nat)  : Le (law08_alive (some k) ) (law08_alive none ) := (TLe.opt Le.rfl fun _ => (TLe.opt Le.rfl fun _ => (TLe.opt Le.rfl fun _ => (TLe.ite TLe.rfl (TLe.ite TLe.rfl (TLe.ite TLe.rfl (TLe.ite TLe.rfl (TLe.opt (lememory_Write k _ _ _ _ _) fun _ => (TLe.opt (lememory_Read k _ _ _ _) fun _ => (TLe.opt (lememory_Read k _ _ _ _) fun _ => (TLe.opt (lememory_Read k _ _ _ _) fun _ => (TLe.opt (lememory_Spoil k _ _ _) fun _ => (TLe.opt (lememory_Read k _ _ _ _) fun _ => (TLe.opt (lememory_Write k _ _ _ _ _) fun _ => (TLe.opt (lememory_Read k _ _ _ _) fun _ => (TLe.opt (lememory_Bytes k _ _ _) fun _ => (TLe.opt (lememory_Bytes k _ _ _) fun _ => (TLe.opt (lememory_Store k _ _ _) fun _ => (TLe.opt (lememory_Move k _ _ _ _) fun _ => (TLe.opt (lememory_Bytes k _ _ _) fun _ => (TLe.ite (TLe.ite (TLe.ite (TLe.ite (TLe.ite (TLe.opt (leref08_Same k _ _) fun _ => TLe.rfl) TLe.rfl) TLe.rfl) TLe.rfl) TLe.rfl) TLe.rfl)))))))))))))))))))))
noncomputable def Alaw08_alive : Arg U (Unit) := aNil
noncomputable def Rlaw08_alive (r : Bool) : List (V U) × List (Blk U) := ([vO cBool r], [])
noncomputable def Slaw08_alive : List (V U) → List (Blk U) → Option (FnOut U) := mkSpec Alaw08_alive bNil (fun x _ => law08_alive none ) Rlaw08_alive
noncomputable def Elaw08_alive : Env U := { P := Try.prog, cd := cd, fns := (addF 14 false (frzSpec Sref08_Same) fns26), lps := noL, frz := fun _r => false, nt := 196, n0 := 0 }
theorem runlaw08_alive (x : Unit) (g : Unit) : execF Elaw08_alive Try.f15 (Alaw08_alive.enc x) (bNil.enc g) = (Tlaw08_alive none ).map Rlaw08_alive := by kernel_rfl
theorem oklaw08_alive : FnOk Try.prog cd 15 Slaw08_alive := mk_ok (E := Elaw08_alive) cd_ok (addF_ok (fnOk_frz cd_ok (mkSpec_out fun _ => rfl) okref08_Same) fns26_ok) Try.func15 (by kernel_rfl) (noLoops_body (by kernel_rfl)) (aNil_ok) bNil_ok (T := fun x _ => Tlaw08_alive none ) (fun _ _ => rfl) runlaw08_alive
noncomputable def fns15 := addF 15 true Slaw08_alive fns26
theorem fns15_ok : ∀ f q t, fns15 f = some (q, t) → FnOk Try.prog cd f t := addF_ok oklaw08_alive fns26_ok
/-- emulator/emulatorlaw08.MemoryAccess -/
noncomputable def Tlaw08_MemoryAccess (q : Option Nat) (x0 : (List Int)) (x1 : (List Int)) (x2 : Access) : Tree Bool :=
  .opt Bool (law08_small q x0 x1) fun r154 =>
    .ite (!r154)
      (.leaf (true))
      (.opt (Int × Int) (memory_Read q x0 x1 x2.addr x2.byte) fun r155 =>
        .opt (Int × Int) (ref08_Read q x0 x1 x2.addr x2.byte) fun r156 =>
          .opt ((List Int) × (List Int) × Int) (memory_Write q x0 x1 x2.addr x2.byte x2.value) fun r157 =>
            .opt ((List Int) × (List Int) × Int) (ref08_Write q x0 x1 x2.addr x2.byte x2.value) fun r158 =>
              .ite (decide (r155.1 = r156.1))
                (.ite (decide (r155.2 = r156.2))
                  (.opt Bool (ref08_Same q r157.1 r158.1) fun r159 =>
                    .ite (r159)
                      (.opt Bool (ref08_Same q r157.2.1 r158.2.1) fun r160 =>
                        .ite (r160)
                          (.ite (decide (r157.2.2 = r158.2.2))
                            (.opt Bool (law08_alive q) fun r161 =>
                              .leaf (r161))
                            (.leaf (false)))
                          (.leaf (false)))
                      (.leaf (false)))
                  (.leaf (false)))
                (.leaf (false)))
noncomputable def law08_MemoryAccess (q : Option Nat) (x0 : (List Int)) (x1 : (List Int)) (x2 : Access) : Option Bool := (Tlaw08_MemoryAccess q x0 x1 x2).run
theorem lelaw08_MemoryAccess (k : Nat) (x0 : (List Int)) (x1 : (List Int)) (x2 : Access) : Le (law08_MemoryAccess (some k) x0 x1 x2) (law08_MemoryAccess none x0 x1 x2) := (TLe.opt (lelaw08_small k _ _) fun _ => (TLe.ite TLe.rfl (TLe.opt (lememory_Read k _ _ _ _) fun _ => (TLe.opt (leref08_Read k _ _ _ _) fun _ => (TLe.opt (lememory_Write k _ _ _ _ _) fun _ => (TLe.opt (leref08_Write k _ _ _ _ _) fun _ => (TLe.ite (TLe.ite (TLe.opt (leref08_Same k _ _) fun _ => (TLe.ite (TLe.opt (leref08_Same k _ _) fun _ => (TLe.ite (TLe.ite (TLe.opt (lelaw08_alive k) fun _ => TLe.rfl) TLe.rfl) TLe.rfl)) TLe.rfl)) TLe.rfl) TLe.rfl)))))))
noncomputable def Alaw08_MemoryAccess : Arg U ((List Int) × (List Int) × Access × Unit) := aO (cSl 3) (aO (cSl 3) (aA cAccess (aNil)))
noncomputable def Rlaw08_MemoryAccess (r : Bool) : List (V U) × List (Blk U) := ([vO cBool r], [])
noncomputable def Slaw08_MemoryAccess : List (V U) → List (Blk U) → Option (FnOut U) := mkSpec Alaw08_MemoryAccess bNil (fun x _ => law08_MemoryAccess none x.1 x.2.1 x.2.2.1) Rlaw08_MemoryAccess
noncomputable def Elaw08_MemoryAccess : Env U := { P := Try.prog, cd := cd, fns := fns15, lps := noL, frz := fun _r => false, nt := 93, n0 := 0 }
theorem runlaw08_MemoryAccess (x : (List Int) × (List Int) × Access × Unit) (g : Unit) : execF Elaw08_MemoryAccess Try.f3 (Alaw08_MemoryAccess.enc x) (bNil.enc g) = (Tlaw08_MemoryAccess none x.1 x.2.1 x.2.2.1).map Rlaw08_MemoryAccess := by kernel_rfl
theorem oklaw08_MemoryAccess : FnOk Try.prog cd 3 Slaw08_MemoryAccess := mk_ok (E := Elaw08_MemoryAccess) cd_ok fns15_ok Try.func3 (by kernel_rfl) (noLoops_body (by kernel_rfl)) (aO_ok (cSl_ok 3) (aO_ok (cSl_ok 3) (aA_ok cAccess_ok (aNil_ok)))) bNil_ok (T := fun x _ => Tlaw08_MemoryAccess none x.1 x.2.1 x.2.2.1) (fun _ _ => rfl) runlaw08_MemoryAccess
noncomputable def fns3 := addF 3 true Slaw08_MemoryAccess fns15
theorem fns3_ok : ∀ f q t, fns3 f = some (q, t) → FnOk Try.prog cd f t := addF_ok oklaw08_MemoryAccess fns15_ok
/-- emulator/emulatorref08.Within -/
noncomputable def Tref08_Within (x0 : (List Int)) (x1 : Int) (x2 : Int) : Tree Bool :=
  .ite (decide ((0 : Int) ≤ x1))
    (.ite (decide ((0 : Int) ≤ x2))
      (.ite (decide (x1 ≤ (IntKind.wrap .i64 ((2 : Int) * (x0.length : Int)))))
        (.leaf (decide (x2 ≤ (IntKind.wrap .i64 ((IntKind.wrap .i64 ((2 : Int) * (x0.length : Int))) - x1)))))
        (.leaf (false)))
      (.leaf (false)))
    (.leaf (false))
noncomputable def ref08_Within (x0 : (List Int)) (x1 : Int) (x2 : Int) : Option Bool := (Tref08_Within x0 x1 x2).run
noncomputable def Aref08_Within : Arg U ((List Int) × Int × Int × Unit) := aO (cSl 3) (aO (cInt .i64) (aO (cInt .i64) (aNil)))
noncomputable def Rref08_Within (r : Bool) : List (V U) × List (Blk U) := ([vO cBool r], [])
noncomputable def Sref08_Within : List (V U) → List (Blk U) → Option (FnOut U) := mkSpec Aref08_Within bNil (fun x _ => ref08_Within x.1 x.2.1 x.2.2.1) Rref08_Within
noncomputable def Eref08_Within : Env U := { P := Try.prog, cd := cd, fns := fns3, lps := noL, frz := fun _r => false, nt := 29, n0 := 0 }
theorem runref08_Within (x : (List Int) × Int × Int × Unit) (g : Unit) : execF Eref08_Within Try.f40 (Aref08_Within.enc x) (bNil.enc g) = (Tref08_Within x.1 x.2.1 x.2.2.1).map Rref08_Within := by kernel_rfl
theorem okref08_Within : FnOk Try.prog cd 40 Sref08_Within := mk_ok (E := Eref08_Within) cd_ok fns3_ok Try.func40 (by kernel_rfl) (noLoops_body (by kernel_rfl)) (aO_ok (cSl_ok 3) (aO_ok (cInt_ok .i64) (aO_ok (cInt_ok .i64) (aNil_ok)))) bNil_ok (T := fun x _ => Tref08_Within x.1 x.2.1 x.2.2.1) (fun _ _ => rfl) runref08_Within
noncomputable def fns40 := addF 40 true Sref08_Within fns3
theorem fns40_ok : ∀ f q t, fns40 f = some (q, t) → FnOk Try.prog cd f t := addF_ok okref08_Within fns3_ok
/-- emulator/emulatorref08.Bytes -/
structure Sref08_Bytes_0 where
  t0 : (List Int)
  t1 : Int
  t2 : Int
  t9 : Int
  b0 : (List Int)
noncomputable def Wref08_Bytes_0 (s : Sref08_Bytes_0) : Tree (Sref08_Bytes_0 ⊕ (List Int)) :=
  .ite (decide (s.t9 < s.t2))
    (.opt Int (ref08_Byte s.t0 (IntKind.wrap .i64 (s.t1 + s.t9))) fun r163 =>
      .ite (decide ((s.b0.length + ([IntKind.wrap .u8 r163]).length) * 1 ≤ 140737488355328))
        (.leaf (.inl (Sref08_Bytes_0.mk s.t0 s.t1 s.t2 (IntKind.wrap .i64 (s.t9 + (1 : Int))) (s.b0 ++ ([IntKind.wrap .u8 r163])))))
        .fail)
    (.leaf (.inr s.b0))
noncomputable def Lref08_Bytes_0 (q : Option Nat) (s : Sref08_Bytes_0) : Option (List Int) := limQ q (fun s => (Wref08_Bytes_0 s).run) s
theorem leLref08_Bytes_0 (k : Nat) (s : Sref08_Bytes_0) : Le (Lref08_Bytes_0 (some k) s) (Lref08_Bytes_0 none s) := limQ_le (fun _ => Le.rfl) s
noncomputable def Tref08_Bytes (q : Option Nat) (x0 : (List Int)) (x1 : Int) (x2 : Int) : Tree ((List UInt8) × Int) :=
  .opt Bool (ref08_Within x0 x1 x2) fun r162 =>
    .ite (!r162)
      (.leaf (([], (2 : Int))))
      (.opt (List Int) (Lref08_Bytes_0 q (Sref08_Bytes_0.mk x0 x1 x2 (0 : Int) ([]))) fun l164 =>
        .leaf ((l164.map fun x => UInt8.ofNat x.toNat, (0 : Int))))
noncomputable def ref08_Bytes (q : Option Nat) (x0 : (List Int)) (x1 : Int) (x2 : Int) : Option ((List UInt8) × Int) := (Tref08_Bytes q x0 x1 x2).run
theorem leref08_Bytes (k : Nat) (x0 : (List Int)) (x1 : Int) (x2 : Int) : Le (ref08_Bytes (some k) x0 x1 x2) (ref08_Bytes none x0 x1 x2) := (TLe.opt Le.rfl fun _ => (TLe.ite TLe.rfl (TLe.opt (leLref08_Bytes_0 k _) fun _ => TLe.rfl)))
noncomputable def Aref08_Bytes : Arg U ((List Int) × Int × Int × Unit) := aO (cSl 3) (aO (cInt .i64) (aO (cInt .i64) (aNil)))
noncomputable def Rref08_Bytes (r : ((List UInt8) × Int)) : List (V U) × List (Blk U) := ([vO cStr r.1, vO (cInt .i64) r.2], [])
noncomputable def Sref08_Bytes : List (V U) → List (Blk U) → Option (FnOut U) := mkSpec Aref08_Bytes bNil (fun x _ => ref08_Bytes none x.1 x.2.1 x.2.2.1) Rref08_Bytes
noncomputable def Pref08_Bytes_0 (x : ((List Int) × Unit) × (Int × Unit) × (Int × Unit) × (Unit) × (Int × Unit) × Unit) (g : (List Int) × Unit) : Sref08_Bytes_0 := Sref08_Bytes_0.mk x.1.1 x.2.1.1 x.2.2.1.1 x.2.2.2.2.1.1 g.1
noncomputable def tAref08_Bytes_0 : Tms U (((List Int) × Unit) × (Int × Unit) × (Int × Unit) × (Unit) × (Int × Unit) × Unit) := tO 0 (cPair (cSl 3) (cUnit)) (tO 1 (cPair (cInt .i64) (cUnit)) (tO 2 (cPair (cInt .i64) (cUnit)) (tO 8 (cK (.row 0 0) (cUnit)) (tO 9 (cPair (cInt .i64) (cUnit)) (tNil)))))
noncomputable def tBref08_Bytes_0 : Bls U ((List Int) × Unit) := bRv 5 0 (bNil)
noncomputable def eSref08_Bytes_0 (s : Sref08_Bytes_0) : St U := { tm := [(0, .v (vO (cPair (cSl 3) (cUnit)) (s.t0, ()))), (1, .v (vO (cPair (cInt .i64) (cUnit)) (s.t1, ()))), (2, .v (vO (cPair (cInt .i64) (cUnit)) (s.t2, ()))), (8, .v (vO (cK (.row 0 0) (cUnit)) (()))), (9, .v (vO (cPair (cInt .i64) (cUnit)) (s.t9, ())))], hp := [.row 5 0 s.b0] }
noncomputable def xSref08_Bytes_0 (r : (List Int)) : Ex × St U := (.exit 0, { tm := [(8, .v (vO (cK (.row 0 0) (cUnit)) (())))], hp := [.row 5 0 r] })
noncomputable def xTref08_Bytes_0 (r : (List Int)) : Tree (Ex × St U) := .leaf (xSref08_Bytes_0 r)
noncomputable def href08_Bytes_0 : Hd := { keep := [0, 1, 2, 8, 9], xkeep := [6, 7, 8], own := true }
noncomputable def Eref08_Bytes : Env U := { P := Try.prog, cd := cd, fns := fns40, lps := (addL 0 href08_Bytes_0 (mkLoop tAref08_Bytes_0 tBref08_Bytes_0 Pref08_Bytes_0 (Lref08_Bytes_0 none) xTref08_Bytes_0) noL), frz := fun _r => false, nt := 31, n0 := 0 }
noncomputable def Bref08_Bytes_0 : Code := (loopAt (Try.f17.body.getD .skip) 0 0).getD .skip
theorem roundref08_Bytes_0 (s : Sref08_Bytes_0) : round Eref08_Bytes href08_Bytes_0 Bref08_Bytes_0 0 (eSref08_Bytes_0 s) = (Wref08_Bytes_0 s).map (sumE eSref08_Bytes_0 xSref08_Bytes_0) := by kernel_rfl
theorem lpref08_Bytes_0 : LpOk Eref08_Bytes Bref08_Bytes_0 0 := mkLoop_ok (A := tAref08_Bytes_0) (B := tBref08_Bytes_0) (f := Pref08_Bytes_0) (L := Lref08_Bytes_0 none) (tO_ok (cPair_ok (cSl_ok 3) cUnit_ok) (tO_ok (cPair_ok (cInt_ok .i64) cUnit_ok) (tO_ok (cPair_ok (cInt_ok .i64) cUnit_ok) (tO_ok (cK_ok cUnit_ok) (tO_ok (cPair_ok (cInt_ok .i64) cUnit_ok) tNil_ok))))) (bRv_ok bNil_ok) (enc := eSref08_Bytes_0) (out := xTref08_Bytes_0) (outS := xSref08_Bytes_0) (step := Wref08_Bytes_0) (fun _ => rfl) (fun _ _ => by kernel_rfl) (by kernel_rfl) (fun _ => rfl) roundref08_Bytes_0
theorem runref08_Bytes (x : (List Int) × Int × Int × Unit) (g : Unit) : execF Eref08_Bytes Try.f17 (Aref08_Bytes.enc x) (bNil.enc g) = (Tref08_Bytes none x.1 x.2.1 x.2.2.1).map Rref08_Bytes := by kernel_rfl
theorem okref08_Bytes : FnOk Try.prog cd 17 Sref08_Bytes := mk_ok (E := Eref08_Bytes) cd_ok fns40_ok Try.func17 (by kernel_rfl) (loops_of (addL_ok lpref08_Bytes_0 noL_ok)) (aO_ok (cSl_ok 3) (aO_ok (cInt_ok .i64) (aO_ok (cInt_ok .i64) (aNil_ok)))) bNil_ok (T := fun x _ => Tref08_Bytes none x.1 x.2.1 x.2.2.1) (fun _ _ => rfl) runref08_Bytes
noncomputable def fns17 := addF 17 true Sref08_Bytes fns40
theorem fns17_ok : ∀ f q t, fns17 f = some (q, t) → FnOk Try.prog cd f t := addF_ok okref08_Bytes fns40_ok
/-- emulator/emulatorref08.Store -/
structure Sref08_Store_0 where
  t1 : Int
  t2 : (List UInt8)
  t9 : Int
  b0 : (List Int)
noncomputable def Wref08_Store_0 (s : Sref08_Store_0) : Tree (Sref08_Store_0 ⊕ (List Int)) :=
  .ite (decide (s.t9 < (s.t2.length : Int)))
    (.ite (decide (0 ≤ s.t9))
      (.opt UInt8 (s.t2[(s.t9).toNat]?) fun y166 =>
        .opt (List Int) (ref08_set (IntKind.wrap .i64 (s.t1 + s.t9)) (IntKind.wrap .i64 (y166.toNat : Int)) s.b0) fun r167 =>
          .leaf (.inl (Sref08_Store_0.mk s.t1 s.t2 (IntKind.wrap .i64 (s.t9 + (1 : Int))) r167)))
      .fail)
    (.leaf (.inr s.b0))
noncomputable def Lref08_Store_0 (q : Option Nat) (s : Sref08_Store_0) : Option (List Int) := limQ q (fun s => (Wref08_Store_0 s).run) s
theorem leLref08_Store_0 (k : Nat) (s : Sref08_Store_0) : Le (Lref08_Store_0 (some k) s) (Lref08_Store_0 none s) := limQ_le (fun _ => Le.rfl) s
noncomputable def Tref08_Store (q : Option Nat) (x0 : (List Int)) (x1 : Int) (x2 : (List UInt8)) : Tree ((List Int) × Int) :=
  .opt Bool (ref08_Within x0 x1 (x2.length : Int)) fun r165 =>
    .ite (!r165)
      (.leaf (([], (2 : Int))))
      (.ite (decide ((([] : List Int).length + x0.length) * 8 ≤ 140737488355328))
        (.opt (List Int) (Lref08_Store_0 q (Sref08_Store_0.mk x1 x2 (0 : Int) (([] : List Int) ++ x0))) fun l168 =>
          .leaf ((l168, (0 : Int))))
        .fail)
noncomputable def ref08_Store (q : Option Nat) (x0 : (List Int)) (x1 : Int) (x2 : (List UInt8)) : Option ((List Int) × Int) := (Tref08_Store q x0 x1 x2).run
theorem leref08_Store (k : Nat) (x0 : (List Int)) (x1 : Int) (x2 : (List UInt8)) : Le (ref08_Store (some k) x0 x1 x2) (ref08_Store none x0 x1 x2) := (TLe.opt Le.rfl fun _ => (TLe.ite TLe.rfl (TLe.ite (TLe.opt (leLref08_Store_0 k _) fun _ => TLe.rfl) TLe.rfl)))
noncomputable def Aref08_Store : Arg U ((List Int) × Int × (List UInt8) × Unit) := aO (cSl 3) (aO (cInt .i64) (aO cStr (aNil)))
noncomputable def Rref08_Store (r : ((List Int) × Int)) : List (V U) × List (Blk U) := ([vO (cSl 3) r.1, vO (cInt .i64) r.2], [])
noncomputable def Sref08_Store : List (V U) → List (Blk U) → Option (FnOut U) := mkSpec Aref08_Store bNil (fun x _ => ref08_Store none x.1 x.2.1 x.2.2.1) Rref08_Store
noncomputable def Pref08_Store_0 (x : (Int × Unit) × ((List UInt8) × Unit) × (Unit) × (Int × Unit) × Unit) (g : (List Int) × Unit) : Sref08_Store_0 := Sref08_Store_0.mk x.1.1 x.2.1.1 x.2.2.2.1.1 g.1
noncomputable def tAref08_Store_0 : Tms U ((Int × Unit) × ((List UInt8) × Unit) × (Unit) × (Int × Unit) × Unit) := tO 1 (cPair (cInt .i64) (cUnit)) (tO 2 (cPair cStr (cUnit)) (tO 8 (cK (.row 0 0) (cUnit)) (tO 9 (cPair (cInt .i64) (cUnit)) (tNil))))
noncomputable def tBref08_Store_0 : Bls U ((List Int) × Unit) := bRv 3 0 (bNil)
noncomputable def eSref08_Store_0 (s : Sref08_Store_0) : St U := { tm := [(1, .v (vO (cPair (cInt .i64) (cUnit)) (s.t1, ()))), (2, .v (vO (cPair cStr (cUnit)) (s.t2, ()))), (8, .v (vO (cK (.row 0 0) (cUnit)) (()))), (9, .v (vO (cPair (cInt .i64) (cUnit)) (s.t9, ())))], hp := [.row 3 0 s.b0] }
noncomputable def xSref08_Store_0 (r : (List Int)) : Ex × St U := (.exit 0, { tm := [(8, .v (vO (cK (.row 0 0) (cUnit)) (())))], hp := [.row 3 0 r] })
noncomputable def xTref08_Store_0 (r : (List Int)) : Tree (Ex × St U) := .leaf (xSref08_Store_0 r)
noncomputable def href08_Store_0 : Hd := { keep := [1, 2, 8, 9], xkeep := [6, 7, 8], own := false }
noncomputable def Eref08_Store : Env U := { P := Try.prog, cd := cd, fns := (addF 37 false (Sref08_set) fns17), lps := (addL 0 href08_Store_0 (mkLoop tAref08_Store_0 tBref08_Store_0 Pref08_Store_0 (Lref08_Store_0 none) xTref08_Store_0) noL), frz := fun _r => false, nt := 35, n0 := 0 }
noncomputable def Bref08_Store_0 : Code := (loopAt (Try.f19.body.getD .skip) 0 0).getD .skip
theorem roundref08_Store_0 (s : Sref08_Store_0) : round Eref08_Store href08_Store_0 Bref08_Store_0 0 (eSref08_Store_0 s) = (Wref08_Store_0 s).map (sumE eSref08_Store_0 xSref08_Store_0) := by kernel_rfl
theorem lpref08_Store_0 : LpOk Eref08_Store Bref08_Store_0 0 := mkLoop_ok (A := tAref08_Store_0) (B := tBref08_Store_0) (f := Pref08_Store_0) (L := Lref08_Store_0 none) (tO_ok (cPair_ok (cInt_ok .i64) cUnit_ok) (tO_ok (cPair_ok cStr_ok cUnit_ok) (tO_ok (cK_ok cUnit_ok) (tO_ok (cPair_ok (cInt_ok .i64) cUnit_ok) tNil_ok)))) (bRv_ok bNil_ok) (enc := eSref08_Store_0) (out := xTref08_Store_0) (outS := xSref08_Store_0) (step := Wref08_Store_0) (fun _ => rfl) (fun _ _ => by kernel_rfl) (by kernel_rfl) (fun _ => rfl) roundref08_Store_0
theorem runref08_Store (x : (List Int) × Int × (List UInt8) × Unit) (g : Unit) : execF Eref08_Store Try.f19 (Aref08_Store.enc x) (bNil.enc g) = (Tref08_Store none x.1 x.2.1 x.2.2.1).map Rref08_Store := by kernel_rfl
theorem okref08_Store : FnOk Try.prog cd 19 Sref08_Store := mk_ok (E := Eref08_Store) cd_ok (addF_ok okref08_set fns17_ok) Try.func19 (by kernel_rfl) (loops_of (addL_ok lpref08_Store_0 noL_ok)) (aO_ok (cSl_ok 3) (aO_ok (cInt_ok .i64) (aO_ok cStr_ok (aNil_ok)))) bNil_ok (T := fun x _ => Tref08_Store none x.1 x.2.1 x.2.2.1) (fun _ _ => rfl) runref08_Store
noncomputable def fns19 := addF 19 true Sref08_Store fns17
theorem fns19_ok : ∀ f q t, fns19 f = some (q, t) → FnOk Try.prog cd f t := addF_ok okref08_Store fns17_ok
/-- emulator/emulatorref08.Move -/
noncomputable def Tref08_Move (q : Option Nat) (x0 : (List Int)) (x1 : Int) (x2 : Int) (x3 : Int) : Tree ((List Int) × Int) :=
  .opt ((List UInt8) × Int) (ref08_Bytes q x0 x2 x3) fun r169 =>
    .ite (!decide (r169.2 = (0 : Int)))
      (.leaf (([], r169.2)))
      (.opt ((List Int) × Int) (ref08_Store q x0 x1 r169.1) fun r170 =>
        .leaf ((r170.1, r170.2)))
noncomputable def ref08_Move (q : Option Nat) (x0 : (List Int)) (x1 : Int) (x2 : Int) (x3 : Int) : Option ((List Int) × Int) := (Tref08_Move q x0 x1 x2 x3).run
theorem leref08_Move (k : Nat) (x0 : (List Int)) (x1 : Int) (x2 : Int) (x3 : Int) : Le (ref08_Move (some k) x0 x1 x2 x3) (ref08_Move none x0 x1 x2 x3) := (TLe.opt (leref08_Bytes k _ _ _) fun _ => (TLe.ite TLe.rfl (TLe.opt (leref08_Store k _ _ _) fun _ => TLe.rfl)))
noncomputable def Aref08_Move : Arg U ((List Int) × Int × Int × Int × Unit) := aO (cSl 3) (aO (cInt .i64) (aO (cInt .i64) (aO (cInt .i64) (aNil))))
noncomputable def Rref08_Move (r : ((List Int) × Int)) : List (V U) × List (Blk U) := ([vO (cSl 3) r.1, vO (cInt .i64) r.2], [])
noncomputable def Sref08_Move : List (V U) → List (Blk U) → Option (FnOut U) := mkSpec Aref08_Move bNil (fun x _ => ref08_Move none x.1 x.2.1 x.2.2.1 x.2.2.2.1) Rref08_Move
noncomputable def Eref08_Move : Env U := { P := Try.prog, cd := cd, fns := fns19, lps := noL, frz := fun _r => false, nt := 28, n0 := 0 }
theorem runref08_Move (x : (List Int) × Int × Int × Int × Unit) (g : Unit) : execF Eref08_Move Try.f21 (Aref08_Move.enc x) (bNil.enc g) = (Tref08_Move none x.1 x.2.1 x.2.2.1 x.2.2.2.1).map Rref08_Move := by kernel_rfl
theorem okref08_Move : FnOk Try.prog cd 21 Sref08_Move := mk_ok (E := Eref08_Move) cd_ok fns19_ok Try.func21 (by kernel_rfl) (noLoops_body (by kernel_rfl)) (aO_ok (cSl_ok 3) (aO_ok (cInt_ok .i64) (aO_ok (cInt_ok .i64) (aO_ok (cInt_ok .i64) (aNil_ok))))) bNil_ok (T := fun x _ => Tref08_Move none x.1 x.2.1 x.2.2.1 x.2.2.2.1) (fun _ _ => rfl) runref08_Move
noncomputable def fns21 := addF 21 true Sref08_Move fns19
theorem fns21_ok : ∀ f q t, fns21 f = some (q, t) → FnOk Try.prog cd f t := addF_ok okref08_Move fns19_ok
/-- emulator/emulatorlaw08.MemoryRanges -/
noncomputable def Tlaw08_MemoryRanges (q : Option Nat) (x0 : (List Int)) (x1 : (List UInt8)) (x2 : Span) : Tree Bool :=
  .opt Bool (law08_small q x0 ([])) fun r171 =>
    .ite (!r171)
      (.leaf (true))
      (.ite (decide ((5000 : Int) < (x1.length : Int)))
        (.leaf (true))
        (.opt ((List UInt8) × Int) (memory_Bytes q x0 x2.from_ x2.count) fun r172 =>
          .opt ((List UInt8) × Int) (ref08_Bytes q x0 x2.from_ x2.count) fun r173 =>
            .opt ((List Int) × Int) (memory_Store q x0 x2.to x1) fun r174 =>
              .opt ((List Int) × Int) (ref08_Store q x0 x2.to x1) fun r175 =>
                .opt ((List Int) × Int) (memory_Move q x0 x2.to x2.from_ x2.count) fun r176 =>
                  .opt ((List Int) × Int) (ref08_Move q x0 x2.to x2.from_ x2.count) fun r177 =>
                    .ite (decide (r172.1 = r173.1))
                      (.ite (decide (r172.2 = r173.2))
                        (.opt Bool (ref08_Same q r174.1 r175.1) fun r178 =>
                          .ite (r178)
                            (.ite (decide (r174.2 = r175.2))
                              (.opt Bool (ref08_Same q r176.1 r177.1) fun r179 =>
                                .ite (r179)
                                  (.ite (decide (r176.2 = r177.2))
                                    (.opt Bool (law08_alive q) fun r180 =>
                                      .leaf (r180))
                                    (.leaf (false)))
                                  (.leaf (false)))
                              (.leaf (false)))
                            (.leaf (false)))
                        (.leaf (false)))
                      (.leaf (false))))
noncomputable def law08_MemoryRanges (q : Option Nat) (x0 : (List Int)) (x1 : (List UInt8)) (x2 : Span) : Option Bool := (Tlaw08_MemoryRanges q x0 x1 x2).run
theorem lelaw08_MemoryRanges (k : Nat) (x0 : (List Int)) (x1 : (List UInt8)) (x2 : Span) : Le (law08_MemoryRanges (some k) x0 x1 x2) (law08_MemoryRanges none x0 x1 x2) := (TLe.opt (lelaw08_small k _ _) fun _ => (TLe.ite TLe.rfl (TLe.ite TLe.rfl (TLe.opt (lememory_Bytes k _ _ _) fun _ => (TLe.opt (leref08_Bytes k _ _ _) fun _ => (TLe.opt (lememory_Store k _ _ _) fun _ => (TLe.opt (leref08_Store k _ _ _) fun _ => (TLe.opt (lememory_Move k _ _ _ _) fun _ => (TLe.opt (leref08_Move k _ _ _ _) fun _ => (TLe.ite (TLe.ite (TLe.opt (leref08_Same k _ _) fun _ => (TLe.ite (TLe.ite (TLe.opt (leref08_Same k _ _) fun _ => (TLe.ite (TLe.ite (TLe.opt (lelaw08_alive k) fun _ => TLe.rfl) TLe.rfl) TLe.rfl)) TLe.rfl) TLe.rfl)) TLe.rfl) TLe.rfl))))))))))
noncomputable def Alaw08_MemoryRanges : Arg U ((List Int) × (List UInt8) × Span × Unit) := aO (cSl 3) (aO cStr (aA cSpan (aNil)))
noncomputable def Rlaw08_MemoryRanges (r : Bool) : List (V U) × List (Blk U) := ([vO cBool r], [])
noncomputable def Slaw08_MemoryRanges : List (V U) → List (Blk U) → Option (FnOut U) := mkSpec Alaw08_MemoryRanges bNil (fun x _ => law08_MemoryRanges none x.1 x.2.1 x.2.2.1) Rlaw08_MemoryRanges
noncomputable def Elaw08_MemoryRanges : Env U := { P := Try.prog, cd := cd, fns := fns21, lps := noL, frz := fun _r => false, nt := 114, n0 := 0 }
theorem runlaw08_MemoryRanges (x : (List Int) × (List UInt8) × Span × Unit) (g : Unit) : execF Elaw08_MemoryRanges Try.f4 (Alaw08_MemoryRanges.enc x) (bNil.enc g) = (Tlaw08_MemoryRanges none x.1 x.2.1 x.2.2.1).map Rlaw08_MemoryRanges := by kernel_rfl
theorem oklaw08_MemoryRanges : FnOk Try.prog cd 4 Slaw08_MemoryRanges := mk_ok (E := Elaw08_MemoryRanges) cd_ok fns21_ok Try.func4 (by kernel_rfl) (noLoops_body (by kernel_rfl)) (aO_ok (cSl_ok 3) (aO_ok cStr_ok (aA_ok cSpan_ok (aNil_ok)))) bNil_ok (T := fun x _ => Tlaw08_MemoryRanges none x.1 x.2.1 x.2.2.1) (fun _ _ => rfl) runlaw08_MemoryRanges
noncomputable def fns4 := addF 4 true Slaw08_MemoryRanges fns21
theorem fns4_ok : ∀ f q t, fns4 f = some (q, t) → FnOk Try.prog cd f t := addF_ok oklaw08_MemoryRanges fns21_ok
/-- emulator/emulatorlaw08.MemoryMoves -/
noncomputable def Tlaw08_MemoryMoves (q : Option Nat) (x0 : (List Int)) (x1 : (List UInt8)) (x2 : Span) : Tree Bool :=
  .opt Bool (law08_small q x0 ([])) fun r181 =>
    .ite (!r181)
      (.leaf (true))
      (.ite (decide ((5000 : Int) < (x1.length : Int)))
        (.leaf (true))
        (.opt ((List UInt8) × Int) (memory_Bytes q x0 x2.from_ x2.count) fun r182 =>
          .opt ((List Int) × Int) (memory_Move q x0 x2.to x2.from_ x2.count) fun r183 =>
            .ite (decide (r183.2 = (0 : Int)))
              (.opt ((List UInt8) × Int) (memory_Bytes q r183.1 x2.to x2.count) fun r184 =>
                .ite (!decide (r182.2 = (0 : Int)))
                  (.leaf (false))
                  (.ite (!decide (r184.2 = (0 : Int)))
                    (.leaf (false))
                    (.ite (!decide (r182.1 = r184.1))
                      (.leaf (false))
                      (.opt ((List Int) × Int) (memory_Store q x0 x2.to x1) fun r185 =>
                        .ite (!decide (r185.2 = (0 : Int)))
                          (.ite (decide ((r185.1.length : Int) = (0 : Int)))
                            (.opt Bool (law08_alive q) fun r186 =>
                              .leaf (r186))
                            (.leaf (false)))
                          (.opt ((List UInt8) × Int) (memory_Bytes q x0 (0 : Int) (IntKind.wrap .i64 ((2 : Int) * (x0.length : Int)))) fun r187 =>
                            .ite (!decide ((r187.1.length : Int) = (IntKind.wrap .i64 ((2 : Int) * (x0.length : Int)))))
                              (.leaf (false))
                              (.ite (decide (x2.to < (0 : Int)))
                                (.leaf (false))
                                (.ite (decide ((IntKind.wrap .i64 ((r187.1.length : Int) - (x1.length : Int))) < x2.to))
                                  (.leaf (false))
                                  (.opt ((List UInt8) × Int) (memory_Bytes q r185.1 (0 : Int) (IntKind.wrap .i64 ((2 : Int) * (r185.1.length : Int)))) fun r188 =>
                                    .ite (decide (r188.2 = (0 : Int)))
                                      (.ite (decide (0 ≤ x2.to))
                                        (.ite (decide (x2.to ≤ ((r187.1.length : Nat) : Int)))
                                          (.ite (decide (((r187.1.drop (0)).take ((x2.to).toNat - 0)).length + x1.length ≤ 9223372036854775807))
                                            (.ite (decide (0 ≤ IntKind.wrap .i64 (x2.to + (x1.length : Int))))
                                              (.ite (decide (IntKind.wrap .i64 (x2.to + (x1.length : Int)) ≤ ((r187.1.length : Nat) : Int)))
                                                (.ite (decide ((((r187.1.drop (0)).take ((x2.to).toNat - 0)) ++ x1).length + ((r187.1.drop ((IntKind.wrap .i64 (x2.to + (x1.length : Int))).toNat)).take (r187.1.length - (IntKind.wrap .i64 (x2.to + (x1.length : Int))).toNat)).length ≤ 9223372036854775807))
                                                  (.ite (decide (r188.1 = ((((r187.1.drop (0)).take ((x2.to).toNat - 0)) ++ x1) ++ ((r187.1.drop ((IntKind.wrap .i64 (x2.to + (x1.length : Int))).toNat)).take (r187.1.length - (IntKind.wrap .i64 (x2.to + (x1.length : Int))).toNat)))))
                                                    (.opt Bool (law08_alive q) fun r189 =>
                                                      .leaf (r189))
                                                    (.leaf (false)))
                                                  .fail)
                                                .fail)
                                              .fail)
                                            .fail)
                                          .fail)
                                        .fail)
                                      (.leaf (false))))))))))
              (.opt ((List Int) × Int) (memory_Store q x0 x2.to x1) fun r190 =>
                .ite (!decide (r190.2 = (0 : Int)))
                  (.ite (decide ((r190.1.length : Int) = (0 : Int)))
                    (.opt Bool (law08_alive q) fun r191 =>
                      .leaf (r191))
                    (.leaf (false)))
                  (.opt ((List UInt8) × Int) (memory_Bytes q x0 (0 : Int) (IntKind.wrap .i64 ((2 : Int) * (x0.length : Int)))) fun r192 =>
                    .ite (!decide ((r192.1.length : Int) = (IntKind.wrap .i64 ((2 : Int) * (x0.length : Int)))))
                      (.leaf (false))
                      (.ite (decide (x2.to < (0 : Int)))
                        (.leaf (false))
                        (.ite (decide ((IntKind.wrap .i64 ((r192.1.length : Int) - (x1.length : Int))) < x2.to))
                          (.leaf (false))
                          (.opt ((List UInt8) × Int) (memory_Bytes q r190.1 (0 : Int) (IntKind.wrap .i64 ((2 : Int) * (r190.1.length : Int)))) fun r193 =>
                            .ite (decide (r193.2 = (0 : Int)))
                              (.ite (decide (0 ≤ x2.to))
                                (.ite (decide (x2.to ≤ ((r192.1.length : Nat) : Int)))
                                  (.ite (decide (((r192.1.drop (0)).take ((x2.to).toNat - 0)).length + x1.length ≤ 9223372036854775807))
                                    (.ite (decide (0 ≤ IntKind.wrap .i64 (x2.to + (x1.length : Int))))
                                      (.ite (decide (IntKind.wrap .i64 (x2.to + (x1.length : Int)) ≤ ((r192.1.length : Nat) : Int)))
                                        (.ite (decide ((((r192.1.drop (0)).take ((x2.to).toNat - 0)) ++ x1).length + ((r192.1.drop ((IntKind.wrap .i64 (x2.to + (x1.length : Int))).toNat)).take (r192.1.length - (IntKind.wrap .i64 (x2.to + (x1.length : Int))).toNat)).length ≤ 9223372036854775807))
                                          (.ite (decide (r193.1 = ((((r192.1.drop (0)).take ((x2.to).toNat - 0)) ++ x1) ++ ((r192.1.drop ((IntKind.wrap .i64 (x2.to + (x1.length : Int))).toNat)).take (r192.1.length - (IntKind.wrap .i64 (x2.to + (x1.length : Int))).toNat)))))
                                            (.opt Bool (law08_alive q) fun r194 =>
                                              .leaf (r194))
                                            (.leaf (false)))
                                          .fail)
                                        .fail)
                                      .fail)
                                    .fail)
                                  .fail)
                                .fail)
                              (.leaf (false)))))))))
noncomputable def law08_MemoryMoves (q : Option Nat) (x0 : (List Int)) (x1 : (List UInt8)) (x2 : Span) : Option Bool := (Tlaw08_MemoryMoves q x0 x1 x2).run
theorem lelaw08_MemoryMoves (k : Nat) (x0 : (List Int)) (x1 : (List UInt8)) (x2 : Span) : Le (law08_MemoryMoves (some k) x0 x1 x2) (law08_MemoryMoves none x0 x1 x2) := (TLe.opt (lelaw08_small k _ _) fun _ => (TLe.ite TLe.rfl (TLe.ite TLe.rfl (TLe.opt (lememory_Bytes k _ _ _) fun _ => (TLe.opt (lememory_Move k _ _ _ _) fun _ => (TLe.ite (TLe.opt (lememory_Bytes k _ _ _) fun _ => (TLe.ite TLe.rfl (TLe.ite TLe.rfl (TLe.ite TLe.rfl (TLe.opt (lememory_Store k _ _ _) fun _ => (TLe.ite (TLe.ite (TLe.opt (lelaw08_alive k) fun _ => TLe.rfl) TLe.rfl) (TLe.opt (lememory_Bytes k _ _ _) fun _ => (TLe.ite TLe.rfl (TLe.ite TLe.rfl (TLe.ite TLe.rfl (TLe.opt (lememory_Bytes k _ _ _) fun _ => (TLe.ite (TLe.ite (TLe.ite (TLe.ite (TLe.ite (TLe.ite (TLe.ite (TLe.ite (TLe.opt (lelaw08_alive k) fun _ => TLe.rfl) TLe.rfl) TLe.rfl) TLe.rfl) TLe.rfl) TLe.rfl) TLe.rfl) TLe.rfl) TLe.rfl)))))))))))) (TLe.opt (lememory_Store k _ _ _) fun _ => (TLe.ite (TLe.ite (TLe.opt (lelaw08_alive k) fun _ => TLe.rfl) TLe.rfl) (TLe.opt (lememory_Bytes k _ _ _) fun _ => (TLe.ite TLe.rfl (TLe.ite TLe.rfl (TLe.ite TLe.rfl (TLe.opt (lememory_Bytes k _ _ _) fun _ => (TLe.ite (TLe.ite (TLe.ite (TLe.ite (TLe.ite (TLe.ite (TLe.ite (TLe.ite (TLe.opt (lelaw08_alive k) fun _ => TLe.rfl) TLe.rfl) TLe.rfl) TLe.rfl) TLe.rfl) TLe.rfl) TLe.rfl) TLe.rfl) TLe.rfl))))))))))))))
noncomputable def Alaw08_MemoryMoves : Arg U ((List Int) × (List UInt8) × Span × Unit) := aO (cSl 3) (aO cStr (aA cSpan (aNil)))
noncomputable def Rlaw08_MemoryMoves (r : Bool) : List (V U) × List (Blk U) := ([vO cBool r], [])
noncomputable def Slaw08_MemoryMoves : List (V U) → List (Blk U) → Option (FnOut U) := mkSpec Alaw08_MemoryMoves bNil (fun x _ => law08_MemoryMoves none x.1 x.2.1 x.2.2.1) Rlaw08_MemoryMoves
noncomputable def Elaw08_MemoryMoves : Env U := { P := Try.prog, cd := cd, fns := fns4, lps := noL, frz := fun _r => false, nt := 145, n0 := 0 }
theorem runlaw08_MemoryMoves (x : (List Int) × (List UInt8) × Span × Unit) (g : Unit) : execF Elaw08_MemoryMoves Try.f5 (Alaw08_MemoryMoves.enc x) (bNil.enc g) = (Tlaw08_MemoryMoves none x.1 x.2.1 x.2.2.1).map Rlaw08_MemoryMoves := by kernel_rfl
theorem oklaw08_MemoryMoves : FnOk Try.prog cd 5 Slaw08_MemoryMoves := mk_ok (E := Elaw08_MemoryMoves) cd_ok fns4_ok Try.func5 (by kernel_rfl) (noLoops_body (by kernel_rfl)) (aO_ok (cSl_ok 3) (aO_ok cStr_ok (aA_ok cSpan_ok (aNil_ok)))) bNil_ok (T := fun x _ => Tlaw08_MemoryMoves none x.1 x.2.1 x.2.2.1) (fun _ _ => rfl) runlaw08_MemoryMoves
noncomputable def fns5 := addF 5 true Slaw08_MemoryMoves fns4
theorem fns5_ok : ∀ f q t, fns5 f = some (q, t) → FnOk Try.prog cd f t := addF_ok oklaw08_MemoryMoves fns4_ok
/-- emulator/emulatorref08.New -/
noncomputable def Tref08_New (x0 : Int) : Tree ((List Int) × Int) :=
  .opt Bool (ref08_Size x0) fun r195 =>
    .ite (!r195)
      (.leaf (([], (1 : Int))))
      (.ite (decide ((2 : Int) = 0))
        .fail
        (.ite (decide (IntKind.wrap .i64 ((x0).tdiv (2 : Int)) = IntKind.wrap .i64 ((x0).tdiv (2 : Int))))
          (.ite (decide (0 ≤ IntKind.wrap .i64 ((x0).tdiv (2 : Int))))
            (.ite (decide ((8 : Int) * (IntKind.wrap .i64 ((x0).tdiv (2 : Int))) ≤ 281474976710656))
              (.leaf ((List.replicate (IntKind.wrap .i64 ((x0).tdiv (2 : Int))).toNat (0 : Int), (0 : Int))))
              .fail)
            .fail)
          .fail))
noncomputable def ref08_New (x0 : Int) : Option ((List Int) × Int) := (Tref08_New x0).run
noncomputable def Aref08_New : Arg U (Int × Unit) := aO (cInt .i64) (aNil)
noncomputable def Rref08_New (r : ((List Int) × Int)) : List (V U) × List (Blk U) := ([vO (cSl 3) r.1, vO (cInt .i64) r.2], [])
noncomputable def Sref08_New : List (V U) → List (Blk U) → Option (FnOut U) := mkSpec Aref08_New bNil (fun x _ => ref08_New x.1) Rref08_New
noncomputable def Eref08_New : Env U := { P := Try.prog, cd := cd, fns := fns5, lps := noL, frz := fun _r => false, nt := 10, n0 := 0 }
theorem runref08_New (x : Int × Unit) (g : Unit) : execF Eref08_New Try.f23 (Aref08_New.enc x) (bNil.enc g) = (Tref08_New x.1).map Rref08_New := by kernel_rfl
theorem okref08_New : FnOk Try.prog cd 23 Sref08_New := mk_ok (E := Eref08_New) cd_ok fns5_ok Try.func23 (by kernel_rfl) (noLoops_body (by kernel_rfl)) (aO_ok (cInt_ok .i64) (aNil_ok)) bNil_ok (T := fun x _ => Tref08_New x.1) (fun _ _ => rfl) runref08_New
noncomputable def fns23 := addF 23 true Sref08_New fns5
theorem fns23_ok : ∀ f q t, fns23 f = some (q, t) → FnOk Try.prog cd f t := addF_ok okref08_New fns5_ok
/-- emulator/memory.Right -/
structure Smemory_Right_0 where
  t0 : (List Int)
  t1 : (List Int)
  t15 : (List Int)
  t16 : Int
  t17 : Int
noncomputable def Wmemory_Right_0 (s : Smemory_Right_0) : Tree (Smemory_Right_0 ⊕ (((List Int) × (List Int) × Bool) ⊕ ((List Int) × (List Int)))) :=
  .ite (decide (s.t17 < s.t16))
    (.ite (decide (0 ≤ s.t17))
      (.opt Int (s.t15[(s.t17).toNat]?) fun y197 =>
        .ite (!decide ((IntKind.wrap .i64 (((BitVec.ofInt 64 y197 &&& BitVec.ofInt 64 (65535 : Int)).toNat : Int))) = y197))
          (.leaf (.inr (.inl (s.t0, s.t1, false))))
          (.leaf (.inl (Smemory_Right_0.mk s.t0 s.t1 s.t15 s.t16 (IntKind.wrap .i64 (s.t17 + (1 : Int)))))))
      .fail)
    (.leaf (.inr (.inr (s.t0, s.t1))))
noncomputable def Lmemory_Right_0 (q : Option Nat) (s : Smemory_Right_0) : Option (((List Int) × (List Int) × Bool) ⊕ ((List Int) × (List Int))) := limQ q (fun s => (Wmemory_Right_0 s).run) s
theorem leLmemory_Right_0 (k : Nat) (s : Smemory_Right_0) : Le (Lmemory_Right_0 (some k) s) (Lmemory_Right_0 none s) := limQ_le (fun _ => Le.rfl) s
structure Smemory_Right_1 where
  t0 : (List Int)
  t7 : Int
  t26 : (List Int)
  t27 : Int
  t28 : Int
noncomputable def Wmemory_Right_1 (s : Smemory_Right_1) : Tree (Smemory_Right_1 ⊕ (Bool ⊕ Unit)) :=
  .ite (decide (s.t28 < s.t27))
    (.ite (decide (0 ≤ s.t28))
      (.opt Int (s.t26[(s.t28).toNat]?) fun y201 =>
        .ite (decide (y201 ≤ s.t7))
          (.leaf (.inr (.inl false)))
          (.ite (decide ((2 : Int) = 0))
            .fail
            (.ite (!decide (((y201).tmod (2 : Int)) = (0 : Int)))
              (.leaf (.inr (.inl false)))
              (.ite (decide ((IntKind.wrap .i64 ((2 : Int) * (s.t0.length : Int))) ≤ y201))
                (.leaf (.inr (.inl false)))
                (.leaf (.inl (Smemory_Right_1.mk s.t0 y201 s.t26 s.t27 (IntKind.wrap .i64 (s.t28 + (1 : Int))))))))))
      .fail)
    (.leaf (.inr (.inr ())))
noncomputable def Lmemory_Right_1 (q : Option Nat) (s : Smemory_Right_1) : Option (Bool ⊕ Unit) := limQ q (fun s => (Wmemory_Right_1 s).run) s
theorem leLmemory_Right_1 (k : Nat) (s : Smemory_Right_1) : Le (Lmemory_Right_1 (some k) s) (Lmemory_Right_1 none s) := limQ_le (fun _ => Le.rfl) s
noncomputable def Tmemory_Right (q : Option Nat) (x0 : (List Int)) (x1 : (List Int)) : Tree Bool :=
  .opt Bool (memory_sized (IntKind.wrap .i64 ((2 : Int) * (x0.length : Int)))) fun r196 =>
    .ite (!r196)
      (.leaf (false))
      (.opt (((List Int) × (List Int) × Bool) ⊕ ((List Int) × (List Int))) (Lmemory_Right_0 q (Smemory_Right_0.mk x0 x1 x0 (x0.length : Int) (0 : Int))) fun l198 =>
        .ite (l198.isLeft)
          (.opt ((List Int) × (List Int) × Bool) (l198.getLeft?) fun a199 =>
            .leaf (a199.2.2))
          (.opt ((List Int) × (List Int)) (l198.getRight?) fun b200 =>
            .opt (Bool ⊕ Unit) (Lmemory_Right_1 q (Smemory_Right_1.mk b200.1 (-1 : Int) b200.2 (b200.2.length : Int) (0 : Int))) fun l202 =>
              .ite (l202.isLeft)
                (.opt Bool (l202.getLeft?) fun a203 =>
                  .leaf (a203))
                (.opt Unit (l202.getRight?) fun b204 =>
                  .leaf (true))))
noncomputable def memory_Right (q : Option Nat) (x0 : (List Int)) (x1 : (List Int)) : Option Bool := (Tmemory_Right q x0 x1).run
theorem lememory_Right (k : Nat) (x0 : (List Int)) (x1 : (List Int)) : Le (memory_Right (some k) x0 x1) (memory_Right none x0 x1) := (TLe.opt Le.rfl fun _ => (TLe.ite TLe.rfl (TLe.opt (leLmemory_Right_0 k _) fun _ => (TLe.ite TLe.rfl (TLe.opt Le.rfl fun _ => (TLe.opt (leLmemory_Right_1 k _) fun _ => TLe.rfl))))))
noncomputable def Amemory_Right : Arg U ((List Int) × (List Int) × Unit) := aO (cSl 3) (aO (cSl 3) (aNil))
noncomputable def Rmemory_Right (r : Bool) : List (V U) × List (Blk U) := ([vO cBool r], [])
noncomputable def Smemory_Right : List (V U) → List (Blk U) → Option (FnOut U) := mkSpec Amemory_Right bNil (fun x _ => memory_Right none x.1 x.2.1) Rmemory_Right
noncomputable def Pmemory_Right_0 (x : ((List Int) × Unit) × ((List Int) × Unit) × ((List Int) × Unit) × (Int × Unit) × (Int × Unit) × Unit) (_g : Unit) : Smemory_Right_0 := Smemory_Right_0.mk x.1.1 x.2.1.1 x.2.2.1.1 x.2.2.2.1.1 x.2.2.2.2.1.1
noncomputable def tAmemory_Right_0 : Tms U (((List Int) × Unit) × ((List Int) × Unit) × ((List Int) × Unit) × (Int × Unit) × (Int × Unit) × Unit) := tO 0 (cPair (cSl 3) (cUnit)) (tO 1 (cPair (cSl 3) (cUnit)) (tO 15 (cPair (cSl 3) (cUnit)) (tO 16 (cPair (cInt .i64) (cUnit)) (tO 17 (cPair (cInt .i64) (cUnit)) (tNil)))))
noncomputable def tBmemory_Right_0 : Bls U (Unit) := bNil
noncomputable def eSmemory_Right_0 (s : Smemory_Right_0) : St U := { tm := [(0, .v (vO (cPair (cSl 3) (cUnit)) (s.t0, ()))), (1, .v (vO (cPair (cSl 3) (cUnit)) (s.t1, ()))), (15, .v (vO (cPair (cSl 3) (cUnit)) (s.t15, ()))), (16, .v (vO (cPair (cInt .i64) (cUnit)) (s.t16, ()))), (17, .v (vO (cPair (cInt .i64) (cUnit)) (s.t17, ())))], hp := [] }
noncomputable def xSmemory_Right_0 : (((List Int) × (List Int) × Bool) ⊕ ((List Int) × (List Int))) → Ex × St U
  | .inl r => (.ret, { tm := [(0, .v (vO (cPair (cSl 3) (cUnit)) (r.1, ()))), (1, .v (vO (cPair (cSl 3) (cUnit)) (r.2.1, ()))), (4, .v (vO (cPair cBool (cUnit)) (r.2.2, ())))], hp := [] })
  | .inr r => (.exit 0, { tm := [(0, .v (vO (cPair (cSl 3) (cUnit)) (r.1, ()))), (1, .v (vO (cPair (cSl 3) (cUnit)) (r.2, ())))], hp := [] })
noncomputable def xTmemory_Right_0 (y : (((List Int) × (List Int) × Bool) ⊕ ((List Int) × (List Int)))) : Tree (Ex × St U) := .ite y.isLeft (.opt ((List Int) × (List Int) × Bool) y.getLeft? fun r => .leaf (.ret, { tm := [(0, .v (vO (cPair (cSl 3) (cUnit)) (r.1, ()))), (1, .v (vO (cPair (cSl 3) (cUnit)) (r.2.1, ()))), (4, .v (vO (cPair cBool (cUnit)) (r.2.2, ())))], hp := [] })) (.opt ((List Int) × (List Int)) y.getRight? fun r => .leaf (.exit 0, { tm := [(0, .v (vO (cPair (cSl 3) (cUnit)) (r.1, ()))), (1, .v (vO (cPair (cSl 3) (cUnit)) (r.2, ())))], hp := [] }))
noncomputable def hmemory_Right_0 : Hd := { keep := [0, 1, 15, 16, 17], xkeep := [0, 1, 4], own := false }
noncomputable def Pmemory_Right_1 (x : ((List Int) × Unit) × (Int × Unit) × ((List Int) × Unit) × (Int × Unit) × (Int × Unit) × Unit) (_g : Unit) : Smemory_Right_1 := Smemory_Right_1.mk x.1.1 x.2.1.1 x.2.2.1.1 x.2.2.2.1.1 x.2.2.2.2.1.1
noncomputable def tAmemory_Right_1 : Tms U (((List Int) × Unit) × (Int × Unit) × ((List Int) × Unit) × (Int × Unit) × (Int × Unit) × Unit) := tO 0 (cPair (cSl 3) (cUnit)) (tO 7 (cPair (cInt .i64) (cUnit)) (tO 26 (cPair (cSl 3) (cUnit)) (tO 27 (cPair (cInt .i64) (cUnit)) (tO 28 (cPair (cInt .i64) (cUnit)) (tNil)))))
noncomputable def tBmemory_Right_1 : Bls U (Unit) := bNil
noncomputable def eSmemory_Right_1 (s : Smemory_Right_1) : St U := { tm := [(0, .v (vO (cPair (cSl 3) (cUnit)) (s.t0, ()))), (7, .v (vO (cPair (cInt .i64) (cUnit)) (s.t7, ()))), (26, .v (vO (cPair (cSl 3) (cUnit)) (s.t26, ()))), (27, .v (vO (cPair (cInt .i64) (cUnit)) (s.t27, ()))), (28, .v (vO (cPair (cInt .i64) (cUnit)) (s.t28, ())))], hp := [] }
noncomputable def xSmemory_Right_1 : (Bool ⊕ Unit) → Ex × St U
  | .inl r => (.ret, { tm := [(4, .v (vO (cPair cBool (cUnit)) (r, ())))], hp := [] })
  | .inr r => (.exit 2, { tm := [], hp := [] })
noncomputable def xTmemory_Right_1 (y : (Bool ⊕ Unit)) : Tree (Ex × St U) := .ite y.isLeft (.opt Bool y.getLeft? fun r => .leaf (.ret, { tm := [(4, .v (vO (cPair cBool (cUnit)) (r, ())))], hp := [] })) (.opt Unit y.getRight? fun r => .leaf (.exit 2, { tm := [], hp := [] }))
noncomputable def hmemory_Right_1 : Hd := { keep := [0, 7, 26, 27, 28], xkeep := [4], own := false }
noncomputable def Ememory_Right : Env U := { P := Try.prog, cd := cd, fns := fns23, lps := (addL 0 hmemory_Right_0 (mkLoop tAmemory_Right_0 tBmemory_Right_0 Pmemory_Right_0 (Lmemory_Right_0 none) xTmemory_Right_0) (addL 1 hmemory_Right_1 (mkLoop tAmemory_Right_1 tBmemory_Right_1 Pmemory_Right_1 (Lmemory_Right_1 none) xTmemory_Right_1) noL)), frz := fun _r => false, nt := 49, n0 := 0 }
noncomputable def Bmemory_Right_0 : Code := (loopAt (Try.f24.body.getD .skip) 0 0).getD .skip
theorem roundmemory_Right_0 (s : Smemory_Right_0) : round Ememory_Right hmemory_Right_0 Bmemory_Right_0 0 (eSmemory_Right_0 s) = (Wmemory_Right_0 s).map (sumE eSmemory_Right_0 xSmemory_Right_0) := by kernel_rfl
theorem lpmemory_Right_0 : LpOk Ememory_Right Bmemory_Right_0 0 := mkLoop_ok (A := tAmemory_Right_0) (B := tBmemory_Right_0) (f := Pmemory_Right_0) (L := Lmemory_Right_0 none) (tO_ok (cPair_ok (cSl_ok 3) cUnit_ok) (tO_ok (cPair_ok (cSl_ok 3) cUnit_ok) (tO_ok (cPair_ok (cSl_ok 3) cUnit_ok) (tO_ok (cPair_ok (cInt_ok .i64) cUnit_ok) (tO_ok (cPair_ok (cInt_ok .i64) cUnit_ok) tNil_ok))))) bNil_ok (enc := eSmemory_Right_0) (out := xTmemory_Right_0) (outS := xSmemory_Right_0) (step := Wmemory_Right_0) (fun _ => rfl) (fun _ _ => by kernel_rfl) (by kernel_rfl) (fun b => by cases b <;> rfl) roundmemory_Right_0
noncomputable def Bmemory_Right_1 : Code := (loopAt (Try.f24.body.getD .skip) 0 1).getD .skip
theorem roundmemory_Right_1 (s : Smemory_Right_1) : round Ememory_Right hmemory_Right_1 Bmemory_Right_1 1 (eSmemory_Right_1 s) = (Wmemory_Right_1 s).map (sumE eSmemory_Right_1 xSmemory_Right_1) := by kernel_rfl
theorem lpmemory_Right_1 : LpOk Ememory_Right Bmemory_Right_1 1 := mkLoop_ok (A := tAmemory_Right_1) (B := tBmemory_Right_1) (f := Pmemory_Right_1) (L := Lmemory_Right_1 none) (tO_ok (cPair_ok (cSl_ok 3) cUnit_ok) (tO_ok (cPair_ok (cInt_ok .i64) cUnit_ok) (tO_ok (cPair_ok (cSl_ok 3) cUnit_ok) (tO_ok (cPair_ok (cInt_ok .i64) cUnit_ok) (tO_ok (cPair_ok (cInt_ok .i64) cUnit_ok) tNil_ok))))) bNil_ok (enc := eSmemory_Right_1) (out := xTmemory_Right_1) (outS := xSmemory_Right_1) (step := Wmemory_Right_1) (fun _ => rfl) (fun _ _ => by kernel_rfl) (by kernel_rfl) (fun b => by cases b <;> rfl) roundmemory_Right_1
theorem runmemory_Right (x : (List Int) × (List Int) × Unit) (g : Unit) : execF Ememory_Right Try.f24 (Amemory_Right.enc x) (bNil.enc g) = (Tmemory_Right none x.1 x.2.1).map Rmemory_Right := by kernel_rfl
theorem okmemory_Right : FnOk Try.prog cd 24 Smemory_Right := mk_ok (E := Ememory_Right) cd_ok fns23_ok Try.func24 (by kernel_rfl) (loops_of (addL_ok lpmemory_Right_0 (addL_ok lpmemory_Right_1 noL_ok))) (aO_ok (cSl_ok 3) (aO_ok (cSl_ok 3) (aNil_ok))) bNil_ok (T := fun x _ => Tmemory_Right none x.1 x.2.1) (fun _ _ => rfl) runmemory_Right
noncomputable def fns24 := addF 24 true Smemory_Right fns23
theorem fns24_ok : ∀ f q t, fns24 f = some (q, t) → FnOk Try.prog cd f t := addF_ok okmemory_Right fns23_ok
/-- emulator/emulatorlaw08.MemoryRight -/
noncomputable def Tlaw08_MemoryRight (q : Option Nat) (x0 : Int) (x1 : (List Int)) (x2 : (List Int)) : Tree Bool :=
  .ite (decide ((2048 : Int) < (x1.length : Int)))
    (.leaf (true))
    (.ite (decide ((2048 : Int) < (x2.length : Int)))
      (.leaf (true))
      (.opt ((List Int) × Int) (memory_New x0) fun r205 =>
        .opt ((List Int) × Int) (ref08_New x0) fun r206 =>
          .opt Bool (ref08_Same q r205.1 r206.1) fun r207 =>
            .ite (r207)
              (.ite (decide (r205.2 = r206.2))
                (.opt Bool (memory_Right q x1 x2) fun r208 =>
                  .opt Bool (ref08_Right q x1 x2) fun r209 =>
                    .ite ((r208 == r209))
                      (.opt Bool (law08_alive q) fun r210 =>
                        .leaf (r210))
                      (.leaf (false)))
                (.leaf (false)))
              (.leaf (false))))
noncomputable def law08_MemoryRight (q : Option Nat) (x0 : Int) (x1 : (List Int)) (x2 : (List Int)) : Option Bool := (Tlaw08_MemoryRight q x0 x1 x2).run
theorem lelaw08_MemoryRight (k : Nat) (x0 : Int) (x1 : (List Int)) (x2 : (List Int)) : Le (law08_MemoryRight (some k) x0 x1 x2) (law08_MemoryRight none x0 x1 x2) := (TLe.ite TLe.rfl (TLe.ite TLe.rfl (TLe.opt Le.rfl fun _ => (TLe.opt Le.rfl fun _ => (TLe.opt (leref08_Same k _ _) fun _ => (TLe.ite (TLe.ite (TLe.opt (lememory_Right k _ _) fun _ => (TLe.opt (leref08_Right k _ _) fun _ => (TLe.ite (TLe.opt (lelaw08_alive k) fun _ => TLe.rfl) TLe.rfl))) TLe.rfl) TLe.rfl))))))
noncomputable def Alaw08_MemoryRight : Arg U (Int × (List Int) × (List Int) × Unit) := aO (cInt .i64) (aO (cSl 3) (aO (cSl 3) (aNil)))
noncomputable def Rlaw08_MemoryRight (r : Bool) : List (V U) × List (Blk U) := ([vO cBool r], [])
noncomputable def Slaw08_MemoryRight : List (V U) → List (Blk U) → Option (FnOut U) := mkSpec Alaw08_MemoryRight bNil (fun x _ => law08_MemoryRight none x.1 x.2.1 x.2.2.1) Rlaw08_MemoryRight
noncomputable def Elaw08_MemoryRight : Env U := { P := Try.prog, cd := cd, fns := fns24, lps := noL, frz := fun _r => false, nt := 49, n0 := 0 }
theorem runlaw08_MemoryRight (x : Int × (List Int) × (List Int) × Unit) (g : Unit) : execF Elaw08_MemoryRight Try.f6 (Alaw08_MemoryRight.enc x) (bNil.enc g) = (Tlaw08_MemoryRight none x.1 x.2.1 x.2.2.1).map Rlaw08_MemoryRight := by kernel_rfl
theorem oklaw08_MemoryRight : FnOk Try.prog cd 6 Slaw08_MemoryRight := mk_ok (E := Elaw08_MemoryRight) cd_ok fns24_ok Try.func6 (by kernel_rfl) (noLoops_body (by kernel_rfl)) (aO_ok (cInt_ok .i64) (aO_ok (cSl_ok 3) (aO_ok (cSl_ok 3) (aNil_ok)))) bNil_ok (T := fun x _ => Tlaw08_MemoryRight none x.1 x.2.1 x.2.2.1) (fun _ _ => rfl) runlaw08_MemoryRight
noncomputable def fns6 := addF 6 true Slaw08_MemoryRight fns24
theorem fns6_ok : ∀ f q t, fns6 f = some (q, t) → FnOk Try.prog cd f t := addF_ok oklaw08_MemoryRight fns24_ok
/-- emulator/emulatorref08.Spoil -/
structure Sref08_Spoil_0 where
  t1 : (List Int)
  t2 : Int
  t9 : Int
  b0 : (List Int)
noncomputable def Wref08_Spoil_0 (s : Sref08_Spoil_0) : Tree (Sref08_Spoil_0 ⊕ ((List Int) × Int × Int × (List Int))) :=
  .ite (decide (s.t9 < (s.t1.length : Int)))
    (.ite (decide (0 ≤ s.t9))
      (.opt Int (s.t1[(s.t9).toNat]?) fun y211 =>
        .ite (decide (y211 < s.t2))
          (.ite (decide (0 ≤ s.t9))
            (.opt Int (s.t1[(s.t9).toNat]?) fun y212 =>
              .ite (decide ((s.b0.length + ([y212]).length) * 8 ≤ 140737488355328))
                (.leaf (.inl (Sref08_Spoil_0.mk s.t1 s.t2 (IntKind.wrap .i64 (s.t9 + (1 : Int))) (s.b0 ++ ([y212])))))
                .fail)
            .fail)
          (.leaf (.inr (s.t1, s.t2, s.t9, s.b0))))
      .fail)
    (.leaf (.inr (s.t1, s.t2, s.t9, s.b0)))
noncomputable def Lref08_Spoil_0 (q : Option Nat) (s : Sref08_Spoil_0) : Option ((List Int) × Int × Int × (List Int)) := limQ q (fun s => (Wref08_Spoil_0 s).run) s
theorem leLref08_Spoil_0 (k : Nat) (s : Sref08_Spoil_0) : Le (Lref08_Spoil_0 (some k) s) (Lref08_Spoil_0 none s) := limQ_le (fun _ => Le.rfl) s
structure Sref08_Spoil_1 where
  t1 : (List Int)
  t2 : Int
  t9 : Int
  b0 : (List Int)
noncomputable def Wref08_Spoil_1 (s : Sref08_Spoil_1) : Tree (Sref08_Spoil_1 ⊕ (List Int)) :=
  .ite (decide (s.t9 < (s.t1.length : Int)))
    (.ite (decide (0 ≤ s.t9))
      (.opt Int (s.t1[(s.t9).toNat]?) fun y214 =>
        .ite (!decide (y214 = s.t2))
          (.ite (decide (0 ≤ s.t9))
            (.opt Int (s.t1[(s.t9).toNat]?) fun y215 =>
              .ite (decide ((s.b0.length + ([y215]).length) * 8 ≤ 140737488355328))
                (.leaf (.inl (Sref08_Spoil_1.mk s.t1 s.t2 (IntKind.wrap .i64 (s.t9 + (1 : Int))) (s.b0 ++ ([y215])))))
                .fail)
            .fail)
          (.leaf (.inl (Sref08_Spoil_1.mk s.t1 s.t2 (IntKind.wrap .i64 (s.t9 + (1 : Int))) s.b0))))
      .fail)
    (.leaf (.inr s.b0))
noncomputable def Lref08_Spoil_1 (q : Option Nat) (s : Sref08_Spoil_1) : Option (List Int) := limQ q (fun s => (Wref08_Spoil_1 s).run) s
theorem leLref08_Spoil_1 (k : Nat) (s : Sref08_Spoil_1) : Le (Lref08_Spoil_1 (some k) s) (Lref08_Spoil_1 none s) := limQ_le (fun _ => Le.rfl) s
noncomputable def Tref08_Spoil (q : Option Nat) (x0 : (List Int)) (x1 : (List Int)) (x2 : Int) : Tree ((List Int) × Int) :=
  .ite (decide ((2 : Int) = 0))
    .fail
    (.ite (!decide (((x2).tmod (2 : Int)) = (0 : Int)))
      (.leaf (([], (1 : Int))))
      (.ite (decide (x2 < (0 : Int)))
        (.leaf (([], (2 : Int))))
        (.ite (decide ((IntKind.wrap .i64 ((2 : Int) * (x0.length : Int))) ≤ x2))
          (.leaf (([], (2 : Int))))
          (.opt ((List Int) × Int × Int × (List Int)) (Lref08_Spoil_0 q (Sref08_Spoil_0.mk x1 x2 (0 : Int) ([]))) fun l213 =>
            .ite (decide ((l213.2.2.2.length + ([l213.2.1]).length) * 8 ≤ 140737488355328))
              (.opt (List Int) (Lref08_Spoil_1 q (Sref08_Spoil_1.mk l213.1 l213.2.1 l213.2.2.1 (l213.2.2.2 ++ ([l213.2.1])))) fun l216 =>
                .leaf ((l216, (0 : Int))))
              .fail))))
noncomputable def ref08_Spoil (q : Option Nat) (x0 : (List Int)) (x1 : (List Int)) (x2 : Int) : Option ((List Int) × Int) := (Tref08_Spoil q x0 x1 x2).run
theorem leref08_Spoil (k : Nat) (x0 : (List Int)) (x1 : (List Int)) (x2 : Int) : Le (ref08_Spoil (some k) x0 x1 x2) (ref08_Spoil none x0 x1 x2) := (TLe.ite TLe.rfl (TLe.ite TLe.rfl (TLe.ite TLe.rfl (TLe.ite TLe.rfl (TLe.opt (leLref08_Spoil_0 k _) fun _ => (TLe.ite (TLe.opt (leLref08_Spoil_1 k _) fun _ => TLe.rfl) TLe.rfl))))))
noncomputable def Aref08_Spoil : Arg U ((List Int) × (List Int) × Int × Unit) := aO (cSl 3) (aO (cSl 3) (aO (cInt .i64) (aNil)))
noncomputable def Rref08_Spoil (r : ((List Int) × Int)) : List (V U) × List (Blk U) := ([vO (cSl 3) r.1, vO (cInt .i64) r.2], [])
noncomputable def Sref08_Spoil : List (V U) → List (Blk U) → Option (FnOut U) := mkSpec Aref08_Spoil bNil (fun x _ => ref08_Spoil none x.1 x.2.1 x.2.2.1) Rref08_Spoil
noncomputable def Pref08_Spoil_0 (x : ((List Int) × Unit) × (Int × Unit) × (Unit) × (Int × Unit) × Unit) (g : (List Int) × Unit) : Sref08_Spoil_0 := Sref08_Spoil_0.mk x.1.1 x.2.1.1 x.2.2.2.1.1 g.1
noncomputable def tAref08_Spoil_0 : Tms U (((List Int) × Unit) × (Int × Unit) × (Unit) × (Int × Unit) × Unit) := tO 1 (cPair (cSl 3) (cUnit)) (tO 2 (cPair (cInt .i64) (cUnit)) (tO 8 (cK (.row 0 0) (cUnit)) (tO 9 (cPair (cInt .i64) (cUnit)) (tNil))))
noncomputable def tBref08_Spoil_0 : Bls U ((List Int) × Unit) := bRv 3 0 (bNil)
noncomputable def eSref08_Spoil_0 (s : Sref08_Spoil_0) : St U := { tm := [(1, .v (vO (cPair (cSl 3) (cUnit)) (s.t1, ()))), (2, .v (vO (cPair (cInt .i64) (cUnit)) (s.t2, ()))), (8, .v (vO (cK (.row 0 0) (cUnit)) (()))), (9, .v (vO (cPair (cInt .i64) (cUnit)) (s.t9, ())))], hp := [.row 3 0 s.b0] }
noncomputable def xSref08_Spoil_0 (r : ((List Int) × Int × Int × (List Int))) : Ex × St U := (.exit 0, { tm := [(1, .v (vO (cPair (cSl 3) (cUnit)) (r.1, ()))), (2, .v (vO (cPair (cInt .i64) (cUnit)) (r.2.1, ()))), (8, .v (vO (cK (.row 0 0) (cUnit)) (()))), (9, .v (vO (cPair (cInt .i64) (cUnit)) (r.2.2.1, ())))], hp := [.row 3 0 r.2.2.2] })
noncomputable def xTref08_Spoil_0 (r : ((List Int) × Int × Int × (List Int))) : Tree (Ex × St U) := .leaf (xSref08_Spoil_0 r)
noncomputable def href08_Spoil_0 : Hd := { keep := [1, 2, 8, 9], xkeep := [1, 2, 6, 7, 8, 9], own := true }
noncomputable def Pref08_Spoil_1 (x : ((List Int) × Unit) × (Int × Unit) × (Unit) × (Int × Unit) × Unit) (g : (List Int) × Unit) : Sref08_Spoil_1 := Sref08_Spoil_1.mk x.1.1 x.2.1.1 x.2.2.2.1.1 g.1
noncomputable def tAref08_Spoil_1 : Tms U (((List Int) × Unit) × (Int × Unit) × (Unit) × (Int × Unit) × Unit) := tO 1 (cPair (cSl 3) (cUnit)) (tO 2 (cPair (cInt .i64) (cUnit)) (tO 8 (cK (.row 0 0) (cUnit)) (tO 9 (cPair (cInt .i64) (cUnit)) (tNil))))
noncomputable def tBref08_Spoil_1 : Bls U ((List Int) × Unit) := bRv 3 0 (bNil)
noncomputable def eSref08_Spoil_1 (s : Sref08_Spoil_1) : St U := { tm := [(1, .v (vO (cPair (cSl 3) (cUnit)) (s.t1, ()))), (2, .v (vO (cPair (cInt .i64) (cUnit)) (s.t2, ()))), (8, .v (vO (cK (.row 0 0) (cUnit)) (()))), (9, .v (vO (cPair (cInt .i64) (cUnit)) (s.t9, ())))], hp := [.row 3 0 s.b0] }
noncomputable def xSref08_Spoil_1 (r : (List Int)) : Ex × St U := (.exit 2, { tm := [(8, .v (vO (cK (.row 0 0) (cUnit)) (())))], hp := [.row 3 0 r] })
noncomputable def xTref08_Spoil_1 (r : (List Int)) : Tree (Ex × St U) := .leaf (xSref08_Spoil_1 r)
noncomputable def href08_Spoil_1 : Hd := { keep := [1, 2, 8, 9], xkeep := [6, 7, 8], own := false }
noncomputable def Eref08_Spoil : Env U := { P := Try.prog, cd := cd, fns := fns6, lps := (addL 0 href08_Spoil_0 (mkLoop tAref08_Spoil_0 tBref08_Spoil_0 Pref08_Spoil_0 (Lref08_Spoil_0 none) xTref08_Spoil_0) (addL 1 href08_Spoil_1 (mkLoop tAref08_Spoil_1 tBref08_Spoil_1 Pref08_Spoil_1 (Lref08_Spoil_1 none) xTref08_Spoil_1) noL)), frz := fun _r => false, nt := 67, n0 := 0 }
noncomputable def Bref08_Spoil_0 : Code := (loopAt (Try.f27.body.getD .skip) 0 0).getD .skip
theorem roundref08_Spoil_0 (s : Sref08_Spoil_0) : round Eref08_Spoil href08_Spoil_0 Bref08_Spoil_0 0 (eSref08_Spoil_0 s) = (Wref08_Spoil_0 s).map (sumE eSref08_Spoil_0 xSref08_Spoil_0) := by kernel_rfl
theorem lpref08_Spoil_0 : LpOk Eref08_Spoil Bref08_Spoil_0 0 := mkLoop_ok (A := tAref08_Spoil_0) (B := tBref08_Spoil_0) (f := Pref08_Spoil_0) (L := Lref08_Spoil_0 none) (tO_ok (cPair_ok (cSl_ok 3) cUnit_ok) (tO_ok (cPair_ok (cInt_ok .i64) cUnit_ok) (tO_ok (cK_ok cUnit_ok) (tO_ok (cPair_ok (cInt_ok .i64) cUnit_ok) tNil_ok)))) (bRv_ok bNil_ok) (enc := eSref08_Spoil_0) (out := xTref08_Spoil_0) (outS := xSref08_Spoil_0) (step := Wref08_Spoil_0) (fun _ => rfl) (fun _ _ => by kernel_rfl) (by kernel_rfl) (fun _ => rfl) roundref08_Spoil_0
noncomputable def Bref08_Spoil_1 : Code := (loopAt (Try.f27.body.getD .skip) 0 1).getD .skip
theorem roundref08_Spoil_1 (s : Sref08_Spoil_1) : round Eref08_Spoil href08_Spoil_1 Bref08_Spoil_1 1 (eSref08_Spoil_1 s) = (Wref08_Spoil_1 s).map (sumE eSref08_Spoil_1 xSref08_Spoil_1) := by kernel_rfl
theorem lpref08_Spoil_1 : LpOk Eref08_Spoil Bref08_Spoil_1 1 := mkLoop_ok (A := tAref08_Spoil_1) (B := tBref08_Spoil_1) (f := Pref08_Spoil_1) (L := Lref08_Spoil_1 none) (tO_ok (cPair_ok (cSl_ok 3) cUnit_ok) (tO_ok (cPair_ok (cInt_ok .i64) cUnit_ok) (tO_ok (cK_ok cUnit_ok) (tO_ok (cPair_ok (cInt_ok .i64) cUnit_ok) tNil_ok)))) (bRv_ok bNil_ok) (enc := eSref08_Spoil_1) (out := xTref08_Spoil_1) (outS := xSref08_Spoil_1) (step := Wref08_Spoil_1) (fun _ => rfl) (fun _ _ => by kernel_rfl) (by kernel_rfl) (fun _ => rfl) roundref08_Spoil_1
theorem runref08_Spoil (x : (List Int) × (List Int) × Int × Unit) (g : Unit) : execF Eref08_Spoil Try.f27 (Aref08_Spoil.enc x) (bNil.enc g) = (Tref08_Spoil none x.1 x.2.1 x.2.2.1).map Rref08_Spoil := by kernel_rfl
theorem okref08_Spoil : FnOk Try.prog cd 27 Sref08_Spoil := mk_ok (E := Eref08_Spoil) cd_ok fns6_ok Try.func27 (by kernel_rfl) (loops_of (addL_ok lpref08_Spoil_0 (addL_ok lpref08_Spoil_1 noL_ok))) (aO_ok (cSl_ok 3) (aO_ok (cSl_ok 3) (aO_ok (cInt_ok .i64) (aNil_ok)))) bNil_ok (T := fun x _ => Tref08_Spoil none x.1 x.2.1 x.2.2.1) (fun _ _ => rfl) runref08_Spoil
noncomputable def fns27 := addF 27 true Sref08_Spoil fns6
theorem fns27_ok : ∀ f q t, fns27 f = some (q, t) → FnOk Try.prog cd f t := addF_ok okref08_Spoil fns6_ok
/-- emulator/emulatorlaw08.MemorySpoils -/
noncomputable def Tlaw08_MemorySpoils (q : Option Nat) (x0 : (List Int)) (x1 : (List Int)) (x2 : Int) : Tree Bool :=
  .opt Bool (law08_small q x0 x1) fun r217 =>
    .ite (!r217)
      (.leaf (true))
      (.opt ((List Int) × Int) (memory_Spoil q x0 x1 x2) fun r218 =>
        .opt ((List Int) × Int) (ref08_Spoil q x0 x1 x2) fun r219 =>
          .opt Bool (ref08_Same q r218.1 r219.1) fun r220 =>
            .ite (r220)
              (.ite (decide (r218.2 = r219.2))
                (.ite (!decide (r218.2 = (0 : Int)))
                  (.opt Bool (law08_alive q) fun r221 =>
                    .leaf (r221))
                  (.opt Bool (memory_Right q x0 r218.1) fun r222 =>
                    .ite (r222)
                      (.opt Bool (law08_alive q) fun r223 =>
                        .leaf (r223))
                      (.leaf (false))))
                (.leaf (false)))
              (.leaf (false)))
noncomputable def law08_MemorySpoils (q : Option Nat) (x0 : (List Int)) (x1 : (List Int)) (x2 : Int) : Option Bool := (Tlaw08_MemorySpoils q x0 x1 x2).run
theorem lelaw08_MemorySpoils (k : Nat) (x0 : (List Int)) (x1 : (List Int)) (x2 : Int) : Le (law08_MemorySpoils (some k) x0 x1 x2) (law08_MemorySpoils none x0 x1 x2) := (TLe.opt (lelaw08_small k _ _) fun _ => (TLe.ite TLe.rfl (TLe.opt (lememory_Spoil k _ _ _) fun _ => (TLe.opt (leref08_Spoil k _ _ _) fun _ => (TLe.opt (leref08_Same k _ _) fun _ => (TLe.ite (TLe.ite (TLe.ite (TLe.opt (lelaw08_alive k) fun _ => TLe.rfl) (TLe.opt (lememory_Right k _ _) fun _ => (TLe.ite (TLe.opt (lelaw08_alive k) fun _ => TLe.rfl) TLe.rfl))) TLe.rfl) TLe.rfl))))))
noncomputable def Alaw08_MemorySpoils : Arg U ((List Int) × (List Int) × Int × Unit) := aO (cSl 3) (aO (cSl 3) (aO (cInt .i64) (aNil)))
noncomputable def Rlaw08_MemorySpoils (r : Bool) : List (V U) × List (Blk U) := ([vO cBool r], [])
noncomputable def Slaw08_MemorySpoils : List (V U) → List (Blk U) → Option (FnOut U) := mkSpec Alaw08_MemorySpoils bNil (fun x _ => law08_MemorySpoils none x.1 x.2.1 x.2.2.1) Rlaw08_MemorySpoils
noncomputable def Elaw08_MemorySpoils : Env U := { P := Try.prog, cd := cd, fns := fns27, lps := noL, frz := fun _r => false, nt := 49, n0 := 0 }
theorem runlaw08_MemorySpoils (x : (List Int) × (List Int) × Int × Unit) (g : Unit) : execF Elaw08_MemorySpoils Try.f7 (Alaw08_MemorySpoils.enc x) (bNil.enc g) = (Tlaw08_MemorySpoils none x.1 x.2.1 x.2.2.1).map Rlaw08_MemorySpoils := by kernel_rfl
theorem oklaw08_MemorySpoils : FnOk Try.prog cd 7 Slaw08_MemorySpoils := mk_ok (E := Elaw08_MemorySpoils) cd_ok fns27_ok Try.func7 (by kernel_rfl) (noLoops_body (by kernel_rfl)) (aO_ok (cSl_ok 3) (aO_ok (cSl_ok 3) (aO_ok (cInt_ok .i64) (aNil_ok)))) bNil_ok (T := fun x _ => Tlaw08_MemorySpoils none x.1 x.2.1 x.2.2.1) (fun _ _ => rfl) runlaw08_MemorySpoils
noncomputable def fns7 := addF 7 true Slaw08_MemorySpoils fns27
theorem fns7_ok : ∀ f q t, fns7 f = some (q, t) → FnOk Try.prog cd f t := addF_ok oklaw08_MemorySpoils fns27_ok
/-- emulator/emulatorlaw08.MemoryKeeps -/
noncomputable def Tlaw08_MemoryKeeps (q : Option Nat) (x0 : (List Int)) (x1 : (List Int)) (x2 : Two) : Tree Bool :=
  .opt Bool (law08_small q x0 x1) fun r224 =>
    .ite (!r224)
      (.leaf (true))
      (.opt ((List Int) × (List Int) × Int) (memory_Write q x0 x1 x2.access.addr x2.access.byte x2.access.value) fun r225 =>
        .ite (!decide (r225.2.2 = (0 : Int)))
          (.ite (decide ((r225.1.length : Int) = (0 : Int)))
            (.ite (decide ((r225.2.1.length : Int) = (0 : Int)))
              (.opt Bool (law08_alive q) fun r226 =>
                .leaf (r226))
              (.leaf (false)))
            (.leaf (false)))
          (.ite (x2.access.byte)
            (.opt (Int × Int) (memory_Read q r225.1 r225.2.1 x2.access.addr x2.access.byte) fun r227 =>
              .ite (!decide (r227.1 = (IntKind.wrap .i64 (((BitVec.ofInt 64 x2.access.value &&& BitVec.ofInt 64 (255 : Int)).toNat : Int)))))
                (.leaf (false))
                (.ite (!decide (r227.2 = (0 : Int)))
                  (.leaf (false))
                  (.opt Bool (memory_Right q r225.1 r225.2.1) fun r228 =>
                    .ite (!r228)
                      (.leaf (false))
                      (.ite (decide (0 ≤ (1 : Int)))
                        (.ite (decide (0 ≤ (1 : Int)))
                          (.ite (!decide (((x2.other).fdiv (2 ^ (min ((1 : Int)).toNat 64))) = ((x2.access.addr).fdiv (2 ^ (min ((1 : Int)).toNat 64)))))
                            (.opt (Int × Int) (memory_Read q x0 x1 x2.other false) fun r229 =>
                              .opt (Int × Int) (memory_Read q r225.1 r225.2.1 x2.other false) fun r230 =>
                                .ite (!decide (r229.1 = r230.1))
                                  (.leaf (false))
                                  (.ite (!decide (r229.2 = r230.2))
                                    (.leaf (false))
                                    (.opt ((List Int) × Int) (memory_Spoil q r225.1 r225.2.1 (IntKind.wrap .i64 (((BitVec.ofInt 64 x2.access.addr &&& ~~~BitVec.ofInt 64 (1 : Int)).toNat : Int)))) fun r231 =>
                                      .opt (Int × Int) (memory_Read q r225.1 r231.1 x2.access.addr true) fun r232 =>
                                        .opt ((List Int) × (List Int) × Int) (memory_Write q r225.1 r231.1 x2.access.addr x2.access.byte x2.access.value) fun r233 =>
                                          .ite (decide (r231.2 = (0 : Int)))
                                            (.ite (decide (r232.2 = (9 : Int)))
                                              (.opt Bool (ref08_Same q r233.1 r225.1) fun r234 =>
                                                .ite (r234)
                                                  (.opt Bool (ref08_Same q r233.2.1 r225.2.1) fun r235 =>
                                                    .ite (r235)
                                                      (.opt Bool (law08_alive q) fun r236 =>
                                                        .leaf (r236))
                                                      (.leaf (false)))
                                                  (.leaf (false)))
                                              (.leaf (false)))
                                            (.leaf (false)))))
                            (.opt ((List Int) × Int) (memory_Spoil q r225.1 r225.2.1 (IntKind.wrap .i64 (((BitVec.ofInt 64 x2.access.addr &&& ~~~BitVec.ofInt 64 (1 : Int)).toNat : Int)))) fun r237 =>
                              .opt (Int × Int) (memory_Read q r225.1 r237.1 x2.access.addr true) fun r238 =>
                                .opt ((List Int) × (List Int) × Int) (memory_Write q r225.1 r237.1 x2.access.addr x2.access.byte x2.access.value) fun r239 =>
                                  .ite (decide (r237.2 = (0 : Int)))
                                    (.ite (decide (r238.2 = (9 : Int)))
                                      (.opt Bool (ref08_Same q r239.1 r225.1) fun r240 =>
                                        .ite (r240)
                                          (.opt Bool (ref08_Same q r239.2.1 r225.2.1) fun r241 =>
                                            .ite (r241)
                                              (.opt Bool (law08_alive q) fun r242 =>
                                                .leaf (r242))
                                              (.leaf (false)))
                                          (.leaf (false)))
                                      (.leaf (false)))
                                    (.leaf (false))))
                          .fail)
                        .fail))))
            (.opt (Int × Int) (memory_Read q r225.1 r225.2.1 x2.access.addr x2.access.byte) fun r243 =>
              .ite (!decide (r243.1 = (IntKind.wrap .i64 (((BitVec.ofInt 64 x2.access.value &&& BitVec.ofInt 64 (65535 : Int)).toNat : Int)))))
                (.leaf (false))
                (.ite (!decide (r243.2 = (0 : Int)))
                  (.leaf (false))
                  (.opt Bool (memory_Right q r225.1 r225.2.1) fun r244 =>
                    .ite (!r244)
                      (.leaf (false))
                      (.ite (decide (0 ≤ (1 : Int)))
                        (.ite (decide (0 ≤ (1 : Int)))
                          (.ite (!decide (((x2.other).fdiv (2 ^ (min ((1 : Int)).toNat 64))) = ((x2.access.addr).fdiv (2 ^ (min ((1 : Int)).toNat 64)))))
                            (.opt (Int × Int) (memory_Read q x0 x1 x2.other false) fun r245 =>
                              .opt (Int × Int) (memory_Read q r225.1 r225.2.1 x2.other false) fun r246 =>
                                .ite (!decide (r245.1 = r246.1))
                                  (.leaf (false))
                                  (.ite (!decide (r245.2 = r246.2))
                                    (.leaf (false))
                                    (.opt ((List Int) × Int) (memory_Spoil q r225.1 r225.2.1 (IntKind.wrap .i64 (((BitVec.ofInt 64 x2.access.addr &&& ~~~BitVec.ofInt 64 (1 : Int)).toNat : Int)))) fun r247 =>
                                      .opt (Int × Int) (memory_Read q r225.1 r247.1 x2.access.addr true) fun r248 =>
                                        .opt ((List Int) × (List Int) × Int) (memory_Write q r225.1 r247.1 x2.access.addr x2.access.byte x2.access.value) fun r249 =>
                                          .ite (decide (r247.2 = (0 : Int)))
                                            (.ite (decide (r248.2 = (9 : Int)))
                                              (.opt Bool (ref08_Same q r249.1 r225.1) fun r250 =>
                                                .ite (r250)
                                                  (.opt Bool (ref08_Same q r249.2.1 r225.2.1) fun r251 =>
                                                    .ite (r251)
                                                      (.opt Bool (law08_alive q) fun r252 =>
                                                        .leaf (r252))
                                                      (.leaf (false)))
                                                  (.leaf (false)))
                                              (.leaf (false)))
                                            (.leaf (false)))))
                            (.opt ((List Int) × Int) (memory_Spoil q r225.1 r225.2.1 (IntKind.wrap .i64 (((BitVec.ofInt 64 x2.access.addr &&& ~~~BitVec.ofInt 64 (1 : Int)).toNat : Int)))) fun r253 =>
                              .opt (Int × Int) (memory_Read q r225.1 r253.1 x2.access.addr true) fun r254 =>
                                .opt ((List Int) × (List Int) × Int) (memory_Write q r225.1 r253.1 x2.access.addr x2.access.byte x2.access.value) fun r255 =>
                                  .ite (decide (r253.2 = (0 : Int)))
                                    (.ite (decide (r254.2 = (9 : Int)))
                                      (.opt Bool (ref08_Same q r255.1 r225.1) fun r256 =>
                                        .ite (r256)
                                          (.opt Bool (ref08_Same q r255.2.1 r225.2.1) fun r257 =>
                                            .ite (r257)
                                              (.opt Bool (law08_alive q) fun r258 =>
                                                .leaf (r258))
                                              (.leaf (false)))
                                          (.leaf (false)))
                                      (.leaf (false)))
                                    (.leaf (false))))
                          .fail)
                        .fail))))))
noncomputable def law08_MemoryKeeps (q : Option Nat) (x0 : (List Int)) (x1 : (List Int)) (x2 : Two) : Option Bool := (Tlaw08_MemoryKeeps q x0 x1 x2).run
theorem lelaw08_MemoryKeeps (k : Nat) (x0 : (List Int)) (x1 : (List Int)) (x2 : Two) : Le (law08_MemoryKeeps (some k) x0 x1 x2) (law08_MemoryKeeps none x0 x1 x2) := (TLe.opt (lelaw08_small k _ _) fun _ => (TLe.ite TLe.rfl (TLe.opt (lememory_Write k _ _ _ _ _) fun _ => (TLe.ite (TLe.ite (TLe.ite (TLe.opt (lelaw08_alive k) fun _ => TLe.rfl) TLe.rfl) TLe.rfl) (TLe.ite (TLe.opt (lememory_Read k _ _ _ _) fun _ => (TLe.ite TLe.rfl (TLe.ite TLe.rfl (TLe.opt (lememory_Right k _ _) fun _ => (TLe.ite TLe.rfl (TLe.ite (TLe.ite (TLe.ite (TLe.opt (lememory_Read k _ _ _ _) fun _ => (TLe.opt (lememory_Read k _ _ _ _) fun _ => (TLe.ite TLe.rfl (TLe.ite TLe.rfl (TLe.opt (lememory_Spoil k _ _ _) fun _ => (TLe.opt (lememory_Read k _ _ _ _) fun _ => (TLe.opt (lememory_Write k _ _ _ _ _) fun _ => (TLe.ite (TLe.ite (TLe.opt (leref08_Same k _ _) fun _ => (TLe.ite (TLe.opt (leref08_Same k _ _) fun _ => (TLe.ite (TLe.opt (lelaw08_alive k) fun _ => TLe.rfl) TLe.rfl)) TLe.rfl)) TLe.rfl) TLe.rfl)))))))) (TLe.opt (lememory_Spoil k _ _ _) fun _ => (TLe.opt (lememory_Read k _ _ _ _) fun _ => (TLe.opt (lememory_Write k _ _ _ _ _) fun _ => (TLe.ite (TLe.ite (TLe.opt (leref08_Same k _ _) fun _ => (TLe.ite (TLe.opt (leref08_Same k _ _) fun _ => (TLe.ite (TLe.opt (lelaw08_alive k) fun _ => TLe.rfl) TLe.rfl)) TLe.rfl)) TLe.rfl) TLe.rfl))))) TLe.rfl) TLe.rfl)))))) (TLe.opt (lememory_Read k _ _ _ _) fun _ => (TLe.ite TLe.rfl (TLe.ite TLe.rfl (TLe.opt (lememory_Right k _ _) fun _ => (TLe.ite TLe.rfl (TLe.ite (TLe.ite (TLe.ite (TLe.opt (lememory_Read k _ _ _ _) fun _ => (TLe.opt (lememory_Read k _ _ _ _) fun _ => (TLe.ite TLe.rfl (TLe.ite TLe.rfl (TLe.opt (lememory_Spoil k _ _ _) fun _ => (TLe.opt (lememory_Read k _ _ _ _) fun _ => (TLe.opt (lememory_Write k _ _ _ _ _) fun _ => (TLe.ite (TLe.ite (TLe.opt (leref08_Same k _ _) fun _ => (TLe.ite (TLe.opt (leref08_Same k _ _) fun _ => (TLe.ite (TLe.opt (lelaw08_alive k) fun _ => TLe.rfl) TLe.rfl)) TLe.rfl)) TLe.rfl) TLe.rfl)))))))) (TLe.opt (lememory_Spoil k _ _ _) fun _ => (TLe.opt (lememory_Read k _ _ _ _) fun _ => (TLe.opt (lememory_Write k _ _ _ _ _) fun _ => (TLe.ite (TLe.ite (TLe.opt (leref08_Same k _ _) fun _ => (TLe.ite (TLe.opt (leref08_Same k _ _) fun _ => (TLe.ite (TLe.opt (lelaw08_alive k) fun _ => TLe.rfl) TLe.rfl)) TLe.rfl)) TLe.rfl) TLe.rfl))))) TLe.rfl) TLe.rfl)))))))))))
noncomputable def Alaw08_MemoryKeeps : Arg U ((List Int) × (List Int) × Two × Unit) := aO (cSl 3) (aO (cSl 3) (aA cTwo (aNil)))
noncomputable def Rlaw08_MemoryKeeps (r : Bool) : List (V U) × List (Blk U) := ([vO cBool r], [])
noncomputable def Slaw08_MemoryKeeps : List (V U) → List (Blk U) → Option (FnOut U) := mkSpec Alaw08_MemoryKeeps bNil (fun x _ => law08_MemoryKeeps none x.1 x.2.1 x.2.2.1) Rlaw08_MemoryKeeps
noncomputable def Elaw08_MemoryKeeps : Env U := { P := Try.prog, cd := cd, fns := fns7, lps := noL, frz := fun _r => false, nt := 168, n0 := 0, fps := fun _r _i => bif Nat.beq _r 1 && Nat.beq _i 2 then .rd [] else bif Nat.beq _r 1 && Nat.beq _i 3 then .rd [0] else bif Nat.beq _r 1 && Nat.beq _i 5 then .wr [1] 2 else .none }
theorem runlaw08_MemoryKeeps (x : (List Int) × (List Int) × Two × Unit) (g : Unit) : execF Elaw08_MemoryKeeps Try.f8 (Alaw08_MemoryKeeps.enc x) (bNil.enc g) = (Tlaw08_MemoryKeeps none x.1 x.2.1 x.2.2.1).map Rlaw08_MemoryKeeps := by kernel_rfl
theorem oklaw08_MemoryKeeps : FnOk Try.prog cd 8 Slaw08_MemoryKeeps := mk_ok (E := Elaw08_MemoryKeeps) cd_ok fns7_ok Try.func8 (by kernel_rfl) (noLoops_body (by kernel_rfl)) (aO_ok (cSl_ok 3) (aO_ok (cSl_ok 3) (aA_ok cTwo_ok (aNil_ok)))) bNil_ok (T := fun x _ => Tlaw08_MemoryKeeps none x.1 x.2.1 x.2.2.1) (fun _ _ => rfl) runlaw08_MemoryKeeps
noncomputable def fns8 := addF 8 true Slaw08_MemoryKeeps fns7
theorem fns8_ok : ∀ f q t, fns8 f = some (q, t) → FnOk Try.prog cd f t := addF_ok oklaw08_MemoryKeeps fns7_ok
end Go.Proofs.Ytnhhimlienefkaa
