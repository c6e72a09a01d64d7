/- The types of the program, and how they are told in cells. -/
import Derived.Test.YtjhibcebipjbcaaAbMore
import Derived.Test.YtjhibcebipjbcaaAbFresh
import Derived.Test.YtjhibcebipjbcaaAbClone
import Derived.Shelf.SlGeneric
import Derived.Ground.SlgnProg
import Derived.Test.YtjhibcebipjbcaaAbStr
import Derived.Shelf.Lay
import Derived.Ground.MpProg
import Derived.Test.YtjhibcebipjbcaaProg
import Derived.KernelRfl
set_option linter.unusedSimpArgs false
namespace Go.Proofs.Ytjhibcebipjbcaa
open Go Go.Ab
structure Tape where
  records : (List (List UInt8))
  pos : Int
  enable : Bool
  ready : Bool
  error : Bool
  mark : Bool
  end_ : Bool
  command : Int
  count : Int
  addr : Int
  left : Int
  deriving DecidableEq
structure Store where
  mem : (List Int)
  bad : (List Int)
  deriving DecidableEq
structure Copy where
  count : Int
  from_ : Int
  to : Int
  deriving DecidableEq
structure Request where
  priority : Int
  vector : Int
  deriving DecidableEq
structure Deed where
  kind : Int
  reg : Int
  n : Int
  deriving DecidableEq
abbrev tys : List (Nat × Type) := [(3, Int), (5, Int), (9, (List UInt8)), (62, Deed), (79, Request)]
abbrev U : Nat → Type := findT tys
noncomputable def cTape : Cdc U Tape := cMap (fun x => Tape.mk x.1 x.2.1 x.2.2.1 x.2.2.2.1 x.2.2.2.2.1 x.2.2.2.2.2.1 x.2.2.2.2.2.2.1 x.2.2.2.2.2.2.2.1 x.2.2.2.2.2.2.2.2.1 x.2.2.2.2.2.2.2.2.2.1 x.2.2.2.2.2.2.2.2.2.2.1) (fun x => (x.records, x.pos, x.enable, x.ready, x.error, x.mark, x.end_, x.command, x.count, x.addr, x.left, ())) (cPair (cSl 9) (cPair (cInt .i64) (cPair cBool (cPair cBool (cPair cBool (cPair cBool (cPair cBool (cPair (cInt .i64) (cPair (cInt .i64) (cPair (cInt .i64) (cPair (cInt .i64) (cUnit))))))))))))
theorem cTape_ok : cTape.Ok := cMap_ok (cPair_ok (cSl_ok 9) (cPair_ok (cInt_ok .i64) (cPair_ok cBool_ok (cPair_ok cBool_ok (cPair_ok cBool_ok (cPair_ok cBool_ok (cPair_ok cBool_ok (cPair_ok (cInt_ok .i64) (cPair_ok (cInt_ok .i64) (cPair_ok (cInt_ok .i64) (cPair_ok (cInt_ok .i64) cUnit_ok))))))))))) fun _ => rfl
noncomputable def cStore : Cdc U Store := cMap (fun x => Store.mk x.1 x.2.1) (fun x => (x.mem, x.bad, ())) (cPair (cSl 3) (cPair (cSl 3) (cUnit)))
theorem cStore_ok : cStore.Ok := cMap_ok (cPair_ok (cSl_ok 3) (cPair_ok (cSl_ok 3) cUnit_ok)) fun _ => rfl
noncomputable def cCopy : Cdc U Copy := cMap (fun x => Copy.mk x.1 x.2.1 x.2.2.1) (fun x => (x.count, x.from_, x.to, ())) (cPair (cInt .i64) (cPair (cInt .i64) (cPair (cInt .i64) (cUnit))))
theorem cCopy_ok : cCopy.Ok := cMap_ok (cPair_ok (cInt_ok .i64) (cPair_ok (cInt_ok .i64) (cPair_ok (cInt_ok .i64) cUnit_ok))) fun _ => rfl
noncomputable def cRequest : Cdc U Request := cMap (fun x => Request.mk x.1 x.2.1) (fun x => (x.priority, x.vector, ())) (cPair (cInt .i64) (cPair (cInt .i64) (cUnit)))
theorem cRequest_ok : cRequest.Ok := cMap_ok (cPair_ok (cInt_ok .i64) (cPair_ok (cInt_ok .i64) cUnit_ok)) fun _ => rfl
noncomputable def cDeed : Cdc U Deed := cMap (fun x => Deed.mk x.1 x.2.1 x.2.2.1) (fun x => (x.kind, x.reg, x.n, ())) (cPair (cInt .i64) (cPair (cInt .i64) (cPair (cInt .i64) (cUnit))))
theorem cDeed_ok : cDeed.Ok := cMap_ok (cPair_ok (cInt_ok .i64) (cPair_ok (cInt_ok .i64) (cPair_ok (cInt_ok .i64) cUnit_ok))) fun _ => rfl
noncomputable def ents : Ents U tys := .cons ⟨(cInt .i64), some (0 : Int), none, some inferInstance⟩ (.cons ⟨(cInt .u8), some (0 : Int), some (fun x => x, fun x => x), some inferInstance⟩ (.cons ⟨cStr, some ([] : List UInt8), none, some inferInstance⟩ (.cons ⟨cDeed, some (Deed.mk (0 : Int) (0 : Int) (0 : Int)), none, some inferInstance⟩ (.cons ⟨cRequest, some (Request.mk (0 : Int) (0 : Int)), none, some inferInstance⟩ (.nil)))))
noncomputable def cd : Cd U := cdOf ents
theorem eqSDeed (cd : Cd U) (x y : Deed) : eqT Try.prog cd false 4 62 (cDeed.enc x) (cDeed.enc y) = some (decide (x = y)) := by
  have h : eqT Try.prog cd false 4 62 (cDeed.enc x) (cDeed.enc y) = some (decide (x.kind = y.kind) && (decide (x.reg = y.reg) && decide (x.n = y.n))) := by kernel_rfl
  rw [h]
  cases x; cases y; rw [Option.some.injEq, Bool.eq_iff_iff]; simp
theorem eqSRequest (cd : Cd U) (x y : Request) : eqT Try.prog cd false 4 79 (cRequest.enc x) (cRequest.enc y) = some (decide (x = y)) := by
  have h : eqT Try.prog cd false 4 79 (cRequest.enc x) (cRequest.enc y) = some (decide (x.priority = y.priority) && decide (x.vector = y.vector)) := by kernel_rfl
  rw [h]
  cases x; cases y; rw [Option.some.injEq, Bool.eq_iff_iff]; simp
theorem ents_ok : EntsOk Try.prog ents := ⟨⟨(cInt_ok .i64), (fun x => by kernel_rfl), (fun x => List.all_eq_true.1 (show (((cInt .i64) : Cdc U _).enc x).all plainC = true by kernel_rfl)), (fun f g h => by cases h), (fun d h cd x y => by cases h; exact eqT_int cd (by kernel_rfl) x y)⟩, ⟨(cInt_ok .u8), (fun x => by kernel_rfl), (fun x => List.all_eq_true.1 (show (((cInt .u8) : Cdc U _).enc x).all plainC = true by kernel_rfl)), (fun f g h => by simp only [Option.some.injEq, Prod.mk.injEq] at h; obtain ⟨rfl, rfl⟩ := h; exact ⟨by kernel_rfl, fun _ => rfl, fun _ => rfl⟩), (fun d h cd x y => by cases h; exact eqT_int cd (by kernel_rfl) x y)⟩, ⟨cStr_ok, (fun x => by kernel_rfl), (fun x => List.all_eq_true.1 (show ((cStr : Cdc U _).enc x).all plainC = true by kernel_rfl)), (fun f g h => by cases h), (fun d h cd x y => by cases h; exact eqT_string cd (by kernel_rfl) x y)⟩, ⟨cDeed_ok, (fun x => by kernel_rfl), (fun x => List.all_eq_true.1 (show ((cDeed : Cdc U _).enc x).all plainC = true by kernel_rfl)), (fun f g h => by cases h), (fun d h cd x y => by cases h; exact eqSDeed cd x y)⟩, ⟨cRequest_ok, (fun x => by kernel_rfl), (fun x => List.all_eq_true.1 (show ((cRequest : Cdc U _).enc x).all plainC = true by kernel_rfl)), (fun f g h => by cases h), (fun d h cd x y => by cases h; exact eqSRequest cd x y)⟩, trivial⟩
theorem cd_ok : CdOk Try.prog cd := cdOf_ok ents ents_ok
/-- emulator/emulatorref17.word -/
noncomputable def Tref17_word (x0 : Int) : Tree Bool :=
  .ite (decide ((0 : Int) ≤ x0))
    (.leaf (decide (x0 ≤ (65535 : Int))))
    (.leaf (false))
noncomputable def ref17_word (x0 : Int) : Option Bool := (Tref17_word x0).run
noncomputable def Aref17_word : Arg U (Int × Unit) := aO (cInt .i64) (aNil)
noncomputable def Rref17_word (r : Bool) : List (V U) × List (Blk U) := ([vO cBool r], [])
noncomputable def Sref17_word : List (V U) → List (Blk U) → Option (FnOut U) := mkSpec Aref17_word bNil (fun x _ => ref17_word x.1) Rref17_word
noncomputable def Eref17_word : Env U := { P := Try.prog, cd := cd, fns := noF, lps := noL, frz := fun _r => false, nt := 9, n0 := 0 }
theorem runref17_word (x : Int × Unit) (g : Unit) : execF Eref17_word Try.f54 (Aref17_word.enc x) (bNil.enc g) = (Tref17_word x.1).map Rref17_word := by kernel_rfl
theorem okref17_word : FnOk Try.prog cd 54 Sref17_word := mk_ok (E := Eref17_word) cd_ok noF_ok Try.func54 (by kernel_rfl) (noLoops_body (by kernel_rfl)) (aO_ok (cInt_ok .i64) (aNil_ok)) bNil_ok (T := fun x _ => Tref17_word x.1) (fun _ _ => rfl) runref17_word
noncomputable def fns54 := addF 54 true Sref17_word noF
theorem fns54_ok : ∀ f q t, fns54 f = some (q, t) → FnOk Try.prog cd f t := addF_ok okref17_word noF_ok
/-- emulator/emulatorref17.Right -/
structure Sref17_Right_0 where
  t3 : Int
  b0 : Tape
noncomputable def Wref17_Right_0 (s : Sref17_Right_0) : Tree (Sref17_Right_0 ⊕ ((Bool × Tape) ⊕ Tape)) :=
  .ite (decide (s.t3 < (s.b0.records.length : Int)))
    (.ite (decide (0 ≤ s.t3))
      (.opt (List UInt8) (s.b0.records[(s.t3).toNat]?) fun y3 =>
        .ite (decide ((512 : Int) < (y3.length : Int)))
          (.leaf (.inr (.inl (false, s.b0))))
          (.leaf (.inl (Sref17_Right_0.mk (IntKind.wrap .i64 (s.t3 + (1 : Int))) s.b0))))
      .fail)
    (.leaf (.inr (.inr s.b0)))
noncomputable def Lref17_Right_0 (q : Option Nat) (s : Sref17_Right_0) : Option ((Bool × Tape) ⊕ Tape) := limQ q (fun s => (Wref17_Right_0 s).run) s
theorem leLref17_Right_0 (k : Nat) (s : Sref17_Right_0) : Le (Lref17_Right_0 (some k) s) (Lref17_Right_0 none s) := limQ_le (fun _ => Le.rfl) s
noncomputable def Tref17_Right (q : Option Nat) (x0 : Tape) : Tree Bool :=
  .ite (decide ((64 : Int) < (x0.records.length : Int)))
    (.leaf (false))
    (.ite (decide (x0.pos < (0 : Int)))
      (.leaf (false))
      (.ite (decide ((x0.records.length : Int) < x0.pos))
        (.leaf (false))
        (.ite (decide (x0.command < (0 : Int)))
          (.leaf (false))
          (.ite (decide ((6 : Int) < x0.command))
            (.leaf (false))
            (.opt Bool (ref17_word x0.count) fun r1 =>
              .ite (!r1)
                (.leaf (false))
                (.opt Bool (ref17_word x0.addr) fun r2 =>
                  .ite (!r2)
                    (.leaf (false))
                    (.opt ((Bool × Tape) ⊕ Tape) (Lref17_Right_0 q (Sref17_Right_0.mk (0 : Int) x0)) fun l4 =>
                      .ite (l4.isLeft)
                        (.opt (Bool × Tape) (l4.getLeft?) fun a5 =>
                          .leaf (a5.1))
                        (.opt Tape (l4.getRight?) fun b6 =>
                          .ite (decide ((0 : Int) ≤ b6.left))
                            (.ite (decide (b6.left ≤ (16 : Int)))
                              (.leaf ((b6.ready == (decide (b6.left = (0 : Int))))))
                              (.leaf (false)))
                            (.leaf (false))))))))))
noncomputable def ref17_Right (q : Option Nat) (x0 : Tape) : Option Bool := (Tref17_Right q x0).run
theorem leref17_Right (k : Nat) (x0 : Tape) : Le (ref17_Right (some k) x0) (ref17_Right none x0) := (TLe.ite TLe.rfl (TLe.ite TLe.rfl (TLe.ite TLe.rfl (TLe.ite TLe.rfl (TLe.ite TLe.rfl (TLe.opt Le.rfl fun _ => (TLe.ite TLe.rfl (TLe.opt Le.rfl fun _ => (TLe.ite TLe.rfl (TLe.opt (leLref17_Right_0 k _) fun _ => TLe.rfl))))))))))
noncomputable def Aref17_Right : Arg U (Tape × Unit) := aA cTape (aNil)
noncomputable def Rref17_Right (r : Bool) : List (V U) × List (Blk U) := ([vO cBool r], [])
noncomputable def Sref17_Right : List (V U) → List (Blk U) → Option (FnOut U) := mkSpec Aref17_Right bNil (fun x _ => ref17_Right none x.1) Rref17_Right
noncomputable def Pref17_Right_0 (x : (Unit) × (Int × Unit) × Unit) (g : (Tape × Unit) × Unit) : Sref17_Right_0 := Sref17_Right_0.mk x.2.1.1 g.1.1
noncomputable def tAref17_Right_0 : Tms U ((Unit) × (Int × Unit) × Unit) := tO 1 (cK (.ptr 0 0) (cUnit)) (tO 3 (cPair (cInt .i64) (cUnit)) (tNil))
noncomputable def tBref17_Right_0 : Bls U ((Tape × Unit) × Unit) := bC (cPair cTape (cUnit)) (bNil)
noncomputable def eSref17_Right_0 (s : Sref17_Right_0) : St U := { tm := [(1, .v (vO (cK (.ptr 0 0) (cUnit)) (()))), (3, .v (vO (cPair (cInt .i64) (cUnit)) (s.t3, ())))], hp := [.cells ((cPair cTape (cUnit) : Cdc U (Tape × Unit)).enc (s.b0, ()))] }
noncomputable def xSref17_Right_0 : ((Bool × Tape) ⊕ Tape) → Ex × St U
  | .inl r => (.ret, { tm := [(1, .v (vO (cK (.ptr 0 0) (cUnit)) (()))), (2, .v (vO (cPair cBool (cUnit)) (r.1, ())))], hp := [.cells ((cPair cTape (cUnit) : Cdc U (Tape × Unit)).enc (r.2, ()))] })
  | .inr r => (.exit 0, { tm := [(1, .v (vO (cK (.ptr 0 0) (cUnit)) (())))], hp := [.cells ((cPair cTape (cUnit) : Cdc U (Tape × Unit)).enc (r, ()))] })
noncomputable def xTref17_Right_0 (y : ((Bool × Tape) ⊕ Tape)) : Tree (Ex × St U) := .ite y.isLeft (.opt (Bool × Tape) y.getLeft? fun r => .leaf (.ret, { tm := [(1, .v (vO (cK (.ptr 0 0) (cUnit)) (()))), (2, .v (vO (cPair cBool (cUnit)) (r.1, ())))], hp := [.cells ((cPair cTape (cUnit) : Cdc U (Tape × Unit)).enc (r.2, ()))] })) (.opt Tape y.getRight? fun r => .leaf (.exit 0, { tm := [(1, .v (vO (cK (.ptr 0 0) (cUnit)) (())))], hp := [.cells ((cPair cTape (cUnit) : Cdc U (Tape × Unit)).enc (r, ()))] }))
noncomputable def href17_Right_0 : Hd := { keep := [1, 3], xkeep := [1, 2], own := false }
noncomputable def Eref17_Right : Env U := { P := Try.prog, cd := cd, fns := fns54, lps := (addL 0 href17_Right_0 (mkLoop tAref17_Right_0 tBref17_Right_0 Pref17_Right_0 (Lref17_Right_0 none) xTref17_Right_0) noL), frz := fun _r => false, nt := 73, n0 := 0 }
noncomputable def Bref17_Right_0 : Code := (loopAt (Try.f22.body.getD .skip) 0 0).getD .skip
theorem roundref17_Right_0 (s : Sref17_Right_0) : round Eref17_Right href17_Right_0 Bref17_Right_0 0 (eSref17_Right_0 s) = (Wref17_Right_0 s).map (sumE eSref17_Right_0 xSref17_Right_0) := by kernel_rfl
theorem lpref17_Right_0 : LpOk Eref17_Right Bref17_Right_0 0 := mkLoop_ok (A := tAref17_Right_0) (B := tBref17_Right_0) (f := Pref17_Right_0) (L := Lref17_Right_0 none) (tO_ok (cK_ok cUnit_ok) (tO_ok (cPair_ok (cInt_ok .i64) cUnit_ok) tNil_ok)) (bC_ok (cPair_ok cTape_ok cUnit_ok) bNil_ok) (enc := eSref17_Right_0) (out := xTref17_Right_0) (outS := xSref17_Right_0) (step := Wref17_Right_0) (fun _ => rfl) (fun _ _ => by kernel_rfl) (by kernel_rfl) (fun b => by cases b <;> rfl) roundref17_Right_0
theorem runref17_Right (x : Tape × Unit) (g : Unit) : execF Eref17_Right Try.f22 (Aref17_Right.enc x) (bNil.enc g) = (Tref17_Right none x.1).map Rref17_Right := by kernel_rfl
theorem okref17_Right : FnOk Try.prog cd 22 Sref17_Right := mk_ok (E := Eref17_Right) cd_ok fns54_ok Try.func22 (by kernel_rfl) (loops_of (addL_ok lpref17_Right_0 noL_ok)) (aA_ok cTape_ok (aNil_ok)) bNil_ok (T := fun x _ => Tref17_Right none x.1) (fun _ _ => rfl) runref17_Right
noncomputable def fns22 := addF 22 true Sref17_Right fns54
theorem fns22_ok : ∀ f q t, fns22 f = some (q, t) → FnOk Try.prog cd f t := addF_ok okref17_Right fns54_ok
/-- emulator/emulatorref08.Size -/
noncomputable def Tref08_Size (x0 : Int) : Tree Bool :=
  .ite (decide ((256 : Int) ≤ x0))
    (.ite (decide (x0 ≤ (32768 : Int)))
      (.ite (decide ((64 : Int) = 0))
        .fail
        (.leaf (decide (((x0).tmod (64 : Int)) = (0 : Int)))))
      (.leaf (false)))
    (.leaf (false))
noncomputable def ref08_Size (x0 : Int) : Option Bool := (Tref08_Size x0).run
noncomputable def Aref08_Size : Arg U (Int × Unit) := aO (cInt .i64) (aNil)
noncomputable def Rref08_Size (r : Bool) : List (V U) × List (Blk U) := ([vO cBool r], [])
noncomputable def Sref08_Size : List (V U) → List (Blk U) → Option (FnOut U) := mkSpec Aref08_Size bNil (fun x _ => ref08_Size x.1) Rref08_Size
noncomputable def Eref08_Size : Env U := { P := Try.prog, cd := cd, fns := fns22, lps := noL, frz := fun _r => false, nt := 14, n0 := 0 }
theorem runref08_Size (x : Int × Unit) (g : Unit) : execF Eref08_Size Try.f59 (Aref08_Size.enc x) (bNil.enc g) = (Tref08_Size x.1).map Rref08_Size := by kernel_rfl
theorem okref08_Size : FnOk Try.prog cd 59 Sref08_Size := mk_ok (E := Eref08_Size) cd_ok fns22_ok Try.func59 (by kernel_rfl) (noLoops_body (by kernel_rfl)) (aO_ok (cInt_ok .i64) (aNil_ok)) bNil_ok (T := fun x _ => Tref08_Size x.1) (fun _ _ => rfl) runref08_Size
noncomputable def fns59 := addF 59 true Sref08_Size fns22
theorem fns59_ok : ∀ f q t, fns59 f = some (q, t) → FnOk Try.prog cd f t := addF_ok okref08_Size fns22_ok
/-- emulator/emulatorref08.Right -/
structure Sref08_Right_0 where
  t0 : (List Int)
  t1 : (List Int)
  t5 : Int
noncomputable def Wref08_Right_0 (s : Sref08_Right_0) : Tree (Sref08_Right_0 ⊕ (((List Int) × (List Int) × Bool) ⊕ ((List Int) × (List Int)))) :=
  .ite (decide (s.t5 < (s.t0.length : Int)))
    (.ite (decide (0 ≤ s.t5))
      (.opt Int (s.t0[(s.t5).toNat]?) fun y8 =>
        .ite (decide (y8 < (0 : Int)))
          (.leaf (.inr (.inl (s.t0, s.t1, false))))
          (.ite (decide (0 ≤ s.t5))
            (.opt Int (s.t0[(s.t5).toNat]?) fun y9 =>
              .ite (decide ((65535 : Int) < y9))
                (.leaf (.inr (.inl (s.t0, s.t1, false))))
                (.leaf (.inl (Sref08_Right_0.mk s.t0 s.t1 (IntKind.wrap .i64 (s.t5 + (1 : Int)))))))
            .fail))
      .fail)
    (.leaf (.inr (.inr (s.t0, s.t1))))
noncomputable def Lref08_Right_0 (q : Option Nat) (s : Sref08_Right_0) : Option (((List Int) × (List Int) × Bool) ⊕ ((List Int) × (List Int))) := limQ q (fun s => (Wref08_Right_0 s).run) s
theorem leLref08_Right_0 (k : Nat) (s : Sref08_Right_0) : Le (Lref08_Right_0 (some k) s) (Lref08_Right_0 none s) := limQ_le (fun _ => Le.rfl) s
structure Sref08_Right_1 where
  t0 : (List Int)
  t1 : (List Int)
  t6 : Int
noncomputable def Wref08_Right_1 (s : Sref08_Right_1) : Tree (Sref08_Right_1 ⊕ (Bool ⊕ Unit)) :=
  .ite (decide (s.t6 < (s.t1.length : Int)))
    (.ite (decide (0 ≤ s.t6))
      (.opt Int (s.t1[(s.t6).toNat]?) fun y13 =>
        .ite (decide (y13 < (0 : Int)))
          (.leaf (.inr (.inl false)))
          (.ite (decide (0 ≤ s.t6))
            (.opt Int (s.t1[(s.t6).toNat]?) fun y14 =>
              .ite (decide ((IntKind.wrap .i64 ((2 : Int) * (s.t0.length : Int))) ≤ y14))
                (.leaf (.inr (.inl false)))
                (.ite (decide (0 ≤ s.t6))
                  (.opt Int (s.t1[(s.t6).toNat]?) fun y15 =>
                    .ite (decide ((2 : Int) = 0))
                      .fail
                      (.ite (!decide (((y15).tmod (2 : Int)) = (0 : Int)))
                        (.leaf (.inr (.inl false)))
                        (.ite (decide ((0 : Int) < s.t6))
                          (.ite (decide (0 ≤ s.t6))
                            (.opt Int (s.t1[(s.t6).toNat]?) fun y16 =>
                              .ite (decide (0 ≤ IntKind.wrap .i64 (s.t6 - (1 : Int))))
                                (.opt Int (s.t1[(IntKind.wrap .i64 (s.t6 - (1 : Int))).toNat]?) fun y17 =>
                                  .ite (decide (y16 ≤ y17))
                                    (.leaf (.inr (.inl false)))
                                    (.leaf (.inl (Sref08_Right_1.mk s.t0 s.t1 (IntKind.wrap .i64 (s.t6 + (1 : Int)))))))
                                .fail)
                            .fail)
                          (.leaf (.inl (Sref08_Right_1.mk s.t0 s.t1 (IntKind.wrap .i64 (s.t6 + (1 : Int)))))))))
                  .fail))
            .fail))
      .fail)
    (.leaf (.inr (.inr ())))
noncomputable def Lref08_Right_1 (q : Option Nat) (s : Sref08_Right_1) : Option (Bool ⊕ Unit) := limQ q (fun s => (Wref08_Right_1 s).run) s
theorem leLref08_Right_1 (k : Nat) (s : Sref08_Right_1) : Le (Lref08_Right_1 (some k) s) (Lref08_Right_1 none s) := limQ_le (fun _ => Le.rfl) s
noncomputable def Tref08_Right (q : Option Nat) (x0 : (List Int)) (x1 : (List Int)) : Tree Bool :=
  .opt Bool (ref08_Size (IntKind.wrap .i64 ((2 : Int) * (x0.length : Int)))) fun r7 =>
    .ite (!r7)
      (.leaf (false))
      (.opt (((List Int) × (List Int) × Bool) ⊕ ((List Int) × (List Int))) (Lref08_Right_0 q (Sref08_Right_0.mk x0 x1 (0 : Int))) fun l10 =>
        .ite (l10.isLeft)
          (.opt ((List Int) × (List Int) × Bool) (l10.getLeft?) fun a11 =>
            .leaf (a11.2.2))
          (.opt ((List Int) × (List Int)) (l10.getRight?) fun b12 =>
            .opt (Bool ⊕ Unit) (Lref08_Right_1 q (Sref08_Right_1.mk b12.1 b12.2 (0 : Int))) fun l18 =>
              .ite (l18.isLeft)
                (.opt Bool (l18.getLeft?) fun a19 =>
                  .leaf (a19))
                (.opt Unit (l18.getRight?) fun b20 =>
                  .leaf (true))))
noncomputable def ref08_Right (q : Option Nat) (x0 : (List Int)) (x1 : (List Int)) : Option Bool := (Tref08_Right q x0 x1).run
theorem leref08_Right (k : Nat) (x0 : (List Int)) (x1 : (List Int)) : Le (ref08_Right (some k) x0 x1) (ref08_Right none x0 x1) := (TLe.opt Le.rfl fun _ => (TLe.ite TLe.rfl (TLe.opt (leLref08_Right_0 k _) fun _ => (TLe.ite TLe.rfl (TLe.opt Le.rfl fun _ => (TLe.opt (leLref08_Right_1 k _) fun _ => TLe.rfl))))))
noncomputable def Aref08_Right : Arg U ((List Int) × (List Int) × Unit) := aO (cSl 3) (aO (cSl 3) (aNil))
noncomputable def Rref08_Right (r : Bool) : List (V U) × List (Blk U) := ([vO cBool r], [])
noncomputable def Sref08_Right : List (V U) → List (Blk U) → Option (FnOut U) := mkSpec Aref08_Right bNil (fun x _ => ref08_Right none x.1 x.2.1) Rref08_Right
noncomputable def Pref08_Right_0 (x : ((List Int) × Unit) × ((List Int) × Unit) × (Int × Unit) × Unit) (_g : Unit) : Sref08_Right_0 := Sref08_Right_0.mk x.1.1 x.2.1.1 x.2.2.1.1
noncomputable def tAref08_Right_0 : Tms U (((List Int) × Unit) × ((List Int) × Unit) × (Int × Unit) × Unit) := tO 0 (cPair (cSl 3) (cUnit)) (tO 1 (cPair (cSl 3) (cUnit)) (tO 5 (cPair (cInt .i64) (cUnit)) (tNil)))
noncomputable def tBref08_Right_0 : Bls U (Unit) := bNil
noncomputable def eSref08_Right_0 (s : Sref08_Right_0) : St U := { tm := [(0, .v (vO (cPair (cSl 3) (cUnit)) (s.t0, ()))), (1, .v (vO (cPair (cSl 3) (cUnit)) (s.t1, ()))), (5, .v (vO (cPair (cInt .i64) (cUnit)) (s.t5, ())))], hp := [] }
noncomputable def xSref08_Right_0 : (((List Int) × (List Int) × Bool) ⊕ ((List Int) × (List Int))) → Ex × St U
  | .inl r => (.ret, { tm := [(0, .v (vO (cPair (cSl 3) (cUnit)) (r.1, ()))), (1, .v (vO (cPair (cSl 3) (cUnit)) (r.2.1, ()))), (4, .v (vO (cPair cBool (cUnit)) (r.2.2, ())))], hp := [] })
  | .inr r => (.exit 0, { tm := [(0, .v (vO (cPair (cSl 3) (cUnit)) (r.1, ()))), (1, .v (vO (cPair (cSl 3) (cUnit)) (r.2, ())))], hp := [] })
noncomputable def xTref08_Right_0 (y : (((List Int) × (List Int) × Bool) ⊕ ((List Int) × (List Int)))) : Tree (Ex × St U) := .ite y.isLeft (.opt ((List Int) × (List Int) × Bool) y.getLeft? fun r => .leaf (.ret, { tm := [(0, .v (vO (cPair (cSl 3) (cUnit)) (r.1, ()))), (1, .v (vO (cPair (cSl 3) (cUnit)) (r.2.1, ()))), (4, .v (vO (cPair cBool (cUnit)) (r.2.2, ())))], hp := [] })) (.opt ((List Int) × (List Int)) y.getRight? fun r => .leaf (.exit 0, { tm := [(0, .v (vO (cPair (cSl 3) (cUnit)) (r.1, ()))), (1, .v (vO (cPair (cSl 3) (cUnit)) (r.2, ())))], hp := [] }))
noncomputable def href08_Right_0 : Hd := { keep := [0, 1, 5], xkeep := [0, 1, 4], own := false }
noncomputable def Pref08_Right_1 (x : ((List Int) × Unit) × ((List Int) × Unit) × (Int × Unit) × Unit) (_g : Unit) : Sref08_Right_1 := Sref08_Right_1.mk x.1.1 x.2.1.1 x.2.2.1.1
noncomputable def tAref08_Right_1 : Tms U (((List Int) × Unit) × ((List Int) × Unit) × (Int × Unit) × Unit) := tO 0 (cPair (cSl 3) (cUnit)) (tO 1 (cPair (cSl 3) (cUnit)) (tO 6 (cPair (cInt .i64) (cUnit)) (tNil)))
noncomputable def tBref08_Right_1 : Bls U (Unit) := bNil
noncomputable def eSref08_Right_1 (s : Sref08_Right_1) : St U := { tm := [(0, .v (vO (cPair (cSl 3) (cUnit)) (s.t0, ()))), (1, .v (vO (cPair (cSl 3) (cUnit)) (s.t1, ()))), (6, .v (vO (cPair (cInt .i64) (cUnit)) (s.t6, ())))], hp := [] }
noncomputable def xSref08_Right_1 : (Bool ⊕ Unit) → Ex × St U
  | .inl r => (.ret, { tm := [(4, .v (vO (cPair cBool (cUnit)) (r, ())))], hp := [] })
  | .inr r => (.exit 2, { tm := [], hp := [] })
noncomputable def xTref08_Right_1 (y : (Bool ⊕ Unit)) : Tree (Ex × St U) := .ite y.isLeft (.opt Bool y.getLeft? fun r => .leaf (.ret, { tm := [(4, .v (vO (cPair cBool (cUnit)) (r, ())))], hp := [] })) (.opt Unit y.getRight? fun r => .leaf (.exit 2, { tm := [], hp := [] }))
noncomputable def href08_Right_1 : Hd := { keep := [0, 1, 6], xkeep := [4], own := false }
noncomputable def Eref08_Right : Env U := { P := Try.prog, cd := cd, fns := fns59, lps := (addL 0 href08_Right_0 (mkLoop tAref08_Right_0 tBref08_Right_0 Pref08_Right_0 (Lref08_Right_0 none) xTref08_Right_0) (addL 1 href08_Right_1 (mkLoop tAref08_Right_1 tBref08_Right_1 Pref08_Right_1 (Lref08_Right_1 none) xTref08_Right_1) noL)), frz := fun _r => false, nt := 75, n0 := 0 }
noncomputable def Bref08_Right_0 : Code := (loopAt (Try.f37.body.getD .skip) 0 0).getD .skip
theorem roundref08_Right_0 (s : Sref08_Right_0) : round Eref08_Right href08_Right_0 Bref08_Right_0 0 (eSref08_Right_0 s) = (Wref08_Right_0 s).map (sumE eSref08_Right_0 xSref08_Right_0) := by kernel_rfl
theorem lpref08_Right_0 : LpOk Eref08_Right Bref08_Right_0 0 := mkLoop_ok (A := tAref08_Right_0) (B := tBref08_Right_0) (f := Pref08_Right_0) (L := Lref08_Right_0 none) (tO_ok (cPair_ok (cSl_ok 3) cUnit_ok) (tO_ok (cPair_ok (cSl_ok 3) cUnit_ok) (tO_ok (cPair_ok (cInt_ok .i64) cUnit_ok) tNil_ok))) bNil_ok (enc := eSref08_Right_0) (out := xTref08_Right_0) (outS := xSref08_Right_0) (step := Wref08_Right_0) (fun _ => rfl) (fun _ _ => by kernel_rfl) (by kernel_rfl) (fun b => by cases b <;> rfl) roundref08_Right_0
noncomputable def Bref08_Right_1 : Code := (loopAt (Try.f37.body.getD .skip) 0 1).getD .skip
theorem roundref08_Right_1 (s : Sref08_Right_1) : round Eref08_Right href08_Right_1 Bref08_Right_1 1 (eSref08_Right_1 s) = (Wref08_Right_1 s).map (sumE eSref08_Right_1 xSref08_Right_1) := by kernel_rfl
theorem lpref08_Right_1 : LpOk Eref08_Right Bref08_Right_1 1 := mkLoop_ok (A := tAref08_Right_1) (B := tBref08_Right_1) (f := Pref08_Right_1) (L := Lref08_Right_1 none) (tO_ok (cPair_ok (cSl_ok 3) cUnit_ok) (tO_ok (cPair_ok (cSl_ok 3) cUnit_ok) (tO_ok (cPair_ok (cInt_ok .i64) cUnit_ok) tNil_ok))) bNil_ok (enc := eSref08_Right_1) (out := xTref08_Right_1) (outS := xSref08_Right_1) (step := Wref08_Right_1) (fun _ => rfl) (fun _ _ => by kernel_rfl) (by kernel_rfl) (fun b => by cases b <;> rfl) roundref08_Right_1
theorem runref08_Right (x : (List Int) × (List Int) × Unit) (g : Unit) : execF Eref08_Right Try.f37 (Aref08_Right.enc x) (bNil.enc g) = (Tref08_Right none x.1 x.2.1).map Rref08_Right := by kernel_rfl
theorem okref08_Right : FnOk Try.prog cd 37 Sref08_Right := mk_ok (E := Eref08_Right) cd_ok fns59_ok Try.func37 (by kernel_rfl) (loops_of (addL_ok lpref08_Right_0 (addL_ok lpref08_Right_1 noL_ok))) (aO_ok (cSl_ok 3) (aO_ok (cSl_ok 3) (aNil_ok))) bNil_ok (T := fun x _ => Tref08_Right none x.1 x.2.1) (fun _ _ => rfl) runref08_Right
noncomputable def fns37 := addF 37 true Sref08_Right fns59
theorem fns37_ok : ∀ f q t, fns37 f = some (q, t) → FnOk Try.prog cd f t := addF_ok okref08_Right fns59_ok
/-- emulator/emulatorlaw17.small -/
noncomputable def Tlaw17_small (q : Option Nat) (x0 : Tape) (x1 : Store) : Tree Bool :=
  .ite (decide ((x1.mem.length : Int) ≤ (2048 : Int)))
    (.ite (decide ((x1.bad.length : Int) ≤ (2048 : Int)))
      (.ite (decide ((x0.records.length : Int) ≤ (64 : Int)))
        (.opt Bool (ref17_Right q x0) fun r21 =>
          .ite (r21)
            (.opt Bool (ref08_Right q x1.mem x1.bad) fun r22 =>
              .leaf (r22))
            (.leaf (false)))
        (.leaf (false)))
      (.leaf (false)))
    (.leaf (false))
noncomputable def law17_small (q : Option Nat) (x0 : Tape) (x1 : Store) : Option Bool := (Tlaw17_small q x0 x1).run
theorem lelaw17_small (k : Nat) (x0 : Tape) (x1 : Store) : Le (law17_small (some k) x0 x1) (law17_small none x0 x1) := (TLe.ite (TLe.ite (TLe.ite (TLe.opt (leref17_Right k _) fun _ => (TLe.ite (TLe.opt (leref08_Right k _ _) fun _ => TLe.rfl) TLe.rfl)) TLe.rfl) TLe.rfl) TLe.rfl)
noncomputable def Alaw17_small : Arg U (Tape × Store × Unit) := aA cTape (aA cStore (aNil))
noncomputable def Rlaw17_small (r : Bool) : List (V U) × List (Blk U) := ([vO cBool r], [])
noncomputable def Slaw17_small : List (V U) → List (Blk U) → Option (FnOut U) := mkSpec Alaw17_small bNil (fun x _ => law17_small none x.1 x.2.1) Rlaw17_small
noncomputable def Elaw17_small : Env U := { P := Try.prog, cd := cd, fns := fns37, lps := noL, frz := fun _r => false, nt := 32, n0 := 0 }
theorem runlaw17_small (x : Tape × Store × Unit) (g : Unit) : execF Elaw17_small Try.f9 (Alaw17_small.enc x) (bNil.enc g) = (Tlaw17_small none x.1 x.2.1).map Rlaw17_small := by kernel_rfl
theorem oklaw17_small : FnOk Try.prog cd 9 Slaw17_small := mk_ok (E := Elaw17_small) cd_ok fns37_ok Try.func9 (by kernel_rfl) (noLoops_body (by kernel_rfl)) (aA_ok cTape_ok (aA_ok cStore_ok (aNil_ok))) bNil_ok (T := fun x _ => Tlaw17_small none x.1 x.2.1) (fun _ _ => rfl) runlaw17_small
noncomputable def fns9 := addF 9 true Slaw17_small fns37
theorem fns9_ok : ∀ f q t, fns9 f = some (q, t) → FnOk Try.prog cd f t := addF_ok oklaw17_small fns37_ok
/-- emulator/tape.pass -/
noncomputable def Ttape_pass (x0 : Tape) : Tree ((List UInt8) × Tape × Bool) :=
  .ite (decide (x0.pos = (x0.records.length : Int)))
    (.leaf (([], Tape.mk x0.records x0.pos x0.enable x0.ready true x0.mark true x0.command x0.count x0.addr x0.left, false)))
    (.ite (decide (0 ≤ x0.pos))
      (.opt (List UInt8) (x0.records[(x0.pos).toNat]?) fun y23 =>
        .ite (x0.mark)
          (.leaf ((y23, Tape.mk x0.records (IntKind.wrap .i64 (x0.pos + (1 : Int))) x0.enable x0.ready x0.error true x0.end_ x0.command x0.count x0.addr x0.left, true)))
          (.leaf ((y23, Tape.mk x0.records (IntKind.wrap .i64 (x0.pos + (1 : Int))) x0.enable x0.ready x0.error (decide (y23 = ([]))) x0.end_ x0.command x0.count x0.addr x0.left, true))))
      .fail)
noncomputable def tape_pass (x0 : Tape) : Option ((List UInt8) × Tape × Bool) := (Ttape_pass x0).run
noncomputable def Atape_pass : Arg U (Tape × Unit) := aA cTape (aNil)
noncomputable def Rtape_pass (r : ((List UInt8) × Tape × Bool)) : List (V U) × List (Blk U) := ([vO cStr r.1, vA cTape r.2.1, vO cBool r.2.2], [])
noncomputable def Stape_pass : List (V U) → List (Blk U) → Option (FnOut U) := mkSpec Atape_pass bNil (fun x _ => tape_pass x.1) Rtape_pass
noncomputable def Etape_pass : Env U := { P := Try.prog, cd := cd, fns := fns9, lps := noL, frz := fun _r => false, nt := 34, n0 := 0 }
theorem runtape_pass (x : Tape × Unit) (g : Unit) : execF Etape_pass Try.f40 (Atape_pass.enc x) (bNil.enc g) = (Ttape_pass x.1).map Rtape_pass := by kernel_rfl
theorem oktape_pass : FnOk Try.prog cd 40 Stape_pass := mk_ok (E := Etape_pass) cd_ok fns9_ok Try.func40 (by kernel_rfl) (noLoops_body (by kernel_rfl)) (aA_ok cTape_ok (aNil_ok)) bNil_ok (T := fun x _ => Ttape_pass x.1) (fun _ _ => rfl) runtape_pass
noncomputable def fns40 := addF 40 true Stape_pass fns9
theorem fns40_ok : ∀ f q t, fns40 f = some (q, t) → FnOk Try.prog cd f t := addF_ok oktape_pass fns9_ok
/-- emulator/memory.within -/
noncomputable def Tmemory_within (x0 : (List Int)) (x1 : Int) (x2 : Int) : Tree Bool :=
  .ite (decide ((0 : Int) ≤ x1))
    (.ite (decide ((0 : Int) ≤ x2))
      (.ite (decide (x1 ≤ (IntKind.wrap .i64 ((2 : Int) * (x0.length : Int)))))
        (.leaf (decide (x2 ≤ (IntKind.wrap .i64 ((IntKind.wrap .i64 ((2 : Int) * (x0.length : Int))) - x1)))))
        (.leaf (false)))
      (.leaf (false)))
    (.leaf (false))
noncomputable def memory_within (x0 : (List Int)) (x1 : Int) (x2 : Int) : Option Bool := (Tmemory_within x0 x1 x2).run
noncomputable def Amemory_within : Arg U ((List Int) × Int × Int × Unit) := aO (cSl 3) (aO (cInt .i64) (aO (cInt .i64) (aNil)))
noncomputable def Rmemory_within (r : Bool) : List (V U) × List (Blk U) := ([vO cBool r], [])
noncomputable def Smemory_within : List (V U) → List (Blk U) → Option (FnOut U) := mkSpec Amemory_within bNil (fun x _ => memory_within x.1 x.2.1 x.2.2.1) Rmemory_within
noncomputable def Ememory_within : Env U := { P := Try.prog, cd := cd, fns := fns40, lps := noL, frz := fun _r => false, nt := 29, n0 := 0 }
theorem runmemory_within (x : (List Int) × Int × Int × Unit) (g : Unit) : execF Ememory_within Try.f48 (Amemory_within.enc x) (bNil.enc g) = (Tmemory_within x.1 x.2.1 x.2.2.1).map Rmemory_within := by kernel_rfl
theorem okmemory_within : FnOk Try.prog cd 48 Smemory_within := mk_ok (E := Ememory_within) cd_ok fns40_ok Try.func48 (by kernel_rfl) (noLoops_body (by kernel_rfl)) (aO_ok (cSl_ok 3) (aO_ok (cInt_ok .i64) (aO_ok (cInt_ok .i64) (aNil_ok)))) bNil_ok (T := fun x _ => Tmemory_within x.1 x.2.1 x.2.2.1) (fun _ _ => rfl) runmemory_within
noncomputable def fns48 := addF 48 true Smemory_within fns40
theorem fns48_ok : ∀ f q t, fns48 f = some (q, t) → FnOk Try.prog cd f t := addF_ok okmemory_within fns40_ok
/-- emulator/memory.copied -/
noncomputable def Tmemory_copied (x0 : (List Int)) : Tree (List Int) :=
  .ite (decide ((x0.length : Int) = (x0.length : Int)))
    (.ite (decide (0 ≤ (x0.length : Int)))
      (.ite (decide ((8 : Int) * (x0.length : Int) ≤ 281474976710656))
        (.leaf (x0.take (List.replicate ((x0.length : Int)).toNat (0 : Int)).length ++ (List.replicate ((x0.length : Int)).toNat (0 : Int)).drop x0.length))
        .fail)
      .fail)
    .fail
noncomputable def memory_copied (x0 : (List Int)) : Option (List Int) := (Tmemory_copied x0).run
noncomputable def Amemory_copied : Arg U ((List Int) × Unit) := aO (cSl 3) (aNil)
noncomputable def Gmemory_copied : Bls U (Unit) := bNil
noncomputable def Rmemory_copied (_x : (List Int) × Unit) (_g : Unit) (r : (List Int)) : List (V U) × List (Blk U) := ([vO (cK (.row 0 0) (cUnit)) (())], [.row 3 0 r])
noncomputable def Smemory_copied : List (V U) → List (Blk U) → Option (FnOut U) := mkSpecG Amemory_copied Gmemory_copied (fun x _ => memory_copied x.1) Rmemory_copied
noncomputable def Ememory_copied : Env U := { P := Try.prog, cd := cd, fns := fns48, lps := noL, frz := fun _r => false, nt := 11, n0 := 0 }
theorem rnmemory_copied (x0 : (List Int)) : execX true Ememory_copied Try.f71 (Amemory_copied.enc (x0, ())) (Gmemory_copied.enc ()) = (Tmemory_copied x0).map (Rmemory_copied (x0, ()) ()) := by kernel_rfl
theorem runmemory_copied : ∀ (x : (List Int) × Unit) (g : Unit), execX true Ememory_copied Try.f71 (Amemory_copied.enc x) (Gmemory_copied.enc g) = (Tmemory_copied x.1).map (Rmemory_copied x g)
  | (x0, ()), () => rnmemory_copied x0
theorem okmemory_copied : FnOk Try.prog cd 71 Smemory_copied := mk_okG (E := Ememory_copied) (A := Amemory_copied) (B := Gmemory_copied) true cd_ok fns48_ok Try.func71 (by kernel_rfl) (noLoops_body (by kernel_rfl)) (aO_ok (cSl_ok 3) (aNil_ok)) bNil_ok (T := fun (x : (List Int) × Unit) (_ : Unit) => Tmemory_copied x.1) (fun _ _ => rfl) runmemory_copied
/-- emulator/memory.Store -/
structure Smemory_Store_0 where
  t1 : Int
  t2 : (List UInt8)
  t21 : Int
  t22 : Int
  b0 : (List Int)
noncomputable def Wmemory_Store_0 (s : Smemory_Store_0) : Tree (Smemory_Store_0 ⊕ (List Int)) :=
  .ite (decide (s.t22 < s.t21))
    (.ite (decide ((2 : Int) = 0))
      .fail
      (.ite (decide ((2 : Int) = 0))
        .fail
        (.ite (decide ((2 : Int) = 0))
          .fail
          (.ite (decide (0 ≤ IntKind.wrap .i64 (((IntKind.wrap .i64 (s.t1 + s.t22))).tdiv (2 : Int))))
            (.ite (decide (IntKind.wrap .i64 (((IntKind.wrap .i64 (s.t1 + s.t22))).tdiv (2 : Int)) < (s.b0.length : Int)))
              (.opt Int (s.b0[(IntKind.wrap .i64 (((IntKind.wrap .i64 (s.t1 + s.t22))).tdiv (2 : Int))).toNat]?) fun y27 =>
                .ite (decide (0 ≤ (IntKind.wrap .i64 ((((IntKind.wrap .i64 (s.t1 + s.t22))).tmod (2 : Int)) * (8 : Int)))))
                  (.ite (decide (0 ≤ s.t22))
                    (.opt UInt8 (s.t2[(s.t22).toNat]?) fun y28 =>
                      .ite (decide (0 ≤ (IntKind.wrap .i64 ((((IntKind.wrap .i64 (s.t1 + s.t22))).tmod (2 : Int)) * (8 : Int)))))
                        (.ite (decide (0 ≤ IntKind.wrap .i64 (((IntKind.wrap .i64 (s.t1 + s.t22))).tdiv (2 : Int))))
                          (.ite (decide (IntKind.wrap .i64 (((IntKind.wrap .i64 (s.t1 + s.t22))).tdiv (2 : Int)) < (s.b0.length : Int)))
                            (.opt Int (s.b0[(IntKind.wrap .i64 (((IntKind.wrap .i64 (s.t1 + s.t22))).tdiv (2 : Int))).toNat]?) fun y29 =>
                              .leaf (.inl (Smemory_Store_0.mk s.t1 s.t2 s.t21 (IntKind.wrap .i64 (s.t22 + (1 : Int))) (s.b0.set ((IntKind.wrap .i64 (((IntKind.wrap .i64 (s.t1 + s.t22))).tdiv (2 : Int))).toNat) (IntKind.wrap .i64 (((BitVec.ofInt 64 (IntKind.wrap .i64 (((BitVec.ofInt 64 y27 &&& ~~~BitVec.ofInt 64 (IntKind.wrap .i64 ((255 : Int) * 2 ^ (min ((IntKind.wrap .i64 ((((IntKind.wrap .i64 (s.t1 + s.t22))).tmod (2 : Int)) * (8 : Int)))).toNat 64)))).toNat : Int))) ||| BitVec.ofInt 64 (IntKind.wrap .i64 ((IntKind.wrap .i64 (y28.toNat : Int)) * 2 ^ (min ((IntKind.wrap .i64 ((((IntKind.wrap .i64 (s.t1 + s.t22))).tmod (2 : Int)) * (8 : Int)))).toNat 64)))).toNat : Int)))))))
                            .fail)
                          .fail)
                        .fail)
                    .fail)
                  .fail)
              .fail)
            .fail))))
    (.leaf (.inr s.b0))
noncomputable def Lmemory_Store_0 (q : Option Nat) (s : Smemory_Store_0) : Option (List Int) := limQ q (fun s => (Wmemory_Store_0 s).run) s
theorem leLmemory_Store_0 (k : Nat) (s : Smemory_Store_0) : Le (Lmemory_Store_0 (some k) s) (Lmemory_Store_0 none s) := limQ_le (fun _ => Le.rfl) s
noncomputable def Tmemory_Store (q : Option Nat) (x0 : (List Int)) (x1 : Int) (x2 : (List UInt8)) : Tree ((List Int) × Int) :=
  .opt Bool (memory_within x0 x1 (x2.length : Int)) fun r25 =>
    .ite (!r25)
      (.leaf (([], (2 : Int))))
      (.opt (List Int) (memory_copied x0) fun r26 =>
        .opt (List Int) (Lmemory_Store_0 q (Smemory_Store_0.mk x1 x2 (x2.length : Int) (0 : Int) r26)) fun l30 =>
          .leaf ((l30, (0 : Int))))
noncomputable def memory_Store (q : Option Nat) (x0 : (List Int)) (x1 : Int) (x2 : (List UInt8)) : Option ((List Int) × Int) := (Tmemory_Store q x0 x1 x2).run
theorem lememory_Store (k : Nat) (x0 : (List Int)) (x1 : Int) (x2 : (List UInt8)) : Le (memory_Store (some k) x0 x1 x2) (memory_Store none x0 x1 x2) := (TLe.opt Le.rfl fun _ => (TLe.ite TLe.rfl (TLe.opt Le.rfl fun _ => (TLe.opt (leLmemory_Store_0 k _) fun _ => TLe.rfl))))
noncomputable def Amemory_Store : Arg U ((List Int) × Int × (List UInt8) × Unit) := aO (cSl 3) (aO (cInt .i64) (aO cStr (aNil)))
noncomputable def Rmemory_Store (r : ((List Int) × Int)) : List (V U) × List (Blk U) := ([vO (cSl 3) r.1, vO (cInt .i64) r.2], [])
noncomputable def Smemory_Store : List (V U) → List (Blk U) → Option (FnOut U) := mkSpec Amemory_Store bNil (fun x _ => memory_Store none x.1 x.2.1 x.2.2.1) Rmemory_Store
noncomputable def Pmemory_Store_0 (x : (Int × Unit) × ((List UInt8) × Unit) × (Unit) × (Int × Unit) × (Int × Unit) × Unit) (g : (List Int) × Unit) : Smemory_Store_0 := Smemory_Store_0.mk x.1.1 x.2.1.1 x.2.2.2.1.1 x.2.2.2.2.1.1 g.1
noncomputable def tAmemory_Store_0 : Tms U ((Int × Unit) × ((List UInt8) × Unit) × (Unit) × (Int × Unit) × (Int × Unit) × Unit) := tO 1 (cPair (cInt .i64) (cUnit)) (tO 2 (cPair cStr (cUnit)) (tO 8 (cK (.row 0 0) (cUnit)) (tO 21 (cPair (cInt .i64) (cUnit)) (tO 22 (cPair (cInt .i64) (cUnit)) (tNil)))))
noncomputable def tBmemory_Store_0 : Bls U ((List Int) × Unit) := bRv 3 0 (bNil)
noncomputable def eSmemory_Store_0 (s : Smemory_Store_0) : St U := { tm := [(1, .v (vO (cPair (cInt .i64) (cUnit)) (s.t1, ()))), (2, .v (vO (cPair cStr (cUnit)) (s.t2, ()))), (8, .v (vO (cK (.row 0 0) (cUnit)) (()))), (21, .v (vO (cPair (cInt .i64) (cUnit)) (s.t21, ()))), (22, .v (vO (cPair (cInt .i64) (cUnit)) (s.t22, ())))], hp := [.row 3 0 s.b0] }
noncomputable def xSmemory_Store_0 (r : (List Int)) : Ex × St U := (.exit 0, { tm := [(8, .v (vO (cK (.row 0 0) (cUnit)) (())))], hp := [.row 3 0 r] })
noncomputable def xTmemory_Store_0 (r : (List Int)) : Tree (Ex × St U) := .leaf (xSmemory_Store_0 r)
noncomputable def hmemory_Store_0 : Hd := { keep := [1, 2, 8, 21, 22], xkeep := [6, 7, 8], own := false }
noncomputable def Ememory_Store : Env U := { P := Try.prog, cd := cd, fns := (addF 71 false (Smemory_copied) fns48), lps := (addL 0 hmemory_Store_0 (mkLoop tAmemory_Store_0 tBmemory_Store_0 Pmemory_Store_0 (Lmemory_Store_0 none) xTmemory_Store_0) noL), frz := fun _r => false, nt := 52, n0 := 0 }
noncomputable def Bmemory_Store_0 : Code := (loopAt (Try.f60.body.getD .skip) 0 0).getD .skip
theorem roundmemory_Store_0 (s : Smemory_Store_0) : round Ememory_Store hmemory_Store_0 Bmemory_Store_0 0 (eSmemory_Store_0 s) = (Wmemory_Store_0 s).map (sumE eSmemory_Store_0 xSmemory_Store_0) := by kernel_rfl
theorem lpmemory_Store_0 : LpOk Ememory_Store Bmemory_Store_0 0 := mkLoop_ok (A := tAmemory_Store_0) (B := tBmemory_Store_0) (f := Pmemory_Store_0) (L := Lmemory_Store_0 none) (tO_ok (cPair_ok (cInt_ok .i64) cUnit_ok) (tO_ok (cPair_ok cStr_ok cUnit_ok) (tO_ok (cK_ok cUnit_ok) (tO_ok (cPair_ok (cInt_ok .i64) cUnit_ok) (tO_ok (cPair_ok (cInt_ok .i64) cUnit_ok) tNil_ok))))) (bRv_ok bNil_ok) (enc := eSmemory_Store_0) (out := xTmemory_Store_0) (outS := xSmemory_Store_0) (step := Wmemory_Store_0) (fun _ => rfl) (fun _ _ => by kernel_rfl) (by kernel_rfl) (fun _ => rfl) roundmemory_Store_0
theorem runmemory_Store (x : (List Int) × Int × (List UInt8) × Unit) (g : Unit) : execF Ememory_Store Try.f60 (Amemory_Store.enc x) (bNil.enc g) = (Tmemory_Store none x.1 x.2.1 x.2.2.1).map Rmemory_Store := by kernel_rfl
theorem okmemory_Store : FnOk Try.prog cd 60 Smemory_Store := mk_ok (E := Ememory_Store) cd_ok (addF_ok okmemory_copied fns48_ok) Try.func60 (by kernel_rfl) (loops_of (addL_ok lpmemory_Store_0 noL_ok)) (aO_ok (cSl_ok 3) (aO_ok (cInt_ok .i64) (aO_ok cStr_ok (aNil_ok)))) bNil_ok (T := fun x _ => Tmemory_Store none x.1 x.2.1 x.2.2.1) (fun _ _ => rfl) runmemory_Store
noncomputable def fns60 := addF 60 true Smemory_Store fns48
theorem fns60_ok : ∀ f q t, fns60 f = some (q, t) → FnOk Try.prog cd f t := addF_ok okmemory_Store fns48_ok
end Go.Proofs.Ytjhibcebipjbcaa
namespace Go.Proofs
shelf_lay_g SlLaysE0.n41 Slgn 41 at Try 62 as Try.lays62
end Go.Proofs
namespace Go.Proofs.Ytjhibcebipjbcaa
open Go Go.Ab
theorem okslices_Clone_int_int : FnOk Try.prog cd 62 (cloneSpec 3 8) := clone_ok2 cd_ok Try.lays62 Try.func62 (by kernel_rfl) (by kernel_rfl) rfl rfl (by kernel_rfl)
/-- emulator/tape.within -/
noncomputable def Ttape_within (x0 : Int) (x1 : Int) : Tree (Int × Int) :=
  .leaf ((x1, x0))
noncomputable def tape_within (x0 : Int) (x1 : Int) : Option (Int × Int) := (Ttape_within x0 x1).run
noncomputable def Atape_within : Arg U (Int × Int × Unit) := aO (cInt .i64) (aO (cInt .i64) (aNil))
noncomputable def Gtape_within : Bls U (Unit) := bNil
noncomputable def Rtape_within (_x : Int × Int × Unit) (_g : Unit) (r : (Int × Int)) : List (V U) × List (Blk U) := ([vO (cK2 (.fn 73 [] [(.ptr 0 0), (.ptr 1 0)]) (cUnit)) (())], [.cells ((cPair (cInt .i64) (cUnit) : Cdc U (Int × Unit)).enc (r.1, ())), .cells ((cPair (cInt .i64) (cUnit) : Cdc U (Int × Unit)).enc (r.2, ()))])
noncomputable def Stape_within : List (V U) → List (Blk U) → Option (FnOut U) := mkSpecG Atape_within Gtape_within (fun x _ => tape_within x.1 x.2.1) Rtape_within
noncomputable def Etape_within : Env U := { P := Try.prog, cd := cd, fns := fns60, lps := noL, frz := fun _r => false, nt := 6, n0 := 0 }
theorem rntape_within (x0 : Int) (x1 : Int) : execX true Etape_within Try.f63 (Atape_within.enc (x0, x1, ())) (Gtape_within.enc ()) = (Ttape_within x0 x1).map (Rtape_within (x0, x1, ()) ()) := by kernel_rfl
theorem runtape_within : ∀ (x : Int × Int × Unit) (g : Unit), execX true Etape_within Try.f63 (Atape_within.enc x) (Gtape_within.enc g) = (Ttape_within x.1 x.2.1).map (Rtape_within x g)
  | (x0, x1, ()), () => rntape_within x0 x1
theorem oktape_within : FnOk Try.prog cd 63 Stape_within := mk_okG (E := Etape_within) (A := Atape_within) (B := Gtape_within) true cd_ok fns60_ok Try.func63 (by kernel_rfl) (noLoops_body (by kernel_rfl)) (aO_ok (cInt_ok .i64) (aO_ok (cInt_ok .i64) (aNil_ok))) bNil_ok (T := fun (x : Int × Int × Unit) (_ : Unit) => Ttape_within x.1 x.2.1) (fun _ _ => rfl) runtape_within
/-- emulator/tape.within$1 -/
noncomputable def Ttape_within_1 (x0 : Int) (g0 : Int) (g1 : Int) : Tree Bool :=
  .ite (decide ((0 : Int) < g0))
    (.ite (decide (g1 ≤ (IntKind.wrap .i64 (x0 + (1 : Int)))))
      (.leaf (decide (x0 < (IntKind.wrap .i64 (g1 + g0)))))
      (.leaf (false)))
    (.leaf (false))
noncomputable def tape_within_1 (x0 : Int) (g0 : Int) (g1 : Int) : Option Bool := (Ttape_within_1 x0 g0 g1).run
noncomputable def Atape_within_1 : Arg U (Int × Unit) := aO (cInt .i64) (aP 0 0 (aP 1 0 (aNil)))
noncomputable def Gtape_within_1 : Bls U (Int × Int × Unit) := bC (cInt .i64) (bC (cInt .i64) (bNil))
noncomputable def Rtape_within_1 (_x : Int × Unit) (g : Int × Int × Unit) (r : Bool) : List (V U) × List (Blk U) := ([vO (cPair cBool (cUnit)) (r, ())], [.cells (((cInt .i64) : Cdc U Int).enc g.1), .cells (((cInt .i64) : Cdc U Int).enc g.2.1)])
noncomputable def Stape_within_1 : List (V U) → List (Blk U) → Option (FnOut U) := mkSpecG Atape_within_1 Gtape_within_1 (fun x g => tape_within_1 x.1 g.1 g.2.1) Rtape_within_1
noncomputable def Etape_within_1 : Env U := { P := Try.prog, cd := cd, fns := fns60, lps := noL, frz := fun _r => false, nt := 20, n0 := 2 }
theorem rntape_within_1 (x0 : Int) (g0 : Int) (g1 : Int) : execX false Etape_within_1 Try.f73 (Atape_within_1.enc (x0, ())) (Gtape_within_1.enc (g0, g1, ())) = (Ttape_within_1 x0 g0 g1).map (Rtape_within_1 (x0, ()) (g0, g1, ())) := by kernel_rfl
theorem runtape_within_1 : ∀ (x : Int × Unit) (g : Int × Int × Unit), execX false Etape_within_1 Try.f73 (Atape_within_1.enc x) (Gtape_within_1.enc g) = (Ttape_within_1 x.1 g.1 g.2.1).map (Rtape_within_1 x g)
  | (x0, ()), (g0, g1, ()) => rntape_within_1 x0 g0 g1
theorem oktape_within_1 : FnOk Try.prog cd 73 Stape_within_1 := mk_okG (E := Etape_within_1) (A := Atape_within_1) (B := Gtape_within_1) false cd_ok fns60_ok Try.func73 (by kernel_rfl) (noLoops_body (by kernel_rfl)) (aO_ok (cInt_ok .i64) (aP_ok (aP_ok (aNil_ok)))) (bC_ok (cInt_ok .i64) (bC_ok (cInt_ok .i64) bNil_ok)) (T := fun (x : Int × Unit) (g : Int × Int × Unit) => Ttape_within_1 x.1 g.1 g.2.1) (fun _ _ => rfl) runtape_within_1
/-- slices.IndexFunc[[]int,int] -/
structure Sslices_IndexFunc_int_int_0 where
  t7 : Int
  t8 : Int
  b0 : (List Int)
  b1_0 : Int
  b2_0 : Int
noncomputable def Wslices_IndexFunc_int_int_0 (s : Sslices_IndexFunc_int_int_0) : Tree (Sslices_IndexFunc_int_int_0 ⊕ ((Int × (List Int) × Int × Int) ⊕ ((List Int) × Int × Int))) :=
  .ite (decide (s.t8 < s.t7))
    (.ite (decide (0 ≤ s.t8))
      (.ite (decide (s.t8 < (s.b0.length : Int)))
        (.opt Int (s.b0[(s.t8).toNat]?) fun y42 =>
          .opt Bool (tape_within_1 y42 s.b1_0 s.b2_0) fun r43 =>
            .ite (r43)
              (.leaf (.inr (.inl (s.t8, s.b0, s.b1_0, s.b2_0))))
              (.leaf (.inl (Sslices_IndexFunc_int_int_0.mk s.t7 (IntKind.wrap .i64 (s.t8 + (1 : Int))) s.b0 s.b1_0 s.b2_0))))
        .fail)
      .fail)
    (.leaf (.inr (.inr (s.b0, s.b1_0, s.b2_0))))
noncomputable def Lslices_IndexFunc_int_int_0 (q : Option Nat) (s : Sslices_IndexFunc_int_int_0) : Option ((Int × (List Int) × Int × Int) ⊕ ((List Int) × Int × Int)) := limQ q (fun s => (Wslices_IndexFunc_int_int_0 s).run) s
theorem leLslices_IndexFunc_int_int_0 (k : Nat) (s : Sslices_IndexFunc_int_int_0) : Le (Lslices_IndexFunc_int_int_0 (some k) s) (Lslices_IndexFunc_int_int_0 none s) := limQ_le (fun _ => Le.rfl) s
noncomputable def Tslices_IndexFunc_int_int (q : Option Nat) (g0 : (List Int)) (g1 : Int) (g2 : Int) : Tree (Int × (List Int) × Int × Int) :=
  .opt ((Int × (List Int) × Int × Int) ⊕ ((List Int) × Int × Int)) (Lslices_IndexFunc_int_int_0 q (Sslices_IndexFunc_int_int_0.mk (g0.length : Int) (0 : Int) g0 g1 g2)) fun l44 =>
    .ite (l44.isLeft)
      (.opt (Int × (List Int) × Int × Int) (l44.getLeft?) fun a45 =>
        .leaf ((a45.1, a45.2.1, a45.2.2.1, a45.2.2.2)))
      (.opt ((List Int) × Int × Int) (l44.getRight?) fun b46 =>
        .leaf (((-1 : Int), b46.1, b46.2.1, b46.2.2)))
noncomputable def slices_IndexFunc_int_int (q : Option Nat) (g0 : (List Int)) (g1 : Int) (g2 : Int) : Option (Int × (List Int) × Int × Int) := (Tslices_IndexFunc_int_int q g0 g1 g2).run
theorem leslices_IndexFunc_int_int (k : Nat) (g0 : (List Int)) (g1 : Int) (g2 : Int) : Le (slices_IndexFunc_int_int (some k) g0 g1 g2) (slices_IndexFunc_int_int none g0 g1 g2) := (TLe.opt (leLslices_IndexFunc_int_int_0 k _) fun _ => TLe.rfl)
noncomputable def Aslices_IndexFunc_int_int : Arg U (Unit) := aR 0 (aF 73 [(.ptr 1 0), (.ptr 2 0)] (aNil))
noncomputable def Gslices_IndexFunc_int_int : Bls U ((List Int) × Int × Int × Unit) := bR 3 (bC (cInt .i64) (bC (cInt .i64) (bNil)))
noncomputable def Rslices_IndexFunc_int_int (_x : Unit) (_g : (List Int) × Int × Int × Unit) (r : (Int × (List Int) × Int × Int)) : List (V U) × List (Blk U) := ([vO (cPair (cInt .i64) (cUnit)) (r.1, ())], [.row 3 0 r.2.1, .cells ((cPair (cInt .i64) (cUnit) : Cdc U (Int × Unit)).enc (r.2.2.1, ())), .cells ((cPair (cInt .i64) (cUnit) : Cdc U (Int × Unit)).enc (r.2.2.2, ()))])
noncomputable def Sslices_IndexFunc_int_int : List (V U) → List (Blk U) → Option (FnOut U) := mkSpecG Aslices_IndexFunc_int_int Gslices_IndexFunc_int_int (fun x g => slices_IndexFunc_int_int none g.1 g.2.1 g.2.2.1) Rslices_IndexFunc_int_int
noncomputable def Pslices_IndexFunc_int_int_0 (x : (Unit) × (Unit) × (Int × Unit) × (Int × Unit) × Unit) (g : (List Int) × (Int × Unit) × (Int × Unit) × Unit) : Sslices_IndexFunc_int_int_0 := Sslices_IndexFunc_int_int_0.mk x.2.2.1.1 x.2.2.2.1.1 g.1 g.2.1.1 g.2.2.1.1
noncomputable def tAslices_IndexFunc_int_int_0 : Tms U ((Unit) × (Unit) × (Int × Unit) × (Int × Unit) × Unit) := tO 0 (cK (.row 0 0) (cUnit)) (tO 1 (cK2 (.fn 73 [] [(.ptr 1 0), (.ptr 2 0)]) (cUnit)) (tO 7 (cPair (cInt .i64) (cUnit)) (tO 8 (cPair (cInt .i64) (cUnit)) (tNil))))
noncomputable def tBslices_IndexFunc_int_int_0 : Bls U ((List Int) × (Int × Unit) × (Int × Unit) × Unit) := bRv 3 0 (bC (cPair (cInt .i64) (cUnit)) (bC (cPair (cInt .i64) (cUnit)) (bNil)))
noncomputable def eSslices_IndexFunc_int_int_0 (s : Sslices_IndexFunc_int_int_0) : St U := { tm := [(0, .v (vO (cK (.row 0 0) (cUnit)) (()))), (1, .v (vO (cK2 (.fn 73 [] [(.ptr 1 0), (.ptr 2 0)]) (cUnit)) (()))), (7, .v (vO (cPair (cInt .i64) (cUnit)) (s.t7, ()))), (8, .v (vO (cPair (cInt .i64) (cUnit)) (s.t8, ())))], hp := [.row 3 0 s.b0, .cells ((cPair (cInt .i64) (cUnit) : Cdc U (Int × Unit)).enc (s.b1_0, ())), .cells ((cPair (cInt .i64) (cUnit) : Cdc U (Int × Unit)).enc (s.b2_0, ()))] }
noncomputable def xSslices_IndexFunc_int_int_0 : ((Int × (List Int) × Int × Int) ⊕ ((List Int) × Int × Int)) → Ex × St U
  | .inl r => (.ret, { tm := [(4, .v (vO (cPair (cInt .i64) (cUnit)) (r.1, ())))], hp := [.row 3 0 r.2.1, .cells ((cPair (cInt .i64) (cUnit) : Cdc U (Int × Unit)).enc (r.2.2.1, ())), .cells ((cPair (cInt .i64) (cUnit) : Cdc U (Int × Unit)).enc (r.2.2.2, ()))] })
  | .inr r => (.exit 0, { tm := [], hp := [.row 3 0 r.1, .cells ((cPair (cInt .i64) (cUnit) : Cdc U (Int × Unit)).enc (r.2.1, ())), .cells ((cPair (cInt .i64) (cUnit) : Cdc U (Int × Unit)).enc (r.2.2, ()))] })
noncomputable def xTslices_IndexFunc_int_int_0 (y : ((Int × (List Int) × Int × Int) ⊕ ((List Int) × Int × Int))) : Tree (Ex × St U) := .ite y.isLeft (.opt (Int × (List Int) × Int × Int) y.getLeft? fun r => .leaf (.ret, { tm := [(4, .v (vO (cPair (cInt .i64) (cUnit)) (r.1, ())))], hp := [.row 3 0 r.2.1, .cells ((cPair (cInt .i64) (cUnit) : Cdc U (Int × Unit)).enc (r.2.2.1, ())), .cells ((cPair (cInt .i64) (cUnit) : Cdc U (Int × Unit)).enc (r.2.2.2, ()))] })) (.opt ((List Int) × Int × Int) y.getRight? fun r => .leaf (.exit 0, { tm := [], hp := [.row 3 0 r.1, .cells ((cPair (cInt .i64) (cUnit) : Cdc U (Int × Unit)).enc (r.2.1, ())), .cells ((cPair (cInt .i64) (cUnit) : Cdc U (Int × Unit)).enc (r.2.2, ()))] }))
noncomputable def hslices_IndexFunc_int_int_0 : Hd := { keep := [0, 1, 7, 8], xkeep := [4], own := false }
noncomputable def Eslices_IndexFunc_int_int : Env U := { P := Try.prog, cd := cd, fns := (addF 73 false (Stape_within_1) fns60), lps := (addL 0 hslices_IndexFunc_int_int_0 (mkLoop tAslices_IndexFunc_int_int_0 tBslices_IndexFunc_int_int_0 Pslices_IndexFunc_int_int_0 (Lslices_IndexFunc_int_int_0 none) xTslices_IndexFunc_int_int_0) noL), frz := fun _r => false, nt := 19, n0 := 3 }
noncomputable def Bslices_IndexFunc_int_int_0 : Code := (loopAt (Try.f72.body.getD .skip) 0 0).getD .skip
theorem roundslices_IndexFunc_int_int_0 (s : Sslices_IndexFunc_int_int_0) : round Eslices_IndexFunc_int_int hslices_IndexFunc_int_int_0 Bslices_IndexFunc_int_int_0 0 (eSslices_IndexFunc_int_int_0 s) = (Wslices_IndexFunc_int_int_0 s).map (sumE eSslices_IndexFunc_int_int_0 xSslices_IndexFunc_int_int_0) := by kernel_rfl
theorem lpslices_IndexFunc_int_int_0 : LpOk Eslices_IndexFunc_int_int Bslices_IndexFunc_int_int_0 0 := mkLoop_ok (A := tAslices_IndexFunc_int_int_0) (B := tBslices_IndexFunc_int_int_0) (f := Pslices_IndexFunc_int_int_0) (L := Lslices_IndexFunc_int_int_0 none) (tO_ok (cK_ok cUnit_ok) (tO_ok (cK2_ok cUnit_ok) (tO_ok (cPair_ok (cInt_ok .i64) cUnit_ok) (tO_ok (cPair_ok (cInt_ok .i64) cUnit_ok) tNil_ok)))) (bRv_ok (bC_ok (cPair_ok (cInt_ok .i64) cUnit_ok) (bC_ok (cPair_ok (cInt_ok .i64) cUnit_ok) bNil_ok))) (enc := eSslices_IndexFunc_int_int_0) (out := xTslices_IndexFunc_int_int_0) (outS := xSslices_IndexFunc_int_int_0) (step := Wslices_IndexFunc_int_int_0) (fun _ => rfl) (fun _ _ => by kernel_rfl) (by kernel_rfl) (fun b => by cases b <;> rfl) roundslices_IndexFunc_int_int_0
theorem rnslices_IndexFunc_int_int (g0 : (List Int)) (g1 : Int) (g2 : Int) : execX false Eslices_IndexFunc_int_int Try.f72 (Aslices_IndexFunc_int_int.enc ()) (Gslices_IndexFunc_int_int.enc (g0, g1, g2, ())) = (Tslices_IndexFunc_int_int none g0 g1 g2).map (Rslices_IndexFunc_int_int () (g0, g1, g2, ())) := by kernel_rfl
theorem runslices_IndexFunc_int_int : ∀ (x : Unit) (g : (List Int) × Int × Int × Unit), execX false Eslices_IndexFunc_int_int Try.f72 (Aslices_IndexFunc_int_int.enc x) (Gslices_IndexFunc_int_int.enc g) = (Tslices_IndexFunc_int_int none g.1 g.2.1 g.2.2.1).map (Rslices_IndexFunc_int_int x g)
  | (), (g0, g1, g2, ()) => rnslices_IndexFunc_int_int g0 g1 g2
theorem okslices_IndexFunc_int_int : FnOk Try.prog cd 72 Sslices_IndexFunc_int_int := mk_okG (E := Eslices_IndexFunc_int_int) (A := Aslices_IndexFunc_int_int) (B := Gslices_IndexFunc_int_int) false cd_ok (addF_ok oktape_within_1 fns60_ok) Try.func72 (by kernel_rfl) (loops_of (addL_ok lpslices_IndexFunc_int_int_0 noL_ok)) (aR_ok (aF_ok (aNil_ok))) (bR_ok (bC_ok (cInt_ok .i64) (bC_ok (cInt_ok .i64) bNil_ok))) (T := fun (x : Unit) (g : (List Int) × Int × Int × Unit) => Tslices_IndexFunc_int_int none g.1 g.2.1 g.2.2.1) (fun _ _ => rfl) runslices_IndexFunc_int_int
/-- slices.DeleteFunc[[]int,int] -/
structure Sslices_DeleteFunc_int_int_0 where
  t5 : Int
  t6 : Int
  b0 : (List Int)
  b1_0 : Int
  b2_0 : Int
noncomputable def Wslices_DeleteFunc_int_int_0 (s : Sslices_DeleteFunc_int_int_0) : Tree (Sslices_DeleteFunc_int_int_0 ⊕ (Int × (List Int) × Int × Int)) :=
  .ite (decide (s.t6 < (s.b0.length : Int)))
    (.ite (decide (0 ≤ s.t6))
      (.ite (decide (s.t6 < (s.b0.length : Int)))
        (.opt Int (s.b0[(s.t6).toNat]?) fun y48 =>
          .opt Bool (tape_within_1 y48 s.b1_0 s.b2_0) fun r49 =>
            .ite (!r49)
              (.ite (decide (0 ≤ s.t5))
                (.ite (decide (s.t5 < (s.b0.length : Int)))
                  (.opt Int (s.b0[(s.t5).toNat]?) fun y50 =>
                    .leaf (.inl (Sslices_DeleteFunc_int_int_0.mk (IntKind.wrap .i64 (s.t5 + (1 : Int))) (IntKind.wrap .i64 (s.t6 + (1 : Int))) (s.b0.set ((s.t5).toNat) y48) s.b1_0 s.b2_0)))
                  .fail)
                .fail)
              (.leaf (.inl (Sslices_DeleteFunc_int_int_0.mk s.t5 (IntKind.wrap .i64 (s.t6 + (1 : Int))) s.b0 s.b1_0 s.b2_0))))
        .fail)
      .fail)
    (.leaf (.inr (s.t5, s.b0, s.b1_0, s.b2_0)))
noncomputable def Lslices_DeleteFunc_int_int_0 (q : Option Nat) (s : Sslices_DeleteFunc_int_int_0) : Option (Int × (List Int) × Int × Int) := limQ q (fun s => (Wslices_DeleteFunc_int_int_0 s).run) s
theorem leLslices_DeleteFunc_int_int_0 (k : Nat) (s : Sslices_DeleteFunc_int_int_0) : Le (Lslices_DeleteFunc_int_int_0 (some k) s) (Lslices_DeleteFunc_int_int_0 none s) := limQ_le (fun _ => Le.rfl) s
noncomputable def Tslices_DeleteFunc_int_int (q : Option Nat) (g0 : (List Int)) (g1 : Int) (g2 : Int) : Tree (((List Int) × Int × Int) ⊕ ((Nat × Nat) × (List Int) × Int × Int)) :=
  .opt (Int × (List Int) × Int × Int) (slices_IndexFunc_int_int q g0 g1 g2) fun r47 =>
    .ite (decide (r47.1 = (-1 : Int)))
      (.leaf (.inl (r47.2.1, r47.2.2.1, r47.2.2.2)))
      (.opt (Int × (List Int) × Int × Int) (Lslices_DeleteFunc_int_int_0 q (Sslices_DeleteFunc_int_int_0.mk r47.1 (IntKind.wrap .i64 (r47.1 + (1 : Int))) r47.2.1 r47.2.2.1 r47.2.2.2)) fun l51 =>
        .ite (decide (0 ≤ l51.1))
          (.ite (decide (l51.1 ≤ ((l51.2.1.length : Nat) : Int)))
            (.ite (decide (0 ≤ l51.1))
              (.ite (decide (l51.1 ≤ (((l51.2.1.take ((l51.1).toNat) ++ List.replicate (l51.2.1.length - (l51.1).toNat) (0 : Int) ++ l51.2.1.drop ((l51.1).toNat + (l51.2.1.length - (l51.1).toNat))).length : Nat) : Int)))
                (.leaf (.inr ((0, (l51.1).toNat - 0), l51.2.1.take ((l51.1).toNat) ++ List.replicate (l51.2.1.length - (l51.1).toNat) (0 : Int) ++ l51.2.1.drop ((l51.1).toNat + (l51.2.1.length - (l51.1).toNat)), l51.2.2.1, l51.2.2.2)))
                .fail)
              .fail)
            .fail)
          .fail)
noncomputable def slices_DeleteFunc_int_int (q : Option Nat) (g0 : (List Int)) (g1 : Int) (g2 : Int) : Option (((List Int) × Int × Int) ⊕ ((Nat × Nat) × (List Int) × Int × Int)) := (Tslices_DeleteFunc_int_int q g0 g1 g2).run
theorem leslices_DeleteFunc_int_int (k : Nat) (g0 : (List Int)) (g1 : Int) (g2 : Int) : Le (slices_DeleteFunc_int_int (some k) g0 g1 g2) (slices_DeleteFunc_int_int none g0 g1 g2) := (TLe.opt (leslices_IndexFunc_int_int k _ _ _) fun _ => (TLe.ite TLe.rfl (TLe.opt (leLslices_DeleteFunc_int_int_0 k _) fun _ => TLe.rfl)))
noncomputable def Aslices_DeleteFunc_int_int : Arg U (Unit) := aR 0 (aF 73 [(.ptr 1 0), (.ptr 2 0)] (aNil))
noncomputable def Gslices_DeleteFunc_int_int : Bls U ((List Int) × Int × Int × Unit) := bR 3 (bC (cInt .i64) (bC (cInt .i64) (bNil)))
noncomputable def Rslices_DeleteFunc_int_int (_x : Unit) (_g : (List Int) × Int × Int × Unit) (r : ((List Int) × Int × Int)) : List (V U) × List (Blk U) := ([vO (cK (.row 0 0) (cUnit)) (())], [.row 3 0 r.1, .cells ((cPair (cInt .i64) (cUnit) : Cdc U (Int × Unit)).enc (r.2.1, ())), .cells ((cPair (cInt .i64) (cUnit) : Cdc U (Int × Unit)).enc (r.2.2, ()))])
noncomputable def Rslices_DeleteFunc_int_intb (_x : Unit) (_g : (List Int) × Int × Int × Unit) (r : ((Nat × Nat) × (List Int) × Int × Int)) : List (V U) × List (Blk U) := ([vO (cPair (cOwn 0 0) (cUnit)) (r.1, ())], [.row 3 0 r.2.1, .cells ((cPair (cInt .i64) (cUnit) : Cdc U (Int × Unit)).enc (r.2.2.1, ())), .cells ((cPair (cInt .i64) (cUnit) : Cdc U (Int × Unit)).enc (r.2.2.2, ()))])
noncomputable def Sslices_DeleteFunc_int_int : List (V U) → List (Blk U) → Option (FnOut U) := mkSpecG2 Aslices_DeleteFunc_int_int Gslices_DeleteFunc_int_int (fun x g => slices_DeleteFunc_int_int none g.1 g.2.1 g.2.2.1) Rslices_DeleteFunc_int_int Rslices_DeleteFunc_int_intb
noncomputable def Pslices_DeleteFunc_int_int_0 (x : (Unit) × (Unit) × (Int × Unit) × (Int × Unit) × Unit) (g : (List Int) × (Int × Unit) × (Int × Unit) × Unit) : Sslices_DeleteFunc_int_int_0 := Sslices_DeleteFunc_int_int_0.mk x.2.2.1.1 x.2.2.2.1.1 g.1 g.2.1.1 g.2.2.1.1
noncomputable def tAslices_DeleteFunc_int_int_0 : Tms U ((Unit) × (Unit) × (Int × Unit) × (Int × Unit) × Unit) := tO 0 (cK (.row 0 0) (cUnit)) (tO 1 (cK2 (.fn 73 [] [(.ptr 1 0), (.ptr 2 0)]) (cUnit)) (tO 5 (cPair (cInt .i64) (cUnit)) (tO 6 (cPair (cInt .i64) (cUnit)) (tNil))))
noncomputable def tBslices_DeleteFunc_int_int_0 : Bls U ((List Int) × (Int × Unit) × (Int × Unit) × Unit) := bRv 3 0 (bC (cPair (cInt .i64) (cUnit)) (bC (cPair (cInt .i64) (cUnit)) (bNil)))
noncomputable def eSslices_DeleteFunc_int_int_0 (s : Sslices_DeleteFunc_int_int_0) : St U := { tm := [(0, .v (vO (cK (.row 0 0) (cUnit)) (()))), (1, .v (vO (cK2 (.fn 73 [] [(.ptr 1 0), (.ptr 2 0)]) (cUnit)) (()))), (5, .v (vO (cPair (cInt .i64) (cUnit)) (s.t5, ()))), (6, .v (vO (cPair (cInt .i64) (cUnit)) (s.t6, ())))], hp := [.row 3 0 s.b0, .cells ((cPair (cInt .i64) (cUnit) : Cdc U (Int × Unit)).enc (s.b1_0, ())), .cells ((cPair (cInt .i64) (cUnit) : Cdc U (Int × Unit)).enc (s.b2_0, ()))] }
noncomputable def xSslices_DeleteFunc_int_int_0 (r : (Int × (List Int) × Int × Int)) : Ex × St U := (.exit 0, { tm := [(0, .v (vO (cK (.row 0 0) (cUnit)) (()))), (5, .v (vO (cPair (cInt .i64) (cUnit)) (r.1, ())))], hp := [.row 3 0 r.2.1, .cells ((cPair (cInt .i64) (cUnit) : Cdc U (Int × Unit)).enc (r.2.2.1, ())), .cells ((cPair (cInt .i64) (cUnit) : Cdc U (Int × Unit)).enc (r.2.2.2, ()))] })
noncomputable def xTslices_DeleteFunc_int_int_0 (r : (Int × (List Int) × Int × Int)) : Tree (Ex × St U) := .leaf (xSslices_DeleteFunc_int_int_0 r)
noncomputable def hslices_DeleteFunc_int_int_0 : Hd := { keep := [0, 1, 5, 6], xkeep := [0, 4, 5], own := false }
noncomputable def Eslices_DeleteFunc_int_int : Env U := { P := Try.prog, cd := cd, fns := (addF 73 false (Stape_within_1) (addF 72 false (Sslices_IndexFunc_int_int) fns60)), lps := (addL 0 hslices_DeleteFunc_int_int_0 (mkLoop tAslices_DeleteFunc_int_int_0 tBslices_DeleteFunc_int_int_0 Pslices_DeleteFunc_int_int_0 (Lslices_DeleteFunc_int_int_0 none) xTslices_DeleteFunc_int_int_0) noL), frz := fun _r => false, nt := 42, n0 := 3 }
noncomputable def Bslices_DeleteFunc_int_int_0 : Code := (loopAt (Try.f61.body.getD .skip) 0 0).getD .skip
theorem roundslices_DeleteFunc_int_int_0 (s : Sslices_DeleteFunc_int_int_0) : round Eslices_DeleteFunc_int_int hslices_DeleteFunc_int_int_0 Bslices_DeleteFunc_int_int_0 0 (eSslices_DeleteFunc_int_int_0 s) = (Wslices_DeleteFunc_int_int_0 s).map (sumE eSslices_DeleteFunc_int_int_0 xSslices_DeleteFunc_int_int_0) := by kernel_rfl
theorem lpslices_DeleteFunc_int_int_0 : LpOk Eslices_DeleteFunc_int_int Bslices_DeleteFunc_int_int_0 0 := mkLoop_ok (A := tAslices_DeleteFunc_int_int_0) (B := tBslices_DeleteFunc_int_int_0) (f := Pslices_DeleteFunc_int_int_0) (L := Lslices_DeleteFunc_int_int_0 none) (tO_ok (cK_ok cUnit_ok) (tO_ok (cK2_ok cUnit_ok) (tO_ok (cPair_ok (cInt_ok .i64) cUnit_ok) (tO_ok (cPair_ok (cInt_ok .i64) cUnit_ok) tNil_ok)))) (bRv_ok (bC_ok (cPair_ok (cInt_ok .i64) cUnit_ok) (bC_ok (cPair_ok (cInt_ok .i64) cUnit_ok) bNil_ok))) (enc := eSslices_DeleteFunc_int_int_0) (out := xTslices_DeleteFunc_int_int_0) (outS := xSslices_DeleteFunc_int_int_0) (step := Wslices_DeleteFunc_int_int_0) (fun _ => rfl) (fun _ _ => by kernel_rfl) (by kernel_rfl) (fun _ => rfl) roundslices_DeleteFunc_int_int_0
theorem rnslices_DeleteFunc_int_int (g0 : (List Int)) (g1 : Int) (g2 : Int) : execX false Eslices_DeleteFunc_int_int Try.f61 (Aslices_DeleteFunc_int_int.enc ()) (Gslices_DeleteFunc_int_int.enc (g0, g1, g2, ())) = (Tslices_DeleteFunc_int_int none g0 g1 g2).map ((Sum.elim (Rslices_DeleteFunc_int_int () (g0, g1, g2, ())) (Rslices_DeleteFunc_int_intb () (g0, g1, g2, ())))) := by kernel_rfl
theorem runslices_DeleteFunc_int_int : ∀ (x : Unit) (g : (List Int) × Int × Int × Unit), execX false Eslices_DeleteFunc_int_int Try.f61 (Aslices_DeleteFunc_int_int.enc x) (Gslices_DeleteFunc_int_int.enc g) = (Tslices_DeleteFunc_int_int none g.1 g.2.1 g.2.2.1).map ((Sum.elim (Rslices_DeleteFunc_int_int x g) (Rslices_DeleteFunc_int_intb x g)))
  | (), (g0, g1, g2, ()) => rnslices_DeleteFunc_int_int g0 g1 g2
theorem okslices_DeleteFunc_int_int : FnOk Try.prog cd 61 Sslices_DeleteFunc_int_int := mk_okG2 (E := Eslices_DeleteFunc_int_int) (A := Aslices_DeleteFunc_int_int) (B := Gslices_DeleteFunc_int_int) false cd_ok (addF_ok oktape_within_1 (addF_ok okslices_IndexFunc_int_int fns60_ok)) Try.func61 (by kernel_rfl) (loops_of (addL_ok lpslices_DeleteFunc_int_int_0 noL_ok)) (aR_ok (aF_ok (aNil_ok))) (bR_ok (bC_ok (cInt_ok .i64) (bC_ok (cInt_ok .i64) bNil_ok))) (T := fun (x : Unit) (g : (List Int) × Int × Int × Unit) => Tslices_DeleteFunc_int_int none g.1 g.2.1 g.2.2.1) (fun _ _ => rfl) runslices_DeleteFunc_int_int
/-- emulator/tape.fetch -/
noncomputable def Ttape_fetch (q : Option Nat) (x0 : Tape) (x1 : (List Int)) (x2 : (List Int)) : Tree (Tape × (List Int) × (List Int)) :=
  .opt ((List UInt8) × Tape × Bool) (tape_pass x0) fun r52 =>
    .ite (!r52.2.2)
      (.leaf ((r52.2.1, x1, x2)))
      (.ite (r52.2.1.error)
        (.ite (decide (0 ≤ (if (r52.1.length : Int) < r52.2.1.count then (r52.1.length : Int) else r52.2.1.count)))
          (.ite (decide ((if (r52.1.length : Int) < r52.2.1.count then (r52.1.length : Int) else r52.2.1.count) ≤ ((r52.1.length : Nat) : Int)))
            (.opt ((List Int) × Int) (memory_Store q x1 r52.2.1.addr ((r52.1.drop (0)).take (((if (r52.1.length : Int) < r52.2.1.count then (r52.1.length : Int) else r52.2.1.count)).toNat - 0))) fun r53 =>
              .ite (!decide (r53.2 = (0 : Int)))
                (.leaf ((Tape.mk r52.2.1.records r52.2.1.pos r52.2.1.enable r52.2.1.ready true r52.2.1.mark r52.2.1.end_ r52.2.1.command r52.2.1.count r52.2.1.addr r52.2.1.left, x1, x2)))
                (.opt (List Int) (cloneF 8 x2) fun r54 =>
                  .opt (Int × Int) (tape_within r52.2.1.addr (if (r52.1.length : Int) < r52.2.1.count then (r52.1.length : Int) else r52.2.1.count)) fun r55 =>
                    .opt (((List Int) × Int × Int) ⊕ ((Nat × Nat) × (List Int) × Int × Int)) (slices_DeleteFunc_int_int q r54 r55.1 r55.2) fun r56 =>
                      .ite (r56.isLeft)
                        (.opt ((List Int) × Int × Int) (r56.getLeft?) fun a57 =>
                          .leaf ((Tape.mk r52.2.1.records r52.2.1.pos r52.2.1.enable r52.2.1.ready true r52.2.1.mark r52.2.1.end_ r52.2.1.command (IntKind.wrap .i64 (r52.2.1.count - (if (r52.1.length : Int) < r52.2.1.count then (r52.1.length : Int) else r52.2.1.count))) r52.2.1.addr r52.2.1.left, r53.1, a57.1)))
                        (.opt ((Nat × Nat) × (List Int) × Int × Int) (r56.getRight?) fun b58 =>
                          .leaf ((Tape.mk r52.2.1.records r52.2.1.pos r52.2.1.enable r52.2.1.ready true r52.2.1.mark r52.2.1.end_ r52.2.1.command (IntKind.wrap .i64 (r52.2.1.count - (if (r52.1.length : Int) < r52.2.1.count then (r52.1.length : Int) else r52.2.1.count))) r52.2.1.addr r52.2.1.left, r53.1, (b58.2.1.drop (b58.1.1)).take (b58.1.2))))))
            .fail)
          .fail)
        (.ite (decide (0 ≤ (if (r52.1.length : Int) < r52.2.1.count then (r52.1.length : Int) else r52.2.1.count)))
          (.ite (decide ((if (r52.1.length : Int) < r52.2.1.count then (r52.1.length : Int) else r52.2.1.count) ≤ ((r52.1.length : Nat) : Int)))
            (.opt ((List Int) × Int) (memory_Store q x1 r52.2.1.addr ((r52.1.drop (0)).take (((if (r52.1.length : Int) < r52.2.1.count then (r52.1.length : Int) else r52.2.1.count)).toNat - 0))) fun r59 =>
              .ite (!decide (r59.2 = (0 : Int)))
                (.leaf ((Tape.mk r52.2.1.records r52.2.1.pos r52.2.1.enable r52.2.1.ready true r52.2.1.mark r52.2.1.end_ r52.2.1.command r52.2.1.count r52.2.1.addr r52.2.1.left, x1, x2)))
                (.opt (List Int) (cloneF 8 x2) fun r60 =>
                  .opt (Int × Int) (tape_within r52.2.1.addr (if (r52.1.length : Int) < r52.2.1.count then (r52.1.length : Int) else r52.2.1.count)) fun r61 =>
                    .opt (((List Int) × Int × Int) ⊕ ((Nat × Nat) × (List Int) × Int × Int)) (slices_DeleteFunc_int_int q r60 r61.1 r61.2) fun r62 =>
                      .ite (r62.isLeft)
                        (.opt ((List Int) × Int × Int) (r62.getLeft?) fun a63 =>
                          .leaf ((Tape.mk r52.2.1.records r52.2.1.pos r52.2.1.enable r52.2.1.ready (decide (r52.2.1.count < (r52.1.length : Int))) r52.2.1.mark r52.2.1.end_ r52.2.1.command (IntKind.wrap .i64 (r52.2.1.count - (if (r52.1.length : Int) < r52.2.1.count then (r52.1.length : Int) else r52.2.1.count))) r52.2.1.addr r52.2.1.left, r59.1, a63.1)))
                        (.opt ((Nat × Nat) × (List Int) × Int × Int) (r62.getRight?) fun b64 =>
                          .leaf ((Tape.mk r52.2.1.records r52.2.1.pos r52.2.1.enable r52.2.1.ready (decide (r52.2.1.count < (r52.1.length : Int))) r52.2.1.mark r52.2.1.end_ r52.2.1.command (IntKind.wrap .i64 (r52.2.1.count - (if (r52.1.length : Int) < r52.2.1.count then (r52.1.length : Int) else r52.2.1.count))) r52.2.1.addr r52.2.1.left, r59.1, (b64.2.1.drop (b64.1.1)).take (b64.1.2))))))
            .fail)
          .fail))
noncomputable def tape_fetch (q : Option Nat) (x0 : Tape) (x1 : (List Int)) (x2 : (List Int)) : Option (Tape × (List Int) × (List Int)) := (Ttape_fetch q x0 x1 x2).run
theorem letape_fetch (k : Nat) (x0 : Tape) (x1 : (List Int)) (x2 : (List Int)) : Le (tape_fetch (some k) x0 x1 x2) (tape_fetch none x0 x1 x2) := (TLe.opt Le.rfl fun _ => (TLe.ite TLe.rfl (TLe.ite (TLe.ite (TLe.ite (TLe.opt (lememory_Store k _ _ _) fun _ => (TLe.ite TLe.rfl (TLe.opt Le.rfl fun _ => (TLe.opt Le.rfl fun _ => (TLe.opt (leslices_DeleteFunc_int_int k _ _ _) fun _ => TLe.rfl))))) TLe.rfl) TLe.rfl) (TLe.ite (TLe.ite (TLe.opt (lememory_Store k _ _ _) fun _ => (TLe.ite TLe.rfl (TLe.opt Le.rfl fun _ => (TLe.opt Le.rfl fun _ => (TLe.opt (leslices_DeleteFunc_int_int k _ _ _) fun _ => TLe.rfl))))) TLe.rfl) TLe.rfl))))
noncomputable def Atape_fetch : Arg U (Tape × (List Int) × (List Int) × Unit) := aA cTape (aO (cSl 3) (aO (cSl 3) (aNil)))
noncomputable def Rtape_fetch (r : (Tape × (List Int) × (List Int))) : List (V U) × List (Blk U) := ([vA cTape r.1, vO (cSl 3) r.2.1, vO (cSl 3) r.2.2], [])
noncomputable def Stape_fetch : List (V U) → List (Blk U) → Option (FnOut U) := mkSpec Atape_fetch bNil (fun x _ => tape_fetch none x.1 x.2.1 x.2.2.1) Rtape_fetch
noncomputable def Etape_fetch : Env U := { P := Try.prog, cd := cd, fns := (addF 63 false (Stape_within) (addF 62 false (cloneSpec 3 8) (addF 61 false (Sslices_DeleteFunc_int_int) fns60))), lps := noL, frz := fun _r => false, nt := 70, n0 := 0, fps := fun _r _i => bif Nat.beq _r 11 && Nat.beq _i 0 then .rd [0] else bif Nat.beq _r 11 && Nat.beq _i 3 then .wr [] 2 else bif Nat.beq _r 11 && Nat.beq _i 4 then .rd [] else bif Nat.beq _r 11 && Nat.beq _i 5 then .rd [0] else bif Nat.beq _r 11 && Nat.beq _i 7 then .wr [] 3 else bif Nat.beq _r 11 && Nat.beq _i 8 then .wr [2, 3, 4] 5 else .none }
theorem runtape_fetch (x : Tape × (List Int) × (List Int) × Unit) (g : Unit) : execF Etape_fetch Try.f38 (Atape_fetch.enc x) (bNil.enc g) = (Ttape_fetch none x.1 x.2.1 x.2.2.1).map Rtape_fetch := by kernel_rfl
theorem oktape_fetch : FnOk Try.prog cd 38 Stape_fetch := mk_ok (E := Etape_fetch) cd_ok (addF_ok oktape_within (addF_ok okslices_Clone_int_int (addF_ok okslices_DeleteFunc_int_int fns60_ok))) Try.func38 (by kernel_rfl) (noLoops_body (by kernel_rfl)) (aA_ok cTape_ok (aO_ok (cSl_ok 3) (aO_ok (cSl_ok 3) (aNil_ok)))) bNil_ok (T := fun x _ => Ttape_fetch none x.1 x.2.1 x.2.2.1) (fun _ _ => rfl) runtape_fetch
noncomputable def fns38 := addF 38 true Stape_fetch fns60
theorem fns38_ok : ∀ f q t, fns38 f = some (q, t) → FnOk Try.prog cd f t := addF_ok oktape_fetch fns60_ok
/-- emulator/memory.Bytes -/
structure Smemory_Bytes_0 where
  t0 : (List Int)
  t1 : Int
  t19 : Int
  t20 : Int
  b0 : (List Int)
noncomputable def Wmemory_Bytes_0 (s : Smemory_Bytes_0) : Tree (Smemory_Bytes_0 ⊕ (List Int)) :=
  .ite (decide (s.t20 < s.t19))
    (.ite (decide ((2 : Int) = 0))
      .fail
      (.ite (decide (0 ≤ IntKind.wrap .i64 (((IntKind.wrap .i64 (s.t1 + s.t20))).tdiv (2 : Int))))
        (.opt Int (s.t0[(IntKind.wrap .i64 (((IntKind.wrap .i64 (s.t1 + s.t20))).tdiv (2 : Int))).toNat]?) fun y66 =>
          .ite (decide ((2 : Int) = 0))
            .fail
            (.ite (decide (0 ≤ (IntKind.wrap .i64 ((((IntKind.wrap .i64 (s.t1 + s.t20))).tmod (2 : Int)) * (8 : Int)))))
              (.ite (decide (0 ≤ s.t20))
                (.ite (decide (s.t20 < (s.b0.length : Int)))
                  (.opt Int (s.b0[(s.t20).toNat]?) fun y67 =>
                    .leaf (.inl (Smemory_Bytes_0.mk s.t0 s.t1 s.t19 (IntKind.wrap .i64 (s.t20 + (1 : Int))) (s.b0.set ((s.t20).toNat) (IntKind.wrap .u8 ((y66).fdiv (2 ^ (min ((IntKind.wrap .i64 ((((IntKind.wrap .i64 (s.t1 + s.t20))).tmod (2 : Int)) * (8 : Int)))).toNat 64))))))))
                  .fail)
                .fail)
              .fail))
        .fail))
    (.leaf (.inr s.b0))
noncomputable def Lmemory_Bytes_0 (q : Option Nat) (s : Smemory_Bytes_0) : Option (List Int) := limQ q (fun s => (Wmemory_Bytes_0 s).run) s
theorem leLmemory_Bytes_0 (k : Nat) (s : Smemory_Bytes_0) : Le (Lmemory_Bytes_0 (some k) s) (Lmemory_Bytes_0 none s) := limQ_le (fun _ => Le.rfl) s
noncomputable def Tmemory_Bytes (q : Option Nat) (x0 : (List Int)) (x1 : Int) (x2 : Int) : Tree ((List UInt8) × Int) :=
  .opt Bool (memory_within x0 x1 x2) fun r65 =>
    .ite (!r65)
      (.leaf (([], (2 : Int))))
      (.ite (decide (x2 = x2))
        (.ite (decide (0 ≤ x2))
          (.ite (decide ((1 : Int) * x2 ≤ 281474976710656))
            (.opt (List Int) (Lmemory_Bytes_0 q (Smemory_Bytes_0.mk x0 x1 ((List.replicate (x2).toNat (0 : Int)).length : Int) (0 : Int) (List.replicate (x2).toNat (0 : Int)))) fun l68 =>
              .leaf ((l68.map fun x => UInt8.ofNat x.toNat, (0 : Int))))
            .fail)
          .fail)
        .fail)
noncomputable def memory_Bytes (q : Option Nat) (x0 : (List Int)) (x1 : Int) (x2 : Int) : Option ((List UInt8) × Int) := (Tmemory_Bytes q x0 x1 x2).run
theorem lememory_Bytes (k : Nat) (x0 : (List Int)) (x1 : Int) (x2 : Int) : Le (memory_Bytes (some k) x0 x1 x2) (memory_Bytes none x0 x1 x2) := (TLe.opt Le.rfl fun _ => (TLe.ite TLe.rfl (TLe.ite (TLe.ite (TLe.ite (TLe.opt (leLmemory_Bytes_0 k _) fun _ => TLe.rfl) TLe.rfl) TLe.rfl) TLe.rfl)))
noncomputable def Amemory_Bytes : Arg U ((List Int) × Int × Int × Unit) := aO (cSl 3) (aO (cInt .i64) (aO (cInt .i64) (aNil)))
noncomputable def Rmemory_Bytes (r : ((List UInt8) × Int)) : List (V U) × List (Blk U) := ([vO cStr r.1, vO (cInt .i64) r.2], [])
noncomputable def Smemory_Bytes : List (V U) → List (Blk U) → Option (FnOut U) := mkSpec Amemory_Bytes bNil (fun x _ => memory_Bytes none x.1 x.2.1 x.2.2.1) Rmemory_Bytes
noncomputable def Pmemory_Bytes_0 (x : ((List Int) × Unit) × (Int × Unit) × (Unit) × (Int × Unit) × (Int × Unit) × Unit) (g : (List Int) × Unit) : Smemory_Bytes_0 := Smemory_Bytes_0.mk x.1.1 x.2.1.1 x.2.2.2.1.1 x.2.2.2.2.1.1 g.1
noncomputable def tAmemory_Bytes_0 : Tms U (((List Int) × Unit) × (Int × Unit) × (Unit) × (Int × Unit) × (Int × Unit) × Unit) := tO 0 (cPair (cSl 3) (cUnit)) (tO 1 (cPair (cInt .i64) (cUnit)) (tO 8 (cK (.row 0 0) (cUnit)) (tO 19 (cPair (cInt .i64) (cUnit)) (tO 20 (cPair (cInt .i64) (cUnit)) (tNil)))))
noncomputable def tBmemory_Bytes_0 : Bls U ((List Int) × Unit) := bRv 5 0 (bNil)
noncomputable def eSmemory_Bytes_0 (s : Smemory_Bytes_0) : St U := { tm := [(0, .v (vO (cPair (cSl 3) (cUnit)) (s.t0, ()))), (1, .v (vO (cPair (cInt .i64) (cUnit)) (s.t1, ()))), (8, .v (vO (cK (.row 0 0) (cUnit)) (()))), (19, .v (vO (cPair (cInt .i64) (cUnit)) (s.t19, ()))), (20, .v (vO (cPair (cInt .i64) (cUnit)) (s.t20, ())))], hp := [.row 5 0 s.b0] }
noncomputable def xSmemory_Bytes_0 (r : (List Int)) : Ex × St U := (.exit 0, { tm := [(8, .v (vO (cK (.row 0 0) (cUnit)) (())))], hp := [.row 5 0 r] })
noncomputable def xTmemory_Bytes_0 (r : (List Int)) : Tree (Ex × St U) := .leaf (xSmemory_Bytes_0 r)
noncomputable def hmemory_Bytes_0 : Hd := { keep := [0, 1, 8, 19, 20], xkeep := [6, 7, 8], own := false }
noncomputable def Ememory_Bytes : Env U := { P := Try.prog, cd := cd, fns := fns38, lps := (addL 0 hmemory_Bytes_0 (mkLoop tAmemory_Bytes_0 tBmemory_Bytes_0 Pmemory_Bytes_0 (Lmemory_Bytes_0 none) xTmemory_Bytes_0) noL), frz := fun _r => false, nt := 42, n0 := 0 }
noncomputable def Bmemory_Bytes_0 : Code := (loopAt (Try.f15.body.getD .skip) 0 0).getD .skip
theorem roundmemory_Bytes_0 (s : Smemory_Bytes_0) : round Ememory_Bytes hmemory_Bytes_0 Bmemory_Bytes_0 0 (eSmemory_Bytes_0 s) = (Wmemory_Bytes_0 s).map (sumE eSmemory_Bytes_0 xSmemory_Bytes_0) := by kernel_rfl
theorem lpmemory_Bytes_0 : LpOk Ememory_Bytes Bmemory_Bytes_0 0 := mkLoop_ok (A := tAmemory_Bytes_0) (B := tBmemory_Bytes_0) (f := Pmemory_Bytes_0) (L := Lmemory_Bytes_0 none) (tO_ok (cPair_ok (cSl_ok 3) cUnit_ok) (tO_ok (cPair_ok (cInt_ok .i64) cUnit_ok) (tO_ok (cK_ok cUnit_ok) (tO_ok (cPair_ok (cInt_ok .i64) cUnit_ok) (tO_ok (cPair_ok (cInt_ok .i64) cUnit_ok) tNil_ok))))) (bRv_ok bNil_ok) (enc := eSmemory_Bytes_0) (out := xTmemory_Bytes_0) (outS := xSmemory_Bytes_0) (step := Wmemory_Bytes_0) (fun _ => rfl) (fun _ _ => by kernel_rfl) (by kernel_rfl) (fun _ => rfl) roundmemory_Bytes_0
theorem runmemory_Bytes (x : (List Int) × Int × Int × Unit) (g : Unit) : execF Ememory_Bytes Try.f15 (Amemory_Bytes.enc x) (bNil.enc g) = (Tmemory_Bytes none x.1 x.2.1 x.2.2.1).map Rmemory_Bytes := by kernel_rfl
theorem okmemory_Bytes : FnOk Try.prog cd 15 Smemory_Bytes := mk_ok (E := Ememory_Bytes) cd_ok fns38_ok Try.func15 (by kernel_rfl) (loops_of (addL_ok lpmemory_Bytes_0 noL_ok)) (aO_ok (cSl_ok 3) (aO_ok (cInt_ok .i64) (aO_ok (cInt_ok .i64) (aNil_ok)))) bNil_ok (T := fun x _ => Tmemory_Bytes none x.1 x.2.1 x.2.2.1) (fun _ _ => rfl) runmemory_Bytes
noncomputable def fns15 := addF 15 true Smemory_Bytes fns38
theorem fns15_ok : ∀ f q t, fns15 f = some (q, t) → FnOk Try.prog cd f t := addF_ok okmemory_Bytes fns38_ok
end Go.Proofs.Ytjhibcebipjbcaa
namespace Go.Proofs
shelf_lay_g SlLaysE0.n41 Slgn 41 at Try 51 as Try.lays51
end Go.Proofs
namespace Go.Proofs.Ytjhibcebipjbcaa
open Go Go.Ab
theorem okslices_Clone_string_string : FnOk Try.prog cd 51 (cloneSpec 9 16) := clone_ok2 cd_ok Try.lays51 Try.func51 (by kernel_rfl) (by kernel_rfl) rfl rfl (by kernel_rfl)
/-- emulator/tape.added -/
noncomputable def Ttape_added (x0 : Tape) (x1 : (List UInt8)) : Tree Tape :=
  .ite (decide (x0.pos = (64 : Int)))
    (.leaf (Tape.mk x0.records x0.pos x0.enable x0.ready true x0.mark true x0.command x0.count x0.addr x0.left))
    (.ite (decide (0 ≤ x0.pos))
      (.ite (decide (x0.pos ≤ ((x0.records.length : Nat) : Int)))
        (.opt (List (List UInt8)) (cloneF 16 ((x0.records.drop (0)).take ((x0.pos).toNat - 0))) fun r70 =>
          .ite (decide ((r70.length + ([x1]).length) * 16 ≤ 140737488355328))
            (.leaf (Tape.mk (r70 ++ ([x1])) (IntKind.wrap .i64 (x0.pos + (1 : Int))) x0.enable x0.ready x0.error x0.mark x0.end_ x0.command x0.count x0.addr x0.left))
            .fail)
        .fail)
      .fail)
noncomputable def tape_added (x0 : Tape) (x1 : (List UInt8)) : Option Tape := (Ttape_added x0 x1).run
noncomputable def Atape_added : Arg U (Tape × (List UInt8) × Unit) := aA cTape (aO cStr (aNil))
noncomputable def Rtape_added (r : Tape) : List (V U) × List (Blk U) := ([vA cTape r], [])
noncomputable def Stape_added : List (V U) → List (Blk U) → Option (FnOut U) := mkSpec Atape_added bNil (fun x _ => tape_added x.1 x.2.1) Rtape_added
noncomputable def Etape_added : Env U := { P := Try.prog, cd := cd, fns := (addF 51 false (cloneSpec 9 16) fns15), lps := noL, frz := fun _r => false, nt := 26, n0 := 0 }
theorem runtape_added (x : Tape × (List UInt8) × Unit) (g : Unit) : execF Etape_added Try.f41 (Atape_added.enc x) (bNil.enc g) = (Ttape_added x.1 x.2.1).map Rtape_added := by kernel_rfl
theorem oktape_added : FnOk Try.prog cd 41 Stape_added := mk_ok (E := Etape_added) cd_ok (addF_ok okslices_Clone_string_string fns15_ok) Try.func41 (by kernel_rfl) (noLoops_body (by kernel_rfl)) (aA_ok cTape_ok (aO_ok cStr_ok (aNil_ok))) bNil_ok (T := fun x _ => Ttape_added x.1 x.2.1) (fun _ _ => rfl) runtape_added
noncomputable def fns41 := addF 41 true Stape_added fns15
theorem fns41_ok : ∀ f q t, fns41 f = some (q, t) → FnOk Try.prog cd f t := addF_ok oktape_added fns15_ok
/-- emulator/tape.long -/
noncomputable def Ttape_long (x0 : (List UInt8)) : Tree Bool :=
  .leaf (decide ((512 : Int) < (x0.length : Int)))
noncomputable def tape_long (x0 : (List UInt8)) : Option Bool := (Ttape_long x0).run
noncomputable def Atape_long : Arg U ((List UInt8) × Unit) := aO cStr (aNil)
noncomputable def Rtape_long (r : Bool) : List (V U) × List (Blk U) := ([vO cBool r], [])
noncomputable def Stape_long : List (V U) → List (Blk U) → Option (FnOut U) := mkSpec Atape_long bNil (fun x _ => tape_long x.1) Rtape_long
noncomputable def Etape_long : Env U := { P := Try.prog, cd := cd, fns := fns41, lps := noL, frz := fun _r => false, nt := 6, n0 := 0 }
theorem runtape_long (x : (List UInt8) × Unit) (g : Unit) : execF Etape_long Try.f50 (Atape_long.enc x) (bNil.enc g) = (Ttape_long x.1).map Rtape_long := by kernel_rfl
theorem oktape_long : FnOk Try.prog cd 50 Stape_long := mk_ok (E := Etape_long) cd_ok fns41_ok Try.func50 (by kernel_rfl) (noLoops_body (by kernel_rfl)) (aO_ok cStr_ok (aNil_ok)) bNil_ok (T := fun x _ => Ttape_long x.1) (fun _ _ => rfl) runtape_long
noncomputable def fns50 := addF 50 true Stape_long fns41
theorem fns50_ok : ∀ f q t, fns50 f = some (q, t) → FnOk Try.prog cd f t := addF_ok oktape_long fns41_ok
/-- internal/stringslite.Clone -/
noncomputable def internal_stringslite_Clone (x0 : (List UInt8)) : Option (List UInt8) := strCloneF x0
noncomputable def Sinternal_stringslite_Clone : List (V U) → List (Blk U) → Option (FnOut U) := mkSpec (aO cStr aNil : Arg U (List UInt8 × Unit)) bNil (fun x _ => internal_stringslite_Clone x.1) fun r => ([vO cStr r], [])
end Go.Proofs.Ytjhibcebipjbcaa
namespace Go.Proofs
shelf_lay LaysPu.n25 Mp 25 at Try as Try.lays74
end Go.Proofs
namespace Go.Proofs.Ytjhibcebipjbcaa
open Go Go.Ab
theorem okinternal_stringslite_Clone : FnOk Try.prog cd 74 Sinternal_stringslite_Clone := strClone_ok Try.lays74 Try.func74 (by kernel_rfl) (by kernel_rfl) rfl
noncomputable def fns74 := addF 74 true Sinternal_stringslite_Clone fns50
theorem fns74_ok : ∀ f q t, fns74 f = some (q, t) → FnOk Try.prog cd f t := addF_ok okinternal_stringslite_Clone fns50_ok
/-- strings.Clone -/
noncomputable def Tstrings_Clone (x0 : (List UInt8)) : Tree (List UInt8) :=
  .opt (List UInt8) (internal_stringslite_Clone x0) fun r71 =>
    .leaf (r71)
noncomputable def strings_Clone (x0 : (List UInt8)) : Option (List UInt8) := (Tstrings_Clone x0).run
noncomputable def Astrings_Clone : Arg U ((List UInt8) × Unit) := aO cStr (aNil)
noncomputable def Rstrings_Clone (r : (List UInt8)) : List (V U) × List (Blk U) := ([vO cStr r], [])
noncomputable def Sstrings_Clone : List (V U) → List (Blk U) → Option (FnOut U) := mkSpec Astrings_Clone bNil (fun x _ => strings_Clone x.1) Rstrings_Clone
noncomputable def Estrings_Clone : Env U := { P := Try.prog, cd := cd, fns := fns74, lps := noL, frz := fun _r => false, nt := 5, n0 := 0 }
theorem runstrings_Clone (x : (List UInt8) × Unit) (g : Unit) : execF Estrings_Clone Try.f65 (Astrings_Clone.enc x) (bNil.enc g) = (Tstrings_Clone x.1).map Rstrings_Clone := by kernel_rfl
theorem okstrings_Clone : FnOk Try.prog cd 65 Sstrings_Clone := mk_ok (E := Estrings_Clone) cd_ok fns74_ok Try.func65 (by kernel_rfl) (noLoops_body (by kernel_rfl)) (aO_ok cStr_ok (aNil_ok)) bNil_ok (T := fun x _ => Tstrings_Clone x.1) (fun _ _ => rfl) runstrings_Clone
noncomputable def fns65 := addF 65 true Sstrings_Clone fns74
theorem fns65_ok : ∀ f q t, fns65 f = some (q, t) → FnOk Try.prog cd f t := addF_ok okstrings_Clone fns74_ok
/-- slices.IndexFunc[[]int,int] -/
structure Sslices_IndexFunc_int_int_V2_0 where
  t0 : (List Int)
  t7 : Int
  t8 : Int
  b0_0 : Int
  b1_0 : Int
noncomputable def Wslices_IndexFunc_int_int_V2_0 (s : Sslices_IndexFunc_int_int_V2_0) : Tree (Sslices_IndexFunc_int_int_V2_0 ⊕ ((Int × Int × Int) ⊕ (Int × Int))) :=
  .ite (decide (s.t8 < s.t7))
    (.ite (decide (0 ≤ s.t8))
      (.opt Int (s.t0[(s.t8).toNat]?) fun y75 =>
        .opt Bool (tape_within_1 y75 s.b0_0 s.b1_0) fun r76 =>
          .ite (r76)
            (.leaf (.inr (.inl (s.t8, s.b0_0, s.b1_0))))
            (.leaf (.inl (Sslices_IndexFunc_int_int_V2_0.mk s.t0 s.t7 (IntKind.wrap .i64 (s.t8 + (1 : Int))) s.b0_0 s.b1_0))))
      .fail)
    (.leaf (.inr (.inr (s.b0_0, s.b1_0))))
noncomputable def Lslices_IndexFunc_int_int_V2_0 (q : Option Nat) (s : Sslices_IndexFunc_int_int_V2_0) : Option ((Int × Int × Int) ⊕ (Int × Int)) := limQ q (fun s => (Wslices_IndexFunc_int_int_V2_0 s).run) s
theorem leLslices_IndexFunc_int_int_V2_0 (k : Nat) (s : Sslices_IndexFunc_int_int_V2_0) : Le (Lslices_IndexFunc_int_int_V2_0 (some k) s) (Lslices_IndexFunc_int_int_V2_0 none s) := limQ_le (fun _ => Le.rfl) s
noncomputable def Tslices_IndexFunc_int_int_V2 (q : Option Nat) (x0 : (List Int)) (g0 : Int) (g1 : Int) : Tree (Int × Int × Int) :=
  .opt ((Int × Int × Int) ⊕ (Int × Int)) (Lslices_IndexFunc_int_int_V2_0 q (Sslices_IndexFunc_int_int_V2_0.mk x0 (x0.length : Int) (0 : Int) g0 g1)) fun l77 =>
    .ite (l77.isLeft)
      (.opt (Int × Int × Int) (l77.getLeft?) fun a78 =>
        .leaf ((a78.1, a78.2.1, a78.2.2)))
      (.opt (Int × Int) (l77.getRight?) fun b79 =>
        .leaf (((-1 : Int), b79.1, b79.2)))
noncomputable def slices_IndexFunc_int_int_V2 (q : Option Nat) (x0 : (List Int)) (g0 : Int) (g1 : Int) : Option (Int × Int × Int) := (Tslices_IndexFunc_int_int_V2 q x0 g0 g1).run
theorem leslices_IndexFunc_int_int_V2 (k : Nat) (x0 : (List Int)) (g0 : Int) (g1 : Int) : Le (slices_IndexFunc_int_int_V2 (some k) x0 g0 g1) (slices_IndexFunc_int_int_V2 none x0 g0 g1) := (TLe.opt (leLslices_IndexFunc_int_int_V2_0 k _) fun _ => TLe.rfl)
noncomputable def Aslices_IndexFunc_int_int_V2 : Arg U ((List Int) × Unit) := aO (cSl 3) (aF 73 [(.ptr 0 0), (.ptr 1 0)] (aNil))
noncomputable def Gslices_IndexFunc_int_int_V2 : Bls U (Int × Int × Unit) := bC (cInt .i64) (bC (cInt .i64) (bNil))
noncomputable def Rslices_IndexFunc_int_int_V2 (_x : (List Int) × Unit) (_g : Int × Int × Unit) (r : (Int × Int × Int)) : List (V U) × List (Blk U) := ([vO (cPair (cInt .i64) (cUnit)) (r.1, ())], [.cells ((cPair (cInt .i64) (cUnit) : Cdc U (Int × Unit)).enc (r.2.1, ())), .cells ((cPair (cInt .i64) (cUnit) : Cdc U (Int × Unit)).enc (r.2.2, ()))])
noncomputable def Sslices_IndexFunc_int_int_V2 : List (V U) → List (Blk U) → Option (FnOut U) := mkSpecG Aslices_IndexFunc_int_int_V2 Gslices_IndexFunc_int_int_V2 (fun x g => slices_IndexFunc_int_int_V2 none x.1 g.1 g.2.1) Rslices_IndexFunc_int_int_V2
noncomputable def Pslices_IndexFunc_int_int_V2_0 (x : ((List Int) × Unit) × (Unit) × (Int × Unit) × (Int × Unit) × Unit) (g : (Int × Unit) × (Int × Unit) × Unit) : Sslices_IndexFunc_int_int_V2_0 := Sslices_IndexFunc_int_int_V2_0.mk x.1.1 x.2.2.1.1 x.2.2.2.1.1 g.1.1 g.2.1.1
noncomputable def tAslices_IndexFunc_int_int_V2_0 : Tms U (((List Int) × Unit) × (Unit) × (Int × Unit) × (Int × Unit) × Unit) := tO 0 (cPair (cSl 3) (cUnit)) (tO 1 (cK2 (.fn 73 [] [(.ptr 0 0), (.ptr 1 0)]) (cUnit)) (tO 7 (cPair (cInt .i64) (cUnit)) (tO 8 (cPair (cInt .i64) (cUnit)) (tNil))))
noncomputable def tBslices_IndexFunc_int_int_V2_0 : Bls U ((Int × Unit) × (Int × Unit) × Unit) := bC (cPair (cInt .i64) (cUnit)) (bC (cPair (cInt .i64) (cUnit)) (bNil))
noncomputable def eSslices_IndexFunc_int_int_V2_0 (s : Sslices_IndexFunc_int_int_V2_0) : St U := { tm := [(0, .v (vO (cPair (cSl 3) (cUnit)) (s.t0, ()))), (1, .v (vO (cK2 (.fn 73 [] [(.ptr 0 0), (.ptr 1 0)]) (cUnit)) (()))), (7, .v (vO (cPair (cInt .i64) (cUnit)) (s.t7, ()))), (8, .v (vO (cPair (cInt .i64) (cUnit)) (s.t8, ())))], hp := [.cells ((cPair (cInt .i64) (cUnit) : Cdc U (Int × Unit)).enc (s.b0_0, ())), .cells ((cPair (cInt .i64) (cUnit) : Cdc U (Int × Unit)).enc (s.b1_0, ()))] }
noncomputable def xSslices_IndexFunc_int_int_V2_0 : ((Int × Int × Int) ⊕ (Int × Int)) → Ex × St U
  | .inl r => (.ret, { tm := [(4, .v (vO (cPair (cInt .i64) (cUnit)) (r.1, ())))], hp := [.cells ((cPair (cInt .i64) (cUnit) : Cdc U (Int × Unit)).enc (r.2.1, ())), .cells ((cPair (cInt .i64) (cUnit) : Cdc U (Int × Unit)).enc (r.2.2, ()))] })
  | .inr r => (.exit 0, { tm := [], hp := [.cells ((cPair (cInt .i64) (cUnit) : Cdc U (Int × Unit)).enc (r.1, ())), .cells ((cPair (cInt .i64) (cUnit) : Cdc U (Int × Unit)).enc (r.2, ()))] })
noncomputable def xTslices_IndexFunc_int_int_V2_0 (y : ((Int × Int × Int) ⊕ (Int × Int))) : Tree (Ex × St U) := .ite y.isLeft (.opt (Int × Int × Int) y.getLeft? fun r => .leaf (.ret, { tm := [(4, .v (vO (cPair (cInt .i64) (cUnit)) (r.1, ())))], hp := [.cells ((cPair (cInt .i64) (cUnit) : Cdc U (Int × Unit)).enc (r.2.1, ())), .cells ((cPair (cInt .i64) (cUnit) : Cdc U (Int × Unit)).enc (r.2.2, ()))] })) (.opt (Int × Int) y.getRight? fun r => .leaf (.exit 0, { tm := [], hp := [.cells ((cPair (cInt .i64) (cUnit) : Cdc U (Int × Unit)).enc (r.1, ())), .cells ((cPair (cInt .i64) (cUnit) : Cdc U (Int × Unit)).enc (r.2, ()))] }))
noncomputable def hslices_IndexFunc_int_int_V2_0 : Hd := { keep := [0, 1, 7, 8], xkeep := [4], own := false }
noncomputable def Eslices_IndexFunc_int_int_V2 : Env U := { P := Try.prog, cd := cd, fns := (addF 73 false (Stape_within_1) fns65), lps := (addL 0 hslices_IndexFunc_int_int_V2_0 (mkLoop tAslices_IndexFunc_int_int_V2_0 tBslices_IndexFunc_int_int_V2_0 Pslices_IndexFunc_int_int_V2_0 (Lslices_IndexFunc_int_int_V2_0 none) xTslices_IndexFunc_int_int_V2_0) noL), frz := fun _r => false, nt := 19, n0 := 2 }
noncomputable def Bslices_IndexFunc_int_int_V2_0 : Code := (loopAt (Try.f72.body.getD .skip) 0 0).getD .skip
theorem roundslices_IndexFunc_int_int_V2_0 (s : Sslices_IndexFunc_int_int_V2_0) : round Eslices_IndexFunc_int_int_V2 hslices_IndexFunc_int_int_V2_0 Bslices_IndexFunc_int_int_V2_0 0 (eSslices_IndexFunc_int_int_V2_0 s) = (Wslices_IndexFunc_int_int_V2_0 s).map (sumE eSslices_IndexFunc_int_int_V2_0 xSslices_IndexFunc_int_int_V2_0) := by kernel_rfl
theorem lpslices_IndexFunc_int_int_V2_0 : LpOk Eslices_IndexFunc_int_int_V2 Bslices_IndexFunc_int_int_V2_0 0 := mkLoop_ok (A := tAslices_IndexFunc_int_int_V2_0) (B := tBslices_IndexFunc_int_int_V2_0) (f := Pslices_IndexFunc_int_int_V2_0) (L := Lslices_IndexFunc_int_int_V2_0 none) (tO_ok (cPair_ok (cSl_ok 3) cUnit_ok) (tO_ok (cK2_ok cUnit_ok) (tO_ok (cPair_ok (cInt_ok .i64) cUnit_ok) (tO_ok (cPair_ok (cInt_ok .i64) cUnit_ok) tNil_ok)))) (bC_ok (cPair_ok (cInt_ok .i64) cUnit_ok) (bC_ok (cPair_ok (cInt_ok .i64) cUnit_ok) bNil_ok)) (enc := eSslices_IndexFunc_int_int_V2_0) (out := xTslices_IndexFunc_int_int_V2_0) (outS := xSslices_IndexFunc_int_int_V2_0) (step := Wslices_IndexFunc_int_int_V2_0) (fun _ => rfl) (fun _ _ => by kernel_rfl) (by kernel_rfl) (fun b => by cases b <;> rfl) roundslices_IndexFunc_int_int_V2_0
theorem rnslices_IndexFunc_int_int_V2 (x0 : (List Int)) (g0 : Int) (g1 : Int) : execX false Eslices_IndexFunc_int_int_V2 Try.f72 (Aslices_IndexFunc_int_int_V2.enc (x0, ())) (Gslices_IndexFunc_int_int_V2.enc (g0, g1, ())) = (Tslices_IndexFunc_int_int_V2 none x0 g0 g1).map (Rslices_IndexFunc_int_int_V2 (x0, ()) (g0, g1, ())) := by kernel_rfl
theorem runslices_IndexFunc_int_int_V2 : ∀ (x : (List Int) × Unit) (g : Int × Int × Unit), execX false Eslices_IndexFunc_int_int_V2 Try.f72 (Aslices_IndexFunc_int_int_V2.enc x) (Gslices_IndexFunc_int_int_V2.enc g) = (Tslices_IndexFunc_int_int_V2 none x.1 g.1 g.2.1).map (Rslices_IndexFunc_int_int_V2 x g)
  | (x0, ()), (g0, g1, ()) => rnslices_IndexFunc_int_int_V2 x0 g0 g1
theorem okslices_IndexFunc_int_int_V2 : FnOk Try.prog cd 72 Sslices_IndexFunc_int_int_V2 := mk_okG (E := Eslices_IndexFunc_int_int_V2) (A := Aslices_IndexFunc_int_int_V2) (B := Gslices_IndexFunc_int_int_V2) false cd_ok (addF_ok oktape_within_1 fns65_ok) Try.func72 (by kernel_rfl) (loops_of (addL_ok lpslices_IndexFunc_int_int_V2_0 noL_ok)) (aO_ok (cSl_ok 3) (aF_ok (aNil_ok))) (bC_ok (cInt_ok .i64) (bC_ok (cInt_ok .i64) bNil_ok)) (T := fun (x : (List Int) × Unit) (g : Int × Int × Unit) => Tslices_IndexFunc_int_int_V2 none x.1 g.1 g.2.1) (fun _ _ => rfl) runslices_IndexFunc_int_int_V2
/-- slices.ContainsFunc[[]int,int] -/
noncomputable def Tslices_ContainsFunc_int_int (q : Option Nat) (x0 : (List Int)) (g0 : Int) (g1 : Int) : Tree (Bool × Int × Int) :=
  .opt (Int × Int × Int) (slices_IndexFunc_int_int_V2 q x0 g0 g1) fun r80 =>
    .leaf ((decide ((0 : Int) ≤ r80.1), r80.2.1, r80.2.2))
noncomputable def slices_ContainsFunc_int_int (q : Option Nat) (x0 : (List Int)) (g0 : Int) (g1 : Int) : Option (Bool × Int × Int) := (Tslices_ContainsFunc_int_int q x0 g0 g1).run
theorem leslices_ContainsFunc_int_int (k : Nat) (x0 : (List Int)) (g0 : Int) (g1 : Int) : Le (slices_ContainsFunc_int_int (some k) x0 g0 g1) (slices_ContainsFunc_int_int none x0 g0 g1) := (TLe.opt (leslices_IndexFunc_int_int_V2 k _ _ _) fun _ => TLe.rfl)
noncomputable def Aslices_ContainsFunc_int_int : Arg U ((List Int) × Unit) := aO (cSl 3) (aF 73 [(.ptr 0 0), (.ptr 1 0)] (aNil))
noncomputable def Gslices_ContainsFunc_int_int : Bls U (Int × Int × Unit) := bC (cInt .i64) (bC (cInt .i64) (bNil))
noncomputable def Rslices_ContainsFunc_int_int (_x : (List Int) × Unit) (_g : Int × Int × Unit) (r : (Bool × Int × Int)) : List (V U) × List (Blk U) := ([vO (cPair cBool (cUnit)) (r.1, ())], [.cells ((cPair (cInt .i64) (cUnit) : Cdc U (Int × Unit)).enc (r.2.1, ())), .cells ((cPair (cInt .i64) (cUnit) : Cdc U (Int × Unit)).enc (r.2.2, ()))])
noncomputable def Sslices_ContainsFunc_int_int : List (V U) → List (Blk U) → Option (FnOut U) := mkSpecG Aslices_ContainsFunc_int_int Gslices_ContainsFunc_int_int (fun x g => slices_ContainsFunc_int_int none x.1 g.1 g.2.1) Rslices_ContainsFunc_int_int
noncomputable def Eslices_ContainsFunc_int_int : Env U := { P := Try.prog, cd := cd, fns := (addF 72 false (Sslices_IndexFunc_int_int_V2) fns65), lps := noL, frz := fun _r => false, nt := 9, n0 := 2 }
theorem rnslices_ContainsFunc_int_int (x0 : (List Int)) (g0 : Int) (g1 : Int) : execX false Eslices_ContainsFunc_int_int Try.f64 (Aslices_ContainsFunc_int_int.enc (x0, ())) (Gslices_ContainsFunc_int_int.enc (g0, g1, ())) = (Tslices_ContainsFunc_int_int none x0 g0 g1).map (Rslices_ContainsFunc_int_int (x0, ()) (g0, g1, ())) := by kernel_rfl
theorem runslices_ContainsFunc_int_int : ∀ (x : (List Int) × Unit) (g : Int × Int × Unit), execX false Eslices_ContainsFunc_int_int Try.f64 (Aslices_ContainsFunc_int_int.enc x) (Gslices_ContainsFunc_int_int.enc g) = (Tslices_ContainsFunc_int_int none x.1 g.1 g.2.1).map (Rslices_ContainsFunc_int_int x g)
  | (x0, ()), (g0, g1, ()) => rnslices_ContainsFunc_int_int x0 g0 g1
theorem okslices_ContainsFunc_int_int : FnOk Try.prog cd 64 Sslices_ContainsFunc_int_int := mk_okG (E := Eslices_ContainsFunc_int_int) (A := Aslices_ContainsFunc_int_int) (B := Gslices_ContainsFunc_int_int) false cd_ok (addF_ok okslices_IndexFunc_int_int_V2 fns65_ok) Try.func64 (by kernel_rfl) (noLoops_body (by kernel_rfl)) (aO_ok (cSl_ok 3) (aF_ok (aNil_ok))) (bC_ok (cInt_ok .i64) (bC_ok (cInt_ok .i64) bNil_ok)) (T := fun (x : (List Int) × Unit) (g : Int × Int × Unit) => Tslices_ContainsFunc_int_int none x.1 g.1 g.2.1) (fun _ _ => rfl) runslices_ContainsFunc_int_int
/-- emulator/tape.store -/
noncomputable def Ttape_store (q : Option Nat) (x0 : Tape) (x1 : (List Int)) (x2 : (List Int)) : Tree Tape :=
  .opt ((List UInt8) × Int) (memory_Bytes q x1 x0.addr x0.count) fun r81 =>
    .ite (!decide (r81.2 = (0 : Int)))
      (.leaf (Tape.mk x0.records x0.pos x0.enable x0.ready true x0.mark x0.end_ x0.command x0.count x0.addr x0.left))
      (.ite (decide (r81.1 = ([])))
        (.leaf (Tape.mk x0.records x0.pos x0.enable x0.ready true x0.mark x0.end_ x0.command x0.count x0.addr x0.left))
        (.opt Bool (tape_long r81.1) fun r82 =>
          .ite (r82)
            (.leaf (Tape.mk x0.records x0.pos x0.enable x0.ready true x0.mark x0.end_ x0.command x0.count x0.addr x0.left))
            (.opt (Int × Int) (tape_within x0.addr x0.count) fun r83 =>
              .opt (Bool × Int × Int) (slices_ContainsFunc_int_int q x2 r83.1 r83.2) fun r84 =>
                .ite (r84.1)
                  (.leaf (Tape.mk x0.records x0.pos x0.enable x0.ready true x0.mark x0.end_ x0.command x0.count x0.addr x0.left))
                  (.opt (List UInt8) (strings_Clone r81.1) fun r85 =>
                    .opt Tape (tape_added x0 r85) fun r86 =>
                      .leaf (r86)))))
noncomputable def tape_store (q : Option Nat) (x0 : Tape) (x1 : (List Int)) (x2 : (List Int)) : Option Tape := (Ttape_store q x0 x1 x2).run
theorem letape_store (k : Nat) (x0 : Tape) (x1 : (List Int)) (x2 : (List Int)) : Le (tape_store (some k) x0 x1 x2) (tape_store none x0 x1 x2) := (TLe.opt (lememory_Bytes k _ _ _) fun _ => (TLe.ite TLe.rfl (TLe.ite TLe.rfl (TLe.opt Le.rfl fun _ => (TLe.ite TLe.rfl (TLe.opt Le.rfl fun _ => (TLe.opt (leslices_ContainsFunc_int_int k _ _ _) fun _ => TLe.rfl)))))))
noncomputable def Atape_store : Arg U (Tape × (List Int) × (List Int) × Unit) := aA cTape (aO (cSl 3) (aO (cSl 3) (aNil)))
noncomputable def Rtape_store (r : Tape) : List (V U) × List (Blk U) := ([vA cTape r], [])
noncomputable def Stape_store : List (V U) → List (Blk U) → Option (FnOut U) := mkSpec Atape_store bNil (fun x _ => tape_store none x.1 x.2.1 x.2.2.1) Rtape_store
noncomputable def Etape_store : Env U := { P := Try.prog, cd := cd, fns := (addF 64 false (Sslices_ContainsFunc_int_int) (addF 63 false (Stape_within) fns65)), lps := noL, frz := fun _r => false, nt := 43, n0 := 0 }
theorem runtape_store (x : Tape × (List Int) × (List Int) × Unit) (g : Unit) : execF Etape_store Try.f39 (Atape_store.enc x) (bNil.enc g) = (Ttape_store none x.1 x.2.1 x.2.2.1).map Rtape_store := by kernel_rfl
theorem oktape_store : FnOk Try.prog cd 39 Stape_store := mk_ok (E := Etape_store) cd_ok (addF_ok okslices_ContainsFunc_int_int (addF_ok oktape_within fns65_ok)) Try.func39 (by kernel_rfl) (noLoops_body (by kernel_rfl)) (aA_ok cTape_ok (aO_ok (cSl_ok 3) (aO_ok (cSl_ok 3) (aNil_ok)))) bNil_ok (T := fun x _ => Ttape_store none x.1 x.2.1 x.2.2.1) (fun _ _ => rfl) runtape_store
noncomputable def fns39 := addF 39 true Stape_store fns65
theorem fns39_ok : ∀ f q t, fns39 f = some (q, t) → FnOk Try.prog cd f t := addF_ok oktape_store fns65_ok
/-- emulator/tape.Tick -/
noncomputable def Ttape_Tick (q : Option Nat) (x0 : Tape) (x1 : (List Int)) (x2 : (List Int)) : Tree (Tape × (List Int) × (List Int)) :=
  .ite (decide (x0.left = (0 : Int)))
    (.leaf ((x0, x1, x2)))
    (.ite (decide ((0 : Int) < (IntKind.wrap .i64 (x0.left - (1 : Int)))))
      (.leaf ((Tape.mk x0.records x0.pos x0.enable x0.ready x0.error x0.mark x0.end_ x0.command x0.count x0.addr (IntKind.wrap .i64 (x0.left - (1 : Int))), x1, x2)))
      (.ite (decide (x0.command = (1 : Int)))
        (.opt (Tape × (List Int) × (List Int)) (tape_fetch q (Tape.mk x0.records x0.pos x0.enable true x0.error x0.mark x0.end_ x0.command x0.count x0.addr (IntKind.wrap .i64 (x0.left - (1 : Int)))) x1 x2) fun r87 =>
          .leaf ((r87.1, r87.2.1, r87.2.2)))
        (.ite (decide (x0.command = (2 : Int)))
          (.opt Tape (tape_store q (Tape.mk x0.records x0.pos x0.enable true x0.error x0.mark x0.end_ x0.command x0.count x0.addr (IntKind.wrap .i64 (x0.left - (1 : Int)))) x1 x2) fun r88 =>
            .leaf ((r88, x1, x2)))
          (.ite (decide (x0.command = (3 : Int)))
            (.opt ((List UInt8) × Tape × Bool) (tape_pass (Tape.mk x0.records x0.pos x0.enable true x0.error x0.mark x0.end_ x0.command x0.count x0.addr (IntKind.wrap .i64 (x0.left - (1 : Int))))) fun r89 =>
              .leaf ((r89.2.1, x1, x2)))
            (.ite (decide (x0.command = (4 : Int)))
              (.ite (decide (x0.pos = (0 : Int)))
                (.leaf ((Tape.mk x0.records x0.pos x0.enable true x0.error x0.mark true x0.command x0.count x0.addr (IntKind.wrap .i64 (x0.left - (1 : Int))), x1, x2)))
                (.ite (x0.mark)
                  (.leaf ((Tape.mk x0.records (IntKind.wrap .i64 (x0.pos - (1 : Int))) x0.enable true x0.error true x0.end_ x0.command x0.count x0.addr (IntKind.wrap .i64 (x0.left - (1 : Int))), x1, x2)))
                  (.ite (decide (0 ≤ IntKind.wrap .i64 (x0.pos - (1 : Int))))
                    (.opt (List UInt8) (x0.records[(IntKind.wrap .i64 (x0.pos - (1 : Int))).toNat]?) fun y90 =>
                      .leaf ((Tape.mk x0.records (IntKind.wrap .i64 (x0.pos - (1 : Int))) x0.enable true x0.error (decide (y90 = ([]))) x0.end_ x0.command x0.count x0.addr (IntKind.wrap .i64 (x0.left - (1 : Int))), x1, x2)))
                    .fail)))
              (.ite (decide (x0.command = (5 : Int)))
                (.leaf ((Tape.mk x0.records (0 : Int) x0.enable true x0.error x0.mark x0.end_ x0.command x0.count x0.addr (IntKind.wrap .i64 (x0.left - (1 : Int))), x1, x2)))
                (.ite (decide (x0.command = (6 : Int)))
                  (.opt Tape (tape_added (Tape.mk x0.records x0.pos x0.enable true x0.error x0.mark x0.end_ x0.command x0.count x0.addr (IntKind.wrap .i64 (x0.left - (1 : Int)))) ([])) fun r91 =>
                    .leaf ((r91, x1, x2)))
                  (.leaf ((Tape.mk x0.records x0.pos x0.enable true x0.error x0.mark x0.end_ x0.command x0.count x0.addr (IntKind.wrap .i64 (x0.left - (1 : Int))), x1, x2))))))))))
noncomputable def tape_Tick (q : Option Nat) (x0 : Tape) (x1 : (List Int)) (x2 : (List Int)) : Option (Tape × (List Int) × (List Int)) := (Ttape_Tick q x0 x1 x2).run
theorem letape_Tick (k : Nat) (x0 : Tape) (x1 : (List Int)) (x2 : (List Int)) : Le (tape_Tick (some k) x0 x1 x2) (tape_Tick none x0 x1 x2) := (TLe.ite TLe.rfl (TLe.ite TLe.rfl (TLe.ite (TLe.opt (letape_fetch k _ _ _) fun _ => TLe.rfl) (TLe.ite (TLe.opt (letape_store k _ _ _) fun _ => TLe.rfl) TLe.rfl))))
noncomputable def Atape_Tick : Arg U (Tape × (List Int) × (List Int) × Unit) := aA cTape (aO (cSl 3) (aO (cSl 3) (aNil)))
noncomputable def Rtape_Tick (r : (Tape × (List Int) × (List Int))) : List (V U) × List (Blk U) := ([vA cTape r.1, vO (cSl 3) r.2.1, vO (cSl 3) r.2.2], [])
noncomputable def Stape_Tick : List (V U) → List (Blk U) → Option (FnOut U) := mkSpec Atape_Tick bNil (fun x _ => tape_Tick none x.1 x.2.1 x.2.2.1) Rtape_Tick
noncomputable def Etape_Tick : Env U := { P := Try.prog, cd := cd, fns := fns39, lps := noL, frz := fun _r => false, nt := 85, n0 := 0 }
theorem runtape_Tick (x : Tape × (List Int) × (List Int) × Unit) (g : Unit) : execF Etape_Tick Try.f10 (Atape_Tick.enc x) (bNil.enc g) = (Ttape_Tick none x.1 x.2.1 x.2.2.1).map Rtape_Tick := by kernel_rfl
theorem oktape_Tick : FnOk Try.prog cd 10 Stape_Tick := mk_ok (E := Etape_Tick) cd_ok fns39_ok Try.func10 (by kernel_rfl) (noLoops_body (by kernel_rfl)) (aA_ok cTape_ok (aO_ok (cSl_ok 3) (aO_ok (cSl_ok 3) (aNil_ok)))) bNil_ok (T := fun x _ => Ttape_Tick none x.1 x.2.1 x.2.2.1) (fun _ _ => rfl) runtape_Tick
noncomputable def fns10 := addF 10 true Stape_Tick fns39
theorem fns10_ok : ∀ f q t, fns10 f = some (q, t) → FnOk Try.prog cd f t := addF_ok oktape_Tick fns39_ok
/-- emulator/emulatorref17.passed -/
noncomputable def Tref17_passed (x0 : Tape) : Tree (Tape × Bool) :=
  .ite (decide ((x0.records.length : Int) ≤ x0.pos))
    (.leaf ((Tape.mk x0.records x0.pos x0.enable x0.ready true x0.mark true x0.command x0.count x0.addr x0.left, false)))
    (.ite (x0.mark)
      (.leaf ((Tape.mk x0.records (IntKind.wrap .i64 (x0.pos + (1 : Int))) x0.enable x0.ready x0.error true x0.end_ x0.command x0.count x0.addr x0.left, true)))
      (.ite (decide (0 ≤ x0.pos))
        (.opt (List UInt8) (x0.records[(x0.pos).toNat]?) fun y92 =>
          .leaf ((Tape.mk x0.records (IntKind.wrap .i64 (x0.pos + (1 : Int))) x0.enable x0.ready x0.error (decide (y92 = ([]))) x0.end_ x0.command x0.count x0.addr x0.left, true)))
        .fail))
noncomputable def ref17_passed (x0 : Tape) : Option (Tape × Bool) := (Tref17_passed x0).run
noncomputable def Aref17_passed : Arg U (Tape × Unit) := aA cTape (aNil)
noncomputable def Rref17_passed (r : (Tape × Bool)) : List (V U) × List (Blk U) := ([vA cTape r.1, vO cBool r.2], [])
noncomputable def Sref17_passed : List (V U) → List (Blk U) → Option (FnOut U) := mkSpec Aref17_passed bNil (fun x _ => ref17_passed x.1) Rref17_passed
noncomputable def Eref17_passed : Env U := { P := Try.prog, cd := cd, fns := fns10, lps := noL, frz := fun _r => false, nt := 30, n0 := 0 }
theorem runref17_passed (x : Tape × Unit) (g : Unit) : execF Eref17_passed Try.f44 (Aref17_passed.enc x) (bNil.enc g) = (Tref17_passed x.1).map Rref17_passed := by kernel_rfl
theorem okref17_passed : FnOk Try.prog cd 44 Sref17_passed := mk_ok (E := Eref17_passed) cd_ok fns10_ok Try.func44 (by kernel_rfl) (noLoops_body (by kernel_rfl)) (aA_ok cTape_ok (aNil_ok)) bNil_ok (T := fun x _ => Tref17_passed x.1) (fun _ _ => rfl) runref17_passed
noncomputable def fns44 := addF 44 true Sref17_passed fns10
theorem fns44_ok : ∀ f q t, fns44 f = some (q, t) → FnOk Try.prog cd f t := addF_ok okref17_passed fns10_ok
/-- emulator/emulatorref08.Within -/
noncomputable def Tref08_Within (x0 : (List Int)) (x1 : Int) (x2 : Int) : Tree Bool :=
  .ite (decide ((0 : Int) ≤ x1))
    (.ite (decide ((0 : Int) ≤ x2))
      (.ite (decide (x1 ≤ (IntKind.wrap .i64 ((2 : Int) * (x0.length : Int)))))
        (.leaf (decide (x2 ≤ (IntKind.wrap .i64 ((IntKind.wrap .i64 ((2 : Int) * (x0.length : Int))) - x1)))))
        (.leaf (false)))
      (.leaf (false)))
    (.leaf (false))
noncomputable def ref08_Within (x0 : (List Int)) (x1 : Int) (x2 : Int) : Option Bool := (Tref08_Within x0 x1 x2).run
noncomputable def Aref08_Within : Arg U ((List Int) × Int × Int × Unit) := aO (cSl 3) (aO (cInt .i64) (aO (cInt .i64) (aNil)))
noncomputable def Rref08_Within (r : Bool) : List (V U) × List (Blk U) := ([vO cBool r], [])
noncomputable def Sref08_Within : List (V U) → List (Blk U) → Option (FnOut U) := mkSpec Aref08_Within bNil (fun x _ => ref08_Within x.1 x.2.1 x.2.2.1) Rref08_Within
noncomputable def Eref08_Within : Env U := { P := Try.prog, cd := cd, fns := fns44, lps := noL, frz := fun _r => false, nt := 29, n0 := 0 }
theorem runref08_Within (x : (List Int) × Int × Int × Unit) (g : Unit) : execF Eref08_Within Try.f75 (Aref08_Within.enc x) (bNil.enc g) = (Tref08_Within x.1 x.2.1 x.2.2.1).map Rref08_Within := by kernel_rfl
theorem okref08_Within : FnOk Try.prog cd 75 Sref08_Within := mk_ok (E := Eref08_Within) cd_ok fns44_ok Try.func75 (by kernel_rfl) (noLoops_body (by kernel_rfl)) (aO_ok (cSl_ok 3) (aO_ok (cInt_ok .i64) (aO_ok (cInt_ok .i64) (aNil_ok)))) bNil_ok (T := fun x _ => Tref08_Within x.1 x.2.1 x.2.2.1) (fun _ _ => rfl) runref08_Within
noncomputable def fns75 := addF 75 true Sref08_Within fns44
theorem fns75_ok : ∀ f q t, fns75 f = some (q, t) → FnOk Try.prog cd f t := addF_ok okref08_Within fns44_ok
/-- emulator/emulatorref08.set -/
noncomputable def Tref08_set (x1 : Int) (x2 : Int) (g0 : (List Int)) : Tree (List Int) :=
  .ite (decide ((2 : Int) = 0))
    .fail
    (.ite (decide (0 ≤ IntKind.wrap .i64 ((x1).tdiv (2 : Int))))
      (.ite (decide (IntKind.wrap .i64 ((x1).tdiv (2 : Int)) < (g0.length : Int)))
        (.opt Int (g0[(IntKind.wrap .i64 ((x1).tdiv (2 : Int))).toNat]?) fun y98 =>
          .ite (decide ((2 : Int) = 0))
            .fail
            (.ite (decide (((x1).tmod (2 : Int)) = (0 : Int)))
              (.ite (decide ((2 : Int) = 0))
                .fail
                (.ite (decide (0 ≤ IntKind.wrap .i64 ((x1).tdiv (2 : Int))))
                  (.ite (decide (IntKind.wrap .i64 ((x1).tdiv (2 : Int)) < (g0.length : Int)))
                    (.opt Int (g0[(IntKind.wrap .i64 ((x1).tdiv (2 : Int))).toNat]?) fun y99 =>
                      .leaf (g0.set ((IntKind.wrap .i64 ((x1).tdiv (2 : Int))).toNat) (IntKind.wrap .i64 (((BitVec.ofInt 64 (IntKind.wrap .i64 (((BitVec.ofInt 64 y98 &&& BitVec.ofInt 64 (65280 : Int)).toNat : Int))) ||| BitVec.ofInt 64 x2).toNat : Int)))))
                    .fail)
                  .fail))
              (.ite (decide ((2 : Int) = 0))
                .fail
                (.ite (decide (0 ≤ (8 : Int)))
                  (.ite (decide (0 ≤ IntKind.wrap .i64 ((x1).tdiv (2 : Int))))
                    (.ite (decide (IntKind.wrap .i64 ((x1).tdiv (2 : Int)) < (g0.length : Int)))
                      (.opt Int (g0[(IntKind.wrap .i64 ((x1).tdiv (2 : Int))).toNat]?) fun y100 =>
                        .leaf (g0.set ((IntKind.wrap .i64 ((x1).tdiv (2 : Int))).toNat) (IntKind.wrap .i64 (((BitVec.ofInt 64 (IntKind.wrap .i64 (((BitVec.ofInt 64 y98 &&& BitVec.ofInt 64 (255 : Int)).toNat : Int))) ||| BitVec.ofInt 64 (IntKind.wrap .i64 (x2 * 2 ^ (min ((8 : Int)).toNat 64)))).toNat : Int)))))
                      .fail)
                    .fail)
                  .fail))))
        .fail)
      .fail)
noncomputable def ref08_set (x1 : Int) (x2 : Int) (g0 : (List Int)) : Option (List Int) := (Tref08_set x1 x2 g0).run
noncomputable def Aref08_set : Arg U (Int × Int × Unit) := aR 0 (aO (cInt .i64) (aO (cInt .i64) (aNil)))
noncomputable def Gref08_set : Bls U ((List Int) × Unit) := bR 3 (bNil)
noncomputable def Rref08_set (_x : Int × Int × Unit) (_g : (List Int) × Unit) (r : (List Int)) : List (V U) × List (Blk U) := ([], [.row 3 0 r])
noncomputable def Sref08_set : List (V U) → List (Blk U) → Option (FnOut U) := mkSpecG Aref08_set Gref08_set (fun x g => ref08_set x.1 x.2.1 g.1) Rref08_set
noncomputable def Eref08_set : Env U := { P := Try.prog, cd := cd, fns := fns75, lps := noL, frz := fun _r => false, nt := 32, n0 := 1 }
theorem rnref08_set (x1 : Int) (x2 : Int) (g0 : (List Int)) : execX false Eref08_set Try.f76 (Aref08_set.enc (x1, x2, ())) (Gref08_set.enc (g0, ())) = (Tref08_set x1 x2 g0).map (Rref08_set (x1, x2, ()) (g0, ())) := by kernel_rfl
theorem runref08_set : ∀ (x : Int × Int × Unit) (g : (List Int) × Unit), execX false Eref08_set Try.f76 (Aref08_set.enc x) (Gref08_set.enc g) = (Tref08_set x.1 x.2.1 g.1).map (Rref08_set x g)
  | (x1, x2, ()), (g0, ()) => rnref08_set x1 x2 g0
theorem okref08_set : FnOk Try.prog cd 76 Sref08_set := mk_okG (E := Eref08_set) (A := Aref08_set) (B := Gref08_set) false cd_ok fns75_ok Try.func76 (by kernel_rfl) (noLoops_body (by kernel_rfl)) (aR_ok (aO_ok (cInt_ok .i64) (aO_ok (cInt_ok .i64) (aNil_ok)))) (bR_ok bNil_ok) (T := fun (x : Int × Int × Unit) (g : (List Int) × Unit) => Tref08_set x.1 x.2.1 g.1) (fun _ _ => rfl) runref08_set
/-- emulator/emulatorref08.Store -/
structure Sref08_Store_0 where
  t1 : Int
  t2 : (List UInt8)
  t9 : Int
  b0 : (List Int)
noncomputable def Wref08_Store_0 (s : Sref08_Store_0) : Tree (Sref08_Store_0 ⊕ (List Int)) :=
  .ite (decide (s.t9 < (s.t2.length : Int)))
    (.ite (decide (0 ≤ s.t9))
      (.opt UInt8 (s.t2[(s.t9).toNat]?) fun y102 =>
        .opt (List Int) (ref08_set (IntKind.wrap .i64 (s.t1 + s.t9)) (IntKind.wrap .i64 (y102.toNat : Int)) s.b0) fun r103 =>
          .leaf (.inl (Sref08_Store_0.mk s.t1 s.t2 (IntKind.wrap .i64 (s.t9 + (1 : Int))) r103)))
      .fail)
    (.leaf (.inr s.b0))
noncomputable def Lref08_Store_0 (q : Option Nat) (s : Sref08_Store_0) : Option (List Int) := limQ q (fun s => (Wref08_Store_0 s).run) s
theorem leLref08_Store_0 (k : Nat) (s : Sref08_Store_0) : Le (Lref08_Store_0 (some k) s) (Lref08_Store_0 none s) := limQ_le (fun _ => Le.rfl) s
noncomputable def Tref08_Store (q : Option Nat) (x0 : (List Int)) (x1 : Int) (x2 : (List UInt8)) : Tree ((List Int) × Int) :=
  .opt Bool (ref08_Within x0 x1 (x2.length : Int)) fun r101 =>
    .ite (!r101)
      (.leaf (([], (2 : Int))))
      (.ite (decide ((([] : List Int).length + x0.length) * 8 ≤ 140737488355328))
        (.opt (List Int) (Lref08_Store_0 q (Sref08_Store_0.mk x1 x2 (0 : Int) (([] : List Int) ++ x0))) fun l104 =>
          .leaf ((l104, (0 : Int))))
        .fail)
noncomputable def ref08_Store (q : Option Nat) (x0 : (List Int)) (x1 : Int) (x2 : (List UInt8)) : Option ((List Int) × Int) := (Tref08_Store q x0 x1 x2).run
theorem leref08_Store (k : Nat) (x0 : (List Int)) (x1 : Int) (x2 : (List UInt8)) : Le (ref08_Store (some k) x0 x1 x2) (ref08_Store none x0 x1 x2) := (TLe.opt Le.rfl fun _ => (TLe.ite TLe.rfl (TLe.ite (TLe.opt (leLref08_Store_0 k _) fun _ => TLe.rfl) TLe.rfl)))
noncomputable def Aref08_Store : Arg U ((List Int) × Int × (List UInt8) × Unit) := aO (cSl 3) (aO (cInt .i64) (aO cStr (aNil)))
noncomputable def Rref08_Store (r : ((List Int) × Int)) : List (V U) × List (Blk U) := ([vO (cSl 3) r.1, vO (cInt .i64) r.2], [])
noncomputable def Sref08_Store : List (V U) → List (Blk U) → Option (FnOut U) := mkSpec Aref08_Store bNil (fun x _ => ref08_Store none x.1 x.2.1 x.2.2.1) Rref08_Store
noncomputable def Pref08_Store_0 (x : (Int × Unit) × ((List UInt8) × Unit) × (Unit) × (Int × Unit) × Unit) (g : (List Int) × Unit) : Sref08_Store_0 := Sref08_Store_0.mk x.1.1 x.2.1.1 x.2.2.2.1.1 g.1
noncomputable def tAref08_Store_0 : Tms U ((Int × Unit) × ((List UInt8) × Unit) × (Unit) × (Int × Unit) × Unit) := tO 1 (cPair (cInt .i64) (cUnit)) (tO 2 (cPair cStr (cUnit)) (tO 8 (cK (.row 0 0) (cUnit)) (tO 9 (cPair (cInt .i64) (cUnit)) (tNil))))
noncomputable def tBref08_Store_0 : Bls U ((List Int) × Unit) := bRv 3 0 (bNil)
noncomputable def eSref08_Store_0 (s : Sref08_Store_0) : St U := { tm := [(1, .v (vO (cPair (cInt .i64) (cUnit)) (s.t1, ()))), (2, .v (vO (cPair cStr (cUnit)) (s.t2, ()))), (8, .v (vO (cK (.row 0 0) (cUnit)) (()))), (9, .v (vO (cPair (cInt .i64) (cUnit)) (s.t9, ())))], hp := [.row 3 0 s.b0] }
noncomputable def xSref08_Store_0 (r : (List Int)) : Ex × St U := (.exit 0, { tm := [(8, .v (vO (cK (.row 0 0) (cUnit)) (())))], hp := [.row 3 0 r] })
noncomputable def xTref08_Store_0 (r : (List Int)) : Tree (Ex × St U) := .leaf (xSref08_Store_0 r)
noncomputable def href08_Store_0 : Hd := { keep := [1, 2, 8, 9], xkeep := [6, 7, 8], own := false }
noncomputable def Eref08_Store : Env U := { P := Try.prog, cd := cd, fns := (addF 76 false (Sref08_set) fns75), lps := (addL 0 href08_Store_0 (mkLoop tAref08_Store_0 tBref08_Store_0 Pref08_Store_0 (Lref08_Store_0 none) xTref08_Store_0) noL), frz := fun _r => false, nt := 35, n0 := 0 }
noncomputable def Bref08_Store_0 : Code := (loopAt (Try.f66.body.getD .skip) 0 0).getD .skip
theorem roundref08_Store_0 (s : Sref08_Store_0) : round Eref08_Store href08_Store_0 Bref08_Store_0 0 (eSref08_Store_0 s) = (Wref08_Store_0 s).map (sumE eSref08_Store_0 xSref08_Store_0) := by kernel_rfl
theorem lpref08_Store_0 : LpOk Eref08_Store Bref08_Store_0 0 := mkLoop_ok (A := tAref08_Store_0) (B := tBref08_Store_0) (f := Pref08_Store_0) (L := Lref08_Store_0 none) (tO_ok (cPair_ok (cInt_ok .i64) cUnit_ok) (tO_ok (cPair_ok cStr_ok cUnit_ok) (tO_ok (cK_ok cUnit_ok) (tO_ok (cPair_ok (cInt_ok .i64) cUnit_ok) tNil_ok)))) (bRv_ok bNil_ok) (enc := eSref08_Store_0) (out := xTref08_Store_0) (outS := xSref08_Store_0) (step := Wref08_Store_0) (fun _ => rfl) (fun _ _ => by kernel_rfl) (by kernel_rfl) (fun _ => rfl) roundref08_Store_0
theorem runref08_Store (x : (List Int) × Int × (List UInt8) × Unit) (g : Unit) : execF Eref08_Store Try.f66 (Aref08_Store.enc x) (bNil.enc g) = (Tref08_Store none x.1 x.2.1 x.2.2.1).map Rref08_Store := by kernel_rfl
theorem okref08_Store : FnOk Try.prog cd 66 Sref08_Store := mk_ok (E := Eref08_Store) cd_ok (addF_ok okref08_set fns75_ok) Try.func66 (by kernel_rfl) (loops_of (addL_ok lpref08_Store_0 noL_ok)) (aO_ok (cSl_ok 3) (aO_ok (cInt_ok .i64) (aO_ok cStr_ok (aNil_ok)))) bNil_ok (T := fun x _ => Tref08_Store none x.1 x.2.1 x.2.2.1) (fun _ _ => rfl) runref08_Store
noncomputable def fns66 := addF 66 true Sref08_Store fns75
theorem fns66_ok : ∀ f q t, fns66 f = some (q, t) → FnOk Try.prog cd f t := addF_ok okref08_Store fns75_ok
/-- emulator/emulatorref08.Without -/
structure Sref08_Without_0 where
  t0 : (List Int)
  t1 : Int
  t6 : Int
  b0 : (List Int)
noncomputable def Wref08_Without_0 (s : Sref08_Without_0) : Tree (Sref08_Without_0 ⊕ (List Int)) :=
  .ite (decide (s.t6 < (s.t0.length : Int)))
    (.ite (decide (0 ≤ s.t6))
      (.opt Int (s.t0[(s.t6).toNat]?) fun y105 =>
        .ite (!decide (y105 = s.t1))
          (.ite (decide (0 ≤ s.t6))
            (.opt Int (s.t0[(s.t6).toNat]?) fun y106 =>
              .ite (decide ((s.b0.length + ([y106]).length) * 8 ≤ 140737488355328))
                (.leaf (.inl (Sref08_Without_0.mk s.t0 s.t1 (IntKind.wrap .i64 (s.t6 + (1 : Int))) (s.b0 ++ ([y106])))))
                .fail)
            .fail)
          (.leaf (.inl (Sref08_Without_0.mk s.t0 s.t1 (IntKind.wrap .i64 (s.t6 + (1 : Int))) s.b0))))
      .fail)
    (.leaf (.inr s.b0))
noncomputable def Lref08_Without_0 (q : Option Nat) (s : Sref08_Without_0) : Option (List Int) := limQ q (fun s => (Wref08_Without_0 s).run) s
theorem leLref08_Without_0 (k : Nat) (s : Sref08_Without_0) : Le (Lref08_Without_0 (some k) s) (Lref08_Without_0 none s) := limQ_le (fun _ => Le.rfl) s
noncomputable def Tref08_Without (q : Option Nat) (x0 : (List Int)) (x1 : Int) : Tree (List Int) :=
  .opt (List Int) (Lref08_Without_0 q (Sref08_Without_0.mk x0 x1 (0 : Int) ([]))) fun l107 =>
    .leaf (l107)
noncomputable def ref08_Without (q : Option Nat) (x0 : (List Int)) (x1 : Int) : Option (List Int) := (Tref08_Without q x0 x1).run
theorem leref08_Without (k : Nat) (x0 : (List Int)) (x1 : Int) : Le (ref08_Without (some k) x0 x1) (ref08_Without none x0 x1) := (TLe.opt (leLref08_Without_0 k _) fun _ => TLe.rfl)
noncomputable def Aref08_Without : Arg U ((List Int) × Int × Unit) := aO (cSl 3) (aO (cInt .i64) (aNil))
noncomputable def Rref08_Without (r : (List Int)) : List (V U) × List (Blk U) := ([vO (cSl 3) r], [])
noncomputable def Sref08_Without : List (V U) → List (Blk U) → Option (FnOut U) := mkSpec Aref08_Without bNil (fun x _ => ref08_Without none x.1 x.2.1) Rref08_Without
noncomputable def Pref08_Without_0 (x : ((List Int) × Unit) × (Int × Unit) × (Unit) × (Int × Unit) × Unit) (g : (List Int) × Unit) : Sref08_Without_0 := Sref08_Without_0.mk x.1.1 x.2.1.1 x.2.2.2.1.1 g.1
noncomputable def tAref08_Without_0 : Tms U (((List Int) × Unit) × (Int × Unit) × (Unit) × (Int × Unit) × Unit) := tO 0 (cPair (cSl 3) (cUnit)) (tO 1 (cPair (cInt .i64) (cUnit)) (tO 5 (cK (.row 0 0) (cUnit)) (tO 6 (cPair (cInt .i64) (cUnit)) (tNil))))
noncomputable def tBref08_Without_0 : Bls U ((List Int) × Unit) := bRv 3 0 (bNil)
noncomputable def eSref08_Without_0 (s : Sref08_Without_0) : St U := { tm := [(0, .v (vO (cPair (cSl 3) (cUnit)) (s.t0, ()))), (1, .v (vO (cPair (cInt .i64) (cUnit)) (s.t1, ()))), (5, .v (vO (cK (.row 0 0) (cUnit)) (()))), (6, .v (vO (cPair (cInt .i64) (cUnit)) (s.t6, ())))], hp := [.row 3 0 s.b0] }
noncomputable def xSref08_Without_0 (r : (List Int)) : Ex × St U := (.exit 0, { tm := [(5, .v (vO (cK (.row 0 0) (cUnit)) (())))], hp := [.row 3 0 r] })
noncomputable def xTref08_Without_0 (r : (List Int)) : Tree (Ex × St U) := .leaf (xSref08_Without_0 r)
noncomputable def href08_Without_0 : Hd := { keep := [0, 1, 5, 6], xkeep := [4, 5], own := true }
noncomputable def Eref08_Without : Env U := { P := Try.prog, cd := cd, fns := fns66, lps := (addL 0 href08_Without_0 (mkLoop tAref08_Without_0 tBref08_Without_0 Pref08_Without_0 (Lref08_Without_0 none) xTref08_Without_0) noL), frz := fun _r => false, nt := 27, n0 := 0 }
noncomputable def Bref08_Without_0 : Code := (loopAt (Try.f77.body.getD .skip) 0 0).getD .skip
theorem roundref08_Without_0 (s : Sref08_Without_0) : round Eref08_Without href08_Without_0 Bref08_Without_0 0 (eSref08_Without_0 s) = (Wref08_Without_0 s).map (sumE eSref08_Without_0 xSref08_Without_0) := by kernel_rfl
theorem lpref08_Without_0 : LpOk Eref08_Without Bref08_Without_0 0 := mkLoop_ok (A := tAref08_Without_0) (B := tBref08_Without_0) (f := Pref08_Without_0) (L := Lref08_Without_0 none) (tO_ok (cPair_ok (cSl_ok 3) cUnit_ok) (tO_ok (cPair_ok (cInt_ok .i64) cUnit_ok) (tO_ok (cK_ok cUnit_ok) (tO_ok (cPair_ok (cInt_ok .i64) cUnit_ok) tNil_ok)))) (bRv_ok bNil_ok) (enc := eSref08_Without_0) (out := xTref08_Without_0) (outS := xSref08_Without_0) (step := Wref08_Without_0) (fun _ => rfl) (fun _ _ => by kernel_rfl) (by kernel_rfl) (fun _ => rfl) roundref08_Without_0
theorem runref08_Without (x : (List Int) × Int × Unit) (g : Unit) : execF Eref08_Without Try.f77 (Aref08_Without.enc x) (bNil.enc g) = (Tref08_Without none x.1 x.2.1).map Rref08_Without := by kernel_rfl
theorem okref08_Without : FnOk Try.prog cd 77 Sref08_Without := mk_ok (E := Eref08_Without) cd_ok fns66_ok Try.func77 (by kernel_rfl) (loops_of (addL_ok lpref08_Without_0 noL_ok)) (aO_ok (cSl_ok 3) (aO_ok (cInt_ok .i64) (aNil_ok))) bNil_ok (T := fun x _ => Tref08_Without none x.1 x.2.1) (fun _ _ => rfl) runref08_Without
noncomputable def fns77 := addF 77 true Sref08_Without fns66
theorem fns77_ok : ∀ f q t, fns77 f = some (q, t) → FnOk Try.prog cd f t := addF_ok okref08_Without fns66_ok
/-- emulator/emulatorref17.cleared -/
structure Sref17_cleared_0 where
  t0 : (List Int)
  t1 : Int
  t2 : Int
  t7 : Int
noncomputable def Wref17_cleared_0 (q : Option Nat) (s : Sref17_cleared_0) : Tree (Sref17_cleared_0 ⊕ (List Int)) :=
  .ite (decide (s.t7 < s.t2))
    (.ite (decide ((2 : Int) = 0))
      .fail
      (.opt (List Int) (ref08_Without q s.t0 (IntKind.wrap .i64 ((IntKind.wrap .i64 (((IntKind.wrap .i64 (s.t1 + s.t7))).tdiv (2 : Int))) * (2 : Int)))) fun r108 =>
        .leaf (.inl (Sref17_cleared_0.mk r108 s.t1 s.t2 (IntKind.wrap .i64 (s.t7 + (1 : Int)))))))
    (.leaf (.inr s.t0))
noncomputable def Lref17_cleared_0 (q : Option Nat) (s : Sref17_cleared_0) : Option (List Int) := limQ q (fun s => (Wref17_cleared_0 q s).run) s
theorem leLref17_cleared_0 (k : Nat) (s : Sref17_cleared_0) : Le (Lref17_cleared_0 (some k) s) (Lref17_cleared_0 none s) := limQ_le (fun s => (TLe.ite (TLe.ite TLe.rfl (TLe.opt (leref08_Without k _ _) fun _ => TLe.rfl)) TLe.rfl)) s
noncomputable def Tref17_cleared (q : Option Nat) (x0 : (List Int)) (x1 : Int) (x2 : Int) : Tree (List Int) :=
  .opt (List Int) (Lref17_cleared_0 q (Sref17_cleared_0.mk x0 x1 x2 (0 : Int))) fun l109 =>
    .leaf (l109)
noncomputable def ref17_cleared (q : Option Nat) (x0 : (List Int)) (x1 : Int) (x2 : Int) : Option (List Int) := (Tref17_cleared q x0 x1 x2).run
theorem leref17_cleared (k : Nat) (x0 : (List Int)) (x1 : Int) (x2 : Int) : Le (ref17_cleared (some k) x0 x1 x2) (ref17_cleared none x0 x1 x2) := (TLe.opt (leLref17_cleared_0 k _) fun _ => TLe.rfl)
noncomputable def Aref17_cleared : Arg U ((List Int) × Int × Int × Unit) := aO (cSl 3) (aO (cInt .i64) (aO (cInt .i64) (aNil)))
noncomputable def Rref17_cleared (r : (List Int)) : List (V U) × List (Blk U) := ([vO (cSl 3) r], [])
noncomputable def Sref17_cleared : List (V U) → List (Blk U) → Option (FnOut U) := mkSpec Aref17_cleared bNil (fun x _ => ref17_cleared none x.1 x.2.1 x.2.2.1) Rref17_cleared
noncomputable def Pref17_cleared_0 (x : ((List Int) × Unit) × (Int × Unit) × (Int × Unit) × (Int × Unit) × Unit) (_g : Unit) : Sref17_cleared_0 := Sref17_cleared_0.mk x.1.1 x.2.1.1 x.2.2.1.1 x.2.2.2.1.1
noncomputable def tAref17_cleared_0 : Tms U (((List Int) × Unit) × (Int × Unit) × (Int × Unit) × (Int × Unit) × Unit) := tO 0 (cPair (cSl 3) (cUnit)) (tO 1 (cPair (cInt .i64) (cUnit)) (tO 2 (cPair (cInt .i64) (cUnit)) (tO 7 (cPair (cInt .i64) (cUnit)) (tNil))))
noncomputable def tBref17_cleared_0 : Bls U (Unit) := bNil
noncomputable def eSref17_cleared_0 (s : Sref17_cleared_0) : St U := { tm := [(0, .v (vO (cPair (cSl 3) (cUnit)) (s.t0, ()))), (1, .v (vO (cPair (cInt .i64) (cUnit)) (s.t1, ()))), (2, .v (vO (cPair (cInt .i64) (cUnit)) (s.t2, ()))), (7, .v (vO (cPair (cInt .i64) (cUnit)) (s.t7, ())))], hp := [] }
noncomputable def xSref17_cleared_0 (r : (List Int)) : Ex × St U := (.exit 0, { tm := [(0, .v (vO (cPair (cSl 3) (cUnit)) (r, ())))], hp := [] })
noncomputable def xTref17_cleared_0 (r : (List Int)) : Tree (Ex × St U) := .leaf (xSref17_cleared_0 r)
noncomputable def href17_cleared_0 : Hd := { keep := [0, 1, 2, 7], xkeep := [0, 6], own := false }
noncomputable def Eref17_cleared : Env U := { P := Try.prog, cd := cd, fns := fns77, lps := (addL 0 href17_cleared_0 (mkLoop tAref17_cleared_0 tBref17_cleared_0 Pref17_cleared_0 (Lref17_cleared_0 none) xTref17_cleared_0) noL), frz := fun _r => false, nt := 21, n0 := 0 }
noncomputable def Bref17_cleared_0 : Code := (loopAt (Try.f67.body.getD .skip) 0 0).getD .skip
theorem roundref17_cleared_0 (s : Sref17_cleared_0) : round Eref17_cleared href17_cleared_0 Bref17_cleared_0 0 (eSref17_cleared_0 s) = (Wref17_cleared_0 none s).map (sumE eSref17_cleared_0 xSref17_cleared_0) := by kernel_rfl
theorem lpref17_cleared_0 : LpOk Eref17_cleared Bref17_cleared_0 0 := mkLoop_ok (A := tAref17_cleared_0) (B := tBref17_cleared_0) (f := Pref17_cleared_0) (L := Lref17_cleared_0 none) (tO_ok (cPair_ok (cSl_ok 3) cUnit_ok) (tO_ok (cPair_ok (cInt_ok .i64) cUnit_ok) (tO_ok (cPair_ok (cInt_ok .i64) cUnit_ok) (tO_ok (cPair_ok (cInt_ok .i64) cUnit_ok) tNil_ok)))) bNil_ok (enc := eSref17_cleared_0) (out := xTref17_cleared_0) (outS := xSref17_cleared_0) (step := Wref17_cleared_0 none) (fun _ => rfl) (fun _ _ => by kernel_rfl) (by kernel_rfl) (fun _ => rfl) roundref17_cleared_0
theorem runref17_cleared (x : (List Int) × Int × Int × Unit) (g : Unit) : execF Eref17_cleared Try.f67 (Aref17_cleared.enc x) (bNil.enc g) = (Tref17_cleared none x.1 x.2.1 x.2.2.1).map Rref17_cleared := by kernel_rfl
theorem okref17_cleared : FnOk Try.prog cd 67 Sref17_cleared := mk_ok (E := Eref17_cleared) cd_ok fns77_ok Try.func67 (by kernel_rfl) (loops_of (addL_ok lpref17_cleared_0 noL_ok)) (aO_ok (cSl_ok 3) (aO_ok (cInt_ok .i64) (aO_ok (cInt_ok .i64) (aNil_ok)))) bNil_ok (T := fun x _ => Tref17_cleared none x.1 x.2.1 x.2.2.1) (fun _ _ => rfl) runref17_cleared
noncomputable def fns67 := addF 67 true Sref17_cleared fns77
theorem fns67_ok : ∀ f q t, fns67 f = some (q, t) → FnOk Try.prog cd f t := addF_ok okref17_cleared fns77_ok
/-- emulator/emulatorref17.read -/
noncomputable def Tref17_read (q : Option Nat) (x0 : Tape) (x1 : (List Int)) (x2 : (List Int)) : Tree (Tape × (List Int) × (List Int)) :=
  .opt (Tape × Bool) (ref17_passed x0) fun r110 =>
    .ite (!r110.2)
      (.leaf ((r110.1, x1, x2)))
      (.ite (decide (0 ≤ IntKind.wrap .i64 (r110.1.pos - (1 : Int))))
        (.opt (List UInt8) (r110.1.records[(IntKind.wrap .i64 (r110.1.pos - (1 : Int))).toNat]?) fun y111 =>
          .ite (r110.1.error)
            (.ite (decide (0 ≤ (if (y111.length : Int) < r110.1.count then (y111.length : Int) else r110.1.count)))
              (.ite (decide ((if (y111.length : Int) < r110.1.count then (y111.length : Int) else r110.1.count) ≤ ((y111.length : Nat) : Int)))
                (.opt ((List Int) × Int) (ref08_Store q x1 r110.1.addr ((y111.drop (0)).take (((if (y111.length : Int) < r110.1.count then (y111.length : Int) else r110.1.count)).toNat - 0))) fun r112 =>
                  .ite (!decide (r112.2 = (0 : Int)))
                    (.leaf ((Tape.mk r110.1.records r110.1.pos r110.1.enable r110.1.ready true r110.1.mark r110.1.end_ r110.1.command r110.1.count r110.1.addr r110.1.left, x1, x2)))
                    (.opt (List Int) (ref17_cleared q x2 r110.1.addr (if (y111.length : Int) < r110.1.count then (y111.length : Int) else r110.1.count)) fun r113 =>
                      .leaf ((Tape.mk r110.1.records r110.1.pos r110.1.enable r110.1.ready true r110.1.mark r110.1.end_ r110.1.command (IntKind.wrap .i64 (r110.1.count - (if (y111.length : Int) < r110.1.count then (y111.length : Int) else r110.1.count))) r110.1.addr r110.1.left, r112.1, r113))))
                .fail)
              .fail)
            (.ite (decide (0 ≤ (if (y111.length : Int) < r110.1.count then (y111.length : Int) else r110.1.count)))
              (.ite (decide ((if (y111.length : Int) < r110.1.count then (y111.length : Int) else r110.1.count) ≤ ((y111.length : Nat) : Int)))
                (.opt ((List Int) × Int) (ref08_Store q x1 r110.1.addr ((y111.drop (0)).take (((if (y111.length : Int) < r110.1.count then (y111.length : Int) else r110.1.count)).toNat - 0))) fun r114 =>
                  .ite (!decide (r114.2 = (0 : Int)))
                    (.leaf ((Tape.mk r110.1.records r110.1.pos r110.1.enable r110.1.ready true r110.1.mark r110.1.end_ r110.1.command r110.1.count r110.1.addr r110.1.left, x1, x2)))
                    (.opt (List Int) (ref17_cleared q x2 r110.1.addr (if (y111.length : Int) < r110.1.count then (y111.length : Int) else r110.1.count)) fun r115 =>
                      .leaf ((Tape.mk r110.1.records r110.1.pos r110.1.enable r110.1.ready (decide (r110.1.count < (y111.length : Int))) r110.1.mark r110.1.end_ r110.1.command (IntKind.wrap .i64 (r110.1.count - (if (y111.length : Int) < r110.1.count then (y111.length : Int) else r110.1.count))) r110.1.addr r110.1.left, r114.1, r115))))
                .fail)
              .fail))
        .fail)
noncomputable def ref17_read (q : Option Nat) (x0 : Tape) (x1 : (List Int)) (x2 : (List Int)) : Option (Tape × (List Int) × (List Int)) := (Tref17_read q x0 x1 x2).run
theorem leref17_read (k : Nat) (x0 : Tape) (x1 : (List Int)) (x2 : (List Int)) : Le (ref17_read (some k) x0 x1 x2) (ref17_read none x0 x1 x2) := (TLe.opt Le.rfl fun _ => (TLe.ite TLe.rfl (TLe.ite (TLe.opt Le.rfl fun _ => (TLe.ite (TLe.ite (TLe.ite (TLe.opt (leref08_Store k _ _ _) fun _ => (TLe.ite TLe.rfl (TLe.opt (leref17_cleared k _ _ _) fun _ => TLe.rfl))) TLe.rfl) TLe.rfl) (TLe.ite (TLe.ite (TLe.opt (leref08_Store k _ _ _) fun _ => (TLe.ite TLe.rfl (TLe.opt (leref17_cleared k _ _ _) fun _ => TLe.rfl))) TLe.rfl) TLe.rfl))) TLe.rfl)))
noncomputable def Aref17_read : Arg U (Tape × (List Int) × (List Int) × Unit) := aA cTape (aO (cSl 3) (aO (cSl 3) (aNil)))
noncomputable def Rref17_read (r : (Tape × (List Int) × (List Int))) : List (V U) × List (Blk U) := ([vA cTape r.1, vO (cSl 3) r.2.1, vO (cSl 3) r.2.2], [])
noncomputable def Sref17_read : List (V U) → List (Blk U) → Option (FnOut U) := mkSpec Aref17_read bNil (fun x _ => ref17_read none x.1 x.2.1 x.2.2.1) Rref17_read
noncomputable def Eref17_read : Env U := { P := Try.prog, cd := cd, fns := fns67, lps := noL, frz := fun _r => false, nt := 74, n0 := 0 }
theorem runref17_read (x : Tape × (List Int) × (List Int) × Unit) (g : Unit) : execF Eref17_read Try.f42 (Aref17_read.enc x) (bNil.enc g) = (Tref17_read none x.1 x.2.1 x.2.2.1).map Rref17_read := by kernel_rfl
theorem okref17_read : FnOk Try.prog cd 42 Sref17_read := mk_ok (E := Eref17_read) cd_ok fns67_ok Try.func42 (by kernel_rfl) (noLoops_body (by kernel_rfl)) (aA_ok cTape_ok (aO_ok (cSl_ok 3) (aO_ok (cSl_ok 3) (aNil_ok)))) bNil_ok (T := fun x _ => Tref17_read none x.1 x.2.1 x.2.2.1) (fun _ _ => rfl) runref17_read
noncomputable def fns42 := addF 42 true Sref17_read fns67
theorem fns42_ok : ∀ f q t, fns42 f = some (q, t) → FnOk Try.prog cd f t := addF_ok okref17_read fns67_ok
/-- emulator/emulatorref17.appended -/
noncomputable def Tref17_appended (x0 : Tape) (x1 : (List UInt8)) : Tree Tape :=
  .ite (decide ((64 : Int) ≤ x0.pos))
    (.leaf (Tape.mk x0.records x0.pos x0.enable x0.ready true x0.mark true x0.command x0.count x0.addr x0.left))
    (.ite (decide (0 ≤ x0.pos))
      (.ite (decide (x0.pos ≤ ((x0.records.length : Nat) : Int)))
        (.ite (decide ((([] : List (List UInt8)).length + ((x0.records.drop (0)).take ((x0.pos).toNat - 0)).length) * 16 ≤ 140737488355328))
          (.ite (decide (((([] : List (List UInt8)) ++ ((x0.records.drop (0)).take ((x0.pos).toNat - 0))).length + ([x1]).length) * 16 ≤ 140737488355328))
            (.leaf (Tape.mk ((([] : List (List UInt8)) ++ ((x0.records.drop (0)).take ((x0.pos).toNat - 0))) ++ ([x1])) (IntKind.wrap .i64 (x0.pos + (1 : Int))) x0.enable x0.ready x0.error x0.mark x0.end_ x0.command x0.count x0.addr x0.left))
            .fail)
          .fail)
        .fail)
      .fail)
noncomputable def ref17_appended (x0 : Tape) (x1 : (List UInt8)) : Option Tape := (Tref17_appended x0 x1).run
noncomputable def Aref17_appended : Arg U (Tape × (List UInt8) × Unit) := aA cTape (aO cStr (aNil))
noncomputable def Rref17_appended (r : Tape) : List (V U) × List (Blk U) := ([vA cTape r], [])
noncomputable def Sref17_appended : List (V U) → List (Blk U) → Option (FnOut U) := mkSpec Aref17_appended bNil (fun x _ => ref17_appended x.1 x.2.1) Rref17_appended
noncomputable def Eref17_appended : Env U := { P := Try.prog, cd := cd, fns := fns42, lps := noL, frz := fun _r => false, nt := 27, n0 := 0 }
theorem runref17_appended (x : Tape × (List UInt8) × Unit) (g : Unit) : execF Eref17_appended Try.f46 (Aref17_appended.enc x) (bNil.enc g) = (Tref17_appended x.1 x.2.1).map Rref17_appended := by kernel_rfl
theorem okref17_appended : FnOk Try.prog cd 46 Sref17_appended := mk_ok (E := Eref17_appended) cd_ok fns42_ok Try.func46 (by kernel_rfl) (noLoops_body (by kernel_rfl)) (aA_ok cTape_ok (aO_ok cStr_ok (aNil_ok))) bNil_ok (T := fun x _ => Tref17_appended x.1 x.2.1) (fun _ _ => rfl) runref17_appended
noncomputable def fns46 := addF 46 true Sref17_appended fns42
theorem fns46_ok : ∀ f q t, fns46 f = some (q, t) → FnOk Try.prog cd f t := addF_ok okref17_appended fns42_ok
/-- emulator/emulatorref08.Byte -/
noncomputable def Tref08_Byte (x0 : (List Int)) (x1 : Int) : Tree Int :=
  .ite (decide ((2 : Int) = 0))
    .fail
    (.ite (decide (((x1).tmod (2 : Int)) = (0 : Int)))
      (.ite (decide ((2 : Int) = 0))
        .fail
        (.ite (decide (0 ≤ IntKind.wrap .i64 ((x1).tdiv (2 : Int))))
          (.opt Int (x0[(IntKind.wrap .i64 ((x1).tdiv (2 : Int))).toNat]?) fun y116 =>
            .leaf (IntKind.wrap .i64 (((BitVec.ofInt 64 y116 &&& BitVec.ofInt 64 (255 : Int)).toNat : Int))))
          .fail))
      (.ite (decide ((2 : Int) = 0))
        .fail
        (.ite (decide (0 ≤ IntKind.wrap .i64 ((x1).tdiv (2 : Int))))
          (.opt Int (x0[(IntKind.wrap .i64 ((x1).tdiv (2 : Int))).toNat]?) fun y117 =>
            .ite (decide (0 ≤ (8 : Int)))
              (.leaf (IntKind.wrap .i64 (((BitVec.ofInt 64 ((y117).fdiv (2 ^ (min ((8 : Int)).toNat 64))) &&& BitVec.ofInt 64 (255 : Int)).toNat : Int))))
              .fail)
          .fail)))
noncomputable def ref08_Byte (x0 : (List Int)) (x1 : Int) : Option Int := (Tref08_Byte x0 x1).run
noncomputable def Aref08_Byte : Arg U ((List Int) × Int × Unit) := aO (cSl 3) (aO (cInt .i64) (aNil))
noncomputable def Rref08_Byte (r : Int) : List (V U) × List (Blk U) := ([vO (cInt .i64) r], [])
noncomputable def Sref08_Byte : List (V U) → List (Blk U) → Option (FnOut U) := mkSpec Aref08_Byte bNil (fun x _ => ref08_Byte x.1 x.2.1) Rref08_Byte
noncomputable def Eref08_Byte : Env U := { P := Try.prog, cd := cd, fns := fns46, lps := noL, frz := fun _r => false, nt := 21, n0 := 0 }
theorem runref08_Byte (x : (List Int) × Int × Unit) (g : Unit) : execF Eref08_Byte Try.f78 (Aref08_Byte.enc x) (bNil.enc g) = (Tref08_Byte x.1 x.2.1).map Rref08_Byte := by kernel_rfl
theorem okref08_Byte : FnOk Try.prog cd 78 Sref08_Byte := mk_ok (E := Eref08_Byte) cd_ok fns46_ok Try.func78 (by kernel_rfl) (noLoops_body (by kernel_rfl)) (aO_ok (cSl_ok 3) (aO_ok (cInt_ok .i64) (aNil_ok))) bNil_ok (T := fun x _ => Tref08_Byte x.1 x.2.1) (fun _ _ => rfl) runref08_Byte
noncomputable def fns78 := addF 78 true Sref08_Byte fns46
theorem fns78_ok : ∀ f q t, fns78 f = some (q, t) → FnOk Try.prog cd f t := addF_ok okref08_Byte fns46_ok
/-- emulator/emulatorref08.Bytes -/
structure Sref08_Bytes_0 where
  t0 : (List Int)
  t1 : Int
  t2 : Int
  t9 : Int
  b0 : (List Int)
noncomputable def Wref08_Bytes_0 (s : Sref08_Bytes_0) : Tree (Sref08_Bytes_0 ⊕ (List Int)) :=
  .ite (decide (s.t9 < s.t2))
    (.opt Int (ref08_Byte s.t0 (IntKind.wrap .i64 (s.t1 + s.t9))) fun r119 =>
      .ite (decide ((s.b0.length + ([IntKind.wrap .u8 r119]).length) * 1 ≤ 140737488355328))
        (.leaf (.inl (Sref08_Bytes_0.mk s.t0 s.t1 s.t2 (IntKind.wrap .i64 (s.t9 + (1 : Int))) (s.b0 ++ ([IntKind.wrap .u8 r119])))))
        .fail)
    (.leaf (.inr s.b0))
noncomputable def Lref08_Bytes_0 (q : Option Nat) (s : Sref08_Bytes_0) : Option (List Int) := limQ q (fun s => (Wref08_Bytes_0 s).run) s
theorem leLref08_Bytes_0 (k : Nat) (s : Sref08_Bytes_0) : Le (Lref08_Bytes_0 (some k) s) (Lref08_Bytes_0 none s) := limQ_le (fun _ => Le.rfl) s
noncomputable def Tref08_Bytes (q : Option Nat) (x0 : (List Int)) (x1 : Int) (x2 : Int) : Tree ((List UInt8) × Int) :=
  .opt Bool (ref08_Within x0 x1 x2) fun r118 =>
    .ite (!r118)
      (.leaf (([], (2 : Int))))
      (.opt (List Int) (Lref08_Bytes_0 q (Sref08_Bytes_0.mk x0 x1 x2 (0 : Int) ([]))) fun l120 =>
        .leaf ((l120.map fun x => UInt8.ofNat x.toNat, (0 : Int))))
noncomputable def ref08_Bytes (q : Option Nat) (x0 : (List Int)) (x1 : Int) (x2 : Int) : Option ((List UInt8) × Int) := (Tref08_Bytes q x0 x1 x2).run
theorem leref08_Bytes (k : Nat) (x0 : (List Int)) (x1 : Int) (x2 : Int) : Le (ref08_Bytes (some k) x0 x1 x2) (ref08_Bytes none x0 x1 x2) := (TLe.opt Le.rfl fun _ => (TLe.ite TLe.rfl (TLe.opt (leLref08_Bytes_0 k _) fun _ => TLe.rfl)))
noncomputable def Aref08_Bytes : Arg U ((List Int) × Int × Int × Unit) := aO (cSl 3) (aO (cInt .i64) (aO (cInt .i64) (aNil)))
noncomputable def Rref08_Bytes (r : ((List UInt8) × Int)) : List (V U) × List (Blk U) := ([vO cStr r.1, vO (cInt .i64) r.2], [])
noncomputable def Sref08_Bytes : List (V U) → List (Blk U) → Option (FnOut U) := mkSpec Aref08_Bytes bNil (fun x _ => ref08_Bytes none x.1 x.2.1 x.2.2.1) Rref08_Bytes
noncomputable def Pref08_Bytes_0 (x : ((List Int) × Unit) × (Int × Unit) × (Int × Unit) × (Unit) × (Int × Unit) × Unit) (g : (List Int) × Unit) : Sref08_Bytes_0 := Sref08_Bytes_0.mk x.1.1 x.2.1.1 x.2.2.1.1 x.2.2.2.2.1.1 g.1
noncomputable def tAref08_Bytes_0 : Tms U (((List Int) × Unit) × (Int × Unit) × (Int × Unit) × (Unit) × (Int × Unit) × Unit) := tO 0 (cPair (cSl 3) (cUnit)) (tO 1 (cPair (cInt .i64) (cUnit)) (tO 2 (cPair (cInt .i64) (cUnit)) (tO 8 (cK (.row 0 0) (cUnit)) (tO 9 (cPair (cInt .i64) (cUnit)) (tNil)))))
noncomputable def tBref08_Bytes_0 : Bls U ((List Int) × Unit) := bRv 5 0 (bNil)
noncomputable def eSref08_Bytes_0 (s : Sref08_Bytes_0) : St U := { tm := [(0, .v (vO (cPair (cSl 3) (cUnit)) (s.t0, ()))), (1, .v (vO (cPair (cInt .i64) (cUnit)) (s.t1, ()))), (2, .v (vO (cPair (cInt .i64) (cUnit)) (s.t2, ()))), (8, .v (vO (cK (.row 0 0) (cUnit)) (()))), (9, .v (vO (cPair (cInt .i64) (cUnit)) (s.t9, ())))], hp := [.row 5 0 s.b0] }
noncomputable def xSref08_Bytes_0 (r : (List Int)) : Ex × St U := (.exit 0, { tm := [(8, .v (vO (cK (.row 0 0) (cUnit)) (())))], hp := [.row 5 0 r] })
noncomputable def xTref08_Bytes_0 (r : (List Int)) : Tree (Ex × St U) := .leaf (xSref08_Bytes_0 r)
noncomputable def href08_Bytes_0 : Hd := { keep := [0, 1, 2, 8, 9], xkeep := [6, 7, 8], own := true }
noncomputable def Eref08_Bytes : Env U := { P := Try.prog, cd := cd, fns := fns78, lps := (addL 0 href08_Bytes_0 (mkLoop tAref08_Bytes_0 tBref08_Bytes_0 Pref08_Bytes_0 (Lref08_Bytes_0 none) xTref08_Bytes_0) noL), frz := fun _r => false, nt := 31, n0 := 0 }
noncomputable def Bref08_Bytes_0 : Code := (loopAt (Try.f68.body.getD .skip) 0 0).getD .skip
theorem roundref08_Bytes_0 (s : Sref08_Bytes_0) : round Eref08_Bytes href08_Bytes_0 Bref08_Bytes_0 0 (eSref08_Bytes_0 s) = (Wref08_Bytes_0 s).map (sumE eSref08_Bytes_0 xSref08_Bytes_0) := by kernel_rfl
theorem lpref08_Bytes_0 : LpOk Eref08_Bytes Bref08_Bytes_0 0 := mkLoop_ok (A := tAref08_Bytes_0) (B := tBref08_Bytes_0) (f := Pref08_Bytes_0) (L := Lref08_Bytes_0 none) (tO_ok (cPair_ok (cSl_ok 3) cUnit_ok) (tO_ok (cPair_ok (cInt_ok .i64) cUnit_ok) (tO_ok (cPair_ok (cInt_ok .i64) cUnit_ok) (tO_ok (cK_ok cUnit_ok) (tO_ok (cPair_ok (cInt_ok .i64) cUnit_ok) tNil_ok))))) (bRv_ok bNil_ok) (enc := eSref08_Bytes_0) (out := xTref08_Bytes_0) (outS := xSref08_Bytes_0) (step := Wref08_Bytes_0) (fun _ => rfl) (fun _ _ => by kernel_rfl) (by kernel_rfl) (fun _ => rfl) roundref08_Bytes_0
theorem runref08_Bytes (x : (List Int) × Int × Int × Unit) (g : Unit) : execF Eref08_Bytes Try.f68 (Aref08_Bytes.enc x) (bNil.enc g) = (Tref08_Bytes none x.1 x.2.1 x.2.2.1).map Rref08_Bytes := by kernel_rfl
theorem okref08_Bytes : FnOk Try.prog cd 68 Sref08_Bytes := mk_ok (E := Eref08_Bytes) cd_ok fns78_ok Try.func68 (by kernel_rfl) (loops_of (addL_ok lpref08_Bytes_0 noL_ok)) (aO_ok (cSl_ok 3) (aO_ok (cInt_ok .i64) (aO_ok (cInt_ok .i64) (aNil_ok)))) bNil_ok (T := fun x _ => Tref08_Bytes none x.1 x.2.1 x.2.2.1) (fun _ _ => rfl) runref08_Bytes
noncomputable def fns68 := addF 68 true Sref08_Bytes fns78
theorem fns68_ok : ∀ f q t, fns68 f = some (q, t) → FnOk Try.prog cd f t := addF_ok okref08_Bytes fns78_ok
/-- emulator/emulatorref08.Has -/
structure Sref08_Has_0 where
  t0 : (List Int)
  t1 : Int
  t5 : Int
noncomputable def Wref08_Has_0 (s : Sref08_Has_0) : Tree (Sref08_Has_0 ⊕ (Bool ⊕ Unit)) :=
  .ite (decide (s.t5 < (s.t0.length : Int)))
    (.ite (decide (0 ≤ s.t5))
      (.opt Int (s.t0[(s.t5).toNat]?) fun y121 =>
        .ite (decide (y121 = s.t1))
          (.leaf (.inr (.inl true)))
          (.leaf (.inl (Sref08_Has_0.mk s.t0 s.t1 (IntKind.wrap .i64 (s.t5 + (1 : Int)))))))
      .fail)
    (.leaf (.inr (.inr ())))
noncomputable def Lref08_Has_0 (q : Option Nat) (s : Sref08_Has_0) : Option (Bool ⊕ Unit) := limQ q (fun s => (Wref08_Has_0 s).run) s
theorem leLref08_Has_0 (k : Nat) (s : Sref08_Has_0) : Le (Lref08_Has_0 (some k) s) (Lref08_Has_0 none s) := limQ_le (fun _ => Le.rfl) s
noncomputable def Tref08_Has (q : Option Nat) (x0 : (List Int)) (x1 : Int) : Tree Bool :=
  .opt (Bool ⊕ Unit) (Lref08_Has_0 q (Sref08_Has_0.mk x0 x1 (0 : Int))) fun l122 =>
    .ite (l122.isLeft)
      (.opt Bool (l122.getLeft?) fun a123 =>
        .leaf (a123))
      (.opt Unit (l122.getRight?) fun b124 =>
        .leaf (false))
noncomputable def ref08_Has (q : Option Nat) (x0 : (List Int)) (x1 : Int) : Option Bool := (Tref08_Has q x0 x1).run
theorem leref08_Has (k : Nat) (x0 : (List Int)) (x1 : Int) : Le (ref08_Has (some k) x0 x1) (ref08_Has none x0 x1) := (TLe.opt (leLref08_Has_0 k _) fun _ => TLe.rfl)
noncomputable def Aref08_Has : Arg U ((List Int) × Int × Unit) := aO (cSl 3) (aO (cInt .i64) (aNil))
noncomputable def Rref08_Has (r : Bool) : List (V U) × List (Blk U) := ([vO cBool r], [])
noncomputable def Sref08_Has : List (V U) → List (Blk U) → Option (FnOut U) := mkSpec Aref08_Has bNil (fun x _ => ref08_Has none x.1 x.2.1) Rref08_Has
noncomputable def Pref08_Has_0 (x : ((List Int) × Unit) × (Int × Unit) × (Int × Unit) × Unit) (_g : Unit) : Sref08_Has_0 := Sref08_Has_0.mk x.1.1 x.2.1.1 x.2.2.1.1
noncomputable def tAref08_Has_0 : Tms U (((List Int) × Unit) × (Int × Unit) × (Int × Unit) × Unit) := tO 0 (cPair (cSl 3) (cUnit)) (tO 1 (cPair (cInt .i64) (cUnit)) (tO 5 (cPair (cInt .i64) (cUnit)) (tNil)))
noncomputable def tBref08_Has_0 : Bls U (Unit) := bNil
noncomputable def eSref08_Has_0 (s : Sref08_Has_0) : St U := { tm := [(0, .v (vO (cPair (cSl 3) (cUnit)) (s.t0, ()))), (1, .v (vO (cPair (cInt .i64) (cUnit)) (s.t1, ()))), (5, .v (vO (cPair (cInt .i64) (cUnit)) (s.t5, ())))], hp := [] }
noncomputable def xSref08_Has_0 : (Bool ⊕ Unit) → Ex × St U
  | .inl r => (.ret, { tm := [(4, .v (vO (cPair cBool (cUnit)) (r, ())))], hp := [] })
  | .inr r => (.exit 0, { tm := [], hp := [] })
noncomputable def xTref08_Has_0 (y : (Bool ⊕ Unit)) : Tree (Ex × St U) := .ite y.isLeft (.opt Bool y.getLeft? fun r => .leaf (.ret, { tm := [(4, .v (vO (cPair cBool (cUnit)) (r, ())))], hp := [] })) (.opt Unit y.getRight? fun r => .leaf (.exit 0, { tm := [], hp := [] }))
noncomputable def href08_Has_0 : Hd := { keep := [0, 1, 5], xkeep := [4], own := false }
noncomputable def Eref08_Has : Env U := { P := Try.prog, cd := cd, fns := fns68, lps := (addL 0 href08_Has_0 (mkLoop tAref08_Has_0 tBref08_Has_0 Pref08_Has_0 (Lref08_Has_0 none) xTref08_Has_0) noL), frz := fun _r => false, nt := 18, n0 := 0 }
noncomputable def Bref08_Has_0 : Code := (loopAt (Try.f79.body.getD .skip) 0 0).getD .skip
theorem roundref08_Has_0 (s : Sref08_Has_0) : round Eref08_Has href08_Has_0 Bref08_Has_0 0 (eSref08_Has_0 s) = (Wref08_Has_0 s).map (sumE eSref08_Has_0 xSref08_Has_0) := by kernel_rfl
theorem lpref08_Has_0 : LpOk Eref08_Has Bref08_Has_0 0 := mkLoop_ok (A := tAref08_Has_0) (B := tBref08_Has_0) (f := Pref08_Has_0) (L := Lref08_Has_0 none) (tO_ok (cPair_ok (cSl_ok 3) cUnit_ok) (tO_ok (cPair_ok (cInt_ok .i64) cUnit_ok) (tO_ok (cPair_ok (cInt_ok .i64) cUnit_ok) tNil_ok))) bNil_ok (enc := eSref08_Has_0) (out := xTref08_Has_0) (outS := xSref08_Has_0) (step := Wref08_Has_0) (fun _ => rfl) (fun _ _ => by kernel_rfl) (by kernel_rfl) (fun b => by cases b <;> rfl) roundref08_Has_0
theorem runref08_Has (x : (List Int) × Int × Unit) (g : Unit) : execF Eref08_Has Try.f79 (Aref08_Has.enc x) (bNil.enc g) = (Tref08_Has none x.1 x.2.1).map Rref08_Has := by kernel_rfl
theorem okref08_Has : FnOk Try.prog cd 79 Sref08_Has := mk_ok (E := Eref08_Has) cd_ok fns68_ok Try.func79 (by kernel_rfl) (loops_of (addL_ok lpref08_Has_0 noL_ok)) (aO_ok (cSl_ok 3) (aO_ok (cInt_ok .i64) (aNil_ok))) bNil_ok (T := fun x _ => Tref08_Has none x.1 x.2.1) (fun _ _ => rfl) runref08_Has
noncomputable def fns79 := addF 79 true Sref08_Has fns68
theorem fns79_ok : ∀ f q t, fns79 f = some (q, t) → FnOk Try.prog cd f t := addF_ok okref08_Has fns68_ok
/-- emulator/emulatorref17.spoilt -/
structure Sref17_spoilt_0 where
  t0 : (List Int)
  t1 : Int
  t2 : Int
  t7 : Int
noncomputable def Wref17_spoilt_0 (q : Option Nat) (s : Sref17_spoilt_0) : Tree (Sref17_spoilt_0 ⊕ (Bool ⊕ Unit)) :=
  .ite (decide (s.t7 < s.t2))
    (.ite (decide ((2 : Int) = 0))
      .fail
      (.opt Bool (ref08_Has q s.t0 (IntKind.wrap .i64 ((IntKind.wrap .i64 (((IntKind.wrap .i64 (s.t1 + s.t7))).tdiv (2 : Int))) * (2 : Int)))) fun r125 =>
        .ite (r125)
          (.leaf (.inr (.inl true)))
          (.leaf (.inl (Sref17_spoilt_0.mk s.t0 s.t1 s.t2 (IntKind.wrap .i64 (s.t7 + (1 : Int))))))))
    (.leaf (.inr (.inr ())))
noncomputable def Lref17_spoilt_0 (q : Option Nat) (s : Sref17_spoilt_0) : Option (Bool ⊕ Unit) := limQ q (fun s => (Wref17_spoilt_0 q s).run) s
theorem leLref17_spoilt_0 (k : Nat) (s : Sref17_spoilt_0) : Le (Lref17_spoilt_0 (some k) s) (Lref17_spoilt_0 none s) := limQ_le (fun s => (TLe.ite (TLe.ite TLe.rfl (TLe.opt (leref08_Has k _ _) fun _ => TLe.rfl)) TLe.rfl)) s
noncomputable def Tref17_spoilt (q : Option Nat) (x0 : (List Int)) (x1 : Int) (x2 : Int) : Tree Bool :=
  .opt (Bool ⊕ Unit) (Lref17_spoilt_0 q (Sref17_spoilt_0.mk x0 x1 x2 (0 : Int))) fun l126 =>
    .ite (l126.isLeft)
      (.opt Bool (l126.getLeft?) fun a127 =>
        .leaf (a127))
      (.opt Unit (l126.getRight?) fun b128 =>
        .leaf (false))
noncomputable def ref17_spoilt (q : Option Nat) (x0 : (List Int)) (x1 : Int) (x2 : Int) : Option Bool := (Tref17_spoilt q x0 x1 x2).run
theorem leref17_spoilt (k : Nat) (x0 : (List Int)) (x1 : Int) (x2 : Int) : Le (ref17_spoilt (some k) x0 x1 x2) (ref17_spoilt none x0 x1 x2) := (TLe.opt (leLref17_spoilt_0 k _) fun _ => TLe.rfl)
noncomputable def Aref17_spoilt : Arg U ((List Int) × Int × Int × Unit) := aO (cSl 3) (aO (cInt .i64) (aO (cInt .i64) (aNil)))
noncomputable def Rref17_spoilt (r : Bool) : List (V U) × List (Blk U) := ([vO cBool r], [])
noncomputable def Sref17_spoilt : List (V U) → List (Blk U) → Option (FnOut U) := mkSpec Aref17_spoilt bNil (fun x _ => ref17_spoilt none x.1 x.2.1 x.2.2.1) Rref17_spoilt
noncomputable def Pref17_spoilt_0 (x : ((List Int) × Unit) × (Int × Unit) × (Int × Unit) × (Int × Unit) × Unit) (_g : Unit) : Sref17_spoilt_0 := Sref17_spoilt_0.mk x.1.1 x.2.1.1 x.2.2.1.1 x.2.2.2.1.1
noncomputable def tAref17_spoilt_0 : Tms U (((List Int) × Unit) × (Int × Unit) × (Int × Unit) × (Int × Unit) × Unit) := tO 0 (cPair (cSl 3) (cUnit)) (tO 1 (cPair (cInt .i64) (cUnit)) (tO 2 (cPair (cInt .i64) (cUnit)) (tO 7 (cPair (cInt .i64) (cUnit)) (tNil))))
noncomputable def tBref17_spoilt_0 : Bls U (Unit) := bNil
noncomputable def eSref17_spoilt_0 (s : Sref17_spoilt_0) : St U := { tm := [(0, .v (vO (cPair (cSl 3) (cUnit)) (s.t0, ()))), (1, .v (vO (cPair (cInt .i64) (cUnit)) (s.t1, ()))), (2, .v (vO (cPair (cInt .i64) (cUnit)) (s.t2, ()))), (7, .v (vO (cPair (cInt .i64) (cUnit)) (s.t7, ())))], hp := [] }
noncomputable def xSref17_spoilt_0 : (Bool ⊕ Unit) → Ex × St U
  | .inl r => (.ret, { tm := [(6, .v (vO (cPair cBool (cUnit)) (r, ())))], hp := [] })
  | .inr r => (.exit 0, { tm := [], hp := [] })
noncomputable def xTref17_spoilt_0 (y : (Bool ⊕ Unit)) : Tree (Ex × St U) := .ite y.isLeft (.opt Bool y.getLeft? fun r => .leaf (.ret, { tm := [(6, .v (vO (cPair cBool (cUnit)) (r, ())))], hp := [] })) (.opt Unit y.getRight? fun r => .leaf (.exit 0, { tm := [], hp := [] }))
noncomputable def href17_spoilt_0 : Hd := { keep := [0, 1, 2, 7], xkeep := [6], own := false }
noncomputable def Eref17_spoilt : Env U := { P := Try.prog, cd := cd, fns := fns79, lps := (addL 0 href17_spoilt_0 (mkLoop tAref17_spoilt_0 tBref17_spoilt_0 Pref17_spoilt_0 (Lref17_spoilt_0 none) xTref17_spoilt_0) noL), frz := fun _r => false, nt := 20, n0 := 0 }
noncomputable def Bref17_spoilt_0 : Code := (loopAt (Try.f69.body.getD .skip) 0 0).getD .skip
theorem roundref17_spoilt_0 (s : Sref17_spoilt_0) : round Eref17_spoilt href17_spoilt_0 Bref17_spoilt_0 0 (eSref17_spoilt_0 s) = (Wref17_spoilt_0 none s).map (sumE eSref17_spoilt_0 xSref17_spoilt_0) := by kernel_rfl
theorem lpref17_spoilt_0 : LpOk Eref17_spoilt Bref17_spoilt_0 0 := mkLoop_ok (A := tAref17_spoilt_0) (B := tBref17_spoilt_0) (f := Pref17_spoilt_0) (L := Lref17_spoilt_0 none) (tO_ok (cPair_ok (cSl_ok 3) cUnit_ok) (tO_ok (cPair_ok (cInt_ok .i64) cUnit_ok) (tO_ok (cPair_ok (cInt_ok .i64) cUnit_ok) (tO_ok (cPair_ok (cInt_ok .i64) cUnit_ok) tNil_ok)))) bNil_ok (enc := eSref17_spoilt_0) (out := xTref17_spoilt_0) (outS := xSref17_spoilt_0) (step := Wref17_spoilt_0 none) (fun _ => rfl) (fun _ _ => by kernel_rfl) (by kernel_rfl) (fun b => by cases b <;> rfl) roundref17_spoilt_0
theorem runref17_spoilt (x : (List Int) × Int × Int × Unit) (g : Unit) : execF Eref17_spoilt Try.f69 (Aref17_spoilt.enc x) (bNil.enc g) = (Tref17_spoilt none x.1 x.2.1 x.2.2.1).map Rref17_spoilt := by kernel_rfl
theorem okref17_spoilt : FnOk Try.prog cd 69 Sref17_spoilt := mk_ok (E := Eref17_spoilt) cd_ok fns79_ok Try.func69 (by kernel_rfl) (loops_of (addL_ok lpref17_spoilt_0 noL_ok)) (aO_ok (cSl_ok 3) (aO_ok (cInt_ok .i64) (aO_ok (cInt_ok .i64) (aNil_ok)))) bNil_ok (T := fun x _ => Tref17_spoilt none x.1 x.2.1 x.2.2.1) (fun _ _ => rfl) runref17_spoilt
noncomputable def fns69 := addF 69 true Sref17_spoilt fns79
theorem fns69_ok : ∀ f q t, fns69 f = some (q, t) → FnOk Try.prog cd f t := addF_ok okref17_spoilt fns79_ok
/-- emulator/emulatorref17.write -/
noncomputable def Tref17_write (q : Option Nat) (x0 : Tape) (x1 : (List Int)) (x2 : (List Int)) : Tree Tape :=
  .opt ((List UInt8) × Int) (ref08_Bytes q x1 x0.addr x0.count) fun r129 =>
    .ite (decide (x0.count < (1 : Int)))
      (.leaf (Tape.mk x0.records x0.pos x0.enable x0.ready true x0.mark x0.end_ x0.command x0.count x0.addr x0.left))
      (.ite (decide ((512 : Int) < x0.count))
        (.leaf (Tape.mk x0.records x0.pos x0.enable x0.ready true x0.mark x0.end_ x0.command x0.count x0.addr x0.left))
        (.ite (!decide (r129.2 = (0 : Int)))
          (.leaf (Tape.mk x0.records x0.pos x0.enable x0.ready true x0.mark x0.end_ x0.command x0.count x0.addr x0.left))
          (.opt Bool (ref17_spoilt q x2 x0.addr x0.count) fun r130 =>
            .ite (r130)
              (.leaf (Tape.mk x0.records x0.pos x0.enable x0.ready true x0.mark x0.end_ x0.command x0.count x0.addr x0.left))
              (.opt Tape (ref17_appended x0 r129.1) fun r131 =>
                .leaf (r131)))))
noncomputable def ref17_write (q : Option Nat) (x0 : Tape) (x1 : (List Int)) (x2 : (List Int)) : Option Tape := (Tref17_write q x0 x1 x2).run
theorem leref17_write (k : Nat) (x0 : Tape) (x1 : (List Int)) (x2 : (List Int)) : Le (ref17_write (some k) x0 x1 x2) (ref17_write none x0 x1 x2) := (TLe.opt (leref08_Bytes k _ _ _) fun _ => (TLe.ite TLe.rfl (TLe.ite TLe.rfl (TLe.ite TLe.rfl (TLe.opt (leref17_spoilt k _ _ _) fun _ => TLe.rfl)))))
noncomputable def Aref17_write : Arg U (Tape × (List Int) × (List Int) × Unit) := aA cTape (aO (cSl 3) (aO (cSl 3) (aNil)))
noncomputable def Rref17_write (r : Tape) : List (V U) × List (Blk U) := ([vA cTape r], [])
noncomputable def Sref17_write : List (V U) → List (Blk U) → Option (FnOut U) := mkSpec Aref17_write bNil (fun x _ => ref17_write none x.1 x.2.1 x.2.2.1) Rref17_write
noncomputable def Eref17_write : Env U := { P := Try.prog, cd := cd, fns := fns69, lps := noL, frz := fun _r => false, nt := 43, n0 := 0 }
theorem runref17_write (x : Tape × (List Int) × (List Int) × Unit) (g : Unit) : execF Eref17_write Try.f43 (Aref17_write.enc x) (bNil.enc g) = (Tref17_write none x.1 x.2.1 x.2.2.1).map Rref17_write := by kernel_rfl
theorem okref17_write : FnOk Try.prog cd 43 Sref17_write := mk_ok (E := Eref17_write) cd_ok fns69_ok Try.func43 (by kernel_rfl) (noLoops_body (by kernel_rfl)) (aA_ok cTape_ok (aO_ok (cSl_ok 3) (aO_ok (cSl_ok 3) (aNil_ok)))) bNil_ok (T := fun x _ => Tref17_write none x.1 x.2.1 x.2.2.1) (fun _ _ => rfl) runref17_write
noncomputable def fns43 := addF 43 true Sref17_write fns69
theorem fns43_ok : ∀ f q t, fns43 f = some (q, t) → FnOk Try.prog cd f t := addF_ok okref17_write fns69_ok
/-- emulator/emulatorref17.back -/
noncomputable def Tref17_back (x0 : Tape) : Tree Tape :=
  .ite (decide (x0.pos = (0 : Int)))
    (.leaf (Tape.mk x0.records x0.pos x0.enable x0.ready x0.error x0.mark true x0.command x0.count x0.addr x0.left))
    (.ite (x0.mark)
      (.leaf (Tape.mk x0.records (IntKind.wrap .i64 (x0.pos - (1 : Int))) x0.enable x0.ready x0.error true x0.end_ x0.command x0.count x0.addr x0.left))
      (.ite (decide (0 ≤ IntKind.wrap .i64 (x0.pos - (1 : Int))))
        (.opt (List UInt8) (x0.records[(IntKind.wrap .i64 (x0.pos - (1 : Int))).toNat]?) fun y132 =>
          .leaf (Tape.mk x0.records (IntKind.wrap .i64 (x0.pos - (1 : Int))) x0.enable x0.ready x0.error (decide (y132 = ([]))) x0.end_ x0.command x0.count x0.addr x0.left))
        .fail))
noncomputable def ref17_back (x0 : Tape) : Option Tape := (Tref17_back x0).run
noncomputable def Aref17_back : Arg U (Tape × Unit) := aA cTape (aNil)
noncomputable def Rref17_back (r : Tape) : List (V U) × List (Blk U) := ([vA cTape r], [])
noncomputable def Sref17_back : List (V U) → List (Blk U) → Option (FnOut U) := mkSpec Aref17_back bNil (fun x _ => ref17_back x.1) Rref17_back
noncomputable def Eref17_back : Env U := { P := Try.prog, cd := cd, fns := fns43, lps := noL, frz := fun _r => false, nt := 25, n0 := 0 }
theorem runref17_back (x : Tape × Unit) (g : Unit) : execF Eref17_back Try.f45 (Aref17_back.enc x) (bNil.enc g) = (Tref17_back x.1).map Rref17_back := by kernel_rfl
theorem okref17_back : FnOk Try.prog cd 45 Sref17_back := mk_ok (E := Eref17_back) cd_ok fns43_ok Try.func45 (by kernel_rfl) (noLoops_body (by kernel_rfl)) (aA_ok cTape_ok (aNil_ok)) bNil_ok (T := fun x _ => Tref17_back x.1) (fun _ _ => rfl) runref17_back
noncomputable def fns45 := addF 45 true Sref17_back fns43
theorem fns45_ok : ∀ f q t, fns45 f = some (q, t) → FnOk Try.prog cd f t := addF_ok okref17_back fns43_ok
/-- emulator/emulatorref17.Tick -/
noncomputable def Tref17_Tick (q : Option Nat) (x0 : Tape) (x1 : (List Int)) (x2 : (List Int)) : Tree (Tape × (List Int) × (List Int)) :=
  .ite (decide (x0.left ≤ (0 : Int)))
    (.leaf ((x0, x1, x2)))
    (.ite (decide ((0 : Int) < (IntKind.wrap .i64 (x0.left - (1 : Int)))))
      (.leaf ((Tape.mk x0.records x0.pos x0.enable x0.ready x0.error x0.mark x0.end_ x0.command x0.count x0.addr (IntKind.wrap .i64 (x0.left - (1 : Int))), x1, x2)))
      (.ite (decide (x0.command = (1 : Int)))
        (.opt (Tape × (List Int) × (List Int)) (ref17_read q (Tape.mk x0.records x0.pos x0.enable true x0.error x0.mark x0.end_ x0.command x0.count x0.addr (IntKind.wrap .i64 (x0.left - (1 : Int)))) x1 x2) fun r133 =>
          .leaf ((r133.1, r133.2.1, r133.2.2)))
        (.ite (decide (x0.command = (2 : Int)))
          (.opt Tape (ref17_write q (Tape.mk x0.records x0.pos x0.enable true x0.error x0.mark x0.end_ x0.command x0.count x0.addr (IntKind.wrap .i64 (x0.left - (1 : Int)))) x1 x2) fun r134 =>
            .leaf ((r134, x1, x2)))
          (.ite (decide (x0.command = (3 : Int)))
            (.opt (Tape × Bool) (ref17_passed (Tape.mk x0.records x0.pos x0.enable true x0.error x0.mark x0.end_ x0.command x0.count x0.addr (IntKind.wrap .i64 (x0.left - (1 : Int))))) fun r135 =>
              .leaf ((r135.1, x1, x2)))
            (.ite (decide (x0.command = (4 : Int)))
              (.opt Tape (ref17_back (Tape.mk x0.records x0.pos x0.enable true x0.error x0.mark x0.end_ x0.command x0.count x0.addr (IntKind.wrap .i64 (x0.left - (1 : Int))))) fun r136 =>
                .leaf ((r136, x1, x2)))
              (.ite (decide (x0.command = (5 : Int)))
                (.leaf ((Tape.mk x0.records (0 : Int) x0.enable true x0.error x0.mark x0.end_ x0.command x0.count x0.addr (IntKind.wrap .i64 (x0.left - (1 : Int))), x1, x2)))
                (.ite (decide (x0.command = (6 : Int)))
                  (.opt Tape (ref17_appended (Tape.mk x0.records x0.pos x0.enable true x0.error x0.mark x0.end_ x0.command x0.count x0.addr (IntKind.wrap .i64 (x0.left - (1 : Int)))) ([])) fun r137 =>
                    .leaf ((r137, x1, x2)))
                  (.leaf ((Tape.mk x0.records x0.pos x0.enable true x0.error x0.mark x0.end_ x0.command x0.count x0.addr (IntKind.wrap .i64 (x0.left - (1 : Int))), x1, x2))))))))))
noncomputable def ref17_Tick (q : Option Nat) (x0 : Tape) (x1 : (List Int)) (x2 : (List Int)) : Option (Tape × (List Int) × (List Int)) := (Tref17_Tick q x0 x1 x2).run
theorem leref17_Tick (k : Nat) (x0 : Tape) (x1 : (List Int)) (x2 : (List Int)) : Le (ref17_Tick (some k) x0 x1 x2) (ref17_Tick none x0 x1 x2) := (TLe.ite TLe.rfl (TLe.ite TLe.rfl (TLe.ite (TLe.opt (leref17_read k _ _ _) fun _ => TLe.rfl) (TLe.ite (TLe.opt (leref17_write k _ _ _) fun _ => TLe.rfl) TLe.rfl))))
noncomputable def Aref17_Tick : Arg U (Tape × (List Int) × (List Int) × Unit) := aA cTape (aO (cSl 3) (aO (cSl 3) (aNil)))
noncomputable def Rref17_Tick (r : (Tape × (List Int) × (List Int))) : List (V U) × List (Blk U) := ([vA cTape r.1, vO (cSl 3) r.2.1, vO (cSl 3) r.2.2], [])
noncomputable def Sref17_Tick : List (V U) → List (Blk U) → Option (FnOut U) := mkSpec Aref17_Tick bNil (fun x _ => ref17_Tick none x.1 x.2.1 x.2.2.1) Rref17_Tick
noncomputable def Eref17_Tick : Env U := { P := Try.prog, cd := cd, fns := fns45, lps := noL, frz := fun _r => false, nt := 66, n0 := 0 }
theorem runref17_Tick (x : Tape × (List Int) × (List Int) × Unit) (g : Unit) : execF Eref17_Tick Try.f11 (Aref17_Tick.enc x) (bNil.enc g) = (Tref17_Tick none x.1 x.2.1 x.2.2.1).map Rref17_Tick := by kernel_rfl
theorem okref17_Tick : FnOk Try.prog cd 11 Sref17_Tick := mk_ok (E := Eref17_Tick) cd_ok fns45_ok Try.func11 (by kernel_rfl) (noLoops_body (by kernel_rfl)) (aA_ok cTape_ok (aO_ok (cSl_ok 3) (aO_ok (cSl_ok 3) (aNil_ok)))) bNil_ok (T := fun x _ => Tref17_Tick none x.1 x.2.1 x.2.2.1) (fun _ _ => rfl) runref17_Tick
noncomputable def fns11 := addF 11 true Sref17_Tick fns45
theorem fns11_ok : ∀ f q t, fns11 f = some (q, t) → FnOk Try.prog cd f t := addF_ok okref17_Tick fns45_ok
/-- emulator/emulatorref17.SameTexts -/
structure Sref17_SameTexts_0 where
  t0 : (List (List UInt8))
  t1 : (List (List UInt8))
  t5 : Int
noncomputable def Wref17_SameTexts_0 (s : Sref17_SameTexts_0) : Tree (Sref17_SameTexts_0 ⊕ (Bool ⊕ Unit)) :=
  .ite (decide (s.t5 < (s.t0.length : Int)))
    (.ite (decide (0 ≤ s.t5))
      (.opt (List UInt8) (s.t0[(s.t5).toNat]?) fun y138 =>
        .ite (decide (0 ≤ s.t5))
          (.opt (List UInt8) (s.t1[(s.t5).toNat]?) fun y139 =>
            .ite (!decide (y138 = y139))
              (.leaf (.inr (.inl false)))
              (.leaf (.inl (Sref17_SameTexts_0.mk s.t0 s.t1 (IntKind.wrap .i64 (s.t5 + (1 : Int)))))))
          .fail)
      .fail)
    (.leaf (.inr (.inr ())))
noncomputable def Lref17_SameTexts_0 (q : Option Nat) (s : Sref17_SameTexts_0) : Option (Bool ⊕ Unit) := limQ q (fun s => (Wref17_SameTexts_0 s).run) s
theorem leLref17_SameTexts_0 (k : Nat) (s : Sref17_SameTexts_0) : Le (Lref17_SameTexts_0 (some k) s) (Lref17_SameTexts_0 none s) := limQ_le (fun _ => Le.rfl) s
noncomputable def Tref17_SameTexts (q : Option Nat) (x0 : (List (List UInt8))) (x1 : (List (List UInt8))) : Tree Bool :=
  .ite (!decide ((x0.length : Int) = (x1.length : Int)))
    (.leaf (false))
    (.opt (Bool ⊕ Unit) (Lref17_SameTexts_0 q (Sref17_SameTexts_0.mk x0 x1 (0 : Int))) fun l140 =>
      .ite (l140.isLeft)
        (.opt Bool (l140.getLeft?) fun a141 =>
          .leaf (a141))
        (.opt Unit (l140.getRight?) fun b142 =>
          .leaf (true)))
noncomputable def ref17_SameTexts (q : Option Nat) (x0 : (List (List UInt8))) (x1 : (List (List UInt8))) : Option Bool := (Tref17_SameTexts q x0 x1).run
theorem leref17_SameTexts (k : Nat) (x0 : (List (List UInt8))) (x1 : (List (List UInt8))) : Le (ref17_SameTexts (some k) x0 x1) (ref17_SameTexts none x0 x1) := (TLe.ite TLe.rfl (TLe.opt (leLref17_SameTexts_0 k _) fun _ => TLe.rfl))
noncomputable def Aref17_SameTexts : Arg U ((List (List UInt8)) × (List (List UInt8)) × Unit) := aO (cSl 9) (aO (cSl 9) (aNil))
noncomputable def Rref17_SameTexts (r : Bool) : List (V U) × List (Blk U) := ([vO cBool r], [])
noncomputable def Sref17_SameTexts : List (V U) → List (Blk U) → Option (FnOut U) := mkSpec Aref17_SameTexts bNil (fun x _ => ref17_SameTexts none x.1 x.2.1) Rref17_SameTexts
noncomputable def Pref17_SameTexts_0 (x : ((List (List UInt8)) × Unit) × ((List (List UInt8)) × Unit) × (Int × Unit) × Unit) (_g : Unit) : Sref17_SameTexts_0 := Sref17_SameTexts_0.mk x.1.1 x.2.1.1 x.2.2.1.1
noncomputable def tAref17_SameTexts_0 : Tms U (((List (List UInt8)) × Unit) × ((List (List UInt8)) × Unit) × (Int × Unit) × Unit) := tO 0 (cPair (cSl 9) (cUnit)) (tO 1 (cPair (cSl 9) (cUnit)) (tO 5 (cPair (cInt .i64) (cUnit)) (tNil)))
noncomputable def tBref17_SameTexts_0 : Bls U (Unit) := bNil
noncomputable def eSref17_SameTexts_0 (s : Sref17_SameTexts_0) : St U := { tm := [(0, .v (vO (cPair (cSl 9) (cUnit)) (s.t0, ()))), (1, .v (vO (cPair (cSl 9) (cUnit)) (s.t1, ()))), (5, .v (vO (cPair (cInt .i64) (cUnit)) (s.t5, ())))], hp := [] }
noncomputable def xSref17_SameTexts_0 : (Bool ⊕ Unit) → Ex × St U
  | .inl r => (.ret, { tm := [(4, .v (vO (cPair cBool (cUnit)) (r, ())))], hp := [] })
  | .inr r => (.exit 0, { tm := [], hp := [] })
noncomputable def xTref17_SameTexts_0 (y : (Bool ⊕ Unit)) : Tree (Ex × St U) := .ite y.isLeft (.opt Bool y.getLeft? fun r => .leaf (.ret, { tm := [(4, .v (vO (cPair cBool (cUnit)) (r, ())))], hp := [] })) (.opt Unit y.getRight? fun r => .leaf (.exit 0, { tm := [], hp := [] }))
noncomputable def href17_SameTexts_0 : Hd := { keep := [0, 1, 5], xkeep := [4], own := false }
noncomputable def Eref17_SameTexts : Env U := { P := Try.prog, cd := cd, fns := fns11, lps := (addL 0 href17_SameTexts_0 (mkLoop tAref17_SameTexts_0 tBref17_SameTexts_0 Pref17_SameTexts_0 (Lref17_SameTexts_0 none) xTref17_SameTexts_0) noL), frz := fun _r => false, nt := 26, n0 := 0 }
noncomputable def Bref17_SameTexts_0 : Code := (loopAt (Try.f47.body.getD .skip) 0 0).getD .skip
theorem roundref17_SameTexts_0 (s : Sref17_SameTexts_0) : round Eref17_SameTexts href17_SameTexts_0 Bref17_SameTexts_0 0 (eSref17_SameTexts_0 s) = (Wref17_SameTexts_0 s).map (sumE eSref17_SameTexts_0 xSref17_SameTexts_0) := by kernel_rfl
theorem lpref17_SameTexts_0 : LpOk Eref17_SameTexts Bref17_SameTexts_0 0 := mkLoop_ok (A := tAref17_SameTexts_0) (B := tBref17_SameTexts_0) (f := Pref17_SameTexts_0) (L := Lref17_SameTexts_0 none) (tO_ok (cPair_ok (cSl_ok 9) cUnit_ok) (tO_ok (cPair_ok (cSl_ok 9) cUnit_ok) (tO_ok (cPair_ok (cInt_ok .i64) cUnit_ok) tNil_ok))) bNil_ok (enc := eSref17_SameTexts_0) (out := xTref17_SameTexts_0) (outS := xSref17_SameTexts_0) (step := Wref17_SameTexts_0) (fun _ => rfl) (fun _ _ => by kernel_rfl) (by kernel_rfl) (fun b => by cases b <;> rfl) roundref17_SameTexts_0
theorem runref17_SameTexts (x : (List (List UInt8)) × (List (List UInt8)) × Unit) (g : Unit) : execF Eref17_SameTexts Try.f47 (Aref17_SameTexts.enc x) (bNil.enc g) = (Tref17_SameTexts none x.1 x.2.1).map Rref17_SameTexts := by kernel_rfl
theorem okref17_SameTexts : FnOk Try.prog cd 47 Sref17_SameTexts := mk_ok (E := Eref17_SameTexts) cd_ok fns11_ok Try.func47 (by kernel_rfl) (loops_of (addL_ok lpref17_SameTexts_0 noL_ok)) (aO_ok (cSl_ok 9) (aO_ok (cSl_ok 9) (aNil_ok))) bNil_ok (T := fun x _ => Tref17_SameTexts none x.1 x.2.1) (fun _ _ => rfl) runref17_SameTexts
noncomputable def fns47 := addF 47 true Sref17_SameTexts fns11
theorem fns47_ok : ∀ f q t, fns47 f = some (q, t) → FnOk Try.prog cd f t := addF_ok okref17_SameTexts fns11_ok
/-- emulator/emulatorref17.Same -/
noncomputable def Tref17_Same (q : Option Nat) (x0 : Tape) (x1 : Tape) : Tree Bool :=
  .opt Bool (ref17_SameTexts q x0.records x1.records) fun r143 =>
    .ite (!r143)
      (.leaf (false))
      (.ite (!decide (x0.pos = x1.pos))
        (.leaf (false))
        (.ite (!(x0.enable == x1.enable))
          (.leaf (false))
          (.ite (!(x0.ready == x1.ready))
            (.leaf (false))
            (.ite (!(x0.error == x1.error))
              (.leaf (false))
              (.ite ((x0.mark == x1.mark))
                (.ite ((x0.end_ == x1.end_))
                  (.ite (decide (x0.command = x1.command))
                    (.ite (decide (x0.count = x1.count))
                      (.ite (decide (x0.addr = x1.addr))
                        (.leaf (decide (x0.left = x1.left)))
                        (.leaf (false)))
                      (.leaf (false)))
                    (.leaf (false)))
                  (.leaf (false)))
                (.leaf (false)))))))
noncomputable def ref17_Same (q : Option Nat) (x0 : Tape) (x1 : Tape) : Option Bool := (Tref17_Same q x0 x1).run
theorem leref17_Same (k : Nat) (x0 : Tape) (x1 : Tape) : Le (ref17_Same (some k) x0 x1) (ref17_Same none x0 x1) := (TLe.opt (leref17_SameTexts k _ _) fun _ => TLe.rfl)
noncomputable def Aref17_Same : Arg U (Tape × Tape × Unit) := aA cTape (aA cTape (aNil))
noncomputable def Rref17_Same (r : Bool) : List (V U) × List (Blk U) := ([vO cBool r], [])
noncomputable def Sref17_Same : List (V U) → List (Blk U) → Option (FnOut U) := mkSpec Aref17_Same bNil (fun x _ => ref17_Same none x.1 x.2.1) Rref17_Same
noncomputable def Eref17_Same : Env U := { P := Try.prog, cd := cd, fns := fns47, lps := noL, frz := fun _r => false, nt := 79, n0 := 0 }
theorem runref17_Same (x : Tape × Tape × Unit) (g : Unit) : execF Eref17_Same Try.f12 (Aref17_Same.enc x) (bNil.enc g) = (Tref17_Same none x.1 x.2.1).map Rref17_Same := by kernel_rfl
theorem okref17_Same : FnOk Try.prog cd 12 Sref17_Same := mk_ok (E := Eref17_Same) cd_ok fns47_ok Try.func12 (by kernel_rfl) (noLoops_body (by kernel_rfl)) (aA_ok cTape_ok (aA_ok cTape_ok (aNil_ok))) bNil_ok (T := fun x _ => Tref17_Same none x.1 x.2.1) (fun _ _ => rfl) runref17_Same
noncomputable def fns12 := addF 12 true Sref17_Same fns47
theorem fns12_ok : ∀ f q t, fns12 f = some (q, t) → FnOk Try.prog cd f t := addF_ok okref17_Same fns47_ok
/-- emulator/emulatorref08.Same -/
structure Sref08_Same_0 where
  t0 : (List Int)
  t1 : (List Int)
  t5 : Int
noncomputable def Wref08_Same_0 (s : Sref08_Same_0) : Tree (Sref08_Same_0 ⊕ (Bool ⊕ Unit)) :=
  .ite (decide (s.t5 < (s.t0.length : Int)))
    (.ite (decide (0 ≤ s.t5))
      (.opt Int (s.t0[(s.t5).toNat]?) fun y144 =>
        .ite (decide (0 ≤ s.t5))
          (.opt Int (s.t1[(s.t5).toNat]?) fun y145 =>
            .ite (!decide (y144 = y145))
              (.leaf (.inr (.inl false)))
              (.leaf (.inl (Sref08_Same_0.mk s.t0 s.t1 (IntKind.wrap .i64 (s.t5 + (1 : Int)))))))
          .fail)
      .fail)
    (.leaf (.inr (.inr ())))
noncomputable def Lref08_Same_0 (q : Option Nat) (s : Sref08_Same_0) : Option (Bool ⊕ Unit) := limQ q (fun s => (Wref08_Same_0 s).run) s
theorem leLref08_Same_0 (k : Nat) (s : Sref08_Same_0) : Le (Lref08_Same_0 (some k) s) (Lref08_Same_0 none s) := limQ_le (fun _ => Le.rfl) s
noncomputable def Tref08_Same (q : Option Nat) (x0 : (List Int)) (x1 : (List Int)) : Tree Bool :=
  .ite (!decide ((x0.length : Int) = (x1.length : Int)))
    (.leaf (false))
    (.opt (Bool ⊕ Unit) (Lref08_Same_0 q (Sref08_Same_0.mk x0 x1 (0 : Int))) fun l146 =>
      .ite (l146.isLeft)
        (.opt Bool (l146.getLeft?) fun a147 =>
          .leaf (a147))
        (.opt Unit (l146.getRight?) fun b148 =>
          .leaf (true)))
noncomputable def ref08_Same (q : Option Nat) (x0 : (List Int)) (x1 : (List Int)) : Option Bool := (Tref08_Same q x0 x1).run
theorem leref08_Same (k : Nat) (x0 : (List Int)) (x1 : (List Int)) : Le (ref08_Same (some k) x0 x1) (ref08_Same none x0 x1) := (TLe.ite TLe.rfl (TLe.opt (leLref08_Same_0 k _) fun _ => TLe.rfl))
noncomputable def Aref08_Same : Arg U ((List Int) × (List Int) × Unit) := aO (cSl 3) (aO (cSl 3) (aNil))
noncomputable def Rref08_Same (r : Bool) : List (V U) × List (Blk U) := ([vO cBool r], [])
noncomputable def Sref08_Same : List (V U) → List (Blk U) → Option (FnOut U) := mkSpec Aref08_Same bNil (fun x _ => ref08_Same none x.1 x.2.1) Rref08_Same
noncomputable def Pref08_Same_0 (x : ((List Int) × Unit) × ((List Int) × Unit) × (Int × Unit) × Unit) (_g : Unit) : Sref08_Same_0 := Sref08_Same_0.mk x.1.1 x.2.1.1 x.2.2.1.1
noncomputable def tAref08_Same_0 : Tms U (((List Int) × Unit) × ((List Int) × Unit) × (Int × Unit) × Unit) := tO 0 (cPair (cSl 3) (cUnit)) (tO 1 (cPair (cSl 3) (cUnit)) (tO 5 (cPair (cInt .i64) (cUnit)) (tNil)))
noncomputable def tBref08_Same_0 : Bls U (Unit) := bNil
noncomputable def eSref08_Same_0 (s : Sref08_Same_0) : St U := { tm := [(0, .v (vO (cPair (cSl 3) (cUnit)) (s.t0, ()))), (1, .v (vO (cPair (cSl 3) (cUnit)) (s.t1, ()))), (5, .v (vO (cPair (cInt .i64) (cUnit)) (s.t5, ())))], hp := [] }
noncomputable def xSref08_Same_0 : (Bool ⊕ Unit) → Ex × St U
  | .inl r => (.ret, { tm := [(4, .v (vO (cPair cBool (cUnit)) (r, ())))], hp := [] })
  | .inr r => (.exit 0, { tm := [], hp := [] })
noncomputable def xTref08_Same_0 (y : (Bool ⊕ Unit)) : Tree (Ex × St U) := .ite y.isLeft (.opt Bool y.getLeft? fun r => .leaf (.ret, { tm := [(4, .v (vO (cPair cBool (cUnit)) (r, ())))], hp := [] })) (.opt Unit y.getRight? fun r => .leaf (.exit 0, { tm := [], hp := [] }))
noncomputable def href08_Same_0 : Hd := { keep := [0, 1, 5], xkeep := [4], own := false }
noncomputable def Eref08_Same : Env U := { P := Try.prog, cd := cd, fns := fns12, lps := (addL 0 href08_Same_0 (mkLoop tAref08_Same_0 tBref08_Same_0 Pref08_Same_0 (Lref08_Same_0 none) xTref08_Same_0) noL), frz := fun _r => false, nt := 26, n0 := 0 }
noncomputable def Bref08_Same_0 : Code := (loopAt (Try.f13.body.getD .skip) 0 0).getD .skip
theorem roundref08_Same_0 (s : Sref08_Same_0) : round Eref08_Same href08_Same_0 Bref08_Same_0 0 (eSref08_Same_0 s) = (Wref08_Same_0 s).map (sumE eSref08_Same_0 xSref08_Same_0) := by kernel_rfl
theorem lpref08_Same_0 : LpOk Eref08_Same Bref08_Same_0 0 := mkLoop_ok (A := tAref08_Same_0) (B := tBref08_Same_0) (f := Pref08_Same_0) (L := Lref08_Same_0 none) (tO_ok (cPair_ok (cSl_ok 3) cUnit_ok) (tO_ok (cPair_ok (cSl_ok 3) cUnit_ok) (tO_ok (cPair_ok (cInt_ok .i64) cUnit_ok) tNil_ok))) bNil_ok (enc := eSref08_Same_0) (out := xTref08_Same_0) (outS := xSref08_Same_0) (step := Wref08_Same_0) (fun _ => rfl) (fun _ _ => by kernel_rfl) (by kernel_rfl) (fun b => by cases b <;> rfl) roundref08_Same_0
theorem runref08_Same (x : (List Int) × (List Int) × Unit) (g : Unit) : execF Eref08_Same Try.f13 (Aref08_Same.enc x) (bNil.enc g) = (Tref08_Same none x.1 x.2.1).map Rref08_Same := by kernel_rfl
theorem okref08_Same : FnOk Try.prog cd 13 Sref08_Same := mk_ok (E := Eref08_Same) cd_ok fns12_ok Try.func13 (by kernel_rfl) (loops_of (addL_ok lpref08_Same_0 noL_ok)) (aO_ok (cSl_ok 3) (aO_ok (cSl_ok 3) (aNil_ok))) bNil_ok (T := fun x _ => Tref08_Same none x.1 x.2.1) (fun _ _ => rfl) runref08_Same
noncomputable def fns13 := addF 13 true Sref08_Same fns12
theorem fns13_ok : ∀ f q t, fns13 f = some (q, t) → FnOk Try.prog cd f t := addF_ok okref08_Same fns12_ok
/-- emulator/tape.command -/
noncomputable def Ttape_command (x0 : Tape) (x1 : Int) : Tree Tape :=
  .ite (!x0.ready)
    (.leaf (Tape.mk x0.records x0.pos (!decide ((IntKind.wrap .i64 (((BitVec.ofInt 64 x1 &&& BitVec.ofInt 64 (64 : Int)).toNat : Int))) = (0 : Int))) x0.ready x0.error x0.mark x0.end_ x0.command x0.count x0.addr x0.left))
    (.ite (decide ((IntKind.wrap .i64 (((BitVec.ofInt 64 x1 &&& BitVec.ofInt 64 (1 : Int)).toNat : Int))) = (0 : Int)))
      (.leaf (Tape.mk x0.records x0.pos (!decide ((IntKind.wrap .i64 (((BitVec.ofInt 64 x1 &&& BitVec.ofInt 64 (64 : Int)).toNat : Int))) = (0 : Int))) x0.ready x0.error x0.mark x0.end_ x0.command x0.count x0.addr x0.left))
      (.ite (decide (0 ≤ (1 : Int)))
        (.ite (decide ((6 : Int) < (IntKind.wrap .i64 (((BitVec.ofInt 64 ((x1).fdiv (2 ^ (min ((1 : Int)).toNat 64))) &&& BitVec.ofInt 64 (7 : Int)).toNat : Int)))))
          (.ite (!decide ((0 : Int) = (0 : Int)))
            (.leaf (Tape.mk x0.records x0.pos (!decide ((IntKind.wrap .i64 (((BitVec.ofInt 64 x1 &&& BitVec.ofInt 64 (64 : Int)).toNat : Int))) = (0 : Int))) false false false false (0 : Int) x0.count x0.addr (16 : Int)))
            (.leaf (Tape.mk x0.records x0.pos (!decide ((IntKind.wrap .i64 (((BitVec.ofInt 64 x1 &&& BitVec.ofInt 64 (64 : Int)).toNat : Int))) = (0 : Int))) x0.ready false false false (0 : Int) x0.count x0.addr x0.left)))
          (.ite (!decide ((IntKind.wrap .i64 (((BitVec.ofInt 64 ((x1).fdiv (2 ^ (min ((1 : Int)).toNat 64))) &&& BitVec.ofInt 64 (7 : Int)).toNat : Int))) = (0 : Int)))
            (.leaf (Tape.mk x0.records x0.pos (!decide ((IntKind.wrap .i64 (((BitVec.ofInt 64 x1 &&& BitVec.ofInt 64 (64 : Int)).toNat : Int))) = (0 : Int))) false false false false (IntKind.wrap .i64 (((BitVec.ofInt 64 ((x1).fdiv (2 ^ (min ((1 : Int)).toNat 64))) &&& BitVec.ofInt 64 (7 : Int)).toNat : Int))) x0.count x0.addr (16 : Int)))
            (.leaf (Tape.mk x0.records x0.pos (!decide ((IntKind.wrap .i64 (((BitVec.ofInt 64 x1 &&& BitVec.ofInt 64 (64 : Int)).toNat : Int))) = (0 : Int))) x0.ready false false false (IntKind.wrap .i64 (((BitVec.ofInt 64 ((x1).fdiv (2 ^ (min ((1 : Int)).toNat 64))) &&& BitVec.ofInt 64 (7 : Int)).toNat : Int))) x0.count x0.addr x0.left))))
        .fail))
noncomputable def tape_command (x0 : Tape) (x1 : Int) : Option Tape := (Ttape_command x0 x1).run
noncomputable def Atape_command : Arg U (Tape × Int × Unit) := aA cTape (aO (cInt .i64) (aNil))
noncomputable def Rtape_command (r : Tape) : List (V U) × List (Blk U) := ([vA cTape r], [])
noncomputable def Stape_command : List (V U) → List (Blk U) → Option (FnOut U) := mkSpec Atape_command bNil (fun x _ => tape_command x.1 x.2.1) Rtape_command
noncomputable def Etape_command : Env U := { P := Try.prog, cd := cd, fns := fns13, lps := noL, frz := fun _r => false, nt := 35, n0 := 0 }
theorem runtape_command (x : Tape × Int × Unit) (g : Unit) : execF Etape_command Try.f57 (Atape_command.enc x) (bNil.enc g) = (Ttape_command x.1 x.2.1).map Rtape_command := by kernel_rfl
theorem oktape_command : FnOk Try.prog cd 57 Stape_command := mk_ok (E := Etape_command) cd_ok fns13_ok Try.func57 (by kernel_rfl) (noLoops_body (by kernel_rfl)) (aA_ok cTape_ok (aO_ok (cInt_ok .i64) (aNil_ok))) bNil_ok (T := fun x _ => Ttape_command x.1 x.2.1) (fun _ _ => rfl) runtape_command
noncomputable def fns57 := addF 57 true Stape_command fns13
theorem fns57_ok : ∀ f q t, fns57 f = some (q, t) → FnOk Try.prog cd f t := addF_ok oktape_command fns13_ok
/-- emulator/tape.Write -/
noncomputable def Ttape_Write (x0 : Tape) (x1 : Int) (x2 : Int) : Tree (Tape × Bool) :=
  .ite (decide (x1 = (0 : Int)))
    (.opt Tape (tape_command x0 x2) fun r149 =>
      .leaf ((r149, true)))
    (.ite (decide (x1 = (2 : Int)))
      (.ite (x0.ready)
        (.leaf ((Tape.mk x0.records x0.pos x0.enable x0.ready x0.error x0.mark x0.end_ x0.command (IntKind.wrap .i64 (((BitVec.ofInt 64 x2 &&& BitVec.ofInt 64 (65535 : Int)).toNat : Int))) x0.addr x0.left, true)))
        (.leaf ((x0, true))))
      (.ite (decide (x1 = (4 : Int)))
        (.ite (x0.ready)
          (.leaf ((Tape.mk x0.records x0.pos x0.enable x0.ready x0.error x0.mark x0.end_ x0.command x0.count (IntKind.wrap .i64 (((BitVec.ofInt 64 x2 &&& BitVec.ofInt 64 (65535 : Int)).toNat : Int))) x0.left, true)))
          (.leaf ((x0, true))))
        (.leaf ((x0, false)))))
noncomputable def tape_Write (x0 : Tape) (x1 : Int) (x2 : Int) : Option (Tape × Bool) := (Ttape_Write x0 x1 x2).run
noncomputable def Atape_Write : Arg U (Tape × Int × Int × Unit) := aA cTape (aO (cInt .i64) (aO (cInt .i64) (aNil)))
noncomputable def Rtape_Write (r : (Tape × Bool)) : List (V U) × List (Blk U) := ([vA cTape r.1, vO cBool r.2], [])
noncomputable def Stape_Write : List (V U) → List (Blk U) → Option (FnOut U) := mkSpec Atape_Write bNil (fun x _ => tape_Write x.1 x.2.1 x.2.2.1) Rtape_Write
noncomputable def Etape_Write : Env U := { P := Try.prog, cd := cd, fns := fns57, lps := noL, frz := fun _r => false, nt := 31, n0 := 0 }
theorem runtape_Write (x : Tape × Int × Int × Unit) (g : Unit) : execF Etape_Write Try.f25 (Atape_Write.enc x) (bNil.enc g) = (Ttape_Write x.1 x.2.1 x.2.2.1).map Rtape_Write := by kernel_rfl
theorem oktape_Write : FnOk Try.prog cd 25 Stape_Write := mk_ok (E := Etape_Write) cd_ok fns57_ok Try.func25 (by kernel_rfl) (noLoops_body (by kernel_rfl)) (aA_ok cTape_ok (aO_ok (cInt_ok .i64) (aO_ok (cInt_ok .i64) (aNil_ok)))) bNil_ok (T := fun x _ => Ttape_Write x.1 x.2.1 x.2.2.1) (fun _ _ => rfl) runtape_Write
noncomputable def fns25 := addF 25 true Stape_Write fns57
theorem fns25_ok : ∀ f q t, fns25 f = some (q, t) → FnOk Try.prog cd f t := addF_ok oktape_Write fns57_ok
/-- emulator/emulatorlaw17.command -/
structure Slaw17_command_0 where
  t8 : Int
  b0 : Tape
  b1 : Store
  b2 : Tape
  b3 : Store
noncomputable def Wlaw17_command_0 (q : Option Nat) (s : Slaw17_command_0) : Tree (Slaw17_command_0 ⊕ (Tape × Store × Tape × Store)) :=
  .ite (decide (s.t8 < (16 : Int)))
    (.opt (Tape × (List Int) × (List Int)) (tape_Tick q s.b0 s.b1.mem s.b1.bad) fun r151 =>
      .leaf (.inl (Slaw17_command_0.mk (IntKind.wrap .i64 (s.t8 + (1 : Int))) r151.1 (Store.mk r151.2.1 r151.2.2) s.b2 s.b3)))
    (.leaf (.inr (s.b0, s.b1, s.b2, s.b3)))
noncomputable def Llaw17_command_0 (q : Option Nat) (s : Slaw17_command_0) : Option (Tape × Store × Tape × Store) := limQ q (fun s => (Wlaw17_command_0 q s).run) s
theorem leLlaw17_command_0 (k : Nat) (s : Slaw17_command_0) : Le (Llaw17_command_0 (some k) s) (Llaw17_command_0 none s) := limQ_le (fun s => (TLe.ite (TLe.opt (letape_Tick k _ _ _) fun _ => TLe.rfl) TLe.rfl)) s
noncomputable def Tlaw17_command (q : Option Nat) (x0 : Tape) (x1 : Store) (x2 : Int) : Tree (Tape × Store) :=
  .opt (Tape × Bool) (tape_Write x0 (0 : Int) (IntKind.wrap .i64 ((IntKind.wrap .i64 ((2 : Int) * x2)) + (1 : Int)))) fun r150 =>
    .opt (Tape × Store × Tape × Store) (Llaw17_command_0 q (Slaw17_command_0.mk (0 : Int) r150.1 x1 (Tape.mk ([]) 0 false false false false false 0 0 0 0) (Store.mk ([]) ([])))) fun l152 =>
      .leaf ((l152.1, l152.2.1))
noncomputable def law17_command (q : Option Nat) (x0 : Tape) (x1 : Store) (x2 : Int) : Option (Tape × Store) := (Tlaw17_command q x0 x1 x2).run
theorem lelaw17_command (k : Nat) (x0 : Tape) (x1 : Store) (x2 : Int) : Le (law17_command (some k) x0 x1 x2) (law17_command none x0 x1 x2) := (TLe.opt Le.rfl fun _ => (TLe.opt (leLlaw17_command_0 k _) fun _ => TLe.rfl))
noncomputable def Alaw17_command : Arg U (Tape × Store × Int × Unit) := aA cTape (aA cStore (aO (cInt .i64) (aNil)))
noncomputable def Rlaw17_command (r : (Tape × Store)) : List (V U) × List (Blk U) := ([vA cTape r.1, vA cStore r.2], [])
noncomputable def Slaw17_command : List (V U) → List (Blk U) → Option (FnOut U) := mkSpec Alaw17_command bNil (fun x _ => law17_command none x.1 x.2.1 x.2.2.1) Rlaw17_command
noncomputable def Plaw17_command_0 (x : (Unit) × (Unit) × (Unit) × (Unit) × (Int × Unit) × Unit) (g : (Tape × Unit) × (Store × Unit) × (Tape × Unit) × (Store × Unit) × Unit) : Slaw17_command_0 := Slaw17_command_0.mk x.2.2.2.2.1.1 g.1.1 g.2.1.1 g.2.2.1.1 g.2.2.2.1.1
noncomputable def tAlaw17_command_0 : Tms U ((Unit) × (Unit) × (Unit) × (Unit) × (Int × Unit) × Unit) := tO 3 (cK (.ptr 0 0) (cUnit)) (tO 4 (cK (.ptr 1 0) (cUnit)) (tO 6 (cK (.ptr 2 0) (cUnit)) (tO 7 (cK (.ptr 3 0) (cUnit)) (tO 8 (cPair (cInt .i64) (cUnit)) (tNil)))))
noncomputable def tBlaw17_command_0 : Bls U ((Tape × Unit) × (Store × Unit) × (Tape × Unit) × (Store × Unit) × Unit) := bC (cPair cTape (cUnit)) (bC (cPair cStore (cUnit)) (bC (cPair cTape (cUnit)) (bC (cPair cStore (cUnit)) (bNil))))
noncomputable def eSlaw17_command_0 (s : Slaw17_command_0) : St U := { tm := [(3, .v (vO (cK (.ptr 0 0) (cUnit)) (()))), (4, .v (vO (cK (.ptr 1 0) (cUnit)) (()))), (6, .v (vO (cK (.ptr 2 0) (cUnit)) (()))), (7, .v (vO (cK (.ptr 3 0) (cUnit)) (()))), (8, .v (vO (cPair (cInt .i64) (cUnit)) (s.t8, ())))], hp := [.cells ((cPair cTape (cUnit) : Cdc U (Tape × Unit)).enc (s.b0, ())), .cells ((cPair cStore (cUnit) : Cdc U (Store × Unit)).enc (s.b1, ())), .cells ((cPair cTape (cUnit) : Cdc U (Tape × Unit)).enc (s.b2, ())), .cells ((cPair cStore (cUnit) : Cdc U (Store × Unit)).enc (s.b3, ()))] }
noncomputable def xSlaw17_command_0 (r : (Tape × Store × Tape × Store)) : Ex × St U := (.exit 0, { tm := [(3, .v (vO (cK (.ptr 0 0) (cUnit)) (()))), (4, .v (vO (cK (.ptr 1 0) (cUnit)) (()))), (6, .v (vO (cK (.ptr 2 0) (cUnit)) (()))), (7, .v (vO (cK (.ptr 3 0) (cUnit)) (())))], hp := [.cells ((cPair cTape (cUnit) : Cdc U (Tape × Unit)).enc (r.1, ())), .cells ((cPair cStore (cUnit) : Cdc U (Store × Unit)).enc (r.2.1, ())), .cells ((cPair cTape (cUnit) : Cdc U (Tape × Unit)).enc (r.2.2.1, ())), .cells ((cPair cStore (cUnit) : Cdc U (Store × Unit)).enc (r.2.2.2, ()))] })
noncomputable def xTlaw17_command_0 (r : (Tape × Store × Tape × Store)) : Tree (Ex × St U) := .leaf (xSlaw17_command_0 r)
noncomputable def hlaw17_command_0 : Hd := { keep := [3, 4, 6, 7, 8], xkeep := [3, 4, 6, 7], own := false }
noncomputable def Elaw17_command : Env U := { P := Try.prog, cd := cd, fns := fns25, lps := (addL 0 hlaw17_command_0 (mkLoop tAlaw17_command_0 tBlaw17_command_0 Plaw17_command_0 (Llaw17_command_0 none) xTlaw17_command_0) noL), frz := fun _r => false, nt := 35, n0 := 0, fps := fun _r _i => bif Nat.beq _r 6 && Nat.beq _i 1 then .rd [1] else bif Nat.beq _r 6 && Nat.beq _i 2 then .wr [2] 4 else .none }
noncomputable def Blaw17_command_0 : Code := (loopAt (Try.f16.body.getD .skip) 0 0).getD .skip
theorem roundlaw17_command_0 (s : Slaw17_command_0) : round Elaw17_command hlaw17_command_0 Blaw17_command_0 0 (eSlaw17_command_0 s) = (Wlaw17_command_0 none s).map (sumE eSlaw17_command_0 xSlaw17_command_0) := by kernel_rfl
theorem lplaw17_command_0 : LpOk Elaw17_command Blaw17_command_0 0 := mkLoop_ok (A := tAlaw17_command_0) (B := tBlaw17_command_0) (f := Plaw17_command_0) (L := Llaw17_command_0 none) (tO_ok (cK_ok cUnit_ok) (tO_ok (cK_ok cUnit_ok) (tO_ok (cK_ok cUnit_ok) (tO_ok (cK_ok cUnit_ok) (tO_ok (cPair_ok (cInt_ok .i64) cUnit_ok) tNil_ok))))) (bC_ok (cPair_ok cTape_ok cUnit_ok) (bC_ok (cPair_ok cStore_ok cUnit_ok) (bC_ok (cPair_ok cTape_ok cUnit_ok) (bC_ok (cPair_ok cStore_ok cUnit_ok) bNil_ok)))) (enc := eSlaw17_command_0) (out := xTlaw17_command_0) (outS := xSlaw17_command_0) (step := Wlaw17_command_0 none) (fun _ => rfl) (fun _ _ => by kernel_rfl) (by kernel_rfl) (fun _ => rfl) roundlaw17_command_0
theorem runlaw17_command (x : Tape × Store × Int × Unit) (g : Unit) : execF Elaw17_command Try.f16 (Alaw17_command.enc x) (bNil.enc g) = (Tlaw17_command none x.1 x.2.1 x.2.2.1).map Rlaw17_command := by kernel_rfl
theorem oklaw17_command : FnOk Try.prog cd 16 Slaw17_command := mk_ok (E := Elaw17_command) cd_ok fns25_ok Try.func16 (by kernel_rfl) (loops_of (addL_ok lplaw17_command_0 noL_ok)) (aA_ok cTape_ok (aA_ok cStore_ok (aO_ok (cInt_ok .i64) (aNil_ok)))) bNil_ok (T := fun x _ => Tlaw17_command none x.1 x.2.1 x.2.2.1) (fun _ _ => rfl) runlaw17_command
noncomputable def fns16 := addF 16 true Slaw17_command fns25
theorem fns16_ok : ∀ f q t, fns16 f = some (q, t) → FnOk Try.prog cd f t := addF_ok oklaw17_command fns25_ok
/-- emulator/emulatorlaw17.at -/
noncomputable def Tlaw17_at (x0 : Tape) (x1 : Int) (x2 : Int) : Tree Tape :=
  .opt (Tape × Bool) (tape_Write x0 (2 : Int) x1) fun r153 =>
    .opt (Tape × Bool) (tape_Write r153.1 (4 : Int) x2) fun r154 =>
      .leaf (r154.1)
noncomputable def law17_at (x0 : Tape) (x1 : Int) (x2 : Int) : Option Tape := (Tlaw17_at x0 x1 x2).run
noncomputable def Alaw17_at : Arg U (Tape × Int × Int × Unit) := aA cTape (aO (cInt .i64) (aO (cInt .i64) (aNil)))
noncomputable def Rlaw17_at (r : Tape) : List (V U) × List (Blk U) := ([vA cTape r], [])
noncomputable def Slaw17_at : List (V U) → List (Blk U) → Option (FnOut U) := mkSpec Alaw17_at bNil (fun x _ => law17_at x.1 x.2.1 x.2.2.1) Rlaw17_at
noncomputable def Elaw17_at : Env U := { P := Try.prog, cd := cd, fns := fns16, lps := noL, frz := fun _r => false, nt := 20, n0 := 0 }
theorem runlaw17_at (x : Tape × Int × Int × Unit) (g : Unit) : execF Elaw17_at Try.f17 (Alaw17_at.enc x) (bNil.enc g) = (Tlaw17_at x.1 x.2.1 x.2.2.1).map Rlaw17_at := by kernel_rfl
theorem oklaw17_at : FnOk Try.prog cd 17 Slaw17_at := mk_ok (E := Elaw17_at) cd_ok fns16_ok Try.func17 (by kernel_rfl) (noLoops_body (by kernel_rfl)) (aA_ok cTape_ok (aO_ok (cInt_ok .i64) (aO_ok (cInt_ok .i64) (aNil_ok)))) bNil_ok (T := fun x _ => Tlaw17_at x.1 x.2.1 x.2.2.1) (fun _ _ => rfl) runlaw17_at
noncomputable def fns17 := addF 17 true Slaw17_at fns16
theorem fns17_ok : ∀ f q t, fns17 f = some (q, t) → FnOk Try.prog cd f t := addF_ok oklaw17_at fns16_ok
/-- slices.IndexFunc[[]string,string] -/
structure Sslices_IndexFunc_string_string_0 where
  t0 : (List (List UInt8))
  t7 : Int
  t8 : Int
noncomputable def Wslices_IndexFunc_string_string_0 (s : Sslices_IndexFunc_string_string_0) : Tree (Sslices_IndexFunc_string_string_0 ⊕ (Int ⊕ Unit)) :=
  .ite (decide (s.t8 < s.t7))
    (.ite (decide (0 ≤ s.t8))
      (.opt (List UInt8) (s.t0[(s.t8).toNat]?) fun y155 =>
        .opt Bool (tape_long y155) fun r156 =>
          .ite (r156)
            (.leaf (.inr (.inl s.t8)))
            (.leaf (.inl (Sslices_IndexFunc_string_string_0.mk s.t0 s.t7 (IntKind.wrap .i64 (s.t8 + (1 : Int)))))))
      .fail)
    (.leaf (.inr (.inr ())))
noncomputable def Lslices_IndexFunc_string_string_0 (q : Option Nat) (s : Sslices_IndexFunc_string_string_0) : Option (Int ⊕ Unit) := limQ q (fun s => (Wslices_IndexFunc_string_string_0 s).run) s
theorem leLslices_IndexFunc_string_string_0 (k : Nat) (s : Sslices_IndexFunc_string_string_0) : Le (Lslices_IndexFunc_string_string_0 (some k) s) (Lslices_IndexFunc_string_string_0 none s) := limQ_le (fun _ => Le.rfl) s
noncomputable def Tslices_IndexFunc_string_string (q : Option Nat) (x0 : (List (List UInt8))) : Tree Int :=
  .opt (Int ⊕ Unit) (Lslices_IndexFunc_string_string_0 q (Sslices_IndexFunc_string_string_0.mk x0 (x0.length : Int) (0 : Int))) fun l157 =>
    .ite (l157.isLeft)
      (.opt Int (l157.getLeft?) fun a158 =>
        .leaf (a158))
      (.opt Unit (l157.getRight?) fun b159 =>
        .leaf ((-1 : Int)))
noncomputable def slices_IndexFunc_string_string (q : Option Nat) (x0 : (List (List UInt8))) : Option Int := (Tslices_IndexFunc_string_string q x0).run
theorem leslices_IndexFunc_string_string (k : Nat) (x0 : (List (List UInt8))) : Le (slices_IndexFunc_string_string (some k) x0) (slices_IndexFunc_string_string none x0) := (TLe.opt (leLslices_IndexFunc_string_string_0 k _) fun _ => TLe.rfl)
noncomputable def Aslices_IndexFunc_string_string : Arg U ((List (List UInt8)) × Unit) := aO (cSl 9) (aF 50 [] (aNil))
noncomputable def Gslices_IndexFunc_string_string : Bls U (Unit) := bNil
noncomputable def Rslices_IndexFunc_string_string (_x : (List (List UInt8)) × Unit) (_g : Unit) (r : Int) : List (V U) × List (Blk U) := ([vO (cPair (cInt .i64) (cUnit)) (r, ())], [])
noncomputable def Sslices_IndexFunc_string_string : List (V U) → List (Blk U) → Option (FnOut U) := mkSpecG Aslices_IndexFunc_string_string Gslices_IndexFunc_string_string (fun x _ => slices_IndexFunc_string_string none x.1) Rslices_IndexFunc_string_string
noncomputable def Pslices_IndexFunc_string_string_0 (x : ((List (List UInt8)) × Unit) × (Unit) × (Int × Unit) × (Int × Unit) × Unit) (_g : Unit) : Sslices_IndexFunc_string_string_0 := Sslices_IndexFunc_string_string_0.mk x.1.1 x.2.2.1.1 x.2.2.2.1.1
noncomputable def tAslices_IndexFunc_string_string_0 : Tms U (((List (List UInt8)) × Unit) × (Unit) × (Int × Unit) × (Int × Unit) × Unit) := tO 0 (cPair (cSl 9) (cUnit)) (tO 1 (cK2 (.fn 50 [] []) (cUnit)) (tO 7 (cPair (cInt .i64) (cUnit)) (tO 8 (cPair (cInt .i64) (cUnit)) (tNil))))
noncomputable def tBslices_IndexFunc_string_string_0 : Bls U (Unit) := bNil
noncomputable def eSslices_IndexFunc_string_string_0 (s : Sslices_IndexFunc_string_string_0) : St U := { tm := [(0, .v (vO (cPair (cSl 9) (cUnit)) (s.t0, ()))), (1, .v (vO (cK2 (.fn 50 [] []) (cUnit)) (()))), (7, .v (vO (cPair (cInt .i64) (cUnit)) (s.t7, ()))), (8, .v (vO (cPair (cInt .i64) (cUnit)) (s.t8, ())))], hp := [] }
noncomputable def xSslices_IndexFunc_string_string_0 : (Int ⊕ Unit) → Ex × St U
  | .inl r => (.ret, { tm := [(4, .v (vO (cPair (cInt .i64) (cUnit)) (r, ())))], hp := [] })
  | .inr r => (.exit 0, { tm := [], hp := [] })
noncomputable def xTslices_IndexFunc_string_string_0 (y : (Int ⊕ Unit)) : Tree (Ex × St U) := .ite y.isLeft (.opt Int y.getLeft? fun r => .leaf (.ret, { tm := [(4, .v (vO (cPair (cInt .i64) (cUnit)) (r, ())))], hp := [] })) (.opt Unit y.getRight? fun r => .leaf (.exit 0, { tm := [], hp := [] }))
noncomputable def hslices_IndexFunc_string_string_0 : Hd := { keep := [0, 1, 7, 8], xkeep := [4], own := false }
noncomputable def Eslices_IndexFunc_string_string : Env U := { P := Try.prog, cd := cd, fns := fns17, lps := (addL 0 hslices_IndexFunc_string_string_0 (mkLoop tAslices_IndexFunc_string_string_0 tBslices_IndexFunc_string_string_0 Pslices_IndexFunc_string_string_0 (Lslices_IndexFunc_string_string_0 none) xTslices_IndexFunc_string_string_0) noL), frz := fun _r => false, nt := 19, n0 := 0 }
noncomputable def Bslices_IndexFunc_string_string_0 : Code := (loopAt (Try.f70.body.getD .skip) 0 0).getD .skip
theorem roundslices_IndexFunc_string_string_0 (s : Sslices_IndexFunc_string_string_0) : round Eslices_IndexFunc_string_string hslices_IndexFunc_string_string_0 Bslices_IndexFunc_string_string_0 0 (eSslices_IndexFunc_string_string_0 s) = (Wslices_IndexFunc_string_string_0 s).map (sumE eSslices_IndexFunc_string_string_0 xSslices_IndexFunc_string_string_0) := by kernel_rfl
theorem lpslices_IndexFunc_string_string_0 : LpOk Eslices_IndexFunc_string_string Bslices_IndexFunc_string_string_0 0 := mkLoop_ok (A := tAslices_IndexFunc_string_string_0) (B := tBslices_IndexFunc_string_string_0) (f := Pslices_IndexFunc_string_string_0) (L := Lslices_IndexFunc_string_string_0 none) (tO_ok (cPair_ok (cSl_ok 9) cUnit_ok) (tO_ok (cK2_ok cUnit_ok) (tO_ok (cPair_ok (cInt_ok .i64) cUnit_ok) (tO_ok (cPair_ok (cInt_ok .i64) cUnit_ok) tNil_ok)))) bNil_ok (enc := eSslices_IndexFunc_string_string_0) (out := xTslices_IndexFunc_string_string_0) (outS := xSslices_IndexFunc_string_string_0) (step := Wslices_IndexFunc_string_string_0) (fun _ => rfl) (fun _ _ => by kernel_rfl) (by kernel_rfl) (fun b => by cases b <;> rfl) roundslices_IndexFunc_string_string_0
theorem rnslices_IndexFunc_string_string (x0 : (List (List UInt8))) : execX false Eslices_IndexFunc_string_string Try.f70 (Aslices_IndexFunc_string_string.enc (x0, ())) (Gslices_IndexFunc_string_string.enc ()) = (Tslices_IndexFunc_string_string none x0).map (Rslices_IndexFunc_string_string (x0, ()) ()) := by kernel_rfl
theorem runslices_IndexFunc_string_string : ∀ (x : (List (List UInt8)) × Unit) (g : Unit), execX false Eslices_IndexFunc_string_string Try.f70 (Aslices_IndexFunc_string_string.enc x) (Gslices_IndexFunc_string_string.enc g) = (Tslices_IndexFunc_string_string none x.1).map (Rslices_IndexFunc_string_string x g)
  | (x0, ()), () => rnslices_IndexFunc_string_string x0
theorem okslices_IndexFunc_string_string : FnOk Try.prog cd 70 Sslices_IndexFunc_string_string := mk_okG (E := Eslices_IndexFunc_string_string) (A := Aslices_IndexFunc_string_string) (B := Gslices_IndexFunc_string_string) false cd_ok fns17_ok Try.func70 (by kernel_rfl) (loops_of (addL_ok lpslices_IndexFunc_string_string_0 noL_ok)) (aO_ok (cSl_ok 9) (aF_ok (aNil_ok))) bNil_ok (T := fun (x : (List (List UInt8)) × Unit) (_ : Unit) => Tslices_IndexFunc_string_string none x.1) (fun _ _ => rfl) runslices_IndexFunc_string_string
/-- slices.ContainsFunc[[]string,string] -/
noncomputable def Tslices_ContainsFunc_string_string (q : Option Nat) (x0 : (List (List UInt8))) : Tree Bool :=
  .opt Int (slices_IndexFunc_string_string q x0) fun r160 =>
    .leaf (decide ((0 : Int) ≤ r160))
noncomputable def slices_ContainsFunc_string_string (q : Option Nat) (x0 : (List (List UInt8))) : Option Bool := (Tslices_ContainsFunc_string_string q x0).run
theorem leslices_ContainsFunc_string_string (k : Nat) (x0 : (List (List UInt8))) : Le (slices_ContainsFunc_string_string (some k) x0) (slices_ContainsFunc_string_string none x0) := (TLe.opt (leslices_IndexFunc_string_string k _) fun _ => TLe.rfl)
noncomputable def Aslices_ContainsFunc_string_string : Arg U ((List (List UInt8)) × Unit) := aO (cSl 9) (aF 50 [] (aNil))
noncomputable def Gslices_ContainsFunc_string_string : Bls U (Unit) := bNil
noncomputable def Rslices_ContainsFunc_string_string (_x : (List (List UInt8)) × Unit) (_g : Unit) (r : Bool) : List (V U) × List (Blk U) := ([vO (cPair cBool (cUnit)) (r, ())], [])
noncomputable def Sslices_ContainsFunc_string_string : List (V U) → List (Blk U) → Option (FnOut U) := mkSpecG Aslices_ContainsFunc_string_string Gslices_ContainsFunc_string_string (fun x _ => slices_ContainsFunc_string_string none x.1) Rslices_ContainsFunc_string_string
noncomputable def Eslices_ContainsFunc_string_string : Env U := { P := Try.prog, cd := cd, fns := (addF 70 false (Sslices_IndexFunc_string_string) fns17), lps := noL, frz := fun _r => false, nt := 9, n0 := 0 }
theorem rnslices_ContainsFunc_string_string (x0 : (List (List UInt8))) : execX false Eslices_ContainsFunc_string_string Try.f49 (Aslices_ContainsFunc_string_string.enc (x0, ())) (Gslices_ContainsFunc_string_string.enc ()) = (Tslices_ContainsFunc_string_string none x0).map (Rslices_ContainsFunc_string_string (x0, ()) ()) := by kernel_rfl
theorem runslices_ContainsFunc_string_string : ∀ (x : (List (List UInt8)) × Unit) (g : Unit), execX false Eslices_ContainsFunc_string_string Try.f49 (Aslices_ContainsFunc_string_string.enc x) (Gslices_ContainsFunc_string_string.enc g) = (Tslices_ContainsFunc_string_string none x.1).map (Rslices_ContainsFunc_string_string x g)
  | (x0, ()), () => rnslices_ContainsFunc_string_string x0
theorem okslices_ContainsFunc_string_string : FnOk Try.prog cd 49 Sslices_ContainsFunc_string_string := mk_okG (E := Eslices_ContainsFunc_string_string) (A := Aslices_ContainsFunc_string_string) (B := Gslices_ContainsFunc_string_string) false cd_ok (addF_ok okslices_IndexFunc_string_string fns17_ok) Try.func49 (by kernel_rfl) (noLoops_body (by kernel_rfl)) (aO_ok (cSl_ok 9) (aF_ok (aNil_ok))) bNil_ok (T := fun (x : (List (List UInt8)) × Unit) (_ : Unit) => Tslices_ContainsFunc_string_string none x.1) (fun _ _ => rfl) runslices_ContainsFunc_string_string
/-- emulator/tape.New -/
noncomputable def Ttape_New (q : Option Nat) (x0 : (List (List UInt8))) : Tree (Tape × Int) :=
  .ite (decide ((64 : Int) < (x0.length : Int)))
    (.leaf ((Tape.mk ([]) 0 false false false false false 0 0 0 0, (12 : Int))))
    (.opt Bool (slices_ContainsFunc_string_string q x0) fun r161 =>
      .ite (r161)
        (.leaf ((Tape.mk ([]) 0 false false false false false 0 0 0 0, (7 : Int))))
        (.opt (List (List UInt8)) (cloneF 16 x0) fun r162 =>
          .leaf ((Tape.mk r162 0 false true false false false 0 0 0 0, (0 : Int)))))
noncomputable def tape_New (q : Option Nat) (x0 : (List (List UInt8))) : Option (Tape × Int) := (Ttape_New q x0).run
theorem letape_New (k : Nat) (x0 : (List (List UInt8))) : Le (tape_New (some k) x0) (tape_New none x0) := (TLe.ite TLe.rfl (TLe.opt (leslices_ContainsFunc_string_string k _) fun _ => TLe.rfl))
noncomputable def Atape_New : Arg U ((List (List UInt8)) × Unit) := aO (cSl 9) (aNil)
noncomputable def Rtape_New (r : (Tape × Int)) : List (V U) × List (Blk U) := ([vA cTape r.1, vO (cInt .i64) r.2], [])
noncomputable def Stape_New : List (V U) → List (Blk U) → Option (FnOut U) := mkSpec Atape_New bNil (fun x _ => tape_New none x.1) Rtape_New
noncomputable def Etape_New : Env U := { P := Try.prog, cd := cd, fns := (addF 51 false (cloneSpec 9 16) (addF 49 false (Sslices_ContainsFunc_string_string) fns17)), lps := noL, frz := fun _r => false, nt := 14, n0 := 0 }
theorem runtape_New (x : (List (List UInt8)) × Unit) (g : Unit) : execF Etape_New Try.f18 (Atape_New.enc x) (bNil.enc g) = (Ttape_New none x.1).map Rtape_New := by kernel_rfl
theorem oktape_New : FnOk Try.prog cd 18 Stape_New := mk_ok (E := Etape_New) cd_ok (addF_ok okslices_Clone_string_string (addF_ok okslices_ContainsFunc_string_string fns17_ok)) Try.func18 (by kernel_rfl) (noLoops_body (by kernel_rfl)) (aO_ok (cSl_ok 9) (aNil_ok)) bNil_ok (T := fun x _ => Ttape_New none x.1) (fun _ _ => rfl) runtape_New
noncomputable def fns18 := addF 18 true Stape_New fns17
theorem fns18_ok : ∀ f q t, fns18 f = some (q, t) → FnOk Try.prog cd f t := addF_ok oktape_New fns17_ok
/-- emulator/memory.sized -/
noncomputable def Tmemory_sized (x0 : Int) : Tree Bool :=
  .ite (decide ((256 : Int) ≤ x0))
    (.ite (decide (x0 ≤ (32768 : Int)))
      (.ite (decide ((64 : Int) = 0))
        .fail
        (.leaf (decide (((x0).tmod (64 : Int)) = (0 : Int)))))
      (.leaf (false)))
    (.leaf (false))
noncomputable def memory_sized (x0 : Int) : Option Bool := (Tmemory_sized x0).run
noncomputable def Amemory_sized : Arg U (Int × Unit) := aO (cInt .i64) (aNil)
noncomputable def Rmemory_sized (r : Bool) : List (V U) × List (Blk U) := ([vO cBool r], [])
noncomputable def Smemory_sized : List (V U) → List (Blk U) → Option (FnOut U) := mkSpec Amemory_sized bNil (fun x _ => memory_sized x.1) Rmemory_sized
noncomputable def Ememory_sized : Env U := { P := Try.prog, cd := cd, fns := fns18, lps := noL, frz := fun _r => false, nt := 14, n0 := 0 }
theorem runmemory_sized (x : Int × Unit) (g : Unit) : execF Ememory_sized Try.f52 (Amemory_sized.enc x) (bNil.enc g) = (Tmemory_sized x.1).map Rmemory_sized := by kernel_rfl
theorem okmemory_sized : FnOk Try.prog cd 52 Smemory_sized := mk_ok (E := Ememory_sized) cd_ok fns18_ok Try.func52 (by kernel_rfl) (noLoops_body (by kernel_rfl)) (aO_ok (cInt_ok .i64) (aNil_ok)) bNil_ok (T := fun x _ => Tmemory_sized x.1) (fun _ _ => rfl) runmemory_sized
noncomputable def fns52 := addF 52 true Smemory_sized fns18
theorem fns52_ok : ∀ f q t, fns52 f = some (q, t) → FnOk Try.prog cd f t := addF_ok okmemory_sized fns18_ok
/-- emulator/memory.New -/
noncomputable def Tmemory_New (x0 : Int) : Tree ((List Int) × Int) :=
  .opt Bool (memory_sized x0) fun r163 =>
    .ite (!r163)
      (.leaf (([], (1 : Int))))
      (.ite (decide ((2 : Int) = 0))
        .fail
        (.ite (decide (IntKind.wrap .i64 ((x0).tdiv (2 : Int)) = IntKind.wrap .i64 ((x0).tdiv (2 : Int))))
          (.ite (decide (0 ≤ IntKind.wrap .i64 ((x0).tdiv (2 : Int))))
            (.ite (decide ((8 : Int) * (IntKind.wrap .i64 ((x0).tdiv (2 : Int))) ≤ 281474976710656))
              (.leaf ((List.replicate (IntKind.wrap .i64 ((x0).tdiv (2 : Int))).toNat (0 : Int), (0 : Int))))
              .fail)
            .fail)
          .fail))
noncomputable def memory_New (x0 : Int) : Option ((List Int) × Int) := (Tmemory_New x0).run
noncomputable def Amemory_New : Arg U (Int × Unit) := aO (cInt .i64) (aNil)
noncomputable def Rmemory_New (r : ((List Int) × Int)) : List (V U) × List (Blk U) := ([vO (cSl 3) r.1, vO (cInt .i64) r.2], [])
noncomputable def Smemory_New : List (V U) → List (Blk U) → Option (FnOut U) := mkSpec Amemory_New bNil (fun x _ => memory_New x.1) Rmemory_New
noncomputable def Ememory_New : Env U := { P := Try.prog, cd := cd, fns := fns52, lps := noL, frz := fun _r => false, nt := 10, n0 := 0 }
theorem runmemory_New (x : Int × Unit) (g : Unit) : execF Ememory_New Try.f19 (Amemory_New.enc x) (bNil.enc g) = (Tmemory_New x.1).map Rmemory_New := by kernel_rfl
theorem okmemory_New : FnOk Try.prog cd 19 Smemory_New := mk_ok (E := Ememory_New) cd_ok fns52_ok Try.func19 (by kernel_rfl) (noLoops_body (by kernel_rfl)) (aO_ok (cInt_ok .i64) (aNil_ok)) bNil_ok (T := fun x _ => Tmemory_New x.1) (fun _ _ => rfl) runmemory_New
noncomputable def fns19 := addF 19 true Smemory_New fns52
theorem fns19_ok : ∀ f q t, fns19 f = some (q, t) → FnOk Try.prog cd f t := addF_ok okmemory_New fns52_ok
/-- emulator/emulatorlaw17.alive -/
noncomputable def Tlaw17_alive (q : Option Nat)  : Tree Bool :=
  .opt ((List Int) × Int) (memory_New (256 : Int)) fun r165 =>
    .opt (Tape × Int) (tape_New q ([[97, 98], [], [99]])) fun r166 =>
      .opt Tape (law17_at r166.1 (5 : Int) (10 : Int)) fun r167 =>
        .opt (Tape × Store) (law17_command q r167 (Store.mk r165.1 ([])) (1 : Int)) fun r168 =>
          .opt ((List UInt8) × Int) (memory_Bytes q r168.2.mem (10 : Int) (3 : Int)) fun r169 =>
            .opt (Tape × Store) (law17_command q r168.1 r168.2 (1 : Int)) fun r170 =>
              .opt (Tape × Store) (law17_command q r170.1 r170.2 (1 : Int)) fun r171 =>
                .opt (Tape × Store) (law17_command q r171.1 r171.2 (1 : Int)) fun r172 =>
                  .opt Tape (law17_at r166.1 (1 : Int) (10 : Int)) fun r173 =>
                    .opt (Tape × Store) (law17_command q r173 (Store.mk r165.1 ([])) (1 : Int)) fun r174 =>
                      .opt ((List UInt8) × Int) (memory_Bytes q r174.2.mem (10 : Int) (2 : Int)) fun r175 =>
                        .opt Tape (law17_at r166.1 (2 : Int) (10 : Int)) fun r176 =>
                          .opt (Tape × Store) (law17_command q r176 (Store.mk r165.1 ([])) (2 : Int)) fun r177 =>
                            .opt (Tape × Bool) (tape_Write r166.1 (0 : Int) (15 : Int)) fun r178 =>
                              .ite (decide (r166.2 = (0 : Int)))
                                (.ite (decide (r169.1 = ([97, 98, 0])))
                                  (.ite (decide (r168.1.count = (3 : Int)))
                                    (.ite (decide (r168.1.pos = (1 : Int)))
                                      (.ite (!r168.1.mark)
                                        (.ite (r170.1.mark)
                                          (.ite (decide (r171.1.count = (2 : Int)))
                                            (.ite (decide (r171.1.pos = (3 : Int)))
                                              (.ite (!r171.1.end_)
                                                (.ite (r172.1.error)
                                                  (.ite (r172.1.end_)
                                                    (.ite (decide (r175.1 = ([97, 0])))
                                                      (.ite (r174.1.error)
                                                        (.ite (decide (r174.1.pos = (1 : Int)))
                                                          (.ite (decide ((r177.1.records.length : Int) = (1 : Int)))
                                                            (.ite (decide (r177.1.pos = (1 : Int)))
                                                              (.ite (r178.1.ready)
                                                                (.leaf (decide (r178.1.command = (0 : Int))))
                                                                (.leaf (false)))
                                                              (.leaf (false)))
                                                            (.leaf (false)))
                                                          (.leaf (false)))
                                                        (.leaf (false)))
                                                      (.leaf (false)))
                                                    (.leaf (false)))
                                                  (.leaf (false)))
                                                (.leaf (false)))
                                              (.leaf (false)))
                                            (.leaf (false)))
                                          (.leaf (false)))
                                        (.leaf (false)))
                                      (.leaf (false)))
                                    (.leaf (false)))
                                  (.leaf (false)))
                                (.leaf (false))
noncomputable def law17_alive (q : Option Nat)  : Option Bool := (Tlaw17_alive q ).run
theorem lelaw17_alive (k : Nat)  : Le (law17_alive (some k) ) (law17_alive none ) := (TLe.opt Le.rfl fun _ => (TLe.opt (letape_New k _) fun _ => (TLe.opt Le.rfl fun _ => (TLe.opt (lelaw17_command k _ _ _) fun _ => (TLe.opt (lememory_Bytes k _ _ _) fun _ => (TLe.opt (lelaw17_command k _ _ _) fun _ => (TLe.opt (lelaw17_command k _ _ _) fun _ => (TLe.opt (lelaw17_command k _ _ _) fun _ => (TLe.opt Le.rfl fun _ => (TLe.opt (lelaw17_command k _ _ _) fun _ => (TLe.opt (lememory_Bytes k _ _ _) fun _ => (TLe.opt Le.rfl fun _ => (TLe.opt (lelaw17_command k _ _ _) fun _ => TLe.rfl)))))))))))))
noncomputable def Alaw17_alive : Arg U (Unit) := aNil
noncomputable def Rlaw17_alive (r : Bool) : List (V U) × List (Blk U) := ([vO cBool r], [])
noncomputable def Slaw17_alive : List (V U) → List (Blk U) → Option (FnOut U) := mkSpec Alaw17_alive bNil (fun x _ => law17_alive none ) Rlaw17_alive
noncomputable def Elaw17_alive : Env U := { P := Try.prog, cd := cd, fns := (addF 18 false (frzSpec Stape_New) fns19), lps := noL, frz := fun _r => false, nt := 172, n0 := 0 }
theorem runlaw17_alive (x : Unit) (g : Unit) : execF Elaw17_alive Try.f14 (Alaw17_alive.enc x) (bNil.enc g) = (Tlaw17_alive none ).map Rlaw17_alive := by kernel_rfl
theorem oklaw17_alive : FnOk Try.prog cd 14 Slaw17_alive := mk_ok (E := Elaw17_alive) cd_ok (addF_ok (fnOk_frz cd_ok (mkSpec_out fun _ => rfl) oktape_New) fns19_ok) Try.func14 (by kernel_rfl) (noLoops_body (by kernel_rfl)) (aNil_ok) bNil_ok (T := fun x _ => Tlaw17_alive none ) (fun _ _ => rfl) runlaw17_alive
noncomputable def fns14 := addF 14 true Slaw17_alive fns19
theorem fns14_ok : ∀ f q t, fns14 f = some (q, t) → FnOk Try.prog cd f t := addF_ok oklaw17_alive fns19_ok
/-- emulator/emulatorlaw17.TapeTicks -/
noncomputable def Tlaw17_TapeTicks (q : Option Nat) (x0 : Tape) (x1 : Store) : Tree Bool :=
  .opt Bool (law17_small q x0 x1) fun r179 =>
    .ite (!r179)
      (.leaf (true))
      (.opt (Tape × (List Int) × (List Int)) (tape_Tick q x0 x1.mem x1.bad) fun r180 =>
        .opt (Tape × (List Int) × (List Int)) (ref17_Tick q x0 x1.mem x1.bad) fun r181 =>
          .opt Bool (ref17_Same q r180.1 r181.1) fun r182 =>
            .ite (r182)
              (.opt Bool (ref08_Same q r180.2.1 r181.2.1) fun r183 =>
                .ite (r183)
                  (.opt Bool (ref08_Same q r180.2.2 r181.2.2) fun r184 =>
                    .ite (r184)
                      (.opt Bool (law17_alive q) fun r185 =>
                        .leaf (r185))
                      (.leaf (false)))
                  (.leaf (false)))
              (.leaf (false)))
noncomputable def law17_TapeTicks (q : Option Nat) (x0 : Tape) (x1 : Store) : Option Bool := (Tlaw17_TapeTicks q x0 x1).run
theorem lelaw17_TapeTicks (k : Nat) (x0 : Tape) (x1 : Store) : Le (law17_TapeTicks (some k) x0 x1) (law17_TapeTicks none x0 x1) := (TLe.opt (lelaw17_small k _ _) fun _ => (TLe.ite TLe.rfl (TLe.opt (letape_Tick k _ _ _) fun _ => (TLe.opt (leref17_Tick k _ _ _) fun _ => (TLe.opt (leref17_Same k _ _) fun _ => (TLe.ite (TLe.opt (leref08_Same k _ _) fun _ => (TLe.ite (TLe.opt (leref08_Same k _ _) fun _ => (TLe.ite (TLe.opt (lelaw17_alive k) fun _ => TLe.rfl) TLe.rfl)) TLe.rfl)) TLe.rfl))))))
noncomputable def Alaw17_TapeTicks : Arg U (Tape × Store × Unit) := aA cTape (aA cStore (aNil))
noncomputable def Rlaw17_TapeTicks (r : Bool) : List (V U) × List (Blk U) := ([vO cBool r], [])
noncomputable def Slaw17_TapeTicks : List (V U) → List (Blk U) → Option (FnOut U) := mkSpec Alaw17_TapeTicks bNil (fun x _ => law17_TapeTicks none x.1 x.2.1) Rlaw17_TapeTicks
noncomputable def Elaw17_TapeTicks : Env U := { P := Try.prog, cd := cd, fns := fns14, lps := noL, frz := fun _r => false, nt := 51, n0 := 0 }
theorem runlaw17_TapeTicks (x : Tape × Store × Unit) (g : Unit) : execF Elaw17_TapeTicks Try.f3 (Alaw17_TapeTicks.enc x) (bNil.enc g) = (Tlaw17_TapeTicks none x.1 x.2.1).map Rlaw17_TapeTicks := by kernel_rfl
theorem oklaw17_TapeTicks : FnOk Try.prog cd 3 Slaw17_TapeTicks := mk_ok (E := Elaw17_TapeTicks) cd_ok fns14_ok Try.func3 (by kernel_rfl) (noLoops_body (by kernel_rfl)) (aA_ok cTape_ok (aA_ok cStore_ok (aNil_ok))) bNil_ok (T := fun x _ => Tlaw17_TapeTicks none x.1 x.2.1) (fun _ _ => rfl) runlaw17_TapeTicks
noncomputable def fns3 := addF 3 true Slaw17_TapeTicks fns14
theorem fns3_ok : ∀ f q t, fns3 f = some (q, t) → FnOk Try.prog cd f t := addF_ok oklaw17_TapeTicks fns14_ok
/-- emulator/emulatorlaw17.TapeReturns -/
noncomputable def Tlaw17_TapeReturns (q : Option Nat) (x0 : Tape) (x1 : (List Int)) (x2 : Copy) : Tree Bool :=
  .opt Bool (law17_small q x0 (Store.mk x1 ([]))) fun r186 =>
    .ite (!r186)
      (.leaf (true))
      (.ite (!x0.ready)
        (.leaf (true))
        (.ite (decide ((64 : Int) ≤ x0.pos))
          (.leaf (true))
          (.ite (decide (x2.count < (1 : Int)))
            (.leaf (true))
            (.ite (decide ((512 : Int) < x2.count))
              (.leaf (true))
              (.ite (decide (x2.from_ < (0 : Int)))
                (.leaf (true))
                (.ite (decide (x2.to < (0 : Int)))
                  (.leaf (true))
                  (.ite (decide ((IntKind.wrap .i64 ((IntKind.wrap .i64 ((2 : Int) * (x1.length : Int))) - x2.count)) < x2.from_))
                    (.leaf (true))
                    (.ite (decide ((IntKind.wrap .i64 ((IntKind.wrap .i64 ((2 : Int) * (x1.length : Int))) - x2.count)) < x2.to))
                      (.leaf (true))
                      (.opt ((List UInt8) × Int) (memory_Bytes q x1 x2.from_ x2.count) fun r187 =>
                        .opt Tape (law17_at x0 x2.count x2.from_) fun r188 =>
                          .opt (Tape × Store) (law17_command q r188 (Store.mk x1 ([])) (2 : Int)) fun r189 =>
                            .opt (Tape × Store) (law17_command q r189.1 r189.2 (4 : Int)) fun r190 =>
                              .opt Tape (law17_at r190.1 x2.count x2.to) fun r191 =>
                                .opt (Tape × Store) (law17_command q r191 r190.2 (1 : Int)) fun r192 =>
                                  .opt ((List UInt8) × Int) (memory_Bytes q r192.2.mem x2.to x2.count) fun r193 =>
                                    .ite (decide (r187.2 = (0 : Int)))
                                      (.ite (decide (r193.2 = (0 : Int)))
                                        (.ite (decide (r187.1 = r193.1))
                                          (.ite (!r189.1.error)
                                            (.ite (!r192.1.error)
                                              (.ite (decide (r189.1.pos = (IntKind.wrap .i64 (x0.pos + (1 : Int)))))
                                                (.ite (decide ((r189.1.records.length : Int) = r189.1.pos))
                                                  (.ite (decide (r190.1.pos = x0.pos))
                                                    (.ite (decide (r192.1.pos = r189.1.pos))
                                                      (.ite (decide (r192.1.count = (0 : Int)))
                                                        (.opt Bool (law17_alive q) fun r194 =>
                                                          .leaf (r194))
                                                        (.leaf (false)))
                                                      (.leaf (false)))
                                                    (.leaf (false)))
                                                  (.leaf (false)))
                                                (.leaf (false)))
                                              (.leaf (false)))
                                            (.leaf (false)))
                                          (.leaf (false)))
                                        (.leaf (false)))
                                      (.leaf (false)))))))))))
noncomputable def law17_TapeReturns (q : Option Nat) (x0 : Tape) (x1 : (List Int)) (x2 : Copy) : Option Bool := (Tlaw17_TapeReturns q x0 x1 x2).run
theorem lelaw17_TapeReturns (k : Nat) (x0 : Tape) (x1 : (List Int)) (x2 : Copy) : Le (law17_TapeReturns (some k) x0 x1 x2) (law17_TapeReturns none x0 x1 x2) := (TLe.opt (lelaw17_small k _ _) fun _ => (TLe.ite TLe.rfl (TLe.ite TLe.rfl (TLe.ite TLe.rfl (TLe.ite TLe.rfl (TLe.ite TLe.rfl (TLe.ite TLe.rfl (TLe.ite TLe.rfl (TLe.ite TLe.rfl (TLe.ite TLe.rfl (TLe.opt (lememory_Bytes k _ _ _) fun _ => (TLe.opt Le.rfl fun _ => (TLe.opt (lelaw17_command k _ _ _) fun _ => (TLe.opt (lelaw17_command k _ _ _) fun _ => (TLe.opt Le.rfl fun _ => (TLe.opt (lelaw17_command k _ _ _) fun _ => (TLe.opt (lememory_Bytes k _ _ _) fun _ => (TLe.ite (TLe.ite (TLe.ite (TLe.ite (TLe.ite (TLe.ite (TLe.ite (TLe.ite (TLe.ite (TLe.ite (TLe.opt (lelaw17_alive k) fun _ => TLe.rfl) TLe.rfl) TLe.rfl) TLe.rfl) TLe.rfl) TLe.rfl) TLe.rfl) TLe.rfl) TLe.rfl) TLe.rfl) TLe.rfl))))))))))))))))))
noncomputable def Alaw17_TapeReturns : Arg U (Tape × (List Int) × Copy × Unit) := aA cTape (aO (cSl 3) (aA cCopy (aNil)))
noncomputable def Rlaw17_TapeReturns (r : Bool) : List (V U) × List (Blk U) := ([vO cBool r], [])
noncomputable def Slaw17_TapeReturns : List (V U) → List (Blk U) → Option (FnOut U) := mkSpec Alaw17_TapeReturns bNil (fun x _ => law17_TapeReturns none x.1 x.2.1 x.2.2.1) Rlaw17_TapeReturns
noncomputable def Elaw17_TapeReturns : Env U := { P := Try.prog, cd := cd, fns := fns3, lps := noL, frz := fun _r => false, nt := 182, n0 := 0 }
theorem runlaw17_TapeReturns (x : Tape × (List Int) × Copy × Unit) (g : Unit) : execF Elaw17_TapeReturns Try.f4 (Alaw17_TapeReturns.enc x) (bNil.enc g) = (Tlaw17_TapeReturns none x.1 x.2.1 x.2.2.1).map Rlaw17_TapeReturns := by kernel_rfl
theorem oklaw17_TapeReturns : FnOk Try.prog cd 4 Slaw17_TapeReturns := mk_ok (E := Elaw17_TapeReturns) cd_ok fns3_ok Try.func4 (by kernel_rfl) (noLoops_body (by kernel_rfl)) (aA_ok cTape_ok (aO_ok (cSl_ok 3) (aA_ok cCopy_ok (aNil_ok)))) bNil_ok (T := fun x _ => Tlaw17_TapeReturns none x.1 x.2.1 x.2.2.1) (fun _ _ => rfl) runlaw17_TapeReturns
noncomputable def fns4 := addF 4 true Slaw17_TapeReturns fns3
theorem fns4_ok : ∀ f q t, fns4 f = some (q, t) → FnOk Try.prog cd f t := addF_ok oklaw17_TapeReturns fns3_ok
/-- emulator/emulatorlaw17.TapePasses -/
structure Slaw17_TapePasses_0 where
  t0 : (List (List UInt8))
  t8 : Int
  b0 : Tape
  b1 : Store
noncomputable def Wlaw17_TapePasses_0 (q : Option Nat) (s : Slaw17_TapePasses_0) : Tree (Slaw17_TapePasses_0 ⊕ (((List (List UInt8)) × Bool × Tape × Store) ⊕ ((List (List UInt8)) × Tape × Store))) :=
  .ite (decide (s.t8 < (s.t0.length : Int)))
    (.opt (Tape × Store) (law17_command q s.b0 s.b1 (3 : Int)) fun r199 =>
      .ite (!decide (r199.1.pos = (IntKind.wrap .i64 (s.t8 + (1 : Int)))))
        (.leaf (.inr (.inl (s.t0, false, r199.1, r199.2))))
        (.ite (decide (0 ≤ s.t8))
          (.opt (List UInt8) (s.t0[(s.t8).toNat]?) fun y200 =>
            .ite (!(r199.1.mark == (decide (y200 = ([])))))
              (.leaf (.inr (.inl (s.t0, false, r199.1, r199.2))))
              (.ite (r199.1.end_)
                (.leaf (.inr (.inl (s.t0, false, r199.1, r199.2))))
                (.ite (r199.1.error)
                  (.leaf (.inr (.inl (s.t0, false, r199.1, r199.2))))
                  (.leaf (.inl (Slaw17_TapePasses_0.mk s.t0 (IntKind.wrap .i64 (s.t8 + (1 : Int))) r199.1 r199.2))))))
          .fail))
    (.leaf (.inr (.inr (s.t0, s.b0, s.b1))))
noncomputable def Llaw17_TapePasses_0 (q : Option Nat) (s : Slaw17_TapePasses_0) : Option (((List (List UInt8)) × Bool × Tape × Store) ⊕ ((List (List UInt8)) × Tape × Store)) := limQ q (fun s => (Wlaw17_TapePasses_0 q s).run) s
theorem leLlaw17_TapePasses_0 (k : Nat) (s : Slaw17_TapePasses_0) : Le (Llaw17_TapePasses_0 (some k) s) (Llaw17_TapePasses_0 none s) := limQ_le (fun s => (TLe.ite (TLe.opt (lelaw17_command k _ _ _) fun _ => TLe.rfl) TLe.rfl)) s
noncomputable def Tlaw17_TapePasses (q : Option Nat) (x0 : (List (List UInt8))) : Tree Bool :=
  .opt (Tape × Int) (tape_New q x0) fun r195 =>
    .ite (!decide (r195.2 = (0 : Int)))
      (.ite (decide ((64 : Int) < (x0.length : Int)))
        (.opt Bool (law17_alive q) fun r196 =>
          .leaf (r196))
        (.ite (decide (r195.2 = (7 : Int)))
          (.opt Bool (law17_alive q) fun r197 =>
            .leaf (r197))
          (.leaf (false))))
      (.opt ((List Int) × Int) (memory_New (256 : Int)) fun r198 =>
        .opt (((List (List UInt8)) × Bool × Tape × Store) ⊕ ((List (List UInt8)) × Tape × Store)) (Llaw17_TapePasses_0 q (Slaw17_TapePasses_0.mk x0 (0 : Int) r195.1 (Store.mk r198.1 ([])))) fun l201 =>
          .ite (l201.isLeft)
            (.opt ((List (List UInt8)) × Bool × Tape × Store) (l201.getLeft?) fun a202 =>
              .leaf (a202.2.1))
            (.opt ((List (List UInt8)) × Tape × Store) (l201.getRight?) fun b203 =>
              .opt (Tape × Store) (law17_command q b203.2.1 b203.2.2 (3 : Int)) fun r204 =>
                .ite (r204.1.end_)
                  (.ite (r204.1.error)
                    (.ite (decide (r204.1.pos = (b203.1.length : Int)))
                      (.opt Bool (law17_alive q) fun r205 =>
                        .leaf (r205))
                      (.leaf (false)))
                    (.leaf (false)))
                  (.leaf (false))))
noncomputable def law17_TapePasses (q : Option Nat) (x0 : (List (List UInt8))) : Option Bool := (Tlaw17_TapePasses q x0).run
theorem lelaw17_TapePasses (k : Nat) (x0 : (List (List UInt8))) : Le (law17_TapePasses (some k) x0) (law17_TapePasses none x0) := (TLe.opt (letape_New k _) fun _ => (TLe.ite (TLe.ite (TLe.opt (lelaw17_alive k) fun _ => TLe.rfl) (TLe.ite (TLe.opt (lelaw17_alive k) fun _ => TLe.rfl) TLe.rfl)) (TLe.opt Le.rfl fun _ => (TLe.opt (leLlaw17_TapePasses_0 k _) fun _ => (TLe.ite TLe.rfl (TLe.opt Le.rfl fun _ => (TLe.opt (lelaw17_command k _ _ _) fun _ => (TLe.ite (TLe.ite (TLe.ite (TLe.opt (lelaw17_alive k) fun _ => TLe.rfl) TLe.rfl) TLe.rfl) TLe.rfl))))))))
noncomputable def Alaw17_TapePasses : Arg U ((List (List UInt8)) × Unit) := aO (cSl 9) (aNil)
noncomputable def Rlaw17_TapePasses (r : Bool) : List (V U) × List (Blk U) := ([vO cBool r], [])
noncomputable def Slaw17_TapePasses : List (V U) → List (Blk U) → Option (FnOut U) := mkSpec Alaw17_TapePasses bNil (fun x _ => law17_TapePasses none x.1) Rlaw17_TapePasses
noncomputable def Plaw17_TapePasses_0 (x : ((List (List UInt8)) × Unit) × (Unit) × (Unit) × (Int × Unit) × Unit) (g : (Tape × Unit) × (Store × Unit) × Unit) : Slaw17_TapePasses_0 := Slaw17_TapePasses_0.mk x.1.1 x.2.2.2.1.1 g.1.1 g.2.1.1
noncomputable def tAlaw17_TapePasses_0 : Tms U (((List (List UInt8)) × Unit) × (Unit) × (Unit) × (Int × Unit) × Unit) := tO 0 (cPair (cSl 9) (cUnit)) (tO 3 (cK (.ptr 0 0) (cUnit)) (tO 7 (cK (.ptr 1 0) (cUnit)) (tO 8 (cPair (cInt .i64) (cUnit)) (tNil))))
noncomputable def tBlaw17_TapePasses_0 : Bls U ((Tape × Unit) × (Store × Unit) × Unit) := bC (cPair cTape (cUnit)) (bC (cPair cStore (cUnit)) (bNil))
noncomputable def eSlaw17_TapePasses_0 (s : Slaw17_TapePasses_0) : St U := { tm := [(0, .v (vO (cPair (cSl 9) (cUnit)) (s.t0, ()))), (3, .v (vO (cK (.ptr 0 0) (cUnit)) (()))), (7, .v (vO (cK (.ptr 1 0) (cUnit)) (()))), (8, .v (vO (cPair (cInt .i64) (cUnit)) (s.t8, ())))], hp := [.cells ((cPair cTape (cUnit) : Cdc U (Tape × Unit)).enc (s.b0, ())), .cells ((cPair cStore (cUnit) : Cdc U (Store × Unit)).enc (s.b1, ()))] }
noncomputable def xSlaw17_TapePasses_0 : (((List (List UInt8)) × Bool × Tape × Store) ⊕ ((List (List UInt8)) × Tape × Store)) → Ex × St U
  | .inl r => (.ret, { tm := [(0, .v (vO (cPair (cSl 9) (cUnit)) (r.1, ()))), (2, .v (vO (cPair cBool (cUnit)) (r.2.1, ()))), (3, .v (vO (cK (.ptr 0 0) (cUnit)) (()))), (7, .v (vO (cK (.ptr 1 0) (cUnit)) (())))], hp := [.cells ((cPair cTape (cUnit) : Cdc U (Tape × Unit)).enc (r.2.2.1, ())), .cells ((cPair cStore (cUnit) : Cdc U (Store × Unit)).enc (r.2.2.2, ()))] })
  | .inr r => (.exit 0, { tm := [(0, .v (vO (cPair (cSl 9) (cUnit)) (r.1, ()))), (3, .v (vO (cK (.ptr 0 0) (cUnit)) (()))), (7, .v (vO (cK (.ptr 1 0) (cUnit)) (())))], hp := [.cells ((cPair cTape (cUnit) : Cdc U (Tape × Unit)).enc (r.2.1, ())), .cells ((cPair cStore (cUnit) : Cdc U (Store × Unit)).enc (r.2.2, ()))] })
noncomputable def xTlaw17_TapePasses_0 (y : (((List (List UInt8)) × Bool × Tape × Store) ⊕ ((List (List UInt8)) × Tape × Store))) : Tree (Ex × St U) := .ite y.isLeft (.opt ((List (List UInt8)) × Bool × Tape × Store) y.getLeft? fun r => .leaf (.ret, { tm := [(0, .v (vO (cPair (cSl 9) (cUnit)) (r.1, ()))), (2, .v (vO (cPair cBool (cUnit)) (r.2.1, ()))), (3, .v (vO (cK (.ptr 0 0) (cUnit)) (()))), (7, .v (vO (cK (.ptr 1 0) (cUnit)) (())))], hp := [.cells ((cPair cTape (cUnit) : Cdc U (Tape × Unit)).enc (r.2.2.1, ())), .cells ((cPair cStore (cUnit) : Cdc U (Store × Unit)).enc (r.2.2.2, ()))] })) (.opt ((List (List UInt8)) × Tape × Store) y.getRight? fun r => .leaf (.exit 0, { tm := [(0, .v (vO (cPair (cSl 9) (cUnit)) (r.1, ()))), (3, .v (vO (cK (.ptr 0 0) (cUnit)) (()))), (7, .v (vO (cK (.ptr 1 0) (cUnit)) (())))], hp := [.cells ((cPair cTape (cUnit) : Cdc U (Tape × Unit)).enc (r.2.1, ())), .cells ((cPair cStore (cUnit) : Cdc U (Store × Unit)).enc (r.2.2, ()))] }))
noncomputable def hlaw17_TapePasses_0 : Hd := { keep := [0, 3, 7, 8], xkeep := [0, 2, 3, 7], own := false }
noncomputable def Elaw17_TapePasses : Env U := { P := Try.prog, cd := cd, fns := fns4, lps := (addL 0 hlaw17_TapePasses_0 (mkLoop tAlaw17_TapePasses_0 tBlaw17_TapePasses_0 Plaw17_TapePasses_0 (Llaw17_TapePasses_0 none) xTlaw17_TapePasses_0) noL), frz := fun _r => false, nt := 89, n0 := 0 }
noncomputable def Blaw17_TapePasses_0 : Code := (loopAt (Try.f5.body.getD .skip) 0 0).getD .skip
theorem roundlaw17_TapePasses_0 (s : Slaw17_TapePasses_0) : round Elaw17_TapePasses hlaw17_TapePasses_0 Blaw17_TapePasses_0 0 (eSlaw17_TapePasses_0 s) = (Wlaw17_TapePasses_0 none s).map (sumE eSlaw17_TapePasses_0 xSlaw17_TapePasses_0) := by kernel_rfl
theorem lplaw17_TapePasses_0 : LpOk Elaw17_TapePasses Blaw17_TapePasses_0 0 := mkLoop_ok (A := tAlaw17_TapePasses_0) (B := tBlaw17_TapePasses_0) (f := Plaw17_TapePasses_0) (L := Llaw17_TapePasses_0 none) (tO_ok (cPair_ok (cSl_ok 9) cUnit_ok) (tO_ok (cK_ok cUnit_ok) (tO_ok (cK_ok cUnit_ok) (tO_ok (cPair_ok (cInt_ok .i64) cUnit_ok) tNil_ok)))) (bC_ok (cPair_ok cTape_ok cUnit_ok) (bC_ok (cPair_ok cStore_ok cUnit_ok) bNil_ok)) (enc := eSlaw17_TapePasses_0) (out := xTlaw17_TapePasses_0) (outS := xSlaw17_TapePasses_0) (step := Wlaw17_TapePasses_0 none) (fun _ => rfl) (fun _ _ => by kernel_rfl) (by kernel_rfl) (fun b => by cases b <;> rfl) roundlaw17_TapePasses_0
theorem runlaw17_TapePasses (x : (List (List UInt8)) × Unit) (g : Unit) : execF Elaw17_TapePasses Try.f5 (Alaw17_TapePasses.enc x) (bNil.enc g) = (Tlaw17_TapePasses none x.1).map Rlaw17_TapePasses := by kernel_rfl
theorem oklaw17_TapePasses : FnOk Try.prog cd 5 Slaw17_TapePasses := mk_ok (E := Elaw17_TapePasses) cd_ok fns4_ok Try.func5 (by kernel_rfl) (loops_of (addL_ok lplaw17_TapePasses_0 noL_ok)) (aO_ok (cSl_ok 9) (aNil_ok)) bNil_ok (T := fun x _ => Tlaw17_TapePasses none x.1) (fun _ _ => rfl) runlaw17_TapePasses
noncomputable def fns5 := addF 5 true Slaw17_TapePasses fns4
theorem fns5_ok : ∀ f q t, fns5 f = some (q, t) → FnOk Try.prog cd f t := addF_ok oklaw17_TapePasses fns4_ok
/-- emulator/emulatorref17.New -/
structure Sref17_New_0 where
  t0 : (List (List UInt8))
  t4 : Int
  b0 : Tape
noncomputable def Wref17_New_0 (s : Sref17_New_0) : Tree (Sref17_New_0 ⊕ (((List (List UInt8)) × Int × Tape) ⊕ ((List (List UInt8)) × Tape))) :=
  .ite (decide (s.t4 < (s.t0.length : Int)))
    (.ite (decide (0 ≤ s.t4))
      (.opt (List UInt8) (s.t0[(s.t4).toNat]?) fun y206 =>
        .ite (decide ((512 : Int) < (y206.length : Int)))
          (.leaf (.inr (.inl (s.t0, (7 : Int), Tape.mk ([]) 0 false false false false false 0 0 0 0))))
          (.leaf (.inl (Sref17_New_0.mk s.t0 (IntKind.wrap .i64 (s.t4 + (1 : Int))) s.b0))))
      .fail)
    (.leaf (.inr (.inr (s.t0, s.b0))))
noncomputable def Lref17_New_0 (q : Option Nat) (s : Sref17_New_0) : Option (((List (List UInt8)) × Int × Tape) ⊕ ((List (List UInt8)) × Tape)) := limQ q (fun s => (Wref17_New_0 s).run) s
theorem leLref17_New_0 (k : Nat) (s : Sref17_New_0) : Le (Lref17_New_0 (some k) s) (Lref17_New_0 none s) := limQ_le (fun _ => Le.rfl) s
noncomputable def Tref17_New (q : Option Nat) (x0 : (List (List UInt8))) : Tree (Tape × Int) :=
  .ite (decide ((64 : Int) < (x0.length : Int)))
    (.leaf ((Tape.mk ([]) 0 false false false false false 0 0 0 0, (12 : Int))))
    (.opt (((List (List UInt8)) × Int × Tape) ⊕ ((List (List UInt8)) × Tape)) (Lref17_New_0 q (Sref17_New_0.mk x0 (0 : Int) (Tape.mk ([]) 0 false false false false false 0 0 0 0))) fun l207 =>
      .ite (l207.isLeft)
        (.opt ((List (List UInt8)) × Int × Tape) (l207.getLeft?) fun a208 =>
          .leaf ((a208.2.2, a208.2.1)))
        (.opt ((List (List UInt8)) × Tape) (l207.getRight?) fun b209 =>
          .ite (decide ((([] : List (List UInt8)).length + b209.1.length) * 16 ≤ 140737488355328))
            (.leaf ((Tape.mk (([] : List (List UInt8)) ++ b209.1) 0 false true false false false 0 0 0 0, (0 : Int))))
            .fail))
noncomputable def ref17_New (q : Option Nat) (x0 : (List (List UInt8))) : Option (Tape × Int) := (Tref17_New q x0).run
theorem leref17_New (k : Nat) (x0 : (List (List UInt8))) : Le (ref17_New (some k) x0) (ref17_New none x0) := (TLe.ite TLe.rfl (TLe.opt (leLref17_New_0 k _) fun _ => TLe.rfl))
noncomputable def Aref17_New : Arg U ((List (List UInt8)) × Unit) := aO (cSl 9) (aNil)
noncomputable def Rref17_New (r : (Tape × Int)) : List (V U) × List (Blk U) := ([vA cTape r.1, vO (cInt .i64) r.2], [])
noncomputable def Sref17_New : List (V U) → List (Blk U) → Option (FnOut U) := mkSpec Aref17_New bNil (fun x _ => ref17_New none x.1) Rref17_New
noncomputable def Pref17_New_0 (x : ((List (List UInt8)) × Unit) × (Unit) × (Int × Unit) × Unit) (g : (Tape × Unit) × Unit) : Sref17_New_0 := Sref17_New_0.mk x.1.1 x.2.2.1.1 g.1.1
noncomputable def tAref17_New_0 : Tms U (((List (List UInt8)) × Unit) × (Unit) × (Int × Unit) × Unit) := tO 0 (cPair (cSl 9) (cUnit)) (tO 2 (cK (.ptr 0 0) (cUnit)) (tO 4 (cPair (cInt .i64) (cUnit)) (tNil)))
noncomputable def tBref17_New_0 : Bls U ((Tape × Unit) × Unit) := bC (cPair cTape (cUnit)) (bNil)
noncomputable def eSref17_New_0 (s : Sref17_New_0) : St U := { tm := [(0, .v (vO (cPair (cSl 9) (cUnit)) (s.t0, ()))), (2, .v (vO (cK (.ptr 0 0) (cUnit)) (()))), (4, .v (vO (cPair (cInt .i64) (cUnit)) (s.t4, ())))], hp := [.cells ((cPair cTape (cUnit) : Cdc U (Tape × Unit)).enc (s.b0, ()))] }
noncomputable def xSref17_New_0 : (((List (List UInt8)) × Int × Tape) ⊕ ((List (List UInt8)) × Tape)) → Ex × St U
  | .inl r => (.ret, { tm := [(0, .v (vO (cPair (cSl 9) (cUnit)) (r.1, ()))), (2, .v (vO (cK (.ptr 0 0) (cUnit)) (()))), (3, .v (vO (cPair (cInt .i64) (cUnit)) (r.2.1, ())))], hp := [.cells ((cPair cTape (cUnit) : Cdc U (Tape × Unit)).enc (r.2.2, ()))] })
  | .inr r => (.exit 0, { tm := [(0, .v (vO (cPair (cSl 9) (cUnit)) (r.1, ()))), (2, .v (vO (cK (.ptr 0 0) (cUnit)) (())))], hp := [.cells ((cPair cTape (cUnit) : Cdc U (Tape × Unit)).enc (r.2, ()))] })
noncomputable def xTref17_New_0 (y : (((List (List UInt8)) × Int × Tape) ⊕ ((List (List UInt8)) × Tape))) : Tree (Ex × St U) := .ite y.isLeft (.opt ((List (List UInt8)) × Int × Tape) y.getLeft? fun r => .leaf (.ret, { tm := [(0, .v (vO (cPair (cSl 9) (cUnit)) (r.1, ()))), (2, .v (vO (cK (.ptr 0 0) (cUnit)) (()))), (3, .v (vO (cPair (cInt .i64) (cUnit)) (r.2.1, ())))], hp := [.cells ((cPair cTape (cUnit) : Cdc U (Tape × Unit)).enc (r.2.2, ()))] })) (.opt ((List (List UInt8)) × Tape) y.getRight? fun r => .leaf (.exit 0, { tm := [(0, .v (vO (cPair (cSl 9) (cUnit)) (r.1, ()))), (2, .v (vO (cK (.ptr 0 0) (cUnit)) (())))], hp := [.cells ((cPair cTape (cUnit) : Cdc U (Tape × Unit)).enc (r.2, ()))] }))
noncomputable def href17_New_0 : Hd := { keep := [0, 2, 4], xkeep := [0, 2, 3], own := false }
noncomputable def Eref17_New : Env U := { P := Try.prog, cd := cd, fns := fns5, lps := (addL 0 href17_New_0 (mkLoop tAref17_New_0 tBref17_New_0 Pref17_New_0 (Lref17_New_0 none) xTref17_New_0) noL), frz := fun _r => false, nt := 26, n0 := 0 }
noncomputable def Bref17_New_0 : Code := (loopAt (Try.f20.body.getD .skip) 0 0).getD .skip
theorem roundref17_New_0 (s : Sref17_New_0) : round Eref17_New href17_New_0 Bref17_New_0 0 (eSref17_New_0 s) = (Wref17_New_0 s).map (sumE eSref17_New_0 xSref17_New_0) := by kernel_rfl
theorem lpref17_New_0 : LpOk Eref17_New Bref17_New_0 0 := mkLoop_ok (A := tAref17_New_0) (B := tBref17_New_0) (f := Pref17_New_0) (L := Lref17_New_0 none) (tO_ok (cPair_ok (cSl_ok 9) cUnit_ok) (tO_ok (cK_ok cUnit_ok) (tO_ok (cPair_ok (cInt_ok .i64) cUnit_ok) tNil_ok))) (bC_ok (cPair_ok cTape_ok cUnit_ok) bNil_ok) (enc := eSref17_New_0) (out := xTref17_New_0) (outS := xSref17_New_0) (step := Wref17_New_0) (fun _ => rfl) (fun _ _ => by kernel_rfl) (by kernel_rfl) (fun b => by cases b <;> rfl) roundref17_New_0
theorem runref17_New (x : (List (List UInt8)) × Unit) (g : Unit) : execF Eref17_New Try.f20 (Aref17_New.enc x) (bNil.enc g) = (Tref17_New none x.1).map Rref17_New := by kernel_rfl
theorem okref17_New : FnOk Try.prog cd 20 Sref17_New := mk_ok (E := Eref17_New) cd_ok fns5_ok Try.func20 (by kernel_rfl) (loops_of (addL_ok lpref17_New_0 noL_ok)) (aO_ok (cSl_ok 9) (aNil_ok)) bNil_ok (T := fun x _ => Tref17_New none x.1) (fun _ _ => rfl) runref17_New
noncomputable def fns20 := addF 20 true Sref17_New fns5
theorem fns20_ok : ∀ f q t, fns20 f = some (q, t) → FnOk Try.prog cd f t := addF_ok okref17_New fns5_ok
/-- emulator/tape.isWord -/
noncomputable def Ttape_isWord (x0 : Int) : Tree Bool :=
  .leaf (decide ((IntKind.wrap .i64 (((BitVec.ofInt 64 x0 &&& BitVec.ofInt 64 (65535 : Int)).toNat : Int))) = x0))
noncomputable def tape_isWord (x0 : Int) : Option Bool := (Ttape_isWord x0).run
noncomputable def Atape_isWord : Arg U (Int × Unit) := aO (cInt .i64) (aNil)
noncomputable def Rtape_isWord (r : Bool) : List (V U) × List (Blk U) := ([vO cBool r], [])
noncomputable def Stape_isWord : List (V U) → List (Blk U) → Option (FnOut U) := mkSpec Atape_isWord bNil (fun x _ => tape_isWord x.1) Rtape_isWord
noncomputable def Etape_isWord : Env U := { P := Try.prog, cd := cd, fns := fns20, lps := noL, frz := fun _r => false, nt := 7, n0 := 0 }
theorem runtape_isWord (x : Int × Unit) (g : Unit) : execF Etape_isWord Try.f53 (Atape_isWord.enc x) (bNil.enc g) = (Ttape_isWord x.1).map Rtape_isWord := by kernel_rfl
theorem oktape_isWord : FnOk Try.prog cd 53 Stape_isWord := mk_ok (E := Etape_isWord) cd_ok fns20_ok Try.func53 (by kernel_rfl) (noLoops_body (by kernel_rfl)) (aO_ok (cInt_ok .i64) (aNil_ok)) bNil_ok (T := fun x _ => Ttape_isWord x.1) (fun _ _ => rfl) runtape_isWord
noncomputable def fns53 := addF 53 true Stape_isWord fns20
theorem fns53_ok : ∀ f q t, fns53 f = some (q, t) → FnOk Try.prog cd f t := addF_ok oktape_isWord fns20_ok
/-- emulator/tape.Right -/
noncomputable def Ttape_Right (q : Option Nat) (x0 : Tape) : Tree Bool :=
  .ite (decide ((64 : Int) < (x0.records.length : Int)))
    (.leaf (false))
    (.opt Bool (slices_ContainsFunc_string_string q x0.records) fun r210 =>
      .ite (r210)
        (.leaf (false))
        (.ite (decide (x0.pos < (0 : Int)))
          (.leaf (false))
          (.ite (decide ((x0.records.length : Int) < x0.pos))
            (.leaf (false))
            (.ite (decide ((0 : Int) ≤ x0.command))
              (.ite (decide (x0.command ≤ (6 : Int)))
                (.opt Bool (tape_isWord x0.count) fun r211 =>
                  .ite (r211)
                    (.opt Bool (tape_isWord x0.addr) fun r212 =>
                      .ite (r212)
                        (.ite (decide ((0 : Int) ≤ x0.left))
                          (.ite (decide (x0.left ≤ (16 : Int)))
                            (.leaf ((x0.ready == (decide (x0.left = (0 : Int))))))
                            (.leaf (false)))
                          (.leaf (false)))
                        (.leaf (false)))
                    (.leaf (false)))
                (.leaf (false)))
              (.leaf (false))))))
noncomputable def tape_Right (q : Option Nat) (x0 : Tape) : Option Bool := (Ttape_Right q x0).run
theorem letape_Right (k : Nat) (x0 : Tape) : Le (tape_Right (some k) x0) (tape_Right none x0) := (TLe.ite TLe.rfl (TLe.opt (leslices_ContainsFunc_string_string k _) fun _ => TLe.rfl))
noncomputable def Atape_Right : Arg U (Tape × Unit) := aA cTape (aNil)
noncomputable def Rtape_Right (r : Bool) : List (V U) × List (Blk U) := ([vO cBool r], [])
noncomputable def Stape_Right : List (V U) → List (Blk U) → Option (FnOut U) := mkSpec Atape_Right bNil (fun x _ => tape_Right none x.1) Rtape_Right
noncomputable def Etape_Right : Env U := { P := Try.prog, cd := cd, fns := (addF 49 false (Sslices_ContainsFunc_string_string) fns53), lps := noL, frz := fun _r => false, nt := 61, n0 := 0 }
theorem runtape_Right (x : Tape × Unit) (g : Unit) : execF Etape_Right Try.f21 (Atape_Right.enc x) (bNil.enc g) = (Ttape_Right none x.1).map Rtape_Right := by kernel_rfl
theorem oktape_Right : FnOk Try.prog cd 21 Stape_Right := mk_ok (E := Etape_Right) cd_ok (addF_ok okslices_ContainsFunc_string_string fns53_ok) Try.func21 (by kernel_rfl) (noLoops_body (by kernel_rfl)) (aA_ok cTape_ok (aNil_ok)) bNil_ok (T := fun x _ => Ttape_Right none x.1) (fun _ _ => rfl) runtape_Right
noncomputable def fns21 := addF 21 true Stape_Right fns53
theorem fns21_ok : ∀ f q t, fns21 f = some (q, t) → FnOk Try.prog cd f t := addF_ok oktape_Right fns53_ok
/-- emulator/emulatorlaw17.TapeRight -/
noncomputable def Tlaw17_TapeRight (q : Option Nat) (x0 : Tape) (x1 : (List (List UInt8))) : Tree Bool :=
  .ite (decide ((100 : Int) < (x1.length : Int)))
    (.leaf (true))
    (.ite (decide ((100 : Int) < (x0.records.length : Int)))
      (.leaf (true))
      (.opt (Tape × Int) (tape_New q x1) fun r213 =>
        .opt (Tape × Int) (ref17_New q x1) fun r214 =>
          .opt Bool (ref17_Same q r213.1 r214.1) fun r215 =>
            .ite (r215)
              (.ite (decide (r213.2 = r214.2))
                (.opt Bool (tape_Right q x0) fun r216 =>
                  .opt Bool (ref17_Right q x0) fun r217 =>
                    .ite ((r216 == r217))
                      (.opt Bool (law17_alive q) fun r218 =>
                        .leaf (r218))
                      (.leaf (false)))
                (.leaf (false)))
              (.leaf (false))))
noncomputable def law17_TapeRight (q : Option Nat) (x0 : Tape) (x1 : (List (List UInt8))) : Option Bool := (Tlaw17_TapeRight q x0 x1).run
theorem lelaw17_TapeRight (k : Nat) (x0 : Tape) (x1 : (List (List UInt8))) : Le (law17_TapeRight (some k) x0 x1) (law17_TapeRight none x0 x1) := (TLe.ite TLe.rfl (TLe.ite TLe.rfl (TLe.opt (letape_New k _) fun _ => (TLe.opt (leref17_New k _) fun _ => (TLe.opt (leref17_Same k _ _) fun _ => (TLe.ite (TLe.ite (TLe.opt (letape_Right k _) fun _ => (TLe.opt (leref17_Right k _) fun _ => (TLe.ite (TLe.opt (lelaw17_alive k) fun _ => TLe.rfl) TLe.rfl))) TLe.rfl) TLe.rfl))))))
noncomputable def Alaw17_TapeRight : Arg U (Tape × (List (List UInt8)) × Unit) := aA cTape (aO (cSl 9) (aNil))
noncomputable def Rlaw17_TapeRight (r : Bool) : List (V U) × List (Blk U) := ([vO cBool r], [])
noncomputable def Slaw17_TapeRight : List (V U) → List (Blk U) → Option (FnOut U) := mkSpec Alaw17_TapeRight bNil (fun x _ => law17_TapeRight none x.1 x.2.1) Rlaw17_TapeRight
noncomputable def Elaw17_TapeRight : Env U := { P := Try.prog, cd := cd, fns := fns21, lps := noL, frz := fun _r => false, nt := 46, n0 := 0 }
theorem runlaw17_TapeRight (x : Tape × (List (List UInt8)) × Unit) (g : Unit) : execF Elaw17_TapeRight Try.f6 (Alaw17_TapeRight.enc x) (bNil.enc g) = (Tlaw17_TapeRight none x.1 x.2.1).map Rlaw17_TapeRight := by kernel_rfl
theorem oklaw17_TapeRight : FnOk Try.prog cd 6 Slaw17_TapeRight := mk_ok (E := Elaw17_TapeRight) cd_ok fns21_ok Try.func6 (by kernel_rfl) (noLoops_body (by kernel_rfl)) (aA_ok cTape_ok (aO_ok (cSl_ok 9) (aNil_ok))) bNil_ok (T := fun x _ => Tlaw17_TapeRight none x.1 x.2.1) (fun _ _ => rfl) runlaw17_TapeRight
noncomputable def fns6 := addF 6 true Slaw17_TapeRight fns21
theorem fns6_ok : ∀ f q t, fns6 f = some (q, t) → FnOk Try.prog cd f t := addF_ok oklaw17_TapeRight fns21_ok
/-- emulator/tape.bit -/
noncomputable def Ttape_bit (x0 : Bool) (x1 : Int) : Tree Int :=
  .ite (x0)
    (.leaf (x1))
    (.leaf ((0 : Int)))
noncomputable def tape_bit (x0 : Bool) (x1 : Int) : Option Int := (Ttape_bit x0 x1).run
noncomputable def Atape_bit : Arg U (Bool × Int × Unit) := aO cBool (aO (cInt .i64) (aNil))
noncomputable def Rtape_bit (r : Int) : List (V U) × List (Blk U) := ([vO (cInt .i64) r], [])
noncomputable def Stape_bit : List (V U) → List (Blk U) → Option (FnOut U) := mkSpec Atape_bit bNil (fun x _ => tape_bit x.1 x.2.1) Rtape_bit
noncomputable def Etape_bit : Env U := { P := Try.prog, cd := cd, fns := fns6, lps := noL, frz := fun _r => false, nt := 7, n0 := 0 }
theorem runtape_bit (x : Bool × Int × Unit) (g : Unit) : execF Etape_bit Try.f55 (Atape_bit.enc x) (bNil.enc g) = (Ttape_bit x.1 x.2.1).map Rtape_bit := by kernel_rfl
theorem oktape_bit : FnOk Try.prog cd 55 Stape_bit := mk_ok (E := Etape_bit) cd_ok fns6_ok Try.func55 (by kernel_rfl) (noLoops_body (by kernel_rfl)) (aO_ok cBool_ok (aO_ok (cInt_ok .i64) (aNil_ok))) bNil_ok (T := fun x _ => Ttape_bit x.1 x.2.1) (fun _ _ => rfl) runtape_bit
noncomputable def fns55 := addF 55 true Stape_bit fns6
theorem fns55_ok : ∀ f q t, fns55 f = some (q, t) → FnOk Try.prog cd f t := addF_ok oktape_bit fns6_ok
/-- emulator/tape.Read -/
noncomputable def Ttape_Read (x0 : Tape) (x1 : Int) : Tree (Int × Bool) :=
  .ite (decide (x1 = (0 : Int)))
    (.ite (decide (0 ≤ (1 : Int)))
      (.opt Int (tape_bit x0.enable (64 : Int)) fun r219 =>
        .opt Int (tape_bit x0.ready (128 : Int)) fun r220 =>
          .opt Int (tape_bit x0.mark (256 : Int)) fun r221 =>
            .opt Int (tape_bit x0.end_ (512 : Int)) fun r222 =>
              .opt Int (tape_bit x0.error (32768 : Int)) fun r223 =>
                .leaf ((IntKind.wrap .i64 (((BitVec.ofInt 64 (IntKind.wrap .i64 (((BitVec.ofInt 64 (IntKind.wrap .i64 (((BitVec.ofInt 64 (IntKind.wrap .i64 (((BitVec.ofInt 64 (IntKind.wrap .i64 (((BitVec.ofInt 64 (IntKind.wrap .i64 (x0.command * 2 ^ (min ((1 : Int)).toNat 64))) ||| BitVec.ofInt 64 r219).toNat : Int))) ||| BitVec.ofInt 64 r220).toNat : Int))) ||| BitVec.ofInt 64 r221).toNat : Int))) ||| BitVec.ofInt 64 r222).toNat : Int))) ||| BitVec.ofInt 64 r223).toNat : Int)), true)))
      .fail)
    (.ite (decide (x1 = (2 : Int)))
      (.leaf ((x0.count, true)))
      (.ite (decide (x1 = (4 : Int)))
        (.leaf ((x0.addr, true)))
        (.leaf (((0 : Int), false)))))
noncomputable def tape_Read (x0 : Tape) (x1 : Int) : Option (Int × Bool) := (Ttape_Read x0 x1).run
noncomputable def Atape_Read : Arg U (Tape × Int × Unit) := aA cTape (aO (cInt .i64) (aNil))
noncomputable def Rtape_Read (r : (Int × Bool)) : List (V U) × List (Blk U) := ([vO (cInt .i64) r.1, vO cBool r.2], [])
noncomputable def Stape_Read : List (V U) → List (Blk U) → Option (FnOut U) := mkSpec Atape_Read bNil (fun x _ => tape_Read x.1 x.2.1) Rtape_Read
noncomputable def Etape_Read : Env U := { P := Try.prog, cd := cd, fns := fns55, lps := noL, frz := fun _r => false, nt := 40, n0 := 0 }
theorem runtape_Read (x : Tape × Int × Unit) (g : Unit) : execF Etape_Read Try.f23 (Atape_Read.enc x) (bNil.enc g) = (Ttape_Read x.1 x.2.1).map Rtape_Read := by kernel_rfl
theorem oktape_Read : FnOk Try.prog cd 23 Stape_Read := mk_ok (E := Etape_Read) cd_ok fns55_ok Try.func23 (by kernel_rfl) (noLoops_body (by kernel_rfl)) (aA_ok cTape_ok (aO_ok (cInt_ok .i64) (aNil_ok))) bNil_ok (T := fun x _ => Ttape_Read x.1 x.2.1) (fun _ _ => rfl) runtape_Read
noncomputable def fns23 := addF 23 true Stape_Read fns55
theorem fns23_ok : ∀ f q t, fns23 f = some (q, t) → FnOk Try.prog cd f t := addF_ok oktape_Read fns55_ok
/-- emulator/emulatorref17.bit -/
noncomputable def Tref17_bit (x0 : Bool) (x1 : Int) : Tree Int :=
  .ite (x0)
    (.leaf (x1))
    (.leaf ((0 : Int)))
noncomputable def ref17_bit (x0 : Bool) (x1 : Int) : Option Int := (Tref17_bit x0 x1).run
noncomputable def Aref17_bit : Arg U (Bool × Int × Unit) := aO cBool (aO (cInt .i64) (aNil))
noncomputable def Rref17_bit (r : Int) : List (V U) × List (Blk U) := ([vO (cInt .i64) r], [])
noncomputable def Sref17_bit : List (V U) → List (Blk U) → Option (FnOut U) := mkSpec Aref17_bit bNil (fun x _ => ref17_bit x.1 x.2.1) Rref17_bit
noncomputable def Eref17_bit : Env U := { P := Try.prog, cd := cd, fns := fns23, lps := noL, frz := fun _r => false, nt := 7, n0 := 0 }
theorem runref17_bit (x : Bool × Int × Unit) (g : Unit) : execF Eref17_bit Try.f56 (Aref17_bit.enc x) (bNil.enc g) = (Tref17_bit x.1 x.2.1).map Rref17_bit := by kernel_rfl
theorem okref17_bit : FnOk Try.prog cd 56 Sref17_bit := mk_ok (E := Eref17_bit) cd_ok fns23_ok Try.func56 (by kernel_rfl) (noLoops_body (by kernel_rfl)) (aO_ok cBool_ok (aO_ok (cInt_ok .i64) (aNil_ok))) bNil_ok (T := fun x _ => Tref17_bit x.1 x.2.1) (fun _ _ => rfl) runref17_bit
noncomputable def fns56 := addF 56 true Sref17_bit fns23
theorem fns56_ok : ∀ f q t, fns56 f = some (q, t) → FnOk Try.prog cd f t := addF_ok okref17_bit fns23_ok
/-- emulator/emulatorref17.Read -/
noncomputable def Tref17_Read (x0 : Tape) (x1 : Int) : Tree (Int × Bool) :=
  .ite (decide (x1 = (0 : Int)))
    (.opt Int (ref17_bit x0.enable (64 : Int)) fun r224 =>
      .opt Int (ref17_bit x0.ready (128 : Int)) fun r225 =>
        .opt Int (ref17_bit x0.mark (256 : Int)) fun r226 =>
          .opt Int (ref17_bit x0.end_ (512 : Int)) fun r227 =>
            .opt Int (ref17_bit x0.error (32768 : Int)) fun r228 =>
              .leaf ((IntKind.wrap .i64 ((IntKind.wrap .i64 ((IntKind.wrap .i64 ((IntKind.wrap .i64 ((IntKind.wrap .i64 ((IntKind.wrap .i64 ((2 : Int) * x0.command)) + r224)) + r225)) + r226)) + r227)) + r228), true)))
    (.ite (decide (x1 = (2 : Int)))
      (.leaf ((x0.count, true)))
      (.ite (decide (x1 = (4 : Int)))
        (.leaf ((x0.addr, true)))
        (.leaf (((0 : Int), false)))))
noncomputable def ref17_Read (x0 : Tape) (x1 : Int) : Option (Int × Bool) := (Tref17_Read x0 x1).run
noncomputable def Aref17_Read : Arg U (Tape × Int × Unit) := aA cTape (aO (cInt .i64) (aNil))
noncomputable def Rref17_Read (r : (Int × Bool)) : List (V U) × List (Blk U) := ([vO (cInt .i64) r.1, vO cBool r.2], [])
noncomputable def Sref17_Read : List (V U) → List (Blk U) → Option (FnOut U) := mkSpec Aref17_Read bNil (fun x _ => ref17_Read x.1 x.2.1) Rref17_Read
noncomputable def Eref17_Read : Env U := { P := Try.prog, cd := cd, fns := fns56, lps := noL, frz := fun _r => false, nt := 40, n0 := 0 }
theorem runref17_Read (x : Tape × Int × Unit) (g : Unit) : execF Eref17_Read Try.f24 (Aref17_Read.enc x) (bNil.enc g) = (Tref17_Read x.1 x.2.1).map Rref17_Read := by kernel_rfl
theorem okref17_Read : FnOk Try.prog cd 24 Sref17_Read := mk_ok (E := Eref17_Read) cd_ok fns56_ok Try.func24 (by kernel_rfl) (noLoops_body (by kernel_rfl)) (aA_ok cTape_ok (aO_ok (cInt_ok .i64) (aNil_ok))) bNil_ok (T := fun x _ => Tref17_Read x.1 x.2.1) (fun _ _ => rfl) runref17_Read
noncomputable def fns24 := addF 24 true Sref17_Read fns56
theorem fns24_ok : ∀ f q t, fns24 f = some (q, t) → FnOk Try.prog cd f t := addF_ok okref17_Read fns56_ok
/-- emulator/emulatorref17.start -/
noncomputable def Tref17_start (x0 : Tape) (x1 : Int) : Tree Tape :=
  .ite (decide (x1 = (7 : Int)))
    (.ite (!decide ((0 : Int) = (0 : Int)))
      (.leaf (Tape.mk x0.records x0.pos x0.enable false false false false (0 : Int) x0.count x0.addr (16 : Int)))
      (.leaf (Tape.mk x0.records x0.pos x0.enable x0.ready false false false (0 : Int) x0.count x0.addr x0.left)))
    (.ite (!decide (x1 = (0 : Int)))
      (.leaf (Tape.mk x0.records x0.pos x0.enable false false false false x1 x0.count x0.addr (16 : Int)))
      (.leaf (Tape.mk x0.records x0.pos x0.enable x0.ready false false false x1 x0.count x0.addr x0.left)))
noncomputable def ref17_start (x0 : Tape) (x1 : Int) : Option Tape := (Tref17_start x0 x1).run
noncomputable def Aref17_start : Arg U (Tape × Int × Unit) := aA cTape (aO (cInt .i64) (aNil))
noncomputable def Rref17_start (r : Tape) : List (V U) × List (Blk U) := ([vA cTape r], [])
noncomputable def Sref17_start : List (V U) → List (Blk U) → Option (FnOut U) := mkSpec Aref17_start bNil (fun x _ => ref17_start x.1 x.2.1) Rref17_start
noncomputable def Eref17_start : Env U := { P := Try.prog, cd := cd, fns := fns24, lps := noL, frz := fun _r => false, nt := 19, n0 := 0 }
theorem runref17_start (x : Tape × Int × Unit) (g : Unit) : execF Eref17_start Try.f58 (Aref17_start.enc x) (bNil.enc g) = (Tref17_start x.1 x.2.1).map Rref17_start := by kernel_rfl
theorem okref17_start : FnOk Try.prog cd 58 Sref17_start := mk_ok (E := Eref17_start) cd_ok fns24_ok Try.func58 (by kernel_rfl) (noLoops_body (by kernel_rfl)) (aA_ok cTape_ok (aO_ok (cInt_ok .i64) (aNil_ok))) bNil_ok (T := fun x _ => Tref17_start x.1 x.2.1) (fun _ _ => rfl) runref17_start
noncomputable def fns58 := addF 58 true Sref17_start fns24
theorem fns58_ok : ∀ f q t, fns58 f = some (q, t) → FnOk Try.prog cd f t := addF_ok okref17_start fns24_ok
/-- emulator/emulatorref17.Write -/
noncomputable def Tref17_Write (x0 : Tape) (x1 : Int) (x2 : Int) : Tree (Tape × Bool) :=
  .ite (decide (x1 = (0 : Int)))
    (.ite (x0.ready)
      (.ite (!decide ((IntKind.wrap .i64 (((BitVec.ofInt 64 x2 &&& BitVec.ofInt 64 (1 : Int)).toNat : Int))) = (0 : Int)))
        (.ite (decide (0 ≤ (1 : Int)))
          (.opt Tape (ref17_start (Tape.mk x0.records x0.pos (!decide ((IntKind.wrap .i64 (((BitVec.ofInt 64 x2 &&& BitVec.ofInt 64 (64 : Int)).toNat : Int))) = (0 : Int))) x0.ready x0.error x0.mark x0.end_ x0.command x0.count x0.addr x0.left) (IntKind.wrap .i64 (((BitVec.ofInt 64 ((x2).fdiv (2 ^ (min ((1 : Int)).toNat 64))) &&& BitVec.ofInt 64 (7 : Int)).toNat : Int)))) fun r229 =>
            .leaf ((r229, true)))
          .fail)
        (.leaf ((Tape.mk x0.records x0.pos (!decide ((IntKind.wrap .i64 (((BitVec.ofInt 64 x2 &&& BitVec.ofInt 64 (64 : Int)).toNat : Int))) = (0 : Int))) x0.ready x0.error x0.mark x0.end_ x0.command x0.count x0.addr x0.left, true))))
      (.leaf ((Tape.mk x0.records x0.pos (!decide ((IntKind.wrap .i64 (((BitVec.ofInt 64 x2 &&& BitVec.ofInt 64 (64 : Int)).toNat : Int))) = (0 : Int))) x0.ready x0.error x0.mark x0.end_ x0.command x0.count x0.addr x0.left, true))))
    (.ite (decide (x1 = (2 : Int)))
      (.ite (x0.ready)
        (.leaf ((Tape.mk x0.records x0.pos x0.enable x0.ready x0.error x0.mark x0.end_ x0.command (IntKind.wrap .i64 (((BitVec.ofInt 64 x2 &&& BitVec.ofInt 64 (65535 : Int)).toNat : Int))) x0.addr x0.left, true)))
        (.leaf ((x0, true))))
      (.ite (decide (x1 = (4 : Int)))
        (.ite (x0.ready)
          (.leaf ((Tape.mk x0.records x0.pos x0.enable x0.ready x0.error x0.mark x0.end_ x0.command x0.count (IntKind.wrap .i64 (((BitVec.ofInt 64 x2 &&& BitVec.ofInt 64 (65535 : Int)).toNat : Int))) x0.left, true)))
          (.leaf ((x0, true))))
        (.leaf ((x0, false)))))
noncomputable def ref17_Write (x0 : Tape) (x1 : Int) (x2 : Int) : Option (Tape × Bool) := (Tref17_Write x0 x1 x2).run
noncomputable def Aref17_Write : Arg U (Tape × Int × Int × Unit) := aA cTape (aO (cInt .i64) (aO (cInt .i64) (aNil)))
noncomputable def Rref17_Write (r : (Tape × Bool)) : List (V U) × List (Blk U) := ([vA cTape r.1, vO cBool r.2], [])
noncomputable def Sref17_Write : List (V U) → List (Blk U) → Option (FnOut U) := mkSpec Aref17_Write bNil (fun x _ => ref17_Write x.1 x.2.1 x.2.2.1) Rref17_Write
noncomputable def Eref17_Write : Env U := { P := Try.prog, cd := cd, fns := fns58, lps := noL, frz := fun _r => false, nt := 45, n0 := 0 }
theorem runref17_Write (x : Tape × Int × Int × Unit) (g : Unit) : execF Eref17_Write Try.f26 (Aref17_Write.enc x) (bNil.enc g) = (Tref17_Write x.1 x.2.1 x.2.2.1).map Rref17_Write := by kernel_rfl
theorem okref17_Write : FnOk Try.prog cd 26 Sref17_Write := mk_ok (E := Eref17_Write) cd_ok fns58_ok Try.func26 (by kernel_rfl) (noLoops_body (by kernel_rfl)) (aA_ok cTape_ok (aO_ok (cInt_ok .i64) (aO_ok (cInt_ok .i64) (aNil_ok)))) bNil_ok (T := fun x _ => Tref17_Write x.1 x.2.1 x.2.2.1) (fun _ _ => rfl) runref17_Write
noncomputable def fns26 := addF 26 true Sref17_Write fns58
theorem fns26_ok : ∀ f q t, fns26 f = some (q, t) → FnOk Try.prog cd f t := addF_ok okref17_Write fns58_ok
/-- emulator/emulatorref14.SameRequests -/
structure Sref14_SameRequests_0 where
  t0 : (List Request)
  t1 : (List Request)
  t5 : Int
noncomputable def Wref14_SameRequests_0 (s : Sref14_SameRequests_0) : Tree (Sref14_SameRequests_0 ⊕ (Bool ⊕ Unit)) :=
  .ite (decide (s.t5 < (s.t0.length : Int)))
    (.ite (decide (0 ≤ s.t5))
      (.opt Request (s.t0[(s.t5).toNat]?) fun y230 =>
        .ite (decide (0 ≤ s.t5))
          (.opt Request (s.t1[(s.t5).toNat]?) fun y231 =>
            .ite (!((decide (y230.priority = y231.priority)) && (decide (y230.vector = y231.vector))))
              (.leaf (.inr (.inl false)))
              (.leaf (.inl (Sref14_SameRequests_0.mk s.t0 s.t1 (IntKind.wrap .i64 (s.t5 + (1 : Int)))))))
          .fail)
      .fail)
    (.leaf (.inr (.inr ())))
noncomputable def Lref14_SameRequests_0 (q : Option Nat) (s : Sref14_SameRequests_0) : Option (Bool ⊕ Unit) := limQ q (fun s => (Wref14_SameRequests_0 s).run) s
theorem leLref14_SameRequests_0 (k : Nat) (s : Sref14_SameRequests_0) : Le (Lref14_SameRequests_0 (some k) s) (Lref14_SameRequests_0 none s) := limQ_le (fun _ => Le.rfl) s
noncomputable def Tref14_SameRequests (q : Option Nat) (x0 : (List Request)) (x1 : (List Request)) : Tree Bool :=
  .ite (!decide ((x0.length : Int) = (x1.length : Int)))
    (.leaf (false))
    (.opt (Bool ⊕ Unit) (Lref14_SameRequests_0 q (Sref14_SameRequests_0.mk x0 x1 (0 : Int))) fun l232 =>
      .ite (l232.isLeft)
        (.opt Bool (l232.getLeft?) fun a233 =>
          .leaf (a233))
        (.opt Unit (l232.getRight?) fun b234 =>
          .leaf (true)))
noncomputable def ref14_SameRequests (q : Option Nat) (x0 : (List Request)) (x1 : (List Request)) : Option Bool := (Tref14_SameRequests q x0 x1).run
theorem leref14_SameRequests (k : Nat) (x0 : (List Request)) (x1 : (List Request)) : Le (ref14_SameRequests (some k) x0 x1) (ref14_SameRequests none x0 x1) := (TLe.ite TLe.rfl (TLe.opt (leLref14_SameRequests_0 k _) fun _ => TLe.rfl))
noncomputable def Aref14_SameRequests : Arg U ((List Request) × (List Request) × Unit) := aO (cSl 79) (aO (cSl 79) (aNil))
noncomputable def Rref14_SameRequests (r : Bool) : List (V U) × List (Blk U) := ([vO cBool r], [])
noncomputable def Sref14_SameRequests : List (V U) → List (Blk U) → Option (FnOut U) := mkSpec Aref14_SameRequests bNil (fun x _ => ref14_SameRequests none x.1 x.2.1) Rref14_SameRequests
noncomputable def Pref14_SameRequests_0 (x : ((List Request) × Unit) × ((List Request) × Unit) × (Int × Unit) × Unit) (_g : Unit) : Sref14_SameRequests_0 := Sref14_SameRequests_0.mk x.1.1 x.2.1.1 x.2.2.1.1
noncomputable def tAref14_SameRequests_0 : Tms U (((List Request) × Unit) × ((List Request) × Unit) × (Int × Unit) × Unit) := tO 0 (cPair (cSl 79) (cUnit)) (tO 1 (cPair (cSl 79) (cUnit)) (tO 5 (cPair (cInt .i64) (cUnit)) (tNil)))
noncomputable def tBref14_SameRequests_0 : Bls U (Unit) := bNil
noncomputable def eSref14_SameRequests_0 (s : Sref14_SameRequests_0) : St U := { tm := [(0, .v (vO (cPair (cSl 79) (cUnit)) (s.t0, ()))), (1, .v (vO (cPair (cSl 79) (cUnit)) (s.t1, ()))), (5, .v (vO (cPair (cInt .i64) (cUnit)) (s.t5, ())))], hp := [] }
noncomputable def xSref14_SameRequests_0 : (Bool ⊕ Unit) → Ex × St U
  | .inl r => (.ret, { tm := [(4, .v (vO (cPair cBool (cUnit)) (r, ())))], hp := [] })
  | .inr r => (.exit 0, { tm := [], hp := [] })
noncomputable def xTref14_SameRequests_0 (y : (Bool ⊕ Unit)) : Tree (Ex × St U) := .ite y.isLeft (.opt Bool y.getLeft? fun r => .leaf (.ret, { tm := [(4, .v (vO (cPair cBool (cUnit)) (r, ())))], hp := [] })) (.opt Unit y.getRight? fun r => .leaf (.exit 0, { tm := [], hp := [] }))
noncomputable def href14_SameRequests_0 : Hd := { keep := [0, 1, 5], xkeep := [4], own := false }
noncomputable def Eref14_SameRequests : Env U := { P := Try.prog, cd := cd, fns := fns26, lps := (addL 0 href14_SameRequests_0 (mkLoop tAref14_SameRequests_0 tBref14_SameRequests_0 Pref14_SameRequests_0 (Lref14_SameRequests_0 none) xTref14_SameRequests_0) noL), frz := fun _r => false, nt := 26, n0 := 0 }
noncomputable def Bref14_SameRequests_0 : Code := (loopAt (Try.f27.body.getD .skip) 0 0).getD .skip
theorem roundref14_SameRequests_0 (s : Sref14_SameRequests_0) : round Eref14_SameRequests href14_SameRequests_0 Bref14_SameRequests_0 0 (eSref14_SameRequests_0 s) = (Wref14_SameRequests_0 s).map (sumE eSref14_SameRequests_0 xSref14_SameRequests_0) := by kernel_rfl
theorem lpref14_SameRequests_0 : LpOk Eref14_SameRequests Bref14_SameRequests_0 0 := mkLoop_ok (A := tAref14_SameRequests_0) (B := tBref14_SameRequests_0) (f := Pref14_SameRequests_0) (L := Lref14_SameRequests_0 none) (tO_ok (cPair_ok (cSl_ok 79) cUnit_ok) (tO_ok (cPair_ok (cSl_ok 79) cUnit_ok) (tO_ok (cPair_ok (cInt_ok .i64) cUnit_ok) tNil_ok))) bNil_ok (enc := eSref14_SameRequests_0) (out := xTref14_SameRequests_0) (outS := xSref14_SameRequests_0) (step := Wref14_SameRequests_0) (fun _ => rfl) (fun _ _ => by kernel_rfl) (by kernel_rfl) (fun b => by cases b <;> rfl) roundref14_SameRequests_0
theorem runref14_SameRequests (x : (List Request) × (List Request) × Unit) (g : Unit) : execF Eref14_SameRequests Try.f27 (Aref14_SameRequests.enc x) (bNil.enc g) = (Tref14_SameRequests none x.1 x.2.1).map Rref14_SameRequests := by kernel_rfl
theorem okref14_SameRequests : FnOk Try.prog cd 27 Sref14_SameRequests := mk_ok (E := Eref14_SameRequests) cd_ok fns26_ok Try.func27 (by kernel_rfl) (loops_of (addL_ok lpref14_SameRequests_0 noL_ok)) (aO_ok (cSl_ok 79) (aO_ok (cSl_ok 79) (aNil_ok))) bNil_ok (T := fun x _ => Tref14_SameRequests none x.1 x.2.1) (fun _ _ => rfl) runref14_SameRequests
noncomputable def fns27 := addF 27 true Sref14_SameRequests fns26
theorem fns27_ok : ∀ f q t, fns27 f = some (q, t) → FnOk Try.prog cd f t := addF_ok okref14_SameRequests fns26_ok
/-- emulator/tape.Requests -/
noncomputable def Ttape_Requests (x0 : Tape) : Tree (List Request) :=
  .ite (!x0.enable)
    (.leaf ([]))
    (.ite (!x0.ready)
      (.leaf ([]))
      (.leaf ([Request.mk (5 : Int) (164 : Int)])))
noncomputable def tape_Requests (x0 : Tape) : Option (List Request) := (Ttape_Requests x0).run
noncomputable def Atape_Requests : Arg U (Tape × Unit) := aA cTape (aNil)
noncomputable def Rtape_Requests (r : (List Request)) : List (V U) × List (Blk U) := ([vO (cSl 79) r], [])
noncomputable def Stape_Requests : List (V U) → List (Blk U) → Option (FnOut U) := mkSpec Atape_Requests bNil (fun x _ => tape_Requests x.1) Rtape_Requests
noncomputable def Etape_Requests : Env U := { P := Try.prog, cd := cd, fns := fns27, lps := noL, frz := fun _r => false, nt := 13, n0 := 0 }
theorem runtape_Requests (x : Tape × Unit) (g : Unit) : execF Etape_Requests Try.f28 (Atape_Requests.enc x) (bNil.enc g) = (Ttape_Requests x.1).map Rtape_Requests := by kernel_rfl
theorem oktape_Requests : FnOk Try.prog cd 28 Stape_Requests := mk_ok (E := Etape_Requests) cd_ok fns27_ok Try.func28 (by kernel_rfl) (noLoops_body (by kernel_rfl)) (aA_ok cTape_ok (aNil_ok)) bNil_ok (T := fun x _ => Ttape_Requests x.1) (fun _ _ => rfl) runtape_Requests
noncomputable def fns28 := addF 28 true Stape_Requests fns27
theorem fns28_ok : ∀ f q t, fns28 f = some (q, t) → FnOk Try.prog cd f t := addF_ok oktape_Requests fns27_ok
/-- emulator/emulatorref17.Requests -/
noncomputable def Tref17_Requests (x0 : Tape) : Tree (List Request) :=
  .ite (x0.enable)
    (.ite (x0.ready)
      (.leaf ([Request.mk (5 : Int) (164 : Int)]))
      (.leaf ([])))
    (.leaf ([]))
noncomputable def ref17_Requests (x0 : Tape) : Option (List Request) := (Tref17_Requests x0).run
noncomputable def Aref17_Requests : Arg U (Tape × Unit) := aA cTape (aNil)
noncomputable def Rref17_Requests (r : (List Request)) : List (V U) × List (Blk U) := ([vO (cSl 79) r], [])
noncomputable def Sref17_Requests : List (V U) → List (Blk U) → Option (FnOut U) := mkSpec Aref17_Requests bNil (fun x _ => ref17_Requests x.1) Rref17_Requests
noncomputable def Eref17_Requests : Env U := { P := Try.prog, cd := cd, fns := fns28, lps := noL, frz := fun _r => false, nt := 11, n0 := 0 }
theorem runref17_Requests (x : Tape × Unit) (g : Unit) : execF Eref17_Requests Try.f29 (Aref17_Requests.enc x) (bNil.enc g) = (Tref17_Requests x.1).map Rref17_Requests := by kernel_rfl
theorem okref17_Requests : FnOk Try.prog cd 29 Sref17_Requests := mk_ok (E := Eref17_Requests) cd_ok fns28_ok Try.func29 (by kernel_rfl) (noLoops_body (by kernel_rfl)) (aA_ok cTape_ok (aNil_ok)) bNil_ok (T := fun x _ => Tref17_Requests x.1) (fun _ _ => rfl) runref17_Requests
noncomputable def fns29 := addF 29 true Sref17_Requests fns28
theorem fns29_ok : ∀ f q t, fns29 f = some (q, t) → FnOk Try.prog cd f t := addF_ok okref17_Requests fns28_ok
/-- emulator/tape.Accept -/
noncomputable def Ttape_Accept (x0 : Tape) (x1 : Int) : Tree Tape :=
  .ite (x0.enable)
    (.leaf (Tape.mk x0.records x0.pos (!decide (x1 = (164 : Int))) x0.ready x0.error x0.mark x0.end_ x0.command x0.count x0.addr x0.left))
    (.leaf (Tape.mk x0.records x0.pos false x0.ready x0.error x0.mark x0.end_ x0.command x0.count x0.addr x0.left))
noncomputable def tape_Accept (x0 : Tape) (x1 : Int) : Option Tape := (Ttape_Accept x0 x1).run
noncomputable def Atape_Accept : Arg U (Tape × Int × Unit) := aA cTape (aO (cInt .i64) (aNil))
noncomputable def Rtape_Accept (r : Tape) : List (V U) × List (Blk U) := ([vA cTape r], [])
noncomputable def Stape_Accept : List (V U) → List (Blk U) → Option (FnOut U) := mkSpec Atape_Accept bNil (fun x _ => tape_Accept x.1 x.2.1) Rtape_Accept
noncomputable def Etape_Accept : Env U := { P := Try.prog, cd := cd, fns := fns29, lps := noL, frz := fun _r => false, nt := 13, n0 := 0 }
theorem runtape_Accept (x : Tape × Int × Unit) (g : Unit) : execF Etape_Accept Try.f30 (Atape_Accept.enc x) (bNil.enc g) = (Ttape_Accept x.1 x.2.1).map Rtape_Accept := by kernel_rfl
theorem oktape_Accept : FnOk Try.prog cd 30 Stape_Accept := mk_ok (E := Etape_Accept) cd_ok fns29_ok Try.func30 (by kernel_rfl) (noLoops_body (by kernel_rfl)) (aA_ok cTape_ok (aO_ok (cInt_ok .i64) (aNil_ok))) bNil_ok (T := fun x _ => Ttape_Accept x.1 x.2.1) (fun _ _ => rfl) runtape_Accept
noncomputable def fns30 := addF 30 true Stape_Accept fns29
theorem fns30_ok : ∀ f q t, fns30 f = some (q, t) → FnOk Try.prog cd f t := addF_ok oktape_Accept fns29_ok
/-- emulator/emulatorref17.Accept -/
noncomputable def Tref17_Accept (x0 : Tape) (x1 : Int) : Tree Tape :=
  .ite (decide (x1 = (164 : Int)))
    (.leaf (Tape.mk x0.records x0.pos false x0.ready x0.error x0.mark x0.end_ x0.command x0.count x0.addr x0.left))
    (.leaf (x0))
noncomputable def ref17_Accept (x0 : Tape) (x1 : Int) : Option Tape := (Tref17_Accept x0 x1).run
noncomputable def Aref17_Accept : Arg U (Tape × Int × Unit) := aA cTape (aO (cInt .i64) (aNil))
noncomputable def Rref17_Accept (r : Tape) : List (V U) × List (Blk U) := ([vA cTape r], [])
noncomputable def Sref17_Accept : List (V U) → List (Blk U) → Option (FnOut U) := mkSpec Aref17_Accept bNil (fun x _ => ref17_Accept x.1 x.2.1) Rref17_Accept
noncomputable def Eref17_Accept : Env U := { P := Try.prog, cd := cd, fns := fns30, lps := noL, frz := fun _r => false, nt := 9, n0 := 0 }
theorem runref17_Accept (x : Tape × Int × Unit) (g : Unit) : execF Eref17_Accept Try.f31 (Aref17_Accept.enc x) (bNil.enc g) = (Tref17_Accept x.1 x.2.1).map Rref17_Accept := by kernel_rfl
theorem okref17_Accept : FnOk Try.prog cd 31 Sref17_Accept := mk_ok (E := Eref17_Accept) cd_ok fns30_ok Try.func31 (by kernel_rfl) (noLoops_body (by kernel_rfl)) (aA_ok cTape_ok (aO_ok (cInt_ok .i64) (aNil_ok))) bNil_ok (T := fun x _ => Tref17_Accept x.1 x.2.1) (fun _ _ => rfl) runref17_Accept
noncomputable def fns31 := addF 31 true Sref17_Accept fns30
theorem fns31_ok : ∀ f q t, fns31 f = some (q, t) → FnOk Try.prog cd f t := addF_ok okref17_Accept fns30_ok
/-- emulator/tape.Reset -/
noncomputable def Ttape_Reset (x0 : Tape) : Tree Tape :=
  .leaf (Tape.mk x0.records x0.pos false true false false false 0 x0.count x0.addr 0)
noncomputable def tape_Reset (x0 : Tape) : Option Tape := (Ttape_Reset x0).run
noncomputable def Atape_Reset : Arg U (Tape × Unit) := aA cTape (aNil)
noncomputable def Rtape_Reset (r : Tape) : List (V U) × List (Blk U) := ([vA cTape r], [])
noncomputable def Stape_Reset : List (V U) → List (Blk U) → Option (FnOut U) := mkSpec Atape_Reset bNil (fun x _ => tape_Reset x.1) Rtape_Reset
noncomputable def Etape_Reset : Env U := { P := Try.prog, cd := cd, fns := fns31, lps := noL, frz := fun _r => false, nt := 12, n0 := 0 }
theorem runtape_Reset (x : Tape × Unit) (g : Unit) : execF Etape_Reset Try.f32 (Atape_Reset.enc x) (bNil.enc g) = (Ttape_Reset x.1).map Rtape_Reset := by kernel_rfl
theorem oktape_Reset : FnOk Try.prog cd 32 Stape_Reset := mk_ok (E := Etape_Reset) cd_ok fns31_ok Try.func32 (by kernel_rfl) (noLoops_body (by kernel_rfl)) (aA_ok cTape_ok (aNil_ok)) bNil_ok (T := fun x _ => Ttape_Reset x.1) (fun _ _ => rfl) runtape_Reset
noncomputable def fns32 := addF 32 true Stape_Reset fns31
theorem fns32_ok : ∀ f q t, fns32 f = some (q, t) → FnOk Try.prog cd f t := addF_ok oktape_Reset fns31_ok
/-- emulator/emulatorref17.Reset -/
noncomputable def Tref17_Reset (x0 : Tape) : Tree Tape :=
  .leaf (Tape.mk x0.records x0.pos false true false false false (0 : Int) x0.count x0.addr (0 : Int))
noncomputable def ref17_Reset (x0 : Tape) : Option Tape := (Tref17_Reset x0).run
noncomputable def Aref17_Reset : Arg U (Tape × Unit) := aA cTape (aNil)
noncomputable def Rref17_Reset (r : Tape) : List (V U) × List (Blk U) := ([vA cTape r], [])
noncomputable def Sref17_Reset : List (V U) → List (Blk U) → Option (FnOut U) := mkSpec Aref17_Reset bNil (fun x _ => ref17_Reset x.1) Rref17_Reset
noncomputable def Eref17_Reset : Env U := { P := Try.prog, cd := cd, fns := fns32, lps := noL, frz := fun _r => false, nt := 11, n0 := 0 }
theorem runref17_Reset (x : Tape × Unit) (g : Unit) : execF Eref17_Reset Try.f33 (Aref17_Reset.enc x) (bNil.enc g) = (Tref17_Reset x.1).map Rref17_Reset := by kernel_rfl
theorem okref17_Reset : FnOk Try.prog cd 33 Sref17_Reset := mk_ok (E := Eref17_Reset) cd_ok fns32_ok Try.func33 (by kernel_rfl) (noLoops_body (by kernel_rfl)) (aA_ok cTape_ok (aNil_ok)) bNil_ok (T := fun x _ => Tref17_Reset x.1) (fun _ _ => rfl) runref17_Reset
noncomputable def fns33 := addF 33 true Sref17_Reset fns32
theorem fns33_ok : ∀ f q t, fns33 f = some (q, t) → FnOk Try.prog cd f t := addF_ok okref17_Reset fns32_ok
/-- emulator/tape.Mount -/
noncomputable def Ttape_Mount (x0 : Tape) : Tree Tape :=
  .ite (!decide (x0.left = (0 : Int)))
    (.leaf (Tape.mk x0.records (0 : Int) x0.enable true true x0.mark x0.end_ x0.command x0.count x0.addr (0 : Int)))
    (.leaf (Tape.mk x0.records (0 : Int) x0.enable x0.ready x0.error x0.mark x0.end_ x0.command x0.count x0.addr x0.left))
noncomputable def tape_Mount (x0 : Tape) : Option Tape := (Ttape_Mount x0).run
noncomputable def Atape_Mount : Arg U (Tape × Unit) := aA cTape (aNil)
noncomputable def Rtape_Mount (r : Tape) : List (V U) × List (Blk U) := ([vA cTape r], [])
noncomputable def Stape_Mount : List (V U) → List (Blk U) → Option (FnOut U) := mkSpec Atape_Mount bNil (fun x _ => tape_Mount x.1) Rtape_Mount
noncomputable def Etape_Mount : Env U := { P := Try.prog, cd := cd, fns := fns33, lps := noL, frz := fun _r => false, nt := 11, n0 := 0 }
theorem runtape_Mount (x : Tape × Unit) (g : Unit) : execF Etape_Mount Try.f34 (Atape_Mount.enc x) (bNil.enc g) = (Ttape_Mount x.1).map Rtape_Mount := by kernel_rfl
theorem oktape_Mount : FnOk Try.prog cd 34 Stape_Mount := mk_ok (E := Etape_Mount) cd_ok fns33_ok Try.func34 (by kernel_rfl) (noLoops_body (by kernel_rfl)) (aA_ok cTape_ok (aNil_ok)) bNil_ok (T := fun x _ => Ttape_Mount x.1) (fun _ _ => rfl) runtape_Mount
noncomputable def fns34 := addF 34 true Stape_Mount fns33
theorem fns34_ok : ∀ f q t, fns34 f = some (q, t) → FnOk Try.prog cd f t := addF_ok oktape_Mount fns33_ok
/-- emulator/emulatorref17.Mount -/
noncomputable def Tref17_Mount (x0 : Tape) : Tree Tape :=
  .ite (!decide (x0.left = (0 : Int)))
    (.leaf (Tape.mk x0.records (0 : Int) x0.enable true true x0.mark x0.end_ x0.command x0.count x0.addr (0 : Int)))
    (.leaf (Tape.mk x0.records (0 : Int) x0.enable x0.ready x0.error x0.mark x0.end_ x0.command x0.count x0.addr x0.left))
noncomputable def ref17_Mount (x0 : Tape) : Option Tape := (Tref17_Mount x0).run
noncomputable def Aref17_Mount : Arg U (Tape × Unit) := aA cTape (aNil)
noncomputable def Rref17_Mount (r : Tape) : List (V U) × List (Blk U) := ([vA cTape r], [])
noncomputable def Sref17_Mount : List (V U) → List (Blk U) → Option (FnOut U) := mkSpec Aref17_Mount bNil (fun x _ => ref17_Mount x.1) Rref17_Mount
noncomputable def Eref17_Mount : Env U := { P := Try.prog, cd := cd, fns := fns34, lps := noL, frz := fun _r => false, nt := 11, n0 := 0 }
theorem runref17_Mount (x : Tape × Unit) (g : Unit) : execF Eref17_Mount Try.f35 (Aref17_Mount.enc x) (bNil.enc g) = (Tref17_Mount x.1).map Rref17_Mount := by kernel_rfl
theorem okref17_Mount : FnOk Try.prog cd 35 Sref17_Mount := mk_ok (E := Eref17_Mount) cd_ok fns34_ok Try.func35 (by kernel_rfl) (noLoops_body (by kernel_rfl)) (aA_ok cTape_ok (aNil_ok)) bNil_ok (T := fun x _ => Tref17_Mount x.1) (fun _ _ => rfl) runref17_Mount
noncomputable def fns35 := addF 35 true Sref17_Mount fns34
theorem fns35_ok : ∀ f q t, fns35 f = some (q, t) → FnOk Try.prog cd f t := addF_ok okref17_Mount fns34_ok
/-- emulator/emulatorlaw17.TapeRegisters -/
noncomputable def Tlaw17_TapeRegisters (q : Option Nat) (x0 : Tape) (x1 : Int) (x2 : Int) : Tree Bool :=
  .ite (decide ((64 : Int) < (x0.records.length : Int)))
    (.leaf (true))
    (.opt Bool (ref17_Right q x0) fun r235 =>
      .ite (!r235)
        (.leaf (true))
        (.opt (Int × Bool) (tape_Read x0 x1) fun r236 =>
          .opt (Int × Bool) (ref17_Read x0 x1) fun r237 =>
            .opt (Tape × Bool) (tape_Write x0 x1 x2) fun r238 =>
              .opt (Tape × Bool) (ref17_Write x0 x1 x2) fun r239 =>
                .ite (!decide (r236.1 = r237.1))
                  (.leaf (false))
                  (.ite (!(r236.2 == r237.2))
                    (.leaf (false))
                    (.opt Bool (ref17_Same q r238.1 r239.1) fun r240 =>
                      .ite (!r240)
                        (.leaf (false))
                        (.ite (!(r238.2 == r239.2))
                          (.leaf (false))
                          (.opt (List Request) (tape_Requests x0) fun r241 =>
                            .opt (List Request) (ref17_Requests x0) fun r242 =>
                              .opt Bool (ref14_SameRequests q r241 r242) fun r243 =>
                                .ite (!r243)
                                  (.leaf (false))
                                  (.opt Tape (tape_Accept x0 x2) fun r244 =>
                                    .opt Tape (ref17_Accept x0 x2) fun r245 =>
                                      .opt Bool (ref17_Same q r244 r245) fun r246 =>
                                        .ite (r246)
                                          (.opt Tape (tape_Reset x0) fun r247 =>
                                            .opt Tape (ref17_Reset x0) fun r248 =>
                                              .opt Bool (ref17_Same q r247 r248) fun r249 =>
                                                .ite (r249)
                                                  (.opt Tape (tape_Mount x0) fun r250 =>
                                                    .opt Tape (ref17_Mount x0) fun r251 =>
                                                      .opt Bool (ref17_Same q r250 r251) fun r252 =>
                                                        .ite (r252)
                                                          (.opt Bool (law17_alive q) fun r253 =>
                                                            .leaf (r253))
                                                          (.leaf (false)))
                                                  (.leaf (false)))
                                          (.leaf (false)))))))))
noncomputable def law17_TapeRegisters (q : Option Nat) (x0 : Tape) (x1 : Int) (x2 : Int) : Option Bool := (Tlaw17_TapeRegisters q x0 x1 x2).run
theorem lelaw17_TapeRegisters (k : Nat) (x0 : Tape) (x1 : Int) (x2 : Int) : Le (law17_TapeRegisters (some k) x0 x1 x2) (law17_TapeRegisters none x0 x1 x2) := (TLe.ite TLe.rfl (TLe.opt (leref17_Right k _) fun _ => (TLe.ite TLe.rfl (TLe.opt Le.rfl fun _ => (TLe.opt Le.rfl fun _ => (TLe.opt Le.rfl fun _ => (TLe.opt Le.rfl fun _ => (TLe.ite TLe.rfl (TLe.ite TLe.rfl (TLe.opt (leref17_Same k _ _) fun _ => (TLe.ite TLe.rfl (TLe.ite TLe.rfl (TLe.opt Le.rfl fun _ => (TLe.opt Le.rfl fun _ => (TLe.opt (leref14_SameRequests k _ _) fun _ => (TLe.ite TLe.rfl (TLe.opt Le.rfl fun _ => (TLe.opt Le.rfl fun _ => (TLe.opt (leref17_Same k _ _) fun _ => (TLe.ite (TLe.opt Le.rfl fun _ => (TLe.opt Le.rfl fun _ => (TLe.opt (leref17_Same k _ _) fun _ => (TLe.ite (TLe.opt Le.rfl fun _ => (TLe.opt Le.rfl fun _ => (TLe.opt (leref17_Same k _ _) fun _ => (TLe.ite (TLe.opt (lelaw17_alive k) fun _ => TLe.rfl) TLe.rfl)))) TLe.rfl)))) TLe.rfl))))))))))))))))))))
noncomputable def Alaw17_TapeRegisters : Arg U (Tape × Int × Int × Unit) := aA cTape (aO (cInt .i64) (aO (cInt .i64) (aNil)))
noncomputable def Rlaw17_TapeRegisters (r : Bool) : List (V U) × List (Blk U) := ([vO cBool r], [])
noncomputable def Slaw17_TapeRegisters : List (V U) → List (Blk U) → Option (FnOut U) := mkSpec Alaw17_TapeRegisters bNil (fun x _ => law17_TapeRegisters none x.1 x.2.1 x.2.2.1) Rlaw17_TapeRegisters
noncomputable def Elaw17_TapeRegisters : Env U := { P := Try.prog, cd := cd, fns := fns35, lps := noL, frz := fun _r => false, nt := 101, n0 := 0 }
theorem runlaw17_TapeRegisters (x : Tape × Int × Int × Unit) (g : Unit) : execF Elaw17_TapeRegisters Try.f7 (Alaw17_TapeRegisters.enc x) (bNil.enc g) = (Tlaw17_TapeRegisters none x.1 x.2.1 x.2.2.1).map Rlaw17_TapeRegisters := by kernel_rfl
theorem oklaw17_TapeRegisters : FnOk Try.prog cd 7 Slaw17_TapeRegisters := mk_ok (E := Elaw17_TapeRegisters) cd_ok fns35_ok Try.func7 (by kernel_rfl) (noLoops_body (by kernel_rfl)) (aA_ok cTape_ok (aO_ok (cInt_ok .i64) (aO_ok (cInt_ok .i64) (aNil_ok)))) bNil_ok (T := fun x _ => Tlaw17_TapeRegisters none x.1 x.2.1 x.2.2.1) (fun _ _ => rfl) runlaw17_TapeRegisters
noncomputable def fns7 := addF 7 true Slaw17_TapeRegisters fns35
theorem fns7_ok : ∀ f q t, fns7 f = some (q, t) → FnOk Try.prog cd f t := addF_ok oklaw17_TapeRegisters fns35_ok
/-- emulator/memory.Right -/
structure Smemory_Right_0 where
  t0 : (List Int)
  t1 : (List Int)
  t15 : (List Int)
  t16 : Int
  t17 : Int
noncomputable def Wmemory_Right_0 (s : Smemory_Right_0) : Tree (Smemory_Right_0 ⊕ (((List Int) × (List Int) × Bool) ⊕ ((List Int) × (List Int)))) :=
  .ite (decide (s.t17 < s.t16))
    (.ite (decide (0 ≤ s.t17))
      (.opt Int (s.t15[(s.t17).toNat]?) fun y255 =>
        .ite (!decide ((IntKind.wrap .i64 (((BitVec.ofInt 64 y255 &&& BitVec.ofInt 64 (65535 : Int)).toNat : Int))) = y255))
          (.leaf (.inr (.inl (s.t0, s.t1, false))))
          (.leaf (.inl (Smemory_Right_0.mk s.t0 s.t1 s.t15 s.t16 (IntKind.wrap .i64 (s.t17 + (1 : Int)))))))
      .fail)
    (.leaf (.inr (.inr (s.t0, s.t1))))
noncomputable def Lmemory_Right_0 (q : Option Nat) (s : Smemory_Right_0) : Option (((List Int) × (List Int) × Bool) ⊕ ((List Int) × (List Int))) := limQ q (fun s => (Wmemory_Right_0 s).run) s
theorem leLmemory_Right_0 (k : Nat) (s : Smemory_Right_0) : Le (Lmemory_Right_0 (some k) s) (Lmemory_Right_0 none s) := limQ_le (fun _ => Le.rfl) s
structure Smemory_Right_1 where
  t0 : (List Int)
  t7 : Int
  t26 : (List Int)
  t27 : Int
  t28 : Int
noncomputable def Wmemory_Right_1 (s : Smemory_Right_1) : Tree (Smemory_Right_1 ⊕ (Bool ⊕ Unit)) :=
  .ite (decide (s.t28 < s.t27))
    (.ite (decide (0 ≤ s.t28))
      (.opt Int (s.t26[(s.t28).toNat]?) fun y259 =>
        .ite (decide (y259 ≤ s.t7))
          (.leaf (.inr (.inl false)))
          (.ite (decide ((2 : Int) = 0))
            .fail
            (.ite (!decide (((y259).tmod (2 : Int)) = (0 : Int)))
              (.leaf (.inr (.inl false)))
              (.ite (decide ((IntKind.wrap .i64 ((2 : Int) * (s.t0.length : Int))) ≤ y259))
                (.leaf (.inr (.inl false)))
                (.leaf (.inl (Smemory_Right_1.mk s.t0 y259 s.t26 s.t27 (IntKind.wrap .i64 (s.t28 + (1 : Int))))))))))
      .fail)
    (.leaf (.inr (.inr ())))
noncomputable def Lmemory_Right_1 (q : Option Nat) (s : Smemory_Right_1) : Option (Bool ⊕ Unit) := limQ q (fun s => (Wmemory_Right_1 s).run) s
theorem leLmemory_Right_1 (k : Nat) (s : Smemory_Right_1) : Le (Lmemory_Right_1 (some k) s) (Lmemory_Right_1 none s) := limQ_le (fun _ => Le.rfl) s
noncomputable def Tmemory_Right (q : Option Nat) (x0 : (List Int)) (x1 : (List Int)) : Tree Bool :=
  .opt Bool (memory_sized (IntKind.wrap .i64 ((2 : Int) * (x0.length : Int)))) fun r254 =>
    .ite (!r254)
      (.leaf (false))
      (.opt (((List Int) × (List Int) × Bool) ⊕ ((List Int) × (List Int))) (Lmemory_Right_0 q (Smemory_Right_0.mk x0 x1 x0 (x0.length : Int) (0 : Int))) fun l256 =>
        .ite (l256.isLeft)
          (.opt ((List Int) × (List Int) × Bool) (l256.getLeft?) fun a257 =>
            .leaf (a257.2.2))
          (.opt ((List Int) × (List Int)) (l256.getRight?) fun b258 =>
            .opt (Bool ⊕ Unit) (Lmemory_Right_1 q (Smemory_Right_1.mk b258.1 (-1 : Int) b258.2 (b258.2.length : Int) (0 : Int))) fun l260 =>
              .ite (l260.isLeft)
                (.opt Bool (l260.getLeft?) fun a261 =>
                  .leaf (a261))
                (.opt Unit (l260.getRight?) fun b262 =>
                  .leaf (true))))
noncomputable def memory_Right (q : Option Nat) (x0 : (List Int)) (x1 : (List Int)) : Option Bool := (Tmemory_Right q x0 x1).run
theorem lememory_Right (k : Nat) (x0 : (List Int)) (x1 : (List Int)) : Le (memory_Right (some k) x0 x1) (memory_Right none x0 x1) := (TLe.opt Le.rfl fun _ => (TLe.ite TLe.rfl (TLe.opt (leLmemory_Right_0 k _) fun _ => (TLe.ite TLe.rfl (TLe.opt Le.rfl fun _ => (TLe.opt (leLmemory_Right_1 k _) fun _ => TLe.rfl))))))
noncomputable def Amemory_Right : Arg U ((List Int) × (List Int) × Unit) := aO (cSl 3) (aO (cSl 3) (aNil))
noncomputable def Rmemory_Right (r : Bool) : List (V U) × List (Blk U) := ([vO cBool r], [])
noncomputable def Smemory_Right : List (V U) → List (Blk U) → Option (FnOut U) := mkSpec Amemory_Right bNil (fun x _ => memory_Right none x.1 x.2.1) Rmemory_Right
noncomputable def Pmemory_Right_0 (x : ((List Int) × Unit) × ((List Int) × Unit) × ((List Int) × Unit) × (Int × Unit) × (Int × Unit) × Unit) (_g : Unit) : Smemory_Right_0 := Smemory_Right_0.mk x.1.1 x.2.1.1 x.2.2.1.1 x.2.2.2.1.1 x.2.2.2.2.1.1
noncomputable def tAmemory_Right_0 : Tms U (((List Int) × Unit) × ((List Int) × Unit) × ((List Int) × Unit) × (Int × Unit) × (Int × Unit) × Unit) := tO 0 (cPair (cSl 3) (cUnit)) (tO 1 (cPair (cSl 3) (cUnit)) (tO 15 (cPair (cSl 3) (cUnit)) (tO 16 (cPair (cInt .i64) (cUnit)) (tO 17 (cPair (cInt .i64) (cUnit)) (tNil)))))
noncomputable def tBmemory_Right_0 : Bls U (Unit) := bNil
noncomputable def eSmemory_Right_0 (s : Smemory_Right_0) : St U := { tm := [(0, .v (vO (cPair (cSl 3) (cUnit)) (s.t0, ()))), (1, .v (vO (cPair (cSl 3) (cUnit)) (s.t1, ()))), (15, .v (vO (cPair (cSl 3) (cUnit)) (s.t15, ()))), (16, .v (vO (cPair (cInt .i64) (cUnit)) (s.t16, ()))), (17, .v (vO (cPair (cInt .i64) (cUnit)) (s.t17, ())))], hp := [] }
noncomputable def xSmemory_Right_0 : (((List Int) × (List Int) × Bool) ⊕ ((List Int) × (List Int))) → Ex × St U
  | .inl r => (.ret, { tm := [(0, .v (vO (cPair (cSl 3) (cUnit)) (r.1, ()))), (1, .v (vO (cPair (cSl 3) (cUnit)) (r.2.1, ()))), (4, .v (vO (cPair cBool (cUnit)) (r.2.2, ())))], hp := [] })
  | .inr r => (.exit 0, { tm := [(0, .v (vO (cPair (cSl 3) (cUnit)) (r.1, ()))), (1, .v (vO (cPair (cSl 3) (cUnit)) (r.2, ())))], hp := [] })
noncomputable def xTmemory_Right_0 (y : (((List Int) × (List Int) × Bool) ⊕ ((List Int) × (List Int)))) : Tree (Ex × St U) := .ite y.isLeft (.opt ((List Int) × (List Int) × Bool) y.getLeft? fun r => .leaf (.ret, { tm := [(0, .v (vO (cPair (cSl 3) (cUnit)) (r.1, ()))), (1, .v (vO (cPair (cSl 3) (cUnit)) (r.2.1, ()))), (4, .v (vO (cPair cBool (cUnit)) (r.2.2, ())))], hp := [] })) (.opt ((List Int) × (List Int)) y.getRight? fun r => .leaf (.exit 0, { tm := [(0, .v (vO (cPair (cSl 3) (cUnit)) (r.1, ()))), (1, .v (vO (cPair (cSl 3) (cUnit)) (r.2, ())))], hp := [] }))
noncomputable def hmemory_Right_0 : Hd := { keep := [0, 1, 15, 16, 17], xkeep := [0, 1, 4], own := false }
noncomputable def Pmemory_Right_1 (x : ((List Int) × Unit) × (Int × Unit) × ((List Int) × Unit) × (Int × Unit) × (Int × Unit) × Unit) (_g : Unit) : Smemory_Right_1 := Smemory_Right_1.mk x.1.1 x.2.1.1 x.2.2.1.1 x.2.2.2.1.1 x.2.2.2.2.1.1
noncomputable def tAmemory_Right_1 : Tms U (((List Int) × Unit) × (Int × Unit) × ((List Int) × Unit) × (Int × Unit) × (Int × Unit) × Unit) := tO 0 (cPair (cSl 3) (cUnit)) (tO 7 (cPair (cInt .i64) (cUnit)) (tO 26 (cPair (cSl 3) (cUnit)) (tO 27 (cPair (cInt .i64) (cUnit)) (tO 28 (cPair (cInt .i64) (cUnit)) (tNil)))))
noncomputable def tBmemory_Right_1 : Bls U (Unit) := bNil
noncomputable def eSmemory_Right_1 (s : Smemory_Right_1) : St U := { tm := [(0, .v (vO (cPair (cSl 3) (cUnit)) (s.t0, ()))), (7, .v (vO (cPair (cInt .i64) (cUnit)) (s.t7, ()))), (26, .v (vO (cPair (cSl 3) (cUnit)) (s.t26, ()))), (27, .v (vO (cPair (cInt .i64) (cUnit)) (s.t27, ()))), (28, .v (vO (cPair (cInt .i64) (cUnit)) (s.t28, ())))], hp := [] }
noncomputable def xSmemory_Right_1 : (Bool ⊕ Unit) → Ex × St U
  | .inl r => (.ret, { tm := [(4, .v (vO (cPair cBool (cUnit)) (r, ())))], hp := [] })
  | .inr r => (.exit 2, { tm := [], hp := [] })
noncomputable def xTmemory_Right_1 (y : (Bool ⊕ Unit)) : Tree (Ex × St U) := .ite y.isLeft (.opt Bool y.getLeft? fun r => .leaf (.ret, { tm := [(4, .v (vO (cPair cBool (cUnit)) (r, ())))], hp := [] })) (.opt Unit y.getRight? fun r => .leaf (.exit 2, { tm := [], hp := [] }))
noncomputable def hmemory_Right_1 : Hd := { keep := [0, 7, 26, 27, 28], xkeep := [4], own := false }
noncomputable def Ememory_Right : Env U := { P := Try.prog, cd := cd, fns := fns7, lps := (addL 0 hmemory_Right_0 (mkLoop tAmemory_Right_0 tBmemory_Right_0 Pmemory_Right_0 (Lmemory_Right_0 none) xTmemory_Right_0) (addL 1 hmemory_Right_1 (mkLoop tAmemory_Right_1 tBmemory_Right_1 Pmemory_Right_1 (Lmemory_Right_1 none) xTmemory_Right_1) noL)), frz := fun _r => false, nt := 49, n0 := 0 }
noncomputable def Bmemory_Right_0 : Code := (loopAt (Try.f36.body.getD .skip) 0 0).getD .skip
theorem roundmemory_Right_0 (s : Smemory_Right_0) : round Ememory_Right hmemory_Right_0 Bmemory_Right_0 0 (eSmemory_Right_0 s) = (Wmemory_Right_0 s).map (sumE eSmemory_Right_0 xSmemory_Right_0) := by kernel_rfl
theorem lpmemory_Right_0 : LpOk Ememory_Right Bmemory_Right_0 0 := mkLoop_ok (A := tAmemory_Right_0) (B := tBmemory_Right_0) (f := Pmemory_Right_0) (L := Lmemory_Right_0 none) (tO_ok (cPair_ok (cSl_ok 3) cUnit_ok) (tO_ok (cPair_ok (cSl_ok 3) cUnit_ok) (tO_ok (cPair_ok (cSl_ok 3) cUnit_ok) (tO_ok (cPair_ok (cInt_ok .i64) cUnit_ok) (tO_ok (cPair_ok (cInt_ok .i64) cUnit_ok) tNil_ok))))) bNil_ok (enc := eSmemory_Right_0) (out := xTmemory_Right_0) (outS := xSmemory_Right_0) (step := Wmemory_Right_0) (fun _ => rfl) (fun _ _ => by kernel_rfl) (by kernel_rfl) (fun b => by cases b <;> rfl) roundmemory_Right_0
noncomputable def Bmemory_Right_1 : Code := (loopAt (Try.f36.body.getD .skip) 0 1).getD .skip
theorem roundmemory_Right_1 (s : Smemory_Right_1) : round Ememory_Right hmemory_Right_1 Bmemory_Right_1 1 (eSmemory_Right_1 s) = (Wmemory_Right_1 s).map (sumE eSmemory_Right_1 xSmemory_Right_1) := by kernel_rfl
theorem lpmemory_Right_1 : LpOk Ememory_Right Bmemory_Right_1 1 := mkLoop_ok (A := tAmemory_Right_1) (B := tBmemory_Right_1) (f := Pmemory_Right_1) (L := Lmemory_Right_1 none) (tO_ok (cPair_ok (cSl_ok 3) cUnit_ok) (tO_ok (cPair_ok (cInt_ok .i64) cUnit_ok) (tO_ok (cPair_ok (cSl_ok 3) cUnit_ok) (tO_ok (cPair_ok (cInt_ok .i64) cUnit_ok) (tO_ok (cPair_ok (cInt_ok .i64) cUnit_ok) tNil_ok))))) bNil_ok (enc := eSmemory_Right_1) (out := xTmemory_Right_1) (outS := xSmemory_Right_1) (step := Wmemory_Right_1) (fun _ => rfl) (fun _ _ => by kernel_rfl) (by kernel_rfl) (fun b => by cases b <;> rfl) roundmemory_Right_1
theorem runmemory_Right (x : (List Int) × (List Int) × Unit) (g : Unit) : execF Ememory_Right Try.f36 (Amemory_Right.enc x) (bNil.enc g) = (Tmemory_Right none x.1 x.2.1).map Rmemory_Right := by kernel_rfl
theorem okmemory_Right : FnOk Try.prog cd 36 Smemory_Right := mk_ok (E := Ememory_Right) cd_ok fns7_ok Try.func36 (by kernel_rfl) (loops_of (addL_ok lpmemory_Right_0 (addL_ok lpmemory_Right_1 noL_ok))) (aO_ok (cSl_ok 3) (aO_ok (cSl_ok 3) (aNil_ok))) bNil_ok (T := fun x _ => Tmemory_Right none x.1 x.2.1) (fun _ _ => rfl) runmemory_Right
noncomputable def fns36 := addF 36 true Smemory_Right fns7
theorem fns36_ok : ∀ f q t, fns36 f = some (q, t) → FnOk Try.prog cd f t := addF_ok okmemory_Right fns7_ok
/-- emulator/emulatorlaw17.TapeStays -/
structure Slaw17_TapeStays_1 where
  t2 : (List Deed)
  t7 : Int
  t9 : Int
  b0 : Tape
  b1 : Store
noncomputable def Wlaw17_TapeStays_1 (q : Option Nat) (s : Slaw17_TapeStays_1) : Tree (Slaw17_TapeStays_1 ⊕ ((List Deed) × Int × Tape × Store)) :=
  .ite (decide (s.t9 < (16 : Int)))
    (.opt (Tape × (List Int) × (List Int)) (tape_Tick q s.b0 s.b1.mem s.b1.bad) fun r267 =>
      .leaf (.inl (Slaw17_TapeStays_1.mk s.t2 s.t7 (IntKind.wrap .i64 (s.t9 + (1 : Int))) r267.1 (Store.mk r267.2.1 r267.2.2))))
    (.leaf (.inr (s.t2, s.t7, s.b0, s.b1)))
noncomputable def Llaw17_TapeStays_1 (q : Option Nat) (s : Slaw17_TapeStays_1) : Option ((List Deed) × Int × Tape × Store) := limQ q (fun s => (Wlaw17_TapeStays_1 q s).run) s
theorem leLlaw17_TapeStays_1 (k : Nat) (s : Slaw17_TapeStays_1) : Le (Llaw17_TapeStays_1 (some k) s) (Llaw17_TapeStays_1 none s) := limQ_le (fun s => (TLe.ite (TLe.opt (letape_Tick k _ _ _) fun _ => TLe.rfl) TLe.rfl)) s
structure Slaw17_TapeStays_0 where
  t2 : (List Deed)
  t7 : Int
  b0 : Tape
  b1 : Store
noncomputable def Wlaw17_TapeStays_0 (q : Option Nat) (s : Slaw17_TapeStays_0) : Tree (Slaw17_TapeStays_0 ⊕ (Bool ⊕ Unit)) :=
  .ite (decide (s.t7 < (s.t2.length : Int)))
    (.ite (decide (0 ≤ s.t7))
      (.opt Deed (s.t2[(s.t7).toNat]?) fun y264 =>
        .ite (decide (y264.kind = (0 : Int)))
          (.opt (Tape × Bool) (tape_Write s.b0 y264.reg y264.n) fun r265 =>
            .opt Bool (tape_Right q r265.1) fun r272 =>
              .ite (!r272)
                (.leaf (.inr (.inl false)))
                (.opt Bool (memory_Right q s.b1.mem s.b1.bad) fun r273 =>
                  .ite (!r273)
                    (.leaf (.inr (.inl false)))
                    (.leaf (.inl (Slaw17_TapeStays_0.mk s.t2 (IntKind.wrap .i64 (s.t7 + (1 : Int))) r265.1 s.b1)))))
          (.ite (decide (y264.kind = (1 : Int)))
            (.opt (Tape × (List Int) × (List Int)) (tape_Tick q s.b0 s.b1.mem s.b1.bad) fun r266 =>
              .opt Bool (tape_Right q r266.1) fun r274 =>
                .ite (!r274)
                  (.leaf (.inr (.inl false)))
                  (.opt Bool (memory_Right q r266.2.1 r266.2.2) fun r275 =>
                    .ite (!r275)
                      (.leaf (.inr (.inl false)))
                      (.leaf (.inl (Slaw17_TapeStays_0.mk s.t2 (IntKind.wrap .i64 (s.t7 + (1 : Int))) r266.1 (Store.mk r266.2.1 r266.2.2))))))
            (.ite (decide (y264.kind = (2 : Int)))
              (.opt ((List Deed) × Int × Tape × Store) (Llaw17_TapeStays_1 q (Slaw17_TapeStays_1.mk s.t2 s.t7 (0 : Int) s.b0 s.b1)) fun l268 =>
                .opt Bool (tape_Right q l268.2.2.1) fun r276 =>
                  .ite (!r276)
                    (.leaf (.inr (.inl false)))
                    (.opt Bool (memory_Right q l268.2.2.2.mem l268.2.2.2.bad) fun r277 =>
                      .ite (!r277)
                        (.leaf (.inr (.inl false)))
                        (.leaf (.inl (Slaw17_TapeStays_0.mk l268.1 (IntKind.wrap .i64 (l268.2.1 + (1 : Int))) l268.2.2.1 l268.2.2.2)))))
              (.ite (decide (y264.kind = (3 : Int)))
                (.opt Tape (tape_Reset s.b0) fun r269 =>
                  .opt Bool (tape_Right q r269) fun r278 =>
                    .ite (!r278)
                      (.leaf (.inr (.inl false)))
                      (.opt Bool (memory_Right q s.b1.mem s.b1.bad) fun r279 =>
                        .ite (!r279)
                          (.leaf (.inr (.inl false)))
                          (.leaf (.inl (Slaw17_TapeStays_0.mk s.t2 (IntKind.wrap .i64 (s.t7 + (1 : Int))) r269 s.b1)))))
                (.ite (decide (y264.kind = (4 : Int)))
                  (.opt Tape (tape_Mount s.b0) fun r270 =>
                    .opt Bool (tape_Right q r270) fun r280 =>
                      .ite (!r280)
                        (.leaf (.inr (.inl false)))
                        (.opt Bool (memory_Right q s.b1.mem s.b1.bad) fun r281 =>
                          .ite (!r281)
                            (.leaf (.inr (.inl false)))
                            (.leaf (.inl (Slaw17_TapeStays_0.mk s.t2 (IntKind.wrap .i64 (s.t7 + (1 : Int))) r270 s.b1)))))
                  (.ite (decide (y264.kind = (5 : Int)))
                    (.opt Tape (tape_Accept s.b0 y264.n) fun r271 =>
                      .opt Bool (tape_Right q r271) fun r282 =>
                        .ite (!r282)
                          (.leaf (.inr (.inl false)))
                          (.opt Bool (memory_Right q s.b1.mem s.b1.bad) fun r283 =>
                            .ite (!r283)
                              (.leaf (.inr (.inl false)))
                              (.leaf (.inl (Slaw17_TapeStays_0.mk s.t2 (IntKind.wrap .i64 (s.t7 + (1 : Int))) r271 s.b1)))))
                    (.opt Bool (tape_Right q s.b0) fun r284 =>
                      .ite (!r284)
                        (.leaf (.inr (.inl false)))
                        (.opt Bool (memory_Right q s.b1.mem s.b1.bad) fun r285 =>
                          .ite (!r285)
                            (.leaf (.inr (.inl false)))
                            (.leaf (.inl (Slaw17_TapeStays_0.mk s.t2 (IntKind.wrap .i64 (s.t7 + (1 : Int))) s.b0 s.b1)))))))))))
      .fail)
    (.leaf (.inr (.inr ())))
noncomputable def Llaw17_TapeStays_0 (q : Option Nat) (s : Slaw17_TapeStays_0) : Option (Bool ⊕ Unit) := limQ q (fun s => (Wlaw17_TapeStays_0 q s).run) s
theorem leLlaw17_TapeStays_0 (k : Nat) (s : Slaw17_TapeStays_0) : Le (Llaw17_TapeStays_0 (some k) s) (Llaw17_TapeStays_0 none s) := limQ_le (fun s => (TLe.ite (TLe.ite (TLe.opt Le.rfl fun _ => (TLe.ite (TLe.opt Le.rfl fun _ => (TLe.opt (letape_Right k _) fun _ => (TLe.ite TLe.rfl (TLe.opt (lememory_Right k _ _) fun _ => TLe.rfl)))) (TLe.ite (TLe.opt (letape_Tick k _ _ _) fun _ => (TLe.opt (letape_Right k _) fun _ => (TLe.ite TLe.rfl (TLe.opt (lememory_Right k _ _) fun _ => TLe.rfl)))) (TLe.ite (TLe.opt (leLlaw17_TapeStays_1 k _) fun _ => (TLe.opt (letape_Right k _) fun _ => (TLe.ite TLe.rfl (TLe.opt (lememory_Right k _ _) fun _ => TLe.rfl)))) (TLe.ite (TLe.opt Le.rfl fun _ => (TLe.opt (letape_Right k _) fun _ => (TLe.ite TLe.rfl (TLe.opt (lememory_Right k _ _) fun _ => TLe.rfl)))) (TLe.ite (TLe.opt Le.rfl fun _ => (TLe.opt (letape_Right k _) fun _ => (TLe.ite TLe.rfl (TLe.opt (lememory_Right k _ _) fun _ => TLe.rfl)))) (TLe.ite (TLe.opt Le.rfl fun _ => (TLe.opt (letape_Right k _) fun _ => (TLe.ite TLe.rfl (TLe.opt (lememory_Right k _ _) fun _ => TLe.rfl)))) (TLe.opt (letape_Right k _) fun _ => (TLe.ite TLe.rfl (TLe.opt (lememory_Right k _ _) fun _ => TLe.rfl)))))))))) TLe.rfl) TLe.rfl)) s
noncomputable def Tlaw17_TapeStays (q : Option Nat) (x0 : Tape) (x1 : Store) (x2 : (List Deed)) : Tree Bool :=
  .opt Bool (law17_small q x0 x1) fun r263 =>
    .ite (!r263)
      (.leaf (true))
      (.ite (decide ((40 : Int) < (x2.length : Int)))
        (.leaf (true))
        (.opt (Bool ⊕ Unit) (Llaw17_TapeStays_0 q (Slaw17_TapeStays_0.mk x2 (0 : Int) x0 x1)) fun l286 =>
          .ite (l286.isLeft)
            (.opt Bool (l286.getLeft?) fun a287 =>
              .leaf (a287))
            (.opt Unit (l286.getRight?) fun b288 =>
              .opt Bool (law17_alive q) fun r289 =>
                .leaf (r289))))
noncomputable def law17_TapeStays (q : Option Nat) (x0 : Tape) (x1 : Store) (x2 : (List Deed)) : Option Bool := (Tlaw17_TapeStays q x0 x1 x2).run
theorem lelaw17_TapeStays (k : Nat) (x0 : Tape) (x1 : Store) (x2 : (List Deed)) : Le (law17_TapeStays (some k) x0 x1 x2) (law17_TapeStays none x0 x1 x2) := (TLe.opt (lelaw17_small k _ _) fun _ => (TLe.ite TLe.rfl (TLe.ite TLe.rfl (TLe.opt (leLlaw17_TapeStays_0 k _) fun _ => (TLe.ite TLe.rfl (TLe.opt Le.rfl fun _ => (TLe.opt (lelaw17_alive k) fun _ => TLe.rfl)))))))
noncomputable def Alaw17_TapeStays : Arg U (Tape × Store × (List Deed) × Unit) := aA cTape (aA cStore (aO (cSl 62) (aNil)))
noncomputable def Rlaw17_TapeStays (r : Bool) : List (V U) × List (Blk U) := ([vO cBool r], [])
noncomputable def Slaw17_TapeStays : List (V U) → List (Blk U) → Option (FnOut U) := mkSpec Alaw17_TapeStays bNil (fun x _ => law17_TapeStays none x.1 x.2.1 x.2.2.1) Rlaw17_TapeStays
noncomputable def Plaw17_TapeStays_0 (x : ((List Deed) × Unit) × (Unit) × (Unit) × (Int × Unit) × Unit) (g : (Tape × Unit) × (Store × Unit) × Unit) : Slaw17_TapeStays_0 := Slaw17_TapeStays_0.mk x.1.1 x.2.2.2.1.1 g.1.1 g.2.1.1
noncomputable def tAlaw17_TapeStays_0 : Tms U (((List Deed) × Unit) × (Unit) × (Unit) × (Int × Unit) × Unit) := tO 2 (cPair (cSl 62) (cUnit)) (tO 3 (cK (.ptr 0 0) (cUnit)) (tO 4 (cK (.ptr 1 0) (cUnit)) (tO 7 (cPair (cInt .i64) (cUnit)) (tNil))))
noncomputable def tBlaw17_TapeStays_0 : Bls U ((Tape × Unit) × (Store × Unit) × Unit) := bC (cPair cTape (cUnit)) (bC (cPair cStore (cUnit)) (bNil))
noncomputable def eSlaw17_TapeStays_0 (s : Slaw17_TapeStays_0) : St U := { tm := [(2, .v (vO (cPair (cSl 62) (cUnit)) (s.t2, ()))), (3, .v (vO (cK (.ptr 0 0) (cUnit)) (()))), (4, .v (vO (cK (.ptr 1 0) (cUnit)) (()))), (7, .v (vO (cPair (cInt .i64) (cUnit)) (s.t7, ())))], hp := [.cells ((cPair cTape (cUnit) : Cdc U (Tape × Unit)).enc (s.b0, ())), .cells ((cPair cStore (cUnit) : Cdc U (Store × Unit)).enc (s.b1, ()))] }
noncomputable def xSlaw17_TapeStays_0 : (Bool ⊕ Unit) → Ex × St U
  | .inl r => (.ret, { tm := [(6, .v (vO (cPair cBool (cUnit)) (r, ())))], hp := [] })
  | .inr r => (.exit 0, { tm := [], hp := [] })
noncomputable def xTlaw17_TapeStays_0 (y : (Bool ⊕ Unit)) : Tree (Ex × St U) := .ite y.isLeft (.opt Bool y.getLeft? fun r => .leaf (.ret, { tm := [(6, .v (vO (cPair cBool (cUnit)) (r, ())))], hp := [] })) (.opt Unit y.getRight? fun r => .leaf (.exit 0, { tm := [], hp := [] }))
noncomputable def hlaw17_TapeStays_0 : Hd := { keep := [2, 3, 4, 7], xkeep := [6], own := false }
noncomputable def Plaw17_TapeStays_1 (x : ((List Deed) × Unit) × (Unit) × (Unit) × (Int × Unit) × (Int × Unit) × Unit) (g : (Tape × Unit) × (Store × Unit) × Unit) : Slaw17_TapeStays_1 := Slaw17_TapeStays_1.mk x.1.1 x.2.2.2.1.1 x.2.2.2.2.1.1 g.1.1 g.2.1.1
noncomputable def tAlaw17_TapeStays_1 : Tms U (((List Deed) × Unit) × (Unit) × (Unit) × (Int × Unit) × (Int × Unit) × Unit) := tO 2 (cPair (cSl 62) (cUnit)) (tO 3 (cK (.ptr 0 0) (cUnit)) (tO 4 (cK (.ptr 1 0) (cUnit)) (tO 7 (cPair (cInt .i64) (cUnit)) (tO 9 (cPair (cInt .i64) (cUnit)) (tNil)))))
noncomputable def tBlaw17_TapeStays_1 : Bls U ((Tape × Unit) × (Store × Unit) × Unit) := bC (cPair cTape (cUnit)) (bC (cPair cStore (cUnit)) (bNil))
noncomputable def eSlaw17_TapeStays_1 (s : Slaw17_TapeStays_1) : St U := { tm := [(2, .v (vO (cPair (cSl 62) (cUnit)) (s.t2, ()))), (3, .v (vO (cK (.ptr 0 0) (cUnit)) (()))), (4, .v (vO (cK (.ptr 1 0) (cUnit)) (()))), (7, .v (vO (cPair (cInt .i64) (cUnit)) (s.t7, ()))), (9, .v (vO (cPair (cInt .i64) (cUnit)) (s.t9, ())))], hp := [.cells ((cPair cTape (cUnit) : Cdc U (Tape × Unit)).enc (s.b0, ())), .cells ((cPair cStore (cUnit) : Cdc U (Store × Unit)).enc (s.b1, ()))] }
noncomputable def xSlaw17_TapeStays_1 (r : ((List Deed) × Int × Tape × Store)) : Ex × St U := (.exit 3, { tm := [(2, .v (vO (cPair (cSl 62) (cUnit)) (r.1, ()))), (3, .v (vO (cK (.ptr 0 0) (cUnit)) (()))), (4, .v (vO (cK (.ptr 1 0) (cUnit)) (()))), (7, .v (vO (cPair (cInt .i64) (cUnit)) (r.2.1, ())))], hp := [.cells ((cPair cTape (cUnit) : Cdc U (Tape × Unit)).enc (r.2.2.1, ())), .cells ((cPair cStore (cUnit) : Cdc U (Store × Unit)).enc (r.2.2.2, ()))] })
noncomputable def xTlaw17_TapeStays_1 (r : ((List Deed) × Int × Tape × Store)) : Tree (Ex × St U) := .leaf (xSlaw17_TapeStays_1 r)
noncomputable def hlaw17_TapeStays_1 : Hd := { keep := [2, 3, 4, 7, 9], xkeep := [2, 3, 4, 6, 7], own := false }
noncomputable def Elaw17_TapeStays : Env U := { P := Try.prog, cd := cd, fns := fns36, lps := (addL 0 hlaw17_TapeStays_0 (mkLoop tAlaw17_TapeStays_0 tBlaw17_TapeStays_0 Plaw17_TapeStays_0 (Llaw17_TapeStays_0 none) xTlaw17_TapeStays_0) (addL 1 hlaw17_TapeStays_1 (mkLoop tAlaw17_TapeStays_1 tBlaw17_TapeStays_1 Plaw17_TapeStays_1 (Llaw17_TapeStays_1 none) xTlaw17_TapeStays_1) noL)), frz := fun _r => false, nt := 100, n0 := 0 }
noncomputable def Blaw17_TapeStays_0 : Code := (loopAt (Try.f8.body.getD .skip) 0 0).getD .skip
theorem roundlaw17_TapeStays_0 (s : Slaw17_TapeStays_0) : round Elaw17_TapeStays hlaw17_TapeStays_0 Blaw17_TapeStays_0 0 (eSlaw17_TapeStays_0 s) = (Wlaw17_TapeStays_0 none s).map (sumE eSlaw17_TapeStays_0 xSlaw17_TapeStays_0) := by kernel_rfl
theorem lplaw17_TapeStays_0 : LpOk Elaw17_TapeStays Blaw17_TapeStays_0 0 := mkLoop_ok (A := tAlaw17_TapeStays_0) (B := tBlaw17_TapeStays_0) (f := Plaw17_TapeStays_0) (L := Llaw17_TapeStays_0 none) (tO_ok (cPair_ok (cSl_ok 62) cUnit_ok) (tO_ok (cK_ok cUnit_ok) (tO_ok (cK_ok cUnit_ok) (tO_ok (cPair_ok (cInt_ok .i64) cUnit_ok) tNil_ok)))) (bC_ok (cPair_ok cTape_ok cUnit_ok) (bC_ok (cPair_ok cStore_ok cUnit_ok) bNil_ok)) (enc := eSlaw17_TapeStays_0) (out := xTlaw17_TapeStays_0) (outS := xSlaw17_TapeStays_0) (step := Wlaw17_TapeStays_0 none) (fun _ => rfl) (fun _ _ => by kernel_rfl) (by kernel_rfl) (fun b => by cases b <;> rfl) roundlaw17_TapeStays_0
noncomputable def Blaw17_TapeStays_1 : Code := (loopAt (Try.f8.body.getD .skip) 0 1).getD .skip
theorem roundlaw17_TapeStays_1 (s : Slaw17_TapeStays_1) : round Elaw17_TapeStays hlaw17_TapeStays_1 Blaw17_TapeStays_1 1 (eSlaw17_TapeStays_1 s) = (Wlaw17_TapeStays_1 none s).map (sumE eSlaw17_TapeStays_1 xSlaw17_TapeStays_1) := by kernel_rfl
theorem lplaw17_TapeStays_1 : LpOk Elaw17_TapeStays Blaw17_TapeStays_1 1 := mkLoop_ok (A := tAlaw17_TapeStays_1) (B := tBlaw17_TapeStays_1) (f := Plaw17_TapeStays_1) (L := Llaw17_TapeStays_1 none) (tO_ok (cPair_ok (cSl_ok 62) cUnit_ok) (tO_ok (cK_ok cUnit_ok) (tO_ok (cK_ok cUnit_ok) (tO_ok (cPair_ok (cInt_ok .i64) cUnit_ok) (tO_ok (cPair_ok (cInt_ok .i64) cUnit_ok) tNil_ok))))) (bC_ok (cPair_ok cTape_ok cUnit_ok) (bC_ok (cPair_ok cStore_ok cUnit_ok) bNil_ok)) (enc := eSlaw17_TapeStays_1) (out := xTlaw17_TapeStays_1) (outS := xSlaw17_TapeStays_1) (step := Wlaw17_TapeStays_1 none) (fun _ => rfl) (fun _ _ => by kernel_rfl) (by kernel_rfl) (fun _ => rfl) roundlaw17_TapeStays_1
theorem runlaw17_TapeStays (x : Tape × Store × (List Deed) × Unit) (g : Unit) : execF Elaw17_TapeStays Try.f8 (Alaw17_TapeStays.enc x) (bNil.enc g) = (Tlaw17_TapeStays none x.1 x.2.1 x.2.2.1).map Rlaw17_TapeStays := by kernel_rfl
theorem oklaw17_TapeStays : FnOk Try.prog cd 8 Slaw17_TapeStays := mk_ok (E := Elaw17_TapeStays) cd_ok fns36_ok Try.func8 (by kernel_rfl) (loops_of (addL_ok lplaw17_TapeStays_0 (addL_ok lplaw17_TapeStays_1 noL_ok))) (aA_ok cTape_ok (aA_ok cStore_ok (aO_ok (cSl_ok 62) (aNil_ok)))) bNil_ok (T := fun x _ => Tlaw17_TapeStays none x.1 x.2.1 x.2.2.1) (fun _ _ => rfl) runlaw17_TapeStays
noncomputable def fns8 := addF 8 true Slaw17_TapeStays fns36
theorem fns8_ok : ∀ f q t, fns8 f = some (q, t) → FnOk Try.prog cd f t := addF_ok oklaw17_TapeStays fns36_ok
end Go.Proofs.Ytjhibcebipjbcaa
