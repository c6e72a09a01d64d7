/- The types of the program, and how they are told in cells. -/
import Derived.Test.YtocjgcccbfmoeaaAbMore
import Derived.Test.YtocjgcccbfmoeaaProg
import Derived.KernelRfl
set_option linter.unusedSimpArgs false
namespace Go.Proofs.Ytocjgcccbfmoeaa
open Go Go.Ab
structure Page where
  base : Int
  length : Int
  access : Int
  written : Bool
  deriving DecidableEq
structure Mmu where
  on : Bool
  pages : (List Page)
  status : Int
  addr : Int
  deriving DecidableEq
structure Access where
  u : Mmu
  mode : Int
  addr : Int
  write : Bool
  deriving DecidableEq
structure Range where
  mode : Int
  base : Int
  blocks : Int
  access : Int
  deriving DecidableEq
abbrev tys : List (Nat × Type) := [(23, Page)]
abbrev U : Nat → Type := findT tys
noncomputable def cPage : Cdc U Page := cMap (fun x => Page.mk x.1 x.2.1 x.2.2.1 x.2.2.2.1) (fun x => (x.base, x.length, x.access, x.written, ())) (cPair (cInt .i64) (cPair (cInt .i64) (cPair (cInt .i64) (cPair cBool (cUnit)))))
theorem cPage_ok : cPage.Ok := cMap_ok (cPair_ok (cInt_ok .i64) (cPair_ok (cInt_ok .i64) (cPair_ok (cInt_ok .i64) (cPair_ok cBool_ok cUnit_ok)))) fun _ => rfl
noncomputable def cMmu : Cdc U Mmu := cMap (fun x => Mmu.mk x.1 x.2.1 x.2.2.1 x.2.2.2.1) (fun x => (x.on, x.pages, x.status, x.addr, ())) (cPair cBool (cPair (cArr 23 16) (cPair (cInt .i64) (cPair (cInt .i64) (cUnit)))))
theorem cMmu_ok : cMmu.Ok := cMap_ok (cPair_ok cBool_ok (cPair_ok (cArr_ok 23 16) (cPair_ok (cInt_ok .i64) (cPair_ok (cInt_ok .i64) cUnit_ok)))) fun _ => rfl
noncomputable def cAccess : Cdc U Access := cMap (fun x => Access.mk x.1 x.2.1 x.2.2.1 x.2.2.2.1) (fun x => (x.u, x.mode, x.addr, x.write, ())) (cPair cMmu (cPair (cInt .i64) (cPair (cInt .i64) (cPair cBool (cUnit)))))
theorem cAccess_ok : cAccess.Ok := cMap_ok (cPair_ok cMmu_ok (cPair_ok (cInt_ok .i64) (cPair_ok (cInt_ok .i64) (cPair_ok cBool_ok cUnit_ok)))) fun _ => rfl
noncomputable def cRange : Cdc U Range := cMap (fun x => Range.mk x.1 x.2.1 x.2.2.1 x.2.2.2.1) (fun x => (x.mode, x.base, x.blocks, x.access, ())) (cPair (cInt .i64) (cPair (cInt .i64) (cPair (cInt .i64) (cPair (cInt .i64) (cUnit)))))
theorem cRange_ok : cRange.Ok := cMap_ok (cPair_ok (cInt_ok .i64) (cPair_ok (cInt_ok .i64) (cPair_ok (cInt_ok .i64) (cPair_ok (cInt_ok .i64) cUnit_ok)))) fun _ => rfl
noncomputable def ents : Ents U tys := .cons ⟨cPage, some (Page.mk 0 0 0 false), none, some inferInstance⟩ (.nil)
noncomputable def cd : Cd U := cdOf ents
theorem eqSPage (cd : Cd U) (x y : Page) : eqT Try.prog cd false 4 23 (cPage.enc x) (cPage.enc y) = some (decide (x = y)) := by
  have h : eqT Try.prog cd false 4 23 (cPage.enc x) (cPage.enc y) = some (decide (x.base = y.base) && (decide (x.length = y.length) && (decide (x.access = y.access) && (x.written == y.written)))) := by kernel_rfl
  rw [h]
  cases x; cases y; rw [Option.some.injEq, Bool.eq_iff_iff]; simp
theorem ents_ok : EntsOk Try.prog ents := ⟨⟨cPage_ok, (fun x => by kernel_rfl), (fun x => List.all_eq_true.1 (show ((cPage : Cdc U _).enc x).all plainC = true by kernel_rfl)), (fun f g h => by cases h), (fun d h cd x y => by cases h; exact eqSPage cd x y)⟩, trivial⟩
theorem cd_ok : CdOk Try.prog cd := cdOf_ok ents ents_ok
/-- emulator/emulatorref09.Right -/
structure Sref09_Right_1 where
  t3 : Int
  t4 : Int
  b0 : Mmu
noncomputable def Wref09_Right_1 (s : Sref09_Right_1) : Tree (Sref09_Right_1 ⊕ ((Bool × Int × Mmu) ⊕ (Int × Mmu))) :=
  .ite (decide (s.t4 < (8 : Int)))
    (.ite (decide (0 ≤ s.t3))
      (.ite (decide (s.t3 < (2 : Int)))
        (.ite (decide (0 ≤ s.t4))
          (.ite (decide (s.t4 < (8 : Int)))
            (.opt Page (s.b0.pages[(s.t3).toNat * 8 + (s.t4).toNat * 1]?) fun y1 =>
              .ite (decide (y1.base < (0 : Int)))
                (.leaf (.inr (.inl (false, s.t3, s.b0))))
                (.ite (decide ((4095 : Int) < y1.base))
                  (.leaf (.inr (.inl (false, s.t3, s.b0))))
                  (.ite (decide (y1.length < (0 : Int)))
                    (.leaf (.inr (.inl (false, s.t3, s.b0))))
                    (.ite (decide ((128 : Int) < y1.length))
                      (.leaf (.inr (.inl (false, s.t3, s.b0))))
                      (.ite (decide (y1.access < (0 : Int)))
                        (.leaf (.inr (.inl (false, s.t3, s.b0))))
                        (.ite (decide ((2 : Int) < y1.access))
                          (.leaf (.inr (.inl (false, s.t3, s.b0))))
                          (.leaf (.inl (Sref09_Right_1.mk s.t3 (IntKind.wrap .i64 (s.t4 + (1 : Int))) s.b0)))))))))
            .fail)
          .fail)
        .fail)
      .fail)
    (.leaf (.inr (.inr (s.t3, s.b0))))
noncomputable def Lref09_Right_1 (q : Option Nat) (s : Sref09_Right_1) : Option ((Bool × Int × Mmu) ⊕ (Int × Mmu)) := limQ q (fun s => (Wref09_Right_1 s).run) s
theorem leLref09_Right_1 (k : Nat) (s : Sref09_Right_1) : Le (Lref09_Right_1 (some k) s) (Lref09_Right_1 none s) := limQ_le (fun _ => Le.rfl) s
structure Sref09_Right_0 where
  t3 : Int
  b0 : Mmu
noncomputable def Wref09_Right_0 (q : Option Nat) (s : Sref09_Right_0) : Tree (Sref09_Right_0 ⊕ ((Bool × Mmu) ⊕ Mmu)) :=
  .ite (decide (s.t3 < (2 : Int)))
    (.opt ((Bool × Int × Mmu) ⊕ (Int × Mmu)) (Lref09_Right_1 q (Sref09_Right_1.mk s.t3 (0 : Int) s.b0)) fun l2 =>
      .ite (l2.isLeft)
        (.opt (Bool × Int × Mmu) (l2.getLeft?) fun a3 =>
          .leaf (.inr (.inl (a3.1, a3.2.2))))
        (.opt (Int × Mmu) (l2.getRight?) fun b4 =>
          .leaf (.inl (Sref09_Right_0.mk (IntKind.wrap .i64 (b4.1 + (1 : Int))) b4.2))))
    (.leaf (.inr (.inr s.b0)))
noncomputable def Lref09_Right_0 (q : Option Nat) (s : Sref09_Right_0) : Option ((Bool × Mmu) ⊕ Mmu) := limQ q (fun s => (Wref09_Right_0 q s).run) s
theorem leLref09_Right_0 (k : Nat) (s : Sref09_Right_0) : Le (Lref09_Right_0 (some k) s) (Lref09_Right_0 none s) := limQ_le (fun s => (TLe.ite (TLe.opt (leLref09_Right_1 k _) fun _ => TLe.rfl) TLe.rfl)) s
noncomputable def Tref09_Right (q : Option Nat) (x0 : Mmu) : Tree Bool :=
  .opt ((Bool × Mmu) ⊕ Mmu) (Lref09_Right_0 q (Sref09_Right_0.mk (0 : Int) x0)) fun l5 =>
    .ite (l5.isLeft)
      (.opt (Bool × Mmu) (l5.getLeft?) fun a6 =>
        .leaf (a6.1))
      (.opt Mmu (l5.getRight?) fun b7 =>
        .ite (decide ((0 : Int) ≤ b7.status))
          (.ite (decide (b7.status ≤ (3 : Int)))
            (.ite (decide ((0 : Int) ≤ b7.addr))
              (.leaf (decide (b7.addr < (65536 : Int))))
              (.leaf (false)))
            (.leaf (false)))
          (.leaf (false)))
noncomputable def ref09_Right (q : Option Nat) (x0 : Mmu) : Option Bool := (Tref09_Right q x0).run
theorem leref09_Right (k : Nat) (x0 : Mmu) : Le (ref09_Right (some k) x0) (ref09_Right none x0) := (TLe.opt (leLref09_Right_0 k _) fun _ => TLe.rfl)
noncomputable def Aref09_Right : Arg U (Mmu × Unit) := aA cMmu (aNil)
noncomputable def Rref09_Right (r : Bool) : List (V U) × List (Blk U) := ([vO cBool r], [])
noncomputable def Sref09_Right : List (V U) → List (Blk U) → Option (FnOut U) := mkSpec Aref09_Right bNil (fun x _ => ref09_Right none x.1) Rref09_Right
noncomputable def Pref09_Right_0 (x : (Unit) × (Int × Unit) × Unit) (g : (Mmu × Unit) × Unit) : Sref09_Right_0 := Sref09_Right_0.mk x.2.1.1 g.1.1
noncomputable def tAref09_Right_0 : Tms U ((Unit) × (Int × Unit) × Unit) := tO 1 (cK (.ptr 0 0) (cUnit)) (tO 3 (cPair (cInt .i64) (cUnit)) (tNil))
noncomputable def tBref09_Right_0 : Bls U ((Mmu × Unit) × Unit) := bC (cPair cMmu (cUnit)) (bNil)
noncomputable def eSref09_Right_0 (s : Sref09_Right_0) : St U := { tm := [(1, .v (vO (cK (.ptr 0 0) (cUnit)) (()))), (3, .v (vO (cPair (cInt .i64) (cUnit)) (s.t3, ())))], hp := [.cells ((cPair cMmu (cUnit) : Cdc U (Mmu × Unit)).enc (s.b0, ()))] }
noncomputable def xSref09_Right_0 : ((Bool × Mmu) ⊕ Mmu) → Ex × St U
  | .inl r => (.ret, { tm := [(1, .v (vO (cK (.ptr 0 0) (cUnit)) (()))), (2, .v (vO (cPair cBool (cUnit)) (r.1, ())))], hp := [.cells ((cPair cMmu (cUnit) : Cdc U (Mmu × Unit)).enc (r.2, ()))] })
  | .inr r => (.exit 0, { tm := [(1, .v (vO (cK (.ptr 0 0) (cUnit)) (())))], hp := [.cells ((cPair cMmu (cUnit) : Cdc U (Mmu × Unit)).enc (r, ()))] })
noncomputable def xTref09_Right_0 (y : ((Bool × Mmu) ⊕ Mmu)) : Tree (Ex × St U) := .ite y.isLeft (.opt (Bool × Mmu) y.getLeft? fun r => .leaf (.ret, { tm := [(1, .v (vO (cK (.ptr 0 0) (cUnit)) (()))), (2, .v (vO (cPair cBool (cUnit)) (r.1, ())))], hp := [.cells ((cPair cMmu (cUnit) : Cdc U (Mmu × Unit)).enc (r.2, ()))] })) (.opt Mmu y.getRight? fun r => .leaf (.exit 0, { tm := [(1, .v (vO (cK (.ptr 0 0) (cUnit)) (())))], hp := [.cells ((cPair cMmu (cUnit) : Cdc U (Mmu × Unit)).enc (r, ()))] }))
noncomputable def href09_Right_0 : Hd := { keep := [1, 3], xkeep := [1, 2], own := false }
noncomputable def Pref09_Right_1 (x : (Unit) × (Int × Unit) × (Int × Unit) × Unit) (g : (Mmu × Unit) × Unit) : Sref09_Right_1 := Sref09_Right_1.mk x.2.1.1 x.2.2.1.1 g.1.1
noncomputable def tAref09_Right_1 : Tms U ((Unit) × (Int × Unit) × (Int × Unit) × Unit) := tO 1 (cK (.ptr 0 0) (cUnit)) (tO 3 (cPair (cInt .i64) (cUnit)) (tO 4 (cPair (cInt .i64) (cUnit)) (tNil)))
noncomputable def tBref09_Right_1 : Bls U ((Mmu × Unit) × Unit) := bC (cPair cMmu (cUnit)) (bNil)
noncomputable def eSref09_Right_1 (s : Sref09_Right_1) : St U := { tm := [(1, .v (vO (cK (.ptr 0 0) (cUnit)) (()))), (3, .v (vO (cPair (cInt .i64) (cUnit)) (s.t3, ()))), (4, .v (vO (cPair (cInt .i64) (cUnit)) (s.t4, ())))], hp := [.cells ((cPair cMmu (cUnit) : Cdc U (Mmu × Unit)).enc (s.b0, ()))] }
noncomputable def xSref09_Right_1 : ((Bool × Int × Mmu) ⊕ (Int × Mmu)) → Ex × St U
  | .inl r => (.ret, { tm := [(1, .v (vO (cK (.ptr 0 0) (cUnit)) (()))), (2, .v (vO (cPair cBool (cUnit)) (r.1, ()))), (3, .v (vO (cPair (cInt .i64) (cUnit)) (r.2.1, ())))], hp := [.cells ((cPair cMmu (cUnit) : Cdc U (Mmu × Unit)).enc (r.2.2, ()))] })
  | .inr r => (.exit 2, { tm := [(1, .v (vO (cK (.ptr 0 0) (cUnit)) (()))), (3, .v (vO (cPair (cInt .i64) (cUnit)) (r.1, ())))], hp := [.cells ((cPair cMmu (cUnit) : Cdc U (Mmu × Unit)).enc (r.2, ()))] })
noncomputable def xTref09_Right_1 (y : ((Bool × Int × Mmu) ⊕ (Int × Mmu))) : Tree (Ex × St U) := .ite y.isLeft (.opt (Bool × Int × Mmu) y.getLeft? fun r => .leaf (.ret, { tm := [(1, .v (vO (cK (.ptr 0 0) (cUnit)) (()))), (2, .v (vO (cPair cBool (cUnit)) (r.1, ()))), (3, .v (vO (cPair (cInt .i64) (cUnit)) (r.2.1, ())))], hp := [.cells ((cPair cMmu (cUnit) : Cdc U (Mmu × Unit)).enc (r.2.2, ()))] })) (.opt (Int × Mmu) y.getRight? fun r => .leaf (.exit 2, { tm := [(1, .v (vO (cK (.ptr 0 0) (cUnit)) (()))), (3, .v (vO (cPair (cInt .i64) (cUnit)) (r.1, ())))], hp := [.cells ((cPair cMmu (cUnit) : Cdc U (Mmu × Unit)).enc (r.2, ()))] }))
noncomputable def href09_Right_1 : Hd := { keep := [1, 3, 4], xkeep := [1, 2, 3], own := false }
noncomputable def Eref09_Right : Env U := { P := Try.prog, cd := cd, fns := noF, lps := (addL 0 href09_Right_0 (mkLoop tAref09_Right_0 tBref09_Right_0 Pref09_Right_0 (Lref09_Right_0 none) xTref09_Right_0) (addL 1 href09_Right_1 (mkLoop tAref09_Right_1 tBref09_Right_1 Pref09_Right_1 (Lref09_Right_1 none) xTref09_Right_1) noL)), frz := fun _r => false, nt := 66, n0 := 0 }
noncomputable def Bref09_Right_0 : Code := (loopAt (Try.f10.body.getD .skip) 0 0).getD .skip
theorem roundref09_Right_0 (s : Sref09_Right_0) : round Eref09_Right href09_Right_0 Bref09_Right_0 0 (eSref09_Right_0 s) = (Wref09_Right_0 none s).map (sumE eSref09_Right_0 xSref09_Right_0) := by kernel_rfl
theorem lpref09_Right_0 : LpOk Eref09_Right Bref09_Right_0 0 := mkLoop_ok (A := tAref09_Right_0) (B := tBref09_Right_0) (f := Pref09_Right_0) (L := Lref09_Right_0 none) (tO_ok (cK_ok cUnit_ok) (tO_ok (cPair_ok (cInt_ok .i64) cUnit_ok) tNil_ok)) (bC_ok (cPair_ok cMmu_ok cUnit_ok) bNil_ok) (enc := eSref09_Right_0) (out := xTref09_Right_0) (outS := xSref09_Right_0) (step := Wref09_Right_0 none) (fun _ => rfl) (fun _ _ => by kernel_rfl) (by kernel_rfl) (fun b => by cases b <;> rfl) roundref09_Right_0
noncomputable def Bref09_Right_1 : Code := (loopAt (Try.f10.body.getD .skip) 0 1).getD .skip
theorem roundref09_Right_1 (s : Sref09_Right_1) : round Eref09_Right href09_Right_1 Bref09_Right_1 1 (eSref09_Right_1 s) = (Wref09_Right_1 s).map (sumE eSref09_Right_1 xSref09_Right_1) := by kernel_rfl
theorem lpref09_Right_1 : LpOk Eref09_Right Bref09_Right_1 1 := mkLoop_ok (A := tAref09_Right_1) (B := tBref09_Right_1) (f := Pref09_Right_1) (L := Lref09_Right_1 none) (tO_ok (cK_ok cUnit_ok) (tO_ok (cPair_ok (cInt_ok .i64) cUnit_ok) (tO_ok (cPair_ok (cInt_ok .i64) cUnit_ok) tNil_ok))) (bC_ok (cPair_ok cMmu_ok cUnit_ok) bNil_ok) (enc := eSref09_Right_1) (out := xTref09_Right_1) (outS := xSref09_Right_1) (step := Wref09_Right_1) (fun _ => rfl) (fun _ _ => by kernel_rfl) (by kernel_rfl) (fun b => by cases b <;> rfl) roundref09_Right_1
theorem runref09_Right (x : Mmu × Unit) (g : Unit) : execF Eref09_Right Try.f10 (Aref09_Right.enc x) (bNil.enc g) = (Tref09_Right none x.1).map Rref09_Right := by kernel_rfl
theorem okref09_Right : FnOk Try.prog cd 10 Sref09_Right := mk_ok (E := Eref09_Right) cd_ok noF_ok Try.func10 (by kernel_rfl) (loops_of (addL_ok lpref09_Right_0 (addL_ok lpref09_Right_1 noL_ok))) (aA_ok cMmu_ok (aNil_ok)) bNil_ok (T := fun x _ => Tref09_Right none x.1) (fun _ _ => rfl) runref09_Right
noncomputable def fns10 := addF 10 true Sref09_Right noF
theorem fns10_ok : ∀ f q t, fns10 f = some (q, t) → FnOk Try.prog cd f t := addF_ok okref09_Right noF_ok
/-- emulator/mmu.Translate -/
noncomputable def Tmmu_Translate (x0 : Mmu) (x1 : Int) (x2 : Int) (x3 : Bool) : Tree (Int × Mmu × Int) :=
  .ite (!x0.on)
    (.ite (decide ((57344 : Int) ≤ (IntKind.wrap .i64 (((BitVec.ofInt 64 x2 &&& BitVec.ofInt 64 (65535 : Int)).toNat : Int)))))
      (.leaf ((IntKind.wrap .i64 ((IntKind.wrap .i64 (((BitVec.ofInt 64 x2 &&& BitVec.ofInt 64 (65535 : Int)).toNat : Int))) + (196608 : Int)), x0, (0 : Int))))
      (.leaf ((IntKind.wrap .i64 (((BitVec.ofInt 64 x2 &&& BitVec.ofInt 64 (65535 : Int)).toNat : Int)), x0, (0 : Int)))))
    (.ite (decide ((8192 : Int) = 0))
      .fail
      (.ite (decide ((8192 : Int) = 0))
        .fail
        (.ite (decide (0 ≤ IntKind.wrap .i64 (((BitVec.ofInt 64 x1 &&& BitVec.ofInt 64 (1 : Int)).toNat : Int))))
          (.ite (decide (IntKind.wrap .i64 (((BitVec.ofInt 64 x1 &&& BitVec.ofInt 64 (1 : Int)).toNat : Int)) < (2 : Int)))
            (.ite (decide (0 ≤ IntKind.wrap .i64 (((IntKind.wrap .i64 (((BitVec.ofInt 64 x2 &&& BitVec.ofInt 64 (65535 : Int)).toNat : Int)))).tdiv (8192 : Int))))
              (.ite (decide (IntKind.wrap .i64 (((IntKind.wrap .i64 (((BitVec.ofInt 64 x2 &&& BitVec.ofInt 64 (65535 : Int)).toNat : Int)))).tdiv (8192 : Int)) < (8 : Int)))
                (.opt Page (x0.pages[(IntKind.wrap .i64 (((BitVec.ofInt 64 x1 &&& BitVec.ofInt 64 (1 : Int)).toNat : Int))).toNat * 8 + (IntKind.wrap .i64 (((IntKind.wrap .i64 (((BitVec.ofInt 64 x2 &&& BitVec.ofInt 64 (65535 : Int)).toNat : Int)))).tdiv (8192 : Int))).toNat * 1]?) fun y8 =>
                  .ite (decide (y8.access = (0 : Int)))
                    (.ite (!decide ((1 : Int) = (0 : Int)))
                      (.leaf (((0 : Int), Mmu.mk x0.on x0.pages (1 : Int) (IntKind.wrap .i64 (((BitVec.ofInt 64 x2 &&& BitVec.ofInt 64 (65535 : Int)).toNat : Int))), (8 : Int))))
                      (.opt Page (x0.pages[(IntKind.wrap .i64 (((BitVec.ofInt 64 x1 &&& BitVec.ofInt 64 (1 : Int)).toNat : Int))).toNat * 8 + (IntKind.wrap .i64 (((IntKind.wrap .i64 (((BitVec.ofInt 64 x2 &&& BitVec.ofInt 64 (65535 : Int)).toNat : Int)))).tdiv (8192 : Int))).toNat * 1]?) fun y11 =>
                        .ite (y11.written)
                          (.opt Page (x0.pages[(IntKind.wrap .i64 (((BitVec.ofInt 64 x1 &&& BitVec.ofInt 64 (1 : Int)).toNat : Int))).toNat * 8 + (IntKind.wrap .i64 (((IntKind.wrap .i64 (((BitVec.ofInt 64 x2 &&& BitVec.ofInt 64 (65535 : Int)).toNat : Int)))).tdiv (8192 : Int))).toNat * 1]?) fun y12 =>
                            .opt Page ((x0.pages.set ((IntKind.wrap .i64 (((BitVec.ofInt 64 x1 &&& BitVec.ofInt 64 (1 : Int)).toNat : Int))).toNat * 8 + (IntKind.wrap .i64 (((IntKind.wrap .i64 (((BitVec.ofInt 64 x2 &&& BitVec.ofInt 64 (65535 : Int)).toNat : Int)))).tdiv (8192 : Int))).toNat * 1) (Page.mk y12.base y12.length y12.access true))[(IntKind.wrap .i64 (((BitVec.ofInt 64 x1 &&& BitVec.ofInt 64 (1 : Int)).toNat : Int))).toNat * 8 + (IntKind.wrap .i64 (((IntKind.wrap .i64 (((BitVec.ofInt 64 x2 &&& BitVec.ofInt 64 (65535 : Int)).toNat : Int)))).tdiv (8192 : Int))).toNat * 1]?) fun y14 =>
                              .ite (decide ((262144 : Int) = 0))
                                .fail
                                (.leaf ((((IntKind.wrap .i64 ((IntKind.wrap .i64 (y14.base * (64 : Int))) + (((IntKind.wrap .i64 (((BitVec.ofInt 64 x2 &&& BitVec.ofInt 64 (65535 : Int)).toNat : Int)))).tmod (8192 : Int))))).tmod (262144 : Int), Mmu.mk x0.on (x0.pages.set ((IntKind.wrap .i64 (((BitVec.ofInt 64 x1 &&& BitVec.ofInt 64 (1 : Int)).toNat : Int))).toNat * 8 + (IntKind.wrap .i64 (((IntKind.wrap .i64 (((BitVec.ofInt 64 x2 &&& BitVec.ofInt 64 (65535 : Int)).toNat : Int)))).tdiv (8192 : Int))).toNat * 1) (Page.mk y12.base y12.length y12.access true)) x0.status x0.addr, (0 : Int)))))
                          (.opt Page (x0.pages[(IntKind.wrap .i64 (((BitVec.ofInt 64 x1 &&& BitVec.ofInt 64 (1 : Int)).toNat : Int))).toNat * 8 + (IntKind.wrap .i64 (((IntKind.wrap .i64 (((BitVec.ofInt 64 x2 &&& BitVec.ofInt 64 (65535 : Int)).toNat : Int)))).tdiv (8192 : Int))).toNat * 1]?) fun y13 =>
                            .opt Page ((x0.pages.set ((IntKind.wrap .i64 (((BitVec.ofInt 64 x1 &&& BitVec.ofInt 64 (1 : Int)).toNat : Int))).toNat * 8 + (IntKind.wrap .i64 (((IntKind.wrap .i64 (((BitVec.ofInt 64 x2 &&& BitVec.ofInt 64 (65535 : Int)).toNat : Int)))).tdiv (8192 : Int))).toNat * 1) (Page.mk y13.base y13.length y13.access x3))[(IntKind.wrap .i64 (((BitVec.ofInt 64 x1 &&& BitVec.ofInt 64 (1 : Int)).toNat : Int))).toNat * 8 + (IntKind.wrap .i64 (((IntKind.wrap .i64 (((BitVec.ofInt 64 x2 &&& BitVec.ofInt 64 (65535 : Int)).toNat : Int)))).tdiv (8192 : Int))).toNat * 1]?) fun y15 =>
                              .ite (decide ((262144 : Int) = 0))
                                .fail
                                (.leaf ((((IntKind.wrap .i64 ((IntKind.wrap .i64 (y15.base * (64 : Int))) + (((IntKind.wrap .i64 (((BitVec.ofInt 64 x2 &&& BitVec.ofInt 64 (65535 : Int)).toNat : Int)))).tmod (8192 : Int))))).tmod (262144 : Int), Mmu.mk x0.on (x0.pages.set ((IntKind.wrap .i64 (((BitVec.ofInt 64 x1 &&& BitVec.ofInt 64 (1 : Int)).toNat : Int))).toNat * 8 + (IntKind.wrap .i64 (((IntKind.wrap .i64 (((BitVec.ofInt 64 x2 &&& BitVec.ofInt 64 (65535 : Int)).toNat : Int)))).tdiv (8192 : Int))).toNat * 1) (Page.mk y13.base y13.length y13.access x3)) x0.status x0.addr, (0 : Int)))))))
                    (.ite (decide ((64 : Int) = 0))
                      .fail
                      (.opt Page (x0.pages[(IntKind.wrap .i64 (((BitVec.ofInt 64 x1 &&& BitVec.ofInt 64 (1 : Int)).toNat : Int))).toNat * 8 + (IntKind.wrap .i64 (((IntKind.wrap .i64 (((BitVec.ofInt 64 x2 &&& BitVec.ofInt 64 (65535 : Int)).toNat : Int)))).tdiv (8192 : Int))).toNat * 1]?) fun y9 =>
                        .ite (decide (y9.length ≤ (IntKind.wrap .i64 (((((IntKind.wrap .i64 (((BitVec.ofInt 64 x2 &&& BitVec.ofInt 64 (65535 : Int)).toNat : Int)))).tmod (8192 : Int))).tdiv (64 : Int)))))
                          (.ite (!decide ((2 : Int) = (0 : Int)))
                            (.leaf (((0 : Int), Mmu.mk x0.on x0.pages (2 : Int) (IntKind.wrap .i64 (((BitVec.ofInt 64 x2 &&& BitVec.ofInt 64 (65535 : Int)).toNat : Int))), (8 : Int))))
                            (.opt Page (x0.pages[(IntKind.wrap .i64 (((BitVec.ofInt 64 x1 &&& BitVec.ofInt 64 (1 : Int)).toNat : Int))).toNat * 8 + (IntKind.wrap .i64 (((IntKind.wrap .i64 (((BitVec.ofInt 64 x2 &&& BitVec.ofInt 64 (65535 : Int)).toNat : Int)))).tdiv (8192 : Int))).toNat * 1]?) fun y16 =>
                              .ite (y16.written)
                                (.opt Page (x0.pages[(IntKind.wrap .i64 (((BitVec.ofInt 64 x1 &&& BitVec.ofInt 64 (1 : Int)).toNat : Int))).toNat * 8 + (IntKind.wrap .i64 (((IntKind.wrap .i64 (((BitVec.ofInt 64 x2 &&& BitVec.ofInt 64 (65535 : Int)).toNat : Int)))).tdiv (8192 : Int))).toNat * 1]?) fun y17 =>
                                  .opt Page ((x0.pages.set ((IntKind.wrap .i64 (((BitVec.ofInt 64 x1 &&& BitVec.ofInt 64 (1 : Int)).toNat : Int))).toNat * 8 + (IntKind.wrap .i64 (((IntKind.wrap .i64 (((BitVec.ofInt 64 x2 &&& BitVec.ofInt 64 (65535 : Int)).toNat : Int)))).tdiv (8192 : Int))).toNat * 1) (Page.mk y17.base y17.length y17.access true))[(IntKind.wrap .i64 (((BitVec.ofInt 64 x1 &&& BitVec.ofInt 64 (1 : Int)).toNat : Int))).toNat * 8 + (IntKind.wrap .i64 (((IntKind.wrap .i64 (((BitVec.ofInt 64 x2 &&& BitVec.ofInt 64 (65535 : Int)).toNat : Int)))).tdiv (8192 : Int))).toNat * 1]?) fun y19 =>
                                    .ite (decide ((262144 : Int) = 0))
                                      .fail
                                      (.leaf ((((IntKind.wrap .i64 ((IntKind.wrap .i64 (y19.base * (64 : Int))) + (((IntKind.wrap .i64 (((BitVec.ofInt 64 x2 &&& BitVec.ofInt 64 (65535 : Int)).toNat : Int)))).tmod (8192 : Int))))).tmod (262144 : Int), Mmu.mk x0.on (x0.pages.set ((IntKind.wrap .i64 (((BitVec.ofInt 64 x1 &&& BitVec.ofInt 64 (1 : Int)).toNat : Int))).toNat * 8 + (IntKind.wrap .i64 (((IntKind.wrap .i64 (((BitVec.ofInt 64 x2 &&& BitVec.ofInt 64 (65535 : Int)).toNat : Int)))).tdiv (8192 : Int))).toNat * 1) (Page.mk y17.base y17.length y17.access true)) x0.status x0.addr, (0 : Int)))))
                                (.opt Page (x0.pages[(IntKind.wrap .i64 (((BitVec.ofInt 64 x1 &&& BitVec.ofInt 64 (1 : Int)).toNat : Int))).toNat * 8 + (IntKind.wrap .i64 (((IntKind.wrap .i64 (((BitVec.ofInt 64 x2 &&& BitVec.ofInt 64 (65535 : Int)).toNat : Int)))).tdiv (8192 : Int))).toNat * 1]?) fun y18 =>
                                  .opt Page ((x0.pages.set ((IntKind.wrap .i64 (((BitVec.ofInt 64 x1 &&& BitVec.ofInt 64 (1 : Int)).toNat : Int))).toNat * 8 + (IntKind.wrap .i64 (((IntKind.wrap .i64 (((BitVec.ofInt 64 x2 &&& BitVec.ofInt 64 (65535 : Int)).toNat : Int)))).tdiv (8192 : Int))).toNat * 1) (Page.mk y18.base y18.length y18.access x3))[(IntKind.wrap .i64 (((BitVec.ofInt 64 x1 &&& BitVec.ofInt 64 (1 : Int)).toNat : Int))).toNat * 8 + (IntKind.wrap .i64 (((IntKind.wrap .i64 (((BitVec.ofInt 64 x2 &&& BitVec.ofInt 64 (65535 : Int)).toNat : Int)))).tdiv (8192 : Int))).toNat * 1]?) fun y20 =>
                                    .ite (decide ((262144 : Int) = 0))
                                      .fail
                                      (.leaf ((((IntKind.wrap .i64 ((IntKind.wrap .i64 (y20.base * (64 : Int))) + (((IntKind.wrap .i64 (((BitVec.ofInt 64 x2 &&& BitVec.ofInt 64 (65535 : Int)).toNat : Int)))).tmod (8192 : Int))))).tmod (262144 : Int), Mmu.mk x0.on (x0.pages.set ((IntKind.wrap .i64 (((BitVec.ofInt 64 x1 &&& BitVec.ofInt 64 (1 : Int)).toNat : Int))).toNat * 8 + (IntKind.wrap .i64 (((IntKind.wrap .i64 (((BitVec.ofInt 64 x2 &&& BitVec.ofInt 64 (65535 : Int)).toNat : Int)))).tdiv (8192 : Int))).toNat * 1) (Page.mk y18.base y18.length y18.access x3)) x0.status x0.addr, (0 : Int)))))))
                          (.ite (x3)
                            (.opt Page (x0.pages[(IntKind.wrap .i64 (((BitVec.ofInt 64 x1 &&& BitVec.ofInt 64 (1 : Int)).toNat : Int))).toNat * 8 + (IntKind.wrap .i64 (((IntKind.wrap .i64 (((BitVec.ofInt 64 x2 &&& BitVec.ofInt 64 (65535 : Int)).toNat : Int)))).tdiv (8192 : Int))).toNat * 1]?) fun y10 =>
                              .ite (!decide (y10.access = (2 : Int)))
                                (.ite (!decide ((3 : Int) = (0 : Int)))
                                  (.leaf (((0 : Int), Mmu.mk x0.on x0.pages (3 : Int) (IntKind.wrap .i64 (((BitVec.ofInt 64 x2 &&& BitVec.ofInt 64 (65535 : Int)).toNat : Int))), (8 : Int))))
                                  (.opt Page (x0.pages[(IntKind.wrap .i64 (((BitVec.ofInt 64 x1 &&& BitVec.ofInt 64 (1 : Int)).toNat : Int))).toNat * 8 + (IntKind.wrap .i64 (((IntKind.wrap .i64 (((BitVec.ofInt 64 x2 &&& BitVec.ofInt 64 (65535 : Int)).toNat : Int)))).tdiv (8192 : Int))).toNat * 1]?) fun y21 =>
                                    .ite (y21.written)
                                      (.opt Page (x0.pages[(IntKind.wrap .i64 (((BitVec.ofInt 64 x1 &&& BitVec.ofInt 64 (1 : Int)).toNat : Int))).toNat * 8 + (IntKind.wrap .i64 (((IntKind.wrap .i64 (((BitVec.ofInt 64 x2 &&& BitVec.ofInt 64 (65535 : Int)).toNat : Int)))).tdiv (8192 : Int))).toNat * 1]?) fun y22 =>
                                        .opt Page ((x0.pages.set ((IntKind.wrap .i64 (((BitVec.ofInt 64 x1 &&& BitVec.ofInt 64 (1 : Int)).toNat : Int))).toNat * 8 + (IntKind.wrap .i64 (((IntKind.wrap .i64 (((BitVec.ofInt 64 x2 &&& BitVec.ofInt 64 (65535 : Int)).toNat : Int)))).tdiv (8192 : Int))).toNat * 1) (Page.mk y22.base y22.length y22.access true))[(IntKind.wrap .i64 (((BitVec.ofInt 64 x1 &&& BitVec.ofInt 64 (1 : Int)).toNat : Int))).toNat * 8 + (IntKind.wrap .i64 (((IntKind.wrap .i64 (((BitVec.ofInt 64 x2 &&& BitVec.ofInt 64 (65535 : Int)).toNat : Int)))).tdiv (8192 : Int))).toNat * 1]?) fun y24 =>
                                          .ite (decide ((262144 : Int) = 0))
                                            .fail
                                            (.leaf ((((IntKind.wrap .i64 ((IntKind.wrap .i64 (y24.base * (64 : Int))) + (((IntKind.wrap .i64 (((BitVec.ofInt 64 x2 &&& BitVec.ofInt 64 (65535 : Int)).toNat : Int)))).tmod (8192 : Int))))).tmod (262144 : Int), Mmu.mk x0.on (x0.pages.set ((IntKind.wrap .i64 (((BitVec.ofInt 64 x1 &&& BitVec.ofInt 64 (1 : Int)).toNat : Int))).toNat * 8 + (IntKind.wrap .i64 (((IntKind.wrap .i64 (((BitVec.ofInt 64 x2 &&& BitVec.ofInt 64 (65535 : Int)).toNat : Int)))).tdiv (8192 : Int))).toNat * 1) (Page.mk y22.base y22.length y22.access true)) x0.status x0.addr, (0 : Int)))))
                                      (.opt Page (x0.pages[(IntKind.wrap .i64 (((BitVec.ofInt 64 x1 &&& BitVec.ofInt 64 (1 : Int)).toNat : Int))).toNat * 8 + (IntKind.wrap .i64 (((IntKind.wrap .i64 (((BitVec.ofInt 64 x2 &&& BitVec.ofInt 64 (65535 : Int)).toNat : Int)))).tdiv (8192 : Int))).toNat * 1]?) fun y23 =>
                                        .opt Page ((x0.pages.set ((IntKind.wrap .i64 (((BitVec.ofInt 64 x1 &&& BitVec.ofInt 64 (1 : Int)).toNat : Int))).toNat * 8 + (IntKind.wrap .i64 (((IntKind.wrap .i64 (((BitVec.ofInt 64 x2 &&& BitVec.ofInt 64 (65535 : Int)).toNat : Int)))).tdiv (8192 : Int))).toNat * 1) (Page.mk y23.base y23.length y23.access x3))[(IntKind.wrap .i64 (((BitVec.ofInt 64 x1 &&& BitVec.ofInt 64 (1 : Int)).toNat : Int))).toNat * 8 + (IntKind.wrap .i64 (((IntKind.wrap .i64 (((BitVec.ofInt 64 x2 &&& BitVec.ofInt 64 (65535 : Int)).toNat : Int)))).tdiv (8192 : Int))).toNat * 1]?) fun y25 =>
                                          .ite (decide ((262144 : Int) = 0))
                                            .fail
                                            (.leaf ((((IntKind.wrap .i64 ((IntKind.wrap .i64 (y25.base * (64 : Int))) + (((IntKind.wrap .i64 (((BitVec.ofInt 64 x2 &&& BitVec.ofInt 64 (65535 : Int)).toNat : Int)))).tmod (8192 : Int))))).tmod (262144 : Int), Mmu.mk x0.on (x0.pages.set ((IntKind.wrap .i64 (((BitVec.ofInt 64 x1 &&& BitVec.ofInt 64 (1 : Int)).toNat : Int))).toNat * 8 + (IntKind.wrap .i64 (((IntKind.wrap .i64 (((BitVec.ofInt 64 x2 &&& BitVec.ofInt 64 (65535 : Int)).toNat : Int)))).tdiv (8192 : Int))).toNat * 1) (Page.mk y23.base y23.length y23.access x3)) x0.status x0.addr, (0 : Int)))))))
                                (.ite (!decide ((0 : Int) = (0 : Int)))
                                  (.leaf (((0 : Int), Mmu.mk x0.on x0.pages (0 : Int) (IntKind.wrap .i64 (((BitVec.ofInt 64 x2 &&& BitVec.ofInt 64 (65535 : Int)).toNat : Int))), (8 : Int))))
                                  (.opt Page (x0.pages[(IntKind.wrap .i64 (((BitVec.ofInt 64 x1 &&& BitVec.ofInt 64 (1 : Int)).toNat : Int))).toNat * 8 + (IntKind.wrap .i64 (((IntKind.wrap .i64 (((BitVec.ofInt 64 x2 &&& BitVec.ofInt 64 (65535 : Int)).toNat : Int)))).tdiv (8192 : Int))).toNat * 1]?) fun y26 =>
                                    .ite (y26.written)
                                      (.opt Page (x0.pages[(IntKind.wrap .i64 (((BitVec.ofInt 64 x1 &&& BitVec.ofInt 64 (1 : Int)).toNat : Int))).toNat * 8 + (IntKind.wrap .i64 (((IntKind.wrap .i64 (((BitVec.ofInt 64 x2 &&& BitVec.ofInt 64 (65535 : Int)).toNat : Int)))).tdiv (8192 : Int))).toNat * 1]?) fun y27 =>
                                        .opt Page ((x0.pages.set ((IntKind.wrap .i64 (((BitVec.ofInt 64 x1 &&& BitVec.ofInt 64 (1 : Int)).toNat : Int))).toNat * 8 + (IntKind.wrap .i64 (((IntKind.wrap .i64 (((BitVec.ofInt 64 x2 &&& BitVec.ofInt 64 (65535 : Int)).toNat : Int)))).tdiv (8192 : Int))).toNat * 1) (Page.mk y27.base y27.length y27.access true))[(IntKind.wrap .i64 (((BitVec.ofInt 64 x1 &&& BitVec.ofInt 64 (1 : Int)).toNat : Int))).toNat * 8 + (IntKind.wrap .i64 (((IntKind.wrap .i64 (((BitVec.ofInt 64 x2 &&& BitVec.ofInt 64 (65535 : Int)).toNat : Int)))).tdiv (8192 : Int))).toNat * 1]?) fun y29 =>
                                          .ite (decide ((262144 : Int) = 0))
                                            .fail
                                            (.leaf ((((IntKind.wrap .i64 ((IntKind.wrap .i64 (y29.base * (64 : Int))) + (((IntKind.wrap .i64 (((BitVec.ofInt 64 x2 &&& BitVec.ofInt 64 (65535 : Int)).toNat : Int)))).tmod (8192 : Int))))).tmod (262144 : Int), Mmu.mk x0.on (x0.pages.set ((IntKind.wrap .i64 (((BitVec.ofInt 64 x1 &&& BitVec.ofInt 64 (1 : Int)).toNat : Int))).toNat * 8 + (IntKind.wrap .i64 (((IntKind.wrap .i64 (((BitVec.ofInt 64 x2 &&& BitVec.ofInt 64 (65535 : Int)).toNat : Int)))).tdiv (8192 : Int))).toNat * 1) (Page.mk y27.base y27.length y27.access true)) x0.status x0.addr, (0 : Int)))))
                                      (.opt Page (x0.pages[(IntKind.wrap .i64 (((BitVec.ofInt 64 x1 &&& BitVec.ofInt 64 (1 : Int)).toNat : Int))).toNat * 8 + (IntKind.wrap .i64 (((IntKind.wrap .i64 (((BitVec.ofInt 64 x2 &&& BitVec.ofInt 64 (65535 : Int)).toNat : Int)))).tdiv (8192 : Int))).toNat * 1]?) fun y28 =>
                                        .opt Page ((x0.pages.set ((IntKind.wrap .i64 (((BitVec.ofInt 64 x1 &&& BitVec.ofInt 64 (1 : Int)).toNat : Int))).toNat * 8 + (IntKind.wrap .i64 (((IntKind.wrap .i64 (((BitVec.ofInt 64 x2 &&& BitVec.ofInt 64 (65535 : Int)).toNat : Int)))).tdiv (8192 : Int))).toNat * 1) (Page.mk y28.base y28.length y28.access x3))[(IntKind.wrap .i64 (((BitVec.ofInt 64 x1 &&& BitVec.ofInt 64 (1 : Int)).toNat : Int))).toNat * 8 + (IntKind.wrap .i64 (((IntKind.wrap .i64 (((BitVec.ofInt 64 x2 &&& BitVec.ofInt 64 (65535 : Int)).toNat : Int)))).tdiv (8192 : Int))).toNat * 1]?) fun y30 =>
                                          .ite (decide ((262144 : Int) = 0))
                                            .fail
                                            (.leaf ((((IntKind.wrap .i64 ((IntKind.wrap .i64 (y30.base * (64 : Int))) + (((IntKind.wrap .i64 (((BitVec.ofInt 64 x2 &&& BitVec.ofInt 64 (65535 : Int)).toNat : Int)))).tmod (8192 : Int))))).tmod (262144 : Int), Mmu.mk x0.on (x0.pages.set ((IntKind.wrap .i64 (((BitVec.ofInt 64 x1 &&& BitVec.ofInt 64 (1 : Int)).toNat : Int))).toNat * 8 + (IntKind.wrap .i64 (((IntKind.wrap .i64 (((BitVec.ofInt 64 x2 &&& BitVec.ofInt 64 (65535 : Int)).toNat : Int)))).tdiv (8192 : Int))).toNat * 1) (Page.mk y28.base y28.length y28.access x3)) x0.status x0.addr, (0 : Int))))))))
                            (.ite (!decide ((0 : Int) = (0 : Int)))
                              (.leaf (((0 : Int), Mmu.mk x0.on x0.pages (0 : Int) (IntKind.wrap .i64 (((BitVec.ofInt 64 x2 &&& BitVec.ofInt 64 (65535 : Int)).toNat : Int))), (8 : Int))))
                              (.opt Page (x0.pages[(IntKind.wrap .i64 (((BitVec.ofInt 64 x1 &&& BitVec.ofInt 64 (1 : Int)).toNat : Int))).toNat * 8 + (IntKind.wrap .i64 (((IntKind.wrap .i64 (((BitVec.ofInt 64 x2 &&& BitVec.ofInt 64 (65535 : Int)).toNat : Int)))).tdiv (8192 : Int))).toNat * 1]?) fun y31 =>
                                .ite (y31.written)
                                  (.opt Page (x0.pages[(IntKind.wrap .i64 (((BitVec.ofInt 64 x1 &&& BitVec.ofInt 64 (1 : Int)).toNat : Int))).toNat * 8 + (IntKind.wrap .i64 (((IntKind.wrap .i64 (((BitVec.ofInt 64 x2 &&& BitVec.ofInt 64 (65535 : Int)).toNat : Int)))).tdiv (8192 : Int))).toNat * 1]?) fun y32 =>
                                    .opt Page ((x0.pages.set ((IntKind.wrap .i64 (((BitVec.ofInt 64 x1 &&& BitVec.ofInt 64 (1 : Int)).toNat : Int))).toNat * 8 + (IntKind.wrap .i64 (((IntKind.wrap .i64 (((BitVec.ofInt 64 x2 &&& BitVec.ofInt 64 (65535 : Int)).toNat : Int)))).tdiv (8192 : Int))).toNat * 1) (Page.mk y32.base y32.length y32.access true))[(IntKind.wrap .i64 (((BitVec.ofInt 64 x1 &&& BitVec.ofInt 64 (1 : Int)).toNat : Int))).toNat * 8 + (IntKind.wrap .i64 (((IntKind.wrap .i64 (((BitVec.ofInt 64 x2 &&& BitVec.ofInt 64 (65535 : Int)).toNat : Int)))).tdiv (8192 : Int))).toNat * 1]?) fun y34 =>
                                      .ite (decide ((262144 : Int) = 0))
                                        .fail
                                        (.leaf ((((IntKind.wrap .i64 ((IntKind.wrap .i64 (y34.base * (64 : Int))) + (((IntKind.wrap .i64 (((BitVec.ofInt 64 x2 &&& BitVec.ofInt 64 (65535 : Int)).toNat : Int)))).tmod (8192 : Int))))).tmod (262144 : Int), Mmu.mk x0.on (x0.pages.set ((IntKind.wrap .i64 (((BitVec.ofInt 64 x1 &&& BitVec.ofInt 64 (1 : Int)).toNat : Int))).toNat * 8 + (IntKind.wrap .i64 (((IntKind.wrap .i64 (((BitVec.ofInt 64 x2 &&& BitVec.ofInt 64 (65535 : Int)).toNat : Int)))).tdiv (8192 : Int))).toNat * 1) (Page.mk y32.base y32.length y32.access true)) x0.status x0.addr, (0 : Int)))))
                                  (.opt Page (x0.pages[(IntKind.wrap .i64 (((BitVec.ofInt 64 x1 &&& BitVec.ofInt 64 (1 : Int)).toNat : Int))).toNat * 8 + (IntKind.wrap .i64 (((IntKind.wrap .i64 (((BitVec.ofInt 64 x2 &&& BitVec.ofInt 64 (65535 : Int)).toNat : Int)))).tdiv (8192 : Int))).toNat * 1]?) fun y33 =>
                                    .opt Page ((x0.pages.set ((IntKind.wrap .i64 (((BitVec.ofInt 64 x1 &&& BitVec.ofInt 64 (1 : Int)).toNat : Int))).toNat * 8 + (IntKind.wrap .i64 (((IntKind.wrap .i64 (((BitVec.ofInt 64 x2 &&& BitVec.ofInt 64 (65535 : Int)).toNat : Int)))).tdiv (8192 : Int))).toNat * 1) (Page.mk y33.base y33.length y33.access x3))[(IntKind.wrap .i64 (((BitVec.ofInt 64 x1 &&& BitVec.ofInt 64 (1 : Int)).toNat : Int))).toNat * 8 + (IntKind.wrap .i64 (((IntKind.wrap .i64 (((BitVec.ofInt 64 x2 &&& BitVec.ofInt 64 (65535 : Int)).toNat : Int)))).tdiv (8192 : Int))).toNat * 1]?) fun y35 =>
                                      .ite (decide ((262144 : Int) = 0))
                                        .fail
                                        (.leaf ((((IntKind.wrap .i64 ((IntKind.wrap .i64 (y35.base * (64 : Int))) + (((IntKind.wrap .i64 (((BitVec.ofInt 64 x2 &&& BitVec.ofInt 64 (65535 : Int)).toNat : Int)))).tmod (8192 : Int))))).tmod (262144 : Int), Mmu.mk x0.on (x0.pages.set ((IntKind.wrap .i64 (((BitVec.ofInt 64 x1 &&& BitVec.ofInt 64 (1 : Int)).toNat : Int))).toNat * 8 + (IntKind.wrap .i64 (((IntKind.wrap .i64 (((BitVec.ofInt 64 x2 &&& BitVec.ofInt 64 (65535 : Int)).toNat : Int)))).tdiv (8192 : Int))).toNat * 1) (Page.mk y33.base y33.length y33.access x3)) x0.status x0.addr, (0 : Int)))))))))))
                .fail)
              .fail)
            .fail)
          .fail)))
noncomputable def mmu_Translate (x0 : Mmu) (x1 : Int) (x2 : Int) (x3 : Bool) : Option (Int × Mmu × Int) := (Tmmu_Translate x0 x1 x2 x3).run
noncomputable def Ammu_Translate : Arg U (Mmu × Int × Int × Bool × Unit) := aA cMmu (aO (cInt .i64) (aO (cInt .i64) (aO cBool (aNil))))
noncomputable def Rmmu_Translate (r : (Int × Mmu × Int)) : List (V U) × List (Blk U) := ([vO (cInt .i64) r.1, vA cMmu r.2.1, vO (cInt .i64) r.2.2], [])
noncomputable def Smmu_Translate : List (V U) → List (Blk U) → Option (FnOut U) := mkSpec Ammu_Translate bNil (fun x _ => mmu_Translate x.1 x.2.1 x.2.2.1 x.2.2.2.1) Rmmu_Translate
noncomputable def Emmu_Translate : Env U := { P := Try.prog, cd := cd, fns := fns10, lps := noL, frz := fun _r => false, nt := 83, n0 := 0 }
theorem runmmu_Translate (x : Mmu × Int × Int × Bool × Unit) (g : Unit) : execF Emmu_Translate Try.f12 (Ammu_Translate.enc x) (bNil.enc g) = (Tmmu_Translate x.1 x.2.1 x.2.2.1 x.2.2.2.1).map Rmmu_Translate := by kernel_rfl
theorem okmmu_Translate : FnOk Try.prog cd 12 Smmu_Translate := mk_ok (E := Emmu_Translate) cd_ok fns10_ok Try.func12 (by kernel_rfl) (noLoops_body (by kernel_rfl)) (aA_ok cMmu_ok (aO_ok (cInt_ok .i64) (aO_ok (cInt_ok .i64) (aO_ok cBool_ok (aNil_ok))))) bNil_ok (T := fun x _ => Tmmu_Translate x.1 x.2.1 x.2.2.1 x.2.2.2.1) (fun _ _ => rfl) runmmu_Translate
noncomputable def fns12 := addF 12 true Smmu_Translate fns10
theorem fns12_ok : ∀ f q t, fns12 f = some (q, t) → FnOk Try.prog cd f t := addF_ok okmmu_Translate fns10_ok
/-- emulator/mmu.from -/
noncomputable def Tmmu_from (x0 : Int) (x1 : Int) : Tree Bool :=
  .ite (decide ((0 : Int) ≤ x0))
    (.leaf (decide (x0 ≤ x1)))
    (.leaf (false))
noncomputable def mmu_from (x0 : Int) (x1 : Int) : Option Bool := (Tmmu_from x0 x1).run
noncomputable def Ammu_from : Arg U (Int × Int × Unit) := aO (cInt .i64) (aO (cInt .i64) (aNil))
noncomputable def Rmmu_from (r : Bool) : List (V U) × List (Blk U) := ([vO cBool r], [])
noncomputable def Smmu_from : List (V U) → List (Blk U) → Option (FnOut U) := mkSpec Ammu_from bNil (fun x _ => mmu_from x.1 x.2.1) Rmmu_from
noncomputable def Emmu_from : Env U := { P := Try.prog, cd := cd, fns := fns12, lps := noL, frz := fun _r => false, nt := 12, n0 := 0 }
theorem runmmu_from (x : Int × Int × Unit) (g : Unit) : execF Emmu_from Try.f24 (Ammu_from.enc x) (bNil.enc g) = (Tmmu_from x.1 x.2.1).map Rmmu_from := by kernel_rfl
theorem okmmu_from : FnOk Try.prog cd 24 Smmu_from := mk_ok (E := Emmu_from) cd_ok fns12_ok Try.func24 (by kernel_rfl) (noLoops_body (by kernel_rfl)) (aO_ok (cInt_ok .i64) (aO_ok (cInt_ok .i64) (aNil_ok))) bNil_ok (T := fun x _ => Tmmu_from x.1 x.2.1) (fun _ _ => rfl) runmmu_from
noncomputable def fns24 := addF 24 true Smmu_from fns12
theorem fns24_ok : ∀ f q t, fns24 f = some (q, t) → FnOk Try.prog cd f t := addF_ok okmmu_from fns12_ok
/-- emulator/mmu.Map -/
structure Smmu_Map_0 where
  t1 : Int
  t2 : Int
  t3 : Int
  t4 : Int
  t42 : Int
  b0 : Mmu
  b1 : Mmu
  b2_0 : (List Page)
noncomputable def Wmmu_Map_0 (s : Smmu_Map_0) : Tree (Smmu_Map_0 ⊕ (Int × Mmu × Mmu × (List Page))) :=
  .ite (decide (s.t42 < (8 : Int)))
    (.ite (decide ((0 : Int) < (if (128 : Int) < s.t3 then (128 : Int) else s.t3)))
      (.ite (decide (0 ≤ s.t42))
        (.ite (decide (s.t42 < (8 : Int)))
          (.opt Page (s.b2_0[(s.t42).toNat * 1]?) fun y39 =>
            .leaf (.inl (Smmu_Map_0.mk s.t1 (IntKind.wrap .i64 (s.t2 + (if (128 : Int) < s.t3 then (128 : Int) else s.t3))) (IntKind.wrap .i64 (s.t3 - (if (128 : Int) < s.t3 then (128 : Int) else s.t3))) s.t4 (IntKind.wrap .i64 (s.t42 + (1 : Int))) s.b0 s.b1 (s.b2_0.set ((s.t42).toNat * 1) (Page.mk s.t2 (if (128 : Int) < s.t3 then (128 : Int) else s.t3) s.t4 false)))))
          .fail)
        .fail)
      (.leaf (.inl (Smmu_Map_0.mk s.t1 s.t2 s.t3 s.t4 (IntKind.wrap .i64 (s.t42 + (1 : Int))) s.b0 s.b1 s.b2_0))))
    (.leaf (.inr (s.t1, s.b0, s.b1, s.b2_0)))
noncomputable def Lmmu_Map_0 (q : Option Nat) (s : Smmu_Map_0) : Option (Int × Mmu × Mmu × (List Page)) := limQ q (fun s => (Wmmu_Map_0 s).run) s
theorem leLmmu_Map_0 (k : Nat) (s : Smmu_Map_0) : Le (Lmmu_Map_0 (some k) s) (Lmmu_Map_0 none s) := limQ_le (fun _ => Le.rfl) s
noncomputable def Tmmu_Map (q : Option Nat) (x0 : Mmu) (x1 : Int) (x2 : Int) (x3 : Int) (x4 : Int) : Tree (Mmu × Int) :=
  .opt Bool (mmu_from x1 (1 : Int)) fun r36 =>
    .ite (!r36)
      (.leaf ((Mmu.mk false (List.replicate 16 (Page.mk 0 0 0 false)) 0 0, (1 : Int))))
      (.ite (!decide (x4 = (1 : Int)))
        (.ite (!decide (x4 = (2 : Int)))
          (.leaf ((Mmu.mk false (List.replicate 16 (Page.mk 0 0 0 false)) 0 0, (1 : Int))))
          (.opt Bool (mmu_from x3 (1024 : Int)) fun r37 =>
            .ite (!r37)
              (.leaf ((Mmu.mk false (List.replicate 16 (Page.mk 0 0 0 false)) 0 0, (1 : Int))))
              (.ite (decide (x2 < (0 : Int)))
                (.leaf ((Mmu.mk false (List.replicate 16 (Page.mk 0 0 0 false)) 0 0, (1 : Int))))
                (.ite (decide ((IntKind.wrap .i64 ((4096 : Int) - x3)) < x2))
                  (.leaf ((Mmu.mk false (List.replicate 16 (Page.mk 0 0 0 false)) 0 0, (1 : Int))))
                  (.opt (Int × Mmu × Mmu × (List Page)) (Lmmu_Map_0 q (Smmu_Map_0.mk x1 x2 x3 x4 (0 : Int) x0 (Mmu.mk false (List.replicate 16 (Page.mk 0 0 0 false)) 0 0) (List.replicate 8 (Page.mk 0 0 0 false)))) fun l40 =>
                    .ite (decide (0 ≤ l40.1))
                      (.ite (decide (l40.1 < (2 : Int)))
                        (.ite (decide ((l40.1).toNat * 8 + 8 ≤ l40.2.1.pages.length))
                          (.leaf ((Mmu.mk l40.2.1.on (l40.2.1.pages.take ((l40.1).toNat * 8) ++ l40.2.2.2 ++ l40.2.1.pages.drop ((l40.1).toNat * 8 + 8)) l40.2.1.status l40.2.1.addr, (0 : Int))))
                          .fail)
                        .fail)
                      .fail)))))
        (.opt Bool (mmu_from x3 (1024 : Int)) fun r38 =>
          .ite (!r38)
            (.leaf ((Mmu.mk false (List.replicate 16 (Page.mk 0 0 0 false)) 0 0, (1 : Int))))
            (.ite (decide (x2 < (0 : Int)))
              (.leaf ((Mmu.mk false (List.replicate 16 (Page.mk 0 0 0 false)) 0 0, (1 : Int))))
              (.ite (decide ((IntKind.wrap .i64 ((4096 : Int) - x3)) < x2))
                (.leaf ((Mmu.mk false (List.replicate 16 (Page.mk 0 0 0 false)) 0 0, (1 : Int))))
                (.opt (Int × Mmu × Mmu × (List Page)) (Lmmu_Map_0 q (Smmu_Map_0.mk x1 x2 x3 x4 (0 : Int) x0 (Mmu.mk false (List.replicate 16 (Page.mk 0 0 0 false)) 0 0) (List.replicate 8 (Page.mk 0 0 0 false)))) fun l41 =>
                  .ite (decide (0 ≤ l41.1))
                    (.ite (decide (l41.1 < (2 : Int)))
                      (.ite (decide ((l41.1).toNat * 8 + 8 ≤ l41.2.1.pages.length))
                        (.leaf ((Mmu.mk l41.2.1.on (l41.2.1.pages.take ((l41.1).toNat * 8) ++ l41.2.2.2 ++ l41.2.1.pages.drop ((l41.1).toNat * 8 + 8)) l41.2.1.status l41.2.1.addr, (0 : Int))))
                        .fail)
                      .fail)
                    .fail)))))
noncomputable def mmu_Map (q : Option Nat) (x0 : Mmu) (x1 : Int) (x2 : Int) (x3 : Int) (x4 : Int) : Option (Mmu × Int) := (Tmmu_Map q x0 x1 x2 x3 x4).run
theorem lemmu_Map (k : Nat) (x0 : Mmu) (x1 : Int) (x2 : Int) (x3 : Int) (x4 : Int) : Le (mmu_Map (some k) x0 x1 x2 x3 x4) (mmu_Map none x0 x1 x2 x3 x4) := (TLe.opt Le.rfl fun _ => (TLe.ite TLe.rfl (TLe.ite (TLe.ite TLe.rfl (TLe.opt Le.rfl fun _ => (TLe.ite TLe.rfl (TLe.ite TLe.rfl (TLe.ite TLe.rfl (TLe.opt (leLmmu_Map_0 k _) fun _ => TLe.rfl)))))) (TLe.opt Le.rfl fun _ => (TLe.ite TLe.rfl (TLe.ite TLe.rfl (TLe.ite TLe.rfl (TLe.opt (leLmmu_Map_0 k _) fun _ => TLe.rfl))))))))
noncomputable def Ammu_Map : Arg U (Mmu × Int × Int × Int × Int × Unit) := aA cMmu (aO (cInt .i64) (aO (cInt .i64) (aO (cInt .i64) (aO (cInt .i64) (aNil)))))
noncomputable def Rmmu_Map (r : (Mmu × Int)) : List (V U) × List (Blk U) := ([vA cMmu r.1, vO (cInt .i64) r.2], [])
noncomputable def Smmu_Map : List (V U) → List (Blk U) → Option (FnOut U) := mkSpec Ammu_Map bNil (fun x _ => mmu_Map none x.1 x.2.1 x.2.2.1 x.2.2.2.1 x.2.2.2.2.1) Rmmu_Map
noncomputable def Pmmu_Map_0 (x : (Int × Unit) × (Int × Unit) × (Int × Unit) × (Int × Unit) × (Unit) × (Unit) × (Unit) × (Int × Unit) × Unit) (g : (Mmu × Unit) × (Mmu × Unit) × ((List Page) × Unit) × Unit) : Smmu_Map_0 := Smmu_Map_0.mk x.1.1 x.2.1.1 x.2.2.1.1 x.2.2.2.1.1 x.2.2.2.2.2.2.2.1.1 g.1.1 g.2.1.1 g.2.2.1.1
noncomputable def tAmmu_Map_0 : Tms U ((Int × Unit) × (Int × Unit) × (Int × Unit) × (Int × Unit) × (Unit) × (Unit) × (Unit) × (Int × Unit) × Unit) := tO 1 (cPair (cInt .i64) (cUnit)) (tO 2 (cPair (cInt .i64) (cUnit)) (tO 3 (cPair (cInt .i64) (cUnit)) (tO 4 (cPair (cInt .i64) (cUnit)) (tO 5 (cK (.ptr 0 0) (cUnit)) (tO 10 (cK (.ptr 1 0) (cUnit)) (tO 12 (cK (.ptr 2 0) (cUnit)) (tO 42 (cPair (cInt .i64) (cUnit)) (tNil))))))))
noncomputable def tBmmu_Map_0 : Bls U ((Mmu × Unit) × (Mmu × Unit) × ((List Page) × Unit) × Unit) := bC (cPair cMmu (cUnit)) (bC (cPair cMmu (cUnit)) (bC (cPair (cArr 23 8) (cUnit)) (bNil)))
noncomputable def eSmmu_Map_0 (s : Smmu_Map_0) : St U := { tm := [(1, .v (vO (cPair (cInt .i64) (cUnit)) (s.t1, ()))), (2, .v (vO (cPair (cInt .i64) (cUnit)) (s.t2, ()))), (3, .v (vO (cPair (cInt .i64) (cUnit)) (s.t3, ()))), (4, .v (vO (cPair (cInt .i64) (cUnit)) (s.t4, ()))), (5, .v (vO (cK (.ptr 0 0) (cUnit)) (()))), (10, .v (vO (cK (.ptr 1 0) (cUnit)) (()))), (12, .v (vO (cK (.ptr 2 0) (cUnit)) (()))), (42, .v (vO (cPair (cInt .i64) (cUnit)) (s.t42, ())))], hp := [.cells ((cPair cMmu (cUnit) : Cdc U (Mmu × Unit)).enc (s.b0, ())), .cells ((cPair cMmu (cUnit) : Cdc U (Mmu × Unit)).enc (s.b1, ())), .cells ((cPair (cArr 23 8) (cUnit) : Cdc U ((List Page) × Unit)).enc (s.b2_0, ()))] }
noncomputable def xSmmu_Map_0 (r : (Int × Mmu × Mmu × (List Page))) : Ex × St U := (.exit 0, { tm := [(1, .v (vO (cPair (cInt .i64) (cUnit)) (r.1, ()))), (5, .v (vO (cK (.ptr 0 0) (cUnit)) (()))), (10, .v (vO (cK (.ptr 1 0) (cUnit)) (()))), (12, .v (vO (cK (.ptr 2 0) (cUnit)) (())))], hp := [.cells ((cPair cMmu (cUnit) : Cdc U (Mmu × Unit)).enc (r.2.1, ())), .cells ((cPair cMmu (cUnit) : Cdc U (Mmu × Unit)).enc (r.2.2.1, ())), .cells ((cPair (cArr 23 8) (cUnit) : Cdc U ((List Page) × Unit)).enc (r.2.2.2, ()))] })
noncomputable def xTmmu_Map_0 (r : (Int × Mmu × Mmu × (List Page))) : Tree (Ex × St U) := .leaf (xSmmu_Map_0 r)
noncomputable def hmmu_Map_0 : Hd := { keep := [1, 2, 3, 4, 5, 10, 12, 42], xkeep := [1, 5, 10, 11, 12], own := false }
noncomputable def Emmu_Map : Env U := { P := Try.prog, cd := cd, fns := fns24, lps := (addL 0 hmmu_Map_0 (mkLoop tAmmu_Map_0 tBmmu_Map_0 Pmmu_Map_0 (Lmmu_Map_0 none) xTmmu_Map_0) noL), frz := fun _r => false, nt := 67, n0 := 0 }
noncomputable def Bmmu_Map_0 : Code := (loopAt (Try.f14.body.getD .skip) 0 0).getD .skip
theorem roundmmu_Map_0 (s : Smmu_Map_0) : round Emmu_Map hmmu_Map_0 Bmmu_Map_0 0 (eSmmu_Map_0 s) = (Wmmu_Map_0 s).map (sumE eSmmu_Map_0 xSmmu_Map_0) := by kernel_rfl
theorem lpmmu_Map_0 : LpOk Emmu_Map Bmmu_Map_0 0 := mkLoop_ok (A := tAmmu_Map_0) (B := tBmmu_Map_0) (f := Pmmu_Map_0) (L := Lmmu_Map_0 none) (tO_ok (cPair_ok (cInt_ok .i64) cUnit_ok) (tO_ok (cPair_ok (cInt_ok .i64) cUnit_ok) (tO_ok (cPair_ok (cInt_ok .i64) cUnit_ok) (tO_ok (cPair_ok (cInt_ok .i64) cUnit_ok) (tO_ok (cK_ok cUnit_ok) (tO_ok (cK_ok cUnit_ok) (tO_ok (cK_ok cUnit_ok) (tO_ok (cPair_ok (cInt_ok .i64) cUnit_ok) tNil_ok)))))))) (bC_ok (cPair_ok cMmu_ok cUnit_ok) (bC_ok (cPair_ok cMmu_ok cUnit_ok) (bC_ok (cPair_ok (cArr_ok 23 8) cUnit_ok) bNil_ok))) (enc := eSmmu_Map_0) (out := xTmmu_Map_0) (outS := xSmmu_Map_0) (step := Wmmu_Map_0) (fun _ => rfl) (fun _ _ => by kernel_rfl) (by kernel_rfl) (fun _ => rfl) roundmmu_Map_0
theorem runmmu_Map (x : Mmu × Int × Int × Int × Int × Unit) (g : Unit) : execF Emmu_Map Try.f14 (Ammu_Map.enc x) (bNil.enc g) = (Tmmu_Map none x.1 x.2.1 x.2.2.1 x.2.2.2.1 x.2.2.2.2.1).map Rmmu_Map := by kernel_rfl
theorem okmmu_Map : FnOk Try.prog cd 14 Smmu_Map := mk_ok (E := Emmu_Map) cd_ok fns24_ok Try.func14 (by kernel_rfl) (loops_of (addL_ok lpmmu_Map_0 noL_ok)) (aA_ok cMmu_ok (aO_ok (cInt_ok .i64) (aO_ok (cInt_ok .i64) (aO_ok (cInt_ok .i64) (aO_ok (cInt_ok .i64) (aNil_ok)))))) bNil_ok (T := fun x _ => Tmmu_Map none x.1 x.2.1 x.2.2.1 x.2.2.2.1 x.2.2.2.2.1) (fun _ _ => rfl) runmmu_Map
noncomputable def fns14 := addF 14 true Smmu_Map fns24
theorem fns14_ok : ∀ f q t, fns14 f = some (q, t) → FnOk Try.prog cd f t := addF_ok okmmu_Map fns24_ok
/-- emulator/mmu.bit -/
noncomputable def Tmmu_bit (x0 : Bool) (x1 : Int) : Tree Int :=
  .ite (x0)
    (.leaf (x1))
    (.leaf ((0 : Int)))
noncomputable def mmu_bit (x0 : Bool) (x1 : Int) : Option Int := (Tmmu_bit x0 x1).run
noncomputable def Ammu_bit : Arg U (Bool × Int × Unit) := aO cBool (aO (cInt .i64) (aNil))
noncomputable def Rmmu_bit (r : Int) : List (V U) × List (Blk U) := ([vO (cInt .i64) r], [])
noncomputable def Smmu_bit : List (V U) → List (Blk U) → Option (FnOut U) := mkSpec Ammu_bit bNil (fun x _ => mmu_bit x.1 x.2.1) Rmmu_bit
noncomputable def Emmu_bit : Env U := { P := Try.prog, cd := cd, fns := fns14, lps := noL, frz := fun _r => false, nt := 7, n0 := 0 }
theorem runmmu_bit (x : Bool × Int × Unit) (g : Unit) : execF Emmu_bit Try.f25 (Ammu_bit.enc x) (bNil.enc g) = (Tmmu_bit x.1 x.2.1).map Rmmu_bit := by kernel_rfl
theorem okmmu_bit : FnOk Try.prog cd 25 Smmu_bit := mk_ok (E := Emmu_bit) cd_ok fns14_ok Try.func25 (by kernel_rfl) (noLoops_body (by kernel_rfl)) (aO_ok cBool_ok (aO_ok (cInt_ok .i64) (aNil_ok))) bNil_ok (T := fun x _ => Tmmu_bit x.1 x.2.1) (fun _ _ => rfl) runmmu_bit
noncomputable def fns25 := addF 25 true Smmu_bit fns14
theorem fns25_ok : ∀ f q t, fns25 f = some (q, t) → FnOk Try.prog cd f t := addF_ok okmmu_bit fns14_ok
/-- emulator/mmu.register -/
noncomputable def Tmmu_register (x0 : Int) : Tree (Int × Int × Bool × Bool) :=
  .opt Bool (mmu_from (IntKind.wrap .i64 (x0 - (16 : Int))) (63 : Int)) fun r42 =>
    .ite (!r42)
      (.leaf (((0 : Int), (0 : Int), false, false)))
      (.ite (decide ((2 : Int) = 0))
        .fail
        (.ite (!decide ((((IntKind.wrap .i64 (x0 - (16 : Int)))).tmod (2 : Int)) = (0 : Int)))
          (.leaf (((0 : Int), (0 : Int), false, false)))
          (.ite (decide ((32 : Int) = 0))
            .fail
            (.ite (decide ((4 : Int) = 0))
              .fail
              (.ite (decide ((8 : Int) = 0))
                .fail
                (.ite (decide ((4 : Int) = 0))
                  .fail
                  (.leaf ((IntKind.wrap .i64 (((IntKind.wrap .i64 (x0 - (16 : Int)))).tdiv (32 : Int)), ((IntKind.wrap .i64 (((IntKind.wrap .i64 (x0 - (16 : Int)))).tdiv (4 : Int)))).tmod (8 : Int), decide ((((IntKind.wrap .i64 (x0 - (16 : Int)))).tmod (4 : Int)) = (2 : Int)), true)))))))))
noncomputable def mmu_register (x0 : Int) : Option (Int × Int × Bool × Bool) := (Tmmu_register x0).run
noncomputable def Ammu_register : Arg U (Int × Unit) := aO (cInt .i64) (aNil)
noncomputable def Rmmu_register (r : (Int × Int × Bool × Bool)) : List (V U) × List (Blk U) := ([vO (cInt .i64) r.1, vO (cInt .i64) r.2.1, vO cBool r.2.2.1, vO cBool r.2.2.2], [])
noncomputable def Smmu_register : List (V U) → List (Blk U) → Option (FnOut U) := mkSpec Ammu_register bNil (fun x _ => mmu_register x.1) Rmmu_register
noncomputable def Emmu_register : Env U := { P := Try.prog, cd := cd, fns := fns25, lps := noL, frz := fun _r => false, nt := 25, n0 := 0 }
theorem runmmu_register (x : Int × Unit) (g : Unit) : execF Emmu_register Try.f26 (Ammu_register.enc x) (bNil.enc g) = (Tmmu_register x.1).map Rmmu_register := by kernel_rfl
theorem okmmu_register : FnOk Try.prog cd 26 Smmu_register := mk_ok (E := Emmu_register) cd_ok fns25_ok Try.func26 (by kernel_rfl) (noLoops_body (by kernel_rfl)) (aO_ok (cInt_ok .i64) (aNil_ok)) bNil_ok (T := fun x _ => Tmmu_register x.1) (fun _ _ => rfl) runmmu_register
noncomputable def fns26 := addF 26 true Smmu_register fns25
theorem fns26_ok : ∀ f q t, fns26 f = some (q, t) → FnOk Try.prog cd f t := addF_ok okmmu_register fns25_ok
/-- emulator/mmu.Read -/
noncomputable def Tmmu_Read (x0 : Mmu) (x1 : Int) : Tree (Int × Bool) :=
  .ite (decide (x1 = (0 : Int)))
    (.opt Int (mmu_bit x0.on (1 : Int)) fun r43 =>
      .ite (decide (0 ≤ (1 : Int)))
        (.leaf ((IntKind.wrap .i64 (((BitVec.ofInt 64 r43 ||| BitVec.ofInt 64 (IntKind.wrap .i64 (x0.status * 2 ^ (min ((1 : Int)).toNat 64)))).toNat : Int)), true)))
        .fail)
    (.ite (decide (x1 = (2 : Int)))
      (.leaf ((x0.addr, true)))
      (.opt (Int × Int × Bool × Bool) (mmu_register x1) fun r44 =>
        .ite (!r44.2.2.2)
          (.leaf (((0 : Int), false)))
          (.ite (decide (0 ≤ r44.1))
            (.ite (decide (r44.1 < (2 : Int)))
              (.ite (decide (0 ≤ r44.2.1))
                (.ite (decide (r44.2.1 < (8 : Int)))
                  (.opt Page (x0.pages[(r44.1).toNat * 8 + (r44.2.1).toNat * 1]?) fun y45 =>
                    .ite (r44.2.2.1)
                      (.ite (decide (0 ≤ (8 : Int)))
                        (.opt Int (mmu_bit y45.written (32768 : Int)) fun r46 =>
                          .leaf ((IntKind.wrap .i64 (((BitVec.ofInt 64 (IntKind.wrap .i64 (((BitVec.ofInt 64 y45.length ||| BitVec.ofInt 64 (IntKind.wrap .i64 (y45.access * 2 ^ (min ((8 : Int)).toNat 64)))).toNat : Int))) ||| BitVec.ofInt 64 r46).toNat : Int)), true)))
                        .fail)
                      (.leaf ((y45.base, true))))
                  .fail)
                .fail)
              .fail)
            .fail)))
noncomputable def mmu_Read (x0 : Mmu) (x1 : Int) : Option (Int × Bool) := (Tmmu_Read x0 x1).run
noncomputable def Ammu_Read : Arg U (Mmu × Int × Unit) := aA cMmu (aO (cInt .i64) (aNil))
noncomputable def Rmmu_Read (r : (Int × Bool)) : List (V U) × List (Blk U) := ([vO (cInt .i64) r.1, vO cBool r.2], [])
noncomputable def Smmu_Read : List (V U) → List (Blk U) → Option (FnOut U) := mkSpec Ammu_Read bNil (fun x _ => mmu_Read x.1 x.2.1) Rmmu_Read
noncomputable def Emmu_Read : Env U := { P := Try.prog, cd := cd, fns := fns26, lps := noL, frz := fun _r => false, nt := 53, n0 := 0 }
theorem runmmu_Read (x : Mmu × Int × Unit) (g : Unit) : execF Emmu_Read Try.f18 (Ammu_Read.enc x) (bNil.enc g) = (Tmmu_Read x.1 x.2.1).map Rmmu_Read := by kernel_rfl
theorem okmmu_Read : FnOk Try.prog cd 18 Smmu_Read := mk_ok (E := Emmu_Read) cd_ok fns26_ok Try.func18 (by kernel_rfl) (noLoops_body (by kernel_rfl)) (aA_ok cMmu_ok (aO_ok (cInt_ok .i64) (aNil_ok))) bNil_ok (T := fun x _ => Tmmu_Read x.1 x.2.1) (fun _ _ => rfl) runmmu_Read
noncomputable def fns18 := addF 18 true Smmu_Read fns26
theorem fns18_ok : ∀ f q t, fns18 f = some (q, t) → FnOk Try.prog cd f t := addF_ok okmmu_Read fns26_ok
/-- emulator/mmu.Write -/
noncomputable def Tmmu_Write (x0 : Mmu) (x1 : Int) (x2 : Int) : Tree (Mmu × Bool) :=
  .ite (decide (x1 = (0 : Int)))
    (.ite (decide (0 ≤ (1 : Int)))
      (.leaf ((Mmu.mk (decide ((IntKind.wrap .i64 (((BitVec.ofInt 64 x2 &&& BitVec.ofInt 64 (1 : Int)).toNat : Int))) = (1 : Int))) x0.pages (IntKind.wrap .i64 (((BitVec.ofInt 64 ((x2).fdiv (2 ^ (min ((1 : Int)).toNat 64))) &&& BitVec.ofInt 64 (3 : Int)).toNat : Int))) x0.addr, true)))
      .fail)
    (.ite (decide (x1 = (2 : Int)))
      (.leaf ((x0, true)))
      (.opt (Int × Int × Bool × Bool) (mmu_register x1) fun r47 =>
        .ite (!r47.2.2.2)
          (.leaf ((x0, false)))
          (.ite (decide (0 ≤ r47.1))
            (.ite (decide (r47.1 < (2 : Int)))
              (.ite (decide (0 ≤ r47.2.1))
                (.ite (decide (r47.2.1 < (8 : Int)))
                  (.ite (r47.2.2.1)
                    (.ite (decide (0 ≤ (8 : Int)))
                      (.opt Page (x0.pages[(r47.1).toNat * 8 + (r47.2.1).toNat * 1]?) fun y48 =>
                        .opt Page ((x0.pages.set ((r47.1).toNat * 8 + (r47.2.1).toNat * 1) (Page.mk y48.base (if (128 : Int) < IntKind.wrap .i64 (((BitVec.ofInt 64 x2 &&& BitVec.ofInt 64 (255 : Int)).toNat : Int)) then (128 : Int) else IntKind.wrap .i64 (((BitVec.ofInt 64 x2 &&& BitVec.ofInt 64 (255 : Int)).toNat : Int))) y48.access y48.written))[(r47.1).toNat * 8 + (r47.2.1).toNat * 1]?) fun y49 =>
                          .opt Page (((x0.pages.set ((r47.1).toNat * 8 + (r47.2.1).toNat * 1) (Page.mk y48.base (if (128 : Int) < IntKind.wrap .i64 (((BitVec.ofInt 64 x2 &&& BitVec.ofInt 64 (255 : Int)).toNat : Int)) then (128 : Int) else IntKind.wrap .i64 (((BitVec.ofInt 64 x2 &&& BitVec.ofInt 64 (255 : Int)).toNat : Int))) y48.access y48.written)).set ((r47.1).toNat * 8 + (r47.2.1).toNat * 1) (Page.mk y49.base y49.length (if (2 : Int) < IntKind.wrap .i64 (((BitVec.ofInt 64 ((x2).fdiv (2 ^ (min ((8 : Int)).toNat 64))) &&& BitVec.ofInt 64 (3 : Int)).toNat : Int)) then (2 : Int) else IntKind.wrap .i64 (((BitVec.ofInt 64 ((x2).fdiv (2 ^ (min ((8 : Int)).toNat 64))) &&& BitVec.ofInt 64 (3 : Int)).toNat : Int))) y49.written))[(r47.1).toNat * 8 + (r47.2.1).toNat * 1]?) fun y50 =>
                            .leaf ((Mmu.mk x0.on (((x0.pages.set ((r47.1).toNat * 8 + (r47.2.1).toNat * 1) (Page.mk y48.base (if (128 : Int) < IntKind.wrap .i64 (((BitVec.ofInt 64 x2 &&& BitVec.ofInt 64 (255 : Int)).toNat : Int)) then (128 : Int) else IntKind.wrap .i64 (((BitVec.ofInt 64 x2 &&& BitVec.ofInt 64 (255 : Int)).toNat : Int))) y48.access y48.written)).set ((r47.1).toNat * 8 + (r47.2.1).toNat * 1) (Page.mk y49.base y49.length (if (2 : Int) < IntKind.wrap .i64 (((BitVec.ofInt 64 ((x2).fdiv (2 ^ (min ((8 : Int)).toNat 64))) &&& BitVec.ofInt 64 (3 : Int)).toNat : Int)) then (2 : Int) else IntKind.wrap .i64 (((BitVec.ofInt 64 ((x2).fdiv (2 ^ (min ((8 : Int)).toNat 64))) &&& BitVec.ofInt 64 (3 : Int)).toNat : Int))) y49.written)).set ((r47.1).toNat * 8 + (r47.2.1).toNat * 1) (Page.mk y50.base y50.length y50.access false)) x0.status x0.addr, true)))
                      .fail)
                    (.opt Page (x0.pages[(r47.1).toNat * 8 + (r47.2.1).toNat * 1]?) fun y51 =>
                      .leaf ((Mmu.mk x0.on (x0.pages.set ((r47.1).toNat * 8 + (r47.2.1).toNat * 1) (Page.mk (IntKind.wrap .i64 (((BitVec.ofInt 64 x2 &&& BitVec.ofInt 64 (4095 : Int)).toNat : Int))) y51.length y51.access y51.written)) x0.status x0.addr, true))))
                  .fail)
                .fail)
              .fail)
            .fail)))
noncomputable def mmu_Write (x0 : Mmu) (x1 : Int) (x2 : Int) : Option (Mmu × Bool) := (Tmmu_Write x0 x1 x2).run
noncomputable def Ammu_Write : Arg U (Mmu × Int × Int × Unit) := aA cMmu (aO (cInt .i64) (aO (cInt .i64) (aNil)))
noncomputable def Rmmu_Write (r : (Mmu × Bool)) : List (V U) × List (Blk U) := ([vA cMmu r.1, vO cBool r.2], [])
noncomputable def Smmu_Write : List (V U) → List (Blk U) → Option (FnOut U) := mkSpec Ammu_Write bNil (fun x _ => mmu_Write x.1 x.2.1 x.2.2.1) Rmmu_Write
noncomputable def Emmu_Write : Env U := { P := Try.prog, cd := cd, fns := fns18, lps := noL, frz := fun _r => false, nt := 66, n0 := 0 }
theorem runmmu_Write (x : Mmu × Int × Int × Unit) (g : Unit) : execF Emmu_Write Try.f20 (Ammu_Write.enc x) (bNil.enc g) = (Tmmu_Write x.1 x.2.1 x.2.2.1).map Rmmu_Write := by kernel_rfl
theorem okmmu_Write : FnOk Try.prog cd 20 Smmu_Write := mk_ok (E := Emmu_Write) cd_ok fns18_ok Try.func20 (by kernel_rfl) (noLoops_body (by kernel_rfl)) (aA_ok cMmu_ok (aO_ok (cInt_ok .i64) (aO_ok (cInt_ok .i64) (aNil_ok)))) bNil_ok (T := fun x _ => Tmmu_Write x.1 x.2.1 x.2.2.1) (fun _ _ => rfl) runmmu_Write
noncomputable def fns20 := addF 20 true Smmu_Write fns18
theorem fns20_ok : ∀ f q t, fns20 f = some (q, t) → FnOk Try.prog cd f t := addF_ok okmmu_Write fns18_ok
/-- emulator/emulatorlaw09.alive -/
noncomputable def Tlaw09_alive (q : Option Nat)  : Tree Bool :=
  .opt (Int × Mmu × Int) (mmu_Translate (Mmu.mk false (List.replicate 16 (Page.mk 0 0 0 false)) 0 0) (0 : Int) (57344 : Int) false) fun r52 =>
    .opt (Mmu × Int) (mmu_Map q (Mmu.mk false (List.replicate 16 (Page.mk 0 0 0 false)) 0 0) (1 : Int) (10 : Int) (130 : Int) (2 : Int)) fun r53 =>
      .opt (Mmu × Bool) (mmu_Write r53.1 (0 : Int) (1 : Int)) fun r54 =>
        .opt (Int × Mmu × Int) (mmu_Translate r54.1 (1 : Int) (8319 : Int) false) fun r55 =>
          .opt (Int × Mmu × Int) (mmu_Translate r54.1 (1 : Int) (8320 : Int) false) fun r56 =>
            .opt (Int × Mmu × Int) (mmu_Translate r54.1 (1 : Int) (5 : Int) true) fun r57 =>
              .opt (Int × Bool) (mmu_Read r57.2.1 (50 : Int)) fun r58 =>
                .opt (Int × Bool) (mmu_Read r56.2.1 (0 : Int)) fun r59 =>
                  .ite (!decide (r52.1 = (253952 : Int)))
                    (.leaf (false))
                    (.ite (!decide (r53.2 = (0 : Int)))
                      (.leaf (false))
                      (.ite (!r54.2)
                        (.leaf (false))
                        (.ite (!decide (r55.1 = (8959 : Int)))
                          (.leaf (false))
                          (.ite (!((r55.2.1.on == r54.1.on) && ((decide (r55.2.1.pages = r54.1.pages)) && ((decide (r55.2.1.status = r54.1.status)) && (decide (r55.2.1.addr = r54.1.addr))))))
                            (.leaf (false))
                            (.ite (!decide (r55.2.2 = (0 : Int)))
                              (.leaf (false))
                              (.ite (!decide (r56.2.2 = (8 : Int)))
                                (.leaf (false))
                                (.ite (!decide (r57.2.2 = (0 : Int)))
                                  (.leaf (false))
                                  (.ite (decide (r58.1 = (33408 : Int)))
                                    (.ite (r58.2)
                                      (.ite (decide (r59.1 = (5 : Int)))
                                        (.leaf (decide (r56.2.1.addr = (8320 : Int))))
                                        (.leaf (false)))
                                      (.leaf (false)))
                                    (.leaf (false))))))))))
noncomputable def law09_alive (q : Option Nat)  : Option Bool := (Tlaw09_alive q ).run
theorem lelaw09_alive (k : Nat)  : Le (law09_alive (some k) ) (law09_alive none ) := (TLe.opt Le.rfl fun _ => (TLe.opt (lemmu_Map k _ _ _ _ _) fun _ => TLe.rfl))
noncomputable def Alaw09_alive : Arg U (Unit) := aNil
noncomputable def Rlaw09_alive (r : Bool) : List (V U) × List (Blk U) := ([vO cBool r], [])
noncomputable def Slaw09_alive : List (V U) → List (Blk U) → Option (FnOut U) := mkSpec Alaw09_alive bNil (fun x _ => law09_alive none ) Rlaw09_alive
noncomputable def Elaw09_alive : Env U := { P := Try.prog, cd := cd, fns := fns20, lps := noL, frz := fun _r => false, nt := 109, n0 := 0 }
theorem runlaw09_alive (x : Unit) (g : Unit) : execF Elaw09_alive Try.f11 (Alaw09_alive.enc x) (bNil.enc g) = (Tlaw09_alive none ).map Rlaw09_alive := by kernel_rfl
theorem oklaw09_alive : FnOk Try.prog cd 11 Slaw09_alive := mk_ok (E := Elaw09_alive) cd_ok fns20_ok Try.func11 (by kernel_rfl) (noLoops_body (by kernel_rfl)) (aNil_ok) bNil_ok (T := fun x _ => Tlaw09_alive none ) (fun _ _ => rfl) runlaw09_alive
noncomputable def fns11 := addF 11 true Slaw09_alive fns20
theorem fns11_ok : ∀ f q t, fns11 f = some (q, t) → FnOk Try.prog cd f t := addF_ok oklaw09_alive fns20_ok
/-- emulator/emulatorref09.word -/
noncomputable def Tref09_word (x0 : Int) : Tree Int :=
  .ite (decide ((65536 : Int) = 0))
    .fail
    (.ite (decide (((x0).tmod (65536 : Int)) < (0 : Int)))
      (.leaf (IntKind.wrap .i64 (((x0).tmod (65536 : Int)) + (65536 : Int))))
      (.leaf ((x0).tmod (65536 : Int))))
noncomputable def ref09_word (x0 : Int) : Option Int := (Tref09_word x0).run
noncomputable def Aref09_word : Arg U (Int × Unit) := aO (cInt .i64) (aNil)
noncomputable def Rref09_word (r : Int) : List (V U) × List (Blk U) := ([vO (cInt .i64) r], [])
noncomputable def Sref09_word : List (V U) → List (Blk U) → Option (FnOut U) := mkSpec Aref09_word bNil (fun x _ => ref09_word x.1) Rref09_word
noncomputable def Eref09_word : Env U := { P := Try.prog, cd := cd, fns := fns11, lps := noL, frz := fun _r => false, nt := 10, n0 := 0 }
theorem runref09_word (x : Int × Unit) (g : Unit) : execF Eref09_word Try.f22 (Aref09_word.enc x) (bNil.enc g) = (Tref09_word x.1).map Rref09_word := by kernel_rfl
theorem okref09_word : FnOk Try.prog cd 22 Sref09_word := mk_ok (E := Eref09_word) cd_ok fns11_ok Try.func22 (by kernel_rfl) (noLoops_body (by kernel_rfl)) (aO_ok (cInt_ok .i64) (aNil_ok)) bNil_ok (T := fun x _ => Tref09_word x.1) (fun _ _ => rfl) runref09_word
noncomputable def fns22 := addF 22 true Sref09_word fns11
theorem fns22_ok : ∀ f q t, fns22 f = some (q, t) → FnOk Try.prog cd f t := addF_ok okref09_word fns11_ok
/-- emulator/emulatorref09.fault -/
noncomputable def Tref09_fault (x0 : Page) (x1 : Int) (x2 : Bool) : Tree Int :=
  .ite (decide (x0.access = (0 : Int)))
    (.leaf ((1 : Int)))
    (.ite (decide ((64 : Int) = 0))
      .fail
      (.ite (decide (x0.length ≤ (IntKind.wrap .i64 ((x1).tdiv (64 : Int)))))
        (.leaf ((2 : Int)))
        (.ite (x2)
          (.ite (!decide (x0.access = (2 : Int)))
            (.leaf ((3 : Int)))
            (.leaf ((0 : Int))))
          (.leaf ((0 : Int))))))
noncomputable def ref09_fault (x0 : Page) (x1 : Int) (x2 : Bool) : Option Int := (Tref09_fault x0 x1 x2).run
noncomputable def Aref09_fault : Arg U (Page × Int × Bool × Unit) := aA cPage (aO (cInt .i64) (aO cBool (aNil)))
noncomputable def Rref09_fault (r : Int) : List (V U) × List (Blk U) := ([vO (cInt .i64) r], [])
noncomputable def Sref09_fault : List (V U) → List (Blk U) → Option (FnOut U) := mkSpec Aref09_fault bNil (fun x _ => ref09_fault x.1 x.2.1 x.2.2.1) Rref09_fault
noncomputable def Eref09_fault : Env U := { P := Try.prog, cd := cd, fns := fns22, lps := noL, frz := fun _r => false, nt := 21, n0 := 0 }
theorem runref09_fault (x : Page × Int × Bool × Unit) (g : Unit) : execF Eref09_fault Try.f23 (Aref09_fault.enc x) (bNil.enc g) = (Tref09_fault x.1 x.2.1 x.2.2.1).map Rref09_fault := by kernel_rfl
theorem okref09_fault : FnOk Try.prog cd 23 Sref09_fault := mk_ok (E := Eref09_fault) cd_ok fns22_ok Try.func23 (by kernel_rfl) (noLoops_body (by kernel_rfl)) (aA_ok cPage_ok (aO_ok (cInt_ok .i64) (aO_ok cBool_ok (aNil_ok)))) bNil_ok (T := fun x _ => Tref09_fault x.1 x.2.1 x.2.2.1) (fun _ _ => rfl) runref09_fault
noncomputable def fns23 := addF 23 true Sref09_fault fns22
theorem fns23_ok : ∀ f q t, fns23 f = some (q, t) → FnOk Try.prog cd f t := addF_ok okref09_fault fns22_ok
/-- emulator/emulatorref09.Translate -/
noncomputable def Tref09_Translate (x0 : Mmu) (x1 : Int) (x2 : Int) (x3 : Bool) : Tree (Int × Mmu × Int) :=
  .opt Int (ref09_word x2) fun r60 =>
    .ite (!x0.on)
      (.ite (decide (r60 < (57344 : Int)))
        (.leaf ((r60, x0, (0 : Int))))
        (.leaf ((IntKind.wrap .i64 (r60 + (196608 : Int)), x0, (0 : Int)))))
      (.ite (decide ((8192 : Int) = 0))
        .fail
        (.ite (decide ((8192 : Int) = 0))
          .fail
          (.ite (decide (0 ≤ IntKind.wrap .i64 (((BitVec.ofInt 64 x1 &&& BitVec.ofInt 64 (1 : Int)).toNat : Int))))
            (.ite (decide (IntKind.wrap .i64 (((BitVec.ofInt 64 x1 &&& BitVec.ofInt 64 (1 : Int)).toNat : Int)) < (2 : Int)))
              (.ite (decide (0 ≤ IntKind.wrap .i64 ((r60).tdiv (8192 : Int))))
                (.ite (decide (IntKind.wrap .i64 ((r60).tdiv (8192 : Int)) < (8 : Int)))
                  (.opt Page (x0.pages[(IntKind.wrap .i64 (((BitVec.ofInt 64 x1 &&& BitVec.ofInt 64 (1 : Int)).toNat : Int))).toNat * 8 + (IntKind.wrap .i64 ((r60).tdiv (8192 : Int))).toNat * 1]?) fun y61 =>
                    .opt Int (ref09_fault y61 ((r60).tmod (8192 : Int)) x3) fun r62 =>
                      .ite (!decide (r62 = (0 : Int)))
                        (.leaf (((0 : Int), Mmu.mk x0.on x0.pages r62 r60, (8 : Int))))
                        (.ite (x3)
                          (.ite (decide (0 ≤ IntKind.wrap .i64 (((BitVec.ofInt 64 x1 &&& BitVec.ofInt 64 (1 : Int)).toNat : Int))))
                            (.ite (decide (IntKind.wrap .i64 (((BitVec.ofInt 64 x1 &&& BitVec.ofInt 64 (1 : Int)).toNat : Int)) < (2 : Int)))
                              (.ite (decide (0 ≤ IntKind.wrap .i64 ((r60).tdiv (8192 : Int))))
                                (.ite (decide (IntKind.wrap .i64 ((r60).tdiv (8192 : Int)) < (8 : Int)))
                                  (.opt Page (x0.pages[(IntKind.wrap .i64 (((BitVec.ofInt 64 x1 &&& BitVec.ofInt 64 (1 : Int)).toNat : Int))).toNat * 8 + (IntKind.wrap .i64 ((r60).tdiv (8192 : Int))).toNat * 1]?) fun y63 =>
                                    .ite (decide (0 ≤ IntKind.wrap .i64 (((BitVec.ofInt 64 x1 &&& BitVec.ofInt 64 (1 : Int)).toNat : Int))))
                                      (.ite (decide (IntKind.wrap .i64 (((BitVec.ofInt 64 x1 &&& BitVec.ofInt 64 (1 : Int)).toNat : Int)) < (2 : Int)))
                                        (.ite (decide (0 ≤ IntKind.wrap .i64 ((r60).tdiv (8192 : Int))))
                                          (.ite (decide (IntKind.wrap .i64 ((r60).tdiv (8192 : Int)) < (8 : Int)))
                                            (.opt Page ((x0.pages.set ((IntKind.wrap .i64 (((BitVec.ofInt 64 x1 &&& BitVec.ofInt 64 (1 : Int)).toNat : Int))).toNat * 8 + (IntKind.wrap .i64 ((r60).tdiv (8192 : Int))).toNat * 1) (Page.mk y63.base y63.length y63.access true))[(IntKind.wrap .i64 (((BitVec.ofInt 64 x1 &&& BitVec.ofInt 64 (1 : Int)).toNat : Int))).toNat * 8 + (IntKind.wrap .i64 ((r60).tdiv (8192 : Int))).toNat * 1]?) fun y64 =>
                                              .ite (decide ((262144 : Int) = 0))
                                                .fail
                                                (.leaf ((((IntKind.wrap .i64 ((IntKind.wrap .i64 ((64 : Int) * y64.base)) + ((r60).tmod (8192 : Int))))).tmod (262144 : Int), Mmu.mk x0.on (x0.pages.set ((IntKind.wrap .i64 (((BitVec.ofInt 64 x1 &&& BitVec.ofInt 64 (1 : Int)).toNat : Int))).toNat * 8 + (IntKind.wrap .i64 ((r60).tdiv (8192 : Int))).toNat * 1) (Page.mk y63.base y63.length y63.access true)) x0.status x0.addr, (0 : Int)))))
                                            .fail)
                                          .fail)
                                        .fail)
                                      .fail)
                                  .fail)
                                .fail)
                              .fail)
                            .fail)
                          (.ite (decide (0 ≤ IntKind.wrap .i64 (((BitVec.ofInt 64 x1 &&& BitVec.ofInt 64 (1 : Int)).toNat : Int))))
                            (.ite (decide (IntKind.wrap .i64 (((BitVec.ofInt 64 x1 &&& BitVec.ofInt 64 (1 : Int)).toNat : Int)) < (2 : Int)))
                              (.ite (decide (0 ≤ IntKind.wrap .i64 ((r60).tdiv (8192 : Int))))
                                (.ite (decide (IntKind.wrap .i64 ((r60).tdiv (8192 : Int)) < (8 : Int)))
                                  (.opt Page (x0.pages[(IntKind.wrap .i64 (((BitVec.ofInt 64 x1 &&& BitVec.ofInt 64 (1 : Int)).toNat : Int))).toNat * 8 + (IntKind.wrap .i64 ((r60).tdiv (8192 : Int))).toNat * 1]?) fun y65 =>
                                    .ite (decide ((262144 : Int) = 0))
                                      .fail
                                      (.leaf ((((IntKind.wrap .i64 ((IntKind.wrap .i64 ((64 : Int) * y65.base)) + ((r60).tmod (8192 : Int))))).tmod (262144 : Int), x0, (0 : Int)))))
                                  .fail)
                                .fail)
                              .fail)
                            .fail)))
                  .fail)
                .fail)
              .fail)
            .fail)))
noncomputable def ref09_Translate (x0 : Mmu) (x1 : Int) (x2 : Int) (x3 : Bool) : Option (Int × Mmu × Int) := (Tref09_Translate x0 x1 x2 x3).run
noncomputable def Aref09_Translate : Arg U (Mmu × Int × Int × Bool × Unit) := aA cMmu (aO (cInt .i64) (aO (cInt .i64) (aO cBool (aNil))))
noncomputable def Rref09_Translate (r : (Int × Mmu × Int)) : List (V U) × List (Blk U) := ([vO (cInt .i64) r.1, vA cMmu r.2.1, vO (cInt .i64) r.2.2], [])
noncomputable def Sref09_Translate : List (V U) → List (Blk U) → Option (FnOut U) := mkSpec Aref09_Translate bNil (fun x _ => ref09_Translate x.1 x.2.1 x.2.2.1 x.2.2.2.1) Rref09_Translate
noncomputable def Eref09_Translate : Env U := { P := Try.prog, cd := cd, fns := fns23, lps := noL, frz := fun _r => false, nt := 69, n0 := 0 }
theorem runref09_Translate (x : Mmu × Int × Int × Bool × Unit) (g : Unit) : execF Eref09_Translate Try.f13 (Aref09_Translate.enc x) (bNil.enc g) = (Tref09_Translate x.1 x.2.1 x.2.2.1 x.2.2.2.1).map Rref09_Translate := by kernel_rfl
theorem okref09_Translate : FnOk Try.prog cd 13 Sref09_Translate := mk_ok (E := Eref09_Translate) cd_ok fns23_ok Try.func13 (by kernel_rfl) (noLoops_body (by kernel_rfl)) (aA_ok cMmu_ok (aO_ok (cInt_ok .i64) (aO_ok (cInt_ok .i64) (aO_ok cBool_ok (aNil_ok))))) bNil_ok (T := fun x _ => Tref09_Translate x.1 x.2.1 x.2.2.1 x.2.2.2.1) (fun _ _ => rfl) runref09_Translate
noncomputable def fns13 := addF 13 true Sref09_Translate fns23
theorem fns13_ok : ∀ f q t, fns13 f = some (q, t) → FnOk Try.prog cd f t := addF_ok okref09_Translate fns23_ok
/-- emulator/emulatorlaw09.MmuTranslates -/
noncomputable def Tlaw09_MmuTranslates (q : Option Nat) (x0 : Access) : Tree Bool :=
  .opt Bool (ref09_Right q x0.u) fun r66 =>
    .ite (!r66)
      (.opt Bool (law09_alive q) fun r67 =>
        .leaf (r67))
      (.opt (Int × Mmu × Int) (mmu_Translate x0.u x0.mode x0.addr x0.write) fun r68 =>
        .opt (Int × Mmu × Int) (ref09_Translate x0.u x0.mode x0.addr x0.write) fun r69 =>
          .ite (decide (r68.1 = r69.1))
            (.ite (((r68.2.1.on == r69.2.1.on) && ((decide (r68.2.1.pages = r69.2.1.pages)) && ((decide (r68.2.1.status = r69.2.1.status)) && (decide (r68.2.1.addr = r69.2.1.addr))))))
              (.ite (decide (r68.2.2 = r69.2.2))
                (.opt Bool (law09_alive q) fun r70 =>
                  .leaf (r70))
                (.leaf (false)))
              (.leaf (false)))
            (.leaf (false)))
noncomputable def law09_MmuTranslates (q : Option Nat) (x0 : Access) : Option Bool := (Tlaw09_MmuTranslates q x0).run
theorem lelaw09_MmuTranslates (k : Nat) (x0 : Access) : Le (law09_MmuTranslates (some k) x0) (law09_MmuTranslates none x0) := (TLe.opt (leref09_Right k _) fun _ => (TLe.ite (TLe.opt (lelaw09_alive k) fun _ => TLe.rfl) (TLe.opt Le.rfl fun _ => (TLe.opt Le.rfl fun _ => (TLe.ite (TLe.ite (TLe.ite (TLe.opt (lelaw09_alive k) fun _ => TLe.rfl) TLe.rfl) TLe.rfl) TLe.rfl)))))
noncomputable def Alaw09_MmuTranslates : Arg U (Access × Unit) := aA cAccess (aNil)
noncomputable def Rlaw09_MmuTranslates (r : Bool) : List (V U) × List (Blk U) := ([vO cBool r], [])
noncomputable def Slaw09_MmuTranslates : List (V U) → List (Blk U) → Option (FnOut U) := mkSpec Alaw09_MmuTranslates bNil (fun x _ => law09_MmuTranslates none x.1) Rlaw09_MmuTranslates
noncomputable def Elaw09_MmuTranslates : Env U := { P := Try.prog, cd := cd, fns := fns13, lps := noL, frz := fun _r => false, nt := 56, n0 := 0 }
theorem runlaw09_MmuTranslates (x : Access × Unit) (g : Unit) : execF Elaw09_MmuTranslates Try.f3 (Alaw09_MmuTranslates.enc x) (bNil.enc g) = (Tlaw09_MmuTranslates none x.1).map Rlaw09_MmuTranslates := by kernel_rfl
theorem oklaw09_MmuTranslates : FnOk Try.prog cd 3 Slaw09_MmuTranslates := mk_ok (E := Elaw09_MmuTranslates) cd_ok fns13_ok Try.func3 (by kernel_rfl) (noLoops_body (by kernel_rfl)) (aA_ok cAccess_ok (aNil_ok)) bNil_ok (T := fun x _ => Tlaw09_MmuTranslates none x.1) (fun _ _ => rfl) runlaw09_MmuTranslates
noncomputable def fns3 := addF 3 true Slaw09_MmuTranslates fns13
theorem fns3_ok : ∀ f q t, fns3 f = some (q, t) → FnOk Try.prog cd f t := addF_ok oklaw09_MmuTranslates fns13_ok
/-- emulator/emulatorref09.Map -/
structure Sref09_Map_0 where
  t1 : Int
  t2 : Int
  t3 : Int
  t4 : Int
  t12 : Int
  b0 : Mmu
  b1 : Mmu
noncomputable def Wref09_Map_0 (s : Sref09_Map_0) : Tree (Sref09_Map_0 ⊕ (Mmu × Mmu)) :=
  .ite (decide (s.t12 < (8 : Int)))
    (.ite (decide (0 ≤ s.t1))
      (.ite (decide (s.t1 < (2 : Int)))
        (.ite (decide (0 ≤ s.t12))
          (.ite (decide (s.t12 < (8 : Int)))
            (.opt Page (s.b0.pages[(s.t1).toNat * 8 + (s.t12).toNat * 1]?) fun y71 =>
              .ite (decide ((0 : Int) < s.t3))
                (.ite (decide (0 ≤ s.t1))
                  (.ite (decide (s.t1 < (2 : Int)))
                    (.ite (decide (0 ≤ s.t12))
                      (.ite (decide (s.t12 < (8 : Int)))
                        (.opt Page ((s.b0.pages.set ((s.t1).toNat * 8 + (s.t12).toNat * 1) (Page.mk 0 0 0 false))[(s.t1).toNat * 8 + (s.t12).toNat * 1]?) fun y72 =>
                          .leaf (.inl (Sref09_Map_0.mk s.t1 (IntKind.wrap .i64 (s.t2 + (if (128 : Int) < s.t3 then (128 : Int) else s.t3))) (IntKind.wrap .i64 (s.t3 - (if (128 : Int) < s.t3 then (128 : Int) else s.t3))) s.t4 (IntKind.wrap .i64 (s.t12 + (1 : Int))) (Mmu.mk s.b0.on ((s.b0.pages.set ((s.t1).toNat * 8 + (s.t12).toNat * 1) (Page.mk 0 0 0 false)).set ((s.t1).toNat * 8 + (s.t12).toNat * 1) (Page.mk s.t2 (if (128 : Int) < s.t3 then (128 : Int) else s.t3) s.t4 false)) s.b0.status s.b0.addr) s.b1)))
                        .fail)
                      .fail)
                    .fail)
                  .fail)
                (.leaf (.inl (Sref09_Map_0.mk s.t1 s.t2 s.t3 s.t4 (IntKind.wrap .i64 (s.t12 + (1 : Int))) (Mmu.mk s.b0.on (s.b0.pages.set ((s.t1).toNat * 8 + (s.t12).toNat * 1) (Page.mk 0 0 0 false)) s.b0.status s.b0.addr) s.b1))))
            .fail)
          .fail)
        .fail)
      .fail)
    (.leaf (.inr (s.b0, s.b1)))
noncomputable def Lref09_Map_0 (q : Option Nat) (s : Sref09_Map_0) : Option (Mmu × Mmu) := limQ q (fun s => (Wref09_Map_0 s).run) s
theorem leLref09_Map_0 (k : Nat) (s : Sref09_Map_0) : Le (Lref09_Map_0 (some k) s) (Lref09_Map_0 none s) := limQ_le (fun _ => Le.rfl) s
noncomputable def Tref09_Map (q : Option Nat) (x0 : Mmu) (x1 : Int) (x2 : Int) (x3 : Int) (x4 : Int) : Tree (Mmu × Int) :=
  .ite (decide (x1 < (0 : Int)))
    (.leaf ((Mmu.mk false (List.replicate 16 (Page.mk 0 0 0 false)) 0 0, (1 : Int))))
    (.ite (decide ((1 : Int) < x1))
      (.leaf ((Mmu.mk false (List.replicate 16 (Page.mk 0 0 0 false)) 0 0, (1 : Int))))
      (.ite (decide (x4 < (1 : Int)))
        (.leaf ((Mmu.mk false (List.replicate 16 (Page.mk 0 0 0 false)) 0 0, (1 : Int))))
        (.ite (decide ((2 : Int) < x4))
          (.leaf ((Mmu.mk false (List.replicate 16 (Page.mk 0 0 0 false)) 0 0, (1 : Int))))
          (.ite (decide (x3 < (0 : Int)))
            (.leaf ((Mmu.mk false (List.replicate 16 (Page.mk 0 0 0 false)) 0 0, (1 : Int))))
            (.ite (decide ((1024 : Int) < x3))
              (.leaf ((Mmu.mk false (List.replicate 16 (Page.mk 0 0 0 false)) 0 0, (1 : Int))))
              (.ite (decide (x2 < (0 : Int)))
                (.leaf ((Mmu.mk false (List.replicate 16 (Page.mk 0 0 0 false)) 0 0, (1 : Int))))
                (.ite (decide ((IntKind.wrap .i64 ((4096 : Int) - x3)) < x2))
                  (.leaf ((Mmu.mk false (List.replicate 16 (Page.mk 0 0 0 false)) 0 0, (1 : Int))))
                  (.opt (Mmu × Mmu) (Lref09_Map_0 q (Sref09_Map_0.mk x1 x2 x3 x4 (0 : Int) x0 (Mmu.mk false (List.replicate 16 (Page.mk 0 0 0 false)) 0 0))) fun l73 =>
                    .leaf ((l73.1, (0 : Int)))))))))))
noncomputable def ref09_Map (q : Option Nat) (x0 : Mmu) (x1 : Int) (x2 : Int) (x3 : Int) (x4 : Int) : Option (Mmu × Int) := (Tref09_Map q x0 x1 x2 x3 x4).run
theorem leref09_Map (k : Nat) (x0 : Mmu) (x1 : Int) (x2 : Int) (x3 : Int) (x4 : Int) : Le (ref09_Map (some k) x0 x1 x2 x3 x4) (ref09_Map none x0 x1 x2 x3 x4) := (TLe.ite TLe.rfl (TLe.ite TLe.rfl (TLe.ite TLe.rfl (TLe.ite TLe.rfl (TLe.ite TLe.rfl (TLe.ite TLe.rfl (TLe.ite TLe.rfl (TLe.ite TLe.rfl (TLe.opt (leLref09_Map_0 k _) fun _ => TLe.rfl)))))))))
noncomputable def Aref09_Map : Arg U (Mmu × Int × Int × Int × Int × Unit) := aA cMmu (aO (cInt .i64) (aO (cInt .i64) (aO (cInt .i64) (aO (cInt .i64) (aNil)))))
noncomputable def Rref09_Map (r : (Mmu × Int)) : List (V U) × List (Blk U) := ([vA cMmu r.1, vO (cInt .i64) r.2], [])
noncomputable def Sref09_Map : List (V U) → List (Blk U) → Option (FnOut U) := mkSpec Aref09_Map bNil (fun x _ => ref09_Map none x.1 x.2.1 x.2.2.1 x.2.2.2.1 x.2.2.2.2.1) Rref09_Map
noncomputable def Pref09_Map_0 (x : (Int × Unit) × (Int × Unit) × (Int × Unit) × (Int × Unit) × (Unit) × (Unit) × (Int × Unit) × Unit) (g : (Mmu × Unit) × (Mmu × Unit) × Unit) : Sref09_Map_0 := Sref09_Map_0.mk x.1.1 x.2.1.1 x.2.2.1.1 x.2.2.2.1.1 x.2.2.2.2.2.2.1.1 g.1.1 g.2.1.1
noncomputable def tAref09_Map_0 : Tms U ((Int × Unit) × (Int × Unit) × (Int × Unit) × (Int × Unit) × (Unit) × (Unit) × (Int × Unit) × Unit) := tO 1 (cPair (cInt .i64) (cUnit)) (tO 2 (cPair (cInt .i64) (cUnit)) (tO 3 (cPair (cInt .i64) (cUnit)) (tO 4 (cPair (cInt .i64) (cUnit)) (tO 5 (cK (.ptr 0 0) (cUnit)) (tO 10 (cK (.ptr 1 0) (cUnit)) (tO 12 (cPair (cInt .i64) (cUnit)) (tNil)))))))
noncomputable def tBref09_Map_0 : Bls U ((Mmu × Unit) × (Mmu × Unit) × Unit) := bC (cPair cMmu (cUnit)) (bC (cPair cMmu (cUnit)) (bNil))
noncomputable def eSref09_Map_0 (s : Sref09_Map_0) : St U := { tm := [(1, .v (vO (cPair (cInt .i64) (cUnit)) (s.t1, ()))), (2, .v (vO (cPair (cInt .i64) (cUnit)) (s.t2, ()))), (3, .v (vO (cPair (cInt .i64) (cUnit)) (s.t3, ()))), (4, .v (vO (cPair (cInt .i64) (cUnit)) (s.t4, ()))), (5, .v (vO (cK (.ptr 0 0) (cUnit)) (()))), (10, .v (vO (cK (.ptr 1 0) (cUnit)) (()))), (12, .v (vO (cPair (cInt .i64) (cUnit)) (s.t12, ())))], hp := [.cells ((cPair cMmu (cUnit) : Cdc U (Mmu × Unit)).enc (s.b0, ())), .cells ((cPair cMmu (cUnit) : Cdc U (Mmu × Unit)).enc (s.b1, ()))] }
noncomputable def xSref09_Map_0 (r : (Mmu × Mmu)) : Ex × St U := (.exit 0, { tm := [(5, .v (vO (cK (.ptr 0 0) (cUnit)) (()))), (10, .v (vO (cK (.ptr 1 0) (cUnit)) (())))], hp := [.cells ((cPair cMmu (cUnit) : Cdc U (Mmu × Unit)).enc (r.1, ())), .cells ((cPair cMmu (cUnit) : Cdc U (Mmu × Unit)).enc (r.2, ()))] })
noncomputable def xTref09_Map_0 (r : (Mmu × Mmu)) : Tree (Ex × St U) := .leaf (xSref09_Map_0 r)
noncomputable def href09_Map_0 : Hd := { keep := [1, 2, 3, 4, 5, 10, 12], xkeep := [5, 10, 11], own := false }
noncomputable def Eref09_Map : Env U := { P := Try.prog, cd := cd, fns := fns3, lps := (addL 0 href09_Map_0 (mkLoop tAref09_Map_0 tBref09_Map_0 Pref09_Map_0 (Lref09_Map_0 none) xTref09_Map_0) noL), frz := fun _r => false, nt := 77, n0 := 0 }
noncomputable def Bref09_Map_0 : Code := (loopAt (Try.f15.body.getD .skip) 0 0).getD .skip
theorem roundref09_Map_0 (s : Sref09_Map_0) : round Eref09_Map href09_Map_0 Bref09_Map_0 0 (eSref09_Map_0 s) = (Wref09_Map_0 s).map (sumE eSref09_Map_0 xSref09_Map_0) := by kernel_rfl
theorem lpref09_Map_0 : LpOk Eref09_Map Bref09_Map_0 0 := mkLoop_ok (A := tAref09_Map_0) (B := tBref09_Map_0) (f := Pref09_Map_0) (L := Lref09_Map_0 none) (tO_ok (cPair_ok (cInt_ok .i64) cUnit_ok) (tO_ok (cPair_ok (cInt_ok .i64) cUnit_ok) (tO_ok (cPair_ok (cInt_ok .i64) cUnit_ok) (tO_ok (cPair_ok (cInt_ok .i64) cUnit_ok) (tO_ok (cK_ok cUnit_ok) (tO_ok (cK_ok cUnit_ok) (tO_ok (cPair_ok (cInt_ok .i64) cUnit_ok) tNil_ok))))))) (bC_ok (cPair_ok cMmu_ok cUnit_ok) (bC_ok (cPair_ok cMmu_ok cUnit_ok) bNil_ok)) (enc := eSref09_Map_0) (out := xTref09_Map_0) (outS := xSref09_Map_0) (step := Wref09_Map_0) (fun _ => rfl) (fun _ _ => by kernel_rfl) (by kernel_rfl) (fun _ => rfl) roundref09_Map_0
theorem runref09_Map (x : Mmu × Int × Int × Int × Int × Unit) (g : Unit) : execF Eref09_Map Try.f15 (Aref09_Map.enc x) (bNil.enc g) = (Tref09_Map none x.1 x.2.1 x.2.2.1 x.2.2.2.1 x.2.2.2.2.1).map Rref09_Map := by kernel_rfl
theorem okref09_Map : FnOk Try.prog cd 15 Sref09_Map := mk_ok (E := Eref09_Map) cd_ok fns3_ok Try.func15 (by kernel_rfl) (loops_of (addL_ok lpref09_Map_0 noL_ok)) (aA_ok cMmu_ok (aO_ok (cInt_ok .i64) (aO_ok (cInt_ok .i64) (aO_ok (cInt_ok .i64) (aO_ok (cInt_ok .i64) (aNil_ok)))))) bNil_ok (T := fun x _ => Tref09_Map none x.1 x.2.1 x.2.2.1 x.2.2.2.1 x.2.2.2.2.1) (fun _ _ => rfl) runref09_Map
noncomputable def fns15 := addF 15 true Sref09_Map fns3
theorem fns15_ok : ∀ f q t, fns15 f = some (q, t) → FnOk Try.prog cd f t := addF_ok okref09_Map fns3_ok
/-- emulator/mmu.Reset -/
noncomputable def Tmmu_Reset (x0 : Mmu) : Tree Mmu :=
  .leaf (Mmu.mk false (List.replicate 16 (Page.mk 0 0 0 false)) 0 0)
noncomputable def mmu_Reset (x0 : Mmu) : Option Mmu := (Tmmu_Reset x0).run
noncomputable def Ammu_Reset : Arg U (Mmu × Unit) := aA cMmu (aNil)
noncomputable def Rmmu_Reset (r : Mmu) : List (V U) × List (Blk U) := ([vA cMmu r], [])
noncomputable def Smmu_Reset : List (V U) → List (Blk U) → Option (FnOut U) := mkSpec Ammu_Reset bNil (fun x _ => mmu_Reset x.1) Rmmu_Reset
noncomputable def Emmu_Reset : Env U := { P := Try.prog, cd := cd, fns := fns15, lps := noL, frz := fun _r => false, nt := 4, n0 := 0 }
theorem runmmu_Reset (x : Mmu × Unit) (g : Unit) : execF Emmu_Reset Try.f16 (Ammu_Reset.enc x) (bNil.enc g) = (Tmmu_Reset x.1).map Rmmu_Reset := by kernel_rfl
theorem okmmu_Reset : FnOk Try.prog cd 16 Smmu_Reset := mk_ok (E := Emmu_Reset) cd_ok fns15_ok Try.func16 (by kernel_rfl) (noLoops_body (by kernel_rfl)) (aA_ok cMmu_ok (aNil_ok)) bNil_ok (T := fun x _ => Tmmu_Reset x.1) (fun _ _ => rfl) runmmu_Reset
noncomputable def fns16 := addF 16 true Smmu_Reset fns15
theorem fns16_ok : ∀ f q t, fns16 f = some (q, t) → FnOk Try.prog cd f t := addF_ok okmmu_Reset fns15_ok
/-- emulator/emulatorlaw09.MmuMaps -/
noncomputable def Tlaw09_MmuMaps (q : Option Nat) (x0 : Mmu) (x1 : Range) : Tree Bool :=
  .opt Bool (ref09_Right q x0) fun r74 =>
    .ite (!r74)
      (.opt Bool (law09_alive q) fun r75 =>
        .leaf (r75))
      (.opt (Mmu × Int) (mmu_Map q x0 x1.mode x1.base x1.blocks x1.access) fun r76 =>
        .opt (Mmu × Int) (ref09_Map q x0 x1.mode x1.base x1.blocks x1.access) fun r77 =>
          .ite (((r76.1.on == r77.1.on) && ((decide (r76.1.pages = r77.1.pages)) && ((decide (r76.1.status = r77.1.status)) && (decide (r76.1.addr = r77.1.addr))))))
            (.ite (decide (r76.2 = r77.2))
              (.opt Mmu (mmu_Reset x0) fun r78 =>
                .ite (((r78.on == false) && ((decide (r78.pages = List.replicate 16 (Page.mk 0 0 0 false))) && ((decide (r78.status = 0)) && (decide (r78.addr = 0))))))
                  (.opt Bool (law09_alive q) fun r79 =>
                    .leaf (r79))
                  (.leaf (false)))
              (.leaf (false)))
            (.leaf (false)))
noncomputable def law09_MmuMaps (q : Option Nat) (x0 : Mmu) (x1 : Range) : Option Bool := (Tlaw09_MmuMaps q x0 x1).run
theorem lelaw09_MmuMaps (k : Nat) (x0 : Mmu) (x1 : Range) : Le (law09_MmuMaps (some k) x0 x1) (law09_MmuMaps none x0 x1) := (TLe.opt (leref09_Right k _) fun _ => (TLe.ite (TLe.opt (lelaw09_alive k) fun _ => TLe.rfl) (TLe.opt (lemmu_Map k _ _ _ _ _) fun _ => (TLe.opt (leref09_Map k _ _ _ _ _) fun _ => (TLe.ite (TLe.ite (TLe.opt Le.rfl fun _ => (TLe.ite (TLe.opt (lelaw09_alive k) fun _ => TLe.rfl) TLe.rfl)) TLe.rfl) TLe.rfl)))))
noncomputable def Alaw09_MmuMaps : Arg U (Mmu × Range × Unit) := aA cMmu (aA cRange (aNil))
noncomputable def Rlaw09_MmuMaps (r : Bool) : List (V U) × List (Blk U) := ([vO cBool r], [])
noncomputable def Slaw09_MmuMaps : List (V U) → List (Blk U) → Option (FnOut U) := mkSpec Alaw09_MmuMaps bNil (fun x _ => law09_MmuMaps none x.1 x.2.1) Rlaw09_MmuMaps
noncomputable def Elaw09_MmuMaps : Env U := { P := Try.prog, cd := cd, fns := fns16, lps := noL, frz := fun _r => false, nt := 56, n0 := 0 }
theorem runlaw09_MmuMaps (x : Mmu × Range × Unit) (g : Unit) : execF Elaw09_MmuMaps Try.f4 (Alaw09_MmuMaps.enc x) (bNil.enc g) = (Tlaw09_MmuMaps none x.1 x.2.1).map Rlaw09_MmuMaps := by kernel_rfl
theorem oklaw09_MmuMaps : FnOk Try.prog cd 4 Slaw09_MmuMaps := mk_ok (E := Elaw09_MmuMaps) cd_ok fns16_ok Try.func4 (by kernel_rfl) (noLoops_body (by kernel_rfl)) (aA_ok cMmu_ok (aA_ok cRange_ok (aNil_ok))) bNil_ok (T := fun x _ => Tlaw09_MmuMaps none x.1 x.2.1) (fun _ _ => rfl) runlaw09_MmuMaps
noncomputable def fns4 := addF 4 true Slaw09_MmuMaps fns16
theorem fns4_ok : ∀ f q t, fns4 f = some (q, t) → FnOk Try.prog cd f t := addF_ok oklaw09_MmuMaps fns16_ok
/-- emulator/mmu.Right -/
structure Smmu_Right_1 where
  t8_0 : (List Page)
  t9 : Int
  t12_0 : (List Page)
  t13 : Int
  b0 : Mmu
noncomputable def Wmmu_Right_1 (s : Smmu_Right_1) : Tree (Smmu_Right_1 ⊕ ((Bool × (List Page) × Int × Mmu) ⊕ ((List Page) × Int × Mmu))) :=
  .ite (decide (s.t13 < (8 : Int)))
    (.ite (decide (0 ≤ s.t13))
      (.ite (decide (s.t13 < (8 : Int)))
        (.opt Page (s.t12_0[(s.t13).toNat]?) fun y80 =>
          .opt Bool (mmu_from y80.base (4095 : Int)) fun r81 =>
            .ite (!r81)
              (.leaf (.inr (.inl (false, s.t8_0, s.t9, s.b0))))
              (.opt Bool (mmu_from y80.length (128 : Int)) fun r82 =>
                .ite (!r82)
                  (.leaf (.inr (.inl (false, s.t8_0, s.t9, s.b0))))
                  (.opt Bool (mmu_from y80.access (2 : Int)) fun r83 =>
                    .ite (!r83)
                      (.leaf (.inr (.inl (false, s.t8_0, s.t9, s.b0))))
                      (.leaf (.inl (Smmu_Right_1.mk s.t8_0 s.t9 s.t12_0 (IntKind.wrap .i64 (s.t13 + (1 : Int))) s.b0))))))
        .fail)
      .fail)
    (.leaf (.inr (.inr (s.t8_0, s.t9, s.b0))))
noncomputable def Lmmu_Right_1 (q : Option Nat) (s : Smmu_Right_1) : Option ((Bool × (List Page) × Int × Mmu) ⊕ ((List Page) × Int × Mmu)) := limQ q (fun s => (Wmmu_Right_1 s).run) s
theorem leLmmu_Right_1 (k : Nat) (s : Smmu_Right_1) : Le (Lmmu_Right_1 (some k) s) (Lmmu_Right_1 none s) := limQ_le (fun _ => Le.rfl) s
structure Smmu_Right_0 where
  t8_0 : (List Page)
  t9 : Int
  b0 : Mmu
noncomputable def Wmmu_Right_0 (q : Option Nat) (s : Smmu_Right_0) : Tree (Smmu_Right_0 ⊕ ((Bool × Mmu) ⊕ Mmu)) :=
  .ite (decide (s.t9 < (2 : Int)))
    (.ite (decide (0 ≤ s.t9))
      (.ite (decide (s.t9 < (2 : Int)))
        (.ite (decide ((s.t9).toNat * 8 + 8 ≤ s.t8_0.length))
          (.opt ((Bool × (List Page) × Int × Mmu) ⊕ ((List Page) × Int × Mmu)) (Lmmu_Right_1 q (Smmu_Right_1.mk s.t8_0 s.t9 ((s.t8_0.drop ((s.t9).toNat * 8)).take 8) (0 : Int) s.b0)) fun l84 =>
            .ite (l84.isLeft)
              (.opt (Bool × (List Page) × Int × Mmu) (l84.getLeft?) fun a85 =>
                .leaf (.inr (.inl (a85.1, a85.2.2.2))))
              (.opt ((List Page) × Int × Mmu) (l84.getRight?) fun b86 =>
                .leaf (.inl (Smmu_Right_0.mk b86.1 (IntKind.wrap .i64 (b86.2.1 + (1 : Int))) b86.2.2))))
          .fail)
        .fail)
      .fail)
    (.leaf (.inr (.inr s.b0)))
noncomputable def Lmmu_Right_0 (q : Option Nat) (s : Smmu_Right_0) : Option ((Bool × Mmu) ⊕ Mmu) := limQ q (fun s => (Wmmu_Right_0 q s).run) s
theorem leLmmu_Right_0 (k : Nat) (s : Smmu_Right_0) : Le (Lmmu_Right_0 (some k) s) (Lmmu_Right_0 none s) := limQ_le (fun s => (TLe.ite (TLe.ite (TLe.ite (TLe.ite (TLe.opt (leLmmu_Right_1 k _) fun _ => TLe.rfl) TLe.rfl) TLe.rfl) TLe.rfl) TLe.rfl)) s
noncomputable def Tmmu_Right (q : Option Nat) (x0 : Mmu) : Tree Bool :=
  .opt ((Bool × Mmu) ⊕ Mmu) (Lmmu_Right_0 q (Smmu_Right_0.mk x0.pages (0 : Int) x0)) fun l87 =>
    .ite (l87.isLeft)
      (.opt (Bool × Mmu) (l87.getLeft?) fun a88 =>
        .leaf (a88.1))
      (.opt Mmu (l87.getRight?) fun b89 =>
        .opt Bool (mmu_from b89.status (3 : Int)) fun r90 =>
          .ite (r90)
            (.opt Bool (mmu_from b89.addr (65535 : Int)) fun r91 =>
              .leaf (r91))
            (.leaf (false)))
noncomputable def mmu_Right (q : Option Nat) (x0 : Mmu) : Option Bool := (Tmmu_Right q x0).run
theorem lemmu_Right (k : Nat) (x0 : Mmu) : Le (mmu_Right (some k) x0) (mmu_Right none x0) := (TLe.opt (leLmmu_Right_0 k _) fun _ => TLe.rfl)
noncomputable def Ammu_Right : Arg U (Mmu × Unit) := aA cMmu (aNil)
noncomputable def Rmmu_Right (r : Bool) : List (V U) × List (Blk U) := ([vO cBool r], [])
noncomputable def Smmu_Right : List (V U) → List (Blk U) → Option (FnOut U) := mkSpec Ammu_Right bNil (fun x _ => mmu_Right none x.1) Rmmu_Right
noncomputable def Pmmu_Right_0 (x : (Unit) × ((List Page) × Unit) × (Int × Unit) × Unit) (g : (Mmu × Unit) × Unit) : Smmu_Right_0 := Smmu_Right_0.mk x.2.1.1 x.2.2.1.1 g.1.1
noncomputable def tAmmu_Right_0 : Tms U ((Unit) × ((List Page) × Unit) × (Int × Unit) × Unit) := tO 1 (cK (.ptr 0 0) (cUnit)) (tA 8 (cPair (cArr 23 16) (cUnit)) (tO 9 (cPair (cInt .i64) (cUnit)) (tNil)))
noncomputable def tBmmu_Right_0 : Bls U ((Mmu × Unit) × Unit) := bC (cPair cMmu (cUnit)) (bNil)
noncomputable def eSmmu_Right_0 (s : Smmu_Right_0) : St U := { tm := [(1, .v (vO (cK (.ptr 0 0) (cUnit)) (()))), (8, .v (vA (cPair (cArr 23 16) (cUnit)) (s.t8_0, ()))), (9, .v (vO (cPair (cInt .i64) (cUnit)) (s.t9, ())))], hp := [.cells ((cPair cMmu (cUnit) : Cdc U (Mmu × Unit)).enc (s.b0, ()))] }
noncomputable def xSmmu_Right_0 : ((Bool × Mmu) ⊕ Mmu) → Ex × St U
  | .inl r => (.ret, { tm := [(1, .v (vO (cK (.ptr 0 0) (cUnit)) (()))), (2, .v (vO (cPair cBool (cUnit)) (r.1, ())))], hp := [.cells ((cPair cMmu (cUnit) : Cdc U (Mmu × Unit)).enc (r.2, ()))] })
  | .inr r => (.exit 0, { tm := [(1, .v (vO (cK (.ptr 0 0) (cUnit)) (())))], hp := [.cells ((cPair cMmu (cUnit) : Cdc U (Mmu × Unit)).enc (r, ()))] })
noncomputable def xTmmu_Right_0 (y : ((Bool × Mmu) ⊕ Mmu)) : Tree (Ex × St U) := .ite y.isLeft (.opt (Bool × Mmu) y.getLeft? fun r => .leaf (.ret, { tm := [(1, .v (vO (cK (.ptr 0 0) (cUnit)) (()))), (2, .v (vO (cPair cBool (cUnit)) (r.1, ())))], hp := [.cells ((cPair cMmu (cUnit) : Cdc U (Mmu × Unit)).enc (r.2, ()))] })) (.opt Mmu y.getRight? fun r => .leaf (.exit 0, { tm := [(1, .v (vO (cK (.ptr 0 0) (cUnit)) (())))], hp := [.cells ((cPair cMmu (cUnit) : Cdc U (Mmu × Unit)).enc (r, ()))] }))
noncomputable def hmmu_Right_0 : Hd := { keep := [1, 8, 9], xkeep := [1, 2], own := false }
noncomputable def Pmmu_Right_1 (x : (Unit) × ((List Page) × Unit) × (Int × Unit) × ((List Page) × Unit) × (Int × Unit) × Unit) (g : (Mmu × Unit) × Unit) : Smmu_Right_1 := Smmu_Right_1.mk x.2.1.1 x.2.2.1.1 x.2.2.2.1.1 x.2.2.2.2.1.1 g.1.1
noncomputable def tAmmu_Right_1 : Tms U ((Unit) × ((List Page) × Unit) × (Int × Unit) × ((List Page) × Unit) × (Int × Unit) × Unit) := tO 1 (cK (.ptr 0 0) (cUnit)) (tA 8 (cPair (cArr 23 16) (cUnit)) (tO 9 (cPair (cInt .i64) (cUnit)) (tA 12 (cPair (cArr 23 8) (cUnit)) (tO 13 (cPair (cInt .i64) (cUnit)) (tNil)))))
noncomputable def tBmmu_Right_1 : Bls U ((Mmu × Unit) × Unit) := bC (cPair cMmu (cUnit)) (bNil)
noncomputable def eSmmu_Right_1 (s : Smmu_Right_1) : St U := { tm := [(1, .v (vO (cK (.ptr 0 0) (cUnit)) (()))), (8, .v (vA (cPair (cArr 23 16) (cUnit)) (s.t8_0, ()))), (9, .v (vO (cPair (cInt .i64) (cUnit)) (s.t9, ()))), (12, .v (vA (cPair (cArr 23 8) (cUnit)) (s.t12_0, ()))), (13, .v (vO (cPair (cInt .i64) (cUnit)) (s.t13, ())))], hp := [.cells ((cPair cMmu (cUnit) : Cdc U (Mmu × Unit)).enc (s.b0, ()))] }
noncomputable def xSmmu_Right_1 : ((Bool × (List Page) × Int × Mmu) ⊕ ((List Page) × Int × Mmu)) → Ex × St U
  | .inl r => (.ret, { tm := [(1, .v (vO (cK (.ptr 0 0) (cUnit)) (()))), (2, .v (vO (cPair cBool (cUnit)) (r.1, ()))), (8, .v (vA (cPair (cArr 23 16) (cUnit)) (r.2.1, ()))), (9, .v (vO (cPair (cInt .i64) (cUnit)) (r.2.2.1, ())))], hp := [.cells ((cPair cMmu (cUnit) : Cdc U (Mmu × Unit)).enc (r.2.2.2, ()))] })
  | .inr r => (.exit 2, { tm := [(1, .v (vO (cK (.ptr 0 0) (cUnit)) (()))), (8, .v (vA (cPair (cArr 23 16) (cUnit)) (r.1, ()))), (9, .v (vO (cPair (cInt .i64) (cUnit)) (r.2.1, ())))], hp := [.cells ((cPair cMmu (cUnit) : Cdc U (Mmu × Unit)).enc (r.2.2, ()))] })
noncomputable def xTmmu_Right_1 (y : ((Bool × (List Page) × Int × Mmu) ⊕ ((List Page) × Int × Mmu))) : Tree (Ex × St U) := .ite y.isLeft (.opt (Bool × (List Page) × Int × Mmu) y.getLeft? fun r => .leaf (.ret, { tm := [(1, .v (vO (cK (.ptr 0 0) (cUnit)) (()))), (2, .v (vO (cPair cBool (cUnit)) (r.1, ()))), (8, .v (vA (cPair (cArr 23 16) (cUnit)) (r.2.1, ()))), (9, .v (vO (cPair (cInt .i64) (cUnit)) (r.2.2.1, ())))], hp := [.cells ((cPair cMmu (cUnit) : Cdc U (Mmu × Unit)).enc (r.2.2.2, ()))] })) (.opt ((List Page) × Int × Mmu) y.getRight? fun r => .leaf (.exit 2, { tm := [(1, .v (vO (cK (.ptr 0 0) (cUnit)) (()))), (8, .v (vA (cPair (cArr 23 16) (cUnit)) (r.1, ()))), (9, .v (vO (cPair (cInt .i64) (cUnit)) (r.2.1, ())))], hp := [.cells ((cPair cMmu (cUnit) : Cdc U (Mmu × Unit)).enc (r.2.2, ()))] }))
noncomputable def hmmu_Right_1 : Hd := { keep := [1, 8, 9, 12, 13], xkeep := [1, 2, 8, 9], own := false }
noncomputable def Emmu_Right : Env U := { P := Try.prog, cd := cd, fns := fns4, lps := (addL 0 hmmu_Right_0 (mkLoop tAmmu_Right_0 tBmmu_Right_0 Pmmu_Right_0 (Lmmu_Right_0 none) xTmmu_Right_0) (addL 1 hmmu_Right_1 (mkLoop tAmmu_Right_1 tBmmu_Right_1 Pmmu_Right_1 (Lmmu_Right_1 none) xTmmu_Right_1) noL)), frz := fun _r => false, nt := 42, n0 := 0 }
noncomputable def Bmmu_Right_0 : Code := (loopAt (Try.f17.body.getD .skip) 0 0).getD .skip
theorem roundmmu_Right_0 (s : Smmu_Right_0) : round Emmu_Right hmmu_Right_0 Bmmu_Right_0 0 (eSmmu_Right_0 s) = (Wmmu_Right_0 none s).map (sumE eSmmu_Right_0 xSmmu_Right_0) := by kernel_rfl
theorem lpmmu_Right_0 : LpOk Emmu_Right Bmmu_Right_0 0 := mkLoop_ok (A := tAmmu_Right_0) (B := tBmmu_Right_0) (f := Pmmu_Right_0) (L := Lmmu_Right_0 none) (tO_ok (cK_ok cUnit_ok) (tA_ok (cPair_ok (cArr_ok 23 16) cUnit_ok) (tO_ok (cPair_ok (cInt_ok .i64) cUnit_ok) tNil_ok))) (bC_ok (cPair_ok cMmu_ok cUnit_ok) bNil_ok) (enc := eSmmu_Right_0) (out := xTmmu_Right_0) (outS := xSmmu_Right_0) (step := Wmmu_Right_0 none) (fun _ => rfl) (fun _ _ => by kernel_rfl) (by kernel_rfl) (fun b => by cases b <;> rfl) roundmmu_Right_0
noncomputable def Bmmu_Right_1 : Code := (loopAt (Try.f17.body.getD .skip) 0 1).getD .skip
theorem roundmmu_Right_1 (s : Smmu_Right_1) : round Emmu_Right hmmu_Right_1 Bmmu_Right_1 1 (eSmmu_Right_1 s) = (Wmmu_Right_1 s).map (sumE eSmmu_Right_1 xSmmu_Right_1) := by kernel_rfl
theorem lpmmu_Right_1 : LpOk Emmu_Right Bmmu_Right_1 1 := mkLoop_ok (A := tAmmu_Right_1) (B := tBmmu_Right_1) (f := Pmmu_Right_1) (L := Lmmu_Right_1 none) (tO_ok (cK_ok cUnit_ok) (tA_ok (cPair_ok (cArr_ok 23 16) cUnit_ok) (tO_ok (cPair_ok (cInt_ok .i64) cUnit_ok) (tA_ok (cPair_ok (cArr_ok 23 8) cUnit_ok) (tO_ok (cPair_ok (cInt_ok .i64) cUnit_ok) tNil_ok))))) (bC_ok (cPair_ok cMmu_ok cUnit_ok) bNil_ok) (enc := eSmmu_Right_1) (out := xTmmu_Right_1) (outS := xSmmu_Right_1) (step := Wmmu_Right_1) (fun _ => rfl) (fun _ _ => by kernel_rfl) (by kernel_rfl) (fun b => by cases b <;> rfl) roundmmu_Right_1
theorem runmmu_Right (x : Mmu × Unit) (g : Unit) : execF Emmu_Right Try.f17 (Ammu_Right.enc x) (bNil.enc g) = (Tmmu_Right none x.1).map Rmmu_Right := by kernel_rfl
theorem okmmu_Right : FnOk Try.prog cd 17 Smmu_Right := mk_ok (E := Emmu_Right) cd_ok fns4_ok Try.func17 (by kernel_rfl) (loops_of (addL_ok lpmmu_Right_0 (addL_ok lpmmu_Right_1 noL_ok))) (aA_ok cMmu_ok (aNil_ok)) bNil_ok (T := fun x _ => Tmmu_Right none x.1) (fun _ _ => rfl) runmmu_Right
noncomputable def fns17 := addF 17 true Smmu_Right fns4
theorem fns17_ok : ∀ f q t, fns17 f = some (q, t) → FnOk Try.prog cd f t := addF_ok okmmu_Right fns4_ok
/-- emulator/emulatorlaw09.MmuRights -/
noncomputable def Tlaw09_MmuRights (q : Option Nat) (x0 : Mmu) : Tree Bool :=
  .opt Bool (mmu_Right q x0) fun r92 =>
    .opt Bool (ref09_Right q x0) fun r93 =>
      .ite ((r92 == r93))
        (.opt Bool (law09_alive q) fun r94 =>
          .leaf (r94))
        (.leaf (false))
noncomputable def law09_MmuRights (q : Option Nat) (x0 : Mmu) : Option Bool := (Tlaw09_MmuRights q x0).run
theorem lelaw09_MmuRights (k : Nat) (x0 : Mmu) : Le (law09_MmuRights (some k) x0) (law09_MmuRights none x0) := (TLe.opt (lemmu_Right k _) fun _ => (TLe.opt (leref09_Right k _) fun _ => (TLe.ite (TLe.opt (lelaw09_alive k) fun _ => TLe.rfl) TLe.rfl)))
noncomputable def Alaw09_MmuRights : Arg U (Mmu × Unit) := aA cMmu (aNil)
noncomputable def Rlaw09_MmuRights (r : Bool) : List (V U) × List (Blk U) := ([vO cBool r], [])
noncomputable def Slaw09_MmuRights : List (V U) → List (Blk U) → Option (FnOut U) := mkSpec Alaw09_MmuRights bNil (fun x _ => law09_MmuRights none x.1) Rlaw09_MmuRights
noncomputable def Elaw09_MmuRights : Env U := { P := Try.prog, cd := cd, fns := fns17, lps := noL, frz := fun _r => false, nt := 11, n0 := 0 }
theorem runlaw09_MmuRights (x : Mmu × Unit) (g : Unit) : execF Elaw09_MmuRights Try.f5 (Alaw09_MmuRights.enc x) (bNil.enc g) = (Tlaw09_MmuRights none x.1).map Rlaw09_MmuRights := by kernel_rfl
theorem oklaw09_MmuRights : FnOk Try.prog cd 5 Slaw09_MmuRights := mk_ok (E := Elaw09_MmuRights) cd_ok fns17_ok Try.func5 (by kernel_rfl) (noLoops_body (by kernel_rfl)) (aA_ok cMmu_ok (aNil_ok)) bNil_ok (T := fun x _ => Tlaw09_MmuRights none x.1) (fun _ _ => rfl) runlaw09_MmuRights
noncomputable def fns5 := addF 5 true Slaw09_MmuRights fns17
theorem fns5_ok : ∀ f q t, fns5 f = some (q, t) → FnOk Try.prog cd f t := addF_ok oklaw09_MmuRights fns17_ok
/-- emulator/emulatorref09.page -/
noncomputable def Tref09_page (x0 : Int) : Tree (Int × Int × Bool × Bool) :=
  .ite (decide (x0 < (16 : Int)))
    (.leaf (((0 : Int), (0 : Int), false, false)))
    (.ite (decide ((80 : Int) ≤ x0))
      (.leaf (((0 : Int), (0 : Int), false, false)))
      (.ite (decide ((2 : Int) = 0))
        .fail
        (.ite (!decide (((x0).tmod (2 : Int)) = (0 : Int)))
          (.leaf (((0 : Int), (0 : Int), false, false)))
          (.ite (decide ((32 : Int) = 0))
            .fail
            (.ite (decide ((32 : Int) = 0))
              .fail
              (.ite (decide ((4 : Int) = 0))
                .fail
                (.ite (decide ((4 : Int) = 0))
                  .fail
                  (.leaf ((IntKind.wrap .i64 (((IntKind.wrap .i64 (x0 - (16 : Int)))).tdiv (32 : Int)), IntKind.wrap .i64 (((((IntKind.wrap .i64 (x0 - (16 : Int)))).tmod (32 : Int))).tdiv (4 : Int)), decide ((((IntKind.wrap .i64 (x0 - (16 : Int)))).tmod (4 : Int)) = (2 : Int)), true))))))))))
noncomputable def ref09_page (x0 : Int) : Option (Int × Int × Bool × Bool) := (Tref09_page x0).run
noncomputable def Aref09_page : Arg U (Int × Unit) := aO (cInt .i64) (aNil)
noncomputable def Rref09_page (r : (Int × Int × Bool × Bool)) : List (V U) × List (Blk U) := ([vO (cInt .i64) r.1, vO (cInt .i64) r.2.1, vO cBool r.2.2.1, vO cBool r.2.2.2], [])
noncomputable def Sref09_page : List (V U) → List (Blk U) → Option (FnOut U) := mkSpec Aref09_page bNil (fun x _ => ref09_page x.1) Rref09_page
noncomputable def Eref09_page : Env U := { P := Try.prog, cd := cd, fns := fns5, lps := noL, frz := fun _r => false, nt := 28, n0 := 0 }
theorem runref09_page (x : Int × Unit) (g : Unit) : execF Eref09_page Try.f27 (Aref09_page.enc x) (bNil.enc g) = (Tref09_page x.1).map Rref09_page := by kernel_rfl
theorem okref09_page : FnOk Try.prog cd 27 Sref09_page := mk_ok (E := Eref09_page) cd_ok fns5_ok Try.func27 (by kernel_rfl) (noLoops_body (by kernel_rfl)) (aO_ok (cInt_ok .i64) (aNil_ok)) bNil_ok (T := fun x _ => Tref09_page x.1) (fun _ _ => rfl) runref09_page
noncomputable def fns27 := addF 27 true Sref09_page fns5
theorem fns27_ok : ∀ f q t, fns27 f = some (q, t) → FnOk Try.prog cd f t := addF_ok okref09_page fns5_ok
/-- emulator/emulatorref09.Read -/
noncomputable def Tref09_Read (x0 : Mmu) (x1 : Int) : Tree (Int × Bool) :=
  .ite (decide (x1 = (0 : Int)))
    (.ite (x0.on)
      (.leaf ((IntKind.wrap .i64 ((IntKind.wrap .i64 ((2 : Int) * x0.status)) + (1 : Int)), true)))
      (.leaf ((IntKind.wrap .i64 ((2 : Int) * x0.status), true))))
    (.ite (decide (x1 = (2 : Int)))
      (.leaf ((x0.addr, true)))
      (.opt (Int × Int × Bool × Bool) (ref09_page x1) fun r95 =>
        .ite (!r95.2.2.2)
          (.leaf (((0 : Int), false)))
          (.ite (decide (0 ≤ r95.1))
            (.ite (decide (r95.1 < (2 : Int)))
              (.ite (decide (0 ≤ r95.2.1))
                (.ite (decide (r95.2.1 < (8 : Int)))
                  (.opt Page (x0.pages[(r95.1).toNat * 8 + (r95.2.1).toNat * 1]?) fun y96 =>
                    .ite (!r95.2.2.1)
                      (.leaf ((y96.base, true)))
                      (.ite (y96.written)
                        (.leaf ((IntKind.wrap .i64 ((IntKind.wrap .i64 (y96.length + (IntKind.wrap .i64 ((256 : Int) * y96.access)))) + (32768 : Int)), true)))
                        (.leaf ((IntKind.wrap .i64 (y96.length + (IntKind.wrap .i64 ((256 : Int) * y96.access))), true)))))
                  .fail)
                .fail)
              .fail)
            .fail)))
noncomputable def ref09_Read (x0 : Mmu) (x1 : Int) : Option (Int × Bool) := (Tref09_Read x0 x1).run
noncomputable def Aref09_Read : Arg U (Mmu × Int × Unit) := aA cMmu (aO (cInt .i64) (aNil))
noncomputable def Rref09_Read (r : (Int × Bool)) : List (V U) × List (Blk U) := ([vO (cInt .i64) r.1, vO cBool r.2], [])
noncomputable def Sref09_Read : List (V U) → List (Blk U) → Option (FnOut U) := mkSpec Aref09_Read bNil (fun x _ => ref09_Read x.1 x.2.1) Rref09_Read
noncomputable def Eref09_Read : Env U := { P := Try.prog, cd := cd, fns := fns27, lps := noL, frz := fun _r => false, nt := 57, n0 := 0 }
theorem runref09_Read (x : Mmu × Int × Unit) (g : Unit) : execF Eref09_Read Try.f19 (Aref09_Read.enc x) (bNil.enc g) = (Tref09_Read x.1 x.2.1).map Rref09_Read := by kernel_rfl
theorem okref09_Read : FnOk Try.prog cd 19 Sref09_Read := mk_ok (E := Eref09_Read) cd_ok fns27_ok Try.func19 (by kernel_rfl) (noLoops_body (by kernel_rfl)) (aA_ok cMmu_ok (aO_ok (cInt_ok .i64) (aNil_ok))) bNil_ok (T := fun x _ => Tref09_Read x.1 x.2.1) (fun _ _ => rfl) runref09_Read
noncomputable def fns19 := addF 19 true Sref09_Read fns27
theorem fns19_ok : ∀ f q t, fns19 f = some (q, t) → FnOk Try.prog cd f t := addF_ok okref09_Read fns27_ok
/-- emulator/emulatorref09.Write -/
noncomputable def Tref09_Write (x0 : Mmu) (x1 : Int) (x2 : Int) : Tree (Mmu × Bool) :=
  .opt Int (ref09_word x2) fun r97 =>
    .ite (decide (x1 = (0 : Int)))
      (.ite (decide ((2 : Int) = 0))
        .fail
        (.ite (decide ((2 : Int) = 0))
          .fail
          (.ite (decide ((4 : Int) = 0))
            .fail
            (.leaf ((Mmu.mk (decide (((r97).tmod (2 : Int)) = (1 : Int))) x0.pages (((IntKind.wrap .i64 ((r97).tdiv (2 : Int)))).tmod (4 : Int)) x0.addr, true))))))
      (.ite (decide (x1 = (2 : Int)))
        (.leaf ((x0, true)))
        (.opt (Int × Int × Bool × Bool) (ref09_page x1) fun r98 =>
          .ite (!r98.2.2.2)
            (.leaf ((x0, false)))
            (.ite (!r98.2.2.1)
              (.ite (decide ((4096 : Int) = 0))
                .fail
                (.ite (decide (0 ≤ r98.1))
                  (.ite (decide (r98.1 < (2 : Int)))
                    (.ite (decide (0 ≤ r98.2.1))
                      (.ite (decide (r98.2.1 < (8 : Int)))
                        (.opt Page (x0.pages[(r98.1).toNat * 8 + (r98.2.1).toNat * 1]?) fun y99 =>
                          .leaf ((Mmu.mk x0.on (x0.pages.set ((r98.1).toNat * 8 + (r98.2.1).toNat * 1) (Page.mk ((r97).tmod (4096 : Int)) y99.length y99.access y99.written)) x0.status x0.addr, true)))
                        .fail)
                      .fail)
                    .fail)
                  .fail))
              (.ite (decide ((256 : Int) = 0))
                .fail
                (.ite (decide (0 ≤ r98.1))
                  (.ite (decide (r98.1 < (2 : Int)))
                    (.ite (decide (0 ≤ r98.2.1))
                      (.ite (decide (r98.2.1 < (8 : Int)))
                        (.opt Page (x0.pages[(r98.1).toNat * 8 + (r98.2.1).toNat * 1]?) fun y100 =>
                          .ite (decide ((256 : Int) = 0))
                            .fail
                            (.ite (decide ((4 : Int) = 0))
                              .fail
                              (.ite (decide (0 ≤ r98.1))
                                (.ite (decide (r98.1 < (2 : Int)))
                                  (.ite (decide (0 ≤ r98.2.1))
                                    (.ite (decide (r98.2.1 < (8 : Int)))
                                      (.opt Page ((x0.pages.set ((r98.1).toNat * 8 + (r98.2.1).toNat * 1) (Page.mk y100.base (if (128 : Int) < (r97).tmod (256 : Int) then (128 : Int) else (r97).tmod (256 : Int)) y100.access y100.written))[(r98.1).toNat * 8 + (r98.2.1).toNat * 1]?) fun y101 =>
                                        .ite (decide (0 ≤ r98.1))
                                          (.ite (decide (r98.1 < (2 : Int)))
                                            (.ite (decide (0 ≤ r98.2.1))
                                              (.ite (decide (r98.2.1 < (8 : Int)))
                                                (.opt Page (((x0.pages.set ((r98.1).toNat * 8 + (r98.2.1).toNat * 1) (Page.mk y100.base (if (128 : Int) < (r97).tmod (256 : Int) then (128 : Int) else (r97).tmod (256 : Int)) y100.access y100.written)).set ((r98.1).toNat * 8 + (r98.2.1).toNat * 1) (Page.mk y101.base y101.length (if (2 : Int) < ((IntKind.wrap .i64 ((r97).tdiv (256 : Int)))).tmod (4 : Int) then (2 : Int) else ((IntKind.wrap .i64 ((r97).tdiv (256 : Int)))).tmod (4 : Int)) y101.written))[(r98.1).toNat * 8 + (r98.2.1).toNat * 1]?) fun y102 =>
                                                  .leaf ((Mmu.mk x0.on (((x0.pages.set ((r98.1).toNat * 8 + (r98.2.1).toNat * 1) (Page.mk y100.base (if (128 : Int) < (r97).tmod (256 : Int) then (128 : Int) else (r97).tmod (256 : Int)) y100.access y100.written)).set ((r98.1).toNat * 8 + (r98.2.1).toNat * 1) (Page.mk y101.base y101.length (if (2 : Int) < ((IntKind.wrap .i64 ((r97).tdiv (256 : Int)))).tmod (4 : Int) then (2 : Int) else ((IntKind.wrap .i64 ((r97).tdiv (256 : Int)))).tmod (4 : Int)) y101.written)).set ((r98.1).toNat * 8 + (r98.2.1).toNat * 1) (Page.mk y102.base y102.length y102.access false)) x0.status x0.addr, true)))
                                                .fail)
                                              .fail)
                                            .fail)
                                          .fail)
                                      .fail)
                                    .fail)
                                  .fail)
                                .fail)))
                        .fail)
                      .fail)
                    .fail)
                  .fail)))))
noncomputable def ref09_Write (x0 : Mmu) (x1 : Int) (x2 : Int) : Option (Mmu × Bool) := (Tref09_Write x0 x1 x2).run
noncomputable def Aref09_Write : Arg U (Mmu × Int × Int × Unit) := aA cMmu (aO (cInt .i64) (aO (cInt .i64) (aNil)))
noncomputable def Rref09_Write (r : (Mmu × Bool)) : List (V U) × List (Blk U) := ([vA cMmu r.1, vO cBool r.2], [])
noncomputable def Sref09_Write : List (V U) → List (Blk U) → Option (FnOut U) := mkSpec Aref09_Write bNil (fun x _ => ref09_Write x.1 x.2.1 x.2.2.1) Rref09_Write
noncomputable def Eref09_Write : Env U := { P := Try.prog, cd := cd, fns := fns19, lps := noL, frz := fun _r => false, nt := 76, n0 := 0 }
theorem runref09_Write (x : Mmu × Int × Int × Unit) (g : Unit) : execF Eref09_Write Try.f21 (Aref09_Write.enc x) (bNil.enc g) = (Tref09_Write x.1 x.2.1 x.2.2.1).map Rref09_Write := by kernel_rfl
theorem okref09_Write : FnOk Try.prog cd 21 Sref09_Write := mk_ok (E := Eref09_Write) cd_ok fns19_ok Try.func21 (by kernel_rfl) (noLoops_body (by kernel_rfl)) (aA_ok cMmu_ok (aO_ok (cInt_ok .i64) (aO_ok (cInt_ok .i64) (aNil_ok)))) bNil_ok (T := fun x _ => Tref09_Write x.1 x.2.1 x.2.2.1) (fun _ _ => rfl) runref09_Write
noncomputable def fns21 := addF 21 true Sref09_Write fns19
theorem fns21_ok : ∀ f q t, fns21 f = some (q, t) → FnOk Try.prog cd f t := addF_ok okref09_Write fns19_ok
/-- emulator/emulatorlaw09.MmuRegisters -/
noncomputable def Tlaw09_MmuRegisters (q : Option Nat) (x0 : Mmu) (x1 : Int) (x2 : Int) : Tree Bool :=
  .opt Bool (ref09_Right q x0) fun r103 =>
    .ite (!r103)
      (.opt Bool (law09_alive q) fun r104 =>
        .leaf (r104))
      (.opt (Int × Bool) (mmu_Read x0 x1) fun r105 =>
        .opt (Int × Bool) (ref09_Read x0 x1) fun r106 =>
          .opt (Mmu × Bool) (mmu_Write x0 x1 x2) fun r107 =>
            .opt (Mmu × Bool) (ref09_Write x0 x1 x2) fun r108 =>
              .ite (decide (r105.1 = r106.1))
                (.ite ((r105.2 == r106.2))
                  (.ite (((r107.1.on == r108.1.on) && ((decide (r107.1.pages = r108.1.pages)) && ((decide (r107.1.status = r108.1.status)) && (decide (r107.1.addr = r108.1.addr))))))
                    (.ite ((r107.2 == r108.2))
                      (.opt Bool (mmu_Right q r107.1) fun r109 =>
                        .ite (r109)
                          (.opt Bool (law09_alive q) fun r110 =>
                            .leaf (r110))
                          (.leaf (false)))
                      (.leaf (false)))
                    (.leaf (false)))
                  (.leaf (false)))
                (.leaf (false)))
noncomputable def law09_MmuRegisters (q : Option Nat) (x0 : Mmu) (x1 : Int) (x2 : Int) : Option Bool := (Tlaw09_MmuRegisters q x0 x1 x2).run
theorem lelaw09_MmuRegisters (k : Nat) (x0 : Mmu) (x1 : Int) (x2 : Int) : Le (law09_MmuRegisters (some k) x0 x1 x2) (law09_MmuRegisters none x0 x1 x2) := (TLe.opt (leref09_Right k _) fun _ => (TLe.ite (TLe.opt (lelaw09_alive k) fun _ => TLe.rfl) (TLe.opt Le.rfl fun _ => (TLe.opt Le.rfl fun _ => (TLe.opt Le.rfl fun _ => (TLe.opt Le.rfl fun _ => (TLe.ite (TLe.ite (TLe.ite (TLe.ite (TLe.opt (lemmu_Right k _) fun _ => (TLe.ite (TLe.opt (lelaw09_alive k) fun _ => TLe.rfl) TLe.rfl)) TLe.rfl) TLe.rfl) TLe.rfl) TLe.rfl)))))))
noncomputable def Alaw09_MmuRegisters : Arg U (Mmu × Int × Int × Unit) := aA cMmu (aO (cInt .i64) (aO (cInt .i64) (aNil)))
noncomputable def Rlaw09_MmuRegisters (r : Bool) : List (V U) × List (Blk U) := ([vO cBool r], [])
noncomputable def Slaw09_MmuRegisters : List (V U) → List (Blk U) → Option (FnOut U) := mkSpec Alaw09_MmuRegisters bNil (fun x _ => law09_MmuRegisters none x.1 x.2.1 x.2.2.1) Rlaw09_MmuRegisters
noncomputable def Elaw09_MmuRegisters : Env U := { P := Try.prog, cd := cd, fns := fns21, lps := noL, frz := fun _r => false, nt := 70, n0 := 0 }
theorem runlaw09_MmuRegisters (x : Mmu × Int × Int × Unit) (g : Unit) : execF Elaw09_MmuRegisters Try.f6 (Alaw09_MmuRegisters.enc x) (bNil.enc g) = (Tlaw09_MmuRegisters none x.1 x.2.1 x.2.2.1).map Rlaw09_MmuRegisters := by kernel_rfl
theorem oklaw09_MmuRegisters : FnOk Try.prog cd 6 Slaw09_MmuRegisters := mk_ok (E := Elaw09_MmuRegisters) cd_ok fns21_ok Try.func6 (by kernel_rfl) (noLoops_body (by kernel_rfl)) (aA_ok cMmu_ok (aO_ok (cInt_ok .i64) (aO_ok (cInt_ok .i64) (aNil_ok)))) bNil_ok (T := fun x _ => Tlaw09_MmuRegisters none x.1 x.2.1 x.2.2.1) (fun _ _ => rfl) runlaw09_MmuRegisters
noncomputable def fns6 := addF 6 true Slaw09_MmuRegisters fns21
theorem fns6_ok : ∀ f q t, fns6 f = some (q, t) → FnOk Try.prog cd f t := addF_ok oklaw09_MmuRegisters fns21_ok
/-- emulator/emulatorlaw09.MmuQuiet -/
noncomputable def Tlaw09_MmuQuiet (q : Option Nat) (x0 : Access) : Tree Bool :=
  .opt Bool (mmu_Right q x0.u) fun r111 =>
    .ite (!r111)
      (.opt Bool (law09_alive q) fun r112 =>
        .leaf (r112))
      (.opt (Int × Mmu × Int) (mmu_Translate x0.u x0.mode x0.addr x0.write) fun r113 =>
        .opt Bool (mmu_Right q r113.2.1) fun r114 =>
          .ite (!r114)
            (.leaf (false))
            (.ite (decide (r113.1 < (0 : Int)))
              (.leaf (false))
              (.ite (decide ((262144 : Int) ≤ r113.1))
                (.leaf (false))
                (.ite (!decide (r113.2.2 = (0 : Int)))
                  (.ite (!decide (r113.2.2 = (8 : Int)))
                    (.leaf (false))
                    (.ite (!decide (r113.2.2 = (0 : Int)))
                      (.ite (!x0.u.on)
                        (.leaf (false))
                        (.ite (decide (r113.2.2 = (0 : Int)))
                          (.ite (!x0.write)
                            (.ite (!((r113.2.1.on == x0.u.on) && ((decide (r113.2.1.pages = x0.u.pages)) && ((decide (r113.2.1.status = x0.u.status)) && (decide (r113.2.1.addr = x0.u.addr))))))
                              (.leaf (false))
                              (.ite (decide (r113.2.2 = (0 : Int)))
                                (.opt Bool (law09_alive q) fun r115 =>
                                  .leaf (r115))
                                (.ite (decide (r113.1 = (0 : Int)))
                                  (.ite (decide ((0 : Int) < r113.2.1.status))
                                    (.ite (decide (r113.2.1.pages = x0.u.pages))
                                      (.opt Bool (law09_alive q) fun r116 =>
                                        .leaf (r116))
                                      (.leaf (false)))
                                    (.leaf (false)))
                                  (.leaf (false)))))
                            (.ite (decide (r113.2.2 = (0 : Int)))
                              (.opt Bool (law09_alive q) fun r117 =>
                                .leaf (r117))
                              (.ite (decide (r113.1 = (0 : Int)))
                                (.ite (decide ((0 : Int) < r113.2.1.status))
                                  (.ite (decide (r113.2.1.pages = x0.u.pages))
                                    (.opt Bool (law09_alive q) fun r118 =>
                                      .leaf (r118))
                                    (.leaf (false)))
                                  (.leaf (false)))
                                (.leaf (false)))))
                          (.ite (decide (r113.2.2 = (0 : Int)))
                            (.opt Bool (law09_alive q) fun r119 =>
                              .leaf (r119))
                            (.ite (decide (r113.1 = (0 : Int)))
                              (.ite (decide ((0 : Int) < r113.2.1.status))
                                (.ite (decide (r113.2.1.pages = x0.u.pages))
                                  (.opt Bool (law09_alive q) fun r120 =>
                                    .leaf (r120))
                                  (.leaf (false)))
                                (.leaf (false)))
                              (.leaf (false))))))
                      (.ite (decide (r113.2.2 = (0 : Int)))
                        (.ite (!x0.write)
                          (.ite (!((r113.2.1.on == x0.u.on) && ((decide (r113.2.1.pages = x0.u.pages)) && ((decide (r113.2.1.status = x0.u.status)) && (decide (r113.2.1.addr = x0.u.addr))))))
                            (.leaf (false))
                            (.ite (decide (r113.2.2 = (0 : Int)))
                              (.opt Bool (law09_alive q) fun r121 =>
                                .leaf (r121))
                              (.ite (decide (r113.1 = (0 : Int)))
                                (.ite (decide ((0 : Int) < r113.2.1.status))
                                  (.ite (decide (r113.2.1.pages = x0.u.pages))
                                    (.opt Bool (law09_alive q) fun r122 =>
                                      .leaf (r122))
                                    (.leaf (false)))
                                  (.leaf (false)))
                                (.leaf (false)))))
                          (.ite (decide (r113.2.2 = (0 : Int)))
                            (.opt Bool (law09_alive q) fun r123 =>
                              .leaf (r123))
                            (.ite (decide (r113.1 = (0 : Int)))
                              (.ite (decide ((0 : Int) < r113.2.1.status))
                                (.ite (decide (r113.2.1.pages = x0.u.pages))
                                  (.opt Bool (law09_alive q) fun r124 =>
                                    .leaf (r124))
                                  (.leaf (false)))
                                (.leaf (false)))
                              (.leaf (false)))))
                        (.ite (decide (r113.2.2 = (0 : Int)))
                          (.opt Bool (law09_alive q) fun r125 =>
                            .leaf (r125))
                          (.ite (decide (r113.1 = (0 : Int)))
                            (.ite (decide ((0 : Int) < r113.2.1.status))
                              (.ite (decide (r113.2.1.pages = x0.u.pages))
                                (.opt Bool (law09_alive q) fun r126 =>
                                  .leaf (r126))
                                (.leaf (false)))
                              (.leaf (false)))
                            (.leaf (false)))))))
                  (.ite (!decide (r113.2.2 = (0 : Int)))
                    (.ite (!x0.u.on)
                      (.leaf (false))
                      (.ite (decide (r113.2.2 = (0 : Int)))
                        (.ite (!x0.write)
                          (.ite (!((r113.2.1.on == x0.u.on) && ((decide (r113.2.1.pages = x0.u.pages)) && ((decide (r113.2.1.status = x0.u.status)) && (decide (r113.2.1.addr = x0.u.addr))))))
                            (.leaf (false))
                            (.ite (decide (r113.2.2 = (0 : Int)))
                              (.opt Bool (law09_alive q) fun r127 =>
                                .leaf (r127))
                              (.ite (decide (r113.1 = (0 : Int)))
                                (.ite (decide ((0 : Int) < r113.2.1.status))
                                  (.ite (decide (r113.2.1.pages = x0.u.pages))
                                    (.opt Bool (law09_alive q) fun r128 =>
                                      .leaf (r128))
                                    (.leaf (false)))
                                  (.leaf (false)))
                                (.leaf (false)))))
                          (.ite (decide (r113.2.2 = (0 : Int)))
                            (.opt Bool (law09_alive q) fun r129 =>
                              .leaf (r129))
                            (.ite (decide (r113.1 = (0 : Int)))
                              (.ite (decide ((0 : Int) < r113.2.1.status))
                                (.ite (decide (r113.2.1.pages = x0.u.pages))
                                  (.opt Bool (law09_alive q) fun r130 =>
                                    .leaf (r130))
                                  (.leaf (false)))
                                (.leaf (false)))
                              (.leaf (false)))))
                        (.ite (decide (r113.2.2 = (0 : Int)))
                          (.opt Bool (law09_alive q) fun r131 =>
                            .leaf (r131))
                          (.ite (decide (r113.1 = (0 : Int)))
                            (.ite (decide ((0 : Int) < r113.2.1.status))
                              (.ite (decide (r113.2.1.pages = x0.u.pages))
                                (.opt Bool (law09_alive q) fun r132 =>
                                  .leaf (r132))
                                (.leaf (false)))
                              (.leaf (false)))
                            (.leaf (false))))))
                    (.ite (decide (r113.2.2 = (0 : Int)))
                      (.ite (!x0.write)
                        (.ite (!((r113.2.1.on == x0.u.on) && ((decide (r113.2.1.pages = x0.u.pages)) && ((decide (r113.2.1.status = x0.u.status)) && (decide (r113.2.1.addr = x0.u.addr))))))
                          (.leaf (false))
                          (.ite (decide (r113.2.2 = (0 : Int)))
                            (.opt Bool (law09_alive q) fun r133 =>
                              .leaf (r133))
                            (.ite (decide (r113.1 = (0 : Int)))
                              (.ite (decide ((0 : Int) < r113.2.1.status))
                                (.ite (decide (r113.2.1.pages = x0.u.pages))
                                  (.opt Bool (law09_alive q) fun r134 =>
                                    .leaf (r134))
                                  (.leaf (false)))
                                (.leaf (false)))
                              (.leaf (false)))))
                        (.ite (decide (r113.2.2 = (0 : Int)))
                          (.opt Bool (law09_alive q) fun r135 =>
                            .leaf (r135))
                          (.ite (decide (r113.1 = (0 : Int)))
                            (.ite (decide ((0 : Int) < r113.2.1.status))
                              (.ite (decide (r113.2.1.pages = x0.u.pages))
                                (.opt Bool (law09_alive q) fun r136 =>
                                  .leaf (r136))
                                (.leaf (false)))
                              (.leaf (false)))
                            (.leaf (false)))))
                      (.ite (decide (r113.2.2 = (0 : Int)))
                        (.opt Bool (law09_alive q) fun r137 =>
                          .leaf (r137))
                        (.ite (decide (r113.1 = (0 : Int)))
                          (.ite (decide ((0 : Int) < r113.2.1.status))
                            (.ite (decide (r113.2.1.pages = x0.u.pages))
                              (.opt Bool (law09_alive q) fun r138 =>
                                .leaf (r138))
                              (.leaf (false)))
                            (.leaf (false)))
                          (.leaf (false))))))))))
noncomputable def law09_MmuQuiet (q : Option Nat) (x0 : Access) : Option Bool := (Tlaw09_MmuQuiet q x0).run
theorem lelaw09_MmuQuiet (k : Nat) (x0 : Access) : Le (law09_MmuQuiet (some k) x0) (law09_MmuQuiet none x0) := (TLe.opt (lemmu_Right k _) fun _ => (TLe.ite (TLe.opt (lelaw09_alive k) fun _ => TLe.rfl) (TLe.opt Le.rfl fun _ => (TLe.opt (lemmu_Right k _) fun _ => (TLe.ite TLe.rfl (TLe.ite TLe.rfl (TLe.ite TLe.rfl (TLe.ite (TLe.ite TLe.rfl (TLe.ite (TLe.ite TLe.rfl (TLe.ite (TLe.ite (TLe.ite TLe.rfl (TLe.ite (TLe.opt (lelaw09_alive k) fun _ => TLe.rfl) (TLe.ite (TLe.ite (TLe.ite (TLe.opt (lelaw09_alive k) fun _ => TLe.rfl) TLe.rfl) TLe.rfl) TLe.rfl))) (TLe.ite (TLe.opt (lelaw09_alive k) fun _ => TLe.rfl) (TLe.ite (TLe.ite (TLe.ite (TLe.opt (lelaw09_alive k) fun _ => TLe.rfl) TLe.rfl) TLe.rfl) TLe.rfl))) (TLe.ite (TLe.opt (lelaw09_alive k) fun _ => TLe.rfl) (TLe.ite (TLe.ite (TLe.ite (TLe.opt (lelaw09_alive k) fun _ => TLe.rfl) TLe.rfl) TLe.rfl) TLe.rfl)))) (TLe.ite (TLe.ite (TLe.ite TLe.rfl (TLe.ite (TLe.opt (lelaw09_alive k) fun _ => TLe.rfl) (TLe.ite (TLe.ite (TLe.ite (TLe.opt (lelaw09_alive k) fun _ => TLe.rfl) TLe.rfl) TLe.rfl) TLe.rfl))) (TLe.ite (TLe.opt (lelaw09_alive k) fun _ => TLe.rfl) (TLe.ite (TLe.ite (TLe.ite (TLe.opt (lelaw09_alive k) fun _ => TLe.rfl) TLe.rfl) TLe.rfl) TLe.rfl))) (TLe.ite (TLe.opt (lelaw09_alive k) fun _ => TLe.rfl) (TLe.ite (TLe.ite (TLe.ite (TLe.opt (lelaw09_alive k) fun _ => TLe.rfl) TLe.rfl) TLe.rfl) TLe.rfl))))) (TLe.ite (TLe.ite TLe.rfl (TLe.ite (TLe.ite (TLe.ite TLe.rfl (TLe.ite (TLe.opt (lelaw09_alive k) fun _ => TLe.rfl) (TLe.ite (TLe.ite (TLe.ite (TLe.opt (lelaw09_alive k) fun _ => TLe.rfl) TLe.rfl) TLe.rfl) TLe.rfl))) (TLe.ite (TLe.opt (lelaw09_alive k) fun _ => TLe.rfl) (TLe.ite (TLe.ite (TLe.ite (TLe.opt (lelaw09_alive k) fun _ => TLe.rfl) TLe.rfl) TLe.rfl) TLe.rfl))) (TLe.ite (TLe.opt (lelaw09_alive k) fun _ => TLe.rfl) (TLe.ite (TLe.ite (TLe.ite (TLe.opt (lelaw09_alive k) fun _ => TLe.rfl) TLe.rfl) TLe.rfl) TLe.rfl)))) (TLe.ite (TLe.ite (TLe.ite TLe.rfl (TLe.ite (TLe.opt (lelaw09_alive k) fun _ => TLe.rfl) (TLe.ite (TLe.ite (TLe.ite (TLe.opt (lelaw09_alive k) fun _ => TLe.rfl) TLe.rfl) TLe.rfl) TLe.rfl))) (TLe.ite (TLe.opt (lelaw09_alive k) fun _ => TLe.rfl) (TLe.ite (TLe.ite (TLe.ite (TLe.opt (lelaw09_alive k) fun _ => TLe.rfl) TLe.rfl) TLe.rfl) TLe.rfl))) (TLe.ite (TLe.opt (lelaw09_alive k) fun _ => TLe.rfl) (TLe.ite (TLe.ite (TLe.ite (TLe.opt (lelaw09_alive k) fun _ => TLe.rfl) TLe.rfl) TLe.rfl) TLe.rfl))))))))))))
noncomputable def Alaw09_MmuQuiet : Arg U (Access × Unit) := aA cAccess (aNil)
noncomputable def Rlaw09_MmuQuiet (r : Bool) : List (V U) × List (Blk U) := ([vO cBool r], [])
noncomputable def Slaw09_MmuQuiet : List (V U) → List (Blk U) → Option (FnOut U) := mkSpec Alaw09_MmuQuiet bNil (fun x _ => law09_MmuQuiet none x.1) Rlaw09_MmuQuiet
noncomputable def Elaw09_MmuQuiet : Env U := { P := Try.prog, cd := cd, fns := fns6, lps := noL, frz := fun _r => false, nt := 88, n0 := 0 }
theorem runlaw09_MmuQuiet (x : Access × Unit) (g : Unit) : execF Elaw09_MmuQuiet Try.f7 (Alaw09_MmuQuiet.enc x) (bNil.enc g) = (Tlaw09_MmuQuiet none x.1).map Rlaw09_MmuQuiet := by kernel_rfl
theorem oklaw09_MmuQuiet : FnOk Try.prog cd 7 Slaw09_MmuQuiet := mk_ok (E := Elaw09_MmuQuiet) cd_ok fns6_ok Try.func7 (by kernel_rfl) (noLoops_body (by kernel_rfl)) (aA_ok cAccess_ok (aNil_ok)) bNil_ok (T := fun x _ => Tlaw09_MmuQuiet none x.1) (fun _ _ => rfl) runlaw09_MmuQuiet
noncomputable def fns7 := addF 7 true Slaw09_MmuQuiet fns6
theorem fns7_ok : ∀ f q t, fns7 f = some (q, t) → FnOk Try.prog cd f t := addF_ok oklaw09_MmuQuiet fns6_ok
/-- emulator/emulatorlaw09.MmuCopies -/
structure Slaw09_MmuCopies_0 where
  t4 : Int
  b0 : Mmu
  b1 : Mmu
noncomputable def Wlaw09_MmuCopies_0 (s : Slaw09_MmuCopies_0) : Tree (Slaw09_MmuCopies_0 ⊕ ((Bool × Mmu × Mmu) ⊕ (Mmu × Mmu))) :=
  .ite (decide (s.t4 < (80 : Int)))
    (.opt (Int × Bool) (mmu_Read s.b0 s.t4) fun r141 =>
      .ite (!r141.2)
        (.leaf (.inr (.inl (false, s.b0, s.b1))))
        (.opt (Mmu × Bool) (mmu_Write s.b1 s.t4 r141.1) fun r142 =>
          .ite (!r142.2)
            (.leaf (.inr (.inl (false, s.b0, r142.1))))
            (.leaf (.inl (Slaw09_MmuCopies_0.mk (IntKind.wrap .i64 (s.t4 + (2 : Int))) s.b0 r142.1)))))
    (.leaf (.inr (.inr (s.b0, s.b1))))
noncomputable def Llaw09_MmuCopies_0 (q : Option Nat) (s : Slaw09_MmuCopies_0) : Option ((Bool × Mmu × Mmu) ⊕ (Mmu × Mmu)) := limQ q (fun s => (Wlaw09_MmuCopies_0 s).run) s
theorem leLlaw09_MmuCopies_0 (k : Nat) (s : Slaw09_MmuCopies_0) : Le (Llaw09_MmuCopies_0 (some k) s) (Llaw09_MmuCopies_0 none s) := limQ_le (fun _ => Le.rfl) s
structure Slaw09_MmuCopies_2 where
  t7 : Int
  t8 : Int
  b0 : Mmu
  b1 : Mmu
noncomputable def Wlaw09_MmuCopies_2 (s : Slaw09_MmuCopies_2) : Tree (Slaw09_MmuCopies_2 ⊕ (Int × Mmu × Mmu)) :=
  .ite (decide (s.t8 < (8 : Int)))
    (.ite (decide (0 ≤ s.t7))
      (.ite (decide (s.t7 < (2 : Int)))
        (.ite (decide (0 ≤ s.t8))
          (.ite (decide (s.t8 < (8 : Int)))
            (.opt Page (s.b0.pages[(s.t7).toNat * 8 + (s.t8).toNat * 1]?) fun y146 =>
              .leaf (.inl (Slaw09_MmuCopies_2.mk s.t7 (IntKind.wrap .i64 (s.t8 + (1 : Int))) (Mmu.mk s.b0.on (s.b0.pages.set ((s.t7).toNat * 8 + (s.t8).toNat * 1) (Page.mk y146.base y146.length y146.access false)) s.b0.status s.b0.addr) s.b1)))
            .fail)
          .fail)
        .fail)
      .fail)
    (.leaf (.inr (s.t7, s.b0, s.b1)))
noncomputable def Llaw09_MmuCopies_2 (q : Option Nat) (s : Slaw09_MmuCopies_2) : Option (Int × Mmu × Mmu) := limQ q (fun s => (Wlaw09_MmuCopies_2 s).run) s
theorem leLlaw09_MmuCopies_2 (k : Nat) (s : Slaw09_MmuCopies_2) : Le (Llaw09_MmuCopies_2 (some k) s) (Llaw09_MmuCopies_2 none s) := limQ_le (fun _ => Le.rfl) s
structure Slaw09_MmuCopies_1 where
  t7 : Int
  b0 : Mmu
  b1 : Mmu
noncomputable def Wlaw09_MmuCopies_1 (q : Option Nat) (s : Slaw09_MmuCopies_1) : Tree (Slaw09_MmuCopies_1 ⊕ (Mmu × Mmu)) :=
  .ite (decide (s.t7 < (2 : Int)))
    (.opt (Int × Mmu × Mmu) (Llaw09_MmuCopies_2 q (Slaw09_MmuCopies_2.mk s.t7 (0 : Int) s.b0 s.b1)) fun l147 =>
      .leaf (.inl (Slaw09_MmuCopies_1.mk (IntKind.wrap .i64 (l147.1 + (1 : Int))) l147.2.1 l147.2.2)))
    (.leaf (.inr (s.b0, s.b1)))
noncomputable def Llaw09_MmuCopies_1 (q : Option Nat) (s : Slaw09_MmuCopies_1) : Option (Mmu × Mmu) := limQ q (fun s => (Wlaw09_MmuCopies_1 q s).run) s
theorem leLlaw09_MmuCopies_1 (k : Nat) (s : Slaw09_MmuCopies_1) : Le (Llaw09_MmuCopies_1 (some k) s) (Llaw09_MmuCopies_1 none s) := limQ_le (fun s => (TLe.ite (TLe.opt (leLlaw09_MmuCopies_2 k _) fun _ => TLe.rfl) TLe.rfl)) s
noncomputable def Tlaw09_MmuCopies (q : Option Nat) (x0 : Mmu) : Tree Bool :=
  .opt Bool (mmu_Right q x0) fun r139 =>
    .ite (!r139)
      (.opt Bool (law09_alive q) fun r140 =>
        .leaf (r140))
      (.opt ((Bool × Mmu × Mmu) ⊕ (Mmu × Mmu)) (Llaw09_MmuCopies_0 q (Slaw09_MmuCopies_0.mk (16 : Int) x0 (Mmu.mk false (List.replicate 16 (Page.mk 0 0 0 false)) 0 0))) fun l143 =>
        .ite (l143.isLeft)
          (.opt (Bool × Mmu × Mmu) (l143.getLeft?) fun a144 =>
            .leaf (a144.1))
          (.opt (Mmu × Mmu) (l143.getRight?) fun b145 =>
            .opt (Mmu × Mmu) (Llaw09_MmuCopies_1 q (Slaw09_MmuCopies_1.mk (0 : Int) b145.1 b145.2)) fun l148 =>
              .ite (decide (l148.2.pages = l148.1.pages))
                (.opt Bool (law09_alive q) fun r149 =>
                  .leaf (r149))
                (.leaf (false))))
noncomputable def law09_MmuCopies (q : Option Nat) (x0 : Mmu) : Option Bool := (Tlaw09_MmuCopies q x0).run
theorem lelaw09_MmuCopies (k : Nat) (x0 : Mmu) : Le (law09_MmuCopies (some k) x0) (law09_MmuCopies none x0) := (TLe.opt (lemmu_Right k _) fun _ => (TLe.ite (TLe.opt (lelaw09_alive k) fun _ => TLe.rfl) (TLe.opt (leLlaw09_MmuCopies_0 k _) fun _ => (TLe.ite TLe.rfl (TLe.opt Le.rfl fun _ => (TLe.opt (leLlaw09_MmuCopies_1 k _) fun _ => (TLe.ite (TLe.opt (lelaw09_alive k) fun _ => TLe.rfl) TLe.rfl)))))))
noncomputable def Alaw09_MmuCopies : Arg U (Mmu × Unit) := aA cMmu (aNil)
noncomputable def Rlaw09_MmuCopies (r : Bool) : List (V U) × List (Blk U) := ([vO cBool r], [])
noncomputable def Slaw09_MmuCopies : List (V U) → List (Blk U) → Option (FnOut U) := mkSpec Alaw09_MmuCopies bNil (fun x _ => law09_MmuCopies none x.1) Rlaw09_MmuCopies
noncomputable def Plaw09_MmuCopies_0 (x : (Unit) × (Unit) × (Int × Unit) × Unit) (g : (Mmu × Unit) × (Mmu × Unit) × Unit) : Slaw09_MmuCopies_0 := Slaw09_MmuCopies_0.mk x.2.2.1.1 g.1.1 g.2.1.1
noncomputable def tAlaw09_MmuCopies_0 : Tms U ((Unit) × (Unit) × (Int × Unit) × Unit) := tO 1 (cK (.ptr 0 0) (cUnit)) (tO 3 (cK (.ptr 1 0) (cUnit)) (tO 4 (cPair (cInt .i64) (cUnit)) (tNil)))
noncomputable def tBlaw09_MmuCopies_0 : Bls U ((Mmu × Unit) × (Mmu × Unit) × Unit) := bC (cPair cMmu (cUnit)) (bC (cPair cMmu (cUnit)) (bNil))
noncomputable def eSlaw09_MmuCopies_0 (s : Slaw09_MmuCopies_0) : St U := { tm := [(1, .v (vO (cK (.ptr 0 0) (cUnit)) (()))), (3, .v (vO (cK (.ptr 1 0) (cUnit)) (()))), (4, .v (vO (cPair (cInt .i64) (cUnit)) (s.t4, ())))], hp := [.cells ((cPair cMmu (cUnit) : Cdc U (Mmu × Unit)).enc (s.b0, ())), .cells ((cPair cMmu (cUnit) : Cdc U (Mmu × Unit)).enc (s.b1, ()))] }
noncomputable def xSlaw09_MmuCopies_0 : ((Bool × Mmu × Mmu) ⊕ (Mmu × Mmu)) → Ex × St U
  | .inl r => (.ret, { tm := [(1, .v (vO (cK (.ptr 0 0) (cUnit)) (()))), (2, .v (vO (cPair cBool (cUnit)) (r.1, ()))), (3, .v (vO (cK (.ptr 1 0) (cUnit)) (())))], hp := [.cells ((cPair cMmu (cUnit) : Cdc U (Mmu × Unit)).enc (r.2.1, ())), .cells ((cPair cMmu (cUnit) : Cdc U (Mmu × Unit)).enc (r.2.2, ()))] })
  | .inr r => (.exit 0, { tm := [(1, .v (vO (cK (.ptr 0 0) (cUnit)) (()))), (3, .v (vO (cK (.ptr 1 0) (cUnit)) (())))], hp := [.cells ((cPair cMmu (cUnit) : Cdc U (Mmu × Unit)).enc (r.1, ())), .cells ((cPair cMmu (cUnit) : Cdc U (Mmu × Unit)).enc (r.2, ()))] })
noncomputable def xTlaw09_MmuCopies_0 (y : ((Bool × Mmu × Mmu) ⊕ (Mmu × Mmu))) : Tree (Ex × St U) := .ite y.isLeft (.opt (Bool × Mmu × Mmu) y.getLeft? fun r => .leaf (.ret, { tm := [(1, .v (vO (cK (.ptr 0 0) (cUnit)) (()))), (2, .v (vO (cPair cBool (cUnit)) (r.1, ()))), (3, .v (vO (cK (.ptr 1 0) (cUnit)) (())))], hp := [.cells ((cPair cMmu (cUnit) : Cdc U (Mmu × Unit)).enc (r.2.1, ())), .cells ((cPair cMmu (cUnit) : Cdc U (Mmu × Unit)).enc (r.2.2, ()))] })) (.opt (Mmu × Mmu) y.getRight? fun r => .leaf (.exit 0, { tm := [(1, .v (vO (cK (.ptr 0 0) (cUnit)) (()))), (3, .v (vO (cK (.ptr 1 0) (cUnit)) (())))], hp := [.cells ((cPair cMmu (cUnit) : Cdc U (Mmu × Unit)).enc (r.1, ())), .cells ((cPair cMmu (cUnit) : Cdc U (Mmu × Unit)).enc (r.2, ()))] }))
noncomputable def hlaw09_MmuCopies_0 : Hd := { keep := [1, 3, 4], xkeep := [1, 2, 3], own := false }
noncomputable def Plaw09_MmuCopies_1 (x : (Unit) × (Unit) × (Int × Unit) × Unit) (g : (Mmu × Unit) × (Mmu × Unit) × Unit) : Slaw09_MmuCopies_1 := Slaw09_MmuCopies_1.mk x.2.2.1.1 g.1.1 g.2.1.1
noncomputable def tAlaw09_MmuCopies_1 : Tms U ((Unit) × (Unit) × (Int × Unit) × Unit) := tO 1 (cK (.ptr 0 0) (cUnit)) (tO 3 (cK (.ptr 1 0) (cUnit)) (tO 7 (cPair (cInt .i64) (cUnit)) (tNil)))
noncomputable def tBlaw09_MmuCopies_1 : Bls U ((Mmu × Unit) × (Mmu × Unit) × Unit) := bC (cPair cMmu (cUnit)) (bC (cPair cMmu (cUnit)) (bNil))
noncomputable def eSlaw09_MmuCopies_1 (s : Slaw09_MmuCopies_1) : St U := { tm := [(1, .v (vO (cK (.ptr 0 0) (cUnit)) (()))), (3, .v (vO (cK (.ptr 1 0) (cUnit)) (()))), (7, .v (vO (cPair (cInt .i64) (cUnit)) (s.t7, ())))], hp := [.cells ((cPair cMmu (cUnit) : Cdc U (Mmu × Unit)).enc (s.b0, ())), .cells ((cPair cMmu (cUnit) : Cdc U (Mmu × Unit)).enc (s.b1, ()))] }
noncomputable def xSlaw09_MmuCopies_1 (r : (Mmu × Mmu)) : Ex × St U := (.exit 2, { tm := [(1, .v (vO (cK (.ptr 0 0) (cUnit)) (()))), (3, .v (vO (cK (.ptr 1 0) (cUnit)) (())))], hp := [.cells ((cPair cMmu (cUnit) : Cdc U (Mmu × Unit)).enc (r.1, ())), .cells ((cPair cMmu (cUnit) : Cdc U (Mmu × Unit)).enc (r.2, ()))] })
noncomputable def xTlaw09_MmuCopies_1 (r : (Mmu × Mmu)) : Tree (Ex × St U) := .leaf (xSlaw09_MmuCopies_1 r)
noncomputable def hlaw09_MmuCopies_1 : Hd := { keep := [1, 3, 7], xkeep := [1, 2, 3], own := false }
noncomputable def Plaw09_MmuCopies_2 (x : (Unit) × (Unit) × (Int × Unit) × (Int × Unit) × Unit) (g : (Mmu × Unit) × (Mmu × Unit) × Unit) : Slaw09_MmuCopies_2 := Slaw09_MmuCopies_2.mk x.2.2.1.1 x.2.2.2.1.1 g.1.1 g.2.1.1
noncomputable def tAlaw09_MmuCopies_2 : Tms U ((Unit) × (Unit) × (Int × Unit) × (Int × Unit) × Unit) := tO 1 (cK (.ptr 0 0) (cUnit)) (tO 3 (cK (.ptr 1 0) (cUnit)) (tO 7 (cPair (cInt .i64) (cUnit)) (tO 8 (cPair (cInt .i64) (cUnit)) (tNil))))
noncomputable def tBlaw09_MmuCopies_2 : Bls U ((Mmu × Unit) × (Mmu × Unit) × Unit) := bC (cPair cMmu (cUnit)) (bC (cPair cMmu (cUnit)) (bNil))
noncomputable def eSlaw09_MmuCopies_2 (s : Slaw09_MmuCopies_2) : St U := { tm := [(1, .v (vO (cK (.ptr 0 0) (cUnit)) (()))), (3, .v (vO (cK (.ptr 1 0) (cUnit)) (()))), (7, .v (vO (cPair (cInt .i64) (cUnit)) (s.t7, ()))), (8, .v (vO (cPair (cInt .i64) (cUnit)) (s.t8, ())))], hp := [.cells ((cPair cMmu (cUnit) : Cdc U (Mmu × Unit)).enc (s.b0, ())), .cells ((cPair cMmu (cUnit) : Cdc U (Mmu × Unit)).enc (s.b1, ()))] }
noncomputable def xSlaw09_MmuCopies_2 (r : (Int × Mmu × Mmu)) : Ex × St U := (.exit 4, { tm := [(1, .v (vO (cK (.ptr 0 0) (cUnit)) (()))), (3, .v (vO (cK (.ptr 1 0) (cUnit)) (()))), (7, .v (vO (cPair (cInt .i64) (cUnit)) (r.1, ())))], hp := [.cells ((cPair cMmu (cUnit) : Cdc U (Mmu × Unit)).enc (r.2.1, ())), .cells ((cPair cMmu (cUnit) : Cdc U (Mmu × Unit)).enc (r.2.2, ()))] })
noncomputable def xTlaw09_MmuCopies_2 (r : (Int × Mmu × Mmu)) : Tree (Ex × St U) := .leaf (xSlaw09_MmuCopies_2 r)
noncomputable def hlaw09_MmuCopies_2 : Hd := { keep := [1, 3, 7, 8], xkeep := [1, 2, 3, 7], own := false }
noncomputable def Elaw09_MmuCopies : Env U := { P := Try.prog, cd := cd, fns := fns7, lps := (addL 0 hlaw09_MmuCopies_0 (mkLoop tAlaw09_MmuCopies_0 tBlaw09_MmuCopies_0 Plaw09_MmuCopies_0 (Llaw09_MmuCopies_0 none) xTlaw09_MmuCopies_0) (addL 1 hlaw09_MmuCopies_1 (mkLoop tAlaw09_MmuCopies_1 tBlaw09_MmuCopies_1 Plaw09_MmuCopies_1 (Llaw09_MmuCopies_1 none) xTlaw09_MmuCopies_1) (addL 2 hlaw09_MmuCopies_2 (mkLoop tAlaw09_MmuCopies_2 tBlaw09_MmuCopies_2 Plaw09_MmuCopies_2 (Llaw09_MmuCopies_2 none) xTlaw09_MmuCopies_2) noL))), frz := fun _r => false, nt := 56, n0 := 0 }
noncomputable def Blaw09_MmuCopies_0 : Code := (loopAt (Try.f8.body.getD .skip) 0 0).getD .skip
theorem roundlaw09_MmuCopies_0 (s : Slaw09_MmuCopies_0) : round Elaw09_MmuCopies hlaw09_MmuCopies_0 Blaw09_MmuCopies_0 0 (eSlaw09_MmuCopies_0 s) = (Wlaw09_MmuCopies_0 s).map (sumE eSlaw09_MmuCopies_0 xSlaw09_MmuCopies_0) := by kernel_rfl
theorem lplaw09_MmuCopies_0 : LpOk Elaw09_MmuCopies Blaw09_MmuCopies_0 0 := mkLoop_ok (A := tAlaw09_MmuCopies_0) (B := tBlaw09_MmuCopies_0) (f := Plaw09_MmuCopies_0) (L := Llaw09_MmuCopies_0 none) (tO_ok (cK_ok cUnit_ok) (tO_ok (cK_ok cUnit_ok) (tO_ok (cPair_ok (cInt_ok .i64) cUnit_ok) tNil_ok))) (bC_ok (cPair_ok cMmu_ok cUnit_ok) (bC_ok (cPair_ok cMmu_ok cUnit_ok) bNil_ok)) (enc := eSlaw09_MmuCopies_0) (out := xTlaw09_MmuCopies_0) (outS := xSlaw09_MmuCopies_0) (step := Wlaw09_MmuCopies_0) (fun _ => rfl) (fun _ _ => by kernel_rfl) (by kernel_rfl) (fun b => by cases b <;> rfl) roundlaw09_MmuCopies_0
noncomputable def Blaw09_MmuCopies_1 : Code := (loopAt (Try.f8.body.getD .skip) 0 1).getD .skip
theorem roundlaw09_MmuCopies_1 (s : Slaw09_MmuCopies_1) : round Elaw09_MmuCopies hlaw09_MmuCopies_1 Blaw09_MmuCopies_1 1 (eSlaw09_MmuCopies_1 s) = (Wlaw09_MmuCopies_1 none s).map (sumE eSlaw09_MmuCopies_1 xSlaw09_MmuCopies_1) := by kernel_rfl
theorem lplaw09_MmuCopies_1 : LpOk Elaw09_MmuCopies Blaw09_MmuCopies_1 1 := mkLoop_ok (A := tAlaw09_MmuCopies_1) (B := tBlaw09_MmuCopies_1) (f := Plaw09_MmuCopies_1) (L := Llaw09_MmuCopies_1 none) (tO_ok (cK_ok cUnit_ok) (tO_ok (cK_ok cUnit_ok) (tO_ok (cPair_ok (cInt_ok .i64) cUnit_ok) tNil_ok))) (bC_ok (cPair_ok cMmu_ok cUnit_ok) (bC_ok (cPair_ok cMmu_ok cUnit_ok) bNil_ok)) (enc := eSlaw09_MmuCopies_1) (out := xTlaw09_MmuCopies_1) (outS := xSlaw09_MmuCopies_1) (step := Wlaw09_MmuCopies_1 none) (fun _ => rfl) (fun _ _ => by kernel_rfl) (by kernel_rfl) (fun _ => rfl) roundlaw09_MmuCopies_1
noncomputable def Blaw09_MmuCopies_2 : Code := (loopAt (Try.f8.body.getD .skip) 0 2).getD .skip
theorem roundlaw09_MmuCopies_2 (s : Slaw09_MmuCopies_2) : round Elaw09_MmuCopies hlaw09_MmuCopies_2 Blaw09_MmuCopies_2 2 (eSlaw09_MmuCopies_2 s) = (Wlaw09_MmuCopies_2 s).map (sumE eSlaw09_MmuCopies_2 xSlaw09_MmuCopies_2) := by kernel_rfl
theorem lplaw09_MmuCopies_2 : LpOk Elaw09_MmuCopies Blaw09_MmuCopies_2 2 := mkLoop_ok (A := tAlaw09_MmuCopies_2) (B := tBlaw09_MmuCopies_2) (f := Plaw09_MmuCopies_2) (L := Llaw09_MmuCopies_2 none) (tO_ok (cK_ok cUnit_ok) (tO_ok (cK_ok cUnit_ok) (tO_ok (cPair_ok (cInt_ok .i64) cUnit_ok) (tO_ok (cPair_ok (cInt_ok .i64) cUnit_ok) tNil_ok)))) (bC_ok (cPair_ok cMmu_ok cUnit_ok) (bC_ok (cPair_ok cMmu_ok cUnit_ok) bNil_ok)) (enc := eSlaw09_MmuCopies_2) (out := xTlaw09_MmuCopies_2) (outS := xSlaw09_MmuCopies_2) (step := Wlaw09_MmuCopies_2) (fun _ => rfl) (fun _ _ => by kernel_rfl) (by kernel_rfl) (fun _ => rfl) roundlaw09_MmuCopies_2
theorem runlaw09_MmuCopies (x : Mmu × Unit) (g : Unit) : execF Elaw09_MmuCopies Try.f8 (Alaw09_MmuCopies.enc x) (bNil.enc g) = (Tlaw09_MmuCopies none x.1).map Rlaw09_MmuCopies := by kernel_rfl
theorem oklaw09_MmuCopies : FnOk Try.prog cd 8 Slaw09_MmuCopies := mk_ok (E := Elaw09_MmuCopies) cd_ok fns7_ok Try.func8 (by kernel_rfl) (loops_of (addL_ok lplaw09_MmuCopies_0 (addL_ok lplaw09_MmuCopies_1 (addL_ok lplaw09_MmuCopies_2 noL_ok)))) (aA_ok cMmu_ok (aNil_ok)) bNil_ok (T := fun x _ => Tlaw09_MmuCopies none x.1) (fun _ _ => rfl) runlaw09_MmuCopies
noncomputable def fns8 := addF 8 true Slaw09_MmuCopies fns7
theorem fns8_ok : ∀ f q t, fns8 f = some (q, t) → FnOk Try.prog cd f t := addF_ok oklaw09_MmuCopies fns7_ok
/-- emulator/emulatorlaw09.MmuMapped -/
noncomputable def Tlaw09_MmuMapped (q : Option Nat) (x0 : Mmu) (x1 : Range) (x2 : Int) : Tree Bool :=
  .opt Bool (mmu_Right q x0) fun r150 =>
    .ite (!r150)
      (.opt Bool (law09_alive q) fun r151 =>
        .leaf (r151))
      (.ite (decide (x1.mode < (0 : Int)))
        (.opt Bool (law09_alive q) fun r152 =>
          .leaf (r152))
        (.ite (decide ((1 : Int) < x1.mode))
          (.opt Bool (law09_alive q) fun r153 =>
            .leaf (r153))
          (.opt (Mmu × Int) (mmu_Map q x0 x1.mode x1.base x1.blocks x1.access) fun r154 =>
            .ite (!decide (r154.2 = (0 : Int)))
              (.ite (((r154.1.on == false) && ((decide (r154.1.pages = List.replicate 16 (Page.mk 0 0 0 false))) && ((decide (r154.1.status = 0)) && (decide (r154.1.addr = 0))))))
                (.opt Bool (law09_alive q) fun r155 =>
                  .leaf (r155))
                (.leaf (false)))
              (.opt (Int × Mmu × Int) (mmu_Translate (Mmu.mk true r154.1.pages r154.1.status r154.1.addr) x1.mode (IntKind.wrap .i64 x2) false) fun r156 =>
                .ite (decide ((IntKind.wrap .i64 ((64 : Int) * x1.blocks)) ≤ (IntKind.wrap .i64 x2)))
                  (.ite (decide (r156.2.2 = (8 : Int)))
                    (.ite (decide (0 ≤ IntKind.wrap .i64 ((1 : Int) - x1.mode)))
                      (.ite (decide (IntKind.wrap .i64 ((1 : Int) - x1.mode) < (2 : Int)))
                        (.ite (decide ((IntKind.wrap .i64 ((1 : Int) - x1.mode)).toNat * 8 + 8 ≤ r154.1.pages.length))
                          (.ite (decide (0 ≤ IntKind.wrap .i64 ((1 : Int) - x1.mode)))
                            (.ite (decide (IntKind.wrap .i64 ((1 : Int) - x1.mode) < (2 : Int)))
                              (.ite (decide ((IntKind.wrap .i64 ((1 : Int) - x1.mode)).toNat * 8 + 8 ≤ x0.pages.length))
                                (.ite (decide ((r154.1.pages.drop ((IntKind.wrap .i64 ((1 : Int) - x1.mode)).toNat * 8)).take 8 = (x0.pages.drop ((IntKind.wrap .i64 ((1 : Int) - x1.mode)).toNat * 8)).take 8))
                                  (.opt Bool (law09_alive q) fun r157 =>
                                    .leaf (r157))
                                  (.leaf (false)))
                                .fail)
                              .fail)
                            .fail)
                          .fail)
                        .fail)
                      .fail)
                    (.leaf (false)))
                  (.opt (Int × Mmu × Int) (mmu_Translate (Mmu.mk true r154.1.pages r154.1.status r154.1.addr) x1.mode (IntKind.wrap .i64 x2) true) fun r158 =>
                    .ite (decide (r156.2.2 = (0 : Int)))
                      (.ite (decide (r156.1 = (IntKind.wrap .i64 ((IntKind.wrap .i64 ((64 : Int) * x1.base)) + (IntKind.wrap .i64 x2)))))
                        (.ite (((decide (r158.2.2 = (0 : Int))) == (decide (x1.access = (2 : Int)))))
                          (.ite (decide (0 ≤ IntKind.wrap .i64 ((1 : Int) - x1.mode)))
                            (.ite (decide (IntKind.wrap .i64 ((1 : Int) - x1.mode) < (2 : Int)))
                              (.ite (decide ((IntKind.wrap .i64 ((1 : Int) - x1.mode)).toNat * 8 + 8 ≤ r154.1.pages.length))
                                (.ite (decide (0 ≤ IntKind.wrap .i64 ((1 : Int) - x1.mode)))
                                  (.ite (decide (IntKind.wrap .i64 ((1 : Int) - x1.mode) < (2 : Int)))
                                    (.ite (decide ((IntKind.wrap .i64 ((1 : Int) - x1.mode)).toNat * 8 + 8 ≤ x0.pages.length))
                                      (.ite (decide ((r154.1.pages.drop ((IntKind.wrap .i64 ((1 : Int) - x1.mode)).toNat * 8)).take 8 = (x0.pages.drop ((IntKind.wrap .i64 ((1 : Int) - x1.mode)).toNat * 8)).take 8))
                                        (.opt Bool (law09_alive q) fun r159 =>
                                          .leaf (r159))
                                        (.leaf (false)))
                                      .fail)
                                    .fail)
                                  .fail)
                                .fail)
                              .fail)
                            .fail)
                          (.leaf (false)))
                        (.leaf (false)))
                      (.leaf (false)))))))
noncomputable def law09_MmuMapped (q : Option Nat) (x0 : Mmu) (x1 : Range) (x2 : Int) : Option Bool := (Tlaw09_MmuMapped q x0 x1 x2).run
theorem lelaw09_MmuMapped (k : Nat) (x0 : Mmu) (x1 : Range) (x2 : Int) : Le (law09_MmuMapped (some k) x0 x1 x2) (law09_MmuMapped none x0 x1 x2) := (TLe.opt (lemmu_Right k _) fun _ => (TLe.ite (TLe.opt (lelaw09_alive k) fun _ => TLe.rfl) (TLe.ite (TLe.opt (lelaw09_alive k) fun _ => TLe.rfl) (TLe.ite (TLe.opt (lelaw09_alive k) fun _ => TLe.rfl) (TLe.opt (lemmu_Map k _ _ _ _ _) fun _ => (TLe.ite (TLe.ite (TLe.opt (lelaw09_alive k) fun _ => TLe.rfl) TLe.rfl) (TLe.opt Le.rfl fun _ => (TLe.ite (TLe.ite (TLe.ite (TLe.ite (TLe.ite (TLe.ite (TLe.ite (TLe.ite (TLe.ite (TLe.opt (lelaw09_alive k) fun _ => TLe.rfl) TLe.rfl) TLe.rfl) TLe.rfl) TLe.rfl) TLe.rfl) TLe.rfl) TLe.rfl) TLe.rfl) (TLe.opt Le.rfl fun _ => (TLe.ite (TLe.ite (TLe.ite (TLe.ite (TLe.ite (TLe.ite (TLe.ite (TLe.ite (TLe.ite (TLe.ite (TLe.opt (lelaw09_alive k) fun _ => TLe.rfl) TLe.rfl) TLe.rfl) TLe.rfl) TLe.rfl) TLe.rfl) TLe.rfl) TLe.rfl) TLe.rfl) TLe.rfl) TLe.rfl))))))))))
noncomputable def Alaw09_MmuMapped : Arg U (Mmu × Range × Int × Unit) := aA cMmu (aA cRange (aO (cInt .u16) (aNil)))
noncomputable def Rlaw09_MmuMapped (r : Bool) : List (V U) × List (Blk U) := ([vO cBool r], [])
noncomputable def Slaw09_MmuMapped : List (V U) → List (Blk U) → Option (FnOut U) := mkSpec Alaw09_MmuMapped bNil (fun x _ => law09_MmuMapped none x.1 x.2.1 x.2.2.1) Rlaw09_MmuMapped
noncomputable def Elaw09_MmuMapped : Env U := { P := Try.prog, cd := cd, fns := fns8, lps := noL, frz := fun _r => false, nt := 135, n0 := 0 }
theorem runlaw09_MmuMapped (x : Mmu × Range × Int × Unit) (g : Unit) : execF Elaw09_MmuMapped Try.f9 (Alaw09_MmuMapped.enc x) (bNil.enc g) = (Tlaw09_MmuMapped none x.1 x.2.1 x.2.2.1).map Rlaw09_MmuMapped := by kernel_rfl
theorem oklaw09_MmuMapped : FnOk Try.prog cd 9 Slaw09_MmuMapped := mk_ok (E := Elaw09_MmuMapped) cd_ok fns8_ok Try.func9 (by kernel_rfl) (noLoops_body (by kernel_rfl)) (aA_ok cMmu_ok (aA_ok cRange_ok (aO_ok (cInt_ok .u16) (aNil_ok)))) bNil_ok (T := fun x _ => Tlaw09_MmuMapped none x.1 x.2.1 x.2.2.1) (fun _ _ => rfl) runlaw09_MmuMapped
noncomputable def fns9 := addF 9 true Slaw09_MmuMapped fns8
theorem fns9_ok : ∀ f q t, fns9 f = some (q, t) → FnOk Try.prog cd f t := addF_ok oklaw09_MmuMapped fns8_ok
end Go.Proofs.Ytocjgcccbfmoeaa
