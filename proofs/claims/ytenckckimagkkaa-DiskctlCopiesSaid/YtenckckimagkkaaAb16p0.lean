/- The types of the program, and how they are told in cells. -/
import Derived.Test.YtenckckimagkkaaAbMore
import Derived.Test.YtenckckimagkkaaAbClone
import Derived.Carry
import Derived.Ground.NamesProg
import Derived.Shelf.Lay
import Derived.WalkKit
import Derived.Shelf.SlGeneric
import Derived.Ground.SlgnProg
import Derived.Test.YtenckckimagkkaaProg
import Derived.KernelRfl
set_option linter.unusedSimpArgs false
namespace Go.Proofs.Ytenckckimagkkaa
open Go Go.Ab
structure Drive where
  sectors : (List (List UInt8))
  bad : (List Int)
  deriving DecidableEq
structure Disk where
  drive : Drive
  enable : Bool
  ready : Bool
  error : Bool
  command : Int
  words : Int
  addr : Int
  start : Int
  left : Int
  deriving DecidableEq
structure Write where
  sector : Int
  data : (List UInt8)
  deriving DecidableEq
structure Do where
  kind : Int
  n : Int
  deriving DecidableEq
structure Request where
  priority : Int
  vector : Int
  deriving DecidableEq
structure T31 where
  f0 : Int
  f1 : Int
  deriving DecidableEq
abbrev tys : List (Nat × Type) := [(3, Int), (5, Int), (9, (List UInt8)), (31, T31), (44, Do), (76, Request), (90, Write)]
abbrev U : Nat → Type := findT tys
noncomputable def cDrive : Cdc U Drive := cMap (fun x => Drive.mk x.1 x.2.1) (fun x => (x.sectors, x.bad, ())) (cPair (cSl 9) (cPair (cSl 3) (cUnit)))
theorem cDrive_ok : cDrive.Ok := cMap_ok (cPair_ok (cSl_ok 9) (cPair_ok (cSl_ok 3) cUnit_ok)) fun _ => rfl
noncomputable def cDisk : Cdc U Disk := cMap (fun x => Disk.mk x.1 x.2.1 x.2.2.1 x.2.2.2.1 x.2.2.2.2.1 x.2.2.2.2.2.1 x.2.2.2.2.2.2.1 x.2.2.2.2.2.2.2.1 x.2.2.2.2.2.2.2.2.1) (fun x => (x.drive, x.enable, x.ready, x.error, x.command, x.words, x.addr, x.start, x.left, ())) (cPair cDrive (cPair cBool (cPair cBool (cPair cBool (cPair (cInt .i64) (cPair (cInt .i64) (cPair (cInt .i64) (cPair (cInt .i64) (cPair (cInt .i64) (cUnit))))))))))
theorem cDisk_ok : cDisk.Ok := cMap_ok (cPair_ok cDrive_ok (cPair_ok cBool_ok (cPair_ok cBool_ok (cPair_ok cBool_ok (cPair_ok (cInt_ok .i64) (cPair_ok (cInt_ok .i64) (cPair_ok (cInt_ok .i64) (cPair_ok (cInt_ok .i64) (cPair_ok (cInt_ok .i64) cUnit_ok))))))))) fun _ => rfl
noncomputable def cWrite : Cdc U Write := cMap (fun x => Write.mk x.1 x.2.1) (fun x => (x.sector, x.data, ())) (cPair (cInt .i64) (cPair cStr (cUnit)))
theorem cWrite_ok : cWrite.Ok := cMap_ok (cPair_ok (cInt_ok .i64) (cPair_ok cStr_ok cUnit_ok)) fun _ => rfl
noncomputable def cDo : Cdc U Do := cMap (fun x => Do.mk x.1 x.2.1) (fun x => (x.kind, x.n, ())) (cPair (cInt .i64) (cPair (cInt .i64) (cUnit)))
theorem cDo_ok : cDo.Ok := cMap_ok (cPair_ok (cInt_ok .i64) (cPair_ok (cInt_ok .i64) cUnit_ok)) fun _ => rfl
noncomputable def cRequest : Cdc U Request := cMap (fun x => Request.mk x.1 x.2.1) (fun x => (x.priority, x.vector, ())) (cPair (cInt .i64) (cPair (cInt .i64) (cUnit)))
theorem cRequest_ok : cRequest.Ok := cMap_ok (cPair_ok (cInt_ok .i64) (cPair_ok (cInt_ok .i64) cUnit_ok)) fun _ => rfl
noncomputable def cT31 : Cdc U T31 := cMap (fun x => T31.mk x.1 x.2.1) (fun x => (x.f0, x.f1, ())) (cPair (cInt .i64) (cPair (cInt .i64) (cUnit)))
theorem cT31_ok : cT31.Ok := cMap_ok (cPair_ok (cInt_ok .i64) (cPair_ok (cInt_ok .i64) cUnit_ok)) fun _ => rfl
noncomputable def ents : Ents U tys := .cons ⟨(cInt .i64), some (0 : Int), none, some inferInstance⟩ (.cons ⟨(cInt .u8), some (0 : Int), some (fun x => x, fun x => x), some inferInstance⟩ (.cons ⟨cStr, some ([] : List UInt8), none, some inferInstance⟩ (.cons ⟨cT31, some (T31.mk (0 : Int) (0 : Int)), none, none⟩ (.cons ⟨cDo, some (Do.mk (0 : Int) (0 : Int)), none, some inferInstance⟩ (.cons ⟨cRequest, some (Request.mk (0 : Int) (0 : Int)), none, some inferInstance⟩ (.cons ⟨cWrite, some (Write.mk (0 : Int) ([] : List UInt8)), none, some inferInstance⟩ (.nil)))))))
noncomputable def cd : Cd U := cdOf ents
theorem eqSDo (cd : Cd U) (x y : Do) : eqT Try.prog cd false 4 44 (cDo.enc x) (cDo.enc y) = some (decide (x = y)) := by
  have h : eqT Try.prog cd false 4 44 (cDo.enc x) (cDo.enc y) = some (decide (x.kind = y.kind) && decide (x.n = y.n)) := by kernel_rfl
  rw [h]
  cases x; cases y; rw [Option.some.injEq, Bool.eq_iff_iff]; simp
theorem eqSRequest (cd : Cd U) (x y : Request) : eqT Try.prog cd false 4 76 (cRequest.enc x) (cRequest.enc y) = some (decide (x = y)) := by
  have h : eqT Try.prog cd false 4 76 (cRequest.enc x) (cRequest.enc y) = some (decide (x.priority = y.priority) && decide (x.vector = y.vector)) := by kernel_rfl
  rw [h]
  cases x; cases y; rw [Option.some.injEq, Bool.eq_iff_iff]; simp
theorem eqSWrite (cd : Cd U) (x y : Write) : eqT Try.prog cd false 4 90 (cWrite.enc x) (cWrite.enc y) = some (decide (x = y)) := by
  have h : eqT Try.prog cd false 4 90 (cWrite.enc x) (cWrite.enc y) = some (decide (x.sector = y.sector) && decide (x.data = y.data)) := by kernel_rfl
  rw [h]
  cases x; cases y; rw [Option.some.injEq, Bool.eq_iff_iff]; simp
theorem ents_ok : EntsOk Try.prog ents := ⟨⟨(cInt_ok .i64), (fun x => by kernel_rfl), (fun x => List.all_eq_true.1 (show (((cInt .i64) : Cdc U _).enc x).all plainC = true by kernel_rfl)), (fun f g h => by cases h), (fun d h cd x y => by cases h; exact eqT_int cd (by kernel_rfl) x y)⟩, ⟨(cInt_ok .u8), (fun x => by kernel_rfl), (fun x => List.all_eq_true.1 (show (((cInt .u8) : Cdc U _).enc x).all plainC = true by kernel_rfl)), (fun f g h => by simp only [Option.some.injEq, Prod.mk.injEq] at h; obtain ⟨rfl, rfl⟩ := h; exact ⟨by kernel_rfl, fun _ => rfl, fun _ => rfl⟩), (fun d h cd x y => by cases h; exact eqT_int cd (by kernel_rfl) x y)⟩, ⟨cStr_ok, (fun x => by kernel_rfl), (fun x => List.all_eq_true.1 (show ((cStr : Cdc U _).enc x).all plainC = true by kernel_rfl)), (fun f g h => by cases h), (fun d h cd x y => by cases h; exact eqT_string cd (by kernel_rfl) x y)⟩, ⟨cT31_ok, (fun x => by kernel_rfl), (fun x => List.all_eq_true.1 (show ((cT31 : Cdc U _).enc x).all plainC = true by kernel_rfl)), (fun f g h => by cases h), (fun d h => by cases h)⟩, ⟨cDo_ok, (fun x => by kernel_rfl), (fun x => List.all_eq_true.1 (show ((cDo : Cdc U _).enc x).all plainC = true by kernel_rfl)), (fun f g h => by cases h), (fun d h cd x y => by cases h; exact eqSDo cd x y)⟩, ⟨cRequest_ok, (fun x => by kernel_rfl), (fun x => List.all_eq_true.1 (show ((cRequest : Cdc U _).enc x).all plainC = true by kernel_rfl)), (fun f g h => by cases h), (fun d h cd x y => by cases h; exact eqSRequest cd x y)⟩, ⟨cWrite_ok, (fun x => by kernel_rfl), (fun x => List.all_eq_true.1 (show ((cWrite : Cdc U _).enc x).all plainC = true by kernel_rfl)), (fun f g h => by cases h), (fun d h cd x y => by cases h; exact eqSWrite cd x y)⟩, trivial⟩
theorem cd_ok : CdOk Try.prog cd := cdOf_ok ents ents_ok
end Go.Proofs.Ytenckckimagkkaa
namespace Go.Proofs
shelf_lay_g SlLaysE0.n41 Slgn 41 at Try 48 as Try.lays48
end Go.Proofs
namespace Go.Proofs.Ytenckckimagkkaa
open Go Go.Ab
theorem okslices_Clone_string_string : FnOk Try.prog cd 48 (cloneSpec 9 16) := clone_ok2 cd_ok Try.lays48 Try.func48 (by kernel_rfl) (by kernel_rfl) rfl rfl (by kernel_rfl)
end Go.Proofs.Ytenckckimagkkaa
namespace Go.Proofs
shelf_lay_g SlLaysE0.n41 Slgn 41 at Try 49 as Try.lays49
end Go.Proofs
namespace Go.Proofs.Ytenckckimagkkaa
open Go Go.Ab
theorem okslices_Clone_int_int : FnOk Try.prog cd 49 (cloneSpec 3 8) := clone_ok2 cd_ok Try.lays49 Try.func49 (by kernel_rfl) (by kernel_rfl) rfl rfl (by kernel_rfl)
/-- emulator/diskctl.cloned -/
noncomputable def Tdiskctl_cloned (x0 : Drive) : Tree Drive :=
  .opt (List (List UInt8)) (cloneF 16 x0.sectors) fun r4 =>
    .opt (List Int) (cloneF 8 x0.bad) fun r5 =>
      .leaf (Drive.mk r4 r5)
noncomputable def diskctl_cloned (x0 : Drive) : Option Drive := (Tdiskctl_cloned x0).run
noncomputable def Adiskctl_cloned : Arg U (Drive × Unit) := aA cDrive (aNil)
noncomputable def Rdiskctl_cloned (r : Drive) : List (V U) × List (Blk U) := ([vA cDrive r], [])
noncomputable def Sdiskctl_cloned : List (V U) → List (Blk U) → Option (FnOut U) := mkSpec Adiskctl_cloned bNil (fun x _ => diskctl_cloned x.1) Rdiskctl_cloned
noncomputable def Ediskctl_cloned : Env U := { P := Try.prog, cd := cd, fns := (addF 49 false (cloneSpec 3 8) (addF 48 false (cloneSpec 9 16) noF)), lps := noL, frz := fun _r => false, nt := 10, n0 := 0, fps := fun _r _i => bif Nat.beq _r 1 && Nat.beq _i 2 then .wr [] 2 else bif Nat.beq _r 1 && Nat.beq _i 3 then .rd [] else bif Nat.beq _r 1 && Nat.beq _i 4 then .rd [0] else .none }
theorem rundiskctl_cloned (x : Drive × Unit) (g : Unit) : execF Ediskctl_cloned Try.f31 (Adiskctl_cloned.enc x) (bNil.enc g) = (Tdiskctl_cloned x.1).map Rdiskctl_cloned := by kernel_rfl
theorem okdiskctl_cloned : FnOk Try.prog cd 31 Sdiskctl_cloned := mk_ok (E := Ediskctl_cloned) cd_ok (addF_ok okslices_Clone_int_int (addF_ok okslices_Clone_string_string noF_ok)) Try.func31 (by kernel_rfl) (noLoops_body (by kernel_rfl)) (aA_ok cDrive_ok (aNil_ok)) bNil_ok (T := fun x _ => Tdiskctl_cloned x.1) (fun _ _ => rfl) rundiskctl_cloned
noncomputable def fns31 := addF 31 true Sdiskctl_cloned noF
theorem fns31_ok : ∀ f q t, fns31 f = some (q, t) → FnOk Try.prog cd f t := addF_ok okdiskctl_cloned noF_ok
/-- emulator/diskctl.New -/
noncomputable def Tdiskctl_New (x0 : Drive) : Tree Disk :=
  .opt Drive (diskctl_cloned x0) fun r6 =>
    .leaf (Disk.mk r6 false true false 0 0 0 0 0)
noncomputable def diskctl_New (x0 : Drive) : Option Disk := (Tdiskctl_New x0).run
noncomputable def Adiskctl_New : Arg U (Drive × Unit) := aA cDrive (aNil)
noncomputable def Rdiskctl_New (r : Disk) : List (V U) × List (Blk U) := ([vA cDisk r], [])
noncomputable def Sdiskctl_New : List (V U) → List (Blk U) → Option (FnOut U) := mkSpec Adiskctl_New bNil (fun x _ => diskctl_New x.1) Rdiskctl_New
noncomputable def Ediskctl_New : Env U := { P := Try.prog, cd := cd, fns := fns31, lps := noL, frz := fun _r => false, nt := 6, n0 := 0 }
theorem rundiskctl_New (x : Drive × Unit) (g : Unit) : execF Ediskctl_New Try.f9 (Adiskctl_New.enc x) (bNil.enc g) = (Tdiskctl_New x.1).map Rdiskctl_New := by kernel_rfl
theorem okdiskctl_New : FnOk Try.prog cd 9 Sdiskctl_New := mk_ok (E := Ediskctl_New) cd_ok fns31_ok Try.func9 (by kernel_rfl) (noLoops_body (by kernel_rfl)) (aA_ok cDrive_ok (aNil_ok)) bNil_ok (T := fun x _ => Tdiskctl_New x.1) (fun _ _ => rfl) rundiskctl_New
noncomputable def fns9 := addF 9 true Sdiskctl_New fns31
theorem fns9_ok : ∀ f q t, fns9 f = some (q, t) → FnOk Try.prog cd f t := addF_ok okdiskctl_New fns31_ok
/-- emulator/emulatorlaw16.sample -/
structure Slaw16_sample_0 where
  t5 : Int
  b2 : (List (List UInt8))
  b3 : (List Int)
  b4 : (List (List UInt8))
  b5 : (List Int)
noncomputable def Wlaw16_sample_0 (s : Slaw16_sample_0) : Tree (Slaw16_sample_0 ⊕ ((List (List UInt8)) × (List Int) × (List (List UInt8)) × (List Int))) :=
  .ite (decide (s.t5 < (8 : Int)))
    (.ite (decide ((128 : Int) = (128 : Int)))
      (.ite (decide (0 ≤ (128 : Int)))
        (.ite (decide ((1 : Int) * (128 : Int) ≤ 281474976710656))
          (.ite (decide (s.t5 = (3 : Int)))
            (.ite (decide (0 ≤ (0 : Int)))
              (.ite (decide ((0 : Int) < ((List.replicate ((128 : Int)).toNat (0 : Int)).length : Int)))
                (.opt Int ((List.replicate ((128 : Int)).toNat (0 : Int))[((0 : Int)).toNat]?) fun y7 =>
                  .ite (decide (0 ≤ (1 : Int)))
                    (.ite (decide ((1 : Int) < (((List.replicate ((128 : Int)).toNat (0 : Int)).set (((0 : Int)).toNat) (1 : Int)).length : Int)))
                      (.opt Int (((List.replicate ((128 : Int)).toNat (0 : Int)).set (((0 : Int)).toNat) (1 : Int))[((1 : Int)).toNat]?) fun y8 =>
                        .ite (decide ((s.b4.length + ([(((List.replicate ((128 : Int)).toNat (0 : Int)).set (((0 : Int)).toNat) (1 : Int)).set (((1 : Int)).toNat) (2 : Int)).map fun x => UInt8.ofNat x.toNat]).length) * 16 ≤ 140737488355328))
                          (.leaf (.inl (Slaw16_sample_0.mk (IntKind.wrap .i64 (s.t5 + (1 : Int))) s.b2 s.b3 (s.b4 ++ ([(((List.replicate ((128 : Int)).toNat (0 : Int)).set (((0 : Int)).toNat) (1 : Int)).set (((1 : Int)).toNat) (2 : Int)).map fun x => UInt8.ofNat x.toNat])) s.b5)))
                          .fail)
                      .fail)
                    .fail)
                .fail)
              .fail)
            (.ite (decide ((s.b4.length + ([(List.replicate ((128 : Int)).toNat (0 : Int)).map fun x => UInt8.ofNat x.toNat]).length) * 16 ≤ 140737488355328))
              (.leaf (.inl (Slaw16_sample_0.mk (IntKind.wrap .i64 (s.t5 + (1 : Int))) s.b2 s.b3 (s.b4 ++ ([(List.replicate ((128 : Int)).toNat (0 : Int)).map fun x => UInt8.ofNat x.toNat])) s.b5)))
              .fail))
          .fail)
        .fail)
      .fail)
    (.leaf (.inr (s.b2, s.b3, s.b4, s.b5)))
noncomputable def Llaw16_sample_0 (q : Option Nat) (s : Slaw16_sample_0) : Option ((List (List UInt8)) × (List Int) × (List (List UInt8)) × (List Int)) := limQ q (fun s => (Wlaw16_sample_0 s).run) s
theorem leLlaw16_sample_0 (k : Nat) (s : Slaw16_sample_0) : Le (Llaw16_sample_0 (some k) s) (Llaw16_sample_0 none s) := limQ_le (fun _ => Le.rfl) s
noncomputable def Tlaw16_sample (q : Option Nat)  : Tree Drive :=
  .opt ((List (List UInt8)) × (List Int) × (List (List UInt8)) × (List Int)) (Llaw16_sample_0 q (Slaw16_sample_0.mk (0 : Int) ([]) ([]) ([]) ([]))) fun l9 =>
    .leaf (Drive.mk l9.2.2.1 l9.2.2.2)
noncomputable def law16_sample (q : Option Nat)  : Option Drive := (Tlaw16_sample q ).run
theorem lelaw16_sample (k : Nat)  : Le (law16_sample (some k) ) (law16_sample none ) := (TLe.opt (leLlaw16_sample_0 k _) fun _ => TLe.rfl)
noncomputable def Alaw16_sample : Arg U (Unit) := aNil
noncomputable def Rlaw16_sample (r : Drive) : List (V U) × List (Blk U) := ([vA cDrive r], [])
noncomputable def Slaw16_sample : List (V U) → List (Blk U) → Option (FnOut U) := mkSpec Alaw16_sample bNil (fun x _ => law16_sample none ) Rlaw16_sample
noncomputable def Plaw16_sample_0 (x : (Unit) × (Unit) × (Int × Unit) × Unit) (g : (Unit) × (Unit) × (List (List UInt8)) × (List Int) × (List (List UInt8)) × (List Int) × Unit) : Slaw16_sample_0 := Slaw16_sample_0.mk x.2.2.1.1 g.2.2.1 g.2.2.2.1 g.2.2.2.2.1 g.2.2.2.2.2.1
noncomputable def tAlaw16_sample_0 : Tms U ((Unit) × (Unit) × (Int × Unit) × Unit) := tO 0 (cK (.ptr 0 0) (cUnit)) (tO 1 (cK (.ptr 1 0) (cUnit)) (tO 5 (cPair (cInt .i64) (cUnit)) (tNil)))
noncomputable def tBlaw16_sample_0 : Bls U ((Unit) × (Unit) × (List (List UInt8)) × (List Int) × (List (List UInt8)) × (List Int) × Unit) := bC (cK (.row 2 0) (cK (.row 3 0) (cUnit))) (bC (cK (.row 4 0) (cK (.row 5 0) (cUnit))) (bRv 9 0 (bRv 3 0 (bRv 9 0 (bRv 3 0 (bNil))))))
noncomputable def eSlaw16_sample_0 (s : Slaw16_sample_0) : St U := { tm := [(0, .v (vO (cK (.ptr 0 0) (cUnit)) (()))), (1, .v (vO (cK (.ptr 1 0) (cUnit)) (()))), (5, .v (vO (cPair (cInt .i64) (cUnit)) (s.t5, ())))], hp := [.cells ((cK (.row 2 0) (cK (.row 3 0) (cUnit)) : Cdc U (Unit)).enc (())) none, .cells ((cK (.row 4 0) (cK (.row 5 0) (cUnit)) : Cdc U (Unit)).enc (())) none, .row 9 0 s.b2, .row 3 0 s.b3, .row 9 0 s.b4, .row 3 0 s.b5] }
noncomputable def xSlaw16_sample_0 (r : ((List (List UInt8)) × (List Int) × (List (List UInt8)) × (List Int))) : Ex × St U := (.exit 0, { tm := [(0, .v (vO (cK (.ptr 0 0) (cUnit)) (()))), (1, .v (vO (cK (.ptr 1 0) (cUnit)) (())))], hp := [.cells ((cK (.row 2 0) (cK (.row 3 0) (cUnit)) : Cdc U (Unit)).enc (())) none, .cells ((cK (.row 4 0) (cK (.row 5 0) (cUnit)) : Cdc U (Unit)).enc (())) none, .row 9 0 r.1, .row 3 0 r.2.1, .row 9 0 r.2.2.1, .row 3 0 r.2.2.2] })
noncomputable def xTlaw16_sample_0 (r : ((List (List UInt8)) × (List Int) × (List (List UInt8)) × (List Int))) : Tree (Ex × St U) := .leaf (xSlaw16_sample_0 r)
noncomputable def hlaw16_sample_0 : Hd := { keep := [0, 1, 5], xkeep := [0, 1], own := true }
noncomputable def Elaw16_sample : Env U := { P := Try.prog, cd := cd, fns := fns9, lps := (addL 0 hlaw16_sample_0 (mkLoop tAlaw16_sample_0 tBlaw16_sample_0 Plaw16_sample_0 (Llaw16_sample_0 none) xTlaw16_sample_0) noL), frz := fun _r => false, nt := 24, n0 := 0 }
noncomputable def Blaw16_sample_0 : Code := (loopAt (Try.f10.body.getD .skip) 0 0).getD .skip
theorem roundlaw16_sample_0 (s : Slaw16_sample_0) : round Elaw16_sample hlaw16_sample_0 Blaw16_sample_0 0 (eSlaw16_sample_0 s) = (Wlaw16_sample_0 s).map (sumE eSlaw16_sample_0 xSlaw16_sample_0) := by kernel_rfl
theorem lplaw16_sample_0 : LpOk Elaw16_sample Blaw16_sample_0 0 := mkLoop_ok (A := tAlaw16_sample_0) (B := tBlaw16_sample_0) (f := Plaw16_sample_0) (L := Llaw16_sample_0 none) (tO_ok (cK_ok cUnit_ok) (tO_ok (cK_ok cUnit_ok) (tO_ok (cPair_ok (cInt_ok .i64) cUnit_ok) tNil_ok))) (bC_ok (cK_ok (cK_ok cUnit_ok)) (bC_ok (cK_ok (cK_ok cUnit_ok)) (bRv_ok (bRv_ok (bRv_ok (bRv_ok bNil_ok)))))) (enc := eSlaw16_sample_0) (out := xTlaw16_sample_0) (outS := xSlaw16_sample_0) (step := Wlaw16_sample_0) (fun _ => rfl) (fun _ _ => by kernel_rfl) (by kernel_rfl) (fun _ => rfl) roundlaw16_sample_0
theorem runlaw16_sample (x : Unit) (g : Unit) : execF Elaw16_sample Try.f10 (Alaw16_sample.enc x) (bNil.enc g) = (Tlaw16_sample none ).map Rlaw16_sample := by kernel_rfl
theorem oklaw16_sample : FnOk Try.prog cd 10 Slaw16_sample := mk_ok (E := Elaw16_sample) cd_ok fns9_ok Try.func10 (by kernel_rfl) (loops_of (addL_ok lplaw16_sample_0 noL_ok)) (aNil_ok) bNil_ok (T := fun x _ => Tlaw16_sample none ) (fun _ _ => rfl) runlaw16_sample
noncomputable def fns10 := addF 10 true Slaw16_sample fns9
theorem fns10_ok : ∀ f q t, fns10 f = some (q, t) → FnOk Try.prog cd f t := addF_ok oklaw16_sample fns9_ok
/-- emulator/diskctl.command -/
noncomputable def Tdiskctl_command (x0 : Disk) (x1 : Int) : Tree Disk :=
  .ite (!x0.ready)
    (.leaf (Disk.mk x0.drive (!decide ((IntKind.wrap .i64 (((BitVec.ofInt 64 x1 &&& BitVec.ofInt 64 (64 : Int)).toNat : Int))) = (0 : Int))) x0.ready x0.error x0.command x0.words x0.addr x0.start x0.left))
    (.ite (decide ((IntKind.wrap .i64 (((BitVec.ofInt 64 x1 &&& BitVec.ofInt 64 (1 : Int)).toNat : Int))) = (0 : Int)))
      (.leaf (Disk.mk x0.drive (!decide ((IntKind.wrap .i64 (((BitVec.ofInt 64 x1 &&& BitVec.ofInt 64 (64 : Int)).toNat : Int))) = (0 : Int))) x0.ready x0.error x0.command x0.words x0.addr x0.start x0.left))
      (.ite (decide (0 ≤ (1 : Int)))
        (.ite (!decide ((IntKind.wrap .i64 (((BitVec.ofInt 64 ((x1).fdiv (2 ^ (min ((1 : Int)).toNat 64))) &&& BitVec.ofInt 64 (3 : Int)).toNat : Int))) = (0 : Int)))
          (.ite (!decide (x0.words = (0 : Int)))
            (.leaf (Disk.mk x0.drive (!decide ((IntKind.wrap .i64 (((BitVec.ofInt 64 x1 &&& BitVec.ofInt 64 (64 : Int)).toNat : Int))) = (0 : Int))) false false (IntKind.wrap .i64 (((BitVec.ofInt 64 ((x1).fdiv (2 ^ (min ((1 : Int)).toNat 64))) &&& BitVec.ofInt 64 (3 : Int)).toNat : Int))) x0.words x0.addr x0.start (8 : Int)))
            (.leaf (Disk.mk x0.drive (!decide ((IntKind.wrap .i64 (((BitVec.ofInt 64 x1 &&& BitVec.ofInt 64 (64 : Int)).toNat : Int))) = (0 : Int))) x0.ready false (IntKind.wrap .i64 (((BitVec.ofInt 64 ((x1).fdiv (2 ^ (min ((1 : Int)).toNat 64))) &&& BitVec.ofInt 64 (3 : Int)).toNat : Int))) x0.words x0.addr x0.start x0.left)))
          (.leaf (Disk.mk x0.drive (!decide ((IntKind.wrap .i64 (((BitVec.ofInt 64 x1 &&& BitVec.ofInt 64 (64 : Int)).toNat : Int))) = (0 : Int))) x0.ready false (IntKind.wrap .i64 (((BitVec.ofInt 64 ((x1).fdiv (2 ^ (min ((1 : Int)).toNat 64))) &&& BitVec.ofInt 64 (3 : Int)).toNat : Int))) x0.words x0.addr x0.start x0.left)))
        .fail))
noncomputable def diskctl_command (x0 : Disk) (x1 : Int) : Option Disk := (Tdiskctl_command x0 x1).run
noncomputable def Adiskctl_command : Arg U (Disk × Int × Unit) := aA cDisk (aO (cInt .i64) (aNil))
noncomputable def Rdiskctl_command (r : Disk) : List (V U) × List (Blk U) := ([vA cDisk r], [])
noncomputable def Sdiskctl_command : List (V U) → List (Blk U) → Option (FnOut U) := mkSpec Adiskctl_command bNil (fun x _ => diskctl_command x.1 x.2.1) Rdiskctl_command
noncomputable def Ediskctl_command : Env U := { P := Try.prog, cd := cd, fns := fns10, lps := noL, frz := fun _r => false, nt := 34, n0 := 0 }
theorem rundiskctl_command (x : Disk × Int × Unit) (g : Unit) : execF Ediskctl_command Try.f42 (Adiskctl_command.enc x) (bNil.enc g) = (Tdiskctl_command x.1 x.2.1).map Rdiskctl_command := by kernel_rfl
theorem okdiskctl_command : FnOk Try.prog cd 42 Sdiskctl_command := mk_ok (E := Ediskctl_command) cd_ok fns10_ok Try.func42 (by kernel_rfl) (noLoops_body (by kernel_rfl)) (aA_ok cDisk_ok (aO_ok (cInt_ok .i64) (aNil_ok))) bNil_ok (T := fun x _ => Tdiskctl_command x.1 x.2.1) (fun _ _ => rfl) rundiskctl_command
noncomputable def fns42 := addF 42 true Sdiskctl_command fns10
theorem fns42_ok : ∀ f q t, fns42 f = some (q, t) → FnOk Try.prog cd f t := addF_ok okdiskctl_command fns10_ok
/-- emulator/diskctl.Write -/
noncomputable def Tdiskctl_Write (x0 : Disk) (x1 : Int) (x2 : Int) : Tree (Disk × Bool) :=
  .ite (decide (x1 = (0 : Int)))
    (.opt Disk (diskctl_command x0 (IntKind.wrap .i64 (((BitVec.ofInt 64 x2 &&& BitVec.ofInt 64 (65535 : Int)).toNat : Int)))) fun r10 =>
      .leaf ((r10, true)))
    (.ite (decide (x1 = (2 : Int)))
      (.ite (x0.ready)
        (.leaf ((Disk.mk x0.drive x0.enable x0.ready x0.error x0.command (IntKind.wrap .i64 (((BitVec.ofInt 64 x2 &&& BitVec.ofInt 64 (65535 : Int)).toNat : Int))) x0.addr x0.start x0.left, true)))
        (.leaf ((x0, true))))
      (.ite (decide (x1 = (4 : Int)))
        (.ite (x0.ready)
          (.leaf ((Disk.mk x0.drive x0.enable x0.ready x0.error x0.command x0.words (IntKind.wrap .i64 (((BitVec.ofInt 64 (IntKind.wrap .i64 (((BitVec.ofInt 64 x2 &&& BitVec.ofInt 64 (65535 : Int)).toNat : Int))) &&& ~~~BitVec.ofInt 64 (1 : Int)).toNat : Int))) x0.start x0.left, true)))
          (.leaf ((x0, true))))
        (.ite (decide (x1 = (6 : Int)))
          (.ite (x0.ready)
            (.leaf ((Disk.mk x0.drive x0.enable x0.ready x0.error x0.command x0.words x0.addr (IntKind.wrap .i64 (((BitVec.ofInt 64 x2 &&& BitVec.ofInt 64 (65535 : Int)).toNat : Int))) x0.left, true)))
            (.leaf ((x0, true))))
          (.leaf ((Disk.mk (Drive.mk ([]) ([])) false false false 0 0 0 0 0, false))))))
noncomputable def diskctl_Write (x0 : Disk) (x1 : Int) (x2 : Int) : Option (Disk × Bool) := (Tdiskctl_Write x0 x1 x2).run
noncomputable def Adiskctl_Write : Arg U (Disk × Int × Int × Unit) := aA cDisk (aO (cInt .i64) (aO (cInt .i64) (aNil)))
noncomputable def Rdiskctl_Write (r : (Disk × Bool)) : List (V U) × List (Blk U) := ([vA cDisk r.1, vO cBool r.2], [])
noncomputable def Sdiskctl_Write : List (V U) → List (Blk U) → Option (FnOut U) := mkSpec Adiskctl_Write bNil (fun x _ => diskctl_Write x.1 x.2.1 x.2.2.1) Rdiskctl_Write
noncomputable def Ediskctl_Write : Env U := { P := Try.prog, cd := cd, fns := fns42, lps := noL, frz := fun _r => false, nt := 35, n0 := 0 }
theorem rundiskctl_Write (x : Disk × Int × Int × Unit) (g : Unit) : execF Ediskctl_Write Try.f18 (Adiskctl_Write.enc x) (bNil.enc g) = (Tdiskctl_Write x.1 x.2.1 x.2.2.1).map Rdiskctl_Write := by kernel_rfl
theorem okdiskctl_Write : FnOk Try.prog cd 18 Sdiskctl_Write := mk_ok (E := Ediskctl_Write) cd_ok fns42_ok Try.func18 (by kernel_rfl) (noLoops_body (by kernel_rfl)) (aA_ok cDisk_ok (aO_ok (cInt_ok .i64) (aO_ok (cInt_ok .i64) (aNil_ok)))) bNil_ok (T := fun x _ => Tdiskctl_Write x.1 x.2.1 x.2.2.1) (fun _ _ => rfl) rundiskctl_Write
noncomputable def fns18 := addF 18 true Sdiskctl_Write fns42
theorem fns18_ok : ∀ f q t, fns18 f = some (q, t) → FnOk Try.prog cd f t := addF_ok okdiskctl_Write fns42_ok
/-- emulator/emulatorlaw16.start -/
noncomputable def Tlaw16_start (x0 : Disk) (x1 : Int) (x2 : Int) (x3 : Int) (x4 : Int) : Tree Disk :=
  .opt (Disk × Bool) (diskctl_Write x0 (2 : Int) x2) fun r11 =>
    .opt (Disk × Bool) (diskctl_Write r11.1 (4 : Int) x3) fun r12 =>
      .opt (Disk × Bool) (diskctl_Write r12.1 (6 : Int) x4) fun r13 =>
        .opt (Disk × Bool) (diskctl_Write r13.1 (0 : Int) (IntKind.wrap .i64 ((1 : Int) + (IntKind.wrap .i64 ((2 : Int) * x1))))) fun r14 =>
          .leaf (r14.1)
noncomputable def law16_start (x0 : Disk) (x1 : Int) (x2 : Int) (x3 : Int) (x4 : Int) : Option Disk := (Tlaw16_start x0 x1 x2 x3 x4).run
noncomputable def Alaw16_start : Arg U (Disk × Int × Int × Int × Int × Unit) := aA cDisk (aO (cInt .i64) (aO (cInt .i64) (aO (cInt .i64) (aO (cInt .i64) (aNil)))))
noncomputable def Rlaw16_start (r : Disk) : List (V U) × List (Blk U) := ([vA cDisk r], [])
noncomputable def Slaw16_start : List (V U) → List (Blk U) → Option (FnOut U) := mkSpec Alaw16_start bNil (fun x _ => law16_start x.1 x.2.1 x.2.2.1 x.2.2.2.1 x.2.2.2.2.1) Rlaw16_start
noncomputable def Elaw16_start : Env U := { P := Try.prog, cd := cd, fns := fns18, lps := noL, frz := fun _r => false, nt := 38, n0 := 0 }
theorem runlaw16_start (x : Disk × Int × Int × Int × Int × Unit) (g : Unit) : execF Elaw16_start Try.f11 (Alaw16_start.enc x) (bNil.enc g) = (Tlaw16_start x.1 x.2.1 x.2.2.1 x.2.2.2.1 x.2.2.2.2.1).map Rlaw16_start := by kernel_rfl
theorem oklaw16_start : FnOk Try.prog cd 11 Slaw16_start := mk_ok (E := Elaw16_start) cd_ok fns18_ok Try.func11 (by kernel_rfl) (noLoops_body (by kernel_rfl)) (aA_ok cDisk_ok (aO_ok (cInt_ok .i64) (aO_ok (cInt_ok .i64) (aO_ok (cInt_ok .i64) (aO_ok (cInt_ok .i64) (aNil_ok)))))) bNil_ok (T := fun x _ => Tlaw16_start x.1 x.2.1 x.2.2.1 x.2.2.2.1 x.2.2.2.2.1) (fun _ _ => rfl) runlaw16_start
noncomputable def fns11 := addF 11 true Slaw16_start fns18
theorem fns11_ok : ∀ f q t, fns11 f = some (q, t) → FnOk Try.prog cd f t := addF_ok oklaw16_start fns18_ok
/-- emulator/memory.within -/
noncomputable def Tmemory_within (x0 : (List Int)) (x1 : Int) (x2 : Int) : Tree Bool :=
  .ite (decide ((0 : Int) ≤ x1))
    (.ite (decide ((0 : Int) ≤ x2))
      (.ite (decide (x1 ≤ (IntKind.wrap .i64 ((2 : Int) * (x0.length : Int)))))
        (.leaf (decide (x2 ≤ (IntKind.wrap .i64 ((IntKind.wrap .i64 ((2 : Int) * (x0.length : Int))) - x1)))))
        (.leaf (false)))
      (.leaf (false)))
    (.leaf (false))
noncomputable def memory_within (x0 : (List Int)) (x1 : Int) (x2 : Int) : Option Bool := (Tmemory_within x0 x1 x2).run
noncomputable def Amemory_within : Arg U ((List Int) × Int × Int × Unit) := aO (cSl 3) (aO (cInt .i64) (aO (cInt .i64) (aNil)))
noncomputable def Rmemory_within (r : Bool) : List (V U) × List (Blk U) := ([vO cBool r], [])
noncomputable def Smemory_within : List (V U) → List (Blk U) → Option (FnOut U) := mkSpec Amemory_within bNil (fun x _ => memory_within x.1 x.2.1 x.2.2.1) Rmemory_within
noncomputable def Ememory_within : Env U := { P := Try.prog, cd := cd, fns := fns11, lps := noL, frz := fun _r => false, nt := 29, n0 := 0 }
theorem runmemory_within (x : (List Int) × Int × Int × Unit) (g : Unit) : execF Ememory_within Try.f61 (Amemory_within.enc x) (bNil.enc g) = (Tmemory_within x.1 x.2.1 x.2.2.1).map Rmemory_within := by kernel_rfl
theorem okmemory_within : FnOk Try.prog cd 61 Smemory_within := mk_ok (E := Ememory_within) cd_ok fns11_ok Try.func61 (by kernel_rfl) (noLoops_body (by kernel_rfl)) (aO_ok (cSl_ok 3) (aO_ok (cInt_ok .i64) (aO_ok (cInt_ok .i64) (aNil_ok)))) bNil_ok (T := fun x _ => Tmemory_within x.1 x.2.1 x.2.2.1) (fun _ _ => rfl) runmemory_within
noncomputable def fns61 := addF 61 true Smemory_within fns11
theorem fns61_ok : ∀ f q t, fns61 f = some (q, t) → FnOk Try.prog cd f t := addF_ok okmemory_within fns11_ok
/-- emulator/memory.Bytes -/
structure Smemory_Bytes_0 where
  t0 : (List Int)
  t1 : Int
  t19 : Int
  t20 : Int
  b0 : (List Int)
noncomputable def Wmemory_Bytes_0 (s : Smemory_Bytes_0) : Tree (Smemory_Bytes_0 ⊕ (List Int)) :=
  .ite (decide (s.t20 < s.t19))
    (.ite (decide ((2 : Int) = 0))
      .fail
      (.ite (decide (0 ≤ IntKind.wrap .i64 (((IntKind.wrap .i64 (s.t1 + s.t20))).tdiv (2 : Int))))
        (.opt Int (s.t0[(IntKind.wrap .i64 (((IntKind.wrap .i64 (s.t1 + s.t20))).tdiv (2 : Int))).toNat]?) fun y16 =>
          .ite (decide ((2 : Int) = 0))
            .fail
            (.ite (decide (0 ≤ (IntKind.wrap .i64 ((((IntKind.wrap .i64 (s.t1 + s.t20))).tmod (2 : Int)) * (8 : Int)))))
              (.ite (decide (0 ≤ s.t20))
                (.ite (decide (s.t20 < (s.b0.length : Int)))
                  (.opt Int (s.b0[(s.t20).toNat]?) fun y17 =>
                    .leaf (.inl (Smemory_Bytes_0.mk s.t0 s.t1 s.t19 (IntKind.wrap .i64 (s.t20 + (1 : Int))) (s.b0.set ((s.t20).toNat) (IntKind.wrap .u8 ((y16).fdiv (2 ^ (min ((IntKind.wrap .i64 ((((IntKind.wrap .i64 (s.t1 + s.t20))).tmod (2 : Int)) * (8 : Int)))).toNat 64))))))))
                  .fail)
                .fail)
              .fail))
        .fail))
    (.leaf (.inr s.b0))
noncomputable def Lmemory_Bytes_0 (q : Option Nat) (s : Smemory_Bytes_0) : Option (List Int) := limQ q (fun s => (Wmemory_Bytes_0 s).run) s
theorem leLmemory_Bytes_0 (k : Nat) (s : Smemory_Bytes_0) : Le (Lmemory_Bytes_0 (some k) s) (Lmemory_Bytes_0 none s) := limQ_le (fun _ => Le.rfl) s
noncomputable def Tmemory_Bytes (q : Option Nat) (x0 : (List Int)) (x1 : Int) (x2 : Int) : Tree ((List UInt8) × Int) :=
  .opt Bool (memory_within x0 x1 x2) fun r15 =>
    .ite (!r15)
      (.leaf ((([] : List UInt8), (2 : Int))))
      (.ite (decide (x2 = x2))
        (.ite (decide (0 ≤ x2))
          (.ite (decide ((1 : Int) * x2 ≤ 281474976710656))
            (.opt (List Int) (Lmemory_Bytes_0 q (Smemory_Bytes_0.mk x0 x1 ((List.replicate (x2).toNat (0 : Int)).length : Int) (0 : Int) (List.replicate (x2).toNat (0 : Int)))) fun l18 =>
              .leaf ((l18.map fun x => UInt8.ofNat x.toNat, (0 : Int))))
            .fail)
          .fail)
        .fail)
noncomputable def memory_Bytes (q : Option Nat) (x0 : (List Int)) (x1 : Int) (x2 : Int) : Option ((List UInt8) × Int) := (Tmemory_Bytes q x0 x1 x2).run
theorem lememory_Bytes (k : Nat) (x0 : (List Int)) (x1 : Int) (x2 : Int) : Le (memory_Bytes (some k) x0 x1 x2) (memory_Bytes none x0 x1 x2) := (TLe.opt Le.rfl fun _ => (TLe.ite TLe.rfl (TLe.ite (TLe.ite (TLe.ite (TLe.opt (leLmemory_Bytes_0 k _) fun _ => TLe.rfl) TLe.rfl) TLe.rfl) TLe.rfl)))
noncomputable def Amemory_Bytes : Arg U ((List Int) × Int × Int × Unit) := aO (cSl 3) (aO (cInt .i64) (aO (cInt .i64) (aNil)))
noncomputable def Rmemory_Bytes (r : ((List UInt8) × Int)) : List (V U) × List (Blk U) := ([vO cStr r.1, vO (cInt .i64) r.2], [])
noncomputable def Smemory_Bytes : List (V U) → List (Blk U) → Option (FnOut U) := mkSpec Amemory_Bytes bNil (fun x _ => memory_Bytes none x.1 x.2.1 x.2.2.1) Rmemory_Bytes
noncomputable def Pmemory_Bytes_0 (x : ((List Int) × Unit) × (Int × Unit) × (Unit) × (Int × Unit) × (Int × Unit) × Unit) (g : (List Int) × Unit) : Smemory_Bytes_0 := Smemory_Bytes_0.mk x.1.1 x.2.1.1 x.2.2.2.1.1 x.2.2.2.2.1.1 g.1
noncomputable def tAmemory_Bytes_0 : Tms U (((List Int) × Unit) × (Int × Unit) × (Unit) × (Int × Unit) × (Int × Unit) × Unit) := tO 0 (cPair (cSl 3) (cUnit)) (tO 1 (cPair (cInt .i64) (cUnit)) (tO 8 (cK (.row 0 0) (cUnit)) (tO 19 (cPair (cInt .i64) (cUnit)) (tO 20 (cPair (cInt .i64) (cUnit)) (tNil)))))
noncomputable def tBmemory_Bytes_0 : Bls U ((List Int) × Unit) := bRv 5 0 (bNil)
noncomputable def eSmemory_Bytes_0 (s : Smemory_Bytes_0) : St U := { tm := [(0, .v (vO (cPair (cSl 3) (cUnit)) (s.t0, ()))), (1, .v (vO (cPair (cInt .i64) (cUnit)) (s.t1, ()))), (8, .v (vO (cK (.row 0 0) (cUnit)) (()))), (19, .v (vO (cPair (cInt .i64) (cUnit)) (s.t19, ()))), (20, .v (vO (cPair (cInt .i64) (cUnit)) (s.t20, ())))], hp := [.row 5 0 s.b0] }
noncomputable def xSmemory_Bytes_0 (r : (List Int)) : Ex × St U := (.exit 0, { tm := [(8, .v (vO (cK (.row 0 0) (cUnit)) (())))], hp := [.row 5 0 r] })
noncomputable def xTmemory_Bytes_0 (r : (List Int)) : Tree (Ex × St U) := .leaf (xSmemory_Bytes_0 r)
noncomputable def hmemory_Bytes_0 : Hd := { keep := [0, 1, 8, 19, 20], xkeep := [6, 7, 8], own := false }
noncomputable def Ememory_Bytes : Env U := { P := Try.prog, cd := cd, fns := fns61, lps := (addL 0 hmemory_Bytes_0 (mkLoop tAmemory_Bytes_0 tBmemory_Bytes_0 Pmemory_Bytes_0 (Lmemory_Bytes_0 none) xTmemory_Bytes_0) noL), frz := fun _r => false, nt := 42, n0 := 0 }
noncomputable def Bmemory_Bytes_0 : Code := (loopAt (Try.f50.body.getD .skip) 0 0).getD .skip
theorem roundmemory_Bytes_0 (s : Smemory_Bytes_0) : round Ememory_Bytes hmemory_Bytes_0 Bmemory_Bytes_0 0 (eSmemory_Bytes_0 s) = (Wmemory_Bytes_0 s).map (sumE eSmemory_Bytes_0 xSmemory_Bytes_0) := by kernel_rfl
theorem lpmemory_Bytes_0 : LpOk Ememory_Bytes Bmemory_Bytes_0 0 := mkLoop_ok (A := tAmemory_Bytes_0) (B := tBmemory_Bytes_0) (f := Pmemory_Bytes_0) (L := Lmemory_Bytes_0 none) (tO_ok (cPair_ok (cSl_ok 3) cUnit_ok) (tO_ok (cPair_ok (cInt_ok .i64) cUnit_ok) (tO_ok (cK_ok cUnit_ok) (tO_ok (cPair_ok (cInt_ok .i64) cUnit_ok) (tO_ok (cPair_ok (cInt_ok .i64) cUnit_ok) tNil_ok))))) (bRv_ok bNil_ok) (enc := eSmemory_Bytes_0) (out := xTmemory_Bytes_0) (outS := xSmemory_Bytes_0) (step := Wmemory_Bytes_0) (fun _ => rfl) (fun _ _ => by kernel_rfl) (by kernel_rfl) (fun _ => rfl) roundmemory_Bytes_0
theorem runmemory_Bytes (x : (List Int) × Int × Int × Unit) (g : Unit) : execF Ememory_Bytes Try.f50 (Amemory_Bytes.enc x) (bNil.enc g) = (Tmemory_Bytes none x.1 x.2.1 x.2.2.1).map Rmemory_Bytes := by kernel_rfl
theorem okmemory_Bytes : FnOk Try.prog cd 50 Smemory_Bytes := mk_ok (E := Ememory_Bytes) cd_ok fns61_ok Try.func50 (by kernel_rfl) (loops_of (addL_ok lpmemory_Bytes_0 noL_ok)) (aO_ok (cSl_ok 3) (aO_ok (cInt_ok .i64) (aO_ok (cInt_ok .i64) (aNil_ok)))) bNil_ok (T := fun x _ => Tmemory_Bytes none x.1 x.2.1 x.2.2.1) (fun _ _ => rfl) runmemory_Bytes
noncomputable def fns50 := addF 50 true Smemory_Bytes fns61
theorem fns50_ok : ∀ f q t, fns50 f = some (q, t) → FnOk Try.prog cd f t := addF_ok okmemory_Bytes fns61_ok
/-- emulator/drive.worn -/
noncomputable def drive_worn (x0 : Drive) : Option (List Int) := wornF x0.bad
noncomputable def Sdrive_worn : List (V U) → List (Blk U) → Option (FnOut U) := mkSpec (aA cDrive aNil) bNil (fun x _ => drive_worn x.1) fun r => ([vO cMp r], [])
section
open Go.RowKit Go.Maps
set_option maxRecDepth 100000 in
theorem worn_none65 (s1 : Value) (a : Option Addr) (cap : Nat) (w : World) :
    Calls Try.prog 65 #[.agg #[s1, .slice a 0 cap]] w fun e w' => ∃ r, e = .returned (.map (some r)) ∧ w.heap.size ≤ r ∧ TrueMap w' r [] ∧ Below w.heap.size w w' := by
  have hmm := @run_makeMap Try.prog
  go_enter Try.func65, Try.ntmps65
  go_wp2
  refine wp_loop_rounds 1 ?_
  rw [rounds_succ]
  go_wp2
  go_ret
  exact ⟨_, rfl, by simp, trueMap_made _ (by simp), ((Below.refl _ _).alloc (Nat.le_refl _) _).alloc (by simp) _⟩
set_option maxRecDepth 100000 in
theorem worn_any65 (s1 : Value) (b off cap : Nat) (zs : List Int) (w : World) (hb : b < w.heap.size)
    (hc : ∀ j, j < zs.length → w.cell? ⟨b, off + j, none⟩ = some (.int .i64 (zs.getD j 0))) (hl : zs.length ≤ 140737488355328) :
    Calls Try.prog 65 #[.agg #[s1, .slice (some ⟨b, off, none⟩) zs.length cap]] w fun e w' => ∃ r, e = .returned (.map (some r)) ∧ w.heap.size ≤ r ∧ TrueMap w' r zs ∧ Below w.heap.size w w' := by
  have hmm := @run_makeMap Try.prog
  go_enter Try.func65, Try.ntmps65
  go_wp2
  go_loopw [10] (fun i wr => ∃ k : Nat, k ≤ zs.length ∧ i = .int .i64 k ∧ TrueMap wr (w.heap.size + 1) (zs.take k) ∧ Below w.heap.size w wr ∧ w.heap.size + 2 ≤ wr.heap.size)
    (fun i _ => zs.length - (intOf i).toNat)
  case atStart => exact ⟨0, Nat.zero_le _, rfl, trueMap_made _ (by simp), ((Below.refl _ _).alloc (Nat.le_refl _) _).alloc (by simp) _, by simp⟩
  case round =>
    obtain ⟨k, hk, rfl, hown, hnx, hsz⟩ := hrel
    have hcx : k < zs.length → wr.cell? ⟨b, off + k, none⟩ = some (.int .i64 (zs.getD k 0)) := fun h => (hnx.cell (by exact hb)).trans (hc k h)
    go_wp2_with (first
      | (at_mapUpdate; refine wpList_mapUpdate_true _ rfl _ _ _ 93 rfl 3 4 Try.underlying93 Try.underlying3 (w.heap.size + 1) _ rfl hown _ rfl rfl ?_; intro w1 hown1 hgrow1)
      | go_in)
    · have hlt : k < zs.length := by assumption
      go_roundw
      case rel =>
        have e : zs.take (k + 1) = zs.take k ++ [zs[k]] := by rw [List.take_add_one]; simp [List.getElem?_eq_getElem hlt]
        exact ⟨k + 1, by omega, by go_num, e ▸ hown1, hnx.grown hgrow1 hnx.size (fun j hj => by cases hj; omega), Nat.le_trans hsz hgrow1.size⟩
      case measure => simp [intOf]; omega
    · have : k = zs.length := by omega
      subst this
      go_ret
      exact ⟨_, rfl, by simp, by rw [List.take_length] at hown; exact hown, hnx⟩
theorem worn_walk65 (s1 : Value) (a : Option Addr) (l : List Int) (cap : Nat) (w : World) (hl : l.length ≤ 140737488355328) (h : l ≠ [] → ∃ k o, a = some (at0 k o) ∧ k < w.heap.size ∧ ∀ j, j < l.length → w.cell? ⟨k, o + j, none⟩ = some (.int .i64 (l.getD j 0))) :
    Calls Try.prog 65 #[.agg #[s1, .slice a l.length cap]] w fun e w' => ∃ r, e = .returned (.map (some r)) ∧ w.heap.size ≤ r ∧ TrueMap w' r l ∧ Below w.heap.size w w' := by
  by_cases hne : l = []
  · subst hne; exact worn_none65 s1 a cap w
  · obtain ⟨k, o, rfl, hk, hc⟩ := h hne
    exact worn_any65 s1 k o cap l w hk hc hl
end
theorem okdrive_worn : FnOk Try.prog cd 65 Sdrive_worn := worn_ok (c := cDrive) (bad := fun x => x.bad) cDrive_ok Try.func65 (by kernel_rfl) (by kernel_rfl) (fun x => ⟨9, 3, x.sectors, x.bad, by kernel_rfl, (flat_int (cd := cd) (e := 3) (fun x => x) (fun _ => by kernel_rfl) x.bad).trans (congrArg (List.map fun n => C.int .i64 n) (List.map_id (α := Int) x.bad)), rfl⟩) worn_walk65
noncomputable def fns65 := addF 65 true Sdrive_worn fns50
theorem fns65_ok : ∀ f q t, fns65 f = some (q, t) → FnOk Try.prog cd f t := addF_ok okdrive_worn fns50_ok
/-- emulator/drive.has -/
noncomputable def Tdrive_has (x0 : Drive) (x1 : Int) : Tree Bool :=
  .ite (decide ((0 : Int) ≤ x1))
    (.leaf (decide (x1 < (x0.sectors.length : Int))))
    (.leaf (false))
noncomputable def drive_has (x0 : Drive) (x1 : Int) : Option Bool := (Tdrive_has x0 x1).run
noncomputable def Adrive_has : Arg U (Drive × Int × Unit) := aA cDrive (aO (cInt .i64) (aNil))
noncomputable def Rdrive_has (r : Bool) : List (V U) × List (Blk U) := ([vO cBool r], [])
noncomputable def Sdrive_has : List (V U) → List (Blk U) → Option (FnOut U) := mkSpec Adrive_has bNil (fun x _ => drive_has x.1 x.2.1) Rdrive_has
noncomputable def Edrive_has : Env U := { P := Try.prog, cd := cd, fns := fns65, lps := noL, frz := fun _r => false, nt := 14, n0 := 0 }
theorem rundrive_has (x : Drive × Int × Unit) (g : Unit) : execF Edrive_has Try.f64 (Adrive_has.enc x) (bNil.enc g) = (Tdrive_has x.1 x.2.1).map Rdrive_has := by kernel_rfl
theorem okdrive_has : FnOk Try.prog cd 64 Sdrive_has := mk_ok (E := Edrive_has) cd_ok fns65_ok Try.func64 (by kernel_rfl) (noLoops_body (by kernel_rfl)) (aA_ok cDrive_ok (aO_ok (cInt_ok .i64) (aNil_ok))) bNil_ok (T := fun x _ => Tdrive_has x.1 x.2.1) (fun _ _ => rfl) rundrive_has
noncomputable def fns64 := addF 64 true Sdrive_has fns65
theorem fns64_ok : ∀ f q t, fns64 f = some (q, t) → FnOk Try.prog cd f t := addF_ok okdrive_has fns65_ok
/-- emulator/drive.fault -/
noncomputable def Tdrive_fault (x0 : Drive) (x1 : (List Int)) (x2 : Write) : Tree Int :=
  .opt Bool (drive_has x0 x2.sector) fun r19 =>
    .ite (!r19)
      (.leaf ((2 : Int)))
      (.ite (decide ((128 : Int) < (x2.data.length : Int)))
        (.leaf ((7 : Int)))
        (.ite (memI x1 x2.sector)
          (.leaf ((21 : Int)))
          (.leaf ((0 : Int)))))
noncomputable def drive_fault (x0 : Drive) (x1 : (List Int)) (x2 : Write) : Option Int := (Tdrive_fault x0 x1 x2).run
noncomputable def Adrive_fault : Arg U (Drive × (List Int) × Write × Unit) := aA cDrive (aO cMp (aA cWrite (aNil)))
noncomputable def Rdrive_fault (r : Int) : List (V U) × List (Blk U) := ([vO (cInt .i64) r], [])
noncomputable def Sdrive_fault : List (V U) → List (Blk U) → Option (FnOut U) := mkSpec Adrive_fault bNil (fun x _ => drive_fault x.1 x.2.1 x.2.2.1) Rdrive_fault
noncomputable def Edrive_fault : Env U := { P := Try.prog, cd := cd, fns := fns64, lps := noL, frz := fun _r => false, nt := 23, n0 := 0 }
theorem rundrive_fault (x : Drive × (List Int) × Write × Unit) (g : Unit) : execF Edrive_fault Try.f68 (Adrive_fault.enc x) (bNil.enc g) = (Tdrive_fault x.1 x.2.1 x.2.2.1).map Rdrive_fault := by kernel_rfl
theorem okdrive_fault : FnOk Try.prog cd 68 Sdrive_fault := mk_ok (E := Edrive_fault) cd_ok fns64_ok Try.func68 (by kernel_rfl) (noLoops_body (by kernel_rfl)) (aA_ok cDrive_ok (aO_ok cMp_ok (aA_ok cWrite_ok (aNil_ok)))) bNil_ok (T := fun x _ => Tdrive_fault x.1 x.2.1 x.2.2.1) (fun _ _ => rfl) rundrive_fault
noncomputable def fns68 := addF 68 true Sdrive_fault fns64
theorem fns68_ok : ∀ f q t, fns68 f = some (q, t) → FnOk Try.prog cd f t := addF_ok okdrive_fault fns64_ok
/-- strings.Repeat -/
noncomputable def strings_Repeat (x0 : (List UInt8)) (x1 : Int) : Option (List UInt8) := repF x0 x1
noncomputable def Sstrings_Repeat : List (V U) → List (Blk U) → Option (FnOut U) := mkSpec (aO cStr (aO (cInt .i64) aNil) : Arg U (List UInt8 × Int × Unit)) bNil (fun x _ => strings_Repeat x.1 x.2.1) fun r => ([vO cStr r], [])
end Go.Proofs.Ytenckckimagkkaa
namespace Go.Proofs
open Go.Shelf
shelf_lay Lays.n105 Nm 105 at Try as Try.lays69
theorem Try.extra69 : Builder.Extra Try.prog Try.lays69_ren where
  sizeBuilder := by kernel_rfl
  liesBuilder := by kernel_rfl
  t5 := Try.underlying5
  a5 := Try.isAgg5
  z5 := Try.sizeOf5
  v5 := Try.zeroValue5
  infoByte := by kernel_rfl
  cellsByte := by kernel_rfl
  sizeByte := by kernel_rfl
  neB5 := by decide
end Go.Proofs
namespace Go.Proofs.Ytenckckimagkkaa
open Go Go.Ab
theorem okstrings_Repeat : FnOk Try.prog cd 69 Sstrings_Repeat := rep_ok Try.lays69 Try.extra69 Try.func69 (by kernel_rfl) (by kernel_rfl) rfl
noncomputable def fns69 := addF 69 true Sstrings_Repeat fns68
theorem fns69_ok : ∀ f q t, fns69 f = some (q, t) → FnOk Try.prog cd f t := addF_ok okstrings_Repeat fns68_ok
/-- emulator/drive.copied -/
noncomputable def Tdrive_copied (x0 : Drive) : Tree ((List (List UInt8)) × (List Int)) :=
  .opt (List (List UInt8)) (cloneF 16 x0.sectors) fun r20 =>
    .opt (List Int) (cloneF 8 x0.bad) fun r21 =>
      .leaf ((r20, r21))
noncomputable def drive_copied (x0 : Drive) : Option ((List (List UInt8)) × (List Int)) := (Tdrive_copied x0).run
noncomputable def Adrive_copied : Arg U (Drive × Unit) := aA cDrive (aNil)
noncomputable def Gdrive_copied : Bls U (Unit) := bNil
noncomputable def Rdrive_copied (_x : Drive × Unit) (_g : Unit) (r : ((List (List UInt8)) × (List Int))) : List (V U) × List (Blk U) := ([vA (cK (.row 1 0) (cK (.row 2 0) (cUnit))) (())], [.cells ((cK (.row 1 0) (cK (.row 2 0) (cUnit)) : Cdc U (Unit)).enc (())) none, .row 9 0 r.1, .row 3 0 r.2])
noncomputable def Sdrive_copied : List (V U) → List (Blk U) → Option (FnOut U) := mkSpecG Adrive_copied Gdrive_copied (fun x _ => drive_copied x.1) Rdrive_copied
noncomputable def Edrive_copied : Env U := { P := Try.prog, cd := cd, fns := (addF 49 false (cloneSpec 3 8) (addF 48 false (cloneSpec 9 16) fns69)), lps := noL, frz := fun _r => false, nt := 10, n0 := 0, fps := fun _r _i => bif Nat.beq _r 1 && Nat.beq _i 2 then .wr [] 2 else bif Nat.beq _r 1 && Nat.beq _i 3 then .rd [] else bif Nat.beq _r 1 && Nat.beq _i 4 then .rd [0] else .none }
theorem rndrive_copied (x0 : Drive) : execX true Edrive_copied Try.f67 (Adrive_copied.enc (x0, ())) (Gdrive_copied.enc ()) = (Tdrive_copied x0).map (Rdrive_copied (x0, ()) ()) := by kernel_rfl
theorem rundrive_copied : ∀ (x : Drive × Unit) (g : Unit), execX true Edrive_copied Try.f67 (Adrive_copied.enc x) (Gdrive_copied.enc g) = (Tdrive_copied x.1).map (Rdrive_copied x g)
  | (x0, ()), () => rndrive_copied x0
theorem okdrive_copied : FnOk Try.prog cd 67 Sdrive_copied := mk_okG (E := Edrive_copied) (A := Adrive_copied) (B := Gdrive_copied) true cd_ok (addF_ok okslices_Clone_int_int (addF_ok okslices_Clone_string_string fns69_ok)) Try.func67 (by kernel_rfl) (noLoops_body (by kernel_rfl)) (aA_ok cDrive_ok (aNil_ok)) bNil_ok (T := fun (x : Drive × Unit) (_ : Unit) => Tdrive_copied x.1) (fun _ _ => rfl) rundrive_copied
theorem ok2drive_worn : FnOk Try.prog cd 65 (mkSpecG (aA (cK (.row 0 0) (cK (.row 1 0) cUnit)) aNil : Arg U (Unit × Unit)) (bR 9 (bR 3 bNil)) (fun _ p => wornF (p.2.1.map fun x : U 3 => (x : Int))) fun _ p r => ([vO cMp r], [.row 9 0 p.1, .row 3 0 p.2.1])) := worn_ok2 (cd := cd) (e0 := 9) (e := 3) (g := fun x => x) (fun _ => by kernel_rfl) Try.func65 (by kernel_rfl) (by kernel_rfl) worn_walk65
/-- emulator/drive.has -/
noncomputable def Tdrive_has_V1 (x1 : Int) (g0 : (List (List UInt8))) (g1 : (List Int)) : Tree Bool :=
  .ite (decide ((0 : Int) ≤ x1))
    (.leaf (decide (x1 < (g0.length : Int))))
    (.leaf (false))
noncomputable def drive_has_V1 (x1 : Int) (g0 : (List (List UInt8))) (g1 : (List Int)) : Option Bool := (Tdrive_has_V1 x1 g0 g1).run
noncomputable def Adrive_has_V1 : Arg U ((Unit) × Int × Unit) := aA (cK (.row 0 0) (cK (.row 1 0) (cUnit))) (aO (cInt .i64) (aNil))
noncomputable def Gdrive_has_V1 : Bls U ((List (List UInt8)) × (List Int) × Unit) := bR 9 (bR 3 (bNil))
noncomputable def Rdrive_has_V1 (_x : (Unit) × Int × Unit) (g : (List (List UInt8)) × (List Int) × Unit) (r : Bool) : List (V U) × List (Blk U) := ([vO (cPair cBool (cUnit)) (r, ())], [.row 9 0 g.1, .row 3 0 g.2.1])
noncomputable def Sdrive_has_V1 : List (V U) → List (Blk U) → Option (FnOut U) := mkSpecG Adrive_has_V1 Gdrive_has_V1 (fun x g => drive_has_V1 x.2.1 g.1 g.2.1) Rdrive_has_V1
noncomputable def Edrive_has_V1 : Env U := { P := Try.prog, cd := cd, fns := fns69, lps := noL, frz := fun _r => false, nt := 14, n0 := 2 }
theorem rndrive_has_V1 (x1 : Int) (g0 : (List (List UInt8))) (g1 : (List Int)) : execX false Edrive_has_V1 Try.f64 (Adrive_has_V1.enc ((()), x1, ())) (Gdrive_has_V1.enc (g0, g1, ())) = (Tdrive_has_V1 x1 g0 g1).map (Rdrive_has_V1 ((()), x1, ()) (g0, g1, ())) := by kernel_rfl
theorem rundrive_has_V1 : ∀ (x : (Unit) × Int × Unit) (g : (List (List UInt8)) × (List Int) × Unit), execX false Edrive_has_V1 Try.f64 (Adrive_has_V1.enc x) (Gdrive_has_V1.enc g) = (Tdrive_has_V1 x.2.1 g.1 g.2.1).map (Rdrive_has_V1 x g)
  | ((()), x1, ()), (g0, g1, ()) => rndrive_has_V1 x1 g0 g1
theorem okdrive_has_V1 : FnOk Try.prog cd 64 Sdrive_has_V1 := mk_okG (E := Edrive_has_V1) (A := Adrive_has_V1) (B := Gdrive_has_V1) false cd_ok fns69_ok Try.func64 (by kernel_rfl) (noLoops_body (by kernel_rfl)) (aA_ok (cK_ok (cK_ok cUnit_ok)) (aO_ok (cInt_ok .i64) (aNil_ok))) (bR_ok (bR_ok bNil_ok)) (T := fun (x : (Unit) × Int × Unit) (g : (List (List UInt8)) × (List Int) × Unit) => Tdrive_has_V1 x.2.1 g.1 g.2.1) (fun _ _ => rfl) rundrive_has_V1
theorem kpdrive_has_V1 : Keeps Sdrive_has_V1 [0, 1] := mkSpecG_keeps (bR_ok (bR_ok bNil_ok)) (fun x g y => by kernel_rfl)
/-- emulator/drive.fault -/
noncomputable def Tdrive_fault_V1 (x1 : (List Int)) (x2 : Write) (g0 : (List (List UInt8))) (g1 : (List Int)) : Tree Int :=
  .opt Bool (drive_has_V1 x2.sector g0 g1) fun r26 =>
    .ite (!r26)
      (.leaf ((2 : Int)))
      (.ite (decide ((128 : Int) < (x2.data.length : Int)))
        (.leaf ((7 : Int)))
        (.ite (memI x1 x2.sector)
          (.leaf ((21 : Int)))
          (.leaf ((0 : Int)))))
noncomputable def drive_fault_V1 (x1 : (List Int)) (x2 : Write) (g0 : (List (List UInt8))) (g1 : (List Int)) : Option Int := (Tdrive_fault_V1 x1 x2 g0 g1).run
noncomputable def Adrive_fault_V1 : Arg U ((Unit) × (List Int) × Write × Unit) := aA (cK (.row 0 0) (cK (.row 1 0) (cUnit))) (aO cMp (aA cWrite (aNil)))
noncomputable def Gdrive_fault_V1 : Bls U ((List (List UInt8)) × (List Int) × Unit) := bR 9 (bR 3 (bNil))
noncomputable def Rdrive_fault_V1 (_x : (Unit) × (List Int) × Write × Unit) (g : (List (List UInt8)) × (List Int) × Unit) (r : Int) : List (V U) × List (Blk U) := ([vO (cPair (cInt .i64) (cUnit)) (r, ())], [.row 9 0 g.1, .row 3 0 g.2.1])
noncomputable def Sdrive_fault_V1 : List (V U) → List (Blk U) → Option (FnOut U) := mkSpecG Adrive_fault_V1 Gdrive_fault_V1 (fun x g => drive_fault_V1 x.2.1 x.2.2.1 g.1 g.2.1) Rdrive_fault_V1
noncomputable def Edrive_fault_V1 : Env U := { P := Try.prog, cd := cd, fns := (addF 64 false (orSpec (Sdrive_has_V1) (Sdrive_has)) fns69), lps := noL, frz := fun _r => false, nt := 23, n0 := 2 }
theorem rndrive_fault_V1 (x1 : (List Int)) (x2 : Write) (g0 : (List (List UInt8))) (g1 : (List Int)) : execX false Edrive_fault_V1 Try.f68 (Adrive_fault_V1.enc ((()), x1, x2, ())) (Gdrive_fault_V1.enc (g0, g1, ())) = (Tdrive_fault_V1 x1 x2 g0 g1).map (Rdrive_fault_V1 ((()), x1, x2, ()) (g0, g1, ())) := by kernel_rfl
theorem rundrive_fault_V1 : ∀ (x : (Unit) × (List Int) × Write × Unit) (g : (List (List UInt8)) × (List Int) × Unit), execX false Edrive_fault_V1 Try.f68 (Adrive_fault_V1.enc x) (Gdrive_fault_V1.enc g) = (Tdrive_fault_V1 x.2.1 x.2.2.1 g.1 g.2.1).map (Rdrive_fault_V1 x g)
  | ((()), x1, x2, ()), (g0, g1, ()) => rndrive_fault_V1 x1 x2 g0 g1
theorem okdrive_fault_V1 : FnOk Try.prog cd 68 Sdrive_fault_V1 := mk_okG (E := Edrive_fault_V1) (A := Adrive_fault_V1) (B := Gdrive_fault_V1) false cd_ok (addF_ok (orSpec_ok okdrive_has_V1 okdrive_has) fns69_ok) Try.func68 (by kernel_rfl) (noLoops_body (by kernel_rfl)) (aA_ok (cK_ok (cK_ok cUnit_ok)) (aO_ok cMp_ok (aA_ok cWrite_ok (aNil_ok)))) (bR_ok (bR_ok bNil_ok)) (T := fun (x : (Unit) × (List Int) × Write × Unit) (g : (List (List UInt8)) × (List Int) × Unit) => Tdrive_fault_V1 x.2.1 x.2.2.1 g.1 g.2.1) (fun _ _ => rfl) rundrive_fault_V1
theorem kpdrive_fault_V1 : Keeps Sdrive_fault_V1 [0, 1] := mkSpecG_keeps (bR_ok (bR_ok bNil_ok)) (fun x g y => by kernel_rfl)
/-- emulator/drive.Apply -/
structure Sdrive_Apply_0 where
  t1 : (List Write)
  t2 : Int
  t9 : (List Int)
  t17 : (List Write)
  t18 : Int
  t19 : Int
  b1 : Drive
  b2 : (List (List UInt8))
  b3 : (List Int)
noncomputable def Wdrive_Apply_0 (s : Sdrive_Apply_0) : Tree (Sdrive_Apply_0 ⊕ (((List Write) × Int × Int × (List (List UInt8)) × (List Int)) ⊕ ((List Write) × Drive × (List (List UInt8)) × (List Int)))) :=
  .ite (decide (s.t19 < s.t18))
    (.ite (decide (0 ≤ s.t19))
      (.opt Write (s.t17[(s.t19).toNat]?) fun y29 =>
        .ite (decide (s.t19 = s.t2))
          (.leaf (.inr (.inl (s.t1, s.t19, (0 : Int), s.b2, s.b3))))
          (.opt Int (drive_fault_V1 s.t9 y29 s.b2 s.b3) fun r30 =>
            .ite (!decide (r30 = (0 : Int)))
              (.leaf (.inr (.inl (s.t1, s.t19, r30, s.b2, s.b3))))
              (.opt (List UInt8) (strings_Repeat ([0] : List UInt8) (IntKind.wrap .i64 ((128 : Int) - (y29.data.length : Int)))) fun r31 =>
                .ite (decide (y29.data.length + r31.length ≤ 9223372036854775807))
                  (.ite (decide (0 ≤ y29.sector))
                    (.ite (decide (y29.sector < (s.b2.length : Int)))
                      (.opt (List UInt8) (s.b2[(y29.sector).toNat]?) fun y32 =>
                        .leaf (.inl (Sdrive_Apply_0.mk s.t1 s.t2 s.t9 s.t17 s.t18 (IntKind.wrap .i64 (s.t19 + (1 : Int))) s.b1 (s.b2.set ((y29.sector).toNat) (y29.data ++ r31)) s.b3)))
                      .fail)
                    .fail)
                  .fail)))
      .fail)
    (.leaf (.inr (.inr (s.t1, s.b1, s.b2, s.b3))))
noncomputable def Ldrive_Apply_0 (q : Option Nat) (s : Sdrive_Apply_0) : Option (((List Write) × Int × Int × (List (List UInt8)) × (List Int)) ⊕ ((List Write) × Drive × (List (List UInt8)) × (List Int))) := limQ q (fun s => (Wdrive_Apply_0 s).run) s
theorem leLdrive_Apply_0 (k : Nat) (s : Sdrive_Apply_0) : Le (Ldrive_Apply_0 (some k) s) (Ldrive_Apply_0 none s) := limQ_le (fun _ => Le.rfl) s
noncomputable def Tdrive_Apply (q : Option Nat) (x0 : Drive) (x1 : (List Write)) (x2 : Int) : Tree (Drive × Int × Int) :=
  .opt ((List (List UInt8)) × (List Int)) (drive_copied x0) fun r27 =>
    .opt (List Int) (wornF (r27.2.map fun x : Int => x)) fun r28 =>
      .opt (((List Write) × Int × Int × (List (List UInt8)) × (List Int)) ⊕ ((List Write) × Drive × (List (List UInt8)) × (List Int))) (Ldrive_Apply_0 q (Sdrive_Apply_0.mk x1 x2 r28 x1 (x1.length : Int) (0 : Int) (Drive.mk ([]) ([])) r27.1 r27.2)) fun l33 =>
        .ite (l33.isLeft)
          (.opt ((List Write) × Int × Int × (List (List UInt8)) × (List Int)) (l33.getLeft?) fun a34 =>
            .leaf ((Drive.mk a34.2.2.2.1 a34.2.2.2.2, a34.2.1, a34.2.2.1)))
          (.opt ((List Write) × Drive × (List (List UInt8)) × (List Int)) (l33.getRight?) fun b35 =>
            .leaf ((Drive.mk b35.2.2.1 b35.2.2.2, (b35.1.length : Int), (0 : Int))))
noncomputable def drive_Apply (q : Option Nat) (x0 : Drive) (x1 : (List Write)) (x2 : Int) : Option (Drive × Int × Int) := (Tdrive_Apply q x0 x1 x2).run
theorem ledrive_Apply (k : Nat) (x0 : Drive) (x1 : (List Write)) (x2 : Int) : Le (drive_Apply (some k) x0 x1 x2) (drive_Apply none x0 x1 x2) := (TLe.opt Le.rfl fun _ => (TLe.opt Le.rfl fun _ => (TLe.opt (leLdrive_Apply_0 k _) fun _ => TLe.rfl)))
noncomputable def Adrive_Apply : Arg U (Drive × (List Write) × Int × Unit) := aA cDrive (aO (cSl 90) (aO (cInt .i64) (aNil)))
noncomputable def Rdrive_Apply (r : (Drive × Int × Int)) : List (V U) × List (Blk U) := ([vA cDrive r.1, vO (cInt .i64) r.2.1, vO (cInt .i64) r.2.2], [])
noncomputable def Sdrive_Apply : List (V U) → List (Blk U) → Option (FnOut U) := mkSpec Adrive_Apply bNil (fun x _ => drive_Apply none x.1 x.2.1 x.2.2.1) Rdrive_Apply
noncomputable def Pdrive_Apply_0 (x : ((List Write) × Unit) × (Int × Unit) × (Unit) × (Unit) × ((List Int) × Unit) × ((List Write) × Unit) × (Int × Unit) × (Int × Unit) × Unit) (g : (Unit) × (Drive × Unit) × (List (List UInt8)) × (List Int) × Unit) : Sdrive_Apply_0 := Sdrive_Apply_0.mk x.1.1 x.2.1.1 x.2.2.2.2.1.1 x.2.2.2.2.2.1.1 x.2.2.2.2.2.2.1.1 x.2.2.2.2.2.2.2.1.1 g.2.1.1 g.2.2.1 g.2.2.2.1
noncomputable def tAdrive_Apply_0 : Tms U (((List Write) × Unit) × (Int × Unit) × (Unit) × (Unit) × ((List Int) × Unit) × ((List Write) × Unit) × (Int × Unit) × (Int × Unit) × Unit) := tO 1 (cPair (cSl 90) (cUnit)) (tO 2 (cPair (cInt .i64) (cUnit)) (tO 3 (cK (.ptr 0 0) (cUnit)) (tO 6 (cK (.ptr 1 0) (cUnit)) (tO 9 (cPair cMp (cUnit)) (tO 17 (cPair (cSl 90) (cUnit)) (tO 18 (cPair (cInt .i64) (cUnit)) (tO 19 (cPair (cInt .i64) (cUnit)) (tNil))))))))
noncomputable def tBdrive_Apply_0 : Bls U ((Unit) × (Drive × Unit) × (List (List UInt8)) × (List Int) × Unit) := bC (cK (.row 2 0) (cK (.row 3 0) (cUnit))) (bC (cPair cDrive (cUnit)) (bRv 9 0 (bRv 3 0 (bNil))))
noncomputable def eSdrive_Apply_0 (s : Sdrive_Apply_0) : St U := { tm := [(1, .v (vO (cPair (cSl 90) (cUnit)) (s.t1, ()))), (2, .v (vO (cPair (cInt .i64) (cUnit)) (s.t2, ()))), (3, .v (vO (cK (.ptr 0 0) (cUnit)) (()))), (6, .v (vO (cK (.ptr 1 0) (cUnit)) (()))), (9, .v (vO (cPair cMp (cUnit)) (s.t9, ()))), (17, .v (vO (cPair (cSl 90) (cUnit)) (s.t17, ()))), (18, .v (vO (cPair (cInt .i64) (cUnit)) (s.t18, ()))), (19, .v (vO (cPair (cInt .i64) (cUnit)) (s.t19, ())))], hp := [.cells ((cK (.row 2 0) (cK (.row 3 0) (cUnit)) : Cdc U (Unit)).enc (())) none, .cells ((cPair cDrive (cUnit) : Cdc U (Drive × Unit)).enc (s.b1, ())) none, .row 9 0 s.b2, .row 3 0 s.b3] }
noncomputable def xSdrive_Apply_0 : (((List Write) × Int × Int × (List (List UInt8)) × (List Int)) ⊕ ((List Write) × Drive × (List (List UInt8)) × (List Int))) → Ex × St U
  | .inl r => (.ret, { tm := [(1, .v (vO (cPair (cSl 90) (cUnit)) (r.1, ()))), (3, .v (vO (cK (.ptr 0 0) (cUnit)) (()))), (6, .v (vO (cK (.ptr 1 0) (cUnit)) (()))), (7, .v (vO (cPair (cInt .i64) (cUnit)) (r.2.1, ()))), (8, .v (vO (cPair (cInt .i64) (cUnit)) (r.2.2.1, ())))], hp := [.cells ((cK (.row 2 0) (cK (.row 3 0) (cUnit)) : Cdc U (Unit)).enc (())) none, .cells ((cK (.row 2 0) (cK (.row 3 0) (cUnit)) : Cdc U (Unit)).enc (())) none, .row 9 0 r.2.2.2.1, .row 3 0 r.2.2.2.2] })
  | .inr r => (.exit 0, { tm := [(1, .v (vO (cPair (cSl 90) (cUnit)) (r.1, ()))), (3, .v (vO (cK (.ptr 0 0) (cUnit)) (()))), (6, .v (vO (cK (.ptr 1 0) (cUnit)) (())))], hp := [.cells ((cK (.row 2 0) (cK (.row 3 0) (cUnit)) : Cdc U (Unit)).enc (())) none, .cells ((cPair cDrive (cUnit) : Cdc U (Drive × Unit)).enc (r.2.1, ())) none, .row 9 0 r.2.2.1, .row 3 0 r.2.2.2] })
noncomputable def xTdrive_Apply_0 (y : (((List Write) × Int × Int × (List (List UInt8)) × (List Int)) ⊕ ((List Write) × Drive × (List (List UInt8)) × (List Int)))) : Tree (Ex × St U) := .ite y.isLeft (.opt ((List Write) × Int × Int × (List (List UInt8)) × (List Int)) y.getLeft? fun r => .leaf (.ret, { tm := [(1, .v (vO (cPair (cSl 90) (cUnit)) (r.1, ()))), (3, .v (vO (cK (.ptr 0 0) (cUnit)) (()))), (6, .v (vO (cK (.ptr 1 0) (cUnit)) (()))), (7, .v (vO (cPair (cInt .i64) (cUnit)) (r.2.1, ()))), (8, .v (vO (cPair (cInt .i64) (cUnit)) (r.2.2.1, ())))], hp := [.cells ((cK (.row 2 0) (cK (.row 3 0) (cUnit)) : Cdc U (Unit)).enc (())) none, .cells ((cK (.row 2 0) (cK (.row 3 0) (cUnit)) : Cdc U (Unit)).enc (())) none, .row 9 0 r.2.2.2.1, .row 3 0 r.2.2.2.2] })) (.opt ((List Write) × Drive × (List (List UInt8)) × (List Int)) y.getRight? fun r => .leaf (.exit 0, { tm := [(1, .v (vO (cPair (cSl 90) (cUnit)) (r.1, ()))), (3, .v (vO (cK (.ptr 0 0) (cUnit)) (()))), (6, .v (vO (cK (.ptr 1 0) (cUnit)) (())))], hp := [.cells ((cK (.row 2 0) (cK (.row 3 0) (cUnit)) : Cdc U (Unit)).enc (())) none, .cells ((cPair cDrive (cUnit) : Cdc U (Drive × Unit)).enc (r.2.1, ())) none, .row 9 0 r.2.2.1, .row 3 0 r.2.2.2] }))
noncomputable def hdrive_Apply_0 : Hd := { keep := [1, 2, 3, 6, 9, 17, 18, 19], xkeep := [1, 3, 6, 7, 8], own := false }
noncomputable def Edrive_Apply : Env U := { P := Try.prog, cd := cd, fns := (addF 68 false (orSpec (Sdrive_fault_V1) (Sdrive_fault)) (addF 67 false (Sdrive_copied) (addF 65 false (orSpec ((mkSpecG (aA (cK (.row 0 0) (cK (.row 1 0) cUnit)) aNil : Arg U (Unit × Unit)) (bR 9 (bR 3 bNil)) (fun _ p => wornF (p.2.1.map fun x : U 3 => (x : Int))) fun _ p r => ([vO cMp r], [.row 9 0 p.1, .row 3 0 p.2.1]))) (Sdrive_worn)) fns69))), lps := (addL 0 hdrive_Apply_0 (mkLoop tAdrive_Apply_0 tBdrive_Apply_0 Pdrive_Apply_0 (Ldrive_Apply_0 none) xTdrive_Apply_0) noL), frz := fun _r => false, nt := 55, n0 := 0 }
noncomputable def Bdrive_Apply_0 : Code := (loopAt (Try.f62.body.getD .skip) 0 0).getD .skip
theorem rounddrive_Apply_0 (s : Sdrive_Apply_0) : round Edrive_Apply hdrive_Apply_0 Bdrive_Apply_0 0 (eSdrive_Apply_0 s) = (Wdrive_Apply_0 s).map (sumE eSdrive_Apply_0 xSdrive_Apply_0) := by kernel_rfl
theorem lpdrive_Apply_0 : LpOk Edrive_Apply Bdrive_Apply_0 0 := mkLoop_ok (A := tAdrive_Apply_0) (B := tBdrive_Apply_0) (f := Pdrive_Apply_0) (L := Ldrive_Apply_0 none) (tO_ok (cPair_ok (cSl_ok 90) cUnit_ok) (tO_ok (cPair_ok (cInt_ok .i64) cUnit_ok) (tO_ok (cK_ok cUnit_ok) (tO_ok (cK_ok cUnit_ok) (tO_ok (cPair_ok cMp_ok cUnit_ok) (tO_ok (cPair_ok (cSl_ok 90) cUnit_ok) (tO_ok (cPair_ok (cInt_ok .i64) cUnit_ok) (tO_ok (cPair_ok (cInt_ok .i64) cUnit_ok) tNil_ok)))))))) (bC_ok (cK_ok (cK_ok cUnit_ok)) (bC_ok (cPair_ok cDrive_ok cUnit_ok) (bRv_ok (bRv_ok bNil_ok)))) (enc := eSdrive_Apply_0) (out := xTdrive_Apply_0) (outS := xSdrive_Apply_0) (step := Wdrive_Apply_0) (fun _ => rfl) (fun _ _ => by kernel_rfl) (by kernel_rfl) (fun b => by cases b <;> rfl) rounddrive_Apply_0
theorem rundrive_Apply (x : Drive × (List Write) × Int × Unit) (g : Unit) : execF Edrive_Apply Try.f62 (Adrive_Apply.enc x) (bNil.enc g) = (Tdrive_Apply none x.1 x.2.1 x.2.2.1).map Rdrive_Apply := by kernel_rfl
theorem okdrive_Apply : FnOk Try.prog cd 62 Sdrive_Apply := mk_ok (E := Edrive_Apply) cd_ok (addF_ok (orSpec_ok okdrive_fault_V1 okdrive_fault) (addF_ok okdrive_copied (addF_ok (orSpec_ok ok2drive_worn okdrive_worn) fns69_ok))) Try.func62 (by kernel_rfl) (loops_of (addL_ok lpdrive_Apply_0 noL_ok)) (aA_ok cDrive_ok (aO_ok (cSl_ok 90) (aO_ok (cInt_ok .i64) (aNil_ok)))) bNil_ok (T := fun x _ => Tdrive_Apply none x.1 x.2.1 x.2.2.1) (fun _ _ => rfl) rundrive_Apply
noncomputable def fns62 := addF 62 true Sdrive_Apply fns69
theorem fns62_ok : ∀ f q t, fns62 f = some (q, t) → FnOk Try.prog cd f t := addF_ok okdrive_Apply fns69_ok
/-- emulator/drive.Write -/
noncomputable def Tdrive_Write (q : Option Nat) (x0 : Drive) (x1 : Int) (x2 : (List UInt8)) : Tree (Drive × Int) :=
  .opt (Drive × Int × Int) (drive_Apply q x0 ([Write.mk x1 x2]) (-1 : Int)) fun r36 =>
    .ite (!decide (r36.2.2 = (0 : Int)))
      (.leaf ((Drive.mk ([]) ([]), r36.2.2)))
      (.leaf ((r36.1, (0 : Int))))
noncomputable def drive_Write (q : Option Nat) (x0 : Drive) (x1 : Int) (x2 : (List UInt8)) : Option (Drive × Int) := (Tdrive_Write q x0 x1 x2).run
theorem ledrive_Write (k : Nat) (x0 : Drive) (x1 : Int) (x2 : (List UInt8)) : Le (drive_Write (some k) x0 x1 x2) (drive_Write none x0 x1 x2) := (TLe.opt (ledrive_Apply k _ _ _) fun _ => TLe.rfl)
noncomputable def Adrive_Write : Arg U (Drive × Int × (List UInt8) × Unit) := aA cDrive (aO (cInt .i64) (aO cStr (aNil)))
noncomputable def Rdrive_Write (r : (Drive × Int)) : List (V U) × List (Blk U) := ([vA cDrive r.1, vO (cInt .i64) r.2], [])
noncomputable def Sdrive_Write : List (V U) → List (Blk U) → Option (FnOut U) := mkSpec Adrive_Write bNil (fun x _ => drive_Write none x.1 x.2.1 x.2.2.1) Rdrive_Write
noncomputable def Edrive_Write : Env U := { P := Try.prog, cd := cd, fns := (addF 62 false (frzSpec Sdrive_Apply) fns62), lps := noL, frz := fun _r => false, nt := 26, n0 := 0 }
theorem rundrive_Write (x : Drive × Int × (List UInt8) × Unit) (g : Unit) : execF Edrive_Write Try.f52 (Adrive_Write.enc x) (bNil.enc g) = (Tdrive_Write none x.1 x.2.1 x.2.2.1).map Rdrive_Write := by kernel_rfl
theorem okdrive_Write : FnOk Try.prog cd 52 Sdrive_Write := mk_ok (E := Edrive_Write) cd_ok (addF_ok (fnOk_frz cd_ok (mkSpec_out fun _ => rfl) okdrive_Apply) fns62_ok) Try.func52 (by kernel_rfl) (noLoops_body (by kernel_rfl)) (aA_ok cDrive_ok (aO_ok (cInt_ok .i64) (aO_ok cStr_ok (aNil_ok)))) bNil_ok (T := fun x _ => Tdrive_Write none x.1 x.2.1 x.2.2.1) (fun _ _ => rfl) rundrive_Write
noncomputable def fns52 := addF 52 true Sdrive_Write fns62
theorem fns52_ok : ∀ f q t, fns52 f = some (q, t) → FnOk Try.prog cd f t := addF_ok okdrive_Write fns62_ok
/-- emulator/drive.Read -/
noncomputable def Tdrive_Read (x0 : Drive) (x1 : Int) : Tree ((List UInt8) × Int) :=
  .opt Bool (drive_has x0 x1) fun r37 =>
    .ite (!r37)
      (.leaf ((([] : List UInt8), (2 : Int))))
      (.opt (List Int) (drive_worn x0) fun r38 =>
        .ite (memI r38 x1)
          (.leaf ((([] : List UInt8), (21 : Int))))
          (.ite (decide (0 ≤ x1))
            (.opt (List UInt8) (x0.sectors[(x1).toNat]?) fun y39 =>
              .leaf ((y39, (0 : Int))))
            .fail))
noncomputable def drive_Read (x0 : Drive) (x1 : Int) : Option ((List UInt8) × Int) := (Tdrive_Read x0 x1).run
noncomputable def Adrive_Read : Arg U (Drive × Int × Unit) := aA cDrive (aO (cInt .i64) (aNil))
noncomputable def Rdrive_Read (r : ((List UInt8) × Int)) : List (V U) × List (Blk U) := ([vO cStr r.1, vO (cInt .i64) r.2], [])
noncomputable def Sdrive_Read : List (V U) → List (Blk U) → Option (FnOut U) := mkSpec Adrive_Read bNil (fun x _ => drive_Read x.1 x.2.1) Rdrive_Read
noncomputable def Edrive_Read : Env U := { P := Try.prog, cd := cd, fns := fns52, lps := noL, frz := fun _r => false, nt := 21, n0 := 0 }
theorem rundrive_Read (x : Drive × Int × Unit) (g : Unit) : execF Edrive_Read Try.f54 (Adrive_Read.enc x) (bNil.enc g) = (Tdrive_Read x.1 x.2.1).map Rdrive_Read := by kernel_rfl
theorem okdrive_Read : FnOk Try.prog cd 54 Sdrive_Read := mk_ok (E := Edrive_Read) cd_ok fns52_ok Try.func54 (by kernel_rfl) (noLoops_body (by kernel_rfl)) (aA_ok cDrive_ok (aO_ok (cInt_ok .i64) (aNil_ok))) bNil_ok (T := fun x _ => Tdrive_Read x.1 x.2.1) (fun _ _ => rfl) rundrive_Read
noncomputable def fns54 := addF 54 true Sdrive_Read fns52
theorem fns54_ok : ∀ f q t, fns54 f = some (q, t) → FnOk Try.prog cd f t := addF_ok okdrive_Read fns52_ok
/-- emulator/memory.copied -/
noncomputable def Tmemory_copied (x0 : (List Int)) : Tree (List Int) :=
  .ite (decide ((x0.length : Int) = (x0.length : Int)))
    (.ite (decide (0 ≤ (x0.length : Int)))
      (.ite (decide ((8 : Int) * (x0.length : Int) ≤ 281474976710656))
        (.leaf (x0.take (List.replicate ((x0.length : Int)).toNat (0 : Int)).length ++ (List.replicate ((x0.length : Int)).toNat (0 : Int)).drop x0.length))
        .fail)
      .fail)
    .fail
noncomputable def memory_copied (x0 : (List Int)) : Option (List Int) := (Tmemory_copied x0).run
noncomputable def Amemory_copied : Arg U ((List Int) × Unit) := aO (cSl 3) (aNil)
noncomputable def Gmemory_copied : Bls U (Unit) := bNil
noncomputable def Rmemory_copied (_x : (List Int) × Unit) (_g : Unit) (r : (List Int)) : List (V U) × List (Blk U) := ([vO (cK (.row 0 0) (cUnit)) (())], [.row 3 0 r])
noncomputable def Smemory_copied : List (V U) → List (Blk U) → Option (FnOut U) := mkSpecG Amemory_copied Gmemory_copied (fun x _ => memory_copied x.1) Rmemory_copied
noncomputable def Ememory_copied : Env U := { P := Try.prog, cd := cd, fns := fns54, lps := noL, frz := fun _r => false, nt := 11, n0 := 0 }
theorem rnmemory_copied (x0 : (List Int)) : execX true Ememory_copied Try.f66 (Amemory_copied.enc (x0, ())) (Gmemory_copied.enc ()) = (Tmemory_copied x0).map (Rmemory_copied (x0, ()) ()) := by kernel_rfl
theorem runmemory_copied : ∀ (x : (List Int) × Unit) (g : Unit), execX true Ememory_copied Try.f66 (Amemory_copied.enc x) (Gmemory_copied.enc g) = (Tmemory_copied x.1).map (Rmemory_copied x g)
  | (x0, ()), () => rnmemory_copied x0
theorem okmemory_copied : FnOk Try.prog cd 66 Smemory_copied := mk_okG (E := Ememory_copied) (A := Amemory_copied) (B := Gmemory_copied) true cd_ok fns54_ok Try.func66 (by kernel_rfl) (noLoops_body (by kernel_rfl)) (aO_ok (cSl_ok 3) (aNil_ok)) bNil_ok (T := fun (x : (List Int) × Unit) (_ : Unit) => Tmemory_copied x.1) (fun _ _ => rfl) runmemory_copied
/-- emulator/memory.Store -/
structure Smemory_Store_0 where
  t1 : Int
  t2 : (List UInt8)
  t21 : Int
  t22 : Int
  b0 : (List Int)
noncomputable def Wmemory_Store_0 (s : Smemory_Store_0) : Tree (Smemory_Store_0 ⊕ (List Int)) :=
  .ite (decide (s.t22 < s.t21))
    (.ite (decide ((2 : Int) = 0))
      .fail
      (.ite (decide ((2 : Int) = 0))
        .fail
        (.ite (decide ((2 : Int) = 0))
          .fail
          (.ite (decide (0 ≤ IntKind.wrap .i64 (((IntKind.wrap .i64 (s.t1 + s.t22))).tdiv (2 : Int))))
            (.ite (decide (IntKind.wrap .i64 (((IntKind.wrap .i64 (s.t1 + s.t22))).tdiv (2 : Int)) < (s.b0.length : Int)))
              (.opt Int (s.b0[(IntKind.wrap .i64 (((IntKind.wrap .i64 (s.t1 + s.t22))).tdiv (2 : Int))).toNat]?) fun y43 =>
                .ite (decide (0 ≤ (IntKind.wrap .i64 ((((IntKind.wrap .i64 (s.t1 + s.t22))).tmod (2 : Int)) * (8 : Int)))))
                  (.ite (decide (0 ≤ s.t22))
                    (.opt UInt8 (s.t2[(s.t22).toNat]?) fun y44 =>
                      .ite (decide (0 ≤ (IntKind.wrap .i64 ((((IntKind.wrap .i64 (s.t1 + s.t22))).tmod (2 : Int)) * (8 : Int)))))
                        (.ite (decide (0 ≤ IntKind.wrap .i64 (((IntKind.wrap .i64 (s.t1 + s.t22))).tdiv (2 : Int))))
                          (.ite (decide (IntKind.wrap .i64 (((IntKind.wrap .i64 (s.t1 + s.t22))).tdiv (2 : Int)) < (s.b0.length : Int)))
                            (.opt Int (s.b0[(IntKind.wrap .i64 (((IntKind.wrap .i64 (s.t1 + s.t22))).tdiv (2 : Int))).toNat]?) fun y45 =>
                              .leaf (.inl (Smemory_Store_0.mk s.t1 s.t2 s.t21 (IntKind.wrap .i64 (s.t22 + (1 : Int))) (s.b0.set ((IntKind.wrap .i64 (((IntKind.wrap .i64 (s.t1 + s.t22))).tdiv (2 : Int))).toNat) (IntKind.wrap .i64 (((BitVec.ofInt 64 (IntKind.wrap .i64 (((BitVec.ofInt 64 y43 &&& ~~~BitVec.ofInt 64 (IntKind.wrap .i64 ((255 : Int) * 2 ^ (min ((IntKind.wrap .i64 ((((IntKind.wrap .i64 (s.t1 + s.t22))).tmod (2 : Int)) * (8 : Int)))).toNat 64)))).toNat : Int))) ||| BitVec.ofInt 64 (IntKind.wrap .i64 ((IntKind.wrap .i64 (y44.toNat : Int)) * 2 ^ (min ((IntKind.wrap .i64 ((((IntKind.wrap .i64 (s.t1 + s.t22))).tmod (2 : Int)) * (8 : Int)))).toNat 64)))).toNat : Int)))))))
                            .fail)
                          .fail)
                        .fail)
                    .fail)
                  .fail)
              .fail)
            .fail))))
    (.leaf (.inr s.b0))
noncomputable def Lmemory_Store_0 (q : Option Nat) (s : Smemory_Store_0) : Option (List Int) := limQ q (fun s => (Wmemory_Store_0 s).run) s
theorem leLmemory_Store_0 (k : Nat) (s : Smemory_Store_0) : Le (Lmemory_Store_0 (some k) s) (Lmemory_Store_0 none s) := limQ_le (fun _ => Le.rfl) s
noncomputable def Tmemory_Store (q : Option Nat) (x0 : (List Int)) (x1 : Int) (x2 : (List UInt8)) : Tree ((List Int) × Int) :=
  .opt Bool (memory_within x0 x1 (x2.length : Int)) fun r41 =>
    .ite (!r41)
      (.leaf (([], (2 : Int))))
      (.opt (List Int) (memory_copied x0) fun r42 =>
        .opt (List Int) (Lmemory_Store_0 q (Smemory_Store_0.mk x1 x2 (x2.length : Int) (0 : Int) r42)) fun l46 =>
          .leaf ((l46, (0 : Int))))
noncomputable def memory_Store (q : Option Nat) (x0 : (List Int)) (x1 : Int) (x2 : (List UInt8)) : Option ((List Int) × Int) := (Tmemory_Store q x0 x1 x2).run
theorem lememory_Store (k : Nat) (x0 : (List Int)) (x1 : Int) (x2 : (List UInt8)) : Le (memory_Store (some k) x0 x1 x2) (memory_Store none x0 x1 x2) := (TLe.opt Le.rfl fun _ => (TLe.ite TLe.rfl (TLe.opt Le.rfl fun _ => (TLe.opt (leLmemory_Store_0 k _) fun _ => TLe.rfl))))
noncomputable def Amemory_Store : Arg U ((List Int) × Int × (List UInt8) × Unit) := aO (cSl 3) (aO (cInt .i64) (aO cStr (aNil)))
noncomputable def Rmemory_Store (r : ((List Int) × Int)) : List (V U) × List (Blk U) := ([vO (cSl 3) r.1, vO (cInt .i64) r.2], [])
noncomputable def Smemory_Store : List (V U) → List (Blk U) → Option (FnOut U) := mkSpec Amemory_Store bNil (fun x _ => memory_Store none x.1 x.2.1 x.2.2.1) Rmemory_Store
noncomputable def Pmemory_Store_0 (x : (Int × Unit) × ((List UInt8) × Unit) × (Unit) × (Int × Unit) × (Int × Unit) × Unit) (g : (List Int) × Unit) : Smemory_Store_0 := Smemory_Store_0.mk x.1.1 x.2.1.1 x.2.2.2.1.1 x.2.2.2.2.1.1 g.1
noncomputable def tAmemory_Store_0 : Tms U ((Int × Unit) × ((List UInt8) × Unit) × (Unit) × (Int × Unit) × (Int × Unit) × Unit) := tO 1 (cPair (cInt .i64) (cUnit)) (tO 2 (cPair cStr (cUnit)) (tO 8 (cK (.row 0 0) (cUnit)) (tO 21 (cPair (cInt .i64) (cUnit)) (tO 22 (cPair (cInt .i64) (cUnit)) (tNil)))))
noncomputable def tBmemory_Store_0 : Bls U ((List Int) × Unit) := bRv 3 0 (bNil)
noncomputable def eSmemory_Store_0 (s : Smemory_Store_0) : St U := { tm := [(1, .v (vO (cPair (cInt .i64) (cUnit)) (s.t1, ()))), (2, .v (vO (cPair cStr (cUnit)) (s.t2, ()))), (8, .v (vO (cK (.row 0 0) (cUnit)) (()))), (21, .v (vO (cPair (cInt .i64) (cUnit)) (s.t21, ()))), (22, .v (vO (cPair (cInt .i64) (cUnit)) (s.t22, ())))], hp := [.row 3 0 s.b0] }
noncomputable def xSmemory_Store_0 (r : (List Int)) : Ex × St U := (.exit 0, { tm := [(8, .v (vO (cK (.row 0 0) (cUnit)) (())))], hp := [.row 3 0 r] })
noncomputable def xTmemory_Store_0 (r : (List Int)) : Tree (Ex × St U) := .leaf (xSmemory_Store_0 r)
noncomputable def hmemory_Store_0 : Hd := { keep := [1, 2, 8, 21, 22], xkeep := [6, 7, 8], own := false }
noncomputable def Ememory_Store : Env U := { P := Try.prog, cd := cd, fns := (addF 66 false (Smemory_copied) fns54), lps := (addL 0 hmemory_Store_0 (mkLoop tAmemory_Store_0 tBmemory_Store_0 Pmemory_Store_0 (Lmemory_Store_0 none) xTmemory_Store_0) noL), frz := fun _r => false, nt := 52, n0 := 0 }
noncomputable def Bmemory_Store_0 : Code := (loopAt (Try.f55.body.getD .skip) 0 0).getD .skip
theorem roundmemory_Store_0 (s : Smemory_Store_0) : round Ememory_Store hmemory_Store_0 Bmemory_Store_0 0 (eSmemory_Store_0 s) = (Wmemory_Store_0 s).map (sumE eSmemory_Store_0 xSmemory_Store_0) := by kernel_rfl
theorem lpmemory_Store_0 : LpOk Ememory_Store Bmemory_Store_0 0 := mkLoop_ok (A := tAmemory_Store_0) (B := tBmemory_Store_0) (f := Pmemory_Store_0) (L := Lmemory_Store_0 none) (tO_ok (cPair_ok (cInt_ok .i64) cUnit_ok) (tO_ok (cPair_ok cStr_ok cUnit_ok) (tO_ok (cK_ok cUnit_ok) (tO_ok (cPair_ok (cInt_ok .i64) cUnit_ok) (tO_ok (cPair_ok (cInt_ok .i64) cUnit_ok) tNil_ok))))) (bRv_ok bNil_ok) (enc := eSmemory_Store_0) (out := xTmemory_Store_0) (outS := xSmemory_Store_0) (step := Wmemory_Store_0) (fun _ => rfl) (fun _ _ => by kernel_rfl) (by kernel_rfl) (fun _ => rfl) roundmemory_Store_0
theorem runmemory_Store (x : (List Int) × Int × (List UInt8) × Unit) (g : Unit) : execF Ememory_Store Try.f55 (Amemory_Store.enc x) (bNil.enc g) = (Tmemory_Store none x.1 x.2.1 x.2.2.1).map Rmemory_Store := by kernel_rfl
theorem okmemory_Store : FnOk Try.prog cd 55 Smemory_Store := mk_ok (E := Ememory_Store) cd_ok (addF_ok okmemory_copied fns54_ok) Try.func55 (by kernel_rfl) (loops_of (addL_ok lpmemory_Store_0 noL_ok)) (aO_ok (cSl_ok 3) (aO_ok (cInt_ok .i64) (aO_ok cStr_ok (aNil_ok)))) bNil_ok (T := fun x _ => Tmemory_Store none x.1 x.2.1 x.2.2.1) (fun _ _ => rfl) runmemory_Store
noncomputable def fns55 := addF 55 true Smemory_Store fns54
theorem fns55_ok : ∀ f q t, fns55 f = some (q, t) → FnOk Try.prog cd f t := addF_ok okmemory_Store fns54_ok
/-- emulator/diskctl.transfer$1 -/
noncomputable def Tdiskctl_transfer_1 (x0 : Int) (g0 : Disk) (g1 : Int) : Tree Bool :=
  .ite (decide (g0.addr ≤ x0))
    (.leaf (decide (x0 < (IntKind.wrap .i64 (g0.addr + (IntKind.wrap .i64 ((2 : Int) * g1)))))))
    (.leaf (false))
noncomputable def diskctl_transfer_1 (x0 : Int) (g0 : Disk) (g1 : Int) : Option Bool := (Tdiskctl_transfer_1 x0 g0 g1).run
noncomputable def Adiskctl_transfer_1 : Arg U (Int × Unit) := aO (cInt .i64) (aP 0 0 (aP 1 0 (aNil)))
noncomputable def Gdiskctl_transfer_1 : Bls U (Disk × Int × Unit) := bC cDisk (bC (cInt .i64) (bNil))
noncomputable def Rdiskctl_transfer_1 (_x : Int × Unit) (g : Disk × Int × Unit) (r : Bool) : List (V U) × List (Blk U) := ([vO (cPair cBool (cUnit)) (r, ())], [.cells ((cDisk : Cdc U Disk).enc g.1) none, .cells (((cInt .i64) : Cdc U Int).enc g.2.1) none])
noncomputable def Sdiskctl_transfer_1 : List (V U) → List (Blk U) → Option (FnOut U) := mkSpecG Adiskctl_transfer_1 Gdiskctl_transfer_1 (fun x g => diskctl_transfer_1 x.1 g.1 g.2.1) Rdiskctl_transfer_1
noncomputable def Ediskctl_transfer_1 : Env U := { P := Try.prog, cd := cd, fns := fns55, lps := noL, frz := fun _r => false, nt := 18, n0 := 2 }
theorem rndiskctl_transfer_1 (x0 : Int) (g0 : Disk) (g1 : Int) : execX false Ediskctl_transfer_1 Try.f51 (Adiskctl_transfer_1.enc (x0, ())) (Gdiskctl_transfer_1.enc (g0, g1, ())) = (Tdiskctl_transfer_1 x0 g0 g1).map (Rdiskctl_transfer_1 (x0, ()) (g0, g1, ())) := by kernel_rfl
theorem rundiskctl_transfer_1 : ∀ (x : Int × Unit) (g : Disk × Int × Unit), execX false Ediskctl_transfer_1 Try.f51 (Adiskctl_transfer_1.enc x) (Gdiskctl_transfer_1.enc g) = (Tdiskctl_transfer_1 x.1 g.1 g.2.1).map (Rdiskctl_transfer_1 x g)
  | (x0, ()), (g0, g1, ()) => rndiskctl_transfer_1 x0 g0 g1
theorem okdiskctl_transfer_1 : FnOk Try.prog cd 51 Sdiskctl_transfer_1 := mk_okG (E := Ediskctl_transfer_1) (A := Adiskctl_transfer_1) (B := Gdiskctl_transfer_1) false cd_ok fns55_ok Try.func51 (by kernel_rfl) (noLoops_body (by kernel_rfl)) (aO_ok (cInt_ok .i64) (aP_ok (aP_ok (aNil_ok)))) (bC_ok cDisk_ok (bC_ok (cInt_ok .i64) bNil_ok)) (T := fun (x : Int × Unit) (g : Disk × Int × Unit) => Tdiskctl_transfer_1 x.1 g.1 g.2.1) (fun _ _ => rfl) rundiskctl_transfer_1
theorem kpdiskctl_transfer_1 : Keeps Sdiskctl_transfer_1 [0, 1] := mkSpecG_keeps (bC_ok cDisk_ok (bC_ok (cInt_ok .i64) bNil_ok)) (fun x g y => by kernel_rfl)
/-- slices.IndexFunc[[]int,int] -/
structure Sslices_IndexFunc_int_int_0 where
  t0 : (List Int)
  t7 : Int
  t8 : Int
noncomputable def Wslices_IndexFunc_int_int_0 (kk : (Disk × Int)) (s : Sslices_IndexFunc_int_int_0) : Tree (Sslices_IndexFunc_int_int_0 ⊕ (Int ⊕ Unit)) :=
  .ite (decide (s.t8 < s.t7))
    (.ite (decide (0 ≤ s.t8))
      (.opt Int (s.t0[(s.t8).toNat]?) fun y50 =>
        .opt Bool (diskctl_transfer_1 y50 kk.1 kk.2) fun r51 =>
          .ite (r51)
            (.leaf (.inr (.inl s.t8)))
            (.leaf (.inl (Sslices_IndexFunc_int_int_0.mk s.t0 s.t7 (IntKind.wrap .i64 (s.t8 + (1 : Int)))))))
      .fail)
    (.leaf (.inr (.inr ())))
noncomputable def Lslices_IndexFunc_int_int_0 (q : Option Nat) (kk : (Disk × Int)) (s : Sslices_IndexFunc_int_int_0) : Option (Int ⊕ Unit) := limQ q (fun s => (Wslices_IndexFunc_int_int_0 kk s).run) s
theorem leLslices_IndexFunc_int_int_0 (k : Nat) (kk : (Disk × Int)) (s : Sslices_IndexFunc_int_int_0) : Le (Lslices_IndexFunc_int_int_0 (some k) kk s) (Lslices_IndexFunc_int_int_0 none kk s) := limQ_le (fun _ => Le.rfl) s
noncomputable def Tslices_IndexFunc_int_int (q : Option Nat) (x0 : (List Int)) (g0 : Disk) (g1 : Int) : Tree Int :=
  .opt (Int ⊕ Unit) (Lslices_IndexFunc_int_int_0 q (g0, g1) (Sslices_IndexFunc_int_int_0.mk x0 (x0.length : Int) (0 : Int))) fun l52 =>
    .ite (l52.isLeft)
      (.opt Int (l52.getLeft?) fun a53 =>
        .leaf (a53))
      (.opt Unit (l52.getRight?) fun b54 =>
        .leaf ((-1 : Int)))
noncomputable def slices_IndexFunc_int_int (q : Option Nat) (x0 : (List Int)) (g0 : Disk) (g1 : Int) : Option Int := (Tslices_IndexFunc_int_int q x0 g0 g1).run
theorem leslices_IndexFunc_int_int (k : Nat) (x0 : (List Int)) (g0 : Disk) (g1 : Int) : Le (slices_IndexFunc_int_int (some k) x0 g0 g1) (slices_IndexFunc_int_int none x0 g0 g1) := (TLe.opt (leLslices_IndexFunc_int_int_0 k _ _) fun _ => TLe.rfl)
noncomputable def Aslices_IndexFunc_int_int : Arg U ((List Int) × Unit) := aO (cSl 3) (aF 51 [(.ptr 0 0), (.ptr 1 0)] (aNil))
noncomputable def Gslices_IndexFunc_int_int : Bls U (Disk × Int × Unit) := bC cDisk (bC (cInt .i64) (bNil))
noncomputable def Rslices_IndexFunc_int_int (_x : (List Int) × Unit) (g : Disk × Int × Unit) (r : Int) : List (V U) × List (Blk U) := ([vO (cPair (cInt .i64) (cUnit)) (r, ())], [.cells ((cDisk : Cdc U Disk).enc g.1) none, .cells (((cInt .i64) : Cdc U Int).enc g.2.1) none])
noncomputable def Sslices_IndexFunc_int_int : List (V U) → List (Blk U) → Option (FnOut U) := mkSpecG Aslices_IndexFunc_int_int Gslices_IndexFunc_int_int (fun x g => slices_IndexFunc_int_int none x.1 g.1 g.2.1) Rslices_IndexFunc_int_int
noncomputable def Pslices_IndexFunc_int_int_0 (x : ((List Int) × Unit) × (Unit) × (Int × Unit) × (Int × Unit) × Unit) (g : (Disk × Unit) × (Int × Unit) × Unit) : (Disk × Int) × Sslices_IndexFunc_int_int_0 := ((g.1.1, g.2.1.1), Sslices_IndexFunc_int_int_0.mk x.1.1 x.2.2.1.1 x.2.2.2.1.1)
noncomputable def tAslices_IndexFunc_int_int_0 : Tms U (((List Int) × Unit) × (Unit) × (Int × Unit) × (Int × Unit) × Unit) := tO 0 (cPair (cSl 3) (cUnit)) (tO 1 (cK2 (.fn 51 [] [(.ptr 0 0), (.ptr 1 0)]) (cUnit)) (tO 7 (cPair (cInt .i64) (cUnit)) (tO 8 (cPair (cInt .i64) (cUnit)) (tNil))))
noncomputable def tBslices_IndexFunc_int_int_0 : Bls U ((Disk × Unit) × (Int × Unit) × Unit) := bC (cPair cDisk (cUnit)) (bC (cPair (cInt .i64) (cUnit)) (bNil))
noncomputable def eSslices_IndexFunc_int_int_0 (kk : (Disk × Int)) (s : Sslices_IndexFunc_int_int_0) : St U := { tm := [(0, .v (vO (cPair (cSl 3) (cUnit)) (s.t0, ()))), (1, .v (vO (cK2 (.fn 51 [] [(.ptr 0 0), (.ptr 1 0)]) (cUnit)) (()))), (7, .v (vO (cPair (cInt .i64) (cUnit)) (s.t7, ()))), (8, .v (vO (cPair (cInt .i64) (cUnit)) (s.t8, ())))], hp := [.cells ((cPair cDisk (cUnit) : Cdc U (Disk × Unit)).enc (kk.1, ())) none, .cells ((cPair (cInt .i64) (cUnit) : Cdc U (Int × Unit)).enc (kk.2, ())) none] }
noncomputable def xSslices_IndexFunc_int_int_0 (kk : (Disk × Int)) : (Int ⊕ Unit) → Ex × St U
  | .inl r => (.ret, { tm := [(4, .v (vO (cPair (cInt .i64) (cUnit)) (r, ())))], hp := [.cells ((cPair cDisk (cUnit) : Cdc U (Disk × Unit)).enc (kk.1, ())) none, .cells ((cPair (cInt .i64) (cUnit) : Cdc U (Int × Unit)).enc (kk.2, ())) none] })
  | .inr r => (.exit 0, { tm := [], hp := [.cells ((cPair cDisk (cUnit) : Cdc U (Disk × Unit)).enc (kk.1, ())) none, .cells ((cPair (cInt .i64) (cUnit) : Cdc U (Int × Unit)).enc (kk.2, ())) none] })
noncomputable def xTslices_IndexFunc_int_int_0 (kk : (Disk × Int)) (y : (Int ⊕ Unit)) : Tree (Ex × St U) := .ite y.isLeft (.opt Int y.getLeft? fun r => .leaf (.ret, { tm := [(4, .v (vO (cPair (cInt .i64) (cUnit)) (r, ())))], hp := [.cells ((cPair cDisk (cUnit) : Cdc U (Disk × Unit)).enc (kk.1, ())) none, .cells ((cPair (cInt .i64) (cUnit) : Cdc U (Int × Unit)).enc (kk.2, ())) none] })) (.opt Unit y.getRight? fun r => .leaf (.exit 0, { tm := [], hp := [.cells ((cPair cDisk (cUnit) : Cdc U (Disk × Unit)).enc (kk.1, ())) none, .cells ((cPair (cInt .i64) (cUnit) : Cdc U (Int × Unit)).enc (kk.2, ())) none] }))
noncomputable def hslices_IndexFunc_int_int_0 : Hd := { keep := [0, 1, 7, 8], xkeep := [4], own := false }
noncomputable def Eslices_IndexFunc_int_int : Env U := { P := Try.prog, cd := cd, fns := (addF 51 false (Sdiskctl_transfer_1) fns55), lps := (addL 0 hslices_IndexFunc_int_int_0 (mkLoopK tAslices_IndexFunc_int_int_0 tBslices_IndexFunc_int_int_0 Pslices_IndexFunc_int_int_0 (Lslices_IndexFunc_int_int_0 none) xTslices_IndexFunc_int_int_0) noL), frz := fun _r => false, nt := 19, n0 := 2 }
noncomputable def Bslices_IndexFunc_int_int_0 : Code := (loopAt (Try.f63.body.getD .skip) 0 0).getD .skip
theorem roundslices_IndexFunc_int_int_0 (kk : (Disk × Int)) (s : Sslices_IndexFunc_int_int_0) : round Eslices_IndexFunc_int_int hslices_IndexFunc_int_int_0 Bslices_IndexFunc_int_int_0 0 (eSslices_IndexFunc_int_int_0 kk s) = (Wslices_IndexFunc_int_int_0 kk s).map (sumE (eSslices_IndexFunc_int_int_0 kk) (xSslices_IndexFunc_int_int_0 kk)) := by kernel_rfl
theorem lpslices_IndexFunc_int_int_0 : LpOk Eslices_IndexFunc_int_int Bslices_IndexFunc_int_int_0 0 := mkLoopK_ok (A := tAslices_IndexFunc_int_int_0) (B := tBslices_IndexFunc_int_int_0) (f := Pslices_IndexFunc_int_int_0) (L := Lslices_IndexFunc_int_int_0 none) (tO_ok (cPair_ok (cSl_ok 3) cUnit_ok) (tO_ok (cK2_ok cUnit_ok) (tO_ok (cPair_ok (cInt_ok .i64) cUnit_ok) (tO_ok (cPair_ok (cInt_ok .i64) cUnit_ok) tNil_ok)))) (bC_ok (cPair_ok cDisk_ok cUnit_ok) (bC_ok (cPair_ok (cInt_ok .i64) cUnit_ok) bNil_ok)) (enc := eSslices_IndexFunc_int_int_0) (out := xTslices_IndexFunc_int_int_0) (outS := xSslices_IndexFunc_int_int_0) (step := Wslices_IndexFunc_int_int_0) (fun _ _ => rfl) (fun _ _ => by kernel_rfl) (by kernel_rfl) (fun _ b => by cases b <;> rfl) roundslices_IndexFunc_int_int_0
theorem rnslices_IndexFunc_int_int (x0 : (List Int)) (g0 : Disk) (g1 : Int) : execX false Eslices_IndexFunc_int_int Try.f63 (Aslices_IndexFunc_int_int.enc (x0, ())) (Gslices_IndexFunc_int_int.enc (g0, g1, ())) = (Tslices_IndexFunc_int_int none x0 g0 g1).map (Rslices_IndexFunc_int_int (x0, ()) (g0, g1, ())) := by kernel_rfl
theorem runslices_IndexFunc_int_int : ∀ (x : (List Int) × Unit) (g : Disk × Int × Unit), execX false Eslices_IndexFunc_int_int Try.f63 (Aslices_IndexFunc_int_int.enc x) (Gslices_IndexFunc_int_int.enc g) = (Tslices_IndexFunc_int_int none x.1 g.1 g.2.1).map (Rslices_IndexFunc_int_int x g)
  | (x0, ()), (g0, g1, ()) => rnslices_IndexFunc_int_int x0 g0 g1
theorem okslices_IndexFunc_int_int : FnOk Try.prog cd 63 Sslices_IndexFunc_int_int := mk_okG (E := Eslices_IndexFunc_int_int) (A := Aslices_IndexFunc_int_int) (B := Gslices_IndexFunc_int_int) false cd_ok (addF_ok okdiskctl_transfer_1 fns55_ok) Try.func63 (by kernel_rfl) (loops_of (addL_ok lpslices_IndexFunc_int_int_0 noL_ok)) (aO_ok (cSl_ok 3) (aF_ok (aNil_ok))) (bC_ok cDisk_ok (bC_ok (cInt_ok .i64) bNil_ok)) (T := fun (x : (List Int) × Unit) (g : Disk × Int × Unit) => Tslices_IndexFunc_int_int none x.1 g.1 g.2.1) (fun _ _ => rfl) runslices_IndexFunc_int_int
theorem kpslices_IndexFunc_int_int : Keeps Sslices_IndexFunc_int_int [0, 1] := mkSpecG_keeps (bC_ok cDisk_ok (bC_ok (cInt_ok .i64) bNil_ok)) (fun x g y => by kernel_rfl)
/-- slices.ContainsFunc[[]int,int] -/
noncomputable def Tslices_ContainsFunc_int_int (q : Option Nat) (x0 : (List Int)) (g0 : Disk) (g1 : Int) : Tree Bool :=
  .opt Int (slices_IndexFunc_int_int q x0 g0 g1) fun r55 =>
    .leaf (decide ((0 : Int) ≤ r55))
noncomputable def slices_ContainsFunc_int_int (q : Option Nat) (x0 : (List Int)) (g0 : Disk) (g1 : Int) : Option Bool := (Tslices_ContainsFunc_int_int q x0 g0 g1).run
theorem leslices_ContainsFunc_int_int (k : Nat) (x0 : (List Int)) (g0 : Disk) (g1 : Int) : Le (slices_ContainsFunc_int_int (some k) x0 g0 g1) (slices_ContainsFunc_int_int none x0 g0 g1) := (TLe.opt (leslices_IndexFunc_int_int k _ _ _) fun _ => TLe.rfl)
noncomputable def Aslices_ContainsFunc_int_int : Arg U ((List Int) × Unit) := aO (cSl 3) (aF 51 [(.ptr 0 0), (.ptr 1 0)] (aNil))
noncomputable def Gslices_ContainsFunc_int_int : Bls U (Disk × Int × Unit) := bC cDisk (bC (cInt .i64) (bNil))
noncomputable def Rslices_ContainsFunc_int_int (_x : (List Int) × Unit) (g : Disk × Int × Unit) (r : Bool) : List (V U) × List (Blk U) := ([vO (cPair cBool (cUnit)) (r, ())], [.cells ((cDisk : Cdc U Disk).enc g.1) none, .cells (((cInt .i64) : Cdc U Int).enc g.2.1) none])
noncomputable def Sslices_ContainsFunc_int_int : List (V U) → List (Blk U) → Option (FnOut U) := mkSpecG Aslices_ContainsFunc_int_int Gslices_ContainsFunc_int_int (fun x g => slices_ContainsFunc_int_int none x.1 g.1 g.2.1) Rslices_ContainsFunc_int_int
noncomputable def Eslices_ContainsFunc_int_int : Env U := { P := Try.prog, cd := cd, fns := (addF 63 false (Sslices_IndexFunc_int_int) fns55), lps := noL, frz := fun _r => false, nt := 9, n0 := 2 }
theorem rnslices_ContainsFunc_int_int (x0 : (List Int)) (g0 : Disk) (g1 : Int) : execX false Eslices_ContainsFunc_int_int Try.f53 (Aslices_ContainsFunc_int_int.enc (x0, ())) (Gslices_ContainsFunc_int_int.enc (g0, g1, ())) = (Tslices_ContainsFunc_int_int none x0 g0 g1).map (Rslices_ContainsFunc_int_int (x0, ()) (g0, g1, ())) := by kernel_rfl
theorem runslices_ContainsFunc_int_int : ∀ (x : (List Int) × Unit) (g : Disk × Int × Unit), execX false Eslices_ContainsFunc_int_int Try.f53 (Aslices_ContainsFunc_int_int.enc x) (Gslices_ContainsFunc_int_int.enc g) = (Tslices_ContainsFunc_int_int none x.1 g.1 g.2.1).map (Rslices_ContainsFunc_int_int x g)
  | (x0, ()), (g0, g1, ()) => rnslices_ContainsFunc_int_int x0 g0 g1
theorem okslices_ContainsFunc_int_int : FnOk Try.prog cd 53 Sslices_ContainsFunc_int_int := mk_okG (E := Eslices_ContainsFunc_int_int) (A := Aslices_ContainsFunc_int_int) (B := Gslices_ContainsFunc_int_int) false cd_ok (addF_ok okslices_IndexFunc_int_int fns55_ok) Try.func53 (by kernel_rfl) (noLoops_body (by kernel_rfl)) (aO_ok (cSl_ok 3) (aF_ok (aNil_ok))) (bC_ok cDisk_ok (bC_ok (cInt_ok .i64) bNil_ok)) (T := fun (x : (List Int) × Unit) (g : Disk × Int × Unit) => Tslices_ContainsFunc_int_int none x.1 g.1 g.2.1) (fun _ _ => rfl) runslices_ContainsFunc_int_int
theorem kpslices_ContainsFunc_int_int : Keeps Sslices_ContainsFunc_int_int [0, 1] := mkSpecG_keeps (bC_ok cDisk_ok (bC_ok (cInt_ok .i64) bNil_ok)) (fun x g y => by kernel_rfl)
/-- slices.IndexFunc[[]int,int] -/
structure Sslices_IndexFunc_int_int_V2_0 where
  t7 : Int
  t8 : Int
noncomputable def Wslices_IndexFunc_int_int_V2_0 (kk : ((List Int) × Disk × Int)) (s : Sslices_IndexFunc_int_int_V2_0) : Tree (Sslices_IndexFunc_int_int_V2_0 ⊕ (Int ⊕ Unit)) :=
  .ite (decide (s.t8 < s.t7))
    (.ite (decide (0 ≤ s.t8))
      (.ite (decide (s.t8 < (kk.1.length : Int)))
        (.opt Int (kk.1[(s.t8).toNat]?) fun y63 =>
          .opt Bool (diskctl_transfer_1 y63 kk.2.1 kk.2.2) fun r64 =>
            .ite (r64)
              (.leaf (.inr (.inl s.t8)))
              (.leaf (.inl (Sslices_IndexFunc_int_int_V2_0.mk s.t7 (IntKind.wrap .i64 (s.t8 + (1 : Int)))))))
        .fail)
      .fail)
    (.leaf (.inr (.inr ())))
noncomputable def Lslices_IndexFunc_int_int_V2_0 (q : Option Nat) (kk : ((List Int) × Disk × Int)) (s : Sslices_IndexFunc_int_int_V2_0) : Option (Int ⊕ Unit) := limQ q (fun s => (Wslices_IndexFunc_int_int_V2_0 kk s).run) s
theorem leLslices_IndexFunc_int_int_V2_0 (k : Nat) (kk : ((List Int) × Disk × Int)) (s : Sslices_IndexFunc_int_int_V2_0) : Le (Lslices_IndexFunc_int_int_V2_0 (some k) kk s) (Lslices_IndexFunc_int_int_V2_0 none kk s) := limQ_le (fun _ => Le.rfl) s
noncomputable def Tslices_IndexFunc_int_int_V2 (q : Option Nat) (g0 : (List Int)) (g1 : Disk) (g2 : Int) : Tree Int :=
  .opt (Int ⊕ Unit) (Lslices_IndexFunc_int_int_V2_0 q (g0, g1, g2) (Sslices_IndexFunc_int_int_V2_0.mk (g0.length : Int) (0 : Int))) fun l65 =>
    .ite (l65.isLeft)
      (.opt Int (l65.getLeft?) fun a66 =>
        .leaf (a66))
      (.opt Unit (l65.getRight?) fun b67 =>
        .leaf ((-1 : Int)))
noncomputable def slices_IndexFunc_int_int_V2 (q : Option Nat) (g0 : (List Int)) (g1 : Disk) (g2 : Int) : Option Int := (Tslices_IndexFunc_int_int_V2 q g0 g1 g2).run
theorem leslices_IndexFunc_int_int_V2 (k : Nat) (g0 : (List Int)) (g1 : Disk) (g2 : Int) : Le (slices_IndexFunc_int_int_V2 (some k) g0 g1 g2) (slices_IndexFunc_int_int_V2 none g0 g1 g2) := (TLe.opt (leLslices_IndexFunc_int_int_V2_0 k _ _) fun _ => TLe.rfl)
noncomputable def Aslices_IndexFunc_int_int_V2 : Arg U (Unit) := aR 0 (aF 51 [(.ptr 1 0), (.ptr 2 0)] (aNil))
noncomputable def Gslices_IndexFunc_int_int_V2 : Bls U ((List Int) × Disk × Int × Unit) := bR 3 (bC cDisk (bC (cInt .i64) (bNil)))
noncomputable def Rslices_IndexFunc_int_int_V2 (_x : Unit) (g : (List Int) × Disk × Int × Unit) (r : Int) : List (V U) × List (Blk U) := ([vO (cPair (cInt .i64) (cUnit)) (r, ())], [.row 3 0 g.1, .cells ((cDisk : Cdc U Disk).enc g.2.1) none, .cells (((cInt .i64) : Cdc U Int).enc g.2.2.1) none])
noncomputable def Sslices_IndexFunc_int_int_V2 : List (V U) → List (Blk U) → Option (FnOut U) := mkSpecG Aslices_IndexFunc_int_int_V2 Gslices_IndexFunc_int_int_V2 (fun x g => slices_IndexFunc_int_int_V2 none g.1 g.2.1 g.2.2.1) Rslices_IndexFunc_int_int_V2
noncomputable def Pslices_IndexFunc_int_int_V2_0 (x : (Unit) × (Unit) × (Int × Unit) × (Int × Unit) × Unit) (g : (List Int) × (Disk × Unit) × (Int × Unit) × Unit) : ((List Int) × Disk × Int) × Sslices_IndexFunc_int_int_V2_0 := ((g.1, g.2.1.1, g.2.2.1.1), Sslices_IndexFunc_int_int_V2_0.mk x.2.2.1.1 x.2.2.2.1.1)
noncomputable def tAslices_IndexFunc_int_int_V2_0 : Tms U ((Unit) × (Unit) × (Int × Unit) × (Int × Unit) × Unit) := tO 0 (cK (.row 0 0) (cUnit)) (tO 1 (cK2 (.fn 51 [] [(.ptr 1 0), (.ptr 2 0)]) (cUnit)) (tO 7 (cPair (cInt .i64) (cUnit)) (tO 8 (cPair (cInt .i64) (cUnit)) (tNil))))
noncomputable def tBslices_IndexFunc_int_int_V2_0 : Bls U ((List Int) × (Disk × Unit) × (Int × Unit) × Unit) := bRv 3 0 (bC (cPair cDisk (cUnit)) (bC (cPair (cInt .i64) (cUnit)) (bNil)))
noncomputable def eSslices_IndexFunc_int_int_V2_0 (kk : ((List Int) × Disk × Int)) (s : Sslices_IndexFunc_int_int_V2_0) : St U := { tm := [(0, .v (vO (cK (.row 0 0) (cUnit)) (()))), (1, .v (vO (cK2 (.fn 51 [] [(.ptr 1 0), (.ptr 2 0)]) (cUnit)) (()))), (7, .v (vO (cPair (cInt .i64) (cUnit)) (s.t7, ()))), (8, .v (vO (cPair (cInt .i64) (cUnit)) (s.t8, ())))], hp := [.row 3 0 kk.1, .cells ((cPair cDisk (cUnit) : Cdc U (Disk × Unit)).enc (kk.2.1, ())) none, .cells ((cPair (cInt .i64) (cUnit) : Cdc U (Int × Unit)).enc (kk.2.2, ())) none] }
noncomputable def xSslices_IndexFunc_int_int_V2_0 (kk : ((List Int) × Disk × Int)) : (Int ⊕ Unit) → Ex × St U
  | .inl r => (.ret, { tm := [(4, .v (vO (cPair (cInt .i64) (cUnit)) (r, ())))], hp := [.row 3 0 kk.1, .cells ((cPair cDisk (cUnit) : Cdc U (Disk × Unit)).enc (kk.2.1, ())) none, .cells ((cPair (cInt .i64) (cUnit) : Cdc U (Int × Unit)).enc (kk.2.2, ())) none] })
  | .inr r => (.exit 0, { tm := [], hp := [.row 3 0 kk.1, .cells ((cPair cDisk (cUnit) : Cdc U (Disk × Unit)).enc (kk.2.1, ())) none, .cells ((cPair (cInt .i64) (cUnit) : Cdc U (Int × Unit)).enc (kk.2.2, ())) none] })
noncomputable def xTslices_IndexFunc_int_int_V2_0 (kk : ((List Int) × Disk × Int)) (y : (Int ⊕ Unit)) : Tree (Ex × St U) := .ite y.isLeft (.opt Int y.getLeft? fun r => .leaf (.ret, { tm := [(4, .v (vO (cPair (cInt .i64) (cUnit)) (r, ())))], hp := [.row 3 0 kk.1, .cells ((cPair cDisk (cUnit) : Cdc U (Disk × Unit)).enc (kk.2.1, ())) none, .cells ((cPair (cInt .i64) (cUnit) : Cdc U (Int × Unit)).enc (kk.2.2, ())) none] })) (.opt Unit y.getRight? fun r => .leaf (.exit 0, { tm := [], hp := [.row 3 0 kk.1, .cells ((cPair cDisk (cUnit) : Cdc U (Disk × Unit)).enc (kk.2.1, ())) none, .cells ((cPair (cInt .i64) (cUnit) : Cdc U (Int × Unit)).enc (kk.2.2, ())) none] }))
noncomputable def hslices_IndexFunc_int_int_V2_0 : Hd := { keep := [0, 1, 7, 8], xkeep := [4], own := false }
noncomputable def Eslices_IndexFunc_int_int_V2 : Env U := { P := Try.prog, cd := cd, fns := (addF 51 false (Sdiskctl_transfer_1) fns55), lps := (addL 0 hslices_IndexFunc_int_int_V2_0 (mkLoopK tAslices_IndexFunc_int_int_V2_0 tBslices_IndexFunc_int_int_V2_0 Pslices_IndexFunc_int_int_V2_0 (Lslices_IndexFunc_int_int_V2_0 none) xTslices_IndexFunc_int_int_V2_0) noL), frz := fun _r => false, nt := 19, n0 := 3 }
noncomputable def Bslices_IndexFunc_int_int_V2_0 : Code := (loopAt (Try.f63.body.getD .skip) 0 0).getD .skip
theorem roundslices_IndexFunc_int_int_V2_0 (kk : ((List Int) × Disk × Int)) (s : Sslices_IndexFunc_int_int_V2_0) : round Eslices_IndexFunc_int_int_V2 hslices_IndexFunc_int_int_V2_0 Bslices_IndexFunc_int_int_V2_0 0 (eSslices_IndexFunc_int_int_V2_0 kk s) = (Wslices_IndexFunc_int_int_V2_0 kk s).map (sumE (eSslices_IndexFunc_int_int_V2_0 kk) (xSslices_IndexFunc_int_int_V2_0 kk)) := by kernel_rfl
theorem lpslices_IndexFunc_int_int_V2_0 : LpOk Eslices_IndexFunc_int_int_V2 Bslices_IndexFunc_int_int_V2_0 0 := mkLoopK_ok (A := tAslices_IndexFunc_int_int_V2_0) (B := tBslices_IndexFunc_int_int_V2_0) (f := Pslices_IndexFunc_int_int_V2_0) (L := Lslices_IndexFunc_int_int_V2_0 none) (tO_ok (cK_ok cUnit_ok) (tO_ok (cK2_ok cUnit_ok) (tO_ok (cPair_ok (cInt_ok .i64) cUnit_ok) (tO_ok (cPair_ok (cInt_ok .i64) cUnit_ok) tNil_ok)))) (bRv_ok (bC_ok (cPair_ok cDisk_ok cUnit_ok) (bC_ok (cPair_ok (cInt_ok .i64) cUnit_ok) bNil_ok))) (enc := eSslices_IndexFunc_int_int_V2_0) (out := xTslices_IndexFunc_int_int_V2_0) (outS := xSslices_IndexFunc_int_int_V2_0) (step := Wslices_IndexFunc_int_int_V2_0) (fun _ _ => rfl) (fun _ _ => by kernel_rfl) (by kernel_rfl) (fun _ b => by cases b <;> rfl) roundslices_IndexFunc_int_int_V2_0
theorem rnslices_IndexFunc_int_int_V2 (g0 : (List Int)) (g1 : Disk) (g2 : Int) : execX false Eslices_IndexFunc_int_int_V2 Try.f63 (Aslices_IndexFunc_int_int_V2.enc ()) (Gslices_IndexFunc_int_int_V2.enc (g0, g1, g2, ())) = (Tslices_IndexFunc_int_int_V2 none g0 g1 g2).map (Rslices_IndexFunc_int_int_V2 () (g0, g1, g2, ())) := by kernel_rfl
theorem runslices_IndexFunc_int_int_V2 : ∀ (x : Unit) (g : (List Int) × Disk × Int × Unit), execX false Eslices_IndexFunc_int_int_V2 Try.f63 (Aslices_IndexFunc_int_int_V2.enc x) (Gslices_IndexFunc_int_int_V2.enc g) = (Tslices_IndexFunc_int_int_V2 none g.1 g.2.1 g.2.2.1).map (Rslices_IndexFunc_int_int_V2 x g)
  | (), (g0, g1, g2, ()) => rnslices_IndexFunc_int_int_V2 g0 g1 g2
theorem okslices_IndexFunc_int_int_V2 : FnOk Try.prog cd 63 Sslices_IndexFunc_int_int_V2 := mk_okG (E := Eslices_IndexFunc_int_int_V2) (A := Aslices_IndexFunc_int_int_V2) (B := Gslices_IndexFunc_int_int_V2) false cd_ok (addF_ok okdiskctl_transfer_1 fns55_ok) Try.func63 (by kernel_rfl) (loops_of (addL_ok lpslices_IndexFunc_int_int_V2_0 noL_ok)) (aR_ok (aF_ok (aNil_ok))) (bR_ok (bC_ok cDisk_ok (bC_ok (cInt_ok .i64) bNil_ok))) (T := fun (x : Unit) (g : (List Int) × Disk × Int × Unit) => Tslices_IndexFunc_int_int_V2 none g.1 g.2.1 g.2.2.1) (fun _ _ => rfl) runslices_IndexFunc_int_int_V2
theorem kpslices_IndexFunc_int_int_V2 : Keeps Sslices_IndexFunc_int_int_V2 [0, 1, 2] := mkSpecG_keeps (bR_ok (bC_ok cDisk_ok (bC_ok (cInt_ok .i64) bNil_ok))) (fun x g y => by kernel_rfl)
/-- slices.DeleteFunc[[]int,int] -/
structure Sslices_DeleteFunc_int_int_0 where
  t5 : Int
  t6 : Int
  b0 : (List Int)
noncomputable def Wslices_DeleteFunc_int_int_0 (kk : (Disk × Int)) (s : Sslices_DeleteFunc_int_int_0) : Tree (Sslices_DeleteFunc_int_int_0 ⊕ (Int × (List Int))) :=
  .ite (decide (s.t6 < (s.b0.length : Int)))
    (.ite (decide (0 ≤ s.t6))
      (.ite (decide (s.t6 < (s.b0.length : Int)))
        (.opt Int (s.b0[(s.t6).toNat]?) fun y69 =>
          .opt Bool (diskctl_transfer_1 y69 kk.1 kk.2) fun r70 =>
            .ite (!r70)
              (.ite (decide (0 ≤ s.t5))
                (.ite (decide (s.t5 < (s.b0.length : Int)))
                  (.opt Int (s.b0[(s.t5).toNat]?) fun y71 =>
                    .leaf (.inl (Sslices_DeleteFunc_int_int_0.mk (IntKind.wrap .i64 (s.t5 + (1 : Int))) (IntKind.wrap .i64 (s.t6 + (1 : Int))) (s.b0.set ((s.t5).toNat) y69))))
                  .fail)
                .fail)
              (.leaf (.inl (Sslices_DeleteFunc_int_int_0.mk s.t5 (IntKind.wrap .i64 (s.t6 + (1 : Int))) s.b0))))
        .fail)
      .fail)
    (.leaf (.inr (s.t5, s.b0)))
noncomputable def Lslices_DeleteFunc_int_int_0 (q : Option Nat) (kk : (Disk × Int)) (s : Sslices_DeleteFunc_int_int_0) : Option (Int × (List Int)) := limQ q (fun s => (Wslices_DeleteFunc_int_int_0 kk s).run) s
theorem leLslices_DeleteFunc_int_int_0 (k : Nat) (kk : (Disk × Int)) (s : Sslices_DeleteFunc_int_int_0) : Le (Lslices_DeleteFunc_int_int_0 (some k) kk s) (Lslices_DeleteFunc_int_int_0 none kk s) := limQ_le (fun _ => Le.rfl) s
noncomputable def Tslices_DeleteFunc_int_int (q : Option Nat) (g0 : (List Int)) (g1 : Disk) (g2 : Int) : Tree (Unit ⊕ ((Nat × Nat) × (List Int))) :=
  .opt Int (slices_IndexFunc_int_int_V2 q g0 g1 g2) fun r68 =>
    .ite (decide (r68 = (-1 : Int)))
      (.leaf (.inl ()))
      (.opt (Int × (List Int)) (Lslices_DeleteFunc_int_int_0 q (g1, g2) (Sslices_DeleteFunc_int_int_0.mk r68 (IntKind.wrap .i64 (r68 + (1 : Int))) g0)) fun l72 =>
        .ite (decide (0 ≤ l72.1))
          (.ite (decide (l72.1 ≤ ((l72.2.length : Nat) : Int)))
            (.ite (decide (0 ≤ l72.1))
              (.ite (decide (l72.1 ≤ (((l72.2.take ((l72.1).toNat) ++ List.replicate (l72.2.length - (l72.1).toNat) (0 : Int) ++ l72.2.drop ((l72.1).toNat + (l72.2.length - (l72.1).toNat))).length : Nat) : Int)))
                (.leaf (.inr ((0, (l72.1).toNat - 0), l72.2.take ((l72.1).toNat) ++ List.replicate (l72.2.length - (l72.1).toNat) (0 : Int) ++ l72.2.drop ((l72.1).toNat + (l72.2.length - (l72.1).toNat)))))
                .fail)
              .fail)
            .fail)
          .fail)
noncomputable def slices_DeleteFunc_int_int (q : Option Nat) (g0 : (List Int)) (g1 : Disk) (g2 : Int) : Option (Unit ⊕ ((Nat × Nat) × (List Int))) := (Tslices_DeleteFunc_int_int q g0 g1 g2).run
theorem leslices_DeleteFunc_int_int (k : Nat) (g0 : (List Int)) (g1 : Disk) (g2 : Int) : Le (slices_DeleteFunc_int_int (some k) g0 g1 g2) (slices_DeleteFunc_int_int none g0 g1 g2) := (TLe.opt (leslices_IndexFunc_int_int_V2 k _ _ _) fun _ => (TLe.ite TLe.rfl (TLe.opt (leLslices_DeleteFunc_int_int_0 k _ _) fun _ => TLe.rfl)))
noncomputable def Aslices_DeleteFunc_int_int : Arg U (Unit) := aR 0 (aF 51 [(.ptr 1 0), (.ptr 2 0)] (aNil))
noncomputable def Gslices_DeleteFunc_int_int : Bls U ((List Int) × Disk × Int × Unit) := bR 3 (bC cDisk (bC (cInt .i64) (bNil)))
noncomputable def Rslices_DeleteFunc_int_int (_x : Unit) (g : (List Int) × Disk × Int × Unit) (_r : Unit) : List (V U) × List (Blk U) := ([vO (cK (.row 0 0) (cUnit)) (())], [.row 3 0 g.1, .cells ((cDisk : Cdc U Disk).enc g.2.1) none, .cells (((cInt .i64) : Cdc U Int).enc g.2.2.1) none])
noncomputable def Rslices_DeleteFunc_int_intb (_x : Unit) (g : (List Int) × Disk × Int × Unit) (r : ((Nat × Nat) × (List Int))) : List (V U) × List (Blk U) := ([vO (cPair (cOwn 0 0) (cUnit)) (r.1, ())], [.row 3 0 r.2, .cells ((cDisk : Cdc U Disk).enc g.2.1) none, .cells (((cInt .i64) : Cdc U Int).enc g.2.2.1) none])
noncomputable def Sslices_DeleteFunc_int_int : List (V U) → List (Blk U) → Option (FnOut U) := mkSpecG2 Aslices_DeleteFunc_int_int Gslices_DeleteFunc_int_int (fun x g => slices_DeleteFunc_int_int none g.1 g.2.1 g.2.2.1) Rslices_DeleteFunc_int_int Rslices_DeleteFunc_int_intb
noncomputable def Pslices_DeleteFunc_int_int_0 (x : (Unit) × (Unit) × (Int × Unit) × (Int × Unit) × Unit) (g : (List Int) × (Disk × Unit) × (Int × Unit) × Unit) : (Disk × Int) × Sslices_DeleteFunc_int_int_0 := ((g.2.1.1, g.2.2.1.1), Sslices_DeleteFunc_int_int_0.mk x.2.2.1.1 x.2.2.2.1.1 g.1)
noncomputable def tAslices_DeleteFunc_int_int_0 : Tms U ((Unit) × (Unit) × (Int × Unit) × (Int × Unit) × Unit) := tO 0 (cK (.row 0 0) (cUnit)) (tO 1 (cK2 (.fn 51 [] [(.ptr 1 0), (.ptr 2 0)]) (cUnit)) (tO 5 (cPair (cInt .i64) (cUnit)) (tO 6 (cPair (cInt .i64) (cUnit)) (tNil))))
noncomputable def tBslices_DeleteFunc_int_int_0 : Bls U ((List Int) × (Disk × Unit) × (Int × Unit) × Unit) := bRv 3 0 (bC (cPair cDisk (cUnit)) (bC (cPair (cInt .i64) (cUnit)) (bNil)))
noncomputable def eSslices_DeleteFunc_int_int_0 (kk : (Disk × Int)) (s : Sslices_DeleteFunc_int_int_0) : St U := { tm := [(0, .v (vO (cK (.row 0 0) (cUnit)) (()))), (1, .v (vO (cK2 (.fn 51 [] [(.ptr 1 0), (.ptr 2 0)]) (cUnit)) (()))), (5, .v (vO (cPair (cInt .i64) (cUnit)) (s.t5, ()))), (6, .v (vO (cPair (cInt .i64) (cUnit)) (s.t6, ())))], hp := [.row 3 0 s.b0, .cells ((cPair cDisk (cUnit) : Cdc U (Disk × Unit)).enc (kk.1, ())) none, .cells ((cPair (cInt .i64) (cUnit) : Cdc U (Int × Unit)).enc (kk.2, ())) none] }
noncomputable def xSslices_DeleteFunc_int_int_0 (kk : (Disk × Int)) (r : (Int × (List Int))) : Ex × St U := (.exit 0, { tm := [(0, .v (vO (cK (.row 0 0) (cUnit)) (()))), (5, .v (vO (cPair (cInt .i64) (cUnit)) (r.1, ())))], hp := [.row 3 0 r.2, .cells ((cPair cDisk (cUnit) : Cdc U (Disk × Unit)).enc (kk.1, ())) none, .cells ((cPair (cInt .i64) (cUnit) : Cdc U (Int × Unit)).enc (kk.2, ())) none] })
noncomputable def xTslices_DeleteFunc_int_int_0 (kk : (Disk × Int)) (r : (Int × (List Int))) : Tree (Ex × St U) := .leaf (xSslices_DeleteFunc_int_int_0 kk r)
noncomputable def hslices_DeleteFunc_int_int_0 : Hd := { keep := [0, 1, 5, 6], xkeep := [0, 4, 5], own := false }
noncomputable def Eslices_DeleteFunc_int_int : Env U := { P := Try.prog, cd := cd, fns := (addF 63 false (Sslices_IndexFunc_int_int_V2) (addF 51 false (Sdiskctl_transfer_1) fns55)), lps := (addL 0 hslices_DeleteFunc_int_int_0 (mkLoopK tAslices_DeleteFunc_int_int_0 tBslices_DeleteFunc_int_int_0 Pslices_DeleteFunc_int_int_0 (Lslices_DeleteFunc_int_int_0 none) xTslices_DeleteFunc_int_int_0) noL), frz := fun _r => false, nt := 42, n0 := 3 }
noncomputable def Bslices_DeleteFunc_int_int_0 : Code := (loopAt (Try.f56.body.getD .skip) 0 0).getD .skip
theorem roundslices_DeleteFunc_int_int_0 (kk : (Disk × Int)) (s : Sslices_DeleteFunc_int_int_0) : round Eslices_DeleteFunc_int_int hslices_DeleteFunc_int_int_0 Bslices_DeleteFunc_int_int_0 0 (eSslices_DeleteFunc_int_int_0 kk s) = (Wslices_DeleteFunc_int_int_0 kk s).map (sumE (eSslices_DeleteFunc_int_int_0 kk) (xSslices_DeleteFunc_int_int_0 kk)) := by kernel_rfl
theorem lpslices_DeleteFunc_int_int_0 : LpOk Eslices_DeleteFunc_int_int Bslices_DeleteFunc_int_int_0 0 := mkLoopK_ok (A := tAslices_DeleteFunc_int_int_0) (B := tBslices_DeleteFunc_int_int_0) (f := Pslices_DeleteFunc_int_int_0) (L := Lslices_DeleteFunc_int_int_0 none) (tO_ok (cK_ok cUnit_ok) (tO_ok (cK2_ok cUnit_ok) (tO_ok (cPair_ok (cInt_ok .i64) cUnit_ok) (tO_ok (cPair_ok (cInt_ok .i64) cUnit_ok) tNil_ok)))) (bRv_ok (bC_ok (cPair_ok cDisk_ok cUnit_ok) (bC_ok (cPair_ok (cInt_ok .i64) cUnit_ok) bNil_ok))) (enc := eSslices_DeleteFunc_int_int_0) (out := xTslices_DeleteFunc_int_int_0) (outS := xSslices_DeleteFunc_int_int_0) (step := Wslices_DeleteFunc_int_int_0) (fun _ _ => rfl) (fun _ _ => by kernel_rfl) (by kernel_rfl) (fun _ _ => rfl) roundslices_DeleteFunc_int_int_0
theorem rnslices_DeleteFunc_int_int (g0 : (List Int)) (g1 : Disk) (g2 : Int) : execX false Eslices_DeleteFunc_int_int Try.f56 (Aslices_DeleteFunc_int_int.enc ()) (Gslices_DeleteFunc_int_int.enc (g0, g1, g2, ())) = (Tslices_DeleteFunc_int_int none g0 g1 g2).map ((Sum.elim (Rslices_DeleteFunc_int_int () (g0, g1, g2, ())) (Rslices_DeleteFunc_int_intb () (g0, g1, g2, ())))) := by kernel_rfl
theorem runslices_DeleteFunc_int_int : ∀ (x : Unit) (g : (List Int) × Disk × Int × Unit), execX false Eslices_DeleteFunc_int_int Try.f56 (Aslices_DeleteFunc_int_int.enc x) (Gslices_DeleteFunc_int_int.enc g) = (Tslices_DeleteFunc_int_int none g.1 g.2.1 g.2.2.1).map ((Sum.elim (Rslices_DeleteFunc_int_int x g) (Rslices_DeleteFunc_int_intb x g)))
  | (), (g0, g1, g2, ()) => rnslices_DeleteFunc_int_int g0 g1 g2
theorem okslices_DeleteFunc_int_int : FnOk Try.prog cd 56 Sslices_DeleteFunc_int_int := mk_okG2 (E := Eslices_DeleteFunc_int_int) (A := Aslices_DeleteFunc_int_int) (B := Gslices_DeleteFunc_int_int) false cd_ok (addF_ok okslices_IndexFunc_int_int_V2 (addF_ok okdiskctl_transfer_1 fns55_ok)) Try.func56 (by kernel_rfl) (loops_of (addL_ok lpslices_DeleteFunc_int_int_0 noL_ok)) (aR_ok (aF_ok (aNil_ok))) (bR_ok (bC_ok cDisk_ok (bC_ok (cInt_ok .i64) bNil_ok))) (T := fun (x : Unit) (g : (List Int) × Disk × Int × Unit) => Tslices_DeleteFunc_int_int none g.1 g.2.1 g.2.2.1) (fun _ _ => rfl) runslices_DeleteFunc_int_int
theorem kpslices_DeleteFunc_int_int : Keeps Sslices_DeleteFunc_int_int [1, 2] := mkSpecG2_keeps (bR_ok (bC_ok cDisk_ok (bC_ok (cInt_ok .i64) bNil_ok))) (fun x g y => by kernel_rfl) (fun x g y => by kernel_rfl)
/-- emulator/diskctl.transfer -/
noncomputable def Tdiskctl_transfer (q : Option Nat) (x0 : Disk) (x1 : (List Int)) (x2 : (List Int)) (x3 : Int) : Tree (Drive × (List Int) × (List Int) × Bool) :=
  .opt ((List UInt8) × Int) (memory_Bytes q x1 x0.addr (IntKind.wrap .i64 ((2 : Int) * x3))) fun r73 =>
    .ite (!decide (r73.2 = (0 : Int)))
      (.leaf ((x0.drive, x1, x2, false)))
      (.ite (decide (x0.command = (2 : Int)))
        (.opt (Drive × Int) (drive_Write q x0.drive x0.start r73.1) fun r74 =>
          .ite (decide (r74.2 = (0 : Int)))
            (.opt Bool (slices_ContainsFunc_int_int q x2 x0 x3) fun r75 =>
              .leaf ((r74.1, x1, x2, !r75)))
            (.leaf ((r74.1, x1, x2, false))))
        (.opt ((List UInt8) × Int) (drive_Read x0.drive x0.start) fun r76 =>
          .ite (!decide (r76.2 = (0 : Int)))
            (.leaf ((x0.drive, x1, x2, false)))
            (.ite (decide (x0.command = (3 : Int)))
              (.ite (decide (0 ≤ IntKind.wrap .i64 ((2 : Int) * x3)))
                (.ite (decide (IntKind.wrap .i64 ((2 : Int) * x3) ≤ ((r76.1.length : Nat) : Int)))
                  (.ite (decide (((r76.1.drop (0)).take ((IntKind.wrap .i64 ((2 : Int) * x3)).toNat - 0)) = r73.1))
                    (.opt Bool (slices_ContainsFunc_int_int q x2 x0 x3) fun r77 =>
                      .leaf ((x0.drive, x1, x2, !r77)))
                    (.leaf ((x0.drive, x1, x2, false))))
                  .fail)
                .fail)
              (.ite (decide (0 ≤ IntKind.wrap .i64 ((2 : Int) * x3)))
                (.ite (decide (IntKind.wrap .i64 ((2 : Int) * x3) ≤ ((r76.1.length : Nat) : Int)))
                  (.opt ((List Int) × Int) (memory_Store q x1 x0.addr ((r76.1.drop (0)).take ((IntKind.wrap .i64 ((2 : Int) * x3)).toNat - 0))) fun r78 =>
                    .opt (List Int) (cloneF 8 x2) fun r79 =>
                      .opt (Unit ⊕ ((Nat × Nat) × (List Int))) (slices_DeleteFunc_int_int q r79 x0 x3) fun r80 =>
                        .ite (r80.isLeft)
                          (.opt Unit (r80.getLeft?) fun a81 =>
                            .leaf ((x0.drive, r78.1, r79, decide (r78.2 = (0 : Int)))))
                          (.opt ((Nat × Nat) × (List Int)) (r80.getRight?) fun b82 =>
                            .leaf ((x0.drive, r78.1, (b82.2.drop (b82.1.1)).take (b82.1.2), decide (r78.2 = (0 : Int))))))
                  .fail)
                .fail))))
noncomputable def diskctl_transfer (q : Option Nat) (x0 : Disk) (x1 : (List Int)) (x2 : (List Int)) (x3 : Int) : Option (Drive × (List Int) × (List Int) × Bool) := (Tdiskctl_transfer q x0 x1 x2 x3).run
theorem lediskctl_transfer (k : Nat) (x0 : Disk) (x1 : (List Int)) (x2 : (List Int)) (x3 : Int) : Le (diskctl_transfer (some k) x0 x1 x2 x3) (diskctl_transfer none x0 x1 x2 x3) := (TLe.opt (lememory_Bytes k _ _ _) fun _ => (TLe.ite TLe.rfl (TLe.ite (TLe.opt (ledrive_Write k _ _ _) fun _ => (TLe.ite (TLe.opt (leslices_ContainsFunc_int_int k _ _ _) fun _ => TLe.rfl) TLe.rfl)) (TLe.opt Le.rfl fun _ => (TLe.ite TLe.rfl (TLe.ite (TLe.ite (TLe.ite (TLe.ite (TLe.opt (leslices_ContainsFunc_int_int k _ _ _) fun _ => TLe.rfl) TLe.rfl) TLe.rfl) TLe.rfl) (TLe.ite (TLe.ite (TLe.opt (lememory_Store k _ _ _) fun _ => (TLe.opt Le.rfl fun _ => (TLe.opt (leslices_DeleteFunc_int_int k _ _ _) fun _ => TLe.rfl))) TLe.rfl) TLe.rfl)))))))
noncomputable def Adiskctl_transfer : Arg U (Disk × (List Int) × (List Int) × Int × Unit) := aA cDisk (aO (cSl 3) (aO (cSl 3) (aO (cInt .i64) (aNil))))
noncomputable def Rdiskctl_transfer (r : (Drive × (List Int) × (List Int) × Bool)) : List (V U) × List (Blk U) := ([vA cDrive r.1, vO (cSl 3) r.2.1, vO (cSl 3) r.2.2.1, vO cBool r.2.2.2], [])
noncomputable def Sdiskctl_transfer : List (V U) → List (Blk U) → Option (FnOut U) := mkSpec Adiskctl_transfer bNil (fun x _ => diskctl_transfer none x.1 x.2.1 x.2.2.1 x.2.2.2.1) Rdiskctl_transfer
noncomputable def Ediskctl_transfer : Env U := { P := Try.prog, cd := cd, fns := (addF 56 false (Sslices_DeleteFunc_int_int) (addF 53 false (Sslices_ContainsFunc_int_int) (addF 49 false (cloneSpec 3 8) fns55))), lps := noL, frz := fun _r => false, nt := 113, n0 := 0, fps := fun _r _i => bif Nat.beq _r 7 && Nat.beq _i 0 then .rd [3] else bif Nat.beq _r 7 && Nat.beq _i 8 then .wr [] 4 else bif Nat.beq _r 12 && Nat.beq _i 0 then .rd [] else bif Nat.beq _r 12 && Nat.beq _i 1 then .rd [0] else bif Nat.beq _r 12 && Nat.beq _i 13 then .wr [] 3 else bif Nat.beq _r 14 && Nat.beq _i 0 then .rd [] else bif Nat.beq _r 14 && Nat.beq _i 1 then .rd [0] else bif Nat.beq _r 14 && Nat.beq _i 4 then .wr [] 3 else bif Nat.beq _r 14 && Nat.beq _i 6 then .wr [3] 4 else .none, kps := fun f => bif Nat.beq f 56 then [1, 2] else (fun f => bif Nat.beq f 53 then [0, 1] else []) f, kok := (kok_add (q0 := false) (by kernel_rfl) kpslices_DeleteFunc_int_int (kok_add (q0 := false) (by kernel_rfl) kpslices_ContainsFunc_int_int kok_nil)) }
theorem rundiskctl_transfer (x : Disk × (List Int) × (List Int) × Int × Unit) (g : Unit) : execF Ediskctl_transfer Try.f32 (Adiskctl_transfer.enc x) (bNil.enc g) = (Tdiskctl_transfer none x.1 x.2.1 x.2.2.1 x.2.2.2.1).map Rdiskctl_transfer := by kernel_rfl
theorem okdiskctl_transfer : FnOk Try.prog cd 32 Sdiskctl_transfer := mk_ok (E := Ediskctl_transfer) cd_ok (addF_ok okslices_DeleteFunc_int_int (addF_ok okslices_ContainsFunc_int_int (addF_ok okslices_Clone_int_int fns55_ok))) Try.func32 (by kernel_rfl) (noLoops_body (by kernel_rfl)) (aA_ok cDisk_ok (aO_ok (cSl_ok 3) (aO_ok (cSl_ok 3) (aO_ok (cInt_ok .i64) (aNil_ok))))) bNil_ok (T := fun x _ => Tdiskctl_transfer none x.1 x.2.1 x.2.2.1 x.2.2.2.1) (fun _ _ => rfl) rundiskctl_transfer
noncomputable def fns32 := addF 32 true Sdiskctl_transfer fns55
theorem fns32_ok : ∀ f q t, fns32 f = some (q, t) → FnOk Try.prog cd f t := addF_ok okdiskctl_transfer fns55_ok
/-- emulator/diskctl.Tick -/
noncomputable def Tdiskctl_Tick (q : Option Nat) (x0 : Disk) (x1 : (List Int)) (x2 : (List Int)) : Tree (Disk × (List Int) × (List Int)) :=
  .ite (decide (x0.left = (0 : Int)))
    (.leaf ((x0, x1, x2)))
    (.ite (decide ((0 : Int) < (IntKind.wrap .i64 (x0.left - (1 : Int)))))
      (.leaf ((Disk.mk x0.drive x0.enable x0.ready x0.error x0.command x0.words x0.addr x0.start (IntKind.wrap .i64 (x0.left - (1 : Int))), x1, x2)))
      (.opt (Drive × (List Int) × (List Int) × Bool) (diskctl_transfer q (Disk.mk x0.drive x0.enable x0.ready x0.error x0.command x0.words x0.addr x0.start (IntKind.wrap .i64 (x0.left - (1 : Int)))) x1 x2 (if (64 : Int) < x0.words then (64 : Int) else x0.words)) fun r83 =>
        .ite (!r83.2.2.2)
          (.leaf ((Disk.mk x0.drive x0.enable true true x0.command x0.words x0.addr x0.start (IntKind.wrap .i64 (x0.left - (1 : Int))), x1, x2)))
          (.ite (decide ((IntKind.wrap .i64 (x0.words - (if (64 : Int) < x0.words then (64 : Int) else x0.words))) = (0 : Int)))
            (.leaf ((Disk.mk r83.1 x0.enable true x0.error x0.command (IntKind.wrap .i64 (x0.words - (if (64 : Int) < x0.words then (64 : Int) else x0.words))) (IntKind.wrap .i64 (((BitVec.ofInt 64 (IntKind.wrap .i64 (x0.addr + (IntKind.wrap .i64 ((2 : Int) * (if (64 : Int) < x0.words then (64 : Int) else x0.words))))) &&& BitVec.ofInt 64 (65535 : Int)).toNat : Int))) (IntKind.wrap .i64 (((BitVec.ofInt 64 (IntKind.wrap .i64 (x0.start + (1 : Int))) &&& BitVec.ofInt 64 (65535 : Int)).toNat : Int))) (IntKind.wrap .i64 (x0.left - (1 : Int))), r83.2.1, r83.2.2.1)))
            (.leaf ((Disk.mk r83.1 x0.enable x0.ready x0.error x0.command (IntKind.wrap .i64 (x0.words - (if (64 : Int) < x0.words then (64 : Int) else x0.words))) (IntKind.wrap .i64 (((BitVec.ofInt 64 (IntKind.wrap .i64 (x0.addr + (IntKind.wrap .i64 ((2 : Int) * (if (64 : Int) < x0.words then (64 : Int) else x0.words))))) &&& BitVec.ofInt 64 (65535 : Int)).toNat : Int))) (IntKind.wrap .i64 (((BitVec.ofInt 64 (IntKind.wrap .i64 (x0.start + (1 : Int))) &&& BitVec.ofInt 64 (65535 : Int)).toNat : Int))) (8 : Int), r83.2.1, r83.2.2.1))))))
noncomputable def diskctl_Tick (q : Option Nat) (x0 : Disk) (x1 : (List Int)) (x2 : (List Int)) : Option (Disk × (List Int) × (List Int)) := (Tdiskctl_Tick q x0 x1 x2).run
theorem lediskctl_Tick (k : Nat) (x0 : Disk) (x1 : (List Int)) (x2 : (List Int)) : Le (diskctl_Tick (some k) x0 x1 x2) (diskctl_Tick none x0 x1 x2) := (TLe.ite TLe.rfl (TLe.ite TLe.rfl (TLe.opt (lediskctl_transfer k _ _ _ _) fun _ => TLe.rfl)))
noncomputable def Adiskctl_Tick : Arg U (Disk × (List Int) × (List Int) × Unit) := aA cDisk (aO (cSl 3) (aO (cSl 3) (aNil)))
noncomputable def Rdiskctl_Tick (r : (Disk × (List Int) × (List Int))) : List (V U) × List (Blk U) := ([vA cDisk r.1, vO (cSl 3) r.2.1, vO (cSl 3) r.2.2], [])
noncomputable def Sdiskctl_Tick : List (V U) → List (Blk U) → Option (FnOut U) := mkSpec Adiskctl_Tick bNil (fun x _ => diskctl_Tick none x.1 x.2.1 x.2.2.1) Rdiskctl_Tick
noncomputable def Ediskctl_Tick : Env U := { P := Try.prog, cd := cd, fns := fns32, lps := noL, frz := fun _r => false, nt := 77, n0 := 0 }
theorem rundiskctl_Tick (x : Disk × (List Int) × (List Int) × Unit) (g : Unit) : execF Ediskctl_Tick Try.f12 (Adiskctl_Tick.enc x) (bNil.enc g) = (Tdiskctl_Tick none x.1 x.2.1 x.2.2.1).map Rdiskctl_Tick := by kernel_rfl
theorem okdiskctl_Tick : FnOk Try.prog cd 12 Sdiskctl_Tick := mk_ok (E := Ediskctl_Tick) cd_ok fns32_ok Try.func12 (by kernel_rfl) (noLoops_body (by kernel_rfl)) (aA_ok cDisk_ok (aO_ok (cSl_ok 3) (aO_ok (cSl_ok 3) (aNil_ok)))) bNil_ok (T := fun x _ => Tdiskctl_Tick none x.1 x.2.1 x.2.2.1) (fun _ _ => rfl) rundiskctl_Tick
noncomputable def fns12 := addF 12 true Sdiskctl_Tick fns32
theorem fns12_ok : ∀ f q t, fns12 f = some (q, t) → FnOk Try.prog cd f t := addF_ok okdiskctl_Tick fns32_ok
/-- emulator/diskctl.bit -/
noncomputable def Tdiskctl_bit (x0 : Bool) (x1 : Int) : Tree Int :=
  .ite (x0)
    (.leaf (x1))
    (.leaf ((0 : Int)))
noncomputable def diskctl_bit (x0 : Bool) (x1 : Int) : Option Int := (Tdiskctl_bit x0 x1).run
noncomputable def Adiskctl_bit : Arg U (Bool × Int × Unit) := aO cBool (aO (cInt .i64) (aNil))
noncomputable def Rdiskctl_bit (r : Int) : List (V U) × List (Blk U) := ([vO (cInt .i64) r], [])
noncomputable def Sdiskctl_bit : List (V U) → List (Blk U) → Option (FnOut U) := mkSpec Adiskctl_bit bNil (fun x _ => diskctl_bit x.1 x.2.1) Rdiskctl_bit
noncomputable def Ediskctl_bit : Env U := { P := Try.prog, cd := cd, fns := fns12, lps := noL, frz := fun _r => false, nt := 7, n0 := 0 }
theorem rundiskctl_bit (x : Bool × Int × Unit) (g : Unit) : execF Ediskctl_bit Try.f47 (Adiskctl_bit.enc x) (bNil.enc g) = (Tdiskctl_bit x.1 x.2.1).map Rdiskctl_bit := by kernel_rfl
theorem okdiskctl_bit : FnOk Try.prog cd 47 Sdiskctl_bit := mk_ok (E := Ediskctl_bit) cd_ok fns12_ok Try.func47 (by kernel_rfl) (noLoops_body (by kernel_rfl)) (aO_ok cBool_ok (aO_ok (cInt_ok .i64) (aNil_ok))) bNil_ok (T := fun x _ => Tdiskctl_bit x.1 x.2.1) (fun _ _ => rfl) rundiskctl_bit
noncomputable def fns47 := addF 47 true Sdiskctl_bit fns12
theorem fns47_ok : ∀ f q t, fns47 f = some (q, t) → FnOk Try.prog cd f t := addF_ok okdiskctl_bit fns12_ok
/-- emulator/diskctl.Read -/
noncomputable def Tdiskctl_Read (x0 : Disk) (x1 : Int) : Tree (Int × Bool) :=
  .ite (decide (x1 = (0 : Int)))
    (.ite (decide (0 ≤ (1 : Int)))
      (.opt Int (diskctl_bit x0.enable (64 : Int)) fun r84 =>
        .opt Int (diskctl_bit x0.ready (128 : Int)) fun r85 =>
          .opt Int (diskctl_bit x0.error (32768 : Int)) fun r86 =>
            .leaf ((IntKind.wrap .i64 (((BitVec.ofInt 64 (IntKind.wrap .i64 (((BitVec.ofInt 64 (IntKind.wrap .i64 (((BitVec.ofInt 64 (IntKind.wrap .i64 (x0.command * 2 ^ (min ((1 : Int)).toNat 64))) ||| BitVec.ofInt 64 r84).toNat : Int))) ||| BitVec.ofInt 64 r85).toNat : Int))) ||| BitVec.ofInt 64 r86).toNat : Int)), true)))
      .fail)
    (.ite (decide (x1 = (2 : Int)))
      (.leaf ((x0.words, true)))
      (.ite (decide (x1 = (4 : Int)))
        (.leaf ((x0.addr, true)))
        (.ite (decide (x1 = (6 : Int)))
          (.leaf ((x0.start, true)))
          (.leaf (((0 : Int), false))))))
noncomputable def diskctl_Read (x0 : Disk) (x1 : Int) : Option (Int × Bool) := (Tdiskctl_Read x0 x1).run
noncomputable def Adiskctl_Read : Arg U (Disk × Int × Unit) := aA cDisk (aO (cInt .i64) (aNil))
noncomputable def Rdiskctl_Read (r : (Int × Bool)) : List (V U) × List (Blk U) := ([vO (cInt .i64) r.1, vO cBool r.2], [])
noncomputable def Sdiskctl_Read : List (V U) → List (Blk U) → Option (FnOut U) := mkSpec Adiskctl_Read bNil (fun x _ => diskctl_Read x.1 x.2.1) Rdiskctl_Read
noncomputable def Ediskctl_Read : Env U := { P := Try.prog, cd := cd, fns := fns47, lps := noL, frz := fun _r => false, nt := 36, n0 := 0 }
theorem rundiskctl_Read (x : Disk × Int × Unit) (g : Unit) : execF Ediskctl_Read Try.f26 (Adiskctl_Read.enc x) (bNil.enc g) = (Tdiskctl_Read x.1 x.2.1).map Rdiskctl_Read := by kernel_rfl
theorem okdiskctl_Read : FnOk Try.prog cd 26 Sdiskctl_Read := mk_ok (E := Ediskctl_Read) cd_ok fns47_ok Try.func26 (by kernel_rfl) (noLoops_body (by kernel_rfl)) (aA_ok cDisk_ok (aO_ok (cInt_ok .i64) (aNil_ok))) bNil_ok (T := fun x _ => Tdiskctl_Read x.1 x.2.1) (fun _ _ => rfl) rundiskctl_Read
noncomputable def fns26 := addF 26 true Sdiskctl_Read fns47
theorem fns26_ok : ∀ f q t, fns26 f = some (q, t) → FnOk Try.prog cd f t := addF_ok okdiskctl_Read fns47_ok
/-- emulator/emulatorlaw16.alive -/
structure Slaw16_alive_0 where
  t2 : Int
  t4 : (List Int)
  t5 : (List Int)
  t23 : Int
  b0 : Disk
noncomputable def Wlaw16_alive_0 (q : Option Nat) (s : Slaw16_alive_0) : Tree (Slaw16_alive_0 ⊕ (Int × (List Int) × (List Int) × Disk)) :=
  .ite (decide (s.t23 < (8 : Int)))
    (.opt (Disk × (List Int) × (List Int)) (diskctl_Tick q s.b0 s.t4 s.t5) fun r100 =>
      .leaf (.inl (Slaw16_alive_0.mk s.t2 r100.2.1 r100.2.2 (IntKind.wrap .i64 (s.t23 + (1 : Int))) r100.1)))
    (.leaf (.inr (s.t2, s.t4, s.t5, s.b0)))
noncomputable def Llaw16_alive_0 (q : Option Nat) (s : Slaw16_alive_0) : Option (Int × (List Int) × (List Int) × Disk) := limQ q (fun s => (Wlaw16_alive_0 q s).run) s
theorem leLlaw16_alive_0 (k : Nat) (s : Slaw16_alive_0) : Le (Llaw16_alive_0 (some k) s) (Llaw16_alive_0 none s) := limQ_le (fun s => (TLe.ite (TLe.opt (lediskctl_Tick k _ _ _) fun _ => TLe.rfl) TLe.rfl)) s
structure Slaw16_alive_1 where
  t2 : Int
  t4 : (List Int)
  t5 : (List Int)
  t6 : Int
  t8 : Int
  t46 : Int
  b0 : Disk
noncomputable def Wlaw16_alive_1 (q : Option Nat) (s : Slaw16_alive_1) : Tree (Slaw16_alive_1 ⊕ (Int × (List Int) × (List Int) × Int × Int × Disk)) :=
  .ite (decide (s.t46 < (8 : Int)))
    (.opt (Disk × (List Int) × (List Int)) (diskctl_Tick q s.b0 s.t4 s.t5) fun r105 =>
      .leaf (.inl (Slaw16_alive_1.mk s.t2 r105.2.1 r105.2.2 s.t6 s.t8 (IntKind.wrap .i64 (s.t46 + (1 : Int))) r105.1)))
    (.leaf (.inr (s.t2, s.t4, s.t5, s.t6, s.t8, s.b0)))
noncomputable def Llaw16_alive_1 (q : Option Nat) (s : Slaw16_alive_1) : Option (Int × (List Int) × (List Int) × Int × Int × Disk) := limQ q (fun s => (Wlaw16_alive_1 q s).run) s
theorem leLlaw16_alive_1 (k : Nat) (s : Slaw16_alive_1) : Le (Llaw16_alive_1 (some k) s) (Llaw16_alive_1 none s) := limQ_le (fun s => (TLe.ite (TLe.opt (lediskctl_Tick k _ _ _) fun _ => TLe.rfl) TLe.rfl)) s
noncomputable def Tlaw16_alive (q : Option Nat)  : Tree Bool :=
  .opt Drive (law16_sample q) fun r96 =>
    .opt Disk (diskctl_New r96) fun r97 =>
      .opt Disk (law16_start r97 (1 : Int) (1 : Int) (512 : Int) (3 : Int)) fun r98 =>
        .opt (Int × Bool) (diskctl_Read r98 (0 : Int)) fun r99 =>
          .ite (decide ((512 : Int) = (512 : Int)))
            (.ite (decide (0 ≤ (512 : Int)))
              (.ite (decide ((8 : Int) * (512 : Int) ≤ 281474976710656))
                (.opt (Int × (List Int) × (List Int) × Disk) (Llaw16_alive_0 q (Slaw16_alive_0.mk r99.1 (List.replicate ((512 : Int)).toNat (0 : Int)) ([(512 : Int)]) (0 : Int) r98)) fun l101 =>
                  .opt (Int × Bool) (diskctl_Read l101.2.2.2 (0 : Int)) fun r102 =>
                    .opt (Int × Bool) (diskctl_Read l101.2.2.2 (4 : Int)) fun r103 =>
                      .opt Disk (law16_start l101.2.2.2 (1 : Int) (1 : Int) (512 : Int) (200 : Int)) fun r104 =>
                        .opt (Int × (List Int) × (List Int) × Int × Int × Disk) (Llaw16_alive_1 q (Slaw16_alive_1.mk l101.1 l101.2.1 l101.2.2.1 r102.1 r103.1 (0 : Int) r104)) fun l106 =>
                          .opt (Int × Bool) (diskctl_Read l106.2.2.2.2.2 (0 : Int)) fun r107 =>
                            .ite (decide (l106.1 = (2 : Int)))
                              (.ite (decide (l106.2.2.2.1 = (130 : Int)))
                                (.ite (decide (l106.2.2.2.2.1 = (514 : Int)))
                                  (.ite (decide ((l106.2.1.length : Int) = (512 : Int)))
                                    (.ite (decide (0 ≤ (256 : Int)))
                                      (.opt Int (l106.2.1[((256 : Int)).toNat]?) fun y108 =>
                                        .ite (decide (y108 = (513 : Int)))
                                          (.ite (decide ((l106.2.2.1.length : Int) = (0 : Int)))
                                            (.ite (decide (r107.1 = (32898 : Int)))
                                              (.leaf (decide (l106.2.2.2.2.2.words = (1 : Int))))
                                              (.leaf (false)))
                                            (.leaf (false)))
                                          (.leaf (false)))
                                      .fail)
                                    (.leaf (false)))
                                  (.leaf (false)))
                                (.leaf (false)))
                              (.leaf (false)))
                .fail)
              .fail)
            .fail
noncomputable def law16_alive (q : Option Nat)  : Option Bool := (Tlaw16_alive q ).run
theorem lelaw16_alive (k : Nat)  : Le (law16_alive (some k) ) (law16_alive none ) := (TLe.opt (lelaw16_sample k) fun _ => (TLe.opt Le.rfl fun _ => (TLe.opt Le.rfl fun _ => (TLe.opt Le.rfl fun _ => (TLe.ite (TLe.ite (TLe.ite (TLe.opt (leLlaw16_alive_0 k _) fun _ => (TLe.opt Le.rfl fun _ => (TLe.opt Le.rfl fun _ => (TLe.opt Le.rfl fun _ => (TLe.opt (leLlaw16_alive_1 k _) fun _ => TLe.rfl))))) TLe.rfl) TLe.rfl) TLe.rfl)))))
noncomputable def Alaw16_alive : Arg U (Unit) := aNil
noncomputable def Rlaw16_alive (r : Bool) : List (V U) × List (Blk U) := ([vO cBool r], [])
noncomputable def Slaw16_alive : List (V U) → List (Blk U) → Option (FnOut U) := mkSpec Alaw16_alive bNil (fun x _ => law16_alive none ) Rlaw16_alive
noncomputable def Plaw16_alive_0 (x : (Unit) × (Int × Unit) × ((List Int) × Unit) × ((List Int) × Unit) × (Int × Unit) × Unit) (g : (Disk × Unit) × Unit) : Slaw16_alive_0 := Slaw16_alive_0.mk x.2.1.1 x.2.2.1.1 x.2.2.2.1.1 x.2.2.2.2.1.1 g.1.1
noncomputable def tAlaw16_alive_0 : Tms U ((Unit) × (Int × Unit) × ((List Int) × Unit) × ((List Int) × Unit) × (Int × Unit) × Unit) := tO 1 (cK (.ptr 0 0) (cUnit)) (tO 2 (cPair (cInt .i64) (cUnit)) (tO 4 (cPair (cSl 3) (cUnit)) (tO 5 (cPair (cSl 3) (cUnit)) (tO 23 (cPair (cInt .i64) (cUnit)) (tNil)))))
noncomputable def tBlaw16_alive_0 : Bls U ((Disk × Unit) × Unit) := bC (cPair cDisk (cUnit)) (bNil)
noncomputable def eSlaw16_alive_0 (s : Slaw16_alive_0) : St U := { tm := [(1, .v (vO (cK (.ptr 0 0) (cUnit)) (()))), (2, .v (vO (cPair (cInt .i64) (cUnit)) (s.t2, ()))), (4, .v (vO (cPair (cSl 3) (cUnit)) (s.t4, ()))), (5, .v (vO (cPair (cSl 3) (cUnit)) (s.t5, ()))), (23, .v (vO (cPair (cInt .i64) (cUnit)) (s.t23, ())))], hp := [.cells ((cPair cDisk (cUnit) : Cdc U (Disk × Unit)).enc (s.b0, ())) none] }
noncomputable def xSlaw16_alive_0 (r : (Int × (List Int) × (List Int) × Disk)) : Ex × St U := (.exit 0, { tm := [(1, .v (vO (cK (.ptr 0 0) (cUnit)) (()))), (2, .v (vO (cPair (cInt .i64) (cUnit)) (r.1, ()))), (4, .v (vO (cPair (cSl 3) (cUnit)) (r.2.1, ()))), (5, .v (vO (cPair (cSl 3) (cUnit)) (r.2.2.1, ())))], hp := [.cells ((cPair cDisk (cUnit) : Cdc U (Disk × Unit)).enc (r.2.2.2, ())) none] })
noncomputable def xTlaw16_alive_0 (r : (Int × (List Int) × (List Int) × Disk)) : Tree (Ex × St U) := .leaf (xSlaw16_alive_0 r)
noncomputable def hlaw16_alive_0 : Hd := { keep := [1, 2, 4, 5, 23], xkeep := [0, 1, 2, 4, 5], own := false }
noncomputable def Plaw16_alive_1 (x : (Int × Unit) × ((List Int) × Unit) × ((List Int) × Unit) × (Int × Unit) × (Int × Unit) × (Unit) × (Int × Unit) × Unit) (g : (Disk × Unit) × Unit) : Slaw16_alive_1 := Slaw16_alive_1.mk x.1.1 x.2.1.1 x.2.2.1.1 x.2.2.2.1.1 x.2.2.2.2.1.1 x.2.2.2.2.2.2.1.1 g.1.1
noncomputable def tAlaw16_alive_1 : Tms U ((Int × Unit) × ((List Int) × Unit) × ((List Int) × Unit) × (Int × Unit) × (Int × Unit) × (Unit) × (Int × Unit) × Unit) := tO 2 (cPair (cInt .i64) (cUnit)) (tO 4 (cPair (cSl 3) (cUnit)) (tO 5 (cPair (cSl 3) (cUnit)) (tO 6 (cPair (cInt .i64) (cUnit)) (tO 8 (cPair (cInt .i64) (cUnit)) (tO 10 (cK (.ptr 0 0) (cUnit)) (tO 46 (cPair (cInt .i64) (cUnit)) (tNil)))))))
noncomputable def tBlaw16_alive_1 : Bls U ((Disk × Unit) × Unit) := bC (cPair cDisk (cUnit)) (bNil)
noncomputable def eSlaw16_alive_1 (s : Slaw16_alive_1) : St U := { tm := [(2, .v (vO (cPair (cInt .i64) (cUnit)) (s.t2, ()))), (4, .v (vO (cPair (cSl 3) (cUnit)) (s.t4, ()))), (5, .v (vO (cPair (cSl 3) (cUnit)) (s.t5, ()))), (6, .v (vO (cPair (cInt .i64) (cUnit)) (s.t6, ()))), (8, .v (vO (cPair (cInt .i64) (cUnit)) (s.t8, ()))), (10, .v (vO (cK (.ptr 0 0) (cUnit)) (()))), (46, .v (vO (cPair (cInt .i64) (cUnit)) (s.t46, ())))], hp := [.cells ((cPair cDisk (cUnit) : Cdc U (Disk × Unit)).enc (s.b0, ())) none] }
noncomputable def xSlaw16_alive_1 (r : (Int × (List Int) × (List Int) × Int × Int × Disk)) : Ex × St U := (.exit 2, { tm := [(2, .v (vO (cPair (cInt .i64) (cUnit)) (r.1, ()))), (4, .v (vO (cPair (cSl 3) (cUnit)) (r.2.1, ()))), (5, .v (vO (cPair (cSl 3) (cUnit)) (r.2.2.1, ()))), (6, .v (vO (cPair (cInt .i64) (cUnit)) (r.2.2.2.1, ()))), (8, .v (vO (cPair (cInt .i64) (cUnit)) (r.2.2.2.2.1, ()))), (10, .v (vO (cK (.ptr 0 0) (cUnit)) (())))], hp := [.cells ((cPair cDisk (cUnit) : Cdc U (Disk × Unit)).enc (r.2.2.2.2.2, ())) none] })
noncomputable def xTlaw16_alive_1 (r : (Int × (List Int) × (List Int) × Int × Int × Disk)) : Tree (Ex × St U) := .leaf (xSlaw16_alive_1 r)
noncomputable def hlaw16_alive_1 : Hd := { keep := [2, 4, 5, 6, 8, 10, 46], xkeep := [0, 2, 4, 5, 6, 8, 10], own := false }
noncomputable def Elaw16_alive : Env U := { P := Try.prog, cd := cd, fns := fns26, lps := (addL 0 hlaw16_alive_0 (mkLoop tAlaw16_alive_0 tBlaw16_alive_0 Plaw16_alive_0 (Llaw16_alive_0 none) xTlaw16_alive_0) (addL 1 hlaw16_alive_1 (mkLoop tAlaw16_alive_1 tBlaw16_alive_1 Plaw16_alive_1 (Llaw16_alive_1 none) xTlaw16_alive_1) noL)), frz := fun _r => false, nt := 97, n0 := 0, mks := fun t => Nat.beq t 21 || Nat.beq t 22 }
noncomputable def Blaw16_alive_0 : Code := (loopAt (Try.f8.body.getD .skip) 0 0).getD .skip
theorem roundlaw16_alive_0 (s : Slaw16_alive_0) : round Elaw16_alive hlaw16_alive_0 Blaw16_alive_0 0 (eSlaw16_alive_0 s) = (Wlaw16_alive_0 none s).map (sumE eSlaw16_alive_0 xSlaw16_alive_0) := by kernel_rfl
theorem lplaw16_alive_0 : LpOk Elaw16_alive Blaw16_alive_0 0 := mkLoop_ok (A := tAlaw16_alive_0) (B := tBlaw16_alive_0) (f := Plaw16_alive_0) (L := Llaw16_alive_0 none) (tO_ok (cK_ok cUnit_ok) (tO_ok (cPair_ok (cInt_ok .i64) cUnit_ok) (tO_ok (cPair_ok (cSl_ok 3) cUnit_ok) (tO_ok (cPair_ok (cSl_ok 3) cUnit_ok) (tO_ok (cPair_ok (cInt_ok .i64) cUnit_ok) tNil_ok))))) (bC_ok (cPair_ok cDisk_ok cUnit_ok) bNil_ok) (enc := eSlaw16_alive_0) (out := xTlaw16_alive_0) (outS := xSlaw16_alive_0) (step := Wlaw16_alive_0 none) (fun _ => rfl) (fun _ _ => by kernel_rfl) (by kernel_rfl) (fun _ => rfl) roundlaw16_alive_0
noncomputable def Blaw16_alive_1 : Code := (loopAt (Try.f8.body.getD .skip) 0 1).getD .skip
theorem roundlaw16_alive_1 (s : Slaw16_alive_1) : round Elaw16_alive hlaw16_alive_1 Blaw16_alive_1 1 (eSlaw16_alive_1 s) = (Wlaw16_alive_1 none s).map (sumE eSlaw16_alive_1 xSlaw16_alive_1) := by kernel_rfl
theorem lplaw16_alive_1 : LpOk Elaw16_alive Blaw16_alive_1 1 := mkLoop_ok (A := tAlaw16_alive_1) (B := tBlaw16_alive_1) (f := Plaw16_alive_1) (L := Llaw16_alive_1 none) (tO_ok (cPair_ok (cInt_ok .i64) cUnit_ok) (tO_ok (cPair_ok (cSl_ok 3) cUnit_ok) (tO_ok (cPair_ok (cSl_ok 3) cUnit_ok) (tO_ok (cPair_ok (cInt_ok .i64) cUnit_ok) (tO_ok (cPair_ok (cInt_ok .i64) cUnit_ok) (tO_ok (cK_ok cUnit_ok) (tO_ok (cPair_ok (cInt_ok .i64) cUnit_ok) tNil_ok))))))) (bC_ok (cPair_ok cDisk_ok cUnit_ok) bNil_ok) (enc := eSlaw16_alive_1) (out := xTlaw16_alive_1) (outS := xSlaw16_alive_1) (step := Wlaw16_alive_1 none) (fun _ => rfl) (fun _ _ => by kernel_rfl) (by kernel_rfl) (fun _ => rfl) roundlaw16_alive_1
theorem runlaw16_alive (x : Unit) (g : Unit) : execF Elaw16_alive Try.f8 (Alaw16_alive.enc x) (bNil.enc g) = (Tlaw16_alive none ).map Rlaw16_alive := by kernel_rfl
theorem oklaw16_alive : FnOk Try.prog cd 8 Slaw16_alive := mk_ok (E := Elaw16_alive) cd_ok fns26_ok Try.func8 (by kernel_rfl) (loops_of (addL_ok lplaw16_alive_0 (addL_ok lplaw16_alive_1 noL_ok))) (aNil_ok) bNil_ok (T := fun x _ => Tlaw16_alive none ) (fun _ _ => rfl) runlaw16_alive
noncomputable def fns8 := addF 8 true Slaw16_alive fns26
theorem fns8_ok : ∀ f q t, fns8 f = some (q, t) → FnOk Try.prog cd f t := addF_ok oklaw16_alive fns26_ok
/-- emulator/emulatorlaw16.DiskctlCopies -/
structure Slaw16_DiskctlCopies_0 where
  t0 : (List Int)
  t1 : Int
  t2 : Int
  t3 : Int
  t9 : Int
  t37 : Int
  t38 : Int
  b0 : (List Int)
noncomputable def Wlaw16_DiskctlCopies_0 (s : Slaw16_DiskctlCopies_0) : Tree (Slaw16_DiskctlCopies_0 ⊕ ((List Int) × Int × Int × Int × Int × (List Int))) :=
  .ite (decide (s.t38 < s.t37))
    (.ite (decide (0 ≤ s.t38))
      (.ite (decide (s.t38 < (s.b0.length : Int)))
        (.opt Int (s.b0[(s.t38).toNat]?) fun y111 =>
          .leaf (.inl (Slaw16_DiskctlCopies_0.mk s.t0 s.t1 s.t2 s.t3 s.t9 s.t37 (IntKind.wrap .i64 (s.t38 + (1 : Int))) (s.b0.set ((s.t38).toNat) (IntKind.wrap .i64 (((BitVec.ofInt 64 (IntKind.wrap .i64 ((7 : Int) * s.t38)) &&& BitVec.ofInt 64 (65535 : Int)).toNat : Int)))))))
        .fail)
      .fail)
    (.leaf (.inr (s.t0, s.t1, s.t2, s.t3, s.t9, s.b0)))
noncomputable def Llaw16_DiskctlCopies_0 (q : Option Nat) (s : Slaw16_DiskctlCopies_0) : Option ((List Int) × Int × Int × Int × Int × (List Int)) := limQ q (fun s => (Wlaw16_DiskctlCopies_0 s).run) s
theorem leLlaw16_DiskctlCopies_0 (k : Nat) (s : Slaw16_DiskctlCopies_0) : Le (Llaw16_DiskctlCopies_0 (some k) s) (Llaw16_DiskctlCopies_0 none s) := limQ_le (fun _ => Le.rfl) s
structure Slaw16_DiskctlCopies_1 where
  t0 : (List Int)
  t9 : Int
  t12 : Int
  t13 : Int
  t14 : Int
  t56 : (List Int)
  t57 : Int
  t58 : Int
  b0 : (List Int)
noncomputable def Wlaw16_DiskctlCopies_1 (s : Slaw16_DiskctlCopies_1) : Tree (Slaw16_DiskctlCopies_1 ⊕ ((List Int) × Int × Int × Int × Int × (List Int))) :=
  .ite (decide (s.t58 < s.t57))
    (.ite (decide (0 ≤ s.t58))
      (.opt Int (s.t56[(s.t58).toNat]?) fun y113 =>
        .ite (decide (0 ≤ IntKind.wrap .i64 (s.t12 + s.t58)))
          (.ite (decide (IntKind.wrap .i64 (s.t12 + s.t58) < (s.b0.length : Int)))
            (.opt Int (s.b0[(IntKind.wrap .i64 (s.t12 + s.t58)).toNat]?) fun y114 =>
              .leaf (.inl (Slaw16_DiskctlCopies_1.mk s.t0 s.t9 s.t12 s.t13 s.t14 s.t56 s.t57 (IntKind.wrap .i64 (s.t58 + (1 : Int))) (s.b0.set ((IntKind.wrap .i64 (s.t12 + s.t58)).toNat) (IntKind.wrap .i64 (((BitVec.ofInt 64 y113 &&& BitVec.ofInt 64 (65535 : Int)).toNat : Int)))))))
            .fail)
          .fail)
      .fail)
    (.leaf (.inr (s.t0, s.t9, s.t12, s.t13, s.t14, s.b0)))
noncomputable def Llaw16_DiskctlCopies_1 (q : Option Nat) (s : Slaw16_DiskctlCopies_1) : Option ((List Int) × Int × Int × Int × Int × (List Int)) := limQ q (fun s => (Wlaw16_DiskctlCopies_1 s).run) s
theorem leLlaw16_DiskctlCopies_1 (k : Nat) (s : Slaw16_DiskctlCopies_1) : Le (Llaw16_DiskctlCopies_1 (some k) s) (Llaw16_DiskctlCopies_1 none s) := limQ_le (fun _ => Le.rfl) s
structure Slaw16_DiskctlCopies_3 where
  t0 : (List Int)
  t9 : Int
  t10 : (List Int)
  t13 : Int
  t14 : Int
  t20 : (List Int)
  t21 : (List Int)
  t22 : Int
  t79 : (List T31)
  t80 : Int
  t81 : Int
  t99 : Int
  t100 : Int
  b0 : Disk
  b1_0 : Int
  b1_1 : Int
noncomputable def Wlaw16_DiskctlCopies_3 (q : Option Nat) (s : Slaw16_DiskctlCopies_3) : Tree (Slaw16_DiskctlCopies_3 ⊕ (((List Int) × Bool × Int × (List Int) × Int × Int × (List Int) × (List Int) × (List T31) × Int × Int × Disk × Int × Int) ⊕ ((List Int) × Int × (List Int) × Int × Int × (List Int) × (List Int) × (List T31) × Int × Int × Disk × Int × Int))) :=
  .ite (decide (s.t100 < s.t99))
    (.ite (s.b0.ready)
      (.leaf (.inr (.inl (s.t0, false, s.t9, s.t10, s.t13, s.t14, s.t20, s.t21, s.t79, s.t80, s.t81, s.b0, s.b1_0, s.b1_1))))
      (.ite (decide (s.b0.left = (0 : Int)))
        (.leaf (.inr (.inl (s.t0, false, s.t9, s.t10, s.t13, s.t14, s.t20, s.t21, s.t79, s.t80, s.t81, s.b0, s.b1_0, s.b1_1))))
        (.opt (Disk × (List Int) × (List Int)) (diskctl_Tick q s.b0 s.t20 s.t21) fun r120 =>
          .ite (decide (s.t100 < (IntKind.wrap .i64 (s.t22 - (1 : Int)))))
            (.ite (r120.1.ready)
              (.leaf (.inr (.inl (s.t0, false, s.t9, s.t10, s.t13, s.t14, r120.2.1, r120.2.2, s.t79, s.t80, s.t81, r120.1, s.b1_0, s.b1_1))))
              (.leaf (.inl (Slaw16_DiskctlCopies_3.mk s.t0 s.t9 s.t10 s.t13 s.t14 r120.2.1 r120.2.2 s.t22 s.t79 s.t80 s.t81 s.t99 (IntKind.wrap .i64 (s.t100 + (1 : Int))) r120.1 s.b1_0 s.b1_1))))
            (.leaf (.inl (Slaw16_DiskctlCopies_3.mk s.t0 s.t9 s.t10 s.t13 s.t14 r120.2.1 r120.2.2 s.t22 s.t79 s.t80 s.t81 s.t99 (IntKind.wrap .i64 (s.t100 + (1 : Int))) r120.1 s.b1_0 s.b1_1))))))
    (.leaf (.inr (.inr (s.t0, s.t9, s.t10, s.t13, s.t14, s.t20, s.t21, s.t79, s.t80, s.t81, s.b0, s.b1_0, s.b1_1))))
noncomputable def Llaw16_DiskctlCopies_3 (q : Option Nat) (s : Slaw16_DiskctlCopies_3) : Option (((List Int) × Bool × Int × (List Int) × Int × Int × (List Int) × (List Int) × (List T31) × Int × Int × Disk × Int × Int) ⊕ ((List Int) × Int × (List Int) × Int × Int × (List Int) × (List Int) × (List T31) × Int × Int × Disk × Int × Int)) := limQ q (fun s => (Wlaw16_DiskctlCopies_3 q s).run) s
theorem leLlaw16_DiskctlCopies_3 (k : Nat) (s : Slaw16_DiskctlCopies_3) : Le (Llaw16_DiskctlCopies_3 (some k) s) (Llaw16_DiskctlCopies_3 none s) := limQ_le (fun s => (TLe.ite (TLe.ite TLe.rfl (TLe.ite TLe.rfl (TLe.opt (lediskctl_Tick k _ _ _) fun _ => TLe.rfl))) TLe.rfl)) s
structure Slaw16_DiskctlCopies_4 where
  t0 : (List Int)
  t9 : Int
  t10 : (List Int)
  t13 : Int
  t14 : Int
  t20 : (List Int)
  t79 : (List T31)
  t80 : Int
  t81 : Int
  t170 : Int
  t171 : Int
  b0 : Disk
  b1_0 : Int
  b1_1 : Int
noncomputable def Wlaw16_DiskctlCopies_4 (s : Slaw16_DiskctlCopies_4) : Tree (Slaw16_DiskctlCopies_4 ⊕ (((List Int) × Bool × Int × (List Int) × Int × Int × (List T31) × Int × Int × Disk) ⊕ ((List Int) × Int × (List Int) × Int × Int × (List T31) × Int × Int × Disk))) :=
  .ite (decide (s.t171 < s.t170))
    (.ite (decide (0 ≤ s.t171))
      (.opt Int (s.t10[(s.t171).toNat]?) fun y124 =>
        .ite (decide (s.b1_0 = (1 : Int)))
          (.ite (decide (s.t13 ≤ s.t171))
            (.ite (decide (s.t171 < (IntKind.wrap .i64 (s.t13 + s.t9))))
              (.ite (decide (0 ≤ IntKind.wrap .i64 (s.t171 - s.t13)))
                (.opt Int (s.t0[(IntKind.wrap .i64 (s.t171 - s.t13)).toNat]?) fun y125 =>
                  .ite (decide (0 ≤ s.t171))
                    (.opt Int (s.t20[(s.t171).toNat]?) fun y126 =>
                      .ite (!decide (y126 = (IntKind.wrap .i64 (((BitVec.ofInt 64 y125 &&& BitVec.ofInt 64 (65535 : Int)).toNat : Int)))))
                        (.leaf (.inr (.inl (s.t0, false, s.t9, s.t10, s.t13, s.t14, s.t79, s.t80, s.t81, s.b0))))
                        (.leaf (.inl (Slaw16_DiskctlCopies_4.mk s.t0 s.t9 s.t10 s.t13 s.t14 s.t20 s.t79 s.t80 s.t81 s.t170 (IntKind.wrap .i64 (s.t171 + (1 : Int))) s.b0 s.b1_0 s.b1_1))))
                    .fail)
                .fail)
              (.ite (decide (0 ≤ s.t171))
                (.opt Int (s.t20[(s.t171).toNat]?) fun y127 =>
                  .ite (!decide (y127 = y124))
                    (.leaf (.inr (.inl (s.t0, false, s.t9, s.t10, s.t13, s.t14, s.t79, s.t80, s.t81, s.b0))))
                    (.leaf (.inl (Slaw16_DiskctlCopies_4.mk s.t0 s.t9 s.t10 s.t13 s.t14 s.t20 s.t79 s.t80 s.t81 s.t170 (IntKind.wrap .i64 (s.t171 + (1 : Int))) s.b0 s.b1_0 s.b1_1))))
                .fail))
            (.ite (decide (0 ≤ s.t171))
              (.opt Int (s.t20[(s.t171).toNat]?) fun y128 =>
                .ite (!decide (y128 = y124))
                  (.leaf (.inr (.inl (s.t0, false, s.t9, s.t10, s.t13, s.t14, s.t79, s.t80, s.t81, s.b0))))
                  (.leaf (.inl (Slaw16_DiskctlCopies_4.mk s.t0 s.t9 s.t10 s.t13 s.t14 s.t20 s.t79 s.t80 s.t81 s.t170 (IntKind.wrap .i64 (s.t171 + (1 : Int))) s.b0 s.b1_0 s.b1_1))))
              .fail))
          (.ite (decide (0 ≤ s.t171))
            (.opt Int (s.t20[(s.t171).toNat]?) fun y129 =>
              .ite (!decide (y129 = y124))
                (.leaf (.inr (.inl (s.t0, false, s.t9, s.t10, s.t13, s.t14, s.t79, s.t80, s.t81, s.b0))))
                (.leaf (.inl (Slaw16_DiskctlCopies_4.mk s.t0 s.t9 s.t10 s.t13 s.t14 s.t20 s.t79 s.t80 s.t81 s.t170 (IntKind.wrap .i64 (s.t171 + (1 : Int))) s.b0 s.b1_0 s.b1_1))))
            .fail))
      .fail)
    (.leaf (.inr (.inr (s.t0, s.t9, s.t10, s.t13, s.t14, s.t79, s.t80, s.t81, s.b0))))
noncomputable def Llaw16_DiskctlCopies_4 (q : Option Nat) (s : Slaw16_DiskctlCopies_4) : Option (((List Int) × Bool × Int × (List Int) × Int × Int × (List T31) × Int × Int × Disk) ⊕ ((List Int) × Int × (List Int) × Int × Int × (List T31) × Int × Int × Disk)) := limQ q (fun s => (Wlaw16_DiskctlCopies_4 s).run) s
theorem leLlaw16_DiskctlCopies_4 (k : Nat) (s : Slaw16_DiskctlCopies_4) : Le (Llaw16_DiskctlCopies_4 (some k) s) (Llaw16_DiskctlCopies_4 none s) := limQ_le (fun _ => Le.rfl) s
structure Slaw16_DiskctlCopies_2 where
  t0 : (List Int)
  t9 : Int
  t10 : (List Int)
  t13 : Int
  t14 : Int
  t79 : (List T31)
  t80 : Int
  t81 : Int
  b0 : Disk
noncomputable def Wlaw16_DiskctlCopies_2 (q : Option Nat) (s : Slaw16_DiskctlCopies_2) : Tree (Slaw16_DiskctlCopies_2 ⊕ (Bool ⊕ Unit)) :=
  .ite (decide (s.t81 < s.t80))
    (.ite (decide (0 ≤ s.t81))
      (.opt T31 (s.t79[(s.t81).toNat]?) fun y118 =>
        .opt Disk (law16_start s.b0 y118.f0 s.t9 (IntKind.wrap .i64 ((2 : Int) * y118.f1)) s.t14) fun r119 =>
          .ite (decide ((64 : Int) = 0))
            .fail
            (.opt (((List Int) × Bool × Int × (List Int) × Int × Int × (List Int) × (List Int) × (List T31) × Int × Int × Disk × Int × Int) ⊕ ((List Int) × Int × (List Int) × Int × Int × (List Int) × (List Int) × (List T31) × Int × Int × Disk × Int × Int)) (Llaw16_DiskctlCopies_3 q (Slaw16_DiskctlCopies_3.mk s.t0 s.t9 s.t10 s.t13 s.t14 s.t10 ([]) (IntKind.wrap .i64 ((8 : Int) * (IntKind.wrap .i64 (((IntKind.wrap .i64 (s.t9 + (63 : Int)))).tdiv (64 : Int))))) s.t79 s.t80 s.t81 (IntKind.wrap .i64 ((8 : Int) * (IntKind.wrap .i64 (((IntKind.wrap .i64 (s.t9 + (63 : Int)))).tdiv (64 : Int))))) (0 : Int) r119 y118.f0 y118.f1)) fun l121 =>
              .ite (l121.isLeft)
                (.opt ((List Int) × Bool × Int × (List Int) × Int × Int × (List Int) × (List Int) × (List T31) × Int × Int × Disk × Int × Int) (l121.getLeft?) fun a122 =>
                  .leaf (.inr (.inl a122.2.1)))
                (.opt ((List Int) × Int × (List Int) × Int × Int × (List Int) × (List Int) × (List T31) × Int × Int × Disk × Int × Int) (l121.getRight?) fun b123 =>
                  .ite (!b123.2.2.2.2.2.2.2.2.2.2.1.ready)
                    (.leaf (.inr (.inl false)))
                    (.ite (b123.2.2.2.2.2.2.2.2.2.2.1.error)
                      (.leaf (.inr (.inl false)))
                      (.ite (!decide (b123.2.2.2.2.2.2.2.2.2.2.1.words = (0 : Int)))
                        (.leaf (.inr (.inl false)))
                        (.ite (!decide (b123.2.2.2.2.2.2.2.2.2.2.1.addr = (IntKind.wrap .i64 ((2 : Int) * (IntKind.wrap .i64 (b123.2.2.2.2.2.2.2.2.2.2.2.2 + b123.2.1))))))
                          (.leaf (.inr (.inl false)))
                          (.ite (decide ((64 : Int) = 0))
                            .fail
                            (.ite (!decide (b123.2.2.2.2.2.2.2.2.2.2.1.start = (IntKind.wrap .i64 (b123.2.2.2.2.1 + (IntKind.wrap .i64 (((IntKind.wrap .i64 (b123.2.1 + (63 : Int)))).tdiv (64 : Int)))))))
                              (.leaf (.inr (.inl false)))
                              (.ite (!decide ((b123.2.2.2.2.2.2.1.length : Int) = (0 : Int)))
                                (.leaf (.inr (.inl false)))
                                (.ite (!decide ((b123.2.2.2.2.2.1.length : Int) = (1024 : Int)))
                                  (.leaf (.inr (.inl false)))
                                  (.opt (((List Int) × Bool × Int × (List Int) × Int × Int × (List T31) × Int × Int × Disk) ⊕ ((List Int) × Int × (List Int) × Int × Int × (List T31) × Int × Int × Disk)) (Llaw16_DiskctlCopies_4 q (Slaw16_DiskctlCopies_4.mk b123.1 b123.2.1 b123.2.2.1 b123.2.2.2.1 b123.2.2.2.2.1 b123.2.2.2.2.2.1 b123.2.2.2.2.2.2.2.1 b123.2.2.2.2.2.2.2.2.1 b123.2.2.2.2.2.2.2.2.2.1 (b123.2.2.2.2.2.1.length : Int) (0 : Int) b123.2.2.2.2.2.2.2.2.2.2.1 b123.2.2.2.2.2.2.2.2.2.2.2.1 b123.2.2.2.2.2.2.2.2.2.2.2.2)) fun l130 =>
                                    .ite (l130.isLeft)
                                      (.opt ((List Int) × Bool × Int × (List Int) × Int × Int × (List T31) × Int × Int × Disk) (l130.getLeft?) fun a131 =>
                                        .leaf (.inr (.inl a131.2.1)))
                                      (.opt ((List Int) × Int × (List Int) × Int × Int × (List T31) × Int × Int × Disk) (l130.getRight?) fun b132 =>
                                        .leaf (.inl (Slaw16_DiskctlCopies_2.mk b132.1 b132.2.1 b132.2.2.1 b132.2.2.2.1 b132.2.2.2.2.1 b132.2.2.2.2.2.1 b132.2.2.2.2.2.2.1 (IntKind.wrap .i64 (b132.2.2.2.2.2.2.2.1 + (1 : Int))) b132.2.2.2.2.2.2.2.2))))))))))))))
      .fail)
    (.leaf (.inr (.inr ())))
noncomputable def Llaw16_DiskctlCopies_2 (q : Option Nat) (s : Slaw16_DiskctlCopies_2) : Option (Bool ⊕ Unit) := limQ q (fun s => (Wlaw16_DiskctlCopies_2 q s).run) s
theorem leLlaw16_DiskctlCopies_2 (k : Nat) (s : Slaw16_DiskctlCopies_2) : Le (Llaw16_DiskctlCopies_2 (some k) s) (Llaw16_DiskctlCopies_2 none s) := limQ_le (fun s => (TLe.ite (TLe.ite (TLe.opt Le.rfl fun _ => (TLe.opt Le.rfl fun _ => (TLe.ite TLe.rfl (TLe.opt (leLlaw16_DiskctlCopies_3 k _) fun _ => (TLe.ite TLe.rfl (TLe.opt Le.rfl fun _ => (TLe.ite TLe.rfl (TLe.ite TLe.rfl (TLe.ite TLe.rfl (TLe.ite TLe.rfl (TLe.ite TLe.rfl (TLe.ite TLe.rfl (TLe.ite TLe.rfl (TLe.ite TLe.rfl (TLe.opt (leLlaw16_DiskctlCopies_4 k _) fun _ => TLe.rfl))))))))))))))) TLe.rfl) TLe.rfl)) s
noncomputable def Tlaw16_DiskctlCopies (q : Option Nat) (x0 : (List Int)) (x1 : Int) (x2 : Int) (x3 : Int) : Tree Bool :=
  .ite (decide ((x0.length : Int) = (0 : Int)))
    (.opt Bool (law16_alive q) fun r109 =>
      .leaf (r109))
    (.ite (decide ((200 : Int) < (x0.length : Int)))
      (.opt Bool (law16_alive q) fun r110 =>
        .leaf (r110))
      (.ite (decide ((1024 : Int) = (1024 : Int)))
        (.ite (decide (0 ≤ (1024 : Int)))
          (.ite (decide ((8 : Int) * (1024 : Int) ≤ 281474976710656))
            (.opt ((List Int) × Int × Int × Int × Int × (List Int)) (Llaw16_DiskctlCopies_0 q (Slaw16_DiskctlCopies_0.mk x0 x1 x2 x3 (x0.length : Int) ((List.replicate ((1024 : Int)).toNat (0 : Int)).length : Int) (0 : Int) (List.replicate ((1024 : Int)).toNat (0 : Int)))) fun l112 =>
              .ite (decide ((4 : Int) = 0))
                .fail
                (.opt ((List Int) × Int × Int × Int × Int × (List Int)) (Llaw16_DiskctlCopies_1 q (Slaw16_DiskctlCopies_1.mk l112.1 l112.2.2.2.2.1 (IntKind.wrap .i64 l112.2.1) (IntKind.wrap .i64 ((512 : Int) + (IntKind.wrap .i64 l112.2.2.1))) (((IntKind.wrap .i64 l112.2.2.2.1)).tmod (4 : Int)) l112.1 (l112.1.length : Int) (0 : Int) l112.2.2.2.2.2)) fun l115 =>
                  .opt Drive (law16_sample q) fun r116 =>
                    .opt Disk (diskctl_New r116) fun r117 =>
                      .opt (Bool ⊕ Unit) (Llaw16_DiskctlCopies_2 q (Slaw16_DiskctlCopies_2.mk l115.1 l115.2.1 l115.2.2.2.2.2 l115.2.2.2.1 l115.2.2.2.2.1 ([T31.mk (2 : Int) l115.2.2.1, T31.mk (3 : Int) l115.2.2.1, T31.mk (1 : Int) l115.2.2.2.1]) (([T31.mk (2 : Int) l115.2.2.1, T31.mk (3 : Int) l115.2.2.1, T31.mk (1 : Int) l115.2.2.2.1]).length : Int) (0 : Int) r117)) fun l133 =>
                        .ite (l133.isLeft)
                          (.opt Bool (l133.getLeft?) fun a134 =>
                            .leaf (a134))
                          (.opt Unit (l133.getRight?) fun b135 =>
                            .opt Bool (law16_alive q) fun r136 =>
                              .leaf (r136))))
            .fail)
          .fail)
        .fail))
noncomputable def law16_DiskctlCopies (q : Option Nat) (x0 : (List Int)) (x1 : Int) (x2 : Int) (x3 : Int) : Option Bool := (Tlaw16_DiskctlCopies q x0 x1 x2 x3).run
theorem lelaw16_DiskctlCopies (k : Nat) (x0 : (List Int)) (x1 : Int) (x2 : Int) (x3 : Int) : Le (law16_DiskctlCopies (some k) x0 x1 x2 x3) (law16_DiskctlCopies none x0 x1 x2 x3) := (TLe.ite (TLe.opt (lelaw16_alive k) fun _ => TLe.rfl) (TLe.ite (TLe.opt (lelaw16_alive k) fun _ => TLe.rfl) (TLe.ite (TLe.ite (TLe.ite (TLe.opt (leLlaw16_DiskctlCopies_0 k _) fun _ => (TLe.ite TLe.rfl (TLe.opt (leLlaw16_DiskctlCopies_1 k _) fun _ => (TLe.opt (lelaw16_sample k) fun _ => (TLe.opt Le.rfl fun _ => (TLe.opt (leLlaw16_DiskctlCopies_2 k _) fun _ => (TLe.ite TLe.rfl (TLe.opt Le.rfl fun _ => (TLe.opt (lelaw16_alive k) fun _ => TLe.rfl))))))))) TLe.rfl) TLe.rfl) TLe.rfl)))
noncomputable def Alaw16_DiskctlCopies : Arg U ((List Int) × Int × Int × Int × Unit) := aO (cSl 3) (aO (cInt .u8) (aO (cInt .u8) (aO (cInt .u8) (aNil))))
noncomputable def Rlaw16_DiskctlCopies (r : Bool) : List (V U) × List (Blk U) := ([vO cBool r], [])
noncomputable def Slaw16_DiskctlCopies : List (V U) → List (Blk U) → Option (FnOut U) := mkSpec Alaw16_DiskctlCopies bNil (fun x _ => law16_DiskctlCopies none x.1 x.2.1 x.2.2.1 x.2.2.2.1) Rlaw16_DiskctlCopies
noncomputable def Plaw16_DiskctlCopies_0 (x : ((List Int) × Unit) × (Int × Unit) × (Int × Unit) × (Int × Unit) × (Int × Unit) × (Unit) × (Int × Unit) × (Int × Unit) × Unit) (g : (List Int) × Unit) : Slaw16_DiskctlCopies_0 := Slaw16_DiskctlCopies_0.mk x.1.1 x.2.1.1 x.2.2.1.1 x.2.2.2.1.1 x.2.2.2.2.1.1 x.2.2.2.2.2.2.1.1 x.2.2.2.2.2.2.2.1.1 g.1
noncomputable def tAlaw16_DiskctlCopies_0 : Tms U (((List Int) × Unit) × (Int × Unit) × (Int × Unit) × (Int × Unit) × (Int × Unit) × (Unit) × (Int × Unit) × (Int × Unit) × Unit) := tO 0 (cPair (cSl 3) (cUnit)) (tO 1 (cPair (cInt .u8) (cUnit)) (tO 2 (cPair (cInt .u8) (cUnit)) (tO 3 (cPair (cInt .u8) (cUnit)) (tO 9 (cPair (cInt .i64) (cUnit)) (tO 10 (cK (.row 0 0) (cUnit)) (tO 37 (cPair (cInt .i64) (cUnit)) (tO 38 (cPair (cInt .i64) (cUnit)) (tNil))))))))
noncomputable def tBlaw16_DiskctlCopies_0 : Bls U ((List Int) × Unit) := bRv 3 0 (bNil)
noncomputable def eSlaw16_DiskctlCopies_0 (s : Slaw16_DiskctlCopies_0) : St U := { tm := [(0, .v (vO (cPair (cSl 3) (cUnit)) (s.t0, ()))), (1, .v (vO (cPair (cInt .u8) (cUnit)) (s.t1, ()))), (2, .v (vO (cPair (cInt .u8) (cUnit)) (s.t2, ()))), (3, .v (vO (cPair (cInt .u8) (cUnit)) (s.t3, ()))), (9, .v (vO (cPair (cInt .i64) (cUnit)) (s.t9, ()))), (10, .v (vO (cK (.row 0 0) (cUnit)) (()))), (37, .v (vO (cPair (cInt .i64) (cUnit)) (s.t37, ()))), (38, .v (vO (cPair (cInt .i64) (cUnit)) (s.t38, ())))], hp := [.row 3 0 s.b0] }
noncomputable def xSlaw16_DiskctlCopies_0 (r : ((List Int) × Int × Int × Int × Int × (List Int))) : Ex × St U := (.exit 0, { tm := [(0, .v (vO (cPair (cSl 3) (cUnit)) (r.1, ()))), (1, .v (vO (cPair (cInt .u8) (cUnit)) (r.2.1, ()))), (2, .v (vO (cPair (cInt .u8) (cUnit)) (r.2.2.1, ()))), (3, .v (vO (cPair (cInt .u8) (cUnit)) (r.2.2.2.1, ()))), (9, .v (vO (cPair (cInt .i64) (cUnit)) (r.2.2.2.2.1, ()))), (10, .v (vO (cK (.row 0 0) (cUnit)) (())))], hp := [.row 3 0 r.2.2.2.2.2] })
noncomputable def xTlaw16_DiskctlCopies_0 (r : ((List Int) × Int × Int × Int × Int × (List Int))) : Tree (Ex × St U) := .leaf (xSlaw16_DiskctlCopies_0 r)
noncomputable def hlaw16_DiskctlCopies_0 : Hd := { keep := [0, 1, 2, 3, 9, 10, 37, 38], xkeep := [0, 1, 2, 3, 8, 9, 10], own := false }
noncomputable def Plaw16_DiskctlCopies_1 (x : ((List Int) × Unit) × (Int × Unit) × (Unit) × (Int × Unit) × (Int × Unit) × (Int × Unit) × ((List Int) × Unit) × (Int × Unit) × (Int × Unit) × Unit) (g : (List Int) × Unit) : Slaw16_DiskctlCopies_1 := Slaw16_DiskctlCopies_1.mk x.1.1 x.2.1.1 x.2.2.2.1.1 x.2.2.2.2.1.1 x.2.2.2.2.2.1.1 x.2.2.2.2.2.2.1.1 x.2.2.2.2.2.2.2.1.1 x.2.2.2.2.2.2.2.2.1.1 g.1
noncomputable def tAlaw16_DiskctlCopies_1 : Tms U (((List Int) × Unit) × (Int × Unit) × (Unit) × (Int × Unit) × (Int × Unit) × (Int × Unit) × ((List Int) × Unit) × (Int × Unit) × (Int × Unit) × Unit) := tO 0 (cPair (cSl 3) (cUnit)) (tO 9 (cPair (cInt .i64) (cUnit)) (tO 10 (cK (.row 0 0) (cUnit)) (tO 12 (cPair (cInt .i64) (cUnit)) (tO 13 (cPair (cInt .i64) (cUnit)) (tO 14 (cPair (cInt .i64) (cUnit)) (tO 56 (cPair (cSl 3) (cUnit)) (tO 57 (cPair (cInt .i64) (cUnit)) (tO 58 (cPair (cInt .i64) (cUnit)) (tNil)))))))))
noncomputable def tBlaw16_DiskctlCopies_1 : Bls U ((List Int) × Unit) := bRv 3 0 (bNil)
noncomputable def eSlaw16_DiskctlCopies_1 (s : Slaw16_DiskctlCopies_1) : St U := { tm := [(0, .v (vO (cPair (cSl 3) (cUnit)) (s.t0, ()))), (9, .v (vO (cPair (cInt .i64) (cUnit)) (s.t9, ()))), (10, .v (vO (cK (.row 0 0) (cUnit)) (()))), (12, .v (vO (cPair (cInt .i64) (cUnit)) (s.t12, ()))), (13, .v (vO (cPair (cInt .i64) (cUnit)) (s.t13, ()))), (14, .v (vO (cPair (cInt .i64) (cUnit)) (s.t14, ()))), (56, .v (vO (cPair (cSl 3) (cUnit)) (s.t56, ()))), (57, .v (vO (cPair (cInt .i64) (cUnit)) (s.t57, ()))), (58, .v (vO (cPair (cInt .i64) (cUnit)) (s.t58, ())))], hp := [.row 3 0 s.b0] }
noncomputable def xSlaw16_DiskctlCopies_1 (r : ((List Int) × Int × Int × Int × Int × (List Int))) : Ex × St U := (.exit 2, { tm := [(0, .v (vO (cPair (cSl 3) (cUnit)) (r.1, ()))), (9, .v (vO (cPair (cInt .i64) (cUnit)) (r.2.1, ()))), (10, .v (vO (cK (.row 0 0) (cUnit)) (()))), (12, .v (vO (cPair (cInt .i64) (cUnit)) (r.2.2.1, ()))), (13, .v (vO (cPair (cInt .i64) (cUnit)) (r.2.2.2.1, ()))), (14, .v (vO (cPair (cInt .i64) (cUnit)) (r.2.2.2.2.1, ())))], hp := [.row 3 0 r.2.2.2.2.2] })
noncomputable def xTlaw16_DiskctlCopies_1 (r : ((List Int) × Int × Int × Int × Int × (List Int))) : Tree (Ex × St U) := .leaf (xSlaw16_DiskctlCopies_1 r)
noncomputable def hlaw16_DiskctlCopies_1 : Hd := { keep := [0, 9, 10, 12, 13, 14, 56, 57, 58], xkeep := [0, 8, 9, 10, 12, 13, 14], own := false }
noncomputable def Plaw16_DiskctlCopies_2 (x : ((List Int) × Unit) × (Int × Unit) × ((List Int) × Unit) × (Int × Unit) × (Int × Unit) × (Unit) × ((List T31) × Unit) × (Int × Unit) × (Int × Unit) × Unit) (g : (Disk × Unit) × Unit) : Slaw16_DiskctlCopies_2 := Slaw16_DiskctlCopies_2.mk x.1.1 x.2.1.1 x.2.2.1.1 x.2.2.2.1.1 x.2.2.2.2.1.1 x.2.2.2.2.2.2.1.1 x.2.2.2.2.2.2.2.1.1 x.2.2.2.2.2.2.2.2.1.1 g.1.1
noncomputable def tAlaw16_DiskctlCopies_2 : Tms U (((List Int) × Unit) × (Int × Unit) × ((List Int) × Unit) × (Int × Unit) × (Int × Unit) × (Unit) × ((List T31) × Unit) × (Int × Unit) × (Int × Unit) × Unit) := tO 0 (cPair (cSl 3) (cUnit)) (tO 9 (cPair (cInt .i64) (cUnit)) (tO 10 (cPair (cSl 3) (cUnit)) (tO 13 (cPair (cInt .i64) (cUnit)) (tO 14 (cPair (cInt .i64) (cUnit)) (tO 17 (cK (.ptr 0 0) (cUnit)) (tO 79 (cPair (cSl 31) (cUnit)) (tO 80 (cPair (cInt .i64) (cUnit)) (tO 81 (cPair (cInt .i64) (cUnit)) (tNil)))))))))
noncomputable def tBlaw16_DiskctlCopies_2 : Bls U ((Disk × Unit) × Unit) := bC (cPair cDisk (cUnit)) (bNil)
noncomputable def eSlaw16_DiskctlCopies_2 (s : Slaw16_DiskctlCopies_2) : St U := { tm := [(0, .v (vO (cPair (cSl 3) (cUnit)) (s.t0, ()))), (9, .v (vO (cPair (cInt .i64) (cUnit)) (s.t9, ()))), (10, .v (vO (cPair (cSl 3) (cUnit)) (s.t10, ()))), (13, .v (vO (cPair (cInt .i64) (cUnit)) (s.t13, ()))), (14, .v (vO (cPair (cInt .i64) (cUnit)) (s.t14, ()))), (17, .v (vO (cK (.ptr 0 0) (cUnit)) (()))), (79, .v (vO (cPair (cSl 31) (cUnit)) (s.t79, ()))), (80, .v (vO (cPair (cInt .i64) (cUnit)) (s.t80, ()))), (81, .v (vO (cPair (cInt .i64) (cUnit)) (s.t81, ())))], hp := [.cells ((cPair cDisk (cUnit) : Cdc U (Disk × Unit)).enc (s.b0, ())) none] }
noncomputable def xSlaw16_DiskctlCopies_2 : (Bool ⊕ Unit) → Ex × St U
  | .inl r => (.ret, { tm := [(8, .v (vO (cPair cBool (cUnit)) (r, ())))], hp := [] })
  | .inr r => (.exit 4, { tm := [], hp := [] })
noncomputable def xTlaw16_DiskctlCopies_2 (y : (Bool ⊕ Unit)) : Tree (Ex × St U) := .ite y.isLeft (.opt Bool y.getLeft? fun r => .leaf (.ret, { tm := [(8, .v (vO (cPair cBool (cUnit)) (r, ())))], hp := [] })) (.opt Unit y.getRight? fun r => .leaf (.exit 4, { tm := [], hp := [] }))
noncomputable def hlaw16_DiskctlCopies_2 : Hd := { keep := [0, 9, 10, 13, 14, 17, 79, 80, 81], xkeep := [8], own := false }
noncomputable def Plaw16_DiskctlCopies_3 (x : ((List Int) × Unit) × (Int × Unit) × ((List Int) × Unit) × (Int × Unit) × (Int × Unit) × (Unit) × (Unit) × ((List Int) × Unit) × ((List Int) × Unit) × (Int × Unit) × ((List T31) × Unit) × (Int × Unit) × (Int × Unit) × (Int × Unit) × (Int × Unit) × Unit) (g : (Disk × Unit) × (Int × Int × Unit) × Unit) : Slaw16_DiskctlCopies_3 := Slaw16_DiskctlCopies_3.mk x.1.1 x.2.1.1 x.2.2.1.1 x.2.2.2.1.1 x.2.2.2.2.1.1 x.2.2.2.2.2.2.2.1.1 x.2.2.2.2.2.2.2.2.1.1 x.2.2.2.2.2.2.2.2.2.1.1 x.2.2.2.2.2.2.2.2.2.2.1.1 x.2.2.2.2.2.2.2.2.2.2.2.1.1 x.2.2.2.2.2.2.2.2.2.2.2.2.1.1 x.2.2.2.2.2.2.2.2.2.2.2.2.2.1.1 x.2.2.2.2.2.2.2.2.2.2.2.2.2.2.1.1 g.1.1 g.2.1.1 g.2.1.2.1
noncomputable def tAlaw16_DiskctlCopies_3 : Tms U (((List Int) × Unit) × (Int × Unit) × ((List Int) × Unit) × (Int × Unit) × (Int × Unit) × (Unit) × (Unit) × ((List Int) × Unit) × ((List Int) × Unit) × (Int × Unit) × ((List T31) × Unit) × (Int × Unit) × (Int × Unit) × (Int × Unit) × (Int × Unit) × Unit) := tO 0 (cPair (cSl 3) (cUnit)) (tO 9 (cPair (cInt .i64) (cUnit)) (tO 10 (cPair (cSl 3) (cUnit)) (tO 13 (cPair (cInt .i64) (cUnit)) (tO 14 (cPair (cInt .i64) (cUnit)) (tO 17 (cK (.ptr 0 0) (cUnit)) (tO 19 (cK (.ptr 1 0) (cUnit)) (tO 20 (cPair (cSl 3) (cUnit)) (tO 21 (cPair (cSl 3) (cUnit)) (tO 22 (cPair (cInt .i64) (cUnit)) (tO 79 (cPair (cSl 31) (cUnit)) (tO 80 (cPair (cInt .i64) (cUnit)) (tO 81 (cPair (cInt .i64) (cUnit)) (tO 99 (cPair (cInt .i64) (cUnit)) (tO 100 (cPair (cInt .i64) (cUnit)) (tNil)))))))))))))))
noncomputable def tBlaw16_DiskctlCopies_3 : Bls U ((Disk × Unit) × (Int × Int × Unit) × Unit) := bC (cPair cDisk (cUnit)) (bC (cPair (cInt .i64) (cPair (cInt .i64) (cUnit))) (bNil))
noncomputable def eSlaw16_DiskctlCopies_3 (s : Slaw16_DiskctlCopies_3) : St U := { tm := [(0, .v (vO (cPair (cSl 3) (cUnit)) (s.t0, ()))), (9, .v (vO (cPair (cInt .i64) (cUnit)) (s.t9, ()))), (10, .v (vO (cPair (cSl 3) (cUnit)) (s.t10, ()))), (13, .v (vO (cPair (cInt .i64) (cUnit)) (s.t13, ()))), (14, .v (vO (cPair (cInt .i64) (cUnit)) (s.t14, ()))), (17, .v (vO (cK (.ptr 0 0) (cUnit)) (()))), (19, .v (vO (cK (.ptr 1 0) (cUnit)) (()))), (20, .v (vO (cPair (cSl 3) (cUnit)) (s.t20, ()))), (21, .v (vO (cPair (cSl 3) (cUnit)) (s.t21, ()))), (22, .v (vO (cPair (cInt .i64) (cUnit)) (s.t22, ()))), (79, .v (vO (cPair (cSl 31) (cUnit)) (s.t79, ()))), (80, .v (vO (cPair (cInt .i64) (cUnit)) (s.t80, ()))), (81, .v (vO (cPair (cInt .i64) (cUnit)) (s.t81, ()))), (99, .v (vO (cPair (cInt .i64) (cUnit)) (s.t99, ()))), (100, .v (vO (cPair (cInt .i64) (cUnit)) (s.t100, ())))], hp := [.cells ((cPair cDisk (cUnit) : Cdc U (Disk × Unit)).enc (s.b0, ())) none, .cells ((cPair (cInt .i64) (cPair (cInt .i64) (cUnit)) : Cdc U (Int × Int × Unit)).enc (s.b1_0, s.b1_1, ())) none] }
noncomputable def xSlaw16_DiskctlCopies_3 : (((List Int) × Bool × Int × (List Int) × Int × Int × (List Int) × (List Int) × (List T31) × Int × Int × Disk × Int × Int) ⊕ ((List Int) × Int × (List Int) × Int × Int × (List Int) × (List Int) × (List T31) × Int × Int × Disk × Int × Int)) → Ex × St U
  | .inl r => (.ret, { tm := [(0, .v (vO (cPair (cSl 3) (cUnit)) (r.1, ()))), (8, .v (vO (cPair cBool (cUnit)) (r.2.1, ()))), (9, .v (vO (cPair (cInt .i64) (cUnit)) (r.2.2.1, ()))), (10, .v (vO (cPair (cSl 3) (cUnit)) (r.2.2.2.1, ()))), (13, .v (vO (cPair (cInt .i64) (cUnit)) (r.2.2.2.2.1, ()))), (14, .v (vO (cPair (cInt .i64) (cUnit)) (r.2.2.2.2.2.1, ()))), (17, .v (vO (cK (.ptr 0 0) (cUnit)) (()))), (19, .v (vO (cK (.ptr 1 0) (cUnit)) (()))), (20, .v (vO (cPair (cSl 3) (cUnit)) (r.2.2.2.2.2.2.1, ()))), (21, .v (vO (cPair (cSl 3) (cUnit)) (r.2.2.2.2.2.2.2.1, ()))), (79, .v (vO (cPair (cSl 31) (cUnit)) (r.2.2.2.2.2.2.2.2.1, ()))), (80, .v (vO (cPair (cInt .i64) (cUnit)) (r.2.2.2.2.2.2.2.2.2.1, ()))), (81, .v (vO (cPair (cInt .i64) (cUnit)) (r.2.2.2.2.2.2.2.2.2.2.1, ())))], hp := [.cells ((cPair cDisk (cUnit) : Cdc U (Disk × Unit)).enc (r.2.2.2.2.2.2.2.2.2.2.2.1, ())) none, .cells ((cPair (cInt .i64) (cPair (cInt .i64) (cUnit)) : Cdc U (Int × Int × Unit)).enc (r.2.2.2.2.2.2.2.2.2.2.2.2.1, r.2.2.2.2.2.2.2.2.2.2.2.2.2, ())) none] })
  | .inr r => (.exit 6, { tm := [(0, .v (vO (cPair (cSl 3) (cUnit)) (r.1, ()))), (9, .v (vO (cPair (cInt .i64) (cUnit)) (r.2.1, ()))), (10, .v (vO (cPair (cSl 3) (cUnit)) (r.2.2.1, ()))), (13, .v (vO (cPair (cInt .i64) (cUnit)) (r.2.2.2.1, ()))), (14, .v (vO (cPair (cInt .i64) (cUnit)) (r.2.2.2.2.1, ()))), (17, .v (vO (cK (.ptr 0 0) (cUnit)) (()))), (19, .v (vO (cK (.ptr 1 0) (cUnit)) (()))), (20, .v (vO (cPair (cSl 3) (cUnit)) (r.2.2.2.2.2.1, ()))), (21, .v (vO (cPair (cSl 3) (cUnit)) (r.2.2.2.2.2.2.1, ()))), (79, .v (vO (cPair (cSl 31) (cUnit)) (r.2.2.2.2.2.2.2.1, ()))), (80, .v (vO (cPair (cInt .i64) (cUnit)) (r.2.2.2.2.2.2.2.2.1, ()))), (81, .v (vO (cPair (cInt .i64) (cUnit)) (r.2.2.2.2.2.2.2.2.2.1, ())))], hp := [.cells ((cPair cDisk (cUnit) : Cdc U (Disk × Unit)).enc (r.2.2.2.2.2.2.2.2.2.2.1, ())) none, .cells ((cPair (cInt .i64) (cPair (cInt .i64) (cUnit)) : Cdc U (Int × Int × Unit)).enc (r.2.2.2.2.2.2.2.2.2.2.2.1, r.2.2.2.2.2.2.2.2.2.2.2.2, ())) none] })
noncomputable def xTlaw16_DiskctlCopies_3 (y : (((List Int) × Bool × Int × (List Int) × Int × Int × (List Int) × (List Int) × (List T31) × Int × Int × Disk × Int × Int) ⊕ ((List Int) × Int × (List Int) × Int × Int × (List Int) × (List Int) × (List T31) × Int × Int × Disk × Int × Int))) : Tree (Ex × St U) := .ite y.isLeft (.opt ((List Int) × Bool × Int × (List Int) × Int × Int × (List Int) × (List Int) × (List T31) × Int × Int × Disk × Int × Int) y.getLeft? fun r => .leaf (.ret, { tm := [(0, .v (vO (cPair (cSl 3) (cUnit)) (r.1, ()))), (8, .v (vO (cPair cBool (cUnit)) (r.2.1, ()))), (9, .v (vO (cPair (cInt .i64) (cUnit)) (r.2.2.1, ()))), (10, .v (vO (cPair (cSl 3) (cUnit)) (r.2.2.2.1, ()))), (13, .v (vO (cPair (cInt .i64) (cUnit)) (r.2.2.2.2.1, ()))), (14, .v (vO (cPair (cInt .i64) (cUnit)) (r.2.2.2.2.2.1, ()))), (17, .v (vO (cK (.ptr 0 0) (cUnit)) (()))), (19, .v (vO (cK (.ptr 1 0) (cUnit)) (()))), (20, .v (vO (cPair (cSl 3) (cUnit)) (r.2.2.2.2.2.2.1, ()))), (21, .v (vO (cPair (cSl 3) (cUnit)) (r.2.2.2.2.2.2.2.1, ()))), (79, .v (vO (cPair (cSl 31) (cUnit)) (r.2.2.2.2.2.2.2.2.1, ()))), (80, .v (vO (cPair (cInt .i64) (cUnit)) (r.2.2.2.2.2.2.2.2.2.1, ()))), (81, .v (vO (cPair (cInt .i64) (cUnit)) (r.2.2.2.2.2.2.2.2.2.2.1, ())))], hp := [.cells ((cPair cDisk (cUnit) : Cdc U (Disk × Unit)).enc (r.2.2.2.2.2.2.2.2.2.2.2.1, ())) none, .cells ((cPair (cInt .i64) (cPair (cInt .i64) (cUnit)) : Cdc U (Int × Int × Unit)).enc (r.2.2.2.2.2.2.2.2.2.2.2.2.1, r.2.2.2.2.2.2.2.2.2.2.2.2.2, ())) none] })) (.opt ((List Int) × Int × (List Int) × Int × Int × (List Int) × (List Int) × (List T31) × Int × Int × Disk × Int × Int) y.getRight? fun r => .leaf (.exit 6, { tm := [(0, .v (vO (cPair (cSl 3) (cUnit)) (r.1, ()))), (9, .v (vO (cPair (cInt .i64) (cUnit)) (r.2.1, ()))), (10, .v (vO (cPair (cSl 3) (cUnit)) (r.2.2.1, ()))), (13, .v (vO (cPair (cInt .i64) (cUnit)) (r.2.2.2.1, ()))), (14, .v (vO (cPair (cInt .i64) (cUnit)) (r.2.2.2.2.1, ()))), (17, .v (vO (cK (.ptr 0 0) (cUnit)) (()))), (19, .v (vO (cK (.ptr 1 0) (cUnit)) (()))), (20, .v (vO (cPair (cSl 3) (cUnit)) (r.2.2.2.2.2.1, ()))), (21, .v (vO (cPair (cSl 3) (cUnit)) (r.2.2.2.2.2.2.1, ()))), (79, .v (vO (cPair (cSl 31) (cUnit)) (r.2.2.2.2.2.2.2.1, ()))), (80, .v (vO (cPair (cInt .i64) (cUnit)) (r.2.2.2.2.2.2.2.2.1, ()))), (81, .v (vO (cPair (cInt .i64) (cUnit)) (r.2.2.2.2.2.2.2.2.2.1, ())))], hp := [.cells ((cPair cDisk (cUnit) : Cdc U (Disk × Unit)).enc (r.2.2.2.2.2.2.2.2.2.2.1, ())) none, .cells ((cPair (cInt .i64) (cPair (cInt .i64) (cUnit)) : Cdc U (Int × Int × Unit)).enc (r.2.2.2.2.2.2.2.2.2.2.2.1, r.2.2.2.2.2.2.2.2.2.2.2.2, ())) none] }))
noncomputable def hlaw16_DiskctlCopies_3 : Hd := { keep := [0, 9, 10, 13, 14, 17, 19, 20, 21, 22, 79, 80, 81, 99, 100], xkeep := [0, 8, 9, 10, 13, 14, 17, 19, 20, 21, 79, 80, 81], own := false }
noncomputable def Plaw16_DiskctlCopies_4 (x : ((List Int) × Unit) × (Int × Unit) × ((List Int) × Unit) × (Int × Unit) × (Int × Unit) × (Unit) × (Unit) × ((List Int) × Unit) × ((List T31) × Unit) × (Int × Unit) × (Int × Unit) × (Int × Unit) × (Int × Unit) × Unit) (g : (Disk × Unit) × (Int × Int × Unit) × Unit) : Slaw16_DiskctlCopies_4 := Slaw16_DiskctlCopies_4.mk x.1.1 x.2.1.1 x.2.2.1.1 x.2.2.2.1.1 x.2.2.2.2.1.1 x.2.2.2.2.2.2.2.1.1 x.2.2.2.2.2.2.2.2.1.1 x.2.2.2.2.2.2.2.2.2.1.1 x.2.2.2.2.2.2.2.2.2.2.1.1 x.2.2.2.2.2.2.2.2.2.2.2.1.1 x.2.2.2.2.2.2.2.2.2.2.2.2.1.1 g.1.1 g.2.1.1 g.2.1.2.1
noncomputable def tAlaw16_DiskctlCopies_4 : Tms U (((List Int) × Unit) × (Int × Unit) × ((List Int) × Unit) × (Int × Unit) × (Int × Unit) × (Unit) × (Unit) × ((List Int) × Unit) × ((List T31) × Unit) × (Int × Unit) × (Int × Unit) × (Int × Unit) × (Int × Unit) × Unit) := tO 0 (cPair (cSl 3) (cUnit)) (tO 9 (cPair (cInt .i64) (cUnit)) (tO 10 (cPair (cSl 3) (cUnit)) (tO 13 (cPair (cInt .i64) (cUnit)) (tO 14 (cPair (cInt .i64) (cUnit)) (tO 17 (cK (.ptr 0 0) (cUnit)) (tO 19 (cK (.ptr 1 0) (cUnit)) (tO 20 (cPair (cSl 3) (cUnit)) (tO 79 (cPair (cSl 31) (cUnit)) (tO 80 (cPair (cInt .i64) (cUnit)) (tO 81 (cPair (cInt .i64) (cUnit)) (tO 170 (cPair (cInt .i64) (cUnit)) (tO 171 (cPair (cInt .i64) (cUnit)) (tNil)))))))))))))
noncomputable def tBlaw16_DiskctlCopies_4 : Bls U ((Disk × Unit) × (Int × Int × Unit) × Unit) := bC (cPair cDisk (cUnit)) (bC (cPair (cInt .i64) (cPair (cInt .i64) (cUnit))) (bNil))
noncomputable def eSlaw16_DiskctlCopies_4 (s : Slaw16_DiskctlCopies_4) : St U := { tm := [(0, .v (vO (cPair (cSl 3) (cUnit)) (s.t0, ()))), (9, .v (vO (cPair (cInt .i64) (cUnit)) (s.t9, ()))), (10, .v (vO (cPair (cSl 3) (cUnit)) (s.t10, ()))), (13, .v (vO (cPair (cInt .i64) (cUnit)) (s.t13, ()))), (14, .v (vO (cPair (cInt .i64) (cUnit)) (s.t14, ()))), (17, .v (vO (cK (.ptr 0 0) (cUnit)) (()))), (19, .v (vO (cK (.ptr 1 0) (cUnit)) (()))), (20, .v (vO (cPair (cSl 3) (cUnit)) (s.t20, ()))), (79, .v (vO (cPair (cSl 31) (cUnit)) (s.t79, ()))), (80, .v (vO (cPair (cInt .i64) (cUnit)) (s.t80, ()))), (81, .v (vO (cPair (cInt .i64) (cUnit)) (s.t81, ()))), (170, .v (vO (cPair (cInt .i64) (cUnit)) (s.t170, ()))), (171, .v (vO (cPair (cInt .i64) (cUnit)) (s.t171, ())))], hp := [.cells ((cPair cDisk (cUnit) : Cdc U (Disk × Unit)).enc (s.b0, ())) none, .cells ((cPair (cInt .i64) (cPair (cInt .i64) (cUnit)) : Cdc U (Int × Int × Unit)).enc (s.b1_0, s.b1_1, ())) none] }
noncomputable def xSlaw16_DiskctlCopies_4 : (((List Int) × Bool × Int × (List Int) × Int × Int × (List T31) × Int × Int × Disk) ⊕ ((List Int) × Int × (List Int) × Int × Int × (List T31) × Int × Int × Disk)) → Ex × St U
  | .inl r => (.ret, { tm := [(0, .v (vO (cPair (cSl 3) (cUnit)) (r.1, ()))), (8, .v (vO (cPair cBool (cUnit)) (r.2.1, ()))), (9, .v (vO (cPair (cInt .i64) (cUnit)) (r.2.2.1, ()))), (10, .v (vO (cPair (cSl 3) (cUnit)) (r.2.2.2.1, ()))), (13, .v (vO (cPair (cInt .i64) (cUnit)) (r.2.2.2.2.1, ()))), (14, .v (vO (cPair (cInt .i64) (cUnit)) (r.2.2.2.2.2.1, ()))), (17, .v (vO (cK (.ptr 0 0) (cUnit)) (()))), (79, .v (vO (cPair (cSl 31) (cUnit)) (r.2.2.2.2.2.2.1, ()))), (80, .v (vO (cPair (cInt .i64) (cUnit)) (r.2.2.2.2.2.2.2.1, ()))), (81, .v (vO (cPair (cInt .i64) (cUnit)) (r.2.2.2.2.2.2.2.2.1, ())))], hp := [.cells ((cPair cDisk (cUnit) : Cdc U (Disk × Unit)).enc (r.2.2.2.2.2.2.2.2.2, ())) none] })
  | .inr r => (.exit 8, { tm := [(0, .v (vO (cPair (cSl 3) (cUnit)) (r.1, ()))), (9, .v (vO (cPair (cInt .i64) (cUnit)) (r.2.1, ()))), (10, .v (vO (cPair (cSl 3) (cUnit)) (r.2.2.1, ()))), (13, .v (vO (cPair (cInt .i64) (cUnit)) (r.2.2.2.1, ()))), (14, .v (vO (cPair (cInt .i64) (cUnit)) (r.2.2.2.2.1, ()))), (17, .v (vO (cK (.ptr 0 0) (cUnit)) (()))), (79, .v (vO (cPair (cSl 31) (cUnit)) (r.2.2.2.2.2.1, ()))), (80, .v (vO (cPair (cInt .i64) (cUnit)) (r.2.2.2.2.2.2.1, ()))), (81, .v (vO (cPair (cInt .i64) (cUnit)) (r.2.2.2.2.2.2.2.1, ())))], hp := [.cells ((cPair cDisk (cUnit) : Cdc U (Disk × Unit)).enc (r.2.2.2.2.2.2.2.2, ())) none] })
noncomputable def xTlaw16_DiskctlCopies_4 (y : (((List Int) × Bool × Int × (List Int) × Int × Int × (List T31) × Int × Int × Disk) ⊕ ((List Int) × Int × (List Int) × Int × Int × (List T31) × Int × Int × Disk))) : Tree (Ex × St U) := .ite y.isLeft (.opt ((List Int) × Bool × Int × (List Int) × Int × Int × (List T31) × Int × Int × Disk) y.getLeft? fun r => .leaf (.ret, { tm := [(0, .v (vO (cPair (cSl 3) (cUnit)) (r.1, ()))), (8, .v (vO (cPair cBool (cUnit)) (r.2.1, ()))), (9, .v (vO (cPair (cInt .i64) (cUnit)) (r.2.2.1, ()))), (10, .v (vO (cPair (cSl 3) (cUnit)) (r.2.2.2.1, ()))), (13, .v (vO (cPair (cInt .i64) (cUnit)) (r.2.2.2.2.1, ()))), (14, .v (vO (cPair (cInt .i64) (cUnit)) (r.2.2.2.2.2.1, ()))), (17, .v (vO (cK (.ptr 0 0) (cUnit)) (()))), (79, .v (vO (cPair (cSl 31) (cUnit)) (r.2.2.2.2.2.2.1, ()))), (80, .v (vO (cPair (cInt .i64) (cUnit)) (r.2.2.2.2.2.2.2.1, ()))), (81, .v (vO (cPair (cInt .i64) (cUnit)) (r.2.2.2.2.2.2.2.2.1, ())))], hp := [.cells ((cPair cDisk (cUnit) : Cdc U (Disk × Unit)).enc (r.2.2.2.2.2.2.2.2.2, ())) none] })) (.opt ((List Int) × Int × (List Int) × Int × Int × (List T31) × Int × Int × Disk) y.getRight? fun r => .leaf (.exit 8, { tm := [(0, .v (vO (cPair (cSl 3) (cUnit)) (r.1, ()))), (9, .v (vO (cPair (cInt .i64) (cUnit)) (r.2.1, ()))), (10, .v (vO (cPair (cSl 3) (cUnit)) (r.2.2.1, ()))), (13, .v (vO (cPair (cInt .i64) (cUnit)) (r.2.2.2.1, ()))), (14, .v (vO (cPair (cInt .i64) (cUnit)) (r.2.2.2.2.1, ()))), (17, .v (vO (cK (.ptr 0 0) (cUnit)) (()))), (79, .v (vO (cPair (cSl 31) (cUnit)) (r.2.2.2.2.2.1, ()))), (80, .v (vO (cPair (cInt .i64) (cUnit)) (r.2.2.2.2.2.2.1, ()))), (81, .v (vO (cPair (cInt .i64) (cUnit)) (r.2.2.2.2.2.2.2.1, ())))], hp := [.cells ((cPair cDisk (cUnit) : Cdc U (Disk × Unit)).enc (r.2.2.2.2.2.2.2.2, ())) none] }))
noncomputable def hlaw16_DiskctlCopies_4 : Hd := { keep := [0, 9, 10, 13, 14, 17, 19, 20, 79, 80, 81, 170, 171], xkeep := [0, 8, 9, 10, 13, 14, 17, 79, 80, 81], own := false }
noncomputable def Elaw16_DiskctlCopies : Env U := { P := Try.prog, cd := cd, fns := fns8, lps := (addL 0 hlaw16_DiskctlCopies_0 (mkLoop tAlaw16_DiskctlCopies_0 tBlaw16_DiskctlCopies_0 Plaw16_DiskctlCopies_0 (Llaw16_DiskctlCopies_0 none) xTlaw16_DiskctlCopies_0) (addL 1 hlaw16_DiskctlCopies_1 (mkLoop tAlaw16_DiskctlCopies_1 tBlaw16_DiskctlCopies_1 Plaw16_DiskctlCopies_1 (Llaw16_DiskctlCopies_1 none) xTlaw16_DiskctlCopies_1) (addL 2 hlaw16_DiskctlCopies_2 (mkLoop tAlaw16_DiskctlCopies_2 tBlaw16_DiskctlCopies_2 Plaw16_DiskctlCopies_2 (Llaw16_DiskctlCopies_2 none) xTlaw16_DiskctlCopies_2) (addL 3 hlaw16_DiskctlCopies_3 (mkLoop tAlaw16_DiskctlCopies_3 tBlaw16_DiskctlCopies_3 Plaw16_DiskctlCopies_3 (Llaw16_DiskctlCopies_3 none) xTlaw16_DiskctlCopies_3) (addL 4 hlaw16_DiskctlCopies_4 (mkLoop tAlaw16_DiskctlCopies_4 tBlaw16_DiskctlCopies_4 Plaw16_DiskctlCopies_4 (Llaw16_DiskctlCopies_4 none) xTlaw16_DiskctlCopies_4) noL))))), frz := fun _r => bif Nat.beq _r 17 then true else false, nt := 209, n0 := 0, mks := fun t => Nat.beq t 79 }
noncomputable def Blaw16_DiskctlCopies_0 : Code := (loopAt (Try.f3.body.getD .skip) 0 0).getD .skip
theorem roundlaw16_DiskctlCopies_0 (s : Slaw16_DiskctlCopies_0) : round Elaw16_DiskctlCopies hlaw16_DiskctlCopies_0 Blaw16_DiskctlCopies_0 0 (eSlaw16_DiskctlCopies_0 s) = (Wlaw16_DiskctlCopies_0 s).map (sumE eSlaw16_DiskctlCopies_0 xSlaw16_DiskctlCopies_0) := by kernel_rfl
theorem lplaw16_DiskctlCopies_0 : LpOk Elaw16_DiskctlCopies Blaw16_DiskctlCopies_0 0 := mkLoop_ok (A := tAlaw16_DiskctlCopies_0) (B := tBlaw16_DiskctlCopies_0) (f := Plaw16_DiskctlCopies_0) (L := Llaw16_DiskctlCopies_0 none) (tO_ok (cPair_ok (cSl_ok 3) cUnit_ok) (tO_ok (cPair_ok (cInt_ok .u8) cUnit_ok) (tO_ok (cPair_ok (cInt_ok .u8) cUnit_ok) (tO_ok (cPair_ok (cInt_ok .u8) cUnit_ok) (tO_ok (cPair_ok (cInt_ok .i64) cUnit_ok) (tO_ok (cK_ok cUnit_ok) (tO_ok (cPair_ok (cInt_ok .i64) cUnit_ok) (tO_ok (cPair_ok (cInt_ok .i64) cUnit_ok) tNil_ok)))))))) (bRv_ok bNil_ok) (enc := eSlaw16_DiskctlCopies_0) (out := xTlaw16_DiskctlCopies_0) (outS := xSlaw16_DiskctlCopies_0) (step := Wlaw16_DiskctlCopies_0) (fun _ => rfl) (fun _ _ => by kernel_rfl) (by kernel_rfl) (fun _ => rfl) roundlaw16_DiskctlCopies_0
noncomputable def Blaw16_DiskctlCopies_1 : Code := (loopAt (Try.f3.body.getD .skip) 0 1).getD .skip
theorem roundlaw16_DiskctlCopies_1 (s : Slaw16_DiskctlCopies_1) : round Elaw16_DiskctlCopies hlaw16_DiskctlCopies_1 Blaw16_DiskctlCopies_1 1 (eSlaw16_DiskctlCopies_1 s) = (Wlaw16_DiskctlCopies_1 s).map (sumE eSlaw16_DiskctlCopies_1 xSlaw16_DiskctlCopies_1) := by kernel_rfl
theorem lplaw16_DiskctlCopies_1 : LpOk Elaw16_DiskctlCopies Blaw16_DiskctlCopies_1 1 := mkLoop_ok (A := tAlaw16_DiskctlCopies_1) (B := tBlaw16_DiskctlCopies_1) (f := Plaw16_DiskctlCopies_1) (L := Llaw16_DiskctlCopies_1 none) (tO_ok (cPair_ok (cSl_ok 3) cUnit_ok) (tO_ok (cPair_ok (cInt_ok .i64) cUnit_ok) (tO_ok (cK_ok cUnit_ok) (tO_ok (cPair_ok (cInt_ok .i64) cUnit_ok) (tO_ok (cPair_ok (cInt_ok .i64) cUnit_ok) (tO_ok (cPair_ok (cInt_ok .i64) cUnit_ok) (tO_ok (cPair_ok (cSl_ok 3) cUnit_ok) (tO_ok (cPair_ok (cInt_ok .i64) cUnit_ok) (tO_ok (cPair_ok (cInt_ok .i64) cUnit_ok) tNil_ok))))))))) (bRv_ok bNil_ok) (enc := eSlaw16_DiskctlCopies_1) (out := xTlaw16_DiskctlCopies_1) (outS := xSlaw16_DiskctlCopies_1) (step := Wlaw16_DiskctlCopies_1) (fun _ => rfl) (fun _ _ => by kernel_rfl) (by kernel_rfl) (fun _ => rfl) roundlaw16_DiskctlCopies_1
noncomputable def Blaw16_DiskctlCopies_2 : Code := (loopAt (Try.f3.body.getD .skip) 0 2).getD .skip
theorem roundlaw16_DiskctlCopies_2 (s : Slaw16_DiskctlCopies_2) : round Elaw16_DiskctlCopies hlaw16_DiskctlCopies_2 Blaw16_DiskctlCopies_2 2 (eSlaw16_DiskctlCopies_2 s) = (Wlaw16_DiskctlCopies_2 none s).map (sumE eSlaw16_DiskctlCopies_2 xSlaw16_DiskctlCopies_2) := by kernel_rfl
theorem lplaw16_DiskctlCopies_2 : LpOk Elaw16_DiskctlCopies Blaw16_DiskctlCopies_2 2 := mkLoop_ok (A := tAlaw16_DiskctlCopies_2) (B := tBlaw16_DiskctlCopies_2) (f := Plaw16_DiskctlCopies_2) (L := Llaw16_DiskctlCopies_2 none) (tO_ok (cPair_ok (cSl_ok 3) cUnit_ok) (tO_ok (cPair_ok (cInt_ok .i64) cUnit_ok) (tO_ok (cPair_ok (cSl_ok 3) cUnit_ok) (tO_ok (cPair_ok (cInt_ok .i64) cUnit_ok) (tO_ok (cPair_ok (cInt_ok .i64) cUnit_ok) (tO_ok (cK_ok cUnit_ok) (tO_ok (cPair_ok (cSl_ok 31) cUnit_ok) (tO_ok (cPair_ok (cInt_ok .i64) cUnit_ok) (tO_ok (cPair_ok (cInt_ok .i64) cUnit_ok) tNil_ok))))))))) (bC_ok (cPair_ok cDisk_ok cUnit_ok) bNil_ok) (enc := eSlaw16_DiskctlCopies_2) (out := xTlaw16_DiskctlCopies_2) (outS := xSlaw16_DiskctlCopies_2) (step := Wlaw16_DiskctlCopies_2 none) (fun _ => rfl) (fun _ _ => by kernel_rfl) (by kernel_rfl) (fun b => by cases b <;> rfl) roundlaw16_DiskctlCopies_2
noncomputable def Blaw16_DiskctlCopies_3 : Code := (loopAt (Try.f3.body.getD .skip) 0 3).getD .skip
theorem roundlaw16_DiskctlCopies_3 (s : Slaw16_DiskctlCopies_3) : round Elaw16_DiskctlCopies hlaw16_DiskctlCopies_3 Blaw16_DiskctlCopies_3 3 (eSlaw16_DiskctlCopies_3 s) = (Wlaw16_DiskctlCopies_3 none s).map (sumE eSlaw16_DiskctlCopies_3 xSlaw16_DiskctlCopies_3) := by kernel_rfl
theorem lplaw16_DiskctlCopies_3 : LpOk Elaw16_DiskctlCopies Blaw16_DiskctlCopies_3 3 := mkLoop_ok (A := tAlaw16_DiskctlCopies_3) (B := tBlaw16_DiskctlCopies_3) (f := Plaw16_DiskctlCopies_3) (L := Llaw16_DiskctlCopies_3 none) (tO_ok (cPair_ok (cSl_ok 3) cUnit_ok) (tO_ok (cPair_ok (cInt_ok .i64) cUnit_ok) (tO_ok (cPair_ok (cSl_ok 3) cUnit_ok) (tO_ok (cPair_ok (cInt_ok .i64) cUnit_ok) (tO_ok (cPair_ok (cInt_ok .i64) cUnit_ok) (tO_ok (cK_ok cUnit_ok) (tO_ok (cK_ok cUnit_ok) (tO_ok (cPair_ok (cSl_ok 3) cUnit_ok) (tO_ok (cPair_ok (cSl_ok 3) cUnit_ok) (tO_ok (cPair_ok (cInt_ok .i64) cUnit_ok) (tO_ok (cPair_ok (cSl_ok 31) cUnit_ok) (tO_ok (cPair_ok (cInt_ok .i64) cUnit_ok) (tO_ok (cPair_ok (cInt_ok .i64) cUnit_ok) (tO_ok (cPair_ok (cInt_ok .i64) cUnit_ok) (tO_ok (cPair_ok (cInt_ok .i64) cUnit_ok) tNil_ok))))))))))))))) (bC_ok (cPair_ok cDisk_ok cUnit_ok) (bC_ok (cPair_ok (cInt_ok .i64) (cPair_ok (cInt_ok .i64) cUnit_ok)) bNil_ok)) (enc := eSlaw16_DiskctlCopies_3) (out := xTlaw16_DiskctlCopies_3) (outS := xSlaw16_DiskctlCopies_3) (step := Wlaw16_DiskctlCopies_3 none) (fun _ => rfl) (fun _ _ => by kernel_rfl) (by kernel_rfl) (fun b => by cases b <;> rfl) roundlaw16_DiskctlCopies_3
noncomputable def Blaw16_DiskctlCopies_4 : Code := (loopAt (Try.f3.body.getD .skip) 0 4).getD .skip
theorem roundlaw16_DiskctlCopies_4 (s : Slaw16_DiskctlCopies_4) : round Elaw16_DiskctlCopies hlaw16_DiskctlCopies_4 Blaw16_DiskctlCopies_4 4 (eSlaw16_DiskctlCopies_4 s) = (Wlaw16_DiskctlCopies_4 s).map (sumE eSlaw16_DiskctlCopies_4 xSlaw16_DiskctlCopies_4) := by kernel_rfl
theorem lplaw16_DiskctlCopies_4 : LpOk Elaw16_DiskctlCopies Blaw16_DiskctlCopies_4 4 := mkLoop_ok (A := tAlaw16_DiskctlCopies_4) (B := tBlaw16_DiskctlCopies_4) (f := Plaw16_DiskctlCopies_4) (L := Llaw16_DiskctlCopies_4 none) (tO_ok (cPair_ok (cSl_ok 3) cUnit_ok) (tO_ok (cPair_ok (cInt_ok .i64) cUnit_ok) (tO_ok (cPair_ok (cSl_ok 3) cUnit_ok) (tO_ok (cPair_ok (cInt_ok .i64) cUnit_ok) (tO_ok (cPair_ok (cInt_ok .i64) cUnit_ok) (tO_ok (cK_ok cUnit_ok) (tO_ok (cK_ok cUnit_ok) (tO_ok (cPair_ok (cSl_ok 3) cUnit_ok) (tO_ok (cPair_ok (cSl_ok 31) cUnit_ok) (tO_ok (cPair_ok (cInt_ok .i64) cUnit_ok) (tO_ok (cPair_ok (cInt_ok .i64) cUnit_ok) (tO_ok (cPair_ok (cInt_ok .i64) cUnit_ok) (tO_ok (cPair_ok (cInt_ok .i64) cUnit_ok) tNil_ok))))))))))))) (bC_ok (cPair_ok cDisk_ok cUnit_ok) (bC_ok (cPair_ok (cInt_ok .i64) (cPair_ok (cInt_ok .i64) cUnit_ok)) bNil_ok)) (enc := eSlaw16_DiskctlCopies_4) (out := xTlaw16_DiskctlCopies_4) (outS := xSlaw16_DiskctlCopies_4) (step := Wlaw16_DiskctlCopies_4) (fun _ => rfl) (fun _ _ => by kernel_rfl) (by kernel_rfl) (fun b => by cases b <;> rfl) roundlaw16_DiskctlCopies_4
theorem runlaw16_DiskctlCopies (x : (List Int) × Int × Int × Int × Unit) (g : Unit) : execF Elaw16_DiskctlCopies Try.f3 (Alaw16_DiskctlCopies.enc x) (bNil.enc g) = (Tlaw16_DiskctlCopies none x.1 x.2.1 x.2.2.1 x.2.2.2.1).map Rlaw16_DiskctlCopies := by kernel_rfl
theorem oklaw16_DiskctlCopies : FnOk Try.prog cd 3 Slaw16_DiskctlCopies := mk_ok (E := Elaw16_DiskctlCopies) cd_ok fns8_ok Try.func3 (by kernel_rfl) (loops_of (addL_ok lplaw16_DiskctlCopies_0 (addL_ok lplaw16_DiskctlCopies_1 (addL_ok lplaw16_DiskctlCopies_2 (addL_ok lplaw16_DiskctlCopies_3 (addL_ok lplaw16_DiskctlCopies_4 noL_ok)))))) (aO_ok (cSl_ok 3) (aO_ok (cInt_ok .u8) (aO_ok (cInt_ok .u8) (aO_ok (cInt_ok .u8) (aNil_ok))))) bNil_ok (T := fun x _ => Tlaw16_DiskctlCopies none x.1 x.2.1 x.2.2.1 x.2.2.2.1) (fun _ _ => rfl) runlaw16_DiskctlCopies
noncomputable def fns3 := addF 3 true Slaw16_DiskctlCopies fns8
theorem fns3_ok : ∀ f q t, fns3 f = some (q, t) → FnOk Try.prog cd f t := addF_ok oklaw16_DiskctlCopies fns8_ok
/-- emulator/emulatorref16.word -/
noncomputable def Tref16_word (x0 : Int) : Tree Bool :=
  .ite (decide ((0 : Int) ≤ x0))
    (.leaf (decide (x0 ≤ (65535 : Int))))
    (.leaf (false))
noncomputable def ref16_word (x0 : Int) : Option Bool := (Tref16_word x0).run
noncomputable def Aref16_word : Arg U (Int × Unit) := aO (cInt .i64) (aNil)
noncomputable def Rref16_word (r : Bool) : List (V U) × List (Blk U) := ([vO cBool r], [])
noncomputable def Sref16_word : List (V U) → List (Blk U) → Option (FnOut U) := mkSpec Aref16_word bNil (fun x _ => ref16_word x.1) Rref16_word
noncomputable def Eref16_word : Env U := { P := Try.prog, cd := cd, fns := fns3, lps := noL, frz := fun _r => false, nt := 9, n0 := 0 }
theorem runref16_word (x : Int × Unit) (g : Unit) : execF Eref16_word Try.f45 (Aref16_word.enc x) (bNil.enc g) = (Tref16_word x.1).map Rref16_word := by kernel_rfl
theorem okref16_word : FnOk Try.prog cd 45 Sref16_word := mk_ok (E := Eref16_word) cd_ok fns3_ok Try.func45 (by kernel_rfl) (noLoops_body (by kernel_rfl)) (aO_ok (cInt_ok .i64) (aNil_ok)) bNil_ok (T := fun x _ => Tref16_word x.1) (fun _ _ => rfl) runref16_word
noncomputable def fns45 := addF 45 true Sref16_word fns3
theorem fns45_ok : ∀ f q t, fns45 f = some (q, t) → FnOk Try.prog cd f t := addF_ok okref16_word fns3_ok
/-- emulator/emulatorref15.Right -/
structure Sref15_Right_0 where
  t3 : Int
  b0 : Drive
noncomputable def Wref15_Right_0 (s : Sref15_Right_0) : Tree (Sref15_Right_0 ⊕ ((Bool × Drive) ⊕ Drive)) :=
  .ite (decide (s.t3 < (s.b0.sectors.length : Int)))
    (.ite (decide (0 ≤ s.t3))
      (.opt (List UInt8) (s.b0.sectors[(s.t3).toNat]?) fun y137 =>
        .ite (!decide ((y137.length : Int) = (128 : Int)))
          (.leaf (.inr (.inl (false, s.b0))))
          (.leaf (.inl (Sref15_Right_0.mk (IntKind.wrap .i64 (s.t3 + (1 : Int))) s.b0))))
      .fail)
    (.leaf (.inr (.inr s.b0)))
noncomputable def Lref15_Right_0 (q : Option Nat) (s : Sref15_Right_0) : Option ((Bool × Drive) ⊕ Drive) := limQ q (fun s => (Wref15_Right_0 s).run) s
theorem leLref15_Right_0 (k : Nat) (s : Sref15_Right_0) : Le (Lref15_Right_0 (some k) s) (Lref15_Right_0 none s) := limQ_le (fun _ => Le.rfl) s
structure Sref15_Right_1 where
  t4 : Int
  b0 : Drive
noncomputable def Wref15_Right_1 (s : Sref15_Right_1) : Tree (Sref15_Right_1 ⊕ (Bool ⊕ Unit)) :=
  .ite (decide (s.t4 < (s.b0.bad.length : Int)))
    (.ite (decide (0 ≤ s.t4))
      (.opt Int (s.b0.bad[(s.t4).toNat]?) fun y141 =>
        .ite (decide (y141 < (0 : Int)))
          (.leaf (.inr (.inl false)))
          (.ite (decide (0 ≤ s.t4))
            (.opt Int (s.b0.bad[(s.t4).toNat]?) fun y142 =>
              .ite (decide ((s.b0.sectors.length : Int) ≤ y142))
                (.leaf (.inr (.inl false)))
                (.ite (decide ((0 : Int) < s.t4))
                  (.ite (decide (0 ≤ IntKind.wrap .i64 (s.t4 - (1 : Int))))
                    (.opt Int (s.b0.bad[(IntKind.wrap .i64 (s.t4 - (1 : Int))).toNat]?) fun y143 =>
                      .ite (decide (0 ≤ s.t4))
                        (.opt Int (s.b0.bad[(s.t4).toNat]?) fun y144 =>
                          .ite (decide (y144 ≤ y143))
                            (.leaf (.inr (.inl false)))
                            (.leaf (.inl (Sref15_Right_1.mk (IntKind.wrap .i64 (s.t4 + (1 : Int))) s.b0))))
                        .fail)
                    .fail)
                  (.leaf (.inl (Sref15_Right_1.mk (IntKind.wrap .i64 (s.t4 + (1 : Int))) s.b0)))))
            .fail))
      .fail)
    (.leaf (.inr (.inr ())))
noncomputable def Lref15_Right_1 (q : Option Nat) (s : Sref15_Right_1) : Option (Bool ⊕ Unit) := limQ q (fun s => (Wref15_Right_1 s).run) s
theorem leLref15_Right_1 (k : Nat) (s : Sref15_Right_1) : Le (Lref15_Right_1 (some k) s) (Lref15_Right_1 none s) := limQ_le (fun _ => Le.rfl) s
noncomputable def Tref15_Right (q : Option Nat) (x0 : Drive) : Tree Bool :=
  .ite (decide ((x0.sectors.length : Int) < (1 : Int)))
    (.leaf (false))
    (.ite (decide ((256 : Int) < (x0.sectors.length : Int)))
      (.leaf (false))
      (.opt ((Bool × Drive) ⊕ Drive) (Lref15_Right_0 q (Sref15_Right_0.mk (0 : Int) x0)) fun l138 =>
        .ite (l138.isLeft)
          (.opt (Bool × Drive) (l138.getLeft?) fun a139 =>
            .leaf (a139.1))
          (.opt Drive (l138.getRight?) fun b140 =>
            .opt (Bool ⊕ Unit) (Lref15_Right_1 q (Sref15_Right_1.mk (0 : Int) b140)) fun l145 =>
              .ite (l145.isLeft)
                (.opt Bool (l145.getLeft?) fun a146 =>
                  .leaf (a146))
                (.opt Unit (l145.getRight?) fun b147 =>
                  .leaf (true)))))
noncomputable def ref15_Right (q : Option Nat) (x0 : Drive) : Option Bool := (Tref15_Right q x0).run
theorem leref15_Right (k : Nat) (x0 : Drive) : Le (ref15_Right (some k) x0) (ref15_Right none x0) := (TLe.ite TLe.rfl (TLe.ite TLe.rfl (TLe.opt (leLref15_Right_0 k _) fun _ => (TLe.ite TLe.rfl (TLe.opt Le.rfl fun _ => (TLe.opt (leLref15_Right_1 k _) fun _ => TLe.rfl))))))
noncomputable def Aref15_Right : Arg U (Drive × Unit) := aA cDrive (aNil)
noncomputable def Rref15_Right (r : Bool) : List (V U) × List (Blk U) := ([vO cBool r], [])
noncomputable def Sref15_Right : List (V U) → List (Blk U) → Option (FnOut U) := mkSpec Aref15_Right bNil (fun x _ => ref15_Right none x.1) Rref15_Right
noncomputable def Pref15_Right_0 (x : (Unit) × (Int × Unit) × Unit) (g : (Drive × Unit) × Unit) : Sref15_Right_0 := Sref15_Right_0.mk x.2.1.1 g.1.1
noncomputable def tAref15_Right_0 : Tms U ((Unit) × (Int × Unit) × Unit) := tO 1 (cK (.ptr 0 0) (cUnit)) (tO 3 (cPair (cInt .i64) (cUnit)) (tNil))
noncomputable def tBref15_Right_0 : Bls U ((Drive × Unit) × Unit) := bC (cPair cDrive (cUnit)) (bNil)
noncomputable def eSref15_Right_0 (s : Sref15_Right_0) : St U := { tm := [(1, .v (vO (cK (.ptr 0 0) (cUnit)) (()))), (3, .v (vO (cPair (cInt .i64) (cUnit)) (s.t3, ())))], hp := [.cells ((cPair cDrive (cUnit) : Cdc U (Drive × Unit)).enc (s.b0, ())) none] }
noncomputable def xSref15_Right_0 : ((Bool × Drive) ⊕ Drive) → Ex × St U
  | .inl r => (.ret, { tm := [(1, .v (vO (cK (.ptr 0 0) (cUnit)) (()))), (2, .v (vO (cPair cBool (cUnit)) (r.1, ())))], hp := [.cells ((cPair cDrive (cUnit) : Cdc U (Drive × Unit)).enc (r.2, ())) none] })
  | .inr r => (.exit 0, { tm := [(1, .v (vO (cK (.ptr 0 0) (cUnit)) (())))], hp := [.cells ((cPair cDrive (cUnit) : Cdc U (Drive × Unit)).enc (r, ())) none] })
noncomputable def xTref15_Right_0 (y : ((Bool × Drive) ⊕ Drive)) : Tree (Ex × St U) := .ite y.isLeft (.opt (Bool × Drive) y.getLeft? fun r => .leaf (.ret, { tm := [(1, .v (vO (cK (.ptr 0 0) (cUnit)) (()))), (2, .v (vO (cPair cBool (cUnit)) (r.1, ())))], hp := [.cells ((cPair cDrive (cUnit) : Cdc U (Drive × Unit)).enc (r.2, ())) none] })) (.opt Drive y.getRight? fun r => .leaf (.exit 0, { tm := [(1, .v (vO (cK (.ptr 0 0) (cUnit)) (())))], hp := [.cells ((cPair cDrive (cUnit) : Cdc U (Drive × Unit)).enc (r, ())) none] }))
noncomputable def href15_Right_0 : Hd := { keep := [1, 3], xkeep := [1, 2], own := false }
noncomputable def Pref15_Right_1 (x : (Unit) × (Int × Unit) × Unit) (g : (Drive × Unit) × Unit) : Sref15_Right_1 := Sref15_Right_1.mk x.2.1.1 g.1.1
noncomputable def tAref15_Right_1 : Tms U ((Unit) × (Int × Unit) × Unit) := tO 1 (cK (.ptr 0 0) (cUnit)) (tO 4 (cPair (cInt .i64) (cUnit)) (tNil))
noncomputable def tBref15_Right_1 : Bls U ((Drive × Unit) × Unit) := bC (cPair cDrive (cUnit)) (bNil)
noncomputable def eSref15_Right_1 (s : Sref15_Right_1) : St U := { tm := [(1, .v (vO (cK (.ptr 0 0) (cUnit)) (()))), (4, .v (vO (cPair (cInt .i64) (cUnit)) (s.t4, ())))], hp := [.cells ((cPair cDrive (cUnit) : Cdc U (Drive × Unit)).enc (s.b0, ())) none] }
noncomputable def xSref15_Right_1 : (Bool ⊕ Unit) → Ex × St U
  | .inl r => (.ret, { tm := [(2, .v (vO (cPair cBool (cUnit)) (r, ())))], hp := [] })
  | .inr r => (.exit 2, { tm := [], hp := [] })
noncomputable def xTref15_Right_1 (y : (Bool ⊕ Unit)) : Tree (Ex × St U) := .ite y.isLeft (.opt Bool y.getLeft? fun r => .leaf (.ret, { tm := [(2, .v (vO (cPair cBool (cUnit)) (r, ())))], hp := [] })) (.opt Unit y.getRight? fun r => .leaf (.exit 2, { tm := [], hp := [] }))
noncomputable def href15_Right_1 : Hd := { keep := [1, 4], xkeep := [2], own := false }
noncomputable def Eref15_Right : Env U := { P := Try.prog, cd := cd, fns := fns45, lps := (addL 0 href15_Right_0 (mkLoop tAref15_Right_0 tBref15_Right_0 Pref15_Right_0 (Lref15_Right_0 none) xTref15_Right_0) (addL 1 href15_Right_1 (mkLoop tAref15_Right_1 tBref15_Right_1 Pref15_Right_1 (Lref15_Right_1 none) xTref15_Right_1) noL)), frz := fun _r => false, nt := 71, n0 := 0 }
noncomputable def Bref15_Right_0 : Code := (loopAt (Try.f46.body.getD .skip) 0 0).getD .skip
theorem roundref15_Right_0 (s : Sref15_Right_0) : round Eref15_Right href15_Right_0 Bref15_Right_0 0 (eSref15_Right_0 s) = (Wref15_Right_0 s).map (sumE eSref15_Right_0 xSref15_Right_0) := by kernel_rfl
theorem lpref15_Right_0 : LpOk Eref15_Right Bref15_Right_0 0 := mkLoop_ok (A := tAref15_Right_0) (B := tBref15_Right_0) (f := Pref15_Right_0) (L := Lref15_Right_0 none) (tO_ok (cK_ok cUnit_ok) (tO_ok (cPair_ok (cInt_ok .i64) cUnit_ok) tNil_ok)) (bC_ok (cPair_ok cDrive_ok cUnit_ok) bNil_ok) (enc := eSref15_Right_0) (out := xTref15_Right_0) (outS := xSref15_Right_0) (step := Wref15_Right_0) (fun _ => rfl) (fun _ _ => by kernel_rfl) (by kernel_rfl) (fun b => by cases b <;> rfl) roundref15_Right_0
noncomputable def Bref15_Right_1 : Code := (loopAt (Try.f46.body.getD .skip) 0 1).getD .skip
theorem roundref15_Right_1 (s : Sref15_Right_1) : round Eref15_Right href15_Right_1 Bref15_Right_1 1 (eSref15_Right_1 s) = (Wref15_Right_1 s).map (sumE eSref15_Right_1 xSref15_Right_1) := by kernel_rfl
theorem lpref15_Right_1 : LpOk Eref15_Right Bref15_Right_1 1 := mkLoop_ok (A := tAref15_Right_1) (B := tBref15_Right_1) (f := Pref15_Right_1) (L := Lref15_Right_1 none) (tO_ok (cK_ok cUnit_ok) (tO_ok (cPair_ok (cInt_ok .i64) cUnit_ok) tNil_ok)) (bC_ok (cPair_ok cDrive_ok cUnit_ok) bNil_ok) (enc := eSref15_Right_1) (out := xTref15_Right_1) (outS := xSref15_Right_1) (step := Wref15_Right_1) (fun _ => rfl) (fun _ _ => by kernel_rfl) (by kernel_rfl) (fun b => by cases b <;> rfl) roundref15_Right_1
theorem runref15_Right (x : Drive × Unit) (g : Unit) : execF Eref15_Right Try.f46 (Aref15_Right.enc x) (bNil.enc g) = (Tref15_Right none x.1).map Rref15_Right := by kernel_rfl
theorem okref15_Right : FnOk Try.prog cd 46 Sref15_Right := mk_ok (E := Eref15_Right) cd_ok fns45_ok Try.func46 (by kernel_rfl) (loops_of (addL_ok lpref15_Right_0 (addL_ok lpref15_Right_1 noL_ok))) (aA_ok cDrive_ok (aNil_ok)) bNil_ok (T := fun x _ => Tref15_Right none x.1) (fun _ _ => rfl) runref15_Right
noncomputable def fns46 := addF 46 true Sref15_Right fns45
theorem fns46_ok : ∀ f q t, fns46 f = some (q, t) → FnOk Try.prog cd f t := addF_ok okref15_Right fns45_ok
/-- emulator/emulatorref16.Right -/
noncomputable def Tref16_Right (q : Option Nat) (x0 : Disk) : Tree Bool :=
  .ite (decide (x0.command < (0 : Int)))
    (.leaf (false))
    (.ite (decide ((3 : Int) < x0.command))
      (.leaf (false))
      (.opt Bool (ref16_word x0.words) fun r148 =>
        .ite (!r148)
          (.leaf (false))
          (.opt Bool (ref16_word x0.addr) fun r149 =>
            .ite (!r149)
              (.leaf (false))
              (.opt Bool (ref16_word x0.start) fun r150 =>
                .ite (!r150)
                  (.leaf (false))
                  (.ite (decide ((2 : Int) = 0))
                    .fail
                    (.ite (!decide (((x0.addr).tmod (2 : Int)) = (0 : Int)))
                      (.leaf (false))
                      (.ite (decide (x0.left < (0 : Int)))
                        (.leaf (false))
                        (.ite (decide ((8 : Int) < x0.left))
                          (.leaf (false))
                          (.ite (!(x0.ready == (decide (x0.left = (0 : Int)))))
                            (.leaf (false))
                            (.ite (!decide (x0.left = (0 : Int)))
                              (.ite (decide (x0.command = (0 : Int)))
                                (.leaf (false))
                                (.ite (decide (x0.words = (0 : Int)))
                                  (.leaf (false))
                                  (.opt Bool (ref15_Right q x0.drive) fun r151 =>
                                    .leaf (r151))))
                              (.opt Bool (ref15_Right q x0.drive) fun r152 =>
                                .leaf (r152))))))))))))
noncomputable def ref16_Right (q : Option Nat) (x0 : Disk) : Option Bool := (Tref16_Right q x0).run
theorem leref16_Right (k : Nat) (x0 : Disk) : Le (ref16_Right (some k) x0) (ref16_Right none x0) := (TLe.ite TLe.rfl (TLe.ite TLe.rfl (TLe.opt Le.rfl fun _ => (TLe.ite TLe.rfl (TLe.opt Le.rfl fun _ => (TLe.ite TLe.rfl (TLe.opt Le.rfl fun _ => (TLe.ite TLe.rfl (TLe.ite TLe.rfl (TLe.ite TLe.rfl (TLe.ite TLe.rfl (TLe.ite TLe.rfl (TLe.ite TLe.rfl (TLe.ite (TLe.ite TLe.rfl (TLe.ite TLe.rfl (TLe.opt (leref15_Right k _) fun _ => TLe.rfl))) (TLe.opt (leref15_Right k _) fun _ => TLe.rfl)))))))))))))))
noncomputable def Aref16_Right : Arg U (Disk × Unit) := aA cDisk (aNil)
noncomputable def Rref16_Right (r : Bool) : List (V U) × List (Blk U) := ([vO cBool r], [])
noncomputable def Sref16_Right : List (V U) → List (Blk U) → Option (FnOut U) := mkSpec Aref16_Right bNil (fun x _ => ref16_Right none x.1) Rref16_Right
noncomputable def Eref16_Right : Env U := { P := Try.prog, cd := cd, fns := fns46, lps := noL, frz := fun _r => false, nt := 69, n0 := 0 }
theorem runref16_Right (x : Disk × Unit) (g : Unit) : execF Eref16_Right Try.f24 (Aref16_Right.enc x) (bNil.enc g) = (Tref16_Right none x.1).map Rref16_Right := by kernel_rfl
theorem okref16_Right : FnOk Try.prog cd 24 Sref16_Right := mk_ok (E := Eref16_Right) cd_ok fns46_ok Try.func24 (by kernel_rfl) (noLoops_body (by kernel_rfl)) (aA_ok cDisk_ok (aNil_ok)) bNil_ok (T := fun x _ => Tref16_Right none x.1) (fun _ _ => rfl) runref16_Right
noncomputable def fns24 := addF 24 true Sref16_Right fns46
theorem fns24_ok : ∀ f q t, fns24 f = some (q, t) → FnOk Try.prog cd f t := addF_ok okref16_Right fns46_ok
/-- emulator/emulatorref08.Size -/
noncomputable def Tref08_Size (x0 : Int) : Tree Bool :=
  .ite (decide ((256 : Int) ≤ x0))
    (.ite (decide (x0 ≤ (32768 : Int)))
      (.ite (decide ((64 : Int) = 0))
        .fail
        (.leaf (decide (((x0).tmod (64 : Int)) = (0 : Int)))))
      (.leaf (false)))
    (.leaf (false))
noncomputable def ref08_Size (x0 : Int) : Option Bool := (Tref08_Size x0).run
noncomputable def Aref08_Size : Arg U (Int × Unit) := aO (cInt .i64) (aNil)
noncomputable def Rref08_Size (r : Bool) : List (V U) × List (Blk U) := ([vO cBool r], [])
noncomputable def Sref08_Size : List (V U) → List (Blk U) → Option (FnOut U) := mkSpec Aref08_Size bNil (fun x _ => ref08_Size x.1) Rref08_Size
noncomputable def Eref08_Size : Env U := { P := Try.prog, cd := cd, fns := fns24, lps := noL, frz := fun _r => false, nt := 14, n0 := 0 }
theorem runref08_Size (x : Int × Unit) (g : Unit) : execF Eref08_Size Try.f57 (Aref08_Size.enc x) (bNil.enc g) = (Tref08_Size x.1).map Rref08_Size := by kernel_rfl
theorem okref08_Size : FnOk Try.prog cd 57 Sref08_Size := mk_ok (E := Eref08_Size) cd_ok fns24_ok Try.func57 (by kernel_rfl) (noLoops_body (by kernel_rfl)) (aO_ok (cInt_ok .i64) (aNil_ok)) bNil_ok (T := fun x _ => Tref08_Size x.1) (fun _ _ => rfl) runref08_Size
noncomputable def fns57 := addF 57 true Sref08_Size fns24
theorem fns57_ok : ∀ f q t, fns57 f = some (q, t) → FnOk Try.prog cd f t := addF_ok okref08_Size fns24_ok
/-- emulator/emulatorref08.Right -/
structure Sref08_Right_0 where
  t0 : (List Int)
  t1 : (List Int)
  t5 : Int
noncomputable def Wref08_Right_0 (s : Sref08_Right_0) : Tree (Sref08_Right_0 ⊕ (((List Int) × (List Int) × Bool) ⊕ ((List Int) × (List Int)))) :=
  .ite (decide (s.t5 < (s.t0.length : Int)))
    (.ite (decide (0 ≤ s.t5))
      (.opt Int (s.t0[(s.t5).toNat]?) fun y154 =>
        .ite (decide (y154 < (0 : Int)))
          (.leaf (.inr (.inl (s.t0, s.t1, false))))
          (.ite (decide (0 ≤ s.t5))
            (.opt Int (s.t0[(s.t5).toNat]?) fun y155 =>
              .ite (decide ((65535 : Int) < y155))
                (.leaf (.inr (.inl (s.t0, s.t1, false))))
                (.leaf (.inl (Sref08_Right_0.mk s.t0 s.t1 (IntKind.wrap .i64 (s.t5 + (1 : Int)))))))
            .fail))
      .fail)
    (.leaf (.inr (.inr (s.t0, s.t1))))
noncomputable def Lref08_Right_0 (q : Option Nat) (s : Sref08_Right_0) : Option (((List Int) × (List Int) × Bool) ⊕ ((List Int) × (List Int))) := limQ q (fun s => (Wref08_Right_0 s).run) s
theorem leLref08_Right_0 (k : Nat) (s : Sref08_Right_0) : Le (Lref08_Right_0 (some k) s) (Lref08_Right_0 none s) := limQ_le (fun _ => Le.rfl) s
structure Sref08_Right_1 where
  t0 : (List Int)
  t1 : (List Int)
  t6 : Int
noncomputable def Wref08_Right_1 (s : Sref08_Right_1) : Tree (Sref08_Right_1 ⊕ (Bool ⊕ Unit)) :=
  .ite (decide (s.t6 < (s.t1.length : Int)))
    (.ite (decide (0 ≤ s.t6))
      (.opt Int (s.t1[(s.t6).toNat]?) fun y159 =>
        .ite (decide (y159 < (0 : Int)))
          (.leaf (.inr (.inl false)))
          (.ite (decide (0 ≤ s.t6))
            (.opt Int (s.t1[(s.t6).toNat]?) fun y160 =>
              .ite (decide ((IntKind.wrap .i64 ((2 : Int) * (s.t0.length : Int))) ≤ y160))
                (.leaf (.inr (.inl false)))
                (.ite (decide (0 ≤ s.t6))
                  (.opt Int (s.t1[(s.t6).toNat]?) fun y161 =>
                    .ite (decide ((2 : Int) = 0))
                      .fail
                      (.ite (!decide (((y161).tmod (2 : Int)) = (0 : Int)))
                        (.leaf (.inr (.inl false)))
                        (.ite (decide ((0 : Int) < s.t6))
                          (.ite (decide (0 ≤ s.t6))
                            (.opt Int (s.t1[(s.t6).toNat]?) fun y162 =>
                              .ite (decide (0 ≤ IntKind.wrap .i64 (s.t6 - (1 : Int))))
                                (.opt Int (s.t1[(IntKind.wrap .i64 (s.t6 - (1 : Int))).toNat]?) fun y163 =>
                                  .ite (decide (y162 ≤ y163))
                                    (.leaf (.inr (.inl false)))
                                    (.leaf (.inl (Sref08_Right_1.mk s.t0 s.t1 (IntKind.wrap .i64 (s.t6 + (1 : Int)))))))
                                .fail)
                            .fail)
                          (.leaf (.inl (Sref08_Right_1.mk s.t0 s.t1 (IntKind.wrap .i64 (s.t6 + (1 : Int)))))))))
                  .fail))
            .fail))
      .fail)
    (.leaf (.inr (.inr ())))
noncomputable def Lref08_Right_1 (q : Option Nat) (s : Sref08_Right_1) : Option (Bool ⊕ Unit) := limQ q (fun s => (Wref08_Right_1 s).run) s
theorem leLref08_Right_1 (k : Nat) (s : Sref08_Right_1) : Le (Lref08_Right_1 (some k) s) (Lref08_Right_1 none s) := limQ_le (fun _ => Le.rfl) s
noncomputable def Tref08_Right (q : Option Nat) (x0 : (List Int)) (x1 : (List Int)) : Tree Bool :=
  .opt Bool (ref08_Size (IntKind.wrap .i64 ((2 : Int) * (x0.length : Int)))) fun r153 =>
    .ite (!r153)
      (.leaf (false))
      (.opt (((List Int) × (List Int) × Bool) ⊕ ((List Int) × (List Int))) (Lref08_Right_0 q (Sref08_Right_0.mk x0 x1 (0 : Int))) fun l156 =>
        .ite (l156.isLeft)
          (.opt ((List Int) × (List Int) × Bool) (l156.getLeft?) fun a157 =>
            .leaf (a157.2.2))
          (.opt ((List Int) × (List Int)) (l156.getRight?) fun b158 =>
            .opt (Bool ⊕ Unit) (Lref08_Right_1 q (Sref08_Right_1.mk b158.1 b158.2 (0 : Int))) fun l164 =>
              .ite (l164.isLeft)
                (.opt Bool (l164.getLeft?) fun a165 =>
                  .leaf (a165))
                (.opt Unit (l164.getRight?) fun b166 =>
                  .leaf (true))))
noncomputable def ref08_Right (q : Option Nat) (x0 : (List Int)) (x1 : (List Int)) : Option Bool := (Tref08_Right q x0 x1).run
theorem leref08_Right (k : Nat) (x0 : (List Int)) (x1 : (List Int)) : Le (ref08_Right (some k) x0 x1) (ref08_Right none x0 x1) := (TLe.opt Le.rfl fun _ => (TLe.ite TLe.rfl (TLe.opt (leLref08_Right_0 k _) fun _ => (TLe.ite TLe.rfl (TLe.opt Le.rfl fun _ => (TLe.opt (leLref08_Right_1 k _) fun _ => TLe.rfl))))))
noncomputable def Aref08_Right : Arg U ((List Int) × (List Int) × Unit) := aO (cSl 3) (aO (cSl 3) (aNil))
noncomputable def Rref08_Right (r : Bool) : List (V U) × List (Blk U) := ([vO cBool r], [])
noncomputable def Sref08_Right : List (V U) → List (Blk U) → Option (FnOut U) := mkSpec Aref08_Right bNil (fun x _ => ref08_Right none x.1 x.2.1) Rref08_Right
noncomputable def Pref08_Right_0 (x : ((List Int) × Unit) × ((List Int) × Unit) × (Int × Unit) × Unit) (_g : Unit) : Sref08_Right_0 := Sref08_Right_0.mk x.1.1 x.2.1.1 x.2.2.1.1
noncomputable def tAref08_Right_0 : Tms U (((List Int) × Unit) × ((List Int) × Unit) × (Int × Unit) × Unit) := tO 0 (cPair (cSl 3) (cUnit)) (tO 1 (cPair (cSl 3) (cUnit)) (tO 5 (cPair (cInt .i64) (cUnit)) (tNil)))
noncomputable def tBref08_Right_0 : Bls U (Unit) := bNil
noncomputable def eSref08_Right_0 (s : Sref08_Right_0) : St U := { tm := [(0, .v (vO (cPair (cSl 3) (cUnit)) (s.t0, ()))), (1, .v (vO (cPair (cSl 3) (cUnit)) (s.t1, ()))), (5, .v (vO (cPair (cInt .i64) (cUnit)) (s.t5, ())))], hp := [] }
noncomputable def xSref08_Right_0 : (((List Int) × (List Int) × Bool) ⊕ ((List Int) × (List Int))) → Ex × St U
  | .inl r => (.ret, { tm := [(0, .v (vO (cPair (cSl 3) (cUnit)) (r.1, ()))), (1, .v (vO (cPair (cSl 3) (cUnit)) (r.2.1, ()))), (4, .v (vO (cPair cBool (cUnit)) (r.2.2, ())))], hp := [] })
  | .inr r => (.exit 0, { tm := [(0, .v (vO (cPair (cSl 3) (cUnit)) (r.1, ()))), (1, .v (vO (cPair (cSl 3) (cUnit)) (r.2, ())))], hp := [] })
noncomputable def xTref08_Right_0 (y : (((List Int) × (List Int) × Bool) ⊕ ((List Int) × (List Int)))) : Tree (Ex × St U) := .ite y.isLeft (.opt ((List Int) × (List Int) × Bool) y.getLeft? fun r => .leaf (.ret, { tm := [(0, .v (vO (cPair (cSl 3) (cUnit)) (r.1, ()))), (1, .v (vO (cPair (cSl 3) (cUnit)) (r.2.1, ()))), (4, .v (vO (cPair cBool (cUnit)) (r.2.2, ())))], hp := [] })) (.opt ((List Int) × (List Int)) y.getRight? fun r => .leaf (.exit 0, { tm := [(0, .v (vO (cPair (cSl 3) (cUnit)) (r.1, ()))), (1, .v (vO (cPair (cSl 3) (cUnit)) (r.2, ())))], hp := [] }))
noncomputable def href08_Right_0 : Hd := { keep := [0, 1, 5], xkeep := [0, 1, 4], own := false }
noncomputable def Pref08_Right_1 (x : ((List Int) × Unit) × ((List Int) × Unit) × (Int × Unit) × Unit) (_g : Unit) : Sref08_Right_1 := Sref08_Right_1.mk x.1.1 x.2.1.1 x.2.2.1.1
noncomputable def tAref08_Right_1 : Tms U (((List Int) × Unit) × ((List Int) × Unit) × (Int × Unit) × Unit) := tO 0 (cPair (cSl 3) (cUnit)) (tO 1 (cPair (cSl 3) (cUnit)) (tO 6 (cPair (cInt .i64) (cUnit)) (tNil)))
noncomputable def tBref08_Right_1 : Bls U (Unit) := bNil
noncomputable def eSref08_Right_1 (s : Sref08_Right_1) : St U := { tm := [(0, .v (vO (cPair (cSl 3) (cUnit)) (s.t0, ()))), (1, .v (vO (cPair (cSl 3) (cUnit)) (s.t1, ()))), (6, .v (vO (cPair (cInt .i64) (cUnit)) (s.t6, ())))], hp := [] }
noncomputable def xSref08_Right_1 : (Bool ⊕ Unit) → Ex × St U
  | .inl r => (.ret, { tm := [(4, .v (vO (cPair cBool (cUnit)) (r, ())))], hp := [] })
  | .inr r => (.exit 2, { tm := [], hp := [] })
noncomputable def xTref08_Right_1 (y : (Bool ⊕ Unit)) : Tree (Ex × St U) := .ite y.isLeft (.opt Bool y.getLeft? fun r => .leaf (.ret, { tm := [(4, .v (vO (cPair cBool (cUnit)) (r, ())))], hp := [] })) (.opt Unit y.getRight? fun r => .leaf (.exit 2, { tm := [], hp := [] }))
noncomputable def href08_Right_1 : Hd := { keep := [0, 1, 6], xkeep := [4], own := false }
noncomputable def Eref08_Right : Env U := { P := Try.prog, cd := cd, fns := fns57, lps := (addL 0 href08_Right_0 (mkLoop tAref08_Right_0 tBref08_Right_0 Pref08_Right_0 (Lref08_Right_0 none) xTref08_Right_0) (addL 1 href08_Right_1 (mkLoop tAref08_Right_1 tBref08_Right_1 Pref08_Right_1 (Lref08_Right_1 none) xTref08_Right_1) noL)), frz := fun _r => false, nt := 75, n0 := 0 }
noncomputable def Bref08_Right_0 : Code := (loopAt (Try.f33.body.getD .skip) 0 0).getD .skip
theorem roundref08_Right_0 (s : Sref08_Right_0) : round Eref08_Right href08_Right_0 Bref08_Right_0 0 (eSref08_Right_0 s) = (Wref08_Right_0 s).map (sumE eSref08_Right_0 xSref08_Right_0) := by kernel_rfl
theorem lpref08_Right_0 : LpOk Eref08_Right Bref08_Right_0 0 := mkLoop_ok (A := tAref08_Right_0) (B := tBref08_Right_0) (f := Pref08_Right_0) (L := Lref08_Right_0 none) (tO_ok (cPair_ok (cSl_ok 3) cUnit_ok) (tO_ok (cPair_ok (cSl_ok 3) cUnit_ok) (tO_ok (cPair_ok (cInt_ok .i64) cUnit_ok) tNil_ok))) bNil_ok (enc := eSref08_Right_0) (out := xTref08_Right_0) (outS := xSref08_Right_0) (step := Wref08_Right_0) (fun _ => rfl) (fun _ _ => by kernel_rfl) (by kernel_rfl) (fun b => by cases b <;> rfl) roundref08_Right_0
noncomputable def Bref08_Right_1 : Code := (loopAt (Try.f33.body.getD .skip) 0 1).getD .skip
theorem roundref08_Right_1 (s : Sref08_Right_1) : round Eref08_Right href08_Right_1 Bref08_Right_1 1 (eSref08_Right_1 s) = (Wref08_Right_1 s).map (sumE eSref08_Right_1 xSref08_Right_1) := by kernel_rfl
theorem lpref08_Right_1 : LpOk Eref08_Right Bref08_Right_1 1 := mkLoop_ok (A := tAref08_Right_1) (B := tBref08_Right_1) (f := Pref08_Right_1) (L := Lref08_Right_1 none) (tO_ok (cPair_ok (cSl_ok 3) cUnit_ok) (tO_ok (cPair_ok (cSl_ok 3) cUnit_ok) (tO_ok (cPair_ok (cInt_ok .i64) cUnit_ok) tNil_ok))) bNil_ok (enc := eSref08_Right_1) (out := xTref08_Right_1) (outS := xSref08_Right_1) (step := Wref08_Right_1) (fun _ => rfl) (fun _ _ => by kernel_rfl) (by kernel_rfl) (fun b => by cases b <;> rfl) roundref08_Right_1
theorem runref08_Right (x : (List Int) × (List Int) × Unit) (g : Unit) : execF Eref08_Right Try.f33 (Aref08_Right.enc x) (bNil.enc g) = (Tref08_Right none x.1 x.2.1).map Rref08_Right := by kernel_rfl
theorem okref08_Right : FnOk Try.prog cd 33 Sref08_Right := mk_ok (E := Eref08_Right) cd_ok fns57_ok Try.func33 (by kernel_rfl) (loops_of (addL_ok lpref08_Right_0 (addL_ok lpref08_Right_1 noL_ok))) (aO_ok (cSl_ok 3) (aO_ok (cSl_ok 3) (aNil_ok))) bNil_ok (T := fun x _ => Tref08_Right none x.1 x.2.1) (fun _ _ => rfl) runref08_Right
noncomputable def fns33 := addF 33 true Sref08_Right fns57
theorem fns33_ok : ∀ f q t, fns33 f = some (q, t) → FnOk Try.prog cd f t := addF_ok okref08_Right fns57_ok
/-- emulator/emulatorlaw16.few -/
noncomputable def Tlaw16_few (q : Option Nat) (x0 : Disk) (x1 : (List Int)) (x2 : (List Int)) : Tree Bool :=
  .ite (decide ((x0.drive.sectors.length : Int) ≤ (64 : Int)))
    (.ite (decide ((x0.drive.bad.length : Int) ≤ (64 : Int)))
      (.ite (decide ((x1.length : Int) ≤ (2048 : Int)))
        (.ite (decide ((x2.length : Int) ≤ (60 : Int)))
          (.opt Bool (ref16_Right q x0) fun r167 =>
            .ite (r167)
              (.opt Bool (ref08_Right q x1 x2) fun r168 =>
                .leaf (r168))
              (.leaf (false)))
          (.leaf (false)))
        (.leaf (false)))
      (.leaf (false)))
    (.leaf (false))
noncomputable def law16_few (q : Option Nat) (x0 : Disk) (x1 : (List Int)) (x2 : (List Int)) : Option Bool := (Tlaw16_few q x0 x1 x2).run
theorem lelaw16_few (k : Nat) (x0 : Disk) (x1 : (List Int)) (x2 : (List Int)) : Le (law16_few (some k) x0 x1 x2) (law16_few none x0 x1 x2) := (TLe.ite (TLe.ite (TLe.ite (TLe.ite (TLe.opt (leref16_Right k _) fun _ => (TLe.ite (TLe.opt (leref08_Right k _ _) fun _ => TLe.rfl) TLe.rfl)) TLe.rfl) TLe.rfl) TLe.rfl) TLe.rfl)
noncomputable def Alaw16_few : Arg U (Disk × (List Int) × (List Int) × Unit) := aA cDisk (aO (cSl 3) (aO (cSl 3) (aNil)))
noncomputable def Rlaw16_few (r : Bool) : List (V U) × List (Blk U) := ([vO cBool r], [])
noncomputable def Slaw16_few : List (V U) → List (Blk U) → Option (FnOut U) := mkSpec Alaw16_few bNil (fun x _ => law16_few none x.1 x.2.1 x.2.2.1) Rlaw16_few
noncomputable def Elaw16_few : Env U := { P := Try.prog, cd := cd, fns := fns33, lps := noL, frz := fun _r => false, nt := 38, n0 := 0 }
theorem runlaw16_few (x : Disk × (List Int) × (List Int) × Unit) (g : Unit) : execF Elaw16_few Try.f13 (Alaw16_few.enc x) (bNil.enc g) = (Tlaw16_few none x.1 x.2.1 x.2.2.1).map Rlaw16_few := by kernel_rfl
theorem oklaw16_few : FnOk Try.prog cd 13 Slaw16_few := mk_ok (E := Elaw16_few) cd_ok fns33_ok Try.func13 (by kernel_rfl) (noLoops_body (by kernel_rfl)) (aA_ok cDisk_ok (aO_ok (cSl_ok 3) (aO_ok (cSl_ok 3) (aNil_ok)))) bNil_ok (T := fun x _ => Tlaw16_few none x.1 x.2.1 x.2.2.1) (fun _ _ => rfl) runlaw16_few
noncomputable def fns13 := addF 13 true Slaw16_few fns33
theorem fns13_ok : ∀ f q t, fns13 f = some (q, t) → FnOk Try.prog cd f t := addF_ok oklaw16_few fns33_ok
/-- emulator/diskctl.Reset -/
noncomputable def Tdiskctl_Reset (x0 : Disk) : Tree Disk :=
  .leaf (Disk.mk x0.drive false true false 0 x0.words x0.addr x0.start 0)
noncomputable def diskctl_Reset (x0 : Disk) : Option Disk := (Tdiskctl_Reset x0).run
noncomputable def Adiskctl_Reset : Arg U (Disk × Unit) := aA cDisk (aNil)
noncomputable def Rdiskctl_Reset (r : Disk) : List (V U) × List (Blk U) := ([vA cDisk r], [])
noncomputable def Sdiskctl_Reset : List (V U) → List (Blk U) → Option (FnOut U) := mkSpec Adiskctl_Reset bNil (fun x _ => diskctl_Reset x.1) Rdiskctl_Reset
noncomputable def Ediskctl_Reset : Env U := { P := Try.prog, cd := cd, fns := fns13, lps := noL, frz := fun _r => false, nt := 12, n0 := 0 }
theorem rundiskctl_Reset (x : Disk × Unit) (g : Unit) : execF Ediskctl_Reset Try.f14 (Adiskctl_Reset.enc x) (bNil.enc g) = (Tdiskctl_Reset x.1).map Rdiskctl_Reset := by kernel_rfl
theorem okdiskctl_Reset : FnOk Try.prog cd 14 Sdiskctl_Reset := mk_ok (E := Ediskctl_Reset) cd_ok fns13_ok Try.func14 (by kernel_rfl) (noLoops_body (by kernel_rfl)) (aA_ok cDisk_ok (aNil_ok)) bNil_ok (T := fun x _ => Tdiskctl_Reset x.1) (fun _ _ => rfl) rundiskctl_Reset
noncomputable def fns14 := addF 14 true Sdiskctl_Reset fns13
theorem fns14_ok : ∀ f q t, fns14 f = some (q, t) → FnOk Try.prog cd f t := addF_ok okdiskctl_Reset fns13_ok
/-- emulator/emulatorref15.Diff -/
structure Sref15_Diff_0 where
  t6 : Int
  b0 : Drive
  b1 : Drive
  b2 : (List Int)
noncomputable def Wref15_Diff_0 (s : Sref15_Diff_0) : Tree (Sref15_Diff_0 ⊕ (List Int)) :=
  .ite (decide (s.t6 < (s.b0.sectors.length : Int)))
    (.ite (decide ((s.b0.sectors.length : Int) ≤ s.t6))
      (.ite (decide ((s.b2.length + ([s.t6]).length) * 8 ≤ 140737488355328))
        (.leaf (.inl (Sref15_Diff_0.mk (IntKind.wrap .i64 (s.t6 + (1 : Int))) s.b0 s.b1 (s.b2 ++ ([s.t6])))))
        .fail)
      (.ite (decide ((s.b1.sectors.length : Int) ≤ s.t6))
        (.ite (decide ((s.b2.length + ([s.t6]).length) * 8 ≤ 140737488355328))
          (.leaf (.inl (Sref15_Diff_0.mk (IntKind.wrap .i64 (s.t6 + (1 : Int))) s.b0 s.b1 (s.b2 ++ ([s.t6])))))
          .fail)
        (.ite (decide (0 ≤ s.t6))
          (.opt (List UInt8) (s.b0.sectors[(s.t6).toNat]?) fun y169 =>
            .ite (decide (0 ≤ s.t6))
              (.opt (List UInt8) (s.b1.sectors[(s.t6).toNat]?) fun y170 =>
                .ite (!decide (y169 = y170))
                  (.ite (decide ((s.b2.length + ([s.t6]).length) * 8 ≤ 140737488355328))
                    (.leaf (.inl (Sref15_Diff_0.mk (IntKind.wrap .i64 (s.t6 + (1 : Int))) s.b0 s.b1 (s.b2 ++ ([s.t6])))))
                    .fail)
                  (.leaf (.inl (Sref15_Diff_0.mk (IntKind.wrap .i64 (s.t6 + (1 : Int))) s.b0 s.b1 s.b2))))
              .fail)
          .fail)))
    (.ite (decide (s.t6 < (s.b1.sectors.length : Int)))
      (.ite (decide ((s.b0.sectors.length : Int) ≤ s.t6))
        (.ite (decide ((s.b2.length + ([s.t6]).length) * 8 ≤ 140737488355328))
          (.leaf (.inl (Sref15_Diff_0.mk (IntKind.wrap .i64 (s.t6 + (1 : Int))) s.b0 s.b1 (s.b2 ++ ([s.t6])))))
          .fail)
        (.ite (decide ((s.b1.sectors.length : Int) ≤ s.t6))
          (.ite (decide ((s.b2.length + ([s.t6]).length) * 8 ≤ 140737488355328))
            (.leaf (.inl (Sref15_Diff_0.mk (IntKind.wrap .i64 (s.t6 + (1 : Int))) s.b0 s.b1 (s.b2 ++ ([s.t6])))))
            .fail)
          (.ite (decide (0 ≤ s.t6))
            (.opt (List UInt8) (s.b0.sectors[(s.t6).toNat]?) fun y171 =>
              .ite (decide (0 ≤ s.t6))
                (.opt (List UInt8) (s.b1.sectors[(s.t6).toNat]?) fun y172 =>
                  .ite (!decide (y171 = y172))
                    (.ite (decide ((s.b2.length + ([s.t6]).length) * 8 ≤ 140737488355328))
                      (.leaf (.inl (Sref15_Diff_0.mk (IntKind.wrap .i64 (s.t6 + (1 : Int))) s.b0 s.b1 (s.b2 ++ ([s.t6])))))
                      .fail)
                    (.leaf (.inl (Sref15_Diff_0.mk (IntKind.wrap .i64 (s.t6 + (1 : Int))) s.b0 s.b1 s.b2))))
                .fail)
            .fail)))
      (.leaf (.inr s.b2)))
noncomputable def Lref15_Diff_0 (q : Option Nat) (s : Sref15_Diff_0) : Option (List Int) := limQ q (fun s => (Wref15_Diff_0 s).run) s
theorem leLref15_Diff_0 (k : Nat) (s : Sref15_Diff_0) : Le (Lref15_Diff_0 (some k) s) (Lref15_Diff_0 none s) := limQ_le (fun _ => Le.rfl) s
noncomputable def Tref15_Diff (q : Option Nat) (x0 : Drive) (x1 : Drive) : Tree (List Int) :=
  .opt (List Int) (Lref15_Diff_0 q (Sref15_Diff_0.mk (0 : Int) x0 x1 ([]))) fun l173 =>
    .leaf (l173)
noncomputable def ref15_Diff (q : Option Nat) (x0 : Drive) (x1 : Drive) : Option (List Int) := (Tref15_Diff q x0 x1).run
theorem leref15_Diff (k : Nat) (x0 : Drive) (x1 : Drive) : Le (ref15_Diff (some k) x0 x1) (ref15_Diff none x0 x1) := (TLe.opt (leLref15_Diff_0 k _) fun _ => TLe.rfl)
noncomputable def Aref15_Diff : Arg U (Drive × Drive × Unit) := aA cDrive (aA cDrive (aNil))
noncomputable def Rref15_Diff (r : (List Int)) : List (V U) × List (Blk U) := ([vO (cSl 3) r], [])
noncomputable def Sref15_Diff : List (V U) → List (Blk U) → Option (FnOut U) := mkSpec Aref15_Diff bNil (fun x _ => ref15_Diff none x.1 x.2.1) Rref15_Diff
noncomputable def Pref15_Diff_0 (x : (Unit) × (Unit) × (Unit) × (Int × Unit) × Unit) (g : (Drive × Unit) × (Drive × Unit) × (List Int) × Unit) : Sref15_Diff_0 := Sref15_Diff_0.mk x.2.2.2.1.1 g.1.1 g.2.1.1 g.2.2.1
noncomputable def tAref15_Diff_0 : Tms U ((Unit) × (Unit) × (Unit) × (Int × Unit) × Unit) := tO 2 (cK (.ptr 0 0) (cUnit)) (tO 3 (cK (.ptr 1 0) (cUnit)) (tO 5 (cK (.row 2 0) (cUnit)) (tO 6 (cPair (cInt .i64) (cUnit)) (tNil))))
noncomputable def tBref15_Diff_0 : Bls U ((Drive × Unit) × (Drive × Unit) × (List Int) × Unit) := bC (cPair cDrive (cUnit)) (bC (cPair cDrive (cUnit)) (bRv 3 0 (bNil)))
noncomputable def eSref15_Diff_0 (s : Sref15_Diff_0) : St U := { tm := [(2, .v (vO (cK (.ptr 0 0) (cUnit)) (()))), (3, .v (vO (cK (.ptr 1 0) (cUnit)) (()))), (5, .v (vO (cK (.row 2 0) (cUnit)) (()))), (6, .v (vO (cPair (cInt .i64) (cUnit)) (s.t6, ())))], hp := [.cells ((cPair cDrive (cUnit) : Cdc U (Drive × Unit)).enc (s.b0, ())) none, .cells ((cPair cDrive (cUnit) : Cdc U (Drive × Unit)).enc (s.b1, ())) none, .row 3 0 s.b2] }
noncomputable def xSref15_Diff_0 (r : (List Int)) : Ex × St U := (.exit 0, { tm := [(5, .v (vO (cK (.row 0 0) (cUnit)) (())))], hp := [.row 3 0 r] })
noncomputable def xTref15_Diff_0 (r : (List Int)) : Tree (Ex × St U) := .leaf (xSref15_Diff_0 r)
noncomputable def href15_Diff_0 : Hd := { keep := [2, 3, 5, 6], xkeep := [4, 5], own := true }
noncomputable def Eref15_Diff : Env U := { P := Try.prog, cd := cd, fns := fns14, lps := (addL 0 href15_Diff_0 (mkLoop tAref15_Diff_0 tBref15_Diff_0 Pref15_Diff_0 (Lref15_Diff_0 none) xTref15_Diff_0) noL), frz := fun _r => false, nt := 51, n0 := 0 }
noncomputable def Bref15_Diff_0 : Code := (loopAt (Try.f58.body.getD .skip) 0 0).getD .skip
theorem roundref15_Diff_0 (s : Sref15_Diff_0) : round Eref15_Diff href15_Diff_0 Bref15_Diff_0 0 (eSref15_Diff_0 s) = (Wref15_Diff_0 s).map (sumE eSref15_Diff_0 xSref15_Diff_0) := by kernel_rfl
theorem lpref15_Diff_0 : LpOk Eref15_Diff Bref15_Diff_0 0 := mkLoop_ok (A := tAref15_Diff_0) (B := tBref15_Diff_0) (f := Pref15_Diff_0) (L := Lref15_Diff_0 none) (tO_ok (cK_ok cUnit_ok) (tO_ok (cK_ok cUnit_ok) (tO_ok (cK_ok cUnit_ok) (tO_ok (cPair_ok (cInt_ok .i64) cUnit_ok) tNil_ok)))) (bC_ok (cPair_ok cDrive_ok cUnit_ok) (bC_ok (cPair_ok cDrive_ok cUnit_ok) (bRv_ok bNil_ok))) (enc := eSref15_Diff_0) (out := xTref15_Diff_0) (outS := xSref15_Diff_0) (step := Wref15_Diff_0) (fun _ => rfl) (fun _ _ => by kernel_rfl) (by kernel_rfl) (fun _ => rfl) roundref15_Diff_0
theorem runref15_Diff (x : Drive × Drive × Unit) (g : Unit) : execF Eref15_Diff Try.f58 (Aref15_Diff.enc x) (bNil.enc g) = (Tref15_Diff none x.1 x.2.1).map Rref15_Diff := by kernel_rfl
theorem okref15_Diff : FnOk Try.prog cd 58 Sref15_Diff := mk_ok (E := Eref15_Diff) cd_ok fns14_ok Try.func58 (by kernel_rfl) (loops_of (addL_ok lpref15_Diff_0 noL_ok)) (aA_ok cDrive_ok (aA_ok cDrive_ok (aNil_ok))) bNil_ok (T := fun x _ => Tref15_Diff none x.1 x.2.1) (fun _ _ => rfl) runref15_Diff
noncomputable def fns58 := addF 58 true Sref15_Diff fns14
theorem fns58_ok : ∀ f q t, fns58 f = some (q, t) → FnOk Try.prog cd f t := addF_ok okref15_Diff fns14_ok
/-- emulator/emulatorref15.SameDrive -/
structure Sref15_SameDrive_0 where
  t5 : Int
  b0 : Drive
  b1 : Drive
noncomputable def Wref15_SameDrive_0 (s : Sref15_SameDrive_0) : Tree (Sref15_SameDrive_0 ⊕ ((Bool × Drive × Drive) ⊕ (Drive × Drive))) :=
  .ite (decide (s.t5 < (s.b0.bad.length : Int)))
    (.ite (decide (0 ≤ s.t5))
      (.opt Int (s.b0.bad[(s.t5).toNat]?) fun y174 =>
        .ite (decide (0 ≤ s.t5))
          (.opt Int (s.b1.bad[(s.t5).toNat]?) fun y175 =>
            .ite (!decide (y174 = y175))
              (.leaf (.inr (.inl (false, s.b0, s.b1))))
              (.leaf (.inl (Sref15_SameDrive_0.mk (IntKind.wrap .i64 (s.t5 + (1 : Int))) s.b0 s.b1))))
          .fail)
      .fail)
    (.leaf (.inr (.inr (s.b0, s.b1))))
noncomputable def Lref15_SameDrive_0 (q : Option Nat) (s : Sref15_SameDrive_0) : Option ((Bool × Drive × Drive) ⊕ (Drive × Drive)) := limQ q (fun s => (Wref15_SameDrive_0 s).run) s
theorem leLref15_SameDrive_0 (k : Nat) (s : Sref15_SameDrive_0) : Le (Lref15_SameDrive_0 (some k) s) (Lref15_SameDrive_0 none s) := limQ_le (fun _ => Le.rfl) s
noncomputable def Tref15_SameDrive (q : Option Nat) (x0 : Drive) (x1 : Drive) : Tree Bool :=
  .ite (!decide ((x0.sectors.length : Int) = (x1.sectors.length : Int)))
    (.leaf (false))
    (.ite (!decide ((x0.bad.length : Int) = (x1.bad.length : Int)))
      (.leaf (false))
      (.opt ((Bool × Drive × Drive) ⊕ (Drive × Drive)) (Lref15_SameDrive_0 q (Sref15_SameDrive_0.mk (0 : Int) x0 x1)) fun l176 =>
        .ite (l176.isLeft)
          (.opt (Bool × Drive × Drive) (l176.getLeft?) fun a177 =>
            .leaf (a177.1))
          (.opt (Drive × Drive) (l176.getRight?) fun b178 =>
            .opt (List Int) (ref15_Diff q b178.1 b178.2) fun r179 =>
              .leaf (decide ((r179.length : Int) = (0 : Int))))))
noncomputable def ref15_SameDrive (q : Option Nat) (x0 : Drive) (x1 : Drive) : Option Bool := (Tref15_SameDrive q x0 x1).run
theorem leref15_SameDrive (k : Nat) (x0 : Drive) (x1 : Drive) : Le (ref15_SameDrive (some k) x0 x1) (ref15_SameDrive none x0 x1) := (TLe.ite TLe.rfl (TLe.ite TLe.rfl (TLe.opt (leLref15_SameDrive_0 k _) fun _ => (TLe.ite TLe.rfl (TLe.opt Le.rfl fun _ => (TLe.opt (leref15_Diff k _ _) fun _ => TLe.rfl))))))
noncomputable def Aref15_SameDrive : Arg U (Drive × Drive × Unit) := aA cDrive (aA cDrive (aNil))
noncomputable def Rref15_SameDrive (r : Bool) : List (V U) × List (Blk U) := ([vO cBool r], [])
noncomputable def Sref15_SameDrive : List (V U) → List (Blk U) → Option (FnOut U) := mkSpec Aref15_SameDrive bNil (fun x _ => ref15_SameDrive none x.1 x.2.1) Rref15_SameDrive
noncomputable def Pref15_SameDrive_0 (x : (Unit) × (Unit) × (Int × Unit) × Unit) (g : (Drive × Unit) × (Drive × Unit) × Unit) : Sref15_SameDrive_0 := Sref15_SameDrive_0.mk x.2.2.1.1 g.1.1 g.2.1.1
noncomputable def tAref15_SameDrive_0 : Tms U ((Unit) × (Unit) × (Int × Unit) × Unit) := tO 2 (cK (.ptr 0 0) (cUnit)) (tO 3 (cK (.ptr 1 0) (cUnit)) (tO 5 (cPair (cInt .i64) (cUnit)) (tNil)))
noncomputable def tBref15_SameDrive_0 : Bls U ((Drive × Unit) × (Drive × Unit) × Unit) := bC (cPair cDrive (cUnit)) (bC (cPair cDrive (cUnit)) (bNil))
noncomputable def eSref15_SameDrive_0 (s : Sref15_SameDrive_0) : St U := { tm := [(2, .v (vO (cK (.ptr 0 0) (cUnit)) (()))), (3, .v (vO (cK (.ptr 1 0) (cUnit)) (()))), (5, .v (vO (cPair (cInt .i64) (cUnit)) (s.t5, ())))], hp := [.cells ((cPair cDrive (cUnit) : Cdc U (Drive × Unit)).enc (s.b0, ())) none, .cells ((cPair cDrive (cUnit) : Cdc U (Drive × Unit)).enc (s.b1, ())) none] }
noncomputable def xSref15_SameDrive_0 : ((Bool × Drive × Drive) ⊕ (Drive × Drive)) → Ex × St U
  | .inl r => (.ret, { tm := [(2, .v (vO (cK (.ptr 0 0) (cUnit)) (()))), (3, .v (vO (cK (.ptr 1 0) (cUnit)) (()))), (4, .v (vO (cPair cBool (cUnit)) (r.1, ())))], hp := [.cells ((cPair cDrive (cUnit) : Cdc U (Drive × Unit)).enc (r.2.1, ())) none, .cells ((cPair cDrive (cUnit) : Cdc U (Drive × Unit)).enc (r.2.2, ())) none] })
  | .inr r => (.exit 0, { tm := [(2, .v (vO (cK (.ptr 0 0) (cUnit)) (()))), (3, .v (vO (cK (.ptr 1 0) (cUnit)) (())))], hp := [.cells ((cPair cDrive (cUnit) : Cdc U (Drive × Unit)).enc (r.1, ())) none, .cells ((cPair cDrive (cUnit) : Cdc U (Drive × Unit)).enc (r.2, ())) none] })
noncomputable def xTref15_SameDrive_0 (y : ((Bool × Drive × Drive) ⊕ (Drive × Drive))) : Tree (Ex × St U) := .ite y.isLeft (.opt (Bool × Drive × Drive) y.getLeft? fun r => .leaf (.ret, { tm := [(2, .v (vO (cK (.ptr 0 0) (cUnit)) (()))), (3, .v (vO (cK (.ptr 1 0) (cUnit)) (()))), (4, .v (vO (cPair cBool (cUnit)) (r.1, ())))], hp := [.cells ((cPair cDrive (cUnit) : Cdc U (Drive × Unit)).enc (r.2.1, ())) none, .cells ((cPair cDrive (cUnit) : Cdc U (Drive × Unit)).enc (r.2.2, ())) none] })) (.opt (Drive × Drive) y.getRight? fun r => .leaf (.exit 0, { tm := [(2, .v (vO (cK (.ptr 0 0) (cUnit)) (()))), (3, .v (vO (cK (.ptr 1 0) (cUnit)) (())))], hp := [.cells ((cPair cDrive (cUnit) : Cdc U (Drive × Unit)).enc (r.1, ())) none, .cells ((cPair cDrive (cUnit) : Cdc U (Drive × Unit)).enc (r.2, ())) none] }))
noncomputable def href15_SameDrive_0 : Hd := { keep := [2, 3, 5], xkeep := [2, 3, 4], own := false }
noncomputable def Eref15_SameDrive : Env U := { P := Try.prog, cd := cd, fns := fns58, lps := (addL 0 href15_SameDrive_0 (mkLoop tAref15_SameDrive_0 tBref15_SameDrive_0 Pref15_SameDrive_0 (Lref15_SameDrive_0 none) xTref15_SameDrive_0) noL), frz := fun _r => false, nt := 45, n0 := 0 }
noncomputable def Bref15_SameDrive_0 : Code := (loopAt (Try.f34.body.getD .skip) 0 0).getD .skip
theorem roundref15_SameDrive_0 (s : Sref15_SameDrive_0) : round Eref15_SameDrive href15_SameDrive_0 Bref15_SameDrive_0 0 (eSref15_SameDrive_0 s) = (Wref15_SameDrive_0 s).map (sumE eSref15_SameDrive_0 xSref15_SameDrive_0) := by kernel_rfl
theorem lpref15_SameDrive_0 : LpOk Eref15_SameDrive Bref15_SameDrive_0 0 := mkLoop_ok (A := tAref15_SameDrive_0) (B := tBref15_SameDrive_0) (f := Pref15_SameDrive_0) (L := Lref15_SameDrive_0 none) (tO_ok (cK_ok cUnit_ok) (tO_ok (cK_ok cUnit_ok) (tO_ok (cPair_ok (cInt_ok .i64) cUnit_ok) tNil_ok))) (bC_ok (cPair_ok cDrive_ok cUnit_ok) (bC_ok (cPair_ok cDrive_ok cUnit_ok) bNil_ok)) (enc := eSref15_SameDrive_0) (out := xTref15_SameDrive_0) (outS := xSref15_SameDrive_0) (step := Wref15_SameDrive_0) (fun _ => rfl) (fun _ _ => by kernel_rfl) (by kernel_rfl) (fun b => by cases b <;> rfl) roundref15_SameDrive_0
theorem runref15_SameDrive (x : Drive × Drive × Unit) (g : Unit) : execF Eref15_SameDrive Try.f34 (Aref15_SameDrive.enc x) (bNil.enc g) = (Tref15_SameDrive none x.1 x.2.1).map Rref15_SameDrive := by kernel_rfl
theorem okref15_SameDrive : FnOk Try.prog cd 34 Sref15_SameDrive := mk_ok (E := Eref15_SameDrive) cd_ok fns58_ok Try.func34 (by kernel_rfl) (loops_of (addL_ok lpref15_SameDrive_0 noL_ok)) (aA_ok cDrive_ok (aA_ok cDrive_ok (aNil_ok))) bNil_ok (T := fun x _ => Tref15_SameDrive none x.1 x.2.1) (fun _ _ => rfl) runref15_SameDrive
noncomputable def fns34 := addF 34 true Sref15_SameDrive fns58
theorem fns34_ok : ∀ f q t, fns34 f = some (q, t) → FnOk Try.prog cd f t := addF_ok okref15_SameDrive fns58_ok
/-- emulator/emulatorref16.SameDisk -/
noncomputable def Tref16_SameDisk (q : Option Nat) (x0 : Disk) (x1 : Disk) : Tree Bool :=
  .opt Bool (ref15_SameDrive q x0.drive x1.drive) fun r180 =>
    .ite (r180)
      (.ite ((x0.enable == x1.enable))
        (.ite ((x0.ready == x1.ready))
          (.ite ((x0.error == x1.error))
            (.ite (decide (x0.command = x1.command))
              (.ite (decide (x0.words = x1.words))
                (.ite (decide (x0.addr = x1.addr))
                  (.ite (decide (x0.start = x1.start))
                    (.leaf (decide (x0.left = x1.left)))
                    (.leaf (false)))
                  (.leaf (false)))
                (.leaf (false)))
              (.leaf (false)))
            (.leaf (false)))
          (.leaf (false)))
        (.leaf (false)))
      (.leaf (false))
noncomputable def ref16_SameDisk (q : Option Nat) (x0 : Disk) (x1 : Disk) : Option Bool := (Tref16_SameDisk q x0 x1).run
theorem leref16_SameDisk (k : Nat) (x0 : Disk) (x1 : Disk) : Le (ref16_SameDisk (some k) x0 x1) (ref16_SameDisk none x0 x1) := (TLe.opt (leref15_SameDrive k _ _) fun _ => TLe.rfl)
noncomputable def Aref16_SameDisk : Arg U (Disk × Disk × Unit) := aA cDisk (aA cDisk (aNil))
noncomputable def Rref16_SameDisk (r : Bool) : List (V U) × List (Blk U) := ([vO cBool r], [])
noncomputable def Sref16_SameDisk : List (V U) → List (Blk U) → Option (FnOut U) := mkSpec Aref16_SameDisk bNil (fun x _ => ref16_SameDisk none x.1 x.2.1) Rref16_SameDisk
noncomputable def Eref16_SameDisk : Env U := { P := Try.prog, cd := cd, fns := fns34, lps := noL, frz := fun _r => false, nt := 66, n0 := 0 }
theorem runref16_SameDisk (x : Disk × Disk × Unit) (g : Unit) : execF Eref16_SameDisk Try.f15 (Aref16_SameDisk.enc x) (bNil.enc g) = (Tref16_SameDisk none x.1 x.2.1).map Rref16_SameDisk := by kernel_rfl
theorem okref16_SameDisk : FnOk Try.prog cd 15 Sref16_SameDisk := mk_ok (E := Eref16_SameDisk) cd_ok fns34_ok Try.func15 (by kernel_rfl) (noLoops_body (by kernel_rfl)) (aA_ok cDisk_ok (aA_ok cDisk_ok (aNil_ok))) bNil_ok (T := fun x _ => Tref16_SameDisk none x.1 x.2.1) (fun _ _ => rfl) runref16_SameDisk
noncomputable def fns15 := addF 15 true Sref16_SameDisk fns34
theorem fns15_ok : ∀ f q t, fns15 f = some (q, t) → FnOk Try.prog cd f t := addF_ok okref16_SameDisk fns34_ok
/-- emulator/emulatorref16.SameInts -/
structure Sref16_SameInts_0 where
  t0 : (List Int)
  t1 : (List Int)
  t5 : Int
noncomputable def Wref16_SameInts_0 (s : Sref16_SameInts_0) : Tree (Sref16_SameInts_0 ⊕ (Bool ⊕ Unit)) :=
  .ite (decide (s.t5 < (s.t0.length : Int)))
    (.ite (decide (0 ≤ s.t5))
      (.opt Int (s.t0[(s.t5).toNat]?) fun y181 =>
        .ite (decide (0 ≤ s.t5))
          (.opt Int (s.t1[(s.t5).toNat]?) fun y182 =>
            .ite (!decide (y181 = y182))
              (.leaf (.inr (.inl false)))
              (.leaf (.inl (Sref16_SameInts_0.mk s.t0 s.t1 (IntKind.wrap .i64 (s.t5 + (1 : Int)))))))
          .fail)
      .fail)
    (.leaf (.inr (.inr ())))
noncomputable def Lref16_SameInts_0 (q : Option Nat) (s : Sref16_SameInts_0) : Option (Bool ⊕ Unit) := limQ q (fun s => (Wref16_SameInts_0 s).run) s
theorem leLref16_SameInts_0 (k : Nat) (s : Sref16_SameInts_0) : Le (Lref16_SameInts_0 (some k) s) (Lref16_SameInts_0 none s) := limQ_le (fun _ => Le.rfl) s
noncomputable def Tref16_SameInts (q : Option Nat) (x0 : (List Int)) (x1 : (List Int)) : Tree Bool :=
  .ite (!decide ((x0.length : Int) = (x1.length : Int)))
    (.leaf (false))
    (.opt (Bool ⊕ Unit) (Lref16_SameInts_0 q (Sref16_SameInts_0.mk x0 x1 (0 : Int))) fun l183 =>
      .ite (l183.isLeft)
        (.opt Bool (l183.getLeft?) fun a184 =>
          .leaf (a184))
        (.opt Unit (l183.getRight?) fun b185 =>
          .leaf (true)))
noncomputable def ref16_SameInts (q : Option Nat) (x0 : (List Int)) (x1 : (List Int)) : Option Bool := (Tref16_SameInts q x0 x1).run
theorem leref16_SameInts (k : Nat) (x0 : (List Int)) (x1 : (List Int)) : Le (ref16_SameInts (some k) x0 x1) (ref16_SameInts none x0 x1) := (TLe.ite TLe.rfl (TLe.opt (leLref16_SameInts_0 k _) fun _ => TLe.rfl))
noncomputable def Aref16_SameInts : Arg U ((List Int) × (List Int) × Unit) := aO (cSl 3) (aO (cSl 3) (aNil))
noncomputable def Rref16_SameInts (r : Bool) : List (V U) × List (Blk U) := ([vO cBool r], [])
noncomputable def Sref16_SameInts : List (V U) → List (Blk U) → Option (FnOut U) := mkSpec Aref16_SameInts bNil (fun x _ => ref16_SameInts none x.1 x.2.1) Rref16_SameInts
noncomputable def Pref16_SameInts_0 (x : ((List Int) × Unit) × ((List Int) × Unit) × (Int × Unit) × Unit) (_g : Unit) : Sref16_SameInts_0 := Sref16_SameInts_0.mk x.1.1 x.2.1.1 x.2.2.1.1
noncomputable def tAref16_SameInts_0 : Tms U (((List Int) × Unit) × ((List Int) × Unit) × (Int × Unit) × Unit) := tO 0 (cPair (cSl 3) (cUnit)) (tO 1 (cPair (cSl 3) (cUnit)) (tO 5 (cPair (cInt .i64) (cUnit)) (tNil)))
noncomputable def tBref16_SameInts_0 : Bls U (Unit) := bNil
noncomputable def eSref16_SameInts_0 (s : Sref16_SameInts_0) : St U := { tm := [(0, .v (vO (cPair (cSl 3) (cUnit)) (s.t0, ()))), (1, .v (vO (cPair (cSl 3) (cUnit)) (s.t1, ()))), (5, .v (vO (cPair (cInt .i64) (cUnit)) (s.t5, ())))], hp := [] }
noncomputable def xSref16_SameInts_0 : (Bool ⊕ Unit) → Ex × St U
  | .inl r => (.ret, { tm := [(4, .v (vO (cPair cBool (cUnit)) (r, ())))], hp := [] })
  | .inr r => (.exit 0, { tm := [], hp := [] })
noncomputable def xTref16_SameInts_0 (y : (Bool ⊕ Unit)) : Tree (Ex × St U) := .ite y.isLeft (.opt Bool y.getLeft? fun r => .leaf (.ret, { tm := [(4, .v (vO (cPair cBool (cUnit)) (r, ())))], hp := [] })) (.opt Unit y.getRight? fun r => .leaf (.exit 0, { tm := [], hp := [] }))
noncomputable def href16_SameInts_0 : Hd := { keep := [0, 1, 5], xkeep := [4], own := false }
noncomputable def Eref16_SameInts : Env U := { P := Try.prog, cd := cd, fns := fns15, lps := (addL 0 href16_SameInts_0 (mkLoop tAref16_SameInts_0 tBref16_SameInts_0 Pref16_SameInts_0 (Lref16_SameInts_0 none) xTref16_SameInts_0) noL), frz := fun _r => false, nt := 26, n0 := 0 }
noncomputable def Bref16_SameInts_0 : Code := (loopAt (Try.f16.body.getD .skip) 0 0).getD .skip
theorem roundref16_SameInts_0 (s : Sref16_SameInts_0) : round Eref16_SameInts href16_SameInts_0 Bref16_SameInts_0 0 (eSref16_SameInts_0 s) = (Wref16_SameInts_0 s).map (sumE eSref16_SameInts_0 xSref16_SameInts_0) := by kernel_rfl
theorem lpref16_SameInts_0 : LpOk Eref16_SameInts Bref16_SameInts_0 0 := mkLoop_ok (A := tAref16_SameInts_0) (B := tBref16_SameInts_0) (f := Pref16_SameInts_0) (L := Lref16_SameInts_0 none) (tO_ok (cPair_ok (cSl_ok 3) cUnit_ok) (tO_ok (cPair_ok (cSl_ok 3) cUnit_ok) (tO_ok (cPair_ok (cInt_ok .i64) cUnit_ok) tNil_ok))) bNil_ok (enc := eSref16_SameInts_0) (out := xTref16_SameInts_0) (outS := xSref16_SameInts_0) (step := Wref16_SameInts_0) (fun _ => rfl) (fun _ _ => by kernel_rfl) (by kernel_rfl) (fun b => by cases b <;> rfl) roundref16_SameInts_0
theorem runref16_SameInts (x : (List Int) × (List Int) × Unit) (g : Unit) : execF Eref16_SameInts Try.f16 (Aref16_SameInts.enc x) (bNil.enc g) = (Tref16_SameInts none x.1 x.2.1).map Rref16_SameInts := by kernel_rfl
theorem okref16_SameInts : FnOk Try.prog cd 16 Sref16_SameInts := mk_ok (E := Eref16_SameInts) cd_ok fns15_ok Try.func16 (by kernel_rfl) (loops_of (addL_ok lpref16_SameInts_0 noL_ok)) (aO_ok (cSl_ok 3) (aO_ok (cSl_ok 3) (aNil_ok))) bNil_ok (T := fun x _ => Tref16_SameInts none x.1 x.2.1) (fun _ _ => rfl) runref16_SameInts
noncomputable def fns16 := addF 16 true Sref16_SameInts fns15
theorem fns16_ok : ∀ f q t, fns16 f = some (q, t) → FnOk Try.prog cd f t := addF_ok okref16_SameInts fns15_ok
/-- emulator/emulatorlaw16.DiskctlIdle -/
structure Slaw16_DiskctlIdle_0 where
  t1 : (List Int)
  t2 : (List Int)
  t10 : (List Int)
  t11 : (List Int)
  t24 : Int
  t25 : Int
  b0 : Disk
  b1 : Disk
noncomputable def Wlaw16_DiskctlIdle_0 (q : Option Nat) (s : Slaw16_DiskctlIdle_0) : Tree (Slaw16_DiskctlIdle_0 ⊕ ((List Int) × (List Int) × (List Int) × (List Int) × Disk × Disk)) :=
  .ite (decide (s.t25 < s.t24))
    (.opt (Disk × (List Int) × (List Int)) (diskctl_Tick q s.b1 s.t10 s.t11) fun r189 =>
      .leaf (.inl (Slaw16_DiskctlIdle_0.mk s.t1 s.t2 r189.2.1 r189.2.2 s.t24 (IntKind.wrap .u8 (s.t25 + (1 : Int))) s.b0 r189.1)))
    (.leaf (.inr (s.t1, s.t2, s.t10, s.t11, s.b0, s.b1)))
noncomputable def Llaw16_DiskctlIdle_0 (q : Option Nat) (s : Slaw16_DiskctlIdle_0) : Option ((List Int) × (List Int) × (List Int) × (List Int) × Disk × Disk) := limQ q (fun s => (Wlaw16_DiskctlIdle_0 q s).run) s
theorem leLlaw16_DiskctlIdle_0 (k : Nat) (s : Slaw16_DiskctlIdle_0) : Le (Llaw16_DiskctlIdle_0 (some k) s) (Llaw16_DiskctlIdle_0 none s) := limQ_le (fun s => (TLe.ite (TLe.opt (lediskctl_Tick k _ _ _) fun _ => TLe.rfl) TLe.rfl)) s
noncomputable def Tlaw16_DiskctlIdle (q : Option Nat) (x0 : Disk) (x1 : (List Int)) (x2 : (List Int)) (x3 : Int) : Tree Bool :=
  .opt Bool (law16_few q x0 x1 x2) fun r186 =>
    .ite (!r186)
      (.opt Bool (law16_alive q) fun r187 =>
        .leaf (r187))
      (.opt Disk (diskctl_Reset x0) fun r188 =>
        .ite (decide ((20 : Int) = 0))
          .fail
          (.opt ((List Int) × (List Int) × (List Int) × (List Int) × Disk × Disk) (Llaw16_DiskctlIdle_0 q (Slaw16_DiskctlIdle_0.mk x1 x2 x1 x2 ((x3).tmod (20 : Int)) (0 : Int) r188 r188)) fun l190 =>
            .opt Bool (ref16_SameDisk q l190.2.2.2.2.2 l190.2.2.2.2.1) fun r191 =>
              .ite (r191)
                (.opt Bool (ref16_SameInts q l190.2.2.1 l190.1) fun r192 =>
                  .ite (r192)
                    (.opt Bool (ref16_SameInts q l190.2.2.2.1 l190.2.1) fun r193 =>
                      .ite (r193)
                        (.opt Bool (law16_alive q) fun r194 =>
                          .leaf (r194))
                        (.leaf (false)))
                    (.leaf (false)))
                (.leaf (false))))
noncomputable def law16_DiskctlIdle (q : Option Nat) (x0 : Disk) (x1 : (List Int)) (x2 : (List Int)) (x3 : Int) : Option Bool := (Tlaw16_DiskctlIdle q x0 x1 x2 x3).run
theorem lelaw16_DiskctlIdle (k : Nat) (x0 : Disk) (x1 : (List Int)) (x2 : (List Int)) (x3 : Int) : Le (law16_DiskctlIdle (some k) x0 x1 x2 x3) (law16_DiskctlIdle none x0 x1 x2 x3) := (TLe.opt (lelaw16_few k _ _ _) fun _ => (TLe.ite (TLe.opt (lelaw16_alive k) fun _ => TLe.rfl) (TLe.opt Le.rfl fun _ => (TLe.ite TLe.rfl (TLe.opt (leLlaw16_DiskctlIdle_0 k _) fun _ => (TLe.opt (leref16_SameDisk k _ _) fun _ => (TLe.ite (TLe.opt (leref16_SameInts k _ _) fun _ => (TLe.ite (TLe.opt (leref16_SameInts k _ _) fun _ => (TLe.ite (TLe.opt (lelaw16_alive k) fun _ => TLe.rfl) TLe.rfl)) TLe.rfl)) TLe.rfl)))))))
noncomputable def Alaw16_DiskctlIdle : Arg U (Disk × (List Int) × (List Int) × Int × Unit) := aA cDisk (aO (cSl 3) (aO (cSl 3) (aO (cInt .u8) (aNil))))
noncomputable def Rlaw16_DiskctlIdle (r : Bool) : List (V U) × List (Blk U) := ([vO cBool r], [])
noncomputable def Slaw16_DiskctlIdle : List (V U) → List (Blk U) → Option (FnOut U) := mkSpec Alaw16_DiskctlIdle bNil (fun x _ => law16_DiskctlIdle none x.1 x.2.1 x.2.2.1 x.2.2.2.1) Rlaw16_DiskctlIdle
noncomputable def Plaw16_DiskctlIdle_0 (x : ((List Int) × Unit) × ((List Int) × Unit) × (Unit) × (Unit) × ((List Int) × Unit) × ((List Int) × Unit) × (Int × Unit) × (Int × Unit) × Unit) (g : (Disk × Unit) × (Disk × Unit) × Unit) : Slaw16_DiskctlIdle_0 := Slaw16_DiskctlIdle_0.mk x.1.1 x.2.1.1 x.2.2.2.2.1.1 x.2.2.2.2.2.1.1 x.2.2.2.2.2.2.1.1 x.2.2.2.2.2.2.2.1.1 g.1.1 g.2.1.1
noncomputable def tAlaw16_DiskctlIdle_0 : Tms U (((List Int) × Unit) × ((List Int) × Unit) × (Unit) × (Unit) × ((List Int) × Unit) × ((List Int) × Unit) × (Int × Unit) × (Int × Unit) × Unit) := tO 1 (cPair (cSl 3) (cUnit)) (tO 2 (cPair (cSl 3) (cUnit)) (tO 4 (cK (.ptr 0 0) (cUnit)) (tO 9 (cK (.ptr 1 0) (cUnit)) (tO 10 (cPair (cSl 3) (cUnit)) (tO 11 (cPair (cSl 3) (cUnit)) (tO 24 (cPair (cInt .u8) (cUnit)) (tO 25 (cPair (cInt .u8) (cUnit)) (tNil))))))))
noncomputable def tBlaw16_DiskctlIdle_0 : Bls U ((Disk × Unit) × (Disk × Unit) × Unit) := bC (cPair cDisk (cUnit)) (bC (cPair cDisk (cUnit)) (bNil))
noncomputable def eSlaw16_DiskctlIdle_0 (s : Slaw16_DiskctlIdle_0) : St U := { tm := [(1, .v (vO (cPair (cSl 3) (cUnit)) (s.t1, ()))), (2, .v (vO (cPair (cSl 3) (cUnit)) (s.t2, ()))), (4, .v (vO (cK (.ptr 0 0) (cUnit)) (()))), (9, .v (vO (cK (.ptr 1 0) (cUnit)) (()))), (10, .v (vO (cPair (cSl 3) (cUnit)) (s.t10, ()))), (11, .v (vO (cPair (cSl 3) (cUnit)) (s.t11, ()))), (24, .v (vO (cPair (cInt .u8) (cUnit)) (s.t24, ()))), (25, .v (vO (cPair (cInt .u8) (cUnit)) (s.t25, ())))], hp := [.cells ((cPair cDisk (cUnit) : Cdc U (Disk × Unit)).enc (s.b0, ())) none, .cells ((cPair cDisk (cUnit) : Cdc U (Disk × Unit)).enc (s.b1, ())) none] }
noncomputable def xSlaw16_DiskctlIdle_0 (r : ((List Int) × (List Int) × (List Int) × (List Int) × Disk × Disk)) : Ex × St U := (.exit 0, { tm := [(1, .v (vO (cPair (cSl 3) (cUnit)) (r.1, ()))), (2, .v (vO (cPair (cSl 3) (cUnit)) (r.2.1, ()))), (4, .v (vO (cK (.ptr 0 0) (cUnit)) (()))), (9, .v (vO (cK (.ptr 1 0) (cUnit)) (()))), (10, .v (vO (cPair (cSl 3) (cUnit)) (r.2.2.1, ()))), (11, .v (vO (cPair (cSl 3) (cUnit)) (r.2.2.2.1, ())))], hp := [.cells ((cPair cDisk (cUnit) : Cdc U (Disk × Unit)).enc (r.2.2.2.2.1, ())) none, .cells ((cPair cDisk (cUnit) : Cdc U (Disk × Unit)).enc (r.2.2.2.2.2, ())) none] })
noncomputable def xTlaw16_DiskctlIdle_0 (r : ((List Int) × (List Int) × (List Int) × (List Int) × Disk × Disk)) : Tree (Ex × St U) := .leaf (xSlaw16_DiskctlIdle_0 r)
noncomputable def hlaw16_DiskctlIdle_0 : Hd := { keep := [1, 2, 4, 9, 10, 11, 24, 25], xkeep := [1, 2, 4, 8, 9, 10, 11], own := false }
noncomputable def Elaw16_DiskctlIdle : Env U := { P := Try.prog, cd := cd, fns := fns16, lps := (addL 0 hlaw16_DiskctlIdle_0 (mkLoop tAlaw16_DiskctlIdle_0 tBlaw16_DiskctlIdle_0 Plaw16_DiskctlIdle_0 (Llaw16_DiskctlIdle_0 none) xTlaw16_DiskctlIdle_0) noL), frz := fun _r => false, nt := 52, n0 := 0 }
noncomputable def Blaw16_DiskctlIdle_0 : Code := (loopAt (Try.f4.body.getD .skip) 0 0).getD .skip
theorem roundlaw16_DiskctlIdle_0 (s : Slaw16_DiskctlIdle_0) : round Elaw16_DiskctlIdle hlaw16_DiskctlIdle_0 Blaw16_DiskctlIdle_0 0 (eSlaw16_DiskctlIdle_0 s) = (Wlaw16_DiskctlIdle_0 none s).map (sumE eSlaw16_DiskctlIdle_0 xSlaw16_DiskctlIdle_0) := by kernel_rfl
theorem lplaw16_DiskctlIdle_0 : LpOk Elaw16_DiskctlIdle Blaw16_DiskctlIdle_0 0 := mkLoop_ok (A := tAlaw16_DiskctlIdle_0) (B := tBlaw16_DiskctlIdle_0) (f := Plaw16_DiskctlIdle_0) (L := Llaw16_DiskctlIdle_0 none) (tO_ok (cPair_ok (cSl_ok 3) cUnit_ok) (tO_ok (cPair_ok (cSl_ok 3) cUnit_ok) (tO_ok (cK_ok cUnit_ok) (tO_ok (cK_ok cUnit_ok) (tO_ok (cPair_ok (cSl_ok 3) cUnit_ok) (tO_ok (cPair_ok (cSl_ok 3) cUnit_ok) (tO_ok (cPair_ok (cInt_ok .u8) cUnit_ok) (tO_ok (cPair_ok (cInt_ok .u8) cUnit_ok) tNil_ok)))))))) (bC_ok (cPair_ok cDisk_ok cUnit_ok) (bC_ok (cPair_ok cDisk_ok cUnit_ok) bNil_ok)) (enc := eSlaw16_DiskctlIdle_0) (out := xTlaw16_DiskctlIdle_0) (outS := xSlaw16_DiskctlIdle_0) (step := Wlaw16_DiskctlIdle_0 none) (fun _ => rfl) (fun _ _ => by kernel_rfl) (by kernel_rfl) (fun _ => rfl) roundlaw16_DiskctlIdle_0
theorem runlaw16_DiskctlIdle (x : Disk × (List Int) × (List Int) × Int × Unit) (g : Unit) : execF Elaw16_DiskctlIdle Try.f4 (Alaw16_DiskctlIdle.enc x) (bNil.enc g) = (Tlaw16_DiskctlIdle none x.1 x.2.1 x.2.2.1 x.2.2.2.1).map Rlaw16_DiskctlIdle := by kernel_rfl
theorem oklaw16_DiskctlIdle : FnOk Try.prog cd 4 Slaw16_DiskctlIdle := mk_ok (E := Elaw16_DiskctlIdle) cd_ok fns16_ok Try.func4 (by kernel_rfl) (loops_of (addL_ok lplaw16_DiskctlIdle_0 noL_ok)) (aA_ok cDisk_ok (aO_ok (cSl_ok 3) (aO_ok (cSl_ok 3) (aO_ok (cInt_ok .u8) (aNil_ok))))) bNil_ok (T := fun x _ => Tlaw16_DiskctlIdle none x.1 x.2.1 x.2.2.1 x.2.2.2.1) (fun _ _ => rfl) runlaw16_DiskctlIdle
noncomputable def fns4 := addF 4 true Slaw16_DiskctlIdle fns16
theorem fns4_ok : ∀ f q t, fns4 f = some (q, t) → FnOk Try.prog cd f t := addF_ok oklaw16_DiskctlIdle fns16_ok
/-- emulator/emulatorref16.failed -/
noncomputable def Tref16_failed (x0 : Disk) : Tree Disk :=
  .leaf (Disk.mk x0.drive x0.enable true true x0.command x0.words x0.addr x0.start x0.left)
noncomputable def ref16_failed (x0 : Disk) : Option Disk := (Tref16_failed x0).run
noncomputable def Aref16_failed : Arg U (Disk × Unit) := aA cDisk (aNil)
noncomputable def Rref16_failed (r : Disk) : List (V U) × List (Blk U) := ([vA cDisk r], [])
noncomputable def Sref16_failed : List (V U) → List (Blk U) → Option (FnOut U) := mkSpec Aref16_failed bNil (fun x _ => ref16_failed x.1) Rref16_failed
noncomputable def Eref16_failed : Env U := { P := Try.prog, cd := cd, fns := fns4, lps := noL, frz := fun _r => false, nt := 6, n0 := 0 }
theorem runref16_failed (x : Disk × Unit) (g : Unit) : execF Eref16_failed Try.f35 (Aref16_failed.enc x) (bNil.enc g) = (Tref16_failed x.1).map Rref16_failed := by kernel_rfl
theorem okref16_failed : FnOk Try.prog cd 35 Sref16_failed := mk_ok (E := Eref16_failed) cd_ok fns4_ok Try.func35 (by kernel_rfl) (noLoops_body (by kernel_rfl)) (aA_ok cDisk_ok (aNil_ok)) bNil_ok (T := fun x _ => Tref16_failed x.1) (fun _ _ => rfl) runref16_failed
noncomputable def fns35 := addF 35 true Sref16_failed fns4
theorem fns35_ok : ∀ f q t, fns35 f = some (q, t) → FnOk Try.prog cd f t := addF_ok okref16_failed fns4_ok
/-- emulator/emulatorref15.Isbad -/
structure Sref15_Isbad_0 where
  t1 : Int
  t5 : Int
  b0 : Drive
noncomputable def Wref15_Isbad_0 (s : Sref15_Isbad_0) : Tree (Sref15_Isbad_0 ⊕ (Bool ⊕ Unit)) :=
  .ite (decide (s.t5 < (s.b0.bad.length : Int)))
    (.ite (decide (0 ≤ s.t5))
      (.opt Int (s.b0.bad[(s.t5).toNat]?) fun y195 =>
        .ite (decide (y195 = s.t1))
          (.leaf (.inr (.inl true)))
          (.leaf (.inl (Sref15_Isbad_0.mk s.t1 (IntKind.wrap .i64 (s.t5 + (1 : Int))) s.b0))))
      .fail)
    (.leaf (.inr (.inr ())))
noncomputable def Lref15_Isbad_0 (q : Option Nat) (s : Sref15_Isbad_0) : Option (Bool ⊕ Unit) := limQ q (fun s => (Wref15_Isbad_0 s).run) s
theorem leLref15_Isbad_0 (k : Nat) (s : Sref15_Isbad_0) : Le (Lref15_Isbad_0 (some k) s) (Lref15_Isbad_0 none s) := limQ_le (fun _ => Le.rfl) s
noncomputable def Tref15_Isbad (q : Option Nat) (x0 : Drive) (x1 : Int) : Tree Bool :=
  .opt (Bool ⊕ Unit) (Lref15_Isbad_0 q (Sref15_Isbad_0.mk x1 (0 : Int) x0)) fun l196 =>
    .ite (l196.isLeft)
      (.opt Bool (l196.getLeft?) fun a197 =>
        .leaf (a197))
      (.opt Unit (l196.getRight?) fun b198 =>
        .leaf (false))
noncomputable def ref15_Isbad (q : Option Nat) (x0 : Drive) (x1 : Int) : Option Bool := (Tref15_Isbad q x0 x1).run
theorem leref15_Isbad (k : Nat) (x0 : Drive) (x1 : Int) : Le (ref15_Isbad (some k) x0 x1) (ref15_Isbad none x0 x1) := (TLe.opt (leLref15_Isbad_0 k _) fun _ => TLe.rfl)
noncomputable def Aref15_Isbad : Arg U (Drive × Int × Unit) := aA cDrive (aO (cInt .i64) (aNil))
noncomputable def Rref15_Isbad (r : Bool) : List (V U) × List (Blk U) := ([vO cBool r], [])
noncomputable def Sref15_Isbad : List (V U) → List (Blk U) → Option (FnOut U) := mkSpec Aref15_Isbad bNil (fun x _ => ref15_Isbad none x.1 x.2.1) Rref15_Isbad
noncomputable def Pref15_Isbad_0 (x : (Int × Unit) × (Unit) × (Int × Unit) × Unit) (g : (Drive × Unit) × Unit) : Sref15_Isbad_0 := Sref15_Isbad_0.mk x.1.1 x.2.2.1.1 g.1.1
noncomputable def tAref15_Isbad_0 : Tms U ((Int × Unit) × (Unit) × (Int × Unit) × Unit) := tO 1 (cPair (cInt .i64) (cUnit)) (tO 2 (cK (.ptr 0 0) (cUnit)) (tO 5 (cPair (cInt .i64) (cUnit)) (tNil)))
noncomputable def tBref15_Isbad_0 : Bls U ((Drive × Unit) × Unit) := bC (cPair cDrive (cUnit)) (bNil)
noncomputable def eSref15_Isbad_0 (s : Sref15_Isbad_0) : St U := { tm := [(1, .v (vO (cPair (cInt .i64) (cUnit)) (s.t1, ()))), (2, .v (vO (cK (.ptr 0 0) (cUnit)) (()))), (5, .v (vO (cPair (cInt .i64) (cUnit)) (s.t5, ())))], hp := [.cells ((cPair cDrive (cUnit) : Cdc U (Drive × Unit)).enc (s.b0, ())) none] }
noncomputable def xSref15_Isbad_0 : (Bool ⊕ Unit) → Ex × St U
  | .inl r => (.ret, { tm := [(4, .v (vO (cPair cBool (cUnit)) (r, ())))], hp := [] })
  | .inr r => (.exit 0, { tm := [], hp := [] })
noncomputable def xTref15_Isbad_0 (y : (Bool ⊕ Unit)) : Tree (Ex × St U) := .ite y.isLeft (.opt Bool y.getLeft? fun r => .leaf (.ret, { tm := [(4, .v (vO (cPair cBool (cUnit)) (r, ())))], hp := [] })) (.opt Unit y.getRight? fun r => .leaf (.exit 0, { tm := [], hp := [] }))
noncomputable def href15_Isbad_0 : Hd := { keep := [1, 2, 5], xkeep := [4], own := false }
noncomputable def Eref15_Isbad : Env U := { P := Try.prog, cd := cd, fns := fns35, lps := (addL 0 href15_Isbad_0 (mkLoop tAref15_Isbad_0 tBref15_Isbad_0 Pref15_Isbad_0 (Lref15_Isbad_0 none) xTref15_Isbad_0) noL), frz := fun _r => false, nt := 20, n0 := 0 }
noncomputable def Bref15_Isbad_0 : Code := (loopAt (Try.f59.body.getD .skip) 0 0).getD .skip
theorem roundref15_Isbad_0 (s : Sref15_Isbad_0) : round Eref15_Isbad href15_Isbad_0 Bref15_Isbad_0 0 (eSref15_Isbad_0 s) = (Wref15_Isbad_0 s).map (sumE eSref15_Isbad_0 xSref15_Isbad_0) := by kernel_rfl
theorem lpref15_Isbad_0 : LpOk Eref15_Isbad Bref15_Isbad_0 0 := mkLoop_ok (A := tAref15_Isbad_0) (B := tBref15_Isbad_0) (f := Pref15_Isbad_0) (L := Lref15_Isbad_0 none) (tO_ok (cPair_ok (cInt_ok .i64) cUnit_ok) (tO_ok (cK_ok cUnit_ok) (tO_ok (cPair_ok (cInt_ok .i64) cUnit_ok) tNil_ok))) (bC_ok (cPair_ok cDrive_ok cUnit_ok) bNil_ok) (enc := eSref15_Isbad_0) (out := xTref15_Isbad_0) (outS := xSref15_Isbad_0) (step := Wref15_Isbad_0) (fun _ => rfl) (fun _ _ => by kernel_rfl) (by kernel_rfl) (fun b => by cases b <;> rfl) roundref15_Isbad_0
theorem runref15_Isbad (x : Drive × Int × Unit) (g : Unit) : execF Eref15_Isbad Try.f59 (Aref15_Isbad.enc x) (bNil.enc g) = (Tref15_Isbad none x.1 x.2.1).map Rref15_Isbad := by kernel_rfl
theorem okref15_Isbad : FnOk Try.prog cd 59 Sref15_Isbad := mk_ok (E := Eref15_Isbad) cd_ok fns35_ok Try.func59 (by kernel_rfl) (loops_of (addL_ok lpref15_Isbad_0 noL_ok)) (aA_ok cDrive_ok (aO_ok (cInt_ok .i64) (aNil_ok))) bNil_ok (T := fun x _ => Tref15_Isbad none x.1 x.2.1) (fun _ _ => rfl) runref15_Isbad
noncomputable def fns59 := addF 59 true Sref15_Isbad fns35
theorem fns59_ok : ∀ f q t, fns59 f = some (q, t) → FnOk Try.prog cd f t := addF_ok okref15_Isbad fns35_ok
end Go.Proofs.Ytenckckimagkkaa
