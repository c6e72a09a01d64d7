/- The types of the program, and how they are told in cells. -/
import Derived.Test.YtiafliookmnjoaaGreatDoorAbMore
import Derived.Test.YtiafliookmnjoaaGreatDoorAbClone
import Derived.Ground.NamesProg
import Derived.Shelf.Lay
import Derived.Shelf.SlGeneric
import Derived.Ground.SlgnProg
import Derived.Test.YtiafliookmnjoaaGreatDoorProg
import Derived.KernelRfl
set_option linter.unusedSimpArgs false
namespace Go.Proofs.YtiafliookmnjoaaGreatDoor
open Go Go.Ab
structure Cpu where
  r : (List Int)
  sP : (List Int)
  pC : Int
  pSW : Int
  deriving DecidableEq
structure Page where
  base : Int
  length : Int
  access : Int
  written : Bool
  deriving DecidableEq
structure Mmu where
  on : Bool
  pages : (List Page)
  status : Int
  addr : Int
  deriving DecidableEq
structure Line where
  rxEnable : Bool
  rxReady : Bool
  overrun : Bool
  rxData : Int
  txEnable : Bool
  txReady : Bool
  txData : Int
  txLeft : Int
  out : (List UInt8)
  deriving DecidableEq
structure Drive where
  sectors : (List (List UInt8))
  bad : (List Int)
  deriving DecidableEq
structure Disk where
  drive : Drive
  enable : Bool
  ready : Bool
  error : Bool
  command : Int
  words : Int
  addr : Int
  start : Int
  left : Int
  deriving DecidableEq
structure Tape where
  records : (List (List UInt8))
  pos : Int
  enable : Bool
  ready : Bool
  error : Bool
  mark : Bool
  end_ : Bool
  command : Int
  count : Int
  addr : Int
  left : Int
  deriving DecidableEq
structure Clock where
  enable : Bool
  ready : Bool
  period : Int
  left : Int
  deriving DecidableEq
structure Machine where
  cpu : Cpu
  mem : (List Int)
  bad : (List Int)
  mmu : Mmu
  clock : Clock
  lines : (List Line)
  disk : Disk
  tape : Tape
  now : Int
  halted : Bool
  waiting : Bool
  power : Int
  powerTrap : Bool
  deriving DecidableEq
structure Condition where
  halted : Bool
  waiting : Bool
  trap : Bool
  power : Int
  deriving DecidableEq
structure Reader where
  s : (List UInt8)
  at_ : Int
  bad : Bool
  deriving DecidableEq
abbrev tys : List (Nat × Type) := [(3, Int), (4, Bool), (5, Int), (9, (List UInt8)), (28, Page), (66, Line)]
abbrev U : Nat → Type := findT tys
noncomputable def cCpu : Cdc U Cpu := cMap (fun x => Cpu.mk x.1 x.2.1 x.2.2.1 x.2.2.2.1) (fun x => (x.r, x.sP, x.pC, x.pSW, ())) (cPair (cArr 3 6) (cPair (cArr 3 2) (cPair (cInt .i64) (cPair (cInt .i64) (cUnit)))))
theorem cCpu_ok : cCpu.Ok := cMap_ok (cPair_ok (cArr_ok 3 6) (cPair_ok (cArr_ok 3 2) (cPair_ok (cInt_ok .i64) (cPair_ok (cInt_ok .i64) cUnit_ok)))) fun _ => rfl
noncomputable def cPage : Cdc U Page := cMap (fun x => Page.mk x.1 x.2.1 x.2.2.1 x.2.2.2.1) (fun x => (x.base, x.length, x.access, x.written, ())) (cPair (cInt .i64) (cPair (cInt .i64) (cPair (cInt .i64) (cPair cBool (cUnit)))))
theorem cPage_ok : cPage.Ok := cMap_ok (cPair_ok (cInt_ok .i64) (cPair_ok (cInt_ok .i64) (cPair_ok (cInt_ok .i64) (cPair_ok cBool_ok cUnit_ok)))) fun _ => rfl
noncomputable def cMmu : Cdc U Mmu := cMap (fun x => Mmu.mk x.1 x.2.1 x.2.2.1 x.2.2.2.1) (fun x => (x.on, x.pages, x.status, x.addr, ())) (cPair cBool (cPair (cArr 28 16) (cPair (cInt .i64) (cPair (cInt .i64) (cUnit)))))
theorem cMmu_ok : cMmu.Ok := cMap_ok (cPair_ok cBool_ok (cPair_ok (cArr_ok 28 16) (cPair_ok (cInt_ok .i64) (cPair_ok (cInt_ok .i64) cUnit_ok)))) fun _ => rfl
noncomputable def cLine : Cdc U Line := cMap (fun x => Line.mk x.1 x.2.1 x.2.2.1 x.2.2.2.1 x.2.2.2.2.1 x.2.2.2.2.2.1 x.2.2.2.2.2.2.1 x.2.2.2.2.2.2.2.1 x.2.2.2.2.2.2.2.2.1) (fun x => (x.rxEnable, x.rxReady, x.overrun, x.rxData, x.txEnable, x.txReady, x.txData, x.txLeft, x.out, ())) (cPair cBool (cPair cBool (cPair cBool (cPair (cInt .i64) (cPair cBool (cPair cBool (cPair (cInt .i64) (cPair (cInt .i64) (cPair cStr (cUnit))))))))))
theorem cLine_ok : cLine.Ok := cMap_ok (cPair_ok cBool_ok (cPair_ok cBool_ok (cPair_ok cBool_ok (cPair_ok (cInt_ok .i64) (cPair_ok cBool_ok (cPair_ok cBool_ok (cPair_ok (cInt_ok .i64) (cPair_ok (cInt_ok .i64) (cPair_ok cStr_ok cUnit_ok))))))))) fun _ => rfl
noncomputable def cDrive : Cdc U Drive := cMap (fun x => Drive.mk x.1 x.2.1) (fun x => (x.sectors, x.bad, ())) (cPair (cSl 9) (cPair (cSl 3) (cUnit)))
theorem cDrive_ok : cDrive.Ok := cMap_ok (cPair_ok (cSl_ok 9) (cPair_ok (cSl_ok 3) cUnit_ok)) fun _ => rfl
noncomputable def cDisk : Cdc U Disk := cMap (fun x => Disk.mk x.1 x.2.1 x.2.2.1 x.2.2.2.1 x.2.2.2.2.1 x.2.2.2.2.2.1 x.2.2.2.2.2.2.1 x.2.2.2.2.2.2.2.1 x.2.2.2.2.2.2.2.2.1) (fun x => (x.drive, x.enable, x.ready, x.error, x.command, x.words, x.addr, x.start, x.left, ())) (cPair cDrive (cPair cBool (cPair cBool (cPair cBool (cPair (cInt .i64) (cPair (cInt .i64) (cPair (cInt .i64) (cPair (cInt .i64) (cPair (cInt .i64) (cUnit))))))))))
theorem cDisk_ok : cDisk.Ok := cMap_ok (cPair_ok cDrive_ok (cPair_ok cBool_ok (cPair_ok cBool_ok (cPair_ok cBool_ok (cPair_ok (cInt_ok .i64) (cPair_ok (cInt_ok .i64) (cPair_ok (cInt_ok .i64) (cPair_ok (cInt_ok .i64) (cPair_ok (cInt_ok .i64) cUnit_ok))))))))) fun _ => rfl
noncomputable def cTape : Cdc U Tape := cMap (fun x => Tape.mk x.1 x.2.1 x.2.2.1 x.2.2.2.1 x.2.2.2.2.1 x.2.2.2.2.2.1 x.2.2.2.2.2.2.1 x.2.2.2.2.2.2.2.1 x.2.2.2.2.2.2.2.2.1 x.2.2.2.2.2.2.2.2.2.1 x.2.2.2.2.2.2.2.2.2.2.1) (fun x => (x.records, x.pos, x.enable, x.ready, x.error, x.mark, x.end_, x.command, x.count, x.addr, x.left, ())) (cPair (cSl 9) (cPair (cInt .i64) (cPair cBool (cPair cBool (cPair cBool (cPair cBool (cPair cBool (cPair (cInt .i64) (cPair (cInt .i64) (cPair (cInt .i64) (cPair (cInt .i64) (cUnit))))))))))))
theorem cTape_ok : cTape.Ok := cMap_ok (cPair_ok (cSl_ok 9) (cPair_ok (cInt_ok .i64) (cPair_ok cBool_ok (cPair_ok cBool_ok (cPair_ok cBool_ok (cPair_ok cBool_ok (cPair_ok cBool_ok (cPair_ok (cInt_ok .i64) (cPair_ok (cInt_ok .i64) (cPair_ok (cInt_ok .i64) (cPair_ok (cInt_ok .i64) cUnit_ok))))))))))) fun _ => rfl
noncomputable def cClock : Cdc U Clock := cMap (fun x => Clock.mk x.1 x.2.1 x.2.2.1 x.2.2.2.1) (fun x => (x.enable, x.ready, x.period, x.left, ())) (cPair cBool (cPair cBool (cPair (cInt .i64) (cPair (cInt .i64) (cUnit)))))
theorem cClock_ok : cClock.Ok := cMap_ok (cPair_ok cBool_ok (cPair_ok cBool_ok (cPair_ok (cInt_ok .i64) (cPair_ok (cInt_ok .i64) cUnit_ok)))) fun _ => rfl
noncomputable def cMachine : Cdc U Machine := cMap (fun x => Machine.mk x.1 x.2.1 x.2.2.1 x.2.2.2.1 x.2.2.2.2.1 x.2.2.2.2.2.1 x.2.2.2.2.2.2.1 x.2.2.2.2.2.2.2.1 x.2.2.2.2.2.2.2.2.1 x.2.2.2.2.2.2.2.2.2.1 x.2.2.2.2.2.2.2.2.2.2.1 x.2.2.2.2.2.2.2.2.2.2.2.1 x.2.2.2.2.2.2.2.2.2.2.2.2.1) (fun x => (x.cpu, x.mem, x.bad, x.mmu, x.clock, x.lines, x.disk, x.tape, x.now, x.halted, x.waiting, x.power, x.powerTrap, ())) (cPair cCpu (cPair (cSl 3) (cPair (cSl 3) (cPair cMmu (cPair cClock (cPair (cSl 66) (cPair cDisk (cPair cTape (cPair (cInt .i64) (cPair cBool (cPair cBool (cPair (cInt .i64) (cPair cBool (cUnit))))))))))))))
theorem cMachine_ok : cMachine.Ok := cMap_ok (cPair_ok cCpu_ok (cPair_ok (cSl_ok 3) (cPair_ok (cSl_ok 3) (cPair_ok cMmu_ok (cPair_ok cClock_ok (cPair_ok (cSl_ok 66) (cPair_ok cDisk_ok (cPair_ok cTape_ok (cPair_ok (cInt_ok .i64) (cPair_ok cBool_ok (cPair_ok cBool_ok (cPair_ok (cInt_ok .i64) (cPair_ok cBool_ok cUnit_ok))))))))))))) fun _ => rfl
noncomputable def cCondition : Cdc U Condition := cMap (fun x => Condition.mk x.1 x.2.1 x.2.2.1 x.2.2.2.1) (fun x => (x.halted, x.waiting, x.trap, x.power, ())) (cPair cBool (cPair cBool (cPair cBool (cPair (cInt .i64) (cUnit)))))
noncomputable def cReader : Cdc U Reader := cMap (fun x => Reader.mk x.1 x.2.1 x.2.2.1) (fun x => (x.s, x.at_, x.bad, ())) (cPair cStr (cPair (cInt .i64) (cPair cBool (cUnit))))
theorem cReader_ok : cReader.Ok := cMap_ok (cPair_ok cStr_ok (cPair_ok (cInt_ok .i64) (cPair_ok cBool_ok cUnit_ok))) fun _ => rfl
noncomputable def ents : Ents U tys := .cons ⟨(cInt .i64), some (0 : Int), none, some inferInstance⟩ (.cons ⟨cBool, some false, none, some inferInstance⟩ (.cons ⟨(cInt .u8), some (0 : Int), some (fun x => x, fun x => x), some inferInstance⟩ (.cons ⟨cStr, some ([] : List UInt8), none, some inferInstance⟩ (.cons ⟨cPage, some (Page.mk (0 : Int) (0 : Int) (0 : Int) false), none, some inferInstance⟩ (.cons ⟨cLine, some (Line.mk false false false (0 : Int) false false (0 : Int) (0 : Int) ([] : List UInt8)), none, some inferInstance⟩ (.nil))))))
noncomputable def glob : Nat → List Value := fun g => bif Nat.beq g 0 then [.bool true, .bool false, .bool false, .int .i64 (0 : Int)] else []
noncomputable def cd : Cd U := cdOf ents glob
theorem eqSPage (cd : Cd U) (x y : Page) : eqT Tryz.prog cd false 4 28 (cPage.enc x) (cPage.enc y) = some (decide (x = y)) := by
  have h : eqT Tryz.prog cd false 4 28 (cPage.enc x) (cPage.enc y) = some (decide (x.base = y.base) && (decide (x.length = y.length) && (decide (x.access = y.access) && (x.written == y.written)))) := by kernel_rfl
  rw [h]
  cases x; cases y; rw [Option.some.injEq, Bool.eq_iff_iff]; simp
theorem eqSLine (cd : Cd U) (x y : Line) : eqT Tryz.prog cd false 4 66 (cLine.enc x) (cLine.enc y) = some (decide (x = y)) := by
  have h : eqT Tryz.prog cd false 4 66 (cLine.enc x) (cLine.enc y) = some ((x.rxEnable == y.rxEnable) && ((x.rxReady == y.rxReady) && ((x.overrun == y.overrun) && (decide (x.rxData = y.rxData) && ((x.txEnable == y.txEnable) && ((x.txReady == y.txReady) && (decide (x.txData = y.txData) && (decide (x.txLeft = y.txLeft) && decide (x.out = y.out))))))))) := by kernel_rfl
  rw [h]
  cases x; cases y; rw [Option.some.injEq, Bool.eq_iff_iff]; simp
theorem ents_ok : EntsOk Tryz.prog ents := ⟨⟨(cInt_ok .i64), (fun x => by kernel_rfl), (fun x => List.all_eq_true.1 (show (((cInt .i64) : Cdc U _).enc x).all plainC = true by kernel_rfl)), (fun f g h => by cases h), (fun d h cd x y => by cases h; exact eqT_int cd (by kernel_rfl) x y)⟩, ⟨cBool_ok, (fun x => by kernel_rfl), (fun x => List.all_eq_true.1 (show ((cBool : Cdc U _).enc x).all plainC = true by kernel_rfl)), (fun f g h => by cases h), (fun d h cd x y => by cases h; exact eqT_bool cd (by kernel_rfl) x y)⟩, ⟨(cInt_ok .u8), (fun x => by kernel_rfl), (fun x => List.all_eq_true.1 (show (((cInt .u8) : Cdc U _).enc x).all plainC = true by kernel_rfl)), (fun f g h => by simp only [Option.some.injEq, Prod.mk.injEq] at h; obtain ⟨rfl, rfl⟩ := h; exact ⟨by kernel_rfl, fun _ => rfl, fun _ => rfl⟩), (fun d h cd x y => by cases h; exact eqT_int cd (by kernel_rfl) x y)⟩, ⟨cStr_ok, (fun x => by kernel_rfl), (fun x => List.all_eq_true.1 (show ((cStr : Cdc U _).enc x).all plainC = true by kernel_rfl)), (fun f g h => by cases h), (fun d h cd x y => by cases h; exact eqT_string cd (by kernel_rfl) x y)⟩, ⟨cPage_ok, (fun x => by kernel_rfl), (fun x => List.all_eq_true.1 (show ((cPage : Cdc U _).enc x).all plainC = true by kernel_rfl)), (fun f g h => by cases h), (fun d h cd x y => by cases h; exact eqSPage cd x y)⟩, ⟨cLine_ok, (fun x => by kernel_rfl), (fun x => List.all_eq_true.1 (show ((cLine : Cdc U _).enc x).all plainC = true by kernel_rfl)), (fun f g h => by cases h), (fun d h cd x y => by cases h; exact eqSLine cd x y)⟩, trivial⟩
theorem cd_ok : CdOk Tryz.prog cd := cdOf_ok ents ents_ok glob
/-- emulator/octet.Put -/
structure Soctet_Put_0 where
  t0 : Int
  t12 : Int
  t13 : Int
  b0 : (List Int)
noncomputable def Woctet_Put_0 (s : Soctet_Put_0) : Tree (Soctet_Put_0 ⊕ (List Int)) :=
  .ite (decide (s.t13 < s.t12))
    (.ite (decide (0 ≤ (IntKind.wrap .i64 ((8 : Int) * s.t13))))
      (.ite (decide (0 ≤ s.t13))
        (.ite (decide (s.t13 < (s.b0.length : Int)))
          (.opt Int (s.b0[(s.t13).toNat]?) fun y1 =>
            .leaf (.inl (Soctet_Put_0.mk s.t0 s.t12 (IntKind.wrap .i64 (s.t13 + (1 : Int))) (s.b0.set ((s.t13).toNat) (IntKind.wrap .u8 (((if (0 : Int) > s.t0 then (0 : Int) else s.t0)).fdiv (2 ^ (min ((IntKind.wrap .i64 ((8 : Int) * s.t13))).toNat 64))))))))
          .fail)
        .fail)
      .fail)
    (.leaf (.inr s.b0))
noncomputable def Loctet_Put_0 (q : Option Nat) (s : Soctet_Put_0) : Option (List Int) := limQ q (fun s => (Woctet_Put_0 s).run) s
noncomputable def Toctet_Put (q : Option Nat) (x0 : Int) (x1 : Int) : Tree (List UInt8) :=
  .ite (decide ((if (if (8 : Int) < x1 then (8 : Int) else x1) > (0 : Int) then (if (8 : Int) < x1 then (8 : Int) else x1) else (0 : Int)) = (if (if (8 : Int) < x1 then (8 : Int) else x1) > (0 : Int) then (if (8 : Int) < x1 then (8 : Int) else x1) else (0 : Int))))
    (.ite (decide (0 ≤ (if (if (8 : Int) < x1 then (8 : Int) else x1) > (0 : Int) then (if (8 : Int) < x1 then (8 : Int) else x1) else (0 : Int))))
      (.ite (decide ((1 : Int) * (if (if (8 : Int) < x1 then (8 : Int) else x1) > (0 : Int) then (if (8 : Int) < x1 then (8 : Int) else x1) else (0 : Int)) ≤ 281474976710656))
        (.opt (List Int) (Loctet_Put_0 q (Soctet_Put_0.mk x0 ((List.replicate ((if (if (8 : Int) < x1 then (8 : Int) else x1) > (0 : Int) then (if (8 : Int) < x1 then (8 : Int) else x1) else (0 : Int))).toNat (0 : Int)).length : Int) (0 : Int) (List.replicate ((if (if (8 : Int) < x1 then (8 : Int) else x1) > (0 : Int) then (if (8 : Int) < x1 then (8 : Int) else x1) else (0 : Int))).toNat (0 : Int)))) fun l2 =>
          .leaf (l2.map fun x => UInt8.ofNat x.toNat))
        .fail)
      .fail)
    .fail
noncomputable def octet_Put (q : Option Nat) (x0 : Int) (x1 : Int) : Option (List UInt8) := (Toctet_Put q x0 x1).run
noncomputable def Aoctet_Put : Arg U (Int × Int × Unit) := aO (cInt .i64) (aO (cInt .i64) (aNil))
noncomputable def Roctet_Put (r : (List UInt8)) : List (V U) × List (Blk U) := ([vO cStr r], [])
noncomputable def Soctet_Put : List (V U) → List (Blk U) → Option (FnOut U) := mkSpec Aoctet_Put bNil (fun x _ => octet_Put none x.1 x.2.1) Roctet_Put
noncomputable def Poctet_Put_0 (x : (Int × Unit) × (Unit) × (Int × Unit) × (Int × Unit) × Unit) (g : (List Int) × Unit) : Soctet_Put_0 := Soctet_Put_0.mk x.1.1 x.2.2.1.1 x.2.2.2.1.1 g.1
noncomputable def tAoctet_Put_0 : Tms U ((Int × Unit) × (Unit) × (Int × Unit) × (Int × Unit) × Unit) := tO 0 (cPair (cInt .i64) (cUnit)) (tO 5 (cK (.row 0 0) (cUnit)) (tO 12 (cPair (cInt .i64) (cUnit)) (tO 13 (cPair (cInt .i64) (cUnit)) (tNil))))
noncomputable def tBoctet_Put_0 : Bls U ((List Int) × Unit) := bRv 5 0 (bNil)
noncomputable def eSoctet_Put_0 (s : Soctet_Put_0) : St U := { tm := [(0, .v (vO (cPair (cInt .i64) (cUnit)) (s.t0, ()))), (5, .v (vO (cK (.row 0 0) (cUnit)) (()))), (12, .v (vO (cPair (cInt .i64) (cUnit)) (s.t12, ()))), (13, .v (vO (cPair (cInt .i64) (cUnit)) (s.t13, ())))], hp := [.row 5 0 s.b0] }
noncomputable def xSoctet_Put_0 (r : (List Int)) : Ex × St U := (.exit 0, { tm := [(5, .v (vO (cK (.row 0 0) (cUnit)) (())))], hp := [.row 5 0 r] })
noncomputable def xToctet_Put_0 (r : (List Int)) : Tree (Ex × St U) := .leaf (xSoctet_Put_0 r)
noncomputable def hoctet_Put_0 : Hd := { keep := [0, 5, 12, 13], xkeep := [4, 5], own := false }
noncomputable def Eoctet_Put : Env U := { P := Tryz.prog, cd := cd, fns := noF, lps := (addL 0 hoctet_Put_0 (mkLoop tAoctet_Put_0 tBoctet_Put_0 Poctet_Put_0 (Loctet_Put_0 none) xToctet_Put_0) noL), frz := fun _r => false, nt := 28, n0 := 0 }
noncomputable def Boctet_Put_0 : Code := (loopAt (Tryz.f45.body.getD .skip) 0 0).getD .skip
theorem roundoctet_Put_0 (s : Soctet_Put_0) : round Eoctet_Put hoctet_Put_0 Boctet_Put_0 0 (eSoctet_Put_0 s) = (Woctet_Put_0 s).map (sumE eSoctet_Put_0 xSoctet_Put_0) := by kernel_rfl
theorem lpoctet_Put_0 : LpOk Eoctet_Put Boctet_Put_0 0 := mkLoop_ok (A := tAoctet_Put_0) (B := tBoctet_Put_0) (f := Poctet_Put_0) (L := Loctet_Put_0 none) (tO_ok (cPair_ok (cInt_ok .i64) cUnit_ok) (tO_ok (cK_ok cUnit_ok) (tO_ok (cPair_ok (cInt_ok .i64) cUnit_ok) (tO_ok (cPair_ok (cInt_ok .i64) cUnit_ok) tNil_ok)))) (bRv_ok bNil_ok) (enc := eSoctet_Put_0) (out := xToctet_Put_0) (outS := xSoctet_Put_0) (step := Woctet_Put_0) (fun _ => rfl) (fun _ _ => by kernel_rfl) (by kernel_rfl) (fun _ => rfl) roundoctet_Put_0
theorem runoctet_Put (x : Int × Int × Unit) (g : Unit) : execF Eoctet_Put Tryz.f45 (Aoctet_Put.enc x) (bNil.enc g) = (Toctet_Put none x.1 x.2.1).map Roctet_Put := by kernel_rfl
theorem okoctet_Put : FnOk Tryz.prog cd 45 Soctet_Put := mk_ok (E := Eoctet_Put) cd_ok noF_ok Tryz.func45 (by kernel_rfl) (loops_of (addL_ok lpoctet_Put_0 noL_ok)) (aO_ok (cInt_ok .i64) (aO_ok (cInt_ok .i64) (aNil_ok))) bNil_ok (T := fun x _ => Toctet_Put none x.1 x.2.1) (fun _ _ => rfl) runoctet_Put
noncomputable def fns45 := addF 45 true Soctet_Put noF
theorem fns45_ok : ∀ f q t, fns45 f = some (q, t) → FnOk Tryz.prog cd f t := addF_ok okoctet_Put noF_ok
/-- emulator/octet.sum -/
structure Soctet_sum_2 where
  t3 : Int
  t5 : (List UInt8)
  t8 : (List (List UInt8))
  t9 : Int
  t10 : Int
  t15 : Int
  t16 : Int
  t25 : Int
noncomputable def Woctet_sum_2 (s : Soctet_sum_2) : Tree (Soctet_sum_2 ⊕ (Int × (List UInt8) × (List (List UInt8)) × Int × Int × Int × Int)) :=
  .ite (decide (s.t25 < (8 : Int)))
    (.ite (decide (0 ≤ (1 : Int)))
      (.leaf (.inl (Soctet_sum_2.mk (IntKind.wrap .u32 (((BitVec.ofInt 32 ((s.t3).fdiv (2 ^ (min ((1 : Int)).toNat 32))) ^^^ BitVec.ofInt 32 (IntKind.wrap .u32 ((IntKind.wrap .u32 (((BitVec.ofInt 32 s.t3 &&& BitVec.ofInt 32 (1 : Int)).toNat : Int))) * (3988292384 : Int)))).toNat : Int))) s.t5 s.t8 s.t9 s.t10 s.t15 s.t16 (IntKind.wrap .i64 (s.t25 + (1 : Int))))))
      .fail)
    (.leaf (.inr (s.t3, s.t5, s.t8, s.t9, s.t10, s.t15, s.t16)))
noncomputable def Loctet_sum_2 (q : Option Nat) (s : Soctet_sum_2) : Option (Int × (List UInt8) × (List (List UInt8)) × Int × Int × Int × Int) := limQ q (fun s => (Woctet_sum_2 s).run) s
structure Soctet_sum_1 where
  t3 : Int
  t5 : (List UInt8)
  t8 : (List (List UInt8))
  t9 : Int
  t10 : Int
  t15 : Int
  t16 : Int
noncomputable def Woctet_sum_1 (q : Option Nat) (s : Soctet_sum_1) : Tree (Soctet_sum_1 ⊕ (Int × (List (List UInt8)) × Int × Int)) :=
  .ite (decide (s.t16 < s.t15))
    (.ite (decide (0 ≤ s.t16))
      (.opt UInt8 (s.t5[(s.t16).toNat]?) fun y4 =>
        .opt (Int × (List UInt8) × (List (List UInt8)) × Int × Int × Int × Int) (Loctet_sum_2 q (Soctet_sum_2.mk (IntKind.wrap .u32 (((BitVec.ofInt 32 s.t3 ^^^ BitVec.ofInt 32 (IntKind.wrap .u32 (y4.toNat : Int))).toNat : Int))) s.t5 s.t8 s.t9 s.t10 s.t15 s.t16 (0 : Int))) fun l5 =>
          .leaf (.inl (Soctet_sum_1.mk l5.1 l5.2.1 l5.2.2.1 l5.2.2.2.1 l5.2.2.2.2.1 l5.2.2.2.2.2.1 (IntKind.wrap .i64 (l5.2.2.2.2.2.2 + (1 : Int))))))
      .fail)
    (.leaf (.inr (s.t3, s.t8, s.t9, s.t10)))
noncomputable def Loctet_sum_1 (q : Option Nat) (s : Soctet_sum_1) : Option (Int × (List (List UInt8)) × Int × Int) := limQ q (fun s => (Woctet_sum_1 q s).run) s
structure Soctet_sum_0 where
  t3 : Int
  t8 : (List (List UInt8))
  t9 : Int
  t10 : Int
noncomputable def Woctet_sum_0 (q : Option Nat) (s : Soctet_sum_0) : Tree (Soctet_sum_0 ⊕ Int) :=
  .ite (decide (s.t10 < s.t9))
    (.ite (decide (0 ≤ s.t10))
      (.opt (List UInt8) (s.t8[(s.t10).toNat]?) fun y3 =>
        .opt (Int × (List (List UInt8)) × Int × Int) (Loctet_sum_1 q (Soctet_sum_1.mk s.t3 y3 s.t8 s.t9 s.t10 (y3.length : Int) (0 : Int))) fun l6 =>
          .leaf (.inl (Soctet_sum_0.mk l6.1 l6.2.1 l6.2.2.1 (IntKind.wrap .i64 (l6.2.2.2 + (1 : Int))))))
      .fail)
    (.leaf (.inr s.t3))
noncomputable def Loctet_sum_0 (q : Option Nat) (s : Soctet_sum_0) : Option Int := limQ q (fun s => (Woctet_sum_0 q s).run) s
noncomputable def Toctet_sum (q : Option Nat) (x0 : (List (List UInt8))) : Tree Int :=
  .opt Int (Loctet_sum_0 q (Soctet_sum_0.mk (4294967295 : Int) x0 (x0.length : Int) (0 : Int))) fun l7 =>
    .leaf (IntKind.wrap .i64 (IntKind.wrap .u32 ((BitVec.ofInt 32 4294967295 ^^^ BitVec.ofInt 32 l7).toNat : Int)))
noncomputable def octet_sum (q : Option Nat) (x0 : (List (List UInt8))) : Option Int := (Toctet_sum q x0).run
noncomputable def Aoctet_sum : Arg U ((List (List UInt8)) × Unit) := aO (cSl 9) (aNil)
noncomputable def Roctet_sum (r : Int) : List (V U) × List (Blk U) := ([vO (cInt .i64) r], [])
noncomputable def Soctet_sum : List (V U) → List (Blk U) → Option (FnOut U) := mkSpec Aoctet_sum bNil (fun x _ => octet_sum none x.1) Roctet_sum
noncomputable def Poctet_sum_0 (x : (Int × Unit) × ((List (List UInt8)) × Unit) × (Int × Unit) × (Int × Unit) × Unit) (_g : Unit) : Soctet_sum_0 := Soctet_sum_0.mk x.1.1 x.2.1.1 x.2.2.1.1 x.2.2.2.1.1
noncomputable def tAoctet_sum_0 : Tms U ((Int × Unit) × ((List (List UInt8)) × Unit) × (Int × Unit) × (Int × Unit) × Unit) := tO 3 (cPair (cInt .u32) (cUnit)) (tO 8 (cPair (cSl 9) (cUnit)) (tO 9 (cPair (cInt .i64) (cUnit)) (tO 10 (cPair (cInt .i64) (cUnit)) (tNil))))
noncomputable def tBoctet_sum_0 : Bls U (Unit) := bNil
noncomputable def eSoctet_sum_0 (s : Soctet_sum_0) : St U := { tm := [(3, .v (vO (cPair (cInt .u32) (cUnit)) (s.t3, ()))), (8, .v (vO (cPair (cSl 9) (cUnit)) (s.t8, ()))), (9, .v (vO (cPair (cInt .i64) (cUnit)) (s.t9, ()))), (10, .v (vO (cPair (cInt .i64) (cUnit)) (s.t10, ())))], hp := [] }
noncomputable def xSoctet_sum_0 (r : Int) : Ex × St U := (.exit 0, { tm := [(3, .v (vO (cPair (cInt .u32) (cUnit)) (r, ())))], hp := [] })
noncomputable def xToctet_sum_0 (r : Int) : Tree (Ex × St U) := .leaf (xSoctet_sum_0 r)
noncomputable def hoctet_sum_0 : Hd := { keep := [3, 8, 9, 10], xkeep := [2, 3], own := false }
noncomputable def Poctet_sum_1 (x : (Int × Unit) × ((List UInt8) × Unit) × ((List (List UInt8)) × Unit) × (Int × Unit) × (Int × Unit) × (Int × Unit) × (Int × Unit) × Unit) (_g : Unit) : Soctet_sum_1 := Soctet_sum_1.mk x.1.1 x.2.1.1 x.2.2.1.1 x.2.2.2.1.1 x.2.2.2.2.1.1 x.2.2.2.2.2.1.1 x.2.2.2.2.2.2.1.1
noncomputable def tAoctet_sum_1 : Tms U ((Int × Unit) × ((List UInt8) × Unit) × ((List (List UInt8)) × Unit) × (Int × Unit) × (Int × Unit) × (Int × Unit) × (Int × Unit) × Unit) := tO 3 (cPair (cInt .u32) (cUnit)) (tO 5 (cPair cStr (cUnit)) (tO 8 (cPair (cSl 9) (cUnit)) (tO 9 (cPair (cInt .i64) (cUnit)) (tO 10 (cPair (cInt .i64) (cUnit)) (tO 15 (cPair (cInt .i64) (cUnit)) (tO 16 (cPair (cInt .i64) (cUnit)) (tNil)))))))
noncomputable def tBoctet_sum_1 : Bls U (Unit) := bNil
noncomputable def eSoctet_sum_1 (s : Soctet_sum_1) : St U := { tm := [(3, .v (vO (cPair (cInt .u32) (cUnit)) (s.t3, ()))), (5, .v (vO (cPair cStr (cUnit)) (s.t5, ()))), (8, .v (vO (cPair (cSl 9) (cUnit)) (s.t8, ()))), (9, .v (vO (cPair (cInt .i64) (cUnit)) (s.t9, ()))), (10, .v (vO (cPair (cInt .i64) (cUnit)) (s.t10, ()))), (15, .v (vO (cPair (cInt .i64) (cUnit)) (s.t15, ()))), (16, .v (vO (cPair (cInt .i64) (cUnit)) (s.t16, ())))], hp := [] }
noncomputable def xSoctet_sum_1 (r : (Int × (List (List UInt8)) × Int × Int)) : Ex × St U := (.exit 2, { tm := [(3, .v (vO (cPair (cInt .u32) (cUnit)) (r.1, ()))), (8, .v (vO (cPair (cSl 9) (cUnit)) (r.2.1, ()))), (9, .v (vO (cPair (cInt .i64) (cUnit)) (r.2.2.1, ()))), (10, .v (vO (cPair (cInt .i64) (cUnit)) (r.2.2.2, ())))], hp := [] })
noncomputable def xToctet_sum_1 (r : (Int × (List (List UInt8)) × Int × Int)) : Tree (Ex × St U) := .leaf (xSoctet_sum_1 r)
noncomputable def hoctet_sum_1 : Hd := { keep := [3, 5, 8, 9, 10, 15, 16], xkeep := [2, 3, 8, 9, 10], own := false }
noncomputable def Poctet_sum_2 (x : (Int × Unit) × ((List UInt8) × Unit) × ((List (List UInt8)) × Unit) × (Int × Unit) × (Int × Unit) × (Int × Unit) × (Int × Unit) × (Int × Unit) × Unit) (_g : Unit) : Soctet_sum_2 := Soctet_sum_2.mk x.1.1 x.2.1.1 x.2.2.1.1 x.2.2.2.1.1 x.2.2.2.2.1.1 x.2.2.2.2.2.1.1 x.2.2.2.2.2.2.1.1 x.2.2.2.2.2.2.2.1.1
noncomputable def tAoctet_sum_2 : Tms U ((Int × Unit) × ((List UInt8) × Unit) × ((List (List UInt8)) × Unit) × (Int × Unit) × (Int × Unit) × (Int × Unit) × (Int × Unit) × (Int × Unit) × Unit) := tO 3 (cPair (cInt .u32) (cUnit)) (tO 5 (cPair cStr (cUnit)) (tO 8 (cPair (cSl 9) (cUnit)) (tO 9 (cPair (cInt .i64) (cUnit)) (tO 10 (cPair (cInt .i64) (cUnit)) (tO 15 (cPair (cInt .i64) (cUnit)) (tO 16 (cPair (cInt .i64) (cUnit)) (tO 25 (cPair (cInt .i64) (cUnit)) (tNil))))))))
noncomputable def tBoctet_sum_2 : Bls U (Unit) := bNil
noncomputable def eSoctet_sum_2 (s : Soctet_sum_2) : St U := { tm := [(3, .v (vO (cPair (cInt .u32) (cUnit)) (s.t3, ()))), (5, .v (vO (cPair cStr (cUnit)) (s.t5, ()))), (8, .v (vO (cPair (cSl 9) (cUnit)) (s.t8, ()))), (9, .v (vO (cPair (cInt .i64) (cUnit)) (s.t9, ()))), (10, .v (vO (cPair (cInt .i64) (cUnit)) (s.t10, ()))), (15, .v (vO (cPair (cInt .i64) (cUnit)) (s.t15, ()))), (16, .v (vO (cPair (cInt .i64) (cUnit)) (s.t16, ()))), (25, .v (vO (cPair (cInt .i64) (cUnit)) (s.t25, ())))], hp := [] }
noncomputable def xSoctet_sum_2 (r : (Int × (List UInt8) × (List (List UInt8)) × Int × Int × Int × Int)) : Ex × St U := (.exit 4, { tm := [(3, .v (vO (cPair (cInt .u32) (cUnit)) (r.1, ()))), (5, .v (vO (cPair cStr (cUnit)) (r.2.1, ()))), (8, .v (vO (cPair (cSl 9) (cUnit)) (r.2.2.1, ()))), (9, .v (vO (cPair (cInt .i64) (cUnit)) (r.2.2.2.1, ()))), (10, .v (vO (cPair (cInt .i64) (cUnit)) (r.2.2.2.2.1, ()))), (15, .v (vO (cPair (cInt .i64) (cUnit)) (r.2.2.2.2.2.1, ()))), (16, .v (vO (cPair (cInt .i64) (cUnit)) (r.2.2.2.2.2.2, ())))], hp := [] })
noncomputable def xToctet_sum_2 (r : (Int × (List UInt8) × (List (List UInt8)) × Int × Int × Int × Int)) : Tree (Ex × St U) := .leaf (xSoctet_sum_2 r)
noncomputable def hoctet_sum_2 : Hd := { keep := [3, 5, 8, 9, 10, 15, 16, 25], xkeep := [2, 3, 5, 8, 9, 10, 15, 16], own := false }
noncomputable def Eoctet_sum : Env U := { P := Tryz.prog, cd := cd, fns := fns45, lps := (addL 0 hoctet_sum_0 (mkLoop tAoctet_sum_0 tBoctet_sum_0 Poctet_sum_0 (Loctet_sum_0 none) xToctet_sum_0) (addL 1 hoctet_sum_1 (mkLoop tAoctet_sum_1 tBoctet_sum_1 Poctet_sum_1 (Loctet_sum_1 none) xToctet_sum_1) (addL 2 hoctet_sum_2 (mkLoop tAoctet_sum_2 tBoctet_sum_2 Poctet_sum_2 (Loctet_sum_2 none) xToctet_sum_2) noL))), frz := fun _r => false, nt := 41, n0 := 0 }
noncomputable def Boctet_sum_0 : Code := (loopAt (Tryz.f46.body.getD .skip) 0 0).getD .skip
theorem roundoctet_sum_0 (s : Soctet_sum_0) : round Eoctet_sum hoctet_sum_0 Boctet_sum_0 0 (eSoctet_sum_0 s) = (Woctet_sum_0 none s).map (sumE eSoctet_sum_0 xSoctet_sum_0) := by kernel_rfl
theorem lpoctet_sum_0 : LpOk Eoctet_sum Boctet_sum_0 0 := mkLoop_ok (A := tAoctet_sum_0) (B := tBoctet_sum_0) (f := Poctet_sum_0) (L := Loctet_sum_0 none) (tO_ok (cPair_ok (cInt_ok .u32) cUnit_ok) (tO_ok (cPair_ok (cSl_ok 9) cUnit_ok) (tO_ok (cPair_ok (cInt_ok .i64) cUnit_ok) (tO_ok (cPair_ok (cInt_ok .i64) cUnit_ok) tNil_ok)))) bNil_ok (enc := eSoctet_sum_0) (out := xToctet_sum_0) (outS := xSoctet_sum_0) (step := Woctet_sum_0 none) (fun _ => rfl) (fun _ _ => by kernel_rfl) (by kernel_rfl) (fun _ => rfl) roundoctet_sum_0
noncomputable def Boctet_sum_1 : Code := (loopAt (Tryz.f46.body.getD .skip) 0 1).getD .skip
theorem roundoctet_sum_1 (s : Soctet_sum_1) : round Eoctet_sum hoctet_sum_1 Boctet_sum_1 1 (eSoctet_sum_1 s) = (Woctet_sum_1 none s).map (sumE eSoctet_sum_1 xSoctet_sum_1) := by kernel_rfl
theorem lpoctet_sum_1 : LpOk Eoctet_sum Boctet_sum_1 1 := mkLoop_ok (A := tAoctet_sum_1) (B := tBoctet_sum_1) (f := Poctet_sum_1) (L := Loctet_sum_1 none) (tO_ok (cPair_ok (cInt_ok .u32) cUnit_ok) (tO_ok (cPair_ok cStr_ok cUnit_ok) (tO_ok (cPair_ok (cSl_ok 9) cUnit_ok) (tO_ok (cPair_ok (cInt_ok .i64) cUnit_ok) (tO_ok (cPair_ok (cInt_ok .i64) cUnit_ok) (tO_ok (cPair_ok (cInt_ok .i64) cUnit_ok) (tO_ok (cPair_ok (cInt_ok .i64) cUnit_ok) tNil_ok))))))) bNil_ok (enc := eSoctet_sum_1) (out := xToctet_sum_1) (outS := xSoctet_sum_1) (step := Woctet_sum_1 none) (fun _ => rfl) (fun _ _ => by kernel_rfl) (by kernel_rfl) (fun _ => rfl) roundoctet_sum_1
noncomputable def Boctet_sum_2 : Code := (loopAt (Tryz.f46.body.getD .skip) 0 2).getD .skip
theorem roundoctet_sum_2 (s : Soctet_sum_2) : round Eoctet_sum hoctet_sum_2 Boctet_sum_2 2 (eSoctet_sum_2 s) = (Woctet_sum_2 s).map (sumE eSoctet_sum_2 xSoctet_sum_2) := by kernel_rfl
theorem lpoctet_sum_2 : LpOk Eoctet_sum Boctet_sum_2 2 := mkLoop_ok (A := tAoctet_sum_2) (B := tBoctet_sum_2) (f := Poctet_sum_2) (L := Loctet_sum_2 none) (tO_ok (cPair_ok (cInt_ok .u32) cUnit_ok) (tO_ok (cPair_ok cStr_ok cUnit_ok) (tO_ok (cPair_ok (cSl_ok 9) cUnit_ok) (tO_ok (cPair_ok (cInt_ok .i64) cUnit_ok) (tO_ok (cPair_ok (cInt_ok .i64) cUnit_ok) (tO_ok (cPair_ok (cInt_ok .i64) cUnit_ok) (tO_ok (cPair_ok (cInt_ok .i64) cUnit_ok) (tO_ok (cPair_ok (cInt_ok .i64) cUnit_ok) tNil_ok)))))))) bNil_ok (enc := eSoctet_sum_2) (out := xToctet_sum_2) (outS := xSoctet_sum_2) (step := Woctet_sum_2) (fun _ => rfl) (fun _ _ => by kernel_rfl) (by kernel_rfl) (fun _ => rfl) roundoctet_sum_2
theorem runoctet_sum (x : (List (List UInt8)) × Unit) (g : Unit) : execF Eoctet_sum Tryz.f46 (Aoctet_sum.enc x) (bNil.enc g) = (Toctet_sum none x.1).map Roctet_sum := by kernel_rfl
theorem okoctet_sum : FnOk Tryz.prog cd 46 Soctet_sum := mk_ok (E := Eoctet_sum) cd_ok fns45_ok Tryz.func46 (by kernel_rfl) (loops_of (addL_ok lpoctet_sum_0 (addL_ok lpoctet_sum_1 (addL_ok lpoctet_sum_2 noL_ok)))) (aO_ok (cSl_ok 9) (aNil_ok)) bNil_ok (T := fun x _ => Toctet_sum none x.1) (fun _ _ => rfl) runoctet_sum
noncomputable def fns46 := addF 46 true Soctet_sum fns45
theorem fns46_ok : ∀ f q t, fns46 f = some (q, t) → FnOk Tryz.prog cd f t := addF_ok okoctet_sum fns45_ok
/-- emulator/octet.Open -/
noncomputable def Toctet_Open (q : Option Nat) (x0 : (List UInt8)) : Tree ((List UInt8) × Int) :=
  .ite (decide ((IntKind.wrap .i64 ((x0.length : Int) - (4 : Int))) < (0 : Int)))
    (.leaf ((([] : List UInt8), (8 : Int))))
    (.ite (decide (0 ≤ IntKind.wrap .i64 ((x0.length : Int) - (4 : Int))))
      (.ite (decide (IntKind.wrap .i64 ((x0.length : Int) - (4 : Int)) ≤ ((x0.length : Nat) : Int)))
        (.ite (decide (0 ≤ IntKind.wrap .i64 ((x0.length : Int) - (4 : Int))))
          (.ite (decide (IntKind.wrap .i64 ((x0.length : Int) - (4 : Int)) ≤ ((x0.length : Nat) : Int)))
            (.opt Int (octet_sum q ([(x0.drop (0)).take ((IntKind.wrap .i64 ((x0.length : Int) - (4 : Int))).toNat - 0)])) fun r8 =>
              .opt (List UInt8) (octet_Put q r8 (4 : Int)) fun r9 =>
                .ite (!decide (((x0.drop ((IntKind.wrap .i64 ((x0.length : Int) - (4 : Int))).toNat)).take (x0.length - (IntKind.wrap .i64 ((x0.length : Int) - (4 : Int))).toNat)) = r9))
                  (.leaf ((([] : List UInt8), (10 : Int))))
                  (.ite (decide (0 ≤ IntKind.wrap .i64 ((x0.length : Int) - (4 : Int))))
                    (.ite (decide (IntKind.wrap .i64 ((x0.length : Int) - (4 : Int)) ≤ ((x0.length : Nat) : Int)))
                      (.leaf (((x0.drop (0)).take ((IntKind.wrap .i64 ((x0.length : Int) - (4 : Int))).toNat - 0), (0 : Int))))
                      .fail)
                    .fail))
            .fail)
          .fail)
        .fail)
      .fail)
noncomputable def octet_Open (q : Option Nat) (x0 : (List UInt8)) : Option ((List UInt8) × Int) := (Toctet_Open q x0).run
noncomputable def Aoctet_Open : Arg U ((List UInt8) × Unit) := aO cStr (aNil)
noncomputable def Roctet_Open (r : ((List UInt8) × Int)) : List (V U) × List (Blk U) := ([vO cStr r.1, vO (cInt .i64) r.2], [])
noncomputable def Soctet_Open : List (V U) → List (Blk U) → Option (FnOut U) := mkSpec Aoctet_Open bNil (fun x _ => octet_Open none x.1) Roctet_Open
noncomputable def Eoctet_Open : Env U := { P := Tryz.prog, cd := cd, fns := (addF 46 false (frzSpec Soctet_sum) fns46), lps := noL, frz := fun _r => false, nt := 23, n0 := 0, fps := fun _r _i => bif Nat.beq _r 4 && Nat.beq _i 2 then .rd [] else bif Nat.beq _r 4 && Nat.beq _i 7 then .wr [0] 1 else .none }
theorem runoctet_Open (x : (List UInt8) × Unit) (g : Unit) : execF Eoctet_Open Tryz.f18 (Aoctet_Open.enc x) (bNil.enc g) = (Toctet_Open none x.1).map Roctet_Open := by kernel_rfl
theorem okoctet_Open : FnOk Tryz.prog cd 18 Soctet_Open := mk_ok (E := Eoctet_Open) cd_ok (addF_ok (fnOk_frz cd_ok (mkSpec_out fun _ => rfl) okoctet_sum) fns46_ok) Tryz.func18 (by kernel_rfl) (noLoops_body (by kernel_rfl)) (aO_ok cStr_ok (aNil_ok)) bNil_ok (T := fun x _ => Toctet_Open none x.1) (fun _ _ => rfl) runoctet_Open
noncomputable def fns18 := addF 18 true Soctet_Open fns46
theorem fns18_ok : ∀ f q t, fns18 f = some (q, t) → FnOk Tryz.prog cd f t := addF_ok okoctet_Open fns46_ok
/-- internal/stringslite.HasPrefix -/
noncomputable def Tinternal_stringslite_HasPrefix (x0 : (List UInt8)) (x1 : (List UInt8)) : Tree Bool :=
  .ite (decide ((x1.length : Int) ≤ (x0.length : Int)))
    (.ite (decide (0 ≤ (x1.length : Int)))
      (.ite (decide ((x1.length : Int) ≤ ((x0.length : Nat) : Int)))
        (.leaf (decide (((x0.drop (0)).take (((x1.length : Int)).toNat - 0)) = x1)))
        .fail)
      .fail)
    (.leaf (false))
noncomputable def internal_stringslite_HasPrefix (x0 : (List UInt8)) (x1 : (List UInt8)) : Option Bool := (Tinternal_stringslite_HasPrefix x0 x1).run
noncomputable def Ainternal_stringslite_HasPrefix : Arg U ((List UInt8) × (List UInt8) × Unit) := aO cStr (aO cStr (aNil))
noncomputable def Rinternal_stringslite_HasPrefix (r : Bool) : List (V U) × List (Blk U) := ([vO cBool r], [])
noncomputable def Sinternal_stringslite_HasPrefix : List (V U) → List (Blk U) → Option (FnOut U) := mkSpec Ainternal_stringslite_HasPrefix bNil (fun x _ => internal_stringslite_HasPrefix x.1 x.2.1) Rinternal_stringslite_HasPrefix
noncomputable def Einternal_stringslite_HasPrefix : Env U := { P := Tryz.prog, cd := cd, fns := fns18, lps := noL, frz := fun _r => false, nt := 18, n0 := 0 }
theorem runinternal_stringslite_HasPrefix (x : (List UInt8) × (List UInt8) × Unit) (g : Unit) : execF Einternal_stringslite_HasPrefix Tryz.f47 (Ainternal_stringslite_HasPrefix.enc x) (bNil.enc g) = (Tinternal_stringslite_HasPrefix x.1 x.2.1).map Rinternal_stringslite_HasPrefix := by kernel_rfl
theorem okinternal_stringslite_HasPrefix : FnOk Tryz.prog cd 47 Sinternal_stringslite_HasPrefix := mk_ok (E := Einternal_stringslite_HasPrefix) cd_ok fns18_ok Tryz.func47 (by kernel_rfl) (noLoops_body (by kernel_rfl)) (aO_ok cStr_ok (aO_ok cStr_ok (aNil_ok))) bNil_ok (T := fun x _ => Tinternal_stringslite_HasPrefix x.1 x.2.1) (fun _ _ => rfl) runinternal_stringslite_HasPrefix
noncomputable def fns47 := addF 47 true Sinternal_stringslite_HasPrefix fns18
theorem fns47_ok : ∀ f q t, fns47 f = some (q, t) → FnOk Tryz.prog cd f t := addF_ok okinternal_stringslite_HasPrefix fns18_ok
/-- strings.HasPrefix -/
noncomputable def Tstrings_HasPrefix (x0 : (List UInt8)) (x1 : (List UInt8)) : Tree Bool :=
  .opt Bool (internal_stringslite_HasPrefix x0 x1) fun r10 =>
    .leaf (r10)
noncomputable def strings_HasPrefix (x0 : (List UInt8)) (x1 : (List UInt8)) : Option Bool := (Tstrings_HasPrefix x0 x1).run
noncomputable def Astrings_HasPrefix : Arg U ((List UInt8) × (List UInt8) × Unit) := aO cStr (aO cStr (aNil))
noncomputable def Rstrings_HasPrefix (r : Bool) : List (V U) × List (Blk U) := ([vO cBool r], [])
noncomputable def Sstrings_HasPrefix : List (V U) → List (Blk U) → Option (FnOut U) := mkSpec Astrings_HasPrefix bNil (fun x _ => strings_HasPrefix x.1 x.2.1) Rstrings_HasPrefix
noncomputable def Estrings_HasPrefix : Env U := { P := Tryz.prog, cd := cd, fns := fns47, lps := noL, frz := fun _r => false, nt := 8, n0 := 0 }
theorem runstrings_HasPrefix (x : (List UInt8) × (List UInt8) × Unit) (g : Unit) : execF Estrings_HasPrefix Tryz.f19 (Astrings_HasPrefix.enc x) (bNil.enc g) = (Tstrings_HasPrefix x.1 x.2.1).map Rstrings_HasPrefix := by kernel_rfl
theorem okstrings_HasPrefix : FnOk Tryz.prog cd 19 Sstrings_HasPrefix := mk_ok (E := Estrings_HasPrefix) cd_ok fns47_ok Tryz.func19 (by kernel_rfl) (noLoops_body (by kernel_rfl)) (aO_ok cStr_ok (aO_ok cStr_ok (aNil_ok))) bNil_ok (T := fun x _ => Tstrings_HasPrefix x.1 x.2.1) (fun _ _ => rfl) runstrings_HasPrefix
noncomputable def fns19 := addF 19 true Sstrings_HasPrefix fns47
theorem fns19_ok : ∀ f q t, fns19 f = some (q, t) → FnOk Tryz.prog cd f t := addF_ok okstrings_HasPrefix fns47_ok
/-- emulator/octet.Get -/
structure Soctet_Get_0 where
  t0 : (List UInt8)
  t1 : Int
  t2 : Int
  t9 : Int
  t10 : Int
noncomputable def Woctet_Get_0 (s : Soctet_Get_0) : Tree (Soctet_Get_0 ⊕ (Int × Int × Int)) :=
  .ite (decide ((0 : Int) ≤ s.t10))
    (.ite (decide (0 ≤ (8 : Int)))
      (.ite (decide (0 ≤ IntKind.wrap .i64 (s.t1 + s.t10)))
        (.opt UInt8 (s.t0[(IntKind.wrap .i64 (s.t1 + s.t10)).toNat]?) fun y11 =>
          .leaf (.inl (Soctet_Get_0.mk s.t0 s.t1 s.t2 (IntKind.wrap .i64 (((BitVec.ofInt 64 (IntKind.wrap .i64 (s.t9 * 2 ^ (min ((8 : Int)).toNat 64))) ||| BitVec.ofInt 64 (IntKind.wrap .i64 (y11.toNat : Int))).toNat : Int))) (IntKind.wrap .i64 (s.t10 - (1 : Int))))))
        .fail)
      .fail)
    (.leaf (.inr (s.t1, s.t2, s.t9)))
noncomputable def Loctet_Get_0 (q : Option Nat) (s : Soctet_Get_0) : Option (Int × Int × Int) := limQ q (fun s => (Woctet_Get_0 s).run) s
noncomputable def Toctet_Get (q : Option Nat) (x0 : (List UInt8)) (x1 : Int) (x2 : Int) : Tree (Int × Int × Int) :=
  .ite (decide (x2 < (1 : Int)))
    (.leaf (((0 : Int), (0 : Int), (1 : Int))))
    (.ite (decide ((7 : Int) < x2))
      (.leaf (((0 : Int), (0 : Int), (1 : Int))))
      (.ite (decide (x1 < (0 : Int)))
        (.leaf (((0 : Int), (0 : Int), (1 : Int))))
        (.ite (decide ((x0.length : Int) < x1))
          (.leaf (((0 : Int), (0 : Int), (1 : Int))))
          (.ite (decide ((IntKind.wrap .i64 ((x0.length : Int) - x1)) < x2))
            (.leaf (((0 : Int), (0 : Int), (8 : Int))))
            (.opt (Int × Int × Int) (Loctet_Get_0 q (Soctet_Get_0.mk x0 x1 x2 (0 : Int) (IntKind.wrap .i64 (x2 - (1 : Int))))) fun l12 =>
              .leaf ((l12.2.2, IntKind.wrap .i64 (l12.1 + l12.2.1), (0 : Int))))))))
noncomputable def octet_Get (q : Option Nat) (x0 : (List UInt8)) (x1 : Int) (x2 : Int) : Option (Int × Int × Int) := (Toctet_Get q x0 x1 x2).run
noncomputable def Aoctet_Get : Arg U ((List UInt8) × Int × Int × Unit) := aO cStr (aO (cInt .i64) (aO (cInt .i64) (aNil)))
noncomputable def Roctet_Get (r : (Int × Int × Int)) : List (V U) × List (Blk U) := ([vO (cInt .i64) r.1, vO (cInt .i64) r.2.1, vO (cInt .i64) r.2.2], [])
noncomputable def Soctet_Get : List (V U) → List (Blk U) → Option (FnOut U) := mkSpec Aoctet_Get bNil (fun x _ => octet_Get none x.1 x.2.1 x.2.2.1) Roctet_Get
noncomputable def Poctet_Get_0 (x : ((List UInt8) × Unit) × (Int × Unit) × (Int × Unit) × (Int × Unit) × (Int × Unit) × Unit) (_g : Unit) : Soctet_Get_0 := Soctet_Get_0.mk x.1.1 x.2.1.1 x.2.2.1.1 x.2.2.2.1.1 x.2.2.2.2.1.1
noncomputable def tAoctet_Get_0 : Tms U (((List UInt8) × Unit) × (Int × Unit) × (Int × Unit) × (Int × Unit) × (Int × Unit) × Unit) := tO 0 (cPair cStr (cUnit)) (tO 1 (cPair (cInt .i64) (cUnit)) (tO 2 (cPair (cInt .i64) (cUnit)) (tO 9 (cPair (cInt .i64) (cUnit)) (tO 10 (cPair (cInt .i64) (cUnit)) (tNil)))))
noncomputable def tBoctet_Get_0 : Bls U (Unit) := bNil
noncomputable def eSoctet_Get_0 (s : Soctet_Get_0) : St U := { tm := [(0, .v (vO (cPair cStr (cUnit)) (s.t0, ()))), (1, .v (vO (cPair (cInt .i64) (cUnit)) (s.t1, ()))), (2, .v (vO (cPair (cInt .i64) (cUnit)) (s.t2, ()))), (9, .v (vO (cPair (cInt .i64) (cUnit)) (s.t9, ()))), (10, .v (vO (cPair (cInt .i64) (cUnit)) (s.t10, ())))], hp := [] }
noncomputable def xSoctet_Get_0 (r : (Int × Int × Int)) : Ex × St U := (.exit 0, { tm := [(1, .v (vO (cPair (cInt .i64) (cUnit)) (r.1, ()))), (2, .v (vO (cPair (cInt .i64) (cUnit)) (r.2.1, ()))), (9, .v (vO (cPair (cInt .i64) (cUnit)) (r.2.2, ())))], hp := [] })
noncomputable def xToctet_Get_0 (r : (Int × Int × Int)) : Tree (Ex × St U) := .leaf (xSoctet_Get_0 r)
noncomputable def hoctet_Get_0 : Hd := { keep := [0, 1, 2, 9, 10], xkeep := [1, 2, 6, 7, 8, 9], own := false }
noncomputable def Eoctet_Get : Env U := { P := Tryz.prog, cd := cd, fns := fns19, lps := (addL 0 hoctet_Get_0 (mkLoop tAoctet_Get_0 tBoctet_Get_0 Poctet_Get_0 (Loctet_Get_0 none) xToctet_Get_0) noL), frz := fun _r => false, nt := 52, n0 := 0 }
noncomputable def Boctet_Get_0 : Code := (loopAt (Tryz.f50.body.getD .skip) 0 0).getD .skip
theorem roundoctet_Get_0 (s : Soctet_Get_0) : round Eoctet_Get hoctet_Get_0 Boctet_Get_0 0 (eSoctet_Get_0 s) = (Woctet_Get_0 s).map (sumE eSoctet_Get_0 xSoctet_Get_0) := by kernel_rfl
theorem lpoctet_Get_0 : LpOk Eoctet_Get Boctet_Get_0 0 := mkLoop_ok (A := tAoctet_Get_0) (B := tBoctet_Get_0) (f := Poctet_Get_0) (L := Loctet_Get_0 none) (tO_ok (cPair_ok cStr_ok cUnit_ok) (tO_ok (cPair_ok (cInt_ok .i64) cUnit_ok) (tO_ok (cPair_ok (cInt_ok .i64) cUnit_ok) (tO_ok (cPair_ok (cInt_ok .i64) cUnit_ok) (tO_ok (cPair_ok (cInt_ok .i64) cUnit_ok) tNil_ok))))) bNil_ok (enc := eSoctet_Get_0) (out := xToctet_Get_0) (outS := xSoctet_Get_0) (step := Woctet_Get_0) (fun _ => rfl) (fun _ _ => by kernel_rfl) (by kernel_rfl) (fun _ => rfl) roundoctet_Get_0
theorem runoctet_Get (x : (List UInt8) × Int × Int × Unit) (g : Unit) : execF Eoctet_Get Tryz.f50 (Aoctet_Get.enc x) (bNil.enc g) = (Toctet_Get none x.1 x.2.1 x.2.2.1).map Roctet_Get := by kernel_rfl
theorem okoctet_Get : FnOk Tryz.prog cd 50 Soctet_Get := mk_ok (E := Eoctet_Get) cd_ok fns19_ok Tryz.func50 (by kernel_rfl) (loops_of (addL_ok lpoctet_Get_0 noL_ok)) (aO_ok cStr_ok (aO_ok (cInt_ok .i64) (aO_ok (cInt_ok .i64) (aNil_ok)))) bNil_ok (T := fun x _ => Toctet_Get none x.1 x.2.1 x.2.2.1) (fun _ _ => rfl) runoctet_Get
noncomputable def fns50 := addF 50 true Soctet_Get fns19
theorem fns50_ok : ∀ f q t, fns50 f = some (q, t) → FnOk Tryz.prog cd f t := addF_ok okoctet_Get fns19_ok
/-- emulator/memory.sized -/
noncomputable def Tmemory_sized (x0 : Int) : Tree Bool :=
  .ite (decide ((256 : Int) ≤ x0))
    (.ite (decide (x0 ≤ (32768 : Int)))
      (.ite (decide ((64 : Int) = 0))
        .fail
        (.leaf (decide (((x0).tmod (64 : Int)) = (0 : Int)))))
      (.leaf (false)))
    (.leaf (false))
noncomputable def memory_sized (x0 : Int) : Option Bool := (Tmemory_sized x0).run
noncomputable def Amemory_sized : Arg U (Int × Unit) := aO (cInt .i64) (aNil)
noncomputable def Rmemory_sized (r : Bool) : List (V U) × List (Blk U) := ([vO cBool r], [])
noncomputable def Smemory_sized : List (V U) → List (Blk U) → Option (FnOut U) := mkSpec Amemory_sized bNil (fun x _ => memory_sized x.1) Rmemory_sized
noncomputable def Ememory_sized : Env U := { P := Tryz.prog, cd := cd, fns := fns50, lps := noL, frz := fun _r => false, nt := 14, n0 := 0 }
theorem runmemory_sized (x : Int × Unit) (g : Unit) : execF Ememory_sized Tryz.f121 (Amemory_sized.enc x) (bNil.enc g) = (Tmemory_sized x.1).map Rmemory_sized := by kernel_rfl
theorem okmemory_sized : FnOk Tryz.prog cd 121 Smemory_sized := mk_ok (E := Ememory_sized) cd_ok fns50_ok Tryz.func121 (by kernel_rfl) (noLoops_body (by kernel_rfl)) (aO_ok (cInt_ok .i64) (aNil_ok)) bNil_ok (T := fun x _ => Tmemory_sized x.1) (fun _ _ => rfl) runmemory_sized
noncomputable def fns121 := addF 121 true Smemory_sized fns50
theorem fns121_ok : ∀ f q t, fns121 f = some (q, t) → FnOk Tryz.prog cd f t := addF_ok okmemory_sized fns50_ok
/-- emulator/memory.Right -/
structure Smemory_Right_0 where
  t0 : (List Int)
  t1 : (List Int)
  t15 : (List Int)
  t16 : Int
  t17 : Int
noncomputable def Wmemory_Right_0 (s : Smemory_Right_0) : Tree (Smemory_Right_0 ⊕ (((List Int) × (List Int) × Bool) ⊕ ((List Int) × (List Int)))) :=
  .ite (decide (s.t17 < s.t16))
    (.ite (decide (0 ≤ s.t17))
      (.opt Int (s.t15[(s.t17).toNat]?) fun y14 =>
        .ite (!decide ((IntKind.wrap .i64 (((BitVec.ofInt 64 y14 &&& BitVec.ofInt 64 (65535 : Int)).toNat : Int))) = y14))
          (.leaf (.inr (.inl (s.t0, s.t1, false))))
          (.leaf (.inl (Smemory_Right_0.mk s.t0 s.t1 s.t15 s.t16 (IntKind.wrap .i64 (s.t17 + (1 : Int)))))))
      .fail)
    (.leaf (.inr (.inr (s.t0, s.t1))))
noncomputable def Lmemory_Right_0 (q : Option Nat) (s : Smemory_Right_0) : Option (((List Int) × (List Int) × Bool) ⊕ ((List Int) × (List Int))) := limQ q (fun s => (Wmemory_Right_0 s).run) s
theorem leLmemory_Right_0 (k : Nat) (s : Smemory_Right_0) : Le (Lmemory_Right_0 (some k) s) (Lmemory_Right_0 none s) := limQ_le (fun _ => Le.rfl) s
structure Smemory_Right_1 where
  t0 : (List Int)
  t7 : Int
  t26 : (List Int)
  t27 : Int
  t28 : Int
noncomputable def Wmemory_Right_1 (s : Smemory_Right_1) : Tree (Smemory_Right_1 ⊕ (Bool ⊕ Unit)) :=
  .ite (decide (s.t28 < s.t27))
    (.ite (decide (0 ≤ s.t28))
      (.opt Int (s.t26[(s.t28).toNat]?) fun y18 =>
        .ite (decide (y18 ≤ s.t7))
          (.leaf (.inr (.inl false)))
          (.ite (decide ((2 : Int) = 0))
            .fail
            (.ite (!decide (((y18).tmod (2 : Int)) = (0 : Int)))
              (.leaf (.inr (.inl false)))
              (.ite (decide ((IntKind.wrap .i64 ((2 : Int) * (s.t0.length : Int))) ≤ y18))
                (.leaf (.inr (.inl false)))
                (.leaf (.inl (Smemory_Right_1.mk s.t0 y18 s.t26 s.t27 (IntKind.wrap .i64 (s.t28 + (1 : Int))))))))))
      .fail)
    (.leaf (.inr (.inr ())))
noncomputable def Lmemory_Right_1 (q : Option Nat) (s : Smemory_Right_1) : Option (Bool ⊕ Unit) := limQ q (fun s => (Wmemory_Right_1 s).run) s
theorem leLmemory_Right_1 (k : Nat) (s : Smemory_Right_1) : Le (Lmemory_Right_1 (some k) s) (Lmemory_Right_1 none s) := limQ_le (fun _ => Le.rfl) s
noncomputable def Tmemory_Right (q : Option Nat) (x0 : (List Int)) (x1 : (List Int)) : Tree Bool :=
  .opt Bool (memory_sized (IntKind.wrap .i64 ((2 : Int) * (x0.length : Int)))) fun r13 =>
    .ite (!r13)
      (.leaf (false))
      (.opt (((List Int) × (List Int) × Bool) ⊕ ((List Int) × (List Int))) (Lmemory_Right_0 q (Smemory_Right_0.mk x0 x1 x0 (x0.length : Int) (0 : Int))) fun l15 =>
        .ite (l15.isLeft)
          (.opt ((List Int) × (List Int) × Bool) (l15.getLeft?) fun a16 =>
            .leaf (a16.2.2))
          (.opt ((List Int) × (List Int)) (l15.getRight?) fun b17 =>
            .opt (Bool ⊕ Unit) (Lmemory_Right_1 q (Smemory_Right_1.mk b17.1 (-1 : Int) b17.2 (b17.2.length : Int) (0 : Int))) fun l19 =>
              .ite (l19.isLeft)
                (.opt Bool (l19.getLeft?) fun a20 =>
                  .leaf (a20))
                (.opt Unit (l19.getRight?) fun b21 =>
                  .leaf (true))))
noncomputable def memory_Right (q : Option Nat) (x0 : (List Int)) (x1 : (List Int)) : Option Bool := (Tmemory_Right q x0 x1).run
theorem lememory_Right (k : Nat) (x0 : (List Int)) (x1 : (List Int)) : Le (memory_Right (some k) x0 x1) (memory_Right none x0 x1) := (TLe.opt Le.rfl fun _ => (TLe.ite TLe.rfl (TLe.opt (leLmemory_Right_0 k _) fun _ => (TLe.ite TLe.rfl (TLe.opt Le.rfl fun _ => (TLe.opt (leLmemory_Right_1 k _) fun _ => TLe.rfl))))))
noncomputable def Amemory_Right : Arg U ((List Int) × (List Int) × Unit) := aO (cSl 3) (aO (cSl 3) (aNil))
noncomputable def Rmemory_Right (r : Bool) : List (V U) × List (Blk U) := ([vO cBool r], [])
noncomputable def Smemory_Right : List (V U) → List (Blk U) → Option (FnOut U) := mkSpec Amemory_Right bNil (fun x _ => memory_Right none x.1 x.2.1) Rmemory_Right
noncomputable def Pmemory_Right_0 (x : ((List Int) × Unit) × ((List Int) × Unit) × ((List Int) × Unit) × (Int × Unit) × (Int × Unit) × Unit) (_g : Unit) : Smemory_Right_0 := Smemory_Right_0.mk x.1.1 x.2.1.1 x.2.2.1.1 x.2.2.2.1.1 x.2.2.2.2.1.1
noncomputable def tAmemory_Right_0 : Tms U (((List Int) × Unit) × ((List Int) × Unit) × ((List Int) × Unit) × (Int × Unit) × (Int × Unit) × Unit) := tO 0 (cPair (cSl 3) (cUnit)) (tO 1 (cPair (cSl 3) (cUnit)) (tO 15 (cPair (cSl 3) (cUnit)) (tO 16 (cPair (cInt .i64) (cUnit)) (tO 17 (cPair (cInt .i64) (cUnit)) (tNil)))))
noncomputable def tBmemory_Right_0 : Bls U (Unit) := bNil
noncomputable def eSmemory_Right_0 (s : Smemory_Right_0) : St U := { tm := [(0, .v (vO (cPair (cSl 3) (cUnit)) (s.t0, ()))), (1, .v (vO (cPair (cSl 3) (cUnit)) (s.t1, ()))), (15, .v (vO (cPair (cSl 3) (cUnit)) (s.t15, ()))), (16, .v (vO (cPair (cInt .i64) (cUnit)) (s.t16, ()))), (17, .v (vO (cPair (cInt .i64) (cUnit)) (s.t17, ())))], hp := [] }
noncomputable def xSmemory_Right_0 : (((List Int) × (List Int) × Bool) ⊕ ((List Int) × (List Int))) → Ex × St U
  | .inl r => (.ret, { tm := [(0, .v (vO (cPair (cSl 3) (cUnit)) (r.1, ()))), (1, .v (vO (cPair (cSl 3) (cUnit)) (r.2.1, ()))), (4, .v (vO (cPair cBool (cUnit)) (r.2.2, ())))], hp := [] })
  | .inr r => (.exit 0, { tm := [(0, .v (vO (cPair (cSl 3) (cUnit)) (r.1, ()))), (1, .v (vO (cPair (cSl 3) (cUnit)) (r.2, ())))], hp := [] })
noncomputable def xTmemory_Right_0 (y : (((List Int) × (List Int) × Bool) ⊕ ((List Int) × (List Int)))) : Tree (Ex × St U) := .ite y.isLeft (.opt ((List Int) × (List Int) × Bool) y.getLeft? fun r => .leaf (.ret, { tm := [(0, .v (vO (cPair (cSl 3) (cUnit)) (r.1, ()))), (1, .v (vO (cPair (cSl 3) (cUnit)) (r.2.1, ()))), (4, .v (vO (cPair cBool (cUnit)) (r.2.2, ())))], hp := [] })) (.opt ((List Int) × (List Int)) y.getRight? fun r => .leaf (.exit 0, { tm := [(0, .v (vO (cPair (cSl 3) (cUnit)) (r.1, ()))), (1, .v (vO (cPair (cSl 3) (cUnit)) (r.2, ())))], hp := [] }))
noncomputable def hmemory_Right_0 : Hd := { keep := [0, 1, 15, 16, 17], xkeep := [0, 1, 4], own := false }
noncomputable def Pmemory_Right_1 (x : ((List Int) × Unit) × (Int × Unit) × ((List Int) × Unit) × (Int × Unit) × (Int × Unit) × Unit) (_g : Unit) : Smemory_Right_1 := Smemory_Right_1.mk x.1.1 x.2.1.1 x.2.2.1.1 x.2.2.2.1.1 x.2.2.2.2.1.1
noncomputable def tAmemory_Right_1 : Tms U (((List Int) × Unit) × (Int × Unit) × ((List Int) × Unit) × (Int × Unit) × (Int × Unit) × Unit) := tO 0 (cPair (cSl 3) (cUnit)) (tO 7 (cPair (cInt .i64) (cUnit)) (tO 26 (cPair (cSl 3) (cUnit)) (tO 27 (cPair (cInt .i64) (cUnit)) (tO 28 (cPair (cInt .i64) (cUnit)) (tNil)))))
noncomputable def tBmemory_Right_1 : Bls U (Unit) := bNil
noncomputable def eSmemory_Right_1 (s : Smemory_Right_1) : St U := { tm := [(0, .v (vO (cPair (cSl 3) (cUnit)) (s.t0, ()))), (7, .v (vO (cPair (cInt .i64) (cUnit)) (s.t7, ()))), (26, .v (vO (cPair (cSl 3) (cUnit)) (s.t26, ()))), (27, .v (vO (cPair (cInt .i64) (cUnit)) (s.t27, ()))), (28, .v (vO (cPair (cInt .i64) (cUnit)) (s.t28, ())))], hp := [] }
noncomputable def xSmemory_Right_1 : (Bool ⊕ Unit) → Ex × St U
  | .inl r => (.ret, { tm := [(4, .v (vO (cPair cBool (cUnit)) (r, ())))], hp := [] })
  | .inr r => (.exit 2, { tm := [], hp := [] })
noncomputable def xTmemory_Right_1 (y : (Bool ⊕ Unit)) : Tree (Ex × St U) := .ite y.isLeft (.opt Bool y.getLeft? fun r => .leaf (.ret, { tm := [(4, .v (vO (cPair cBool (cUnit)) (r, ())))], hp := [] })) (.opt Unit y.getRight? fun r => .leaf (.exit 2, { tm := [], hp := [] }))
noncomputable def hmemory_Right_1 : Hd := { keep := [0, 7, 26, 27, 28], xkeep := [4], own := false }
noncomputable def Ememory_Right : Env U := { P := Tryz.prog, cd := cd, fns := fns121, lps := (addL 0 hmemory_Right_0 (mkLoop tAmemory_Right_0 tBmemory_Right_0 Pmemory_Right_0 (Lmemory_Right_0 none) xTmemory_Right_0) (addL 1 hmemory_Right_1 (mkLoop tAmemory_Right_1 tBmemory_Right_1 Pmemory_Right_1 (Lmemory_Right_1 none) xTmemory_Right_1) noL)), frz := fun _r => false, nt := 49, n0 := 0 }
noncomputable def Bmemory_Right_0 : Code := (loopAt (Tryz.f107.body.getD .skip) 0 0).getD .skip
theorem roundmemory_Right_0 (s : Smemory_Right_0) : round Ememory_Right hmemory_Right_0 Bmemory_Right_0 0 (eSmemory_Right_0 s) = (Wmemory_Right_0 s).map (sumE eSmemory_Right_0 xSmemory_Right_0) := by kernel_rfl
theorem lpmemory_Right_0 : LpOk Ememory_Right Bmemory_Right_0 0 := mkLoop_ok (A := tAmemory_Right_0) (B := tBmemory_Right_0) (f := Pmemory_Right_0) (L := Lmemory_Right_0 none) (tO_ok (cPair_ok (cSl_ok 3) cUnit_ok) (tO_ok (cPair_ok (cSl_ok 3) cUnit_ok) (tO_ok (cPair_ok (cSl_ok 3) cUnit_ok) (tO_ok (cPair_ok (cInt_ok .i64) cUnit_ok) (tO_ok (cPair_ok (cInt_ok .i64) cUnit_ok) tNil_ok))))) bNil_ok (enc := eSmemory_Right_0) (out := xTmemory_Right_0) (outS := xSmemory_Right_0) (step := Wmemory_Right_0) (fun _ => rfl) (fun _ _ => by kernel_rfl) (by kernel_rfl) (fun b => by cases b <;> rfl) roundmemory_Right_0
noncomputable def Bmemory_Right_1 : Code := (loopAt (Tryz.f107.body.getD .skip) 0 1).getD .skip
theorem roundmemory_Right_1 (s : Smemory_Right_1) : round Ememory_Right hmemory_Right_1 Bmemory_Right_1 1 (eSmemory_Right_1 s) = (Wmemory_Right_1 s).map (sumE eSmemory_Right_1 xSmemory_Right_1) := by kernel_rfl
theorem lpmemory_Right_1 : LpOk Ememory_Right Bmemory_Right_1 1 := mkLoop_ok (A := tAmemory_Right_1) (B := tBmemory_Right_1) (f := Pmemory_Right_1) (L := Lmemory_Right_1 none) (tO_ok (cPair_ok (cSl_ok 3) cUnit_ok) (tO_ok (cPair_ok (cInt_ok .i64) cUnit_ok) (tO_ok (cPair_ok (cSl_ok 3) cUnit_ok) (tO_ok (cPair_ok (cInt_ok .i64) cUnit_ok) (tO_ok (cPair_ok (cInt_ok .i64) cUnit_ok) tNil_ok))))) bNil_ok (enc := eSmemory_Right_1) (out := xTmemory_Right_1) (outS := xSmemory_Right_1) (step := Wmemory_Right_1) (fun _ => rfl) (fun _ _ => by kernel_rfl) (by kernel_rfl) (fun b => by cases b <;> rfl) roundmemory_Right_1
theorem runmemory_Right (x : (List Int) × (List Int) × Unit) (g : Unit) : execF Ememory_Right Tryz.f107 (Amemory_Right.enc x) (bNil.enc g) = (Tmemory_Right none x.1 x.2.1).map Rmemory_Right := by kernel_rfl
theorem okmemory_Right : FnOk Tryz.prog cd 107 Smemory_Right := mk_ok (E := Ememory_Right) cd_ok fns121_ok Tryz.func107 (by kernel_rfl) (loops_of (addL_ok lpmemory_Right_0 (addL_ok lpmemory_Right_1 noL_ok))) (aO_ok (cSl_ok 3) (aO_ok (cSl_ok 3) (aNil_ok))) bNil_ok (T := fun x _ => Tmemory_Right none x.1 x.2.1) (fun _ _ => rfl) runmemory_Right
noncomputable def fns107 := addF 107 true Smemory_Right fns121
theorem fns107_ok : ∀ f q t, fns107 f = some (q, t) → FnOk Tryz.prog cd f t := addF_ok okmemory_Right fns121_ok
/-- emulator/mmu.from -/
noncomputable def Tmmu_from (x0 : Int) (x1 : Int) : Tree Bool :=
  .ite (decide ((0 : Int) ≤ x0))
    (.leaf (decide (x0 ≤ x1)))
    (.leaf (false))
noncomputable def mmu_from (x0 : Int) (x1 : Int) : Option Bool := (Tmmu_from x0 x1).run
noncomputable def Ammu_from : Arg U (Int × Int × Unit) := aO (cInt .i64) (aO (cInt .i64) (aNil))
noncomputable def Rmmu_from (r : Bool) : List (V U) × List (Blk U) := ([vO cBool r], [])
noncomputable def Smmu_from : List (V U) → List (Blk U) → Option (FnOut U) := mkSpec Ammu_from bNil (fun x _ => mmu_from x.1 x.2.1) Rmmu_from
noncomputable def Emmu_from : Env U := { P := Tryz.prog, cd := cd, fns := fns107, lps := noL, frz := fun _r => false, nt := 12, n0 := 0 }
theorem runmmu_from (x : Int × Int × Unit) (g : Unit) : execF Emmu_from Tryz.f136 (Ammu_from.enc x) (bNil.enc g) = (Tmmu_from x.1 x.2.1).map Rmmu_from := by kernel_rfl
theorem okmmu_from : FnOk Tryz.prog cd 136 Smmu_from := mk_ok (E := Emmu_from) cd_ok fns107_ok Tryz.func136 (by kernel_rfl) (noLoops_body (by kernel_rfl)) (aO_ok (cInt_ok .i64) (aO_ok (cInt_ok .i64) (aNil_ok))) bNil_ok (T := fun x _ => Tmmu_from x.1 x.2.1) (fun _ _ => rfl) runmmu_from
noncomputable def fns136 := addF 136 true Smmu_from fns107
theorem fns136_ok : ∀ f q t, fns136 f = some (q, t) → FnOk Tryz.prog cd f t := addF_ok okmmu_from fns107_ok
/-- emulator/mmu.Right -/
structure Smmu_Right_1 where
  t8_0 : (List Page)
  t9 : Int
  t12_0 : (List Page)
  t13 : Int
  b0 : Mmu
noncomputable def Wmmu_Right_1 (s : Smmu_Right_1) : Tree (Smmu_Right_1 ⊕ ((Bool × (List Page) × Int × Mmu) ⊕ ((List Page) × Int × Mmu))) :=
  .ite (decide (s.t13 < (8 : Int)))
    (.ite (decide (0 ≤ s.t13))
      (.ite (decide (s.t13 < (8 : Int)))
        (.opt Page (s.t12_0[(s.t13).toNat]?) fun y22 =>
          .opt Bool (mmu_from y22.base (4095 : Int)) fun r23 =>
            .ite (!r23)
              (.leaf (.inr (.inl (false, s.t8_0, s.t9, s.b0))))
              (.opt Bool (mmu_from y22.length (128 : Int)) fun r24 =>
                .ite (!r24)
                  (.leaf (.inr (.inl (false, s.t8_0, s.t9, s.b0))))
                  (.opt Bool (mmu_from y22.access (2 : Int)) fun r25 =>
                    .ite (!r25)
                      (.leaf (.inr (.inl (false, s.t8_0, s.t9, s.b0))))
                      (.leaf (.inl (Smmu_Right_1.mk s.t8_0 s.t9 s.t12_0 (IntKind.wrap .i64 (s.t13 + (1 : Int))) s.b0))))))
        .fail)
      .fail)
    (.leaf (.inr (.inr (s.t8_0, s.t9, s.b0))))
noncomputable def Lmmu_Right_1 (q : Option Nat) (s : Smmu_Right_1) : Option ((Bool × (List Page) × Int × Mmu) ⊕ ((List Page) × Int × Mmu)) := limQ q (fun s => (Wmmu_Right_1 s).run) s
theorem leLmmu_Right_1 (k : Nat) (s : Smmu_Right_1) : Le (Lmmu_Right_1 (some k) s) (Lmmu_Right_1 none s) := limQ_le (fun _ => Le.rfl) s
structure Smmu_Right_0 where
  t8_0 : (List Page)
  t9 : Int
  b0 : Mmu
noncomputable def Wmmu_Right_0 (q : Option Nat) (s : Smmu_Right_0) : Tree (Smmu_Right_0 ⊕ ((Bool × Mmu) ⊕ Mmu)) :=
  .ite (decide (s.t9 < (2 : Int)))
    (.ite (decide (0 ≤ s.t9))
      (.ite (decide (s.t9 < (2 : Int)))
        (.ite (decide ((s.t9).toNat * 8 + 8 ≤ s.t8_0.length))
          (.opt ((Bool × (List Page) × Int × Mmu) ⊕ ((List Page) × Int × Mmu)) (Lmmu_Right_1 q (Smmu_Right_1.mk s.t8_0 s.t9 ((s.t8_0.drop ((s.t9).toNat * 8)).take 8) (0 : Int) s.b0)) fun l26 =>
            .ite (l26.isLeft)
              (.opt (Bool × (List Page) × Int × Mmu) (l26.getLeft?) fun a27 =>
                .leaf (.inr (.inl (a27.1, a27.2.2.2))))
              (.opt ((List Page) × Int × Mmu) (l26.getRight?) fun b28 =>
                .leaf (.inl (Smmu_Right_0.mk b28.1 (IntKind.wrap .i64 (b28.2.1 + (1 : Int))) b28.2.2))))
          .fail)
        .fail)
      .fail)
    (.leaf (.inr (.inr s.b0)))
noncomputable def Lmmu_Right_0 (q : Option Nat) (s : Smmu_Right_0) : Option ((Bool × Mmu) ⊕ Mmu) := limQ q (fun s => (Wmmu_Right_0 q s).run) s
theorem leLmmu_Right_0 (k : Nat) (s : Smmu_Right_0) : Le (Lmmu_Right_0 (some k) s) (Lmmu_Right_0 none s) := limQ_le (fun s => (TLe.ite (TLe.ite (TLe.ite (TLe.ite (TLe.opt (leLmmu_Right_1 k _) fun _ => TLe.rfl) TLe.rfl) TLe.rfl) TLe.rfl) TLe.rfl)) s
noncomputable def Tmmu_Right (q : Option Nat) (x0 : Mmu) : Tree Bool :=
  .opt ((Bool × Mmu) ⊕ Mmu) (Lmmu_Right_0 q (Smmu_Right_0.mk x0.pages (0 : Int) x0)) fun l29 =>
    .ite (l29.isLeft)
      (.opt (Bool × Mmu) (l29.getLeft?) fun a30 =>
        .leaf (a30.1))
      (.opt Mmu (l29.getRight?) fun b31 =>
        .opt Bool (mmu_from b31.status (3 : Int)) fun r32 =>
          .ite (r32)
            (.opt Bool (mmu_from b31.addr (65535 : Int)) fun r33 =>
              .leaf (r33))
            (.leaf (false)))
noncomputable def mmu_Right (q : Option Nat) (x0 : Mmu) : Option Bool := (Tmmu_Right q x0).run
theorem lemmu_Right (k : Nat) (x0 : Mmu) : Le (mmu_Right (some k) x0) (mmu_Right none x0) := (TLe.opt (leLmmu_Right_0 k _) fun _ => TLe.rfl)
noncomputable def Ammu_Right : Arg U (Mmu × Unit) := aA cMmu (aNil)
noncomputable def Rmmu_Right (r : Bool) : List (V U) × List (Blk U) := ([vO cBool r], [])
noncomputable def Smmu_Right : List (V U) → List (Blk U) → Option (FnOut U) := mkSpec Ammu_Right bNil (fun x _ => mmu_Right none x.1) Rmmu_Right
noncomputable def Pmmu_Right_0 (x : (Unit) × ((List Page) × Unit) × (Int × Unit) × Unit) (g : (Mmu × Unit) × Unit) : Smmu_Right_0 := Smmu_Right_0.mk x.2.1.1 x.2.2.1.1 g.1.1
noncomputable def tAmmu_Right_0 : Tms U ((Unit) × ((List Page) × Unit) × (Int × Unit) × Unit) := tO 1 (cK (.ptr 0 0) (cUnit)) (tA 8 (cPair (cArr 28 16) (cUnit)) (tO 9 (cPair (cInt .i64) (cUnit)) (tNil)))
noncomputable def tBmmu_Right_0 : Bls U ((Mmu × Unit) × Unit) := bC (cPair cMmu (cUnit)) (bNil)
noncomputable def eSmmu_Right_0 (s : Smmu_Right_0) : St U := { tm := [(1, .v (vO (cK (.ptr 0 0) (cUnit)) (()))), (8, .v (vA (cPair (cArr 28 16) (cUnit)) (s.t8_0, ()))), (9, .v (vO (cPair (cInt .i64) (cUnit)) (s.t9, ())))], hp := [.cells ((cPair cMmu (cUnit) : Cdc U (Mmu × Unit)).enc (s.b0, ())) none] }
noncomputable def xSmmu_Right_0 : ((Bool × Mmu) ⊕ Mmu) → Ex × St U
  | .inl r => (.ret, { tm := [(1, .v (vO (cK (.ptr 0 0) (cUnit)) (()))), (2, .v (vO (cPair cBool (cUnit)) (r.1, ())))], hp := [.cells ((cPair cMmu (cUnit) : Cdc U (Mmu × Unit)).enc (r.2, ())) none] })
  | .inr r => (.exit 0, { tm := [(1, .v (vO (cK (.ptr 0 0) (cUnit)) (())))], hp := [.cells ((cPair cMmu (cUnit) : Cdc U (Mmu × Unit)).enc (r, ())) none] })
noncomputable def xTmmu_Right_0 (y : ((Bool × Mmu) ⊕ Mmu)) : Tree (Ex × St U) := .ite y.isLeft (.opt (Bool × Mmu) y.getLeft? fun r => .leaf (.ret, { tm := [(1, .v (vO (cK (.ptr 0 0) (cUnit)) (()))), (2, .v (vO (cPair cBool (cUnit)) (r.1, ())))], hp := [.cells ((cPair cMmu (cUnit) : Cdc U (Mmu × Unit)).enc (r.2, ())) none] })) (.opt Mmu y.getRight? fun r => .leaf (.exit 0, { tm := [(1, .v (vO (cK (.ptr 0 0) (cUnit)) (())))], hp := [.cells ((cPair cMmu (cUnit) : Cdc U (Mmu × Unit)).enc (r, ())) none] }))
noncomputable def hmmu_Right_0 : Hd := { keep := [1, 8, 9], xkeep := [1, 2], own := false }
noncomputable def Pmmu_Right_1 (x : (Unit) × ((List Page) × Unit) × (Int × Unit) × ((List Page) × Unit) × (Int × Unit) × Unit) (g : (Mmu × Unit) × Unit) : Smmu_Right_1 := Smmu_Right_1.mk x.2.1.1 x.2.2.1.1 x.2.2.2.1.1 x.2.2.2.2.1.1 g.1.1
noncomputable def tAmmu_Right_1 : Tms U ((Unit) × ((List Page) × Unit) × (Int × Unit) × ((List Page) × Unit) × (Int × Unit) × Unit) := tO 1 (cK (.ptr 0 0) (cUnit)) (tA 8 (cPair (cArr 28 16) (cUnit)) (tO 9 (cPair (cInt .i64) (cUnit)) (tA 12 (cPair (cArr 28 8) (cUnit)) (tO 13 (cPair (cInt .i64) (cUnit)) (tNil)))))
noncomputable def tBmmu_Right_1 : Bls U ((Mmu × Unit) × Unit) := bC (cPair cMmu (cUnit)) (bNil)
noncomputable def eSmmu_Right_1 (s : Smmu_Right_1) : St U := { tm := [(1, .v (vO (cK (.ptr 0 0) (cUnit)) (()))), (8, .v (vA (cPair (cArr 28 16) (cUnit)) (s.t8_0, ()))), (9, .v (vO (cPair (cInt .i64) (cUnit)) (s.t9, ()))), (12, .v (vA (cPair (cArr 28 8) (cUnit)) (s.t12_0, ()))), (13, .v (vO (cPair (cInt .i64) (cUnit)) (s.t13, ())))], hp := [.cells ((cPair cMmu (cUnit) : Cdc U (Mmu × Unit)).enc (s.b0, ())) none] }
noncomputable def xSmmu_Right_1 : ((Bool × (List Page) × Int × Mmu) ⊕ ((List Page) × Int × Mmu)) → Ex × St U
  | .inl r => (.ret, { tm := [(1, .v (vO (cK (.ptr 0 0) (cUnit)) (()))), (2, .v (vO (cPair cBool (cUnit)) (r.1, ()))), (8, .v (vA (cPair (cArr 28 16) (cUnit)) (r.2.1, ()))), (9, .v (vO (cPair (cInt .i64) (cUnit)) (r.2.2.1, ())))], hp := [.cells ((cPair cMmu (cUnit) : Cdc U (Mmu × Unit)).enc (r.2.2.2, ())) none] })
  | .inr r => (.exit 2, { tm := [(1, .v (vO (cK (.ptr 0 0) (cUnit)) (()))), (8, .v (vA (cPair (cArr 28 16) (cUnit)) (r.1, ()))), (9, .v (vO (cPair (cInt .i64) (cUnit)) (r.2.1, ())))], hp := [.cells ((cPair cMmu (cUnit) : Cdc U (Mmu × Unit)).enc (r.2.2, ())) none] })
noncomputable def xTmmu_Right_1 (y : ((Bool × (List Page) × Int × Mmu) ⊕ ((List Page) × Int × Mmu))) : Tree (Ex × St U) := .ite y.isLeft (.opt (Bool × (List Page) × Int × Mmu) y.getLeft? fun r => .leaf (.ret, { tm := [(1, .v (vO (cK (.ptr 0 0) (cUnit)) (()))), (2, .v (vO (cPair cBool (cUnit)) (r.1, ()))), (8, .v (vA (cPair (cArr 28 16) (cUnit)) (r.2.1, ()))), (9, .v (vO (cPair (cInt .i64) (cUnit)) (r.2.2.1, ())))], hp := [.cells ((cPair cMmu (cUnit) : Cdc U (Mmu × Unit)).enc (r.2.2.2, ())) none] })) (.opt ((List Page) × Int × Mmu) y.getRight? fun r => .leaf (.exit 2, { tm := [(1, .v (vO (cK (.ptr 0 0) (cUnit)) (()))), (8, .v (vA (cPair (cArr 28 16) (cUnit)) (r.1, ()))), (9, .v (vO (cPair (cInt .i64) (cUnit)) (r.2.1, ())))], hp := [.cells ((cPair cMmu (cUnit) : Cdc U (Mmu × Unit)).enc (r.2.2, ())) none] }))
noncomputable def hmmu_Right_1 : Hd := { keep := [1, 8, 9, 12, 13], xkeep := [1, 2, 8, 9], own := false }
noncomputable def Emmu_Right : Env U := { P := Tryz.prog, cd := cd, fns := fns136, lps := (addL 0 hmmu_Right_0 (mkLoop tAmmu_Right_0 tBmmu_Right_0 Pmmu_Right_0 (Lmmu_Right_0 none) xTmmu_Right_0) (addL 1 hmmu_Right_1 (mkLoop tAmmu_Right_1 tBmmu_Right_1 Pmmu_Right_1 (Lmmu_Right_1 none) xTmmu_Right_1) noL)), frz := fun _r => false, nt := 42, n0 := 0 }
noncomputable def Bmmu_Right_0 : Code := (loopAt (Tryz.f108.body.getD .skip) 0 0).getD .skip
theorem roundmmu_Right_0 (s : Smmu_Right_0) : round Emmu_Right hmmu_Right_0 Bmmu_Right_0 0 (eSmmu_Right_0 s) = (Wmmu_Right_0 none s).map (sumE eSmmu_Right_0 xSmmu_Right_0) := by kernel_rfl
theorem lpmmu_Right_0 : LpOk Emmu_Right Bmmu_Right_0 0 := mkLoop_ok (A := tAmmu_Right_0) (B := tBmmu_Right_0) (f := Pmmu_Right_0) (L := Lmmu_Right_0 none) (tO_ok (cK_ok cUnit_ok) (tA_ok (cPair_ok (cArr_ok 28 16) cUnit_ok) (tO_ok (cPair_ok (cInt_ok .i64) cUnit_ok) tNil_ok))) (bC_ok (cPair_ok cMmu_ok cUnit_ok) bNil_ok) (enc := eSmmu_Right_0) (out := xTmmu_Right_0) (outS := xSmmu_Right_0) (step := Wmmu_Right_0 none) (fun _ => rfl) (fun _ _ => by kernel_rfl) (by kernel_rfl) (fun b => by cases b <;> rfl) roundmmu_Right_0
noncomputable def Bmmu_Right_1 : Code := (loopAt (Tryz.f108.body.getD .skip) 0 1).getD .skip
theorem roundmmu_Right_1 (s : Smmu_Right_1) : round Emmu_Right hmmu_Right_1 Bmmu_Right_1 1 (eSmmu_Right_1 s) = (Wmmu_Right_1 s).map (sumE eSmmu_Right_1 xSmmu_Right_1) := by kernel_rfl
theorem lpmmu_Right_1 : LpOk Emmu_Right Bmmu_Right_1 1 := mkLoop_ok (A := tAmmu_Right_1) (B := tBmmu_Right_1) (f := Pmmu_Right_1) (L := Lmmu_Right_1 none) (tO_ok (cK_ok cUnit_ok) (tA_ok (cPair_ok (cArr_ok 28 16) cUnit_ok) (tO_ok (cPair_ok (cInt_ok .i64) cUnit_ok) (tA_ok (cPair_ok (cArr_ok 28 8) cUnit_ok) (tO_ok (cPair_ok (cInt_ok .i64) cUnit_ok) tNil_ok))))) (bC_ok (cPair_ok cMmu_ok cUnit_ok) bNil_ok) (enc := eSmmu_Right_1) (out := xTmmu_Right_1) (outS := xSmmu_Right_1) (step := Wmmu_Right_1) (fun _ => rfl) (fun _ _ => by kernel_rfl) (by kernel_rfl) (fun b => by cases b <;> rfl) roundmmu_Right_1
theorem runmmu_Right (x : Mmu × Unit) (g : Unit) : execF Emmu_Right Tryz.f108 (Ammu_Right.enc x) (bNil.enc g) = (Tmmu_Right none x.1).map Rmmu_Right := by kernel_rfl
theorem okmmu_Right : FnOk Tryz.prog cd 108 Smmu_Right := mk_ok (E := Emmu_Right) cd_ok fns136_ok Tryz.func108 (by kernel_rfl) (loops_of (addL_ok lpmmu_Right_0 (addL_ok lpmmu_Right_1 noL_ok))) (aA_ok cMmu_ok (aNil_ok)) bNil_ok (T := fun x _ => Tmmu_Right none x.1) (fun _ _ => rfl) runmmu_Right
noncomputable def fns108 := addF 108 true Smmu_Right fns136
theorem fns108_ok : ∀ f q t, fns108 f = some (q, t) → FnOk Tryz.prog cd f t := addF_ok okmmu_Right fns136_ok
/-- emulator/clock.Right -/
noncomputable def Tclock_Right (x0 : Clock) : Tree Bool :=
  .ite (decide ((1 : Int) ≤ x0.period))
    (.ite (decide (x0.period ≤ (65535 : Int)))
      (.ite (decide ((1 : Int) ≤ x0.left))
        (.leaf (decide (x0.left ≤ x0.period)))
        (.leaf (false)))
      (.leaf (false)))
    (.leaf (false))
noncomputable def clock_Right (x0 : Clock) : Option Bool := (Tclock_Right x0).run
noncomputable def Aclock_Right : Arg U (Clock × Unit) := aA cClock (aNil)
noncomputable def Rclock_Right (r : Bool) : List (V U) × List (Blk U) := ([vO cBool r], [])
noncomputable def Sclock_Right : List (V U) → List (Blk U) → Option (FnOut U) := mkSpec Aclock_Right bNil (fun x _ => clock_Right x.1) Rclock_Right
noncomputable def Eclock_Right : Env U := { P := Tryz.prog, cd := cd, fns := fns108, lps := noL, frz := fun _r => false, nt := 23, n0 := 0 }
theorem runclock_Right (x : Clock × Unit) (g : Unit) : execF Eclock_Right Tryz.f109 (Aclock_Right.enc x) (bNil.enc g) = (Tclock_Right x.1).map Rclock_Right := by kernel_rfl
theorem okclock_Right : FnOk Tryz.prog cd 109 Sclock_Right := mk_ok (E := Eclock_Right) cd_ok fns108_ok Tryz.func109 (by kernel_rfl) (noLoops_body (by kernel_rfl)) (aA_ok cClock_ok (aNil_ok)) bNil_ok (T := fun x _ => Tclock_Right x.1) (fun _ _ => rfl) runclock_Right
noncomputable def fns109 := addF 109 true Sclock_Right fns108
theorem fns109_ok : ∀ f q t, fns109 f = some (q, t) → FnOk Tryz.prog cd f t := addF_ok okclock_Right fns108_ok
/-- emulator/line.isByte -/
noncomputable def Tline_isByte (x0 : Int) : Tree Bool :=
  .leaf (decide ((IntKind.wrap .i64 (((BitVec.ofInt 64 x0 &&& BitVec.ofInt 64 (255 : Int)).toNat : Int))) = x0))
noncomputable def line_isByte (x0 : Int) : Option Bool := (Tline_isByte x0).run
noncomputable def Aline_isByte : Arg U (Int × Unit) := aO (cInt .i64) (aNil)
noncomputable def Rline_isByte (r : Bool) : List (V U) × List (Blk U) := ([vO cBool r], [])
noncomputable def Sline_isByte : List (V U) → List (Blk U) → Option (FnOut U) := mkSpec Aline_isByte bNil (fun x _ => line_isByte x.1) Rline_isByte
noncomputable def Eline_isByte : Env U := { P := Tryz.prog, cd := cd, fns := fns109, lps := noL, frz := fun _r => false, nt := 7, n0 := 0 }
theorem runline_isByte (x : Int × Unit) (g : Unit) : execF Eline_isByte Tryz.f137 (Aline_isByte.enc x) (bNil.enc g) = (Tline_isByte x.1).map Rline_isByte := by kernel_rfl
theorem okline_isByte : FnOk Tryz.prog cd 137 Sline_isByte := mk_ok (E := Eline_isByte) cd_ok fns109_ok Tryz.func137 (by kernel_rfl) (noLoops_body (by kernel_rfl)) (aO_ok (cInt_ok .i64) (aNil_ok)) bNil_ok (T := fun x _ => Tline_isByte x.1) (fun _ _ => rfl) runline_isByte
noncomputable def fns137 := addF 137 true Sline_isByte fns109
theorem fns137_ok : ∀ f q t, fns137 f = some (q, t) → FnOk Tryz.prog cd f t := addF_ok okline_isByte fns109_ok
/-- emulator/line.Right -/
noncomputable def Tline_Right (x0 : Line) : Tree Bool :=
  .opt Bool (line_isByte x0.rxData) fun r34 =>
    .ite (r34)
      (.opt Bool (line_isByte x0.txData) fun r35 =>
        .ite (r35)
          (.ite (decide ((0 : Int) ≤ x0.txLeft))
            (.ite (decide (x0.txLeft ≤ (4 : Int)))
              (.ite ((x0.txReady == (decide (x0.txLeft = (0 : Int)))))
                (.leaf (decide ((x0.out.length : Int) ≤ (4096 : Int))))
                (.leaf (false)))
              (.leaf (false)))
            (.leaf (false)))
          (.leaf (false)))
      (.leaf (false))
noncomputable def line_Right (x0 : Line) : Option Bool := (Tline_Right x0).run
noncomputable def Aline_Right : Arg U (Line × Unit) := aA cLine (aNil)
noncomputable def Rline_Right (r : Bool) : List (V U) × List (Blk U) := ([vO cBool r], [])
noncomputable def Sline_Right : List (V U) → List (Blk U) → Option (FnOut U) := mkSpec Aline_Right bNil (fun x _ => line_Right x.1) Rline_Right
noncomputable def Eline_Right : Env U := { P := Tryz.prog, cd := cd, fns := fns137, lps := noL, frz := fun _r => false, nt := 35, n0 := 0 }
theorem runline_Right (x : Line × Unit) (g : Unit) : execF Eline_Right Tryz.f110 (Aline_Right.enc x) (bNil.enc g) = (Tline_Right x.1).map Rline_Right := by kernel_rfl
theorem okline_Right : FnOk Tryz.prog cd 110 Sline_Right := mk_ok (E := Eline_Right) cd_ok fns137_ok Tryz.func110 (by kernel_rfl) (noLoops_body (by kernel_rfl)) (aA_ok cLine_ok (aNil_ok)) bNil_ok (T := fun x _ => Tline_Right x.1) (fun _ _ => rfl) runline_Right
noncomputable def fns110 := addF 110 true Sline_Right fns137
theorem fns110_ok : ∀ f q t, fns110 f = some (q, t) → FnOk Tryz.prog cd f t := addF_ok okline_Right fns137_ok
/-- emulator/drive.Right -/
structure Sdrive_Right_0 where
  t19 : (List (List UInt8))
  t20 : Int
  t21 : Int
  b0 : Drive
noncomputable def Wdrive_Right_0 (s : Sdrive_Right_0) : Tree (Sdrive_Right_0 ⊕ ((Bool × Drive) ⊕ Drive)) :=
  .ite (decide (s.t21 < s.t20))
    (.ite (decide (0 ≤ s.t21))
      (.opt (List UInt8) (s.t19[(s.t21).toNat]?) fun y36 =>
        .ite (!decide ((y36.length : Int) = (128 : Int)))
          (.leaf (.inr (.inl (false, s.b0))))
          (.leaf (.inl (Sdrive_Right_0.mk s.t19 s.t20 (IntKind.wrap .i64 (s.t21 + (1 : Int))) s.b0))))
      .fail)
    (.leaf (.inr (.inr s.b0)))
noncomputable def Ldrive_Right_0 (q : Option Nat) (s : Sdrive_Right_0) : Option ((Bool × Drive) ⊕ Drive) := limQ q (fun s => (Wdrive_Right_0 s).run) s
theorem leLdrive_Right_0 (k : Nat) (s : Sdrive_Right_0) : Le (Ldrive_Right_0 (some k) s) (Ldrive_Right_0 none s) := limQ_le (fun _ => Le.rfl) s
structure Sdrive_Right_1 where
  t5 : Int
  t30 : (List Int)
  t31 : Int
  t32 : Int
  b0 : Drive
noncomputable def Wdrive_Right_1 (s : Sdrive_Right_1) : Tree (Sdrive_Right_1 ⊕ (Bool ⊕ Unit)) :=
  .ite (decide (s.t32 < s.t31))
    (.ite (decide (0 ≤ s.t32))
      (.opt Int (s.t30[(s.t32).toNat]?) fun y40 =>
        .ite (decide (y40 ≤ s.t5))
          (.leaf (.inr (.inl false)))
          (.ite (decide ((s.b0.sectors.length : Int) ≤ y40))
            (.leaf (.inr (.inl false)))
            (.leaf (.inl (Sdrive_Right_1.mk y40 s.t30 s.t31 (IntKind.wrap .i64 (s.t32 + (1 : Int))) s.b0)))))
      .fail)
    (.leaf (.inr (.inr ())))
noncomputable def Ldrive_Right_1 (q : Option Nat) (s : Sdrive_Right_1) : Option (Bool ⊕ Unit) := limQ q (fun s => (Wdrive_Right_1 s).run) s
theorem leLdrive_Right_1 (k : Nat) (s : Sdrive_Right_1) : Le (Ldrive_Right_1 (some k) s) (Ldrive_Right_1 none s) := limQ_le (fun _ => Le.rfl) s
noncomputable def Tdrive_Right (q : Option Nat) (x0 : Drive) : Tree Bool :=
  .ite (decide ((x0.sectors.length : Int) < (1 : Int)))
    (.leaf (false))
    (.ite (decide ((256 : Int) < (x0.sectors.length : Int)))
      (.leaf (false))
      (.opt ((Bool × Drive) ⊕ Drive) (Ldrive_Right_0 q (Sdrive_Right_0.mk x0.sectors (x0.sectors.length : Int) (0 : Int) x0)) fun l37 =>
        .ite (l37.isLeft)
          (.opt (Bool × Drive) (l37.getLeft?) fun a38 =>
            .leaf (a38.1))
          (.opt Drive (l37.getRight?) fun b39 =>
            .opt (Bool ⊕ Unit) (Ldrive_Right_1 q (Sdrive_Right_1.mk (-1 : Int) b39.bad (b39.bad.length : Int) (0 : Int) b39)) fun l41 =>
              .ite (l41.isLeft)
                (.opt Bool (l41.getLeft?) fun a42 =>
                  .leaf (a42))
                (.opt Unit (l41.getRight?) fun b43 =>
                  .leaf (true)))))
noncomputable def drive_Right (q : Option Nat) (x0 : Drive) : Option Bool := (Tdrive_Right q x0).run
theorem ledrive_Right (k : Nat) (x0 : Drive) : Le (drive_Right (some k) x0) (drive_Right none x0) := (TLe.ite TLe.rfl (TLe.ite TLe.rfl (TLe.opt (leLdrive_Right_0 k _) fun _ => (TLe.ite TLe.rfl (TLe.opt Le.rfl fun _ => (TLe.opt (leLdrive_Right_1 k _) fun _ => TLe.rfl))))))
noncomputable def Adrive_Right : Arg U (Drive × Unit) := aA cDrive (aNil)
noncomputable def Rdrive_Right (r : Bool) : List (V U) × List (Blk U) := ([vO cBool r], [])
noncomputable def Sdrive_Right : List (V U) → List (Blk U) → Option (FnOut U) := mkSpec Adrive_Right bNil (fun x _ => drive_Right none x.1) Rdrive_Right
noncomputable def Pdrive_Right_0 (x : (Unit) × ((List (List UInt8)) × Unit) × (Int × Unit) × (Int × Unit) × Unit) (g : (Drive × Unit) × Unit) : Sdrive_Right_0 := Sdrive_Right_0.mk x.2.1.1 x.2.2.1.1 x.2.2.2.1.1 g.1.1
noncomputable def tAdrive_Right_0 : Tms U ((Unit) × ((List (List UInt8)) × Unit) × (Int × Unit) × (Int × Unit) × Unit) := tO 1 (cK (.ptr 0 0) (cUnit)) (tO 19 (cPair (cSl 9) (cUnit)) (tO 20 (cPair (cInt .i64) (cUnit)) (tO 21 (cPair (cInt .i64) (cUnit)) (tNil))))
noncomputable def tBdrive_Right_0 : Bls U ((Drive × Unit) × Unit) := bC (cPair cDrive (cUnit)) (bNil)
noncomputable def eSdrive_Right_0 (s : Sdrive_Right_0) : St U := { tm := [(1, .v (vO (cK (.ptr 0 0) (cUnit)) (()))), (19, .v (vO (cPair (cSl 9) (cUnit)) (s.t19, ()))), (20, .v (vO (cPair (cInt .i64) (cUnit)) (s.t20, ()))), (21, .v (vO (cPair (cInt .i64) (cUnit)) (s.t21, ())))], hp := [.cells ((cPair cDrive (cUnit) : Cdc U (Drive × Unit)).enc (s.b0, ())) none] }
noncomputable def xSdrive_Right_0 : ((Bool × Drive) ⊕ Drive) → Ex × St U
  | .inl r => (.ret, { tm := [(1, .v (vO (cK (.ptr 0 0) (cUnit)) (()))), (2, .v (vO (cPair cBool (cUnit)) (r.1, ())))], hp := [.cells ((cPair cDrive (cUnit) : Cdc U (Drive × Unit)).enc (r.2, ())) none] })
  | .inr r => (.exit 0, { tm := [(1, .v (vO (cK (.ptr 0 0) (cUnit)) (())))], hp := [.cells ((cPair cDrive (cUnit) : Cdc U (Drive × Unit)).enc (r, ())) none] })
noncomputable def xTdrive_Right_0 (y : ((Bool × Drive) ⊕ Drive)) : Tree (Ex × St U) := .ite y.isLeft (.opt (Bool × Drive) y.getLeft? fun r => .leaf (.ret, { tm := [(1, .v (vO (cK (.ptr 0 0) (cUnit)) (()))), (2, .v (vO (cPair cBool (cUnit)) (r.1, ())))], hp := [.cells ((cPair cDrive (cUnit) : Cdc U (Drive × Unit)).enc (r.2, ())) none] })) (.opt Drive y.getRight? fun r => .leaf (.exit 0, { tm := [(1, .v (vO (cK (.ptr 0 0) (cUnit)) (())))], hp := [.cells ((cPair cDrive (cUnit) : Cdc U (Drive × Unit)).enc (r, ())) none] }))
noncomputable def hdrive_Right_0 : Hd := { keep := [1, 19, 20, 21], xkeep := [1, 2], own := false }
noncomputable def Pdrive_Right_1 (x : (Unit) × (Int × Unit) × ((List Int) × Unit) × (Int × Unit) × (Int × Unit) × Unit) (g : (Drive × Unit) × Unit) : Sdrive_Right_1 := Sdrive_Right_1.mk x.2.1.1 x.2.2.1.1 x.2.2.2.1.1 x.2.2.2.2.1.1 g.1.1
noncomputable def tAdrive_Right_1 : Tms U ((Unit) × (Int × Unit) × ((List Int) × Unit) × (Int × Unit) × (Int × Unit) × Unit) := tO 1 (cK (.ptr 0 0) (cUnit)) (tO 5 (cPair (cInt .i64) (cUnit)) (tO 30 (cPair (cSl 3) (cUnit)) (tO 31 (cPair (cInt .i64) (cUnit)) (tO 32 (cPair (cInt .i64) (cUnit)) (tNil)))))
noncomputable def tBdrive_Right_1 : Bls U ((Drive × Unit) × Unit) := bC (cPair cDrive (cUnit)) (bNil)
noncomputable def eSdrive_Right_1 (s : Sdrive_Right_1) : St U := { tm := [(1, .v (vO (cK (.ptr 0 0) (cUnit)) (()))), (5, .v (vO (cPair (cInt .i64) (cUnit)) (s.t5, ()))), (30, .v (vO (cPair (cSl 3) (cUnit)) (s.t30, ()))), (31, .v (vO (cPair (cInt .i64) (cUnit)) (s.t31, ()))), (32, .v (vO (cPair (cInt .i64) (cUnit)) (s.t32, ())))], hp := [.cells ((cPair cDrive (cUnit) : Cdc U (Drive × Unit)).enc (s.b0, ())) none] }
noncomputable def xSdrive_Right_1 : (Bool ⊕ Unit) → Ex × St U
  | .inl r => (.ret, { tm := [(2, .v (vO (cPair cBool (cUnit)) (r, ())))], hp := [] })
  | .inr r => (.exit 2, { tm := [], hp := [] })
noncomputable def xTdrive_Right_1 (y : (Bool ⊕ Unit)) : Tree (Ex × St U) := .ite y.isLeft (.opt Bool y.getLeft? fun r => .leaf (.ret, { tm := [(2, .v (vO (cPair cBool (cUnit)) (r, ())))], hp := [] })) (.opt Unit y.getRight? fun r => .leaf (.exit 2, { tm := [], hp := [] }))
noncomputable def hdrive_Right_1 : Hd := { keep := [1, 5, 30, 31, 32], xkeep := [2], own := false }
noncomputable def Edrive_Right : Env U := { P := Tryz.prog, cd := cd, fns := fns110, lps := (addL 0 hdrive_Right_0 (mkLoop tAdrive_Right_0 tBdrive_Right_0 Pdrive_Right_0 (Ldrive_Right_0 none) xTdrive_Right_0) (addL 1 hdrive_Right_1 (mkLoop tAdrive_Right_1 tBdrive_Right_1 Pdrive_Right_1 (Ldrive_Right_1 none) xTdrive_Right_1) noL)), frz := fun _r => false, nt := 48, n0 := 0 }
noncomputable def Bdrive_Right_0 : Code := (loopAt (Tryz.f138.body.getD .skip) 0 0).getD .skip
theorem rounddrive_Right_0 (s : Sdrive_Right_0) : round Edrive_Right hdrive_Right_0 Bdrive_Right_0 0 (eSdrive_Right_0 s) = (Wdrive_Right_0 s).map (sumE eSdrive_Right_0 xSdrive_Right_0) := by kernel_rfl
theorem lpdrive_Right_0 : LpOk Edrive_Right Bdrive_Right_0 0 := mkLoop_ok (A := tAdrive_Right_0) (B := tBdrive_Right_0) (f := Pdrive_Right_0) (L := Ldrive_Right_0 none) (tO_ok (cK_ok cUnit_ok) (tO_ok (cPair_ok (cSl_ok 9) cUnit_ok) (tO_ok (cPair_ok (cInt_ok .i64) cUnit_ok) (tO_ok (cPair_ok (cInt_ok .i64) cUnit_ok) tNil_ok)))) (bC_ok (cPair_ok cDrive_ok cUnit_ok) bNil_ok) (enc := eSdrive_Right_0) (out := xTdrive_Right_0) (outS := xSdrive_Right_0) (step := Wdrive_Right_0) (fun _ => rfl) (fun _ _ => by kernel_rfl) (by kernel_rfl) (fun b => by cases b <;> rfl) rounddrive_Right_0
noncomputable def Bdrive_Right_1 : Code := (loopAt (Tryz.f138.body.getD .skip) 0 1).getD .skip
theorem rounddrive_Right_1 (s : Sdrive_Right_1) : round Edrive_Right hdrive_Right_1 Bdrive_Right_1 1 (eSdrive_Right_1 s) = (Wdrive_Right_1 s).map (sumE eSdrive_Right_1 xSdrive_Right_1) := by kernel_rfl
theorem lpdrive_Right_1 : LpOk Edrive_Right Bdrive_Right_1 1 := mkLoop_ok (A := tAdrive_Right_1) (B := tBdrive_Right_1) (f := Pdrive_Right_1) (L := Ldrive_Right_1 none) (tO_ok (cK_ok cUnit_ok) (tO_ok (cPair_ok (cInt_ok .i64) cUnit_ok) (tO_ok (cPair_ok (cSl_ok 3) cUnit_ok) (tO_ok (cPair_ok (cInt_ok .i64) cUnit_ok) (tO_ok (cPair_ok (cInt_ok .i64) cUnit_ok) tNil_ok))))) (bC_ok (cPair_ok cDrive_ok cUnit_ok) bNil_ok) (enc := eSdrive_Right_1) (out := xTdrive_Right_1) (outS := xSdrive_Right_1) (step := Wdrive_Right_1) (fun _ => rfl) (fun _ _ => by kernel_rfl) (by kernel_rfl) (fun b => by cases b <;> rfl) rounddrive_Right_1
theorem rundrive_Right (x : Drive × Unit) (g : Unit) : execF Edrive_Right Tryz.f138 (Adrive_Right.enc x) (bNil.enc g) = (Tdrive_Right none x.1).map Rdrive_Right := by kernel_rfl
theorem okdrive_Right : FnOk Tryz.prog cd 138 Sdrive_Right := mk_ok (E := Edrive_Right) cd_ok fns110_ok Tryz.func138 (by kernel_rfl) (loops_of (addL_ok lpdrive_Right_0 (addL_ok lpdrive_Right_1 noL_ok))) (aA_ok cDrive_ok (aNil_ok)) bNil_ok (T := fun x _ => Tdrive_Right none x.1) (fun _ _ => rfl) rundrive_Right
noncomputable def fns138 := addF 138 true Sdrive_Right fns110
theorem fns138_ok : ∀ f q t, fns138 f = some (q, t) → FnOk Tryz.prog cd f t := addF_ok okdrive_Right fns110_ok
/-- emulator/diskctl.isWord -/
noncomputable def Tdiskctl_isWord (x0 : Int) : Tree Bool :=
  .leaf (decide ((IntKind.wrap .i64 (((BitVec.ofInt 64 x0 &&& BitVec.ofInt 64 (65535 : Int)).toNat : Int))) = x0))
noncomputable def diskctl_isWord (x0 : Int) : Option Bool := (Tdiskctl_isWord x0).run
noncomputable def Adiskctl_isWord : Arg U (Int × Unit) := aO (cInt .i64) (aNil)
noncomputable def Rdiskctl_isWord (r : Bool) : List (V U) × List (Blk U) := ([vO cBool r], [])
noncomputable def Sdiskctl_isWord : List (V U) → List (Blk U) → Option (FnOut U) := mkSpec Adiskctl_isWord bNil (fun x _ => diskctl_isWord x.1) Rdiskctl_isWord
noncomputable def Ediskctl_isWord : Env U := { P := Tryz.prog, cd := cd, fns := fns138, lps := noL, frz := fun _r => false, nt := 7, n0 := 0 }
theorem rundiskctl_isWord (x : Int × Unit) (g : Unit) : execF Ediskctl_isWord Tryz.f139 (Adiskctl_isWord.enc x) (bNil.enc g) = (Tdiskctl_isWord x.1).map Rdiskctl_isWord := by kernel_rfl
theorem okdiskctl_isWord : FnOk Tryz.prog cd 139 Sdiskctl_isWord := mk_ok (E := Ediskctl_isWord) cd_ok fns138_ok Tryz.func139 (by kernel_rfl) (noLoops_body (by kernel_rfl)) (aO_ok (cInt_ok .i64) (aNil_ok)) bNil_ok (T := fun x _ => Tdiskctl_isWord x.1) (fun _ _ => rfl) rundiskctl_isWord
noncomputable def fns139 := addF 139 true Sdiskctl_isWord fns138
theorem fns139_ok : ∀ f q t, fns139 f = some (q, t) → FnOk Tryz.prog cd f t := addF_ok okdiskctl_isWord fns138_ok
/-- emulator/diskctl.Right -/
noncomputable def Tdiskctl_Right (q : Option Nat) (x0 : Disk) : Tree Bool :=
  .opt Bool (drive_Right q x0.drive) fun r44 =>
    .ite (!r44)
      (.leaf (false))
      (.ite (decide (x0.command < (0 : Int)))
        (.leaf (false))
        (.ite (decide ((3 : Int) < x0.command))
          (.leaf (false))
          (.opt Bool (diskctl_isWord x0.words) fun r45 =>
            .ite (!r45)
              (.leaf (false))
              (.opt Bool (diskctl_isWord x0.addr) fun r46 =>
                .ite (!r46)
                  (.leaf (false))
                  (.opt Bool (diskctl_isWord x0.start) fun r47 =>
                    .ite (!r47)
                      (.leaf (false))
                      (.ite (decide ((2 : Int) = 0))
                        .fail
                        (.ite (decide (((x0.addr).tmod (2 : Int)) = (1 : Int)))
                          (.leaf (false))
                          (.ite (decide (x0.left < (0 : Int)))
                            (.leaf (false))
                            (.ite (decide ((8 : Int) < x0.left))
                              (.leaf (false))
                              (.ite (!(x0.ready == (decide (x0.left = (0 : Int)))))
                                (.leaf (false))
                                (.ite (decide (x0.left = (0 : Int)))
                                  (.leaf (true))
                                  (.ite (!decide (x0.command = (0 : Int)))
                                    (.leaf (!decide (x0.words = (0 : Int))))
                                    (.leaf (false))))))))))))))
noncomputable def diskctl_Right (q : Option Nat) (x0 : Disk) : Option Bool := (Tdiskctl_Right q x0).run
theorem lediskctl_Right (k : Nat) (x0 : Disk) : Le (diskctl_Right (some k) x0) (diskctl_Right none x0) := (TLe.opt (ledrive_Right k _) fun _ => TLe.rfl)
noncomputable def Adiskctl_Right : Arg U (Disk × Unit) := aA cDisk (aNil)
noncomputable def Rdiskctl_Right (r : Bool) : List (V U) × List (Blk U) := ([vO cBool r], [])
noncomputable def Sdiskctl_Right : List (V U) → List (Blk U) → Option (FnOut U) := mkSpec Adiskctl_Right bNil (fun x _ => diskctl_Right none x.1) Rdiskctl_Right
noncomputable def Ediskctl_Right : Env U := { P := Tryz.prog, cd := cd, fns := fns139, lps := noL, frz := fun _r => false, nt := 70, n0 := 0 }
theorem rundiskctl_Right (x : Disk × Unit) (g : Unit) : execF Ediskctl_Right Tryz.f111 (Adiskctl_Right.enc x) (bNil.enc g) = (Tdiskctl_Right none x.1).map Rdiskctl_Right := by kernel_rfl
theorem okdiskctl_Right : FnOk Tryz.prog cd 111 Sdiskctl_Right := mk_ok (E := Ediskctl_Right) cd_ok fns139_ok Tryz.func111 (by kernel_rfl) (noLoops_body (by kernel_rfl)) (aA_ok cDisk_ok (aNil_ok)) bNil_ok (T := fun x _ => Tdiskctl_Right none x.1) (fun _ _ => rfl) rundiskctl_Right
noncomputable def fns111 := addF 111 true Sdiskctl_Right fns139
theorem fns111_ok : ∀ f q t, fns111 f = some (q, t) → FnOk Tryz.prog cd f t := addF_ok okdiskctl_Right fns139_ok
/-- emulator/tape.long -/
noncomputable def Ttape_long (x0 : (List UInt8)) : Tree Bool :=
  .leaf (decide ((512 : Int) < (x0.length : Int)))
noncomputable def tape_long (x0 : (List UInt8)) : Option Bool := (Ttape_long x0).run
noncomputable def Atape_long : Arg U ((List UInt8) × Unit) := aO cStr (aNil)
noncomputable def Rtape_long (r : Bool) : List (V U) × List (Blk U) := ([vO cBool r], [])
noncomputable def Stape_long : List (V U) → List (Blk U) → Option (FnOut U) := mkSpec Atape_long bNil (fun x _ => tape_long x.1) Rtape_long
noncomputable def Etape_long : Env U := { P := Tryz.prog, cd := cd, fns := fns111, lps := noL, frz := fun _r => false, nt := 6, n0 := 0 }
theorem runtape_long (x : (List UInt8) × Unit) (g : Unit) : execF Etape_long Tryz.f126 (Atape_long.enc x) (bNil.enc g) = (Ttape_long x.1).map Rtape_long := by kernel_rfl
theorem oktape_long : FnOk Tryz.prog cd 126 Stape_long := mk_ok (E := Etape_long) cd_ok fns111_ok Tryz.func126 (by kernel_rfl) (noLoops_body (by kernel_rfl)) (aO_ok cStr_ok (aNil_ok)) bNil_ok (T := fun x _ => Ttape_long x.1) (fun _ _ => rfl) runtape_long
noncomputable def fns126 := addF 126 true Stape_long fns111
theorem fns126_ok : ∀ f q t, fns126 f = some (q, t) → FnOk Tryz.prog cd f t := addF_ok oktape_long fns111_ok
/-- emulator/tape.isWord -/
noncomputable def Ttape_isWord (x0 : Int) : Tree Bool :=
  .leaf (decide ((IntKind.wrap .i64 (((BitVec.ofInt 64 x0 &&& BitVec.ofInt 64 (65535 : Int)).toNat : Int))) = x0))
noncomputable def tape_isWord (x0 : Int) : Option Bool := (Ttape_isWord x0).run
noncomputable def Atape_isWord : Arg U (Int × Unit) := aO (cInt .i64) (aNil)
noncomputable def Rtape_isWord (r : Bool) : List (V U) × List (Blk U) := ([vO cBool r], [])
noncomputable def Stape_isWord : List (V U) → List (Blk U) → Option (FnOut U) := mkSpec Atape_isWord bNil (fun x _ => tape_isWord x.1) Rtape_isWord
noncomputable def Etape_isWord : Env U := { P := Tryz.prog, cd := cd, fns := fns126, lps := noL, frz := fun _r => false, nt := 7, n0 := 0 }
theorem runtape_isWord (x : Int × Unit) (g : Unit) : execF Etape_isWord Tryz.f140 (Atape_isWord.enc x) (bNil.enc g) = (Ttape_isWord x.1).map Rtape_isWord := by kernel_rfl
theorem oktape_isWord : FnOk Tryz.prog cd 140 Stape_isWord := mk_ok (E := Etape_isWord) cd_ok fns126_ok Tryz.func140 (by kernel_rfl) (noLoops_body (by kernel_rfl)) (aO_ok (cInt_ok .i64) (aNil_ok)) bNil_ok (T := fun x _ => Ttape_isWord x.1) (fun _ _ => rfl) runtape_isWord
noncomputable def fns140 := addF 140 true Stape_isWord fns126
theorem fns140_ok : ∀ f q t, fns140 f = some (q, t) → FnOk Tryz.prog cd f t := addF_ok oktape_isWord fns126_ok
/-- slices.IndexFunc[[]string,string] -/
structure Sslices_IndexFunc_string_string_0 where
  t0 : (List (List UInt8))
  t7 : Int
  t8 : Int
noncomputable def Wslices_IndexFunc_string_string_0 (s : Sslices_IndexFunc_string_string_0) : Tree (Sslices_IndexFunc_string_string_0 ⊕ (Int ⊕ Unit)) :=
  .ite (decide (s.t8 < s.t7))
    (.ite (decide (0 ≤ s.t8))
      (.opt (List UInt8) (s.t0[(s.t8).toNat]?) fun y48 =>
        .opt Bool (tape_long y48) fun r49 =>
          .ite (r49)
            (.leaf (.inr (.inl s.t8)))
            (.leaf (.inl (Sslices_IndexFunc_string_string_0.mk s.t0 s.t7 (IntKind.wrap .i64 (s.t8 + (1 : Int)))))))
      .fail)
    (.leaf (.inr (.inr ())))
noncomputable def Lslices_IndexFunc_string_string_0 (q : Option Nat) (s : Sslices_IndexFunc_string_string_0) : Option (Int ⊕ Unit) := limQ q (fun s => (Wslices_IndexFunc_string_string_0 s).run) s
theorem leLslices_IndexFunc_string_string_0 (k : Nat) (s : Sslices_IndexFunc_string_string_0) : Le (Lslices_IndexFunc_string_string_0 (some k) s) (Lslices_IndexFunc_string_string_0 none s) := limQ_le (fun _ => Le.rfl) s
noncomputable def Tslices_IndexFunc_string_string (q : Option Nat) (x0 : (List (List UInt8))) : Tree Int :=
  .opt (Int ⊕ Unit) (Lslices_IndexFunc_string_string_0 q (Sslices_IndexFunc_string_string_0.mk x0 (x0.length : Int) (0 : Int))) fun l50 =>
    .ite (l50.isLeft)
      (.opt Int (l50.getLeft?) fun a51 =>
        .leaf (a51))
      (.opt Unit (l50.getRight?) fun b52 =>
        .leaf ((-1 : Int)))
noncomputable def slices_IndexFunc_string_string (q : Option Nat) (x0 : (List (List UInt8))) : Option Int := (Tslices_IndexFunc_string_string q x0).run
theorem leslices_IndexFunc_string_string (k : Nat) (x0 : (List (List UInt8))) : Le (slices_IndexFunc_string_string (some k) x0) (slices_IndexFunc_string_string none x0) := (TLe.opt (leLslices_IndexFunc_string_string_0 k _) fun _ => TLe.rfl)
noncomputable def Aslices_IndexFunc_string_string : Arg U ((List (List UInt8)) × Unit) := aO (cSl 9) (aF 126 [] (aNil))
noncomputable def Gslices_IndexFunc_string_string : Bls U (Unit) := bNil
noncomputable def Rslices_IndexFunc_string_string (_x : (List (List UInt8)) × Unit) (_g : Unit) (r : Int) : List (V U) × List (Blk U) := ([vO (cPair (cInt .i64) (cUnit)) (r, ())], [])
noncomputable def Sslices_IndexFunc_string_string : List (V U) → List (Blk U) → Option (FnOut U) := mkSpecG Aslices_IndexFunc_string_string Gslices_IndexFunc_string_string (fun x _ => slices_IndexFunc_string_string none x.1) Rslices_IndexFunc_string_string
noncomputable def Pslices_IndexFunc_string_string_0 (x : ((List (List UInt8)) × Unit) × (Unit) × (Int × Unit) × (Int × Unit) × Unit) (_g : Unit) : Sslices_IndexFunc_string_string_0 := Sslices_IndexFunc_string_string_0.mk x.1.1 x.2.2.1.1 x.2.2.2.1.1
noncomputable def tAslices_IndexFunc_string_string_0 : Tms U (((List (List UInt8)) × Unit) × (Unit) × (Int × Unit) × (Int × Unit) × Unit) := tO 0 (cPair (cSl 9) (cUnit)) (tO 1 (cK2 (.fn 126 [] []) (cUnit)) (tO 7 (cPair (cInt .i64) (cUnit)) (tO 8 (cPair (cInt .i64) (cUnit)) (tNil))))
noncomputable def tBslices_IndexFunc_string_string_0 : Bls U (Unit) := bNil
noncomputable def eSslices_IndexFunc_string_string_0 (s : Sslices_IndexFunc_string_string_0) : St U := { tm := [(0, .v (vO (cPair (cSl 9) (cUnit)) (s.t0, ()))), (1, .v (vO (cK2 (.fn 126 [] []) (cUnit)) (()))), (7, .v (vO (cPair (cInt .i64) (cUnit)) (s.t7, ()))), (8, .v (vO (cPair (cInt .i64) (cUnit)) (s.t8, ())))], hp := [] }
noncomputable def xSslices_IndexFunc_string_string_0 : (Int ⊕ Unit) → Ex × St U
  | .inl r => (.ret, { tm := [(4, .v (vO (cPair (cInt .i64) (cUnit)) (r, ())))], hp := [] })
  | .inr r => (.exit 0, { tm := [], hp := [] })
noncomputable def xTslices_IndexFunc_string_string_0 (y : (Int ⊕ Unit)) : Tree (Ex × St U) := .ite y.isLeft (.opt Int y.getLeft? fun r => .leaf (.ret, { tm := [(4, .v (vO (cPair (cInt .i64) (cUnit)) (r, ())))], hp := [] })) (.opt Unit y.getRight? fun r => .leaf (.exit 0, { tm := [], hp := [] }))
noncomputable def hslices_IndexFunc_string_string_0 : Hd := { keep := [0, 1, 7, 8], xkeep := [4], own := false }
noncomputable def Eslices_IndexFunc_string_string : Env U := { P := Tryz.prog, cd := cd, fns := fns140, lps := (addL 0 hslices_IndexFunc_string_string_0 (mkLoop tAslices_IndexFunc_string_string_0 tBslices_IndexFunc_string_string_0 Pslices_IndexFunc_string_string_0 (Lslices_IndexFunc_string_string_0 none) xTslices_IndexFunc_string_string_0) noL), frz := fun _r => false, nt := 19, n0 := 0 }
noncomputable def Bslices_IndexFunc_string_string_0 : Code := (loopAt (Tryz.f146.body.getD .skip) 0 0).getD .skip
theorem roundslices_IndexFunc_string_string_0 (s : Sslices_IndexFunc_string_string_0) : round Eslices_IndexFunc_string_string hslices_IndexFunc_string_string_0 Bslices_IndexFunc_string_string_0 0 (eSslices_IndexFunc_string_string_0 s) = (Wslices_IndexFunc_string_string_0 s).map (sumE eSslices_IndexFunc_string_string_0 xSslices_IndexFunc_string_string_0) := by kernel_rfl
theorem lpslices_IndexFunc_string_string_0 : LpOk Eslices_IndexFunc_string_string Bslices_IndexFunc_string_string_0 0 := mkLoop_ok (A := tAslices_IndexFunc_string_string_0) (B := tBslices_IndexFunc_string_string_0) (f := Pslices_IndexFunc_string_string_0) (L := Lslices_IndexFunc_string_string_0 none) (tO_ok (cPair_ok (cSl_ok 9) cUnit_ok) (tO_ok (cK2_ok cUnit_ok) (tO_ok (cPair_ok (cInt_ok .i64) cUnit_ok) (tO_ok (cPair_ok (cInt_ok .i64) cUnit_ok) tNil_ok)))) bNil_ok (enc := eSslices_IndexFunc_string_string_0) (out := xTslices_IndexFunc_string_string_0) (outS := xSslices_IndexFunc_string_string_0) (step := Wslices_IndexFunc_string_string_0) (fun _ => rfl) (fun _ _ => by kernel_rfl) (by kernel_rfl) (fun b => by cases b <;> rfl) roundslices_IndexFunc_string_string_0
theorem rnslices_IndexFunc_string_string (x0 : (List (List UInt8))) : execX false Eslices_IndexFunc_string_string Tryz.f146 (Aslices_IndexFunc_string_string.enc (x0, ())) (Gslices_IndexFunc_string_string.enc ()) = (Tslices_IndexFunc_string_string none x0).map (Rslices_IndexFunc_string_string (x0, ()) ()) := by kernel_rfl
theorem runslices_IndexFunc_string_string : ∀ (x : (List (List UInt8)) × Unit) (g : Unit), execX false Eslices_IndexFunc_string_string Tryz.f146 (Aslices_IndexFunc_string_string.enc x) (Gslices_IndexFunc_string_string.enc g) = (Tslices_IndexFunc_string_string none x.1).map (Rslices_IndexFunc_string_string x g)
  | (x0, ()), () => rnslices_IndexFunc_string_string x0
theorem okslices_IndexFunc_string_string : FnOk Tryz.prog cd 146 Sslices_IndexFunc_string_string := mk_okG (E := Eslices_IndexFunc_string_string) (A := Aslices_IndexFunc_string_string) (B := Gslices_IndexFunc_string_string) false cd_ok fns140_ok Tryz.func146 (by kernel_rfl) (loops_of (addL_ok lpslices_IndexFunc_string_string_0 noL_ok)) (aO_ok (cSl_ok 9) (aF_ok (aNil_ok))) bNil_ok (T := fun (x : (List (List UInt8)) × Unit) (_ : Unit) => Tslices_IndexFunc_string_string none x.1) (fun _ _ => rfl) runslices_IndexFunc_string_string
/-- slices.ContainsFunc[[]string,string] -/
noncomputable def Tslices_ContainsFunc_string_string (q : Option Nat) (x0 : (List (List UInt8))) : Tree Bool :=
  .opt Int (slices_IndexFunc_string_string q x0) fun r53 =>
    .leaf (decide ((0 : Int) ≤ r53))
noncomputable def slices_ContainsFunc_string_string (q : Option Nat) (x0 : (List (List UInt8))) : Option Bool := (Tslices_ContainsFunc_string_string q x0).run
theorem leslices_ContainsFunc_string_string (k : Nat) (x0 : (List (List UInt8))) : Le (slices_ContainsFunc_string_string (some k) x0) (slices_ContainsFunc_string_string none x0) := (TLe.opt (leslices_IndexFunc_string_string k _) fun _ => TLe.rfl)
noncomputable def Aslices_ContainsFunc_string_string : Arg U ((List (List UInt8)) × Unit) := aO (cSl 9) (aF 126 [] (aNil))
noncomputable def Gslices_ContainsFunc_string_string : Bls U (Unit) := bNil
noncomputable def Rslices_ContainsFunc_string_string (_x : (List (List UInt8)) × Unit) (_g : Unit) (r : Bool) : List (V U) × List (Blk U) := ([vO (cPair cBool (cUnit)) (r, ())], [])
noncomputable def Sslices_ContainsFunc_string_string : List (V U) → List (Blk U) → Option (FnOut U) := mkSpecG Aslices_ContainsFunc_string_string Gslices_ContainsFunc_string_string (fun x _ => slices_ContainsFunc_string_string none x.1) Rslices_ContainsFunc_string_string
noncomputable def Eslices_ContainsFunc_string_string : Env U := { P := Tryz.prog, cd := cd, fns := (addF 146 false (Sslices_IndexFunc_string_string) fns140), lps := noL, frz := fun _r => false, nt := 9, n0 := 0 }
theorem rnslices_ContainsFunc_string_string (x0 : (List (List UInt8))) : execX false Eslices_ContainsFunc_string_string Tryz.f125 (Aslices_ContainsFunc_string_string.enc (x0, ())) (Gslices_ContainsFunc_string_string.enc ()) = (Tslices_ContainsFunc_string_string none x0).map (Rslices_ContainsFunc_string_string (x0, ()) ()) := by kernel_rfl
theorem runslices_ContainsFunc_string_string : ∀ (x : (List (List UInt8)) × Unit) (g : Unit), execX false Eslices_ContainsFunc_string_string Tryz.f125 (Aslices_ContainsFunc_string_string.enc x) (Gslices_ContainsFunc_string_string.enc g) = (Tslices_ContainsFunc_string_string none x.1).map (Rslices_ContainsFunc_string_string x g)
  | (x0, ()), () => rnslices_ContainsFunc_string_string x0
theorem okslices_ContainsFunc_string_string : FnOk Tryz.prog cd 125 Sslices_ContainsFunc_string_string := mk_okG (E := Eslices_ContainsFunc_string_string) (A := Aslices_ContainsFunc_string_string) (B := Gslices_ContainsFunc_string_string) false cd_ok (addF_ok okslices_IndexFunc_string_string fns140_ok) Tryz.func125 (by kernel_rfl) (noLoops_body (by kernel_rfl)) (aO_ok (cSl_ok 9) (aF_ok (aNil_ok))) bNil_ok (T := fun (x : (List (List UInt8)) × Unit) (_ : Unit) => Tslices_ContainsFunc_string_string none x.1) (fun _ _ => rfl) runslices_ContainsFunc_string_string
/-- emulator/tape.Right -/
noncomputable def Ttape_Right (q : Option Nat) (x0 : Tape) : Tree Bool :=
  .ite (decide ((64 : Int) < (x0.records.length : Int)))
    (.leaf (false))
    (.opt Bool (slices_ContainsFunc_string_string q x0.records) fun r54 =>
      .ite (r54)
        (.leaf (false))
        (.ite (decide (x0.pos < (0 : Int)))
          (.leaf (false))
          (.ite (decide ((x0.records.length : Int) < x0.pos))
            (.leaf (false))
            (.ite (decide ((0 : Int) ≤ x0.command))
              (.ite (decide (x0.command ≤ (6 : Int)))
                (.opt Bool (tape_isWord x0.count) fun r55 =>
                  .ite (r55)
                    (.opt Bool (tape_isWord x0.addr) fun r56 =>
                      .ite (r56)
                        (.ite (decide ((0 : Int) ≤ x0.left))
                          (.ite (decide (x0.left ≤ (16 : Int)))
                            (.leaf ((x0.ready == (decide (x0.left = (0 : Int))))))
                            (.leaf (false)))
                          (.leaf (false)))
                        (.leaf (false)))
                    (.leaf (false)))
                (.leaf (false)))
              (.leaf (false))))))
noncomputable def tape_Right (q : Option Nat) (x0 : Tape) : Option Bool := (Ttape_Right q x0).run
theorem letape_Right (k : Nat) (x0 : Tape) : Le (tape_Right (some k) x0) (tape_Right none x0) := (TLe.ite TLe.rfl (TLe.opt (leslices_ContainsFunc_string_string k _) fun _ => TLe.rfl))
noncomputable def Atape_Right : Arg U (Tape × Unit) := aA cTape (aNil)
noncomputable def Rtape_Right (r : Bool) : List (V U) × List (Blk U) := ([vO cBool r], [])
noncomputable def Stape_Right : List (V U) → List (Blk U) → Option (FnOut U) := mkSpec Atape_Right bNil (fun x _ => tape_Right none x.1) Rtape_Right
noncomputable def Etape_Right : Env U := { P := Tryz.prog, cd := cd, fns := (addF 125 false (Sslices_ContainsFunc_string_string) fns140), lps := noL, frz := fun _r => false, nt := 61, n0 := 0 }
theorem runtape_Right (x : Tape × Unit) (g : Unit) : execF Etape_Right Tryz.f112 (Atape_Right.enc x) (bNil.enc g) = (Ttape_Right none x.1).map Rtape_Right := by kernel_rfl
theorem oktape_Right : FnOk Tryz.prog cd 112 Stape_Right := mk_ok (E := Etape_Right) cd_ok (addF_ok okslices_ContainsFunc_string_string fns140_ok) Tryz.func112 (by kernel_rfl) (noLoops_body (by kernel_rfl)) (aA_ok cTape_ok (aNil_ok)) bNil_ok (T := fun x _ => Ttape_Right none x.1) (fun _ _ => rfl) runtape_Right
noncomputable def fns112 := addF 112 true Stape_Right fns140
theorem fns112_ok : ∀ f q t, fns112 f = some (q, t) → FnOk Tryz.prog cd f t := addF_ok oktape_Right fns140_ok
/-- emulator/bus.Right -/
structure Sbus_Right_0 where
  t30 : (List Line)
  t31 : Int
  t32 : Int
  b0 : Machine
noncomputable def Wbus_Right_0 (s : Sbus_Right_0) : Tree (Sbus_Right_0 ⊕ ((Bool × Machine) ⊕ Machine)) :=
  .ite (decide (s.t32 < s.t31))
    (.ite (decide (0 ≤ s.t32))
      (.opt Line (s.t30[(s.t32).toNat]?) fun y60 =>
        .opt Bool (line_Right y60) fun r61 =>
          .ite (!r61)
            (.leaf (.inr (.inl (false, s.b0))))
            (.leaf (.inl (Sbus_Right_0.mk s.t30 s.t31 (IntKind.wrap .i64 (s.t32 + (1 : Int))) s.b0))))
      .fail)
    (.leaf (.inr (.inr s.b0)))
noncomputable def Lbus_Right_0 (q : Option Nat) (s : Sbus_Right_0) : Option ((Bool × Machine) ⊕ Machine) := limQ q (fun s => (Wbus_Right_0 s).run) s
theorem leLbus_Right_0 (k : Nat) (s : Sbus_Right_0) : Le (Lbus_Right_0 (some k) s) (Lbus_Right_0 none s) := limQ_le (fun _ => Le.rfl) s
noncomputable def Tbus_Right (q : Option Nat) (x0 : Machine) : Tree Bool :=
  .ite (decide ((4 : Int) < (x0.lines.length : Int)))
    (.leaf (false))
    (.opt Bool (memory_Right q x0.mem x0.bad) fun r57 =>
      .ite (!r57)
        (.leaf (false))
        (.opt Bool (mmu_Right q x0.mmu) fun r58 =>
          .ite (!r58)
            (.leaf (false))
            (.opt Bool (clock_Right x0.clock) fun r59 =>
              .ite (!r59)
                (.leaf (false))
                (.opt ((Bool × Machine) ⊕ Machine) (Lbus_Right_0 q (Sbus_Right_0.mk x0.lines (x0.lines.length : Int) (0 : Int) x0)) fun l62 =>
                  .ite (l62.isLeft)
                    (.opt (Bool × Machine) (l62.getLeft?) fun a63 =>
                      .leaf (a63.1))
                    (.opt Machine (l62.getRight?) fun b64 =>
                      .opt Bool (diskctl_Right q b64.disk) fun r65 =>
                        .ite (r65)
                          (.opt Bool (tape_Right q b64.tape) fun r66 =>
                            .leaf (r66))
                          (.leaf (false)))))))
noncomputable def bus_Right (q : Option Nat) (x0 : Machine) : Option Bool := (Tbus_Right q x0).run
theorem lebus_Right (k : Nat) (x0 : Machine) : Le (bus_Right (some k) x0) (bus_Right none x0) := (TLe.ite TLe.rfl (TLe.opt (lememory_Right k _ _) fun _ => (TLe.ite TLe.rfl (TLe.opt (lemmu_Right k _) fun _ => (TLe.ite TLe.rfl (TLe.opt Le.rfl fun _ => (TLe.ite TLe.rfl (TLe.opt (leLbus_Right_0 k _) fun _ => (TLe.ite TLe.rfl (TLe.opt Le.rfl fun _ => (TLe.opt (lediskctl_Right k _) fun _ => (TLe.ite (TLe.opt (letape_Right k _) fun _ => TLe.rfl) TLe.rfl))))))))))))
noncomputable def Abus_Right : Arg U (Machine × Unit) := aA cMachine (aNil)
noncomputable def Rbus_Right (r : Bool) : List (V U) × List (Blk U) := ([vO cBool r], [])
noncomputable def Sbus_Right : List (V U) → List (Blk U) → Option (FnOut U) := mkSpec Abus_Right bNil (fun x _ => bus_Right none x.1) Rbus_Right
noncomputable def Pbus_Right_0 (x : (Unit) × ((List Line) × Unit) × (Int × Unit) × (Int × Unit) × Unit) (g : (Machine × Unit) × Unit) : Sbus_Right_0 := Sbus_Right_0.mk x.2.1.1 x.2.2.1.1 x.2.2.2.1.1 g.1.1
noncomputable def tAbus_Right_0 : Tms U ((Unit) × ((List Line) × Unit) × (Int × Unit) × (Int × Unit) × Unit) := tO 1 (cK (.ptr 0 0) (cUnit)) (tO 30 (cPair (cSl 66) (cUnit)) (tO 31 (cPair (cInt .i64) (cUnit)) (tO 32 (cPair (cInt .i64) (cUnit)) (tNil))))
noncomputable def tBbus_Right_0 : Bls U ((Machine × Unit) × Unit) := bC (cPair cMachine (cUnit)) (bNil)
noncomputable def eSbus_Right_0 (s : Sbus_Right_0) : St U := { tm := [(1, .v (vO (cK (.ptr 0 0) (cUnit)) (()))), (30, .v (vO (cPair (cSl 66) (cUnit)) (s.t30, ()))), (31, .v (vO (cPair (cInt .i64) (cUnit)) (s.t31, ()))), (32, .v (vO (cPair (cInt .i64) (cUnit)) (s.t32, ())))], hp := [.cells ((cPair cMachine (cUnit) : Cdc U (Machine × Unit)).enc (s.b0, ())) none] }
noncomputable def xSbus_Right_0 : ((Bool × Machine) ⊕ Machine) → Ex × St U
  | .inl r => (.ret, { tm := [(1, .v (vO (cK (.ptr 0 0) (cUnit)) (()))), (2, .v (vO (cPair cBool (cUnit)) (r.1, ())))], hp := [.cells ((cPair cMachine (cUnit) : Cdc U (Machine × Unit)).enc (r.2, ())) none] })
  | .inr r => (.exit 0, { tm := [(1, .v (vO (cK (.ptr 0 0) (cUnit)) (())))], hp := [.cells ((cPair cMachine (cUnit) : Cdc U (Machine × Unit)).enc (r, ())) none] })
noncomputable def xTbus_Right_0 (y : ((Bool × Machine) ⊕ Machine)) : Tree (Ex × St U) := .ite y.isLeft (.opt (Bool × Machine) y.getLeft? fun r => .leaf (.ret, { tm := [(1, .v (vO (cK (.ptr 0 0) (cUnit)) (()))), (2, .v (vO (cPair cBool (cUnit)) (r.1, ())))], hp := [.cells ((cPair cMachine (cUnit) : Cdc U (Machine × Unit)).enc (r.2, ())) none] })) (.opt Machine y.getRight? fun r => .leaf (.exit 0, { tm := [(1, .v (vO (cK (.ptr 0 0) (cUnit)) (())))], hp := [.cells ((cPair cMachine (cUnit) : Cdc U (Machine × Unit)).enc (r, ())) none] }))
noncomputable def hbus_Right_0 : Hd := { keep := [1, 30, 31, 32], xkeep := [1, 2], own := false }
noncomputable def Ebus_Right : Env U := { P := Tryz.prog, cd := cd, fns := fns112, lps := (addL 0 hbus_Right_0 (mkLoop tAbus_Right_0 tBbus_Right_0 Pbus_Right_0 (Lbus_Right_0 none) xTbus_Right_0) noL), frz := fun _r => false, nt := 48, n0 := 0 }
noncomputable def Bbus_Right_0 : Code := (loopAt (Tryz.f51.body.getD .skip) 0 0).getD .skip
theorem roundbus_Right_0 (s : Sbus_Right_0) : round Ebus_Right hbus_Right_0 Bbus_Right_0 0 (eSbus_Right_0 s) = (Wbus_Right_0 s).map (sumE eSbus_Right_0 xSbus_Right_0) := by kernel_rfl
theorem lpbus_Right_0 : LpOk Ebus_Right Bbus_Right_0 0 := mkLoop_ok (A := tAbus_Right_0) (B := tBbus_Right_0) (f := Pbus_Right_0) (L := Lbus_Right_0 none) (tO_ok (cK_ok cUnit_ok) (tO_ok (cPair_ok (cSl_ok 66) cUnit_ok) (tO_ok (cPair_ok (cInt_ok .i64) cUnit_ok) (tO_ok (cPair_ok (cInt_ok .i64) cUnit_ok) tNil_ok)))) (bC_ok (cPair_ok cMachine_ok cUnit_ok) bNil_ok) (enc := eSbus_Right_0) (out := xTbus_Right_0) (outS := xSbus_Right_0) (step := Wbus_Right_0) (fun _ => rfl) (fun _ _ => by kernel_rfl) (by kernel_rfl) (fun b => by cases b <;> rfl) roundbus_Right_0
theorem runbus_Right (x : Machine × Unit) (g : Unit) : execF Ebus_Right Tryz.f51 (Abus_Right.enc x) (bNil.enc g) = (Tbus_Right none x.1).map Rbus_Right := by kernel_rfl
theorem okbus_Right : FnOk Tryz.prog cd 51 Sbus_Right := mk_ok (E := Ebus_Right) cd_ok fns112_ok Tryz.func51 (by kernel_rfl) (loops_of (addL_ok lpbus_Right_0 noL_ok)) (aA_ok cMachine_ok (aNil_ok)) bNil_ok (T := fun x _ => Tbus_Right none x.1) (fun _ _ => rfl) runbus_Right
noncomputable def fns51 := addF 51 true Sbus_Right fns112
theorem fns51_ok : ∀ f q t, fns51 f = some (q, t) → FnOk Tryz.prog cd f t := addF_ok okbus_Right fns112_ok
/-- emulator/cpu.isWord -/
noncomputable def Tcpu_isWord (x0 : Int) : Tree Bool :=
  .ite (decide ((0 : Int) ≤ x0))
    (.leaf (decide (x0 ≤ (65535 : Int))))
    (.leaf (false))
noncomputable def cpu_isWord (x0 : Int) : Option Bool := (Tcpu_isWord x0).run
noncomputable def Acpu_isWord : Arg U (Int × Unit) := aO (cInt .i64) (aNil)
noncomputable def Rcpu_isWord (r : Bool) : List (V U) × List (Blk U) := ([vO cBool r], [])
noncomputable def Scpu_isWord : List (V U) → List (Blk U) → Option (FnOut U) := mkSpec Acpu_isWord bNil (fun x _ => cpu_isWord x.1) Rcpu_isWord
noncomputable def Ecpu_isWord : Env U := { P := Tryz.prog, cd := cd, fns := fns51, lps := noL, frz := fun _r => false, nt := 9, n0 := 0 }
theorem runcpu_isWord (x : Int × Unit) (g : Unit) : execF Ecpu_isWord Tryz.f113 (Acpu_isWord.enc x) (bNil.enc g) = (Tcpu_isWord x.1).map Rcpu_isWord := by kernel_rfl
theorem okcpu_isWord : FnOk Tryz.prog cd 113 Scpu_isWord := mk_ok (E := Ecpu_isWord) cd_ok fns51_ok Tryz.func113 (by kernel_rfl) (noLoops_body (by kernel_rfl)) (aO_ok (cInt_ok .i64) (aNil_ok)) bNil_ok (T := fun x _ => Tcpu_isWord x.1) (fun _ _ => rfl) runcpu_isWord
noncomputable def fns113 := addF 113 true Scpu_isWord fns51
theorem fns113_ok : ∀ f q t, fns113 f = some (q, t) → FnOk Tryz.prog cd f t := addF_ok okcpu_isWord fns51_ok
/-- emulator/psw.Valid -/
noncomputable def Tpsw_Valid (x0 : Int) : Tree Bool :=
  .leaf (decide ((IntKind.wrap .i64 (((BitVec.ofInt 64 x0 &&& BitVec.ofInt 64 (49407 : Int)).toNat : Int))) = x0))
noncomputable def psw_Valid (x0 : Int) : Option Bool := (Tpsw_Valid x0).run
noncomputable def Apsw_Valid : Arg U (Int × Unit) := aO (cInt .i64) (aNil)
noncomputable def Rpsw_Valid (r : Bool) : List (V U) × List (Blk U) := ([vO cBool r], [])
noncomputable def Spsw_Valid : List (V U) → List (Blk U) → Option (FnOut U) := mkSpec Apsw_Valid bNil (fun x _ => psw_Valid x.1) Rpsw_Valid
noncomputable def Epsw_Valid : Env U := { P := Tryz.prog, cd := cd, fns := fns113, lps := noL, frz := fun _r => false, nt := 7, n0 := 0 }
theorem runpsw_Valid (x : Int × Unit) (g : Unit) : execF Epsw_Valid Tryz.f114 (Apsw_Valid.enc x) (bNil.enc g) = (Tpsw_Valid x.1).map Rpsw_Valid := by kernel_rfl
theorem okpsw_Valid : FnOk Tryz.prog cd 114 Spsw_Valid := mk_ok (E := Epsw_Valid) cd_ok fns113_ok Tryz.func114 (by kernel_rfl) (noLoops_body (by kernel_rfl)) (aO_ok (cInt_ok .i64) (aNil_ok)) bNil_ok (T := fun x _ => Tpsw_Valid x.1) (fun _ _ => rfl) runpsw_Valid
noncomputable def fns114 := addF 114 true Spsw_Valid fns113
theorem fns114_ok : ∀ f q t, fns114 f = some (q, t) → FnOk Tryz.prog cd f t := addF_ok okpsw_Valid fns113_ok
/-- emulator/cpu.Right -/
structure Scpu_Right_0 where
  t6_0 : (List Int)
  t7 : Int
  b0 : Cpu
noncomputable def Wcpu_Right_0 (s : Scpu_Right_0) : Tree (Scpu_Right_0 ⊕ ((Bool × Cpu) ⊕ Cpu)) :=
  .ite (decide (s.t7 < (6 : Int)))
    (.ite (decide (0 ≤ s.t7))
      (.ite (decide (s.t7 < (6 : Int)))
        (.opt Int (s.t6_0[(s.t7).toNat]?) fun y67 =>
          .opt Bool (cpu_isWord y67) fun r68 =>
            .ite (!r68)
              (.leaf (.inr (.inl (false, s.b0))))
              (.leaf (.inl (Scpu_Right_0.mk s.t6_0 (IntKind.wrap .i64 (s.t7 + (1 : Int))) s.b0))))
        .fail)
      .fail)
    (.leaf (.inr (.inr s.b0)))
noncomputable def Lcpu_Right_0 (q : Option Nat) (s : Scpu_Right_0) : Option ((Bool × Cpu) ⊕ Cpu) := limQ q (fun s => (Wcpu_Right_0 s).run) s
theorem leLcpu_Right_0 (k : Nat) (s : Scpu_Right_0) : Le (Lcpu_Right_0 (some k) s) (Lcpu_Right_0 none s) := limQ_le (fun _ => Le.rfl) s
noncomputable def Tcpu_Right (q : Option Nat) (x0 : Cpu) : Tree Bool :=
  .opt ((Bool × Cpu) ⊕ Cpu) (Lcpu_Right_0 q (Scpu_Right_0.mk x0.r (0 : Int) x0)) fun l69 =>
    .ite (l69.isLeft)
      (.opt (Bool × Cpu) (l69.getLeft?) fun a70 =>
        .leaf (a70.1))
      (.opt Cpu (l69.getRight?) fun b71 =>
        .ite (decide (0 ≤ (0 : Int)))
          (.ite (decide ((0 : Int) < (2 : Int)))
            (.opt Int (b71.sP[((0 : Int)).toNat * 1]?) fun y72 =>
              .opt Bool (cpu_isWord y72) fun r73 =>
                .ite (r73)
                  (.ite (decide (0 ≤ (1 : Int)))
                    (.ite (decide ((1 : Int) < (2 : Int)))
                      (.opt Int (b71.sP[((1 : Int)).toNat * 1]?) fun y74 =>
                        .opt Bool (cpu_isWord y74) fun r75 =>
                          .ite (r75)
                            (.opt Bool (cpu_isWord b71.pC) fun r76 =>
                              .ite (r76)
                                (.opt Bool (psw_Valid b71.pSW) fun r77 =>
                                  .leaf (r77))
                                (.leaf (false)))
                            (.leaf (false)))
                      .fail)
                    .fail)
                  (.leaf (false)))
            .fail)
          .fail)
noncomputable def cpu_Right (q : Option Nat) (x0 : Cpu) : Option Bool := (Tcpu_Right q x0).run
theorem lecpu_Right (k : Nat) (x0 : Cpu) : Le (cpu_Right (some k) x0) (cpu_Right none x0) := (TLe.opt (leLcpu_Right_0 k _) fun _ => TLe.rfl)
noncomputable def Acpu_Right : Arg U (Cpu × Unit) := aA cCpu (aNil)
noncomputable def Rcpu_Right (r : Bool) : List (V U) × List (Blk U) := ([vO cBool r], [])
noncomputable def Scpu_Right : List (V U) → List (Blk U) → Option (FnOut U) := mkSpec Acpu_Right bNil (fun x _ => cpu_Right none x.1) Rcpu_Right
noncomputable def Pcpu_Right_0 (x : (Unit) × ((List Int) × Unit) × (Int × Unit) × Unit) (g : (Cpu × Unit) × Unit) : Scpu_Right_0 := Scpu_Right_0.mk x.2.1.1 x.2.2.1.1 g.1.1
noncomputable def tAcpu_Right_0 : Tms U ((Unit) × ((List Int) × Unit) × (Int × Unit) × Unit) := tO 1 (cK (.ptr 0 0) (cUnit)) (tA 6 (cPair (cArr 3 6) (cUnit)) (tO 7 (cPair (cInt .i64) (cUnit)) (tNil)))
noncomputable def tBcpu_Right_0 : Bls U ((Cpu × Unit) × Unit) := bC (cPair cCpu (cUnit)) (bNil)
noncomputable def eScpu_Right_0 (s : Scpu_Right_0) : St U := { tm := [(1, .v (vO (cK (.ptr 0 0) (cUnit)) (()))), (6, .v (vA (cPair (cArr 3 6) (cUnit)) (s.t6_0, ()))), (7, .v (vO (cPair (cInt .i64) (cUnit)) (s.t7, ())))], hp := [.cells ((cPair cCpu (cUnit) : Cdc U (Cpu × Unit)).enc (s.b0, ())) none] }
noncomputable def xScpu_Right_0 : ((Bool × Cpu) ⊕ Cpu) → Ex × St U
  | .inl r => (.ret, { tm := [(1, .v (vO (cK (.ptr 0 0) (cUnit)) (()))), (2, .v (vO (cPair cBool (cUnit)) (r.1, ())))], hp := [.cells ((cPair cCpu (cUnit) : Cdc U (Cpu × Unit)).enc (r.2, ())) none] })
  | .inr r => (.exit 0, { tm := [(1, .v (vO (cK (.ptr 0 0) (cUnit)) (())))], hp := [.cells ((cPair cCpu (cUnit) : Cdc U (Cpu × Unit)).enc (r, ())) none] })
noncomputable def xTcpu_Right_0 (y : ((Bool × Cpu) ⊕ Cpu)) : Tree (Ex × St U) := .ite y.isLeft (.opt (Bool × Cpu) y.getLeft? fun r => .leaf (.ret, { tm := [(1, .v (vO (cK (.ptr 0 0) (cUnit)) (()))), (2, .v (vO (cPair cBool (cUnit)) (r.1, ())))], hp := [.cells ((cPair cCpu (cUnit) : Cdc U (Cpu × Unit)).enc (r.2, ())) none] })) (.opt Cpu y.getRight? fun r => .leaf (.exit 0, { tm := [(1, .v (vO (cK (.ptr 0 0) (cUnit)) (())))], hp := [.cells ((cPair cCpu (cUnit) : Cdc U (Cpu × Unit)).enc (r, ())) none] }))
noncomputable def hcpu_Right_0 : Hd := { keep := [1, 6, 7], xkeep := [1, 2], own := false }
noncomputable def Ecpu_Right : Env U := { P := Tryz.prog, cd := cd, fns := fns114, lps := (addL 0 hcpu_Right_0 (mkLoop tAcpu_Right_0 tBcpu_Right_0 Pcpu_Right_0 (Lcpu_Right_0 none) xTcpu_Right_0) noL), frz := fun _r => false, nt := 34, n0 := 0 }
noncomputable def Bcpu_Right_0 : Code := (loopAt (Tryz.f52.body.getD .skip) 0 0).getD .skip
theorem roundcpu_Right_0 (s : Scpu_Right_0) : round Ecpu_Right hcpu_Right_0 Bcpu_Right_0 0 (eScpu_Right_0 s) = (Wcpu_Right_0 s).map (sumE eScpu_Right_0 xScpu_Right_0) := by kernel_rfl
theorem lpcpu_Right_0 : LpOk Ecpu_Right Bcpu_Right_0 0 := mkLoop_ok (A := tAcpu_Right_0) (B := tBcpu_Right_0) (f := Pcpu_Right_0) (L := Lcpu_Right_0 none) (tO_ok (cK_ok cUnit_ok) (tA_ok (cPair_ok (cArr_ok 3 6) cUnit_ok) (tO_ok (cPair_ok (cInt_ok .i64) cUnit_ok) tNil_ok))) (bC_ok (cPair_ok cCpu_ok cUnit_ok) bNil_ok) (enc := eScpu_Right_0) (out := xTcpu_Right_0) (outS := xScpu_Right_0) (step := Wcpu_Right_0) (fun _ => rfl) (fun _ _ => by kernel_rfl) (by kernel_rfl) (fun b => by cases b <;> rfl) roundcpu_Right_0
theorem runcpu_Right (x : Cpu × Unit) (g : Unit) : execF Ecpu_Right Tryz.f52 (Acpu_Right.enc x) (bNil.enc g) = (Tcpu_Right none x.1).map Rcpu_Right := by kernel_rfl
theorem okcpu_Right : FnOk Tryz.prog cd 52 Scpu_Right := mk_ok (E := Ecpu_Right) cd_ok fns114_ok Tryz.func52 (by kernel_rfl) (loops_of (addL_ok lpcpu_Right_0 noL_ok)) (aA_ok cCpu_ok (aNil_ok)) bNil_ok (T := fun x _ => Tcpu_Right none x.1) (fun _ _ => rfl) runcpu_Right
noncomputable def fns52 := addF 52 true Scpu_Right fns114
theorem fns52_ok : ∀ f q t, fns52 f = some (q, t) → FnOk Tryz.prog cd f t := addF_ok okcpu_Right fns114_ok
/-- emulator/machine.conditionOf -/
noncomputable def Tmachine_conditionOf (x0 : Machine) : Tree Condition :=
  .leaf (Condition.mk x0.halted x0.waiting x0.powerTrap x0.power)
noncomputable def machine_conditionOf (x0 : Machine) : Option Condition := (Tmachine_conditionOf x0).run
noncomputable def Amachine_conditionOf : Arg U (Machine × Unit) := aA cMachine (aNil)
noncomputable def Rmachine_conditionOf (r : Condition) : List (V U) × List (Blk U) := ([vA cCondition r], [])
noncomputable def Smachine_conditionOf : List (V U) → List (Blk U) → Option (FnOut U) := mkSpec Amachine_conditionOf bNil (fun x _ => machine_conditionOf x.1) Rmachine_conditionOf
noncomputable def Emachine_conditionOf : Env U := { P := Tryz.prog, cd := cd, fns := fns52, lps := noL, frz := fun _r => false, nt := 12, n0 := 0 }
theorem runmachine_conditionOf (x : Machine × Unit) (g : Unit) : execF Emachine_conditionOf Tryz.f53 (Amachine_conditionOf.enc x) (bNil.enc g) = (Tmachine_conditionOf x.1).map Rmachine_conditionOf := by kernel_rfl
theorem okmachine_conditionOf : FnOk Tryz.prog cd 53 Smachine_conditionOf := mk_ok (E := Emachine_conditionOf) cd_ok fns52_ok Tryz.func53 (by kernel_rfl) (noLoops_body (by kernel_rfl)) (aA_ok cMachine_ok (aNil_ok)) bNil_ok (T := fun x _ => Tmachine_conditionOf x.1) (fun _ _ => rfl) runmachine_conditionOf
noncomputable def fns53 := addF 53 true Smachine_conditionOf fns52
theorem fns53_ok : ∀ f q t, fns53 f = some (q, t) → FnOk Tryz.prog cd f t := addF_ok okmachine_conditionOf fns52_ok
/-- emulator/machine.Right -/
noncomputable def Tmachine_Right (q : Option Nat) (x0 : Machine) : Tree Bool :=
  .opt Bool (bus_Right q x0) fun r78 =>
    .ite (r78)
      (.opt Bool (cpu_Right q x0.cpu) fun r79 =>
        .ite (r79)
          (.ite (decide ((0 : Int) ≤ x0.now))
            (.ite (decide (x0.now ≤ (1099511627776 : Int)))
              (.ite (decide ((0 : Int) ≤ x0.power))
                (.ite (decide (x0.power ≤ (10000 : Int)))
                  (.ite (!x0.halted)
                    (.leaf (true))
                    (.opt Condition (machine_conditionOf x0) fun r80 =>
                      .leaf (((r80.halted == true) && ((r80.waiting == false) && ((r80.trap == false) && (decide (r80.power = (0 : Int)))))))))
                  (.leaf (false)))
                (.leaf (false)))
              (.leaf (false)))
            (.leaf (false)))
          (.leaf (false)))
      (.leaf (false))
noncomputable def machine_Right (q : Option Nat) (x0 : Machine) : Option Bool := (Tmachine_Right q x0).run
theorem lemachine_Right (k : Nat) (x0 : Machine) : Le (machine_Right (some k) x0) (machine_Right none x0) := (TLe.opt (lebus_Right k _) fun _ => (TLe.ite (TLe.opt (lecpu_Right k _) fun _ => TLe.rfl) TLe.rfl))
noncomputable def Amachine_Right : Arg U (Machine × Unit) := aA cMachine (aNil)
noncomputable def Rmachine_Right (r : Bool) : List (V U) × List (Blk U) := ([vO cBool r], [])
noncomputable def Smachine_Right : List (V U) → List (Blk U) → Option (FnOut U) := mkSpec Amachine_Right bNil (fun x _ => machine_Right none x.1) Rmachine_Right
noncomputable def Emachine_Right : Env U := { P := Tryz.prog, cd := cd, fns := fns53, lps := noL, frz := fun _r => false, nt := 41, n0 := 0 }
theorem runmachine_Right (x : Machine × Unit) (g : Unit) : execF Emachine_Right Tryz.f30 (Amachine_Right.enc x) (bNil.enc g) = (Tmachine_Right none x.1).map Rmachine_Right := by kernel_rfl
theorem okmachine_Right : FnOk Tryz.prog cd 30 Smachine_Right := mk_ok (E := Emachine_Right) cd_ok fns53_ok Tryz.func30 (by kernel_rfl) (noLoops_body (by kernel_rfl)) (aA_ok cMachine_ok (aNil_ok)) bNil_ok (T := fun x _ => Tmachine_Right none x.1) (fun _ _ => rfl) runmachine_Right
noncomputable def fns30 := addF 30 true Smachine_Right fns53
theorem fns30_ok : ∀ f q t, fns30 f = some (q, t) → FnOk Tryz.prog cd f t := addF_ok okmachine_Right fns53_ok
/-- (*emulator/save.reader).num -/
noncomputable def Tsave_reader_num (q : Option Nat) (x1 : Int) (g0 : Reader) : Tree (Int × Reader) :=
  .opt (Int × Int × Int) (octet_Get q g0.s g0.at_ x1) fun r83 =>
    .ite (!decide (r83.2.2 = (0 : Int)))
      (.leaf (((0 : Int), Reader.mk g0.s g0.at_ true)))
      (.leaf ((r83.1, Reader.mk g0.s r83.2.1 g0.bad)))
noncomputable def save_reader_num (q : Option Nat) (x1 : Int) (g0 : Reader) : Option (Int × Reader) := (Tsave_reader_num q x1 g0).run
noncomputable def Asave_reader_num : Arg U (Int × Unit) := aP 0 0 (aO (cInt .i64) (aNil))
noncomputable def Gsave_reader_num : Bls U (Reader × Unit) := bC cReader (bNil)
noncomputable def Rsave_reader_num (_x : Int × Unit) (_g : Reader × Unit) (r : (Int × Reader)) : List (V U) × List (Blk U) := ([vO (cPair (cInt .i64) (cUnit)) (r.1, ())], [.cells ((cPair cReader (cUnit) : Cdc U (Reader × Unit)).enc (r.2, ())) none])
noncomputable def Ssave_reader_num : List (V U) → List (Blk U) → Option (FnOut U) := mkSpecG Asave_reader_num Gsave_reader_num (fun x g => save_reader_num none x.1 g.1) Rsave_reader_num
noncomputable def Esave_reader_num : Env U := { P := Tryz.prog, cd := cd, fns := fns30, lps := noL, frz := fun _r => false, nt := 32, n0 := 1 }
theorem rnsave_reader_num (x1 : Int) (g0 : Reader) : execX false Esave_reader_num Tryz.f29 (Asave_reader_num.enc (x1, ())) (Gsave_reader_num.enc (g0, ())) = (Tsave_reader_num none x1 g0).map (Rsave_reader_num (x1, ()) (g0, ())) := by kernel_rfl
theorem runsave_reader_num : ∀ (x : Int × Unit) (g : Reader × Unit), execX false Esave_reader_num Tryz.f29 (Asave_reader_num.enc x) (Gsave_reader_num.enc g) = (Tsave_reader_num none x.1 g.1).map (Rsave_reader_num x g)
  | (x1, ()), (g0, ()) => rnsave_reader_num x1 g0
theorem oksave_reader_num : FnOk Tryz.prog cd 29 Ssave_reader_num := mk_okG (E := Esave_reader_num) (A := Asave_reader_num) (B := Gsave_reader_num) false cd_ok fns30_ok Tryz.func29 (by kernel_rfl) (noLoops_body (by kernel_rfl)) (aP_ok (aO_ok (cInt_ok .i64) (aNil_ok))) (bC_ok cReader_ok bNil_ok) (T := fun (x : Int × Unit) (g : Reader × Unit) => Tsave_reader_num none x.1 g.1) (fun _ _ => rfl) runsave_reader_num
/-- (*emulator/save.reader).word -/
noncomputable def Tsave_reader_word (q : Option Nat) (g0 : Reader) : Tree (Int × Reader) :=
  .opt (Int × Reader) (save_reader_num q (2 : Int) g0) fun r84 =>
    .leaf ((r84.1, r84.2))
noncomputable def save_reader_word (q : Option Nat) (g0 : Reader) : Option (Int × Reader) := (Tsave_reader_word q g0).run
noncomputable def Asave_reader_word : Arg U (Unit) := aP 0 0 (aNil)
noncomputable def Gsave_reader_word : Bls U (Reader × Unit) := bC cReader (bNil)
noncomputable def Rsave_reader_word (_x : Unit) (_g : Reader × Unit) (r : (Int × Reader)) : List (V U) × List (Blk U) := ([vO (cPair (cInt .i64) (cUnit)) (r.1, ())], [.cells ((cPair cReader (cUnit) : Cdc U (Reader × Unit)).enc (r.2, ())) none])
noncomputable def Ssave_reader_word : List (V U) → List (Blk U) → Option (FnOut U) := mkSpecG Asave_reader_word Gsave_reader_word (fun x g => save_reader_word none g.1) Rsave_reader_word
noncomputable def Esave_reader_word : Env U := { P := Tryz.prog, cd := cd, fns := (addF 29 false (Ssave_reader_num) fns30), lps := noL, frz := fun _r => false, nt := 5, n0 := 1 }
theorem rnsave_reader_word (g0 : Reader) : execX false Esave_reader_word Tryz.f22 (Asave_reader_word.enc ()) (Gsave_reader_word.enc (g0, ())) = (Tsave_reader_word none g0).map (Rsave_reader_word () (g0, ())) := by kernel_rfl
theorem runsave_reader_word : ∀ (x : Unit) (g : Reader × Unit), execX false Esave_reader_word Tryz.f22 (Asave_reader_word.enc x) (Gsave_reader_word.enc g) = (Tsave_reader_word none g.1).map (Rsave_reader_word x g)
  | (), (g0, ()) => rnsave_reader_word g0
theorem oksave_reader_word : FnOk Tryz.prog cd 22 Ssave_reader_word := mk_okG (E := Esave_reader_word) (A := Asave_reader_word) (B := Gsave_reader_word) false cd_ok (addF_ok oksave_reader_num fns30_ok) Tryz.func22 (by kernel_rfl) (noLoops_body (by kernel_rfl)) (aP_ok (aNil_ok)) (bC_ok cReader_ok bNil_ok) (T := fun (x : Unit) (g : Reader × Unit) => Tsave_reader_word none g.1) (fun _ _ => rfl) runsave_reader_word
/-- (*emulator/save.reader).cpu -/
structure Ssave_reader_cpu_0 where
  t5 : Int
  b0 : Reader
  b1 : Cpu
  b2 : Cpu
noncomputable def Wsave_reader_cpu_0 (q : Option Nat) (s : Ssave_reader_cpu_0) : Tree (Ssave_reader_cpu_0 ⊕ (Reader × Cpu × Cpu)) :=
  .ite (decide (s.t5 < (6 : Int)))
    (.opt (Int × Reader) (save_reader_word q s.b0) fun r85 =>
      .ite (decide (0 ≤ s.t5))
        (.ite (decide (s.t5 < (6 : Int)))
          (.opt Int (s.b2.r[(s.t5).toNat * 1]?) fun y86 =>
            .leaf (.inl (Ssave_reader_cpu_0.mk (IntKind.wrap .i64 (s.t5 + (1 : Int))) r85.2 s.b1 (Cpu.mk (s.b2.r.set ((s.t5).toNat * 1) r85.1) s.b2.sP s.b2.pC s.b2.pSW))))
          .fail)
        .fail)
    (.leaf (.inr (s.b0, s.b1, s.b2)))
noncomputable def Lsave_reader_cpu_0 (q : Option Nat) (s : Ssave_reader_cpu_0) : Option (Reader × Cpu × Cpu) := limQ q (fun s => (Wsave_reader_cpu_0 q s).run) s
noncomputable def Tsave_reader_cpu (q : Option Nat) (g0 : Reader) : Tree (Cpu × Reader) :=
  .opt (Reader × Cpu × Cpu) (Lsave_reader_cpu_0 q (Ssave_reader_cpu_0.mk (0 : Int) g0 (Cpu.mk (List.replicate 6 (0 : Int)) (List.replicate 2 (0 : Int)) 0 0) (Cpu.mk (List.replicate 6 (0 : Int)) (List.replicate 2 (0 : Int)) 0 0))) fun l87 =>
    .opt (Int × Reader) (save_reader_word q l87.1) fun r88 =>
      .opt (Int × Reader) (save_reader_word q r88.2) fun r89 =>
        .ite (decide (0 ≤ (0 : Int)))
          (.ite (decide ((0 : Int) < (2 : Int)))
            (.opt Int (l87.2.2.sP[((0 : Int)).toNat * 1]?) fun y90 =>
              .ite (decide (0 ≤ (1 : Int)))
                (.ite (decide ((1 : Int) < (2 : Int)))
                  (.opt Int ((l87.2.2.sP.set (((0 : Int)).toNat * 1) r88.1)[((1 : Int)).toNat * 1]?) fun y91 =>
                    .opt (Int × Reader) (save_reader_word q r89.2) fun r92 =>
                      .opt (Int × Reader) (save_reader_word q r92.2) fun r93 =>
                        .leaf ((Cpu.mk l87.2.2.r ((l87.2.2.sP.set (((0 : Int)).toNat * 1) r88.1).set (((1 : Int)).toNat * 1) r89.1) r92.1 r93.1, r93.2)))
                  .fail)
                .fail)
            .fail)
          .fail
noncomputable def save_reader_cpu (q : Option Nat) (g0 : Reader) : Option (Cpu × Reader) := (Tsave_reader_cpu q g0).run
noncomputable def Asave_reader_cpu : Arg U (Unit) := aP 0 0 (aNil)
noncomputable def Gsave_reader_cpu : Bls U (Reader × Unit) := bC cReader (bNil)
noncomputable def Rsave_reader_cpu (_x : Unit) (_g : Reader × Unit) (r : (Cpu × Reader)) : List (V U) × List (Blk U) := ([vA (cPair cCpu (cUnit)) (r.1, ())], [.cells ((cPair cReader (cUnit) : Cdc U (Reader × Unit)).enc (r.2, ())) none])
noncomputable def Ssave_reader_cpu : List (V U) → List (Blk U) → Option (FnOut U) := mkSpecG Asave_reader_cpu Gsave_reader_cpu (fun x g => save_reader_cpu none g.1) Rsave_reader_cpu
noncomputable def Psave_reader_cpu_0 (x : (Unit) × (Unit) × (Unit) × (Int × Unit) × Unit) (g : (Reader × Unit) × (Cpu × Unit) × (Cpu × Unit) × Unit) : Ssave_reader_cpu_0 := Ssave_reader_cpu_0.mk x.2.2.2.1.1 g.1.1 g.2.1.1 g.2.2.1.1
noncomputable def tAsave_reader_cpu_0 : Tms U ((Unit) × (Unit) × (Unit) × (Int × Unit) × Unit) := tO 0 (cK (.ptr 0 0) (cUnit)) (tO 2 (cK (.ptr 1 0) (cUnit)) (tO 3 (cK (.ptr 2 0) (cUnit)) (tO 5 (cPair (cInt .i64) (cUnit)) (tNil))))
noncomputable def tBsave_reader_cpu_0 : Bls U ((Reader × Unit) × (Cpu × Unit) × (Cpu × Unit) × Unit) := bC (cPair cReader (cUnit)) (bC (cPair cCpu (cUnit)) (bC (cPair cCpu (cUnit)) (bNil)))
noncomputable def eSsave_reader_cpu_0 (s : Ssave_reader_cpu_0) : St U := { tm := [(0, .v (vO (cK (.ptr 0 0) (cUnit)) (()))), (2, .v (vO (cK (.ptr 1 0) (cUnit)) (()))), (3, .v (vO (cK (.ptr 2 0) (cUnit)) (()))), (5, .v (vO (cPair (cInt .i64) (cUnit)) (s.t5, ())))], hp := [.cells ((cPair cReader (cUnit) : Cdc U (Reader × Unit)).enc (s.b0, ())) none, .cells ((cPair cCpu (cUnit) : Cdc U (Cpu × Unit)).enc (s.b1, ())) none, .cells ((cPair cCpu (cUnit) : Cdc U (Cpu × Unit)).enc (s.b2, ())) none] }
noncomputable def xSsave_reader_cpu_0 (r : (Reader × Cpu × Cpu)) : Ex × St U := (.exit 0, { tm := [(0, .v (vO (cK (.ptr 0 0) (cUnit)) (()))), (2, .v (vO (cK (.ptr 1 0) (cUnit)) (()))), (3, .v (vO (cK (.ptr 2 0) (cUnit)) (())))], hp := [.cells ((cPair cReader (cUnit) : Cdc U (Reader × Unit)).enc (r.1, ())) none, .cells ((cPair cCpu (cUnit) : Cdc U (Cpu × Unit)).enc (r.2.1, ())) none, .cells ((cPair cCpu (cUnit) : Cdc U (Cpu × Unit)).enc (r.2.2, ())) none] })
noncomputable def xTsave_reader_cpu_0 (r : (Reader × Cpu × Cpu)) : Tree (Ex × St U) := .leaf (xSsave_reader_cpu_0 r)
noncomputable def hsave_reader_cpu_0 : Hd := { keep := [0, 2, 3, 5], xkeep := [0, 2, 3], own := false }
noncomputable def Esave_reader_cpu : Env U := { P := Tryz.prog, cd := cd, fns := (addF 22 false (Ssave_reader_word) fns30), lps := (addL 0 hsave_reader_cpu_0 (mkLoop tAsave_reader_cpu_0 tBsave_reader_cpu_0 Psave_reader_cpu_0 (Lsave_reader_cpu_0 none) xTsave_reader_cpu_0) noL), frz := fun _r => false, nt := 29, n0 := 1 }
noncomputable def Bsave_reader_cpu_0 : Code := (loopAt (Tryz.f20.body.getD .skip) 0 0).getD .skip
theorem roundsave_reader_cpu_0 (s : Ssave_reader_cpu_0) : round Esave_reader_cpu hsave_reader_cpu_0 Bsave_reader_cpu_0 0 (eSsave_reader_cpu_0 s) = (Wsave_reader_cpu_0 none s).map (sumE eSsave_reader_cpu_0 xSsave_reader_cpu_0) := by kernel_rfl
theorem lpsave_reader_cpu_0 : LpOk Esave_reader_cpu Bsave_reader_cpu_0 0 := mkLoop_ok (A := tAsave_reader_cpu_0) (B := tBsave_reader_cpu_0) (f := Psave_reader_cpu_0) (L := Lsave_reader_cpu_0 none) (tO_ok (cK_ok cUnit_ok) (tO_ok (cK_ok cUnit_ok) (tO_ok (cK_ok cUnit_ok) (tO_ok (cPair_ok (cInt_ok .i64) cUnit_ok) tNil_ok)))) (bC_ok (cPair_ok cReader_ok cUnit_ok) (bC_ok (cPair_ok cCpu_ok cUnit_ok) (bC_ok (cPair_ok cCpu_ok cUnit_ok) bNil_ok))) (enc := eSsave_reader_cpu_0) (out := xTsave_reader_cpu_0) (outS := xSsave_reader_cpu_0) (step := Wsave_reader_cpu_0 none) (fun _ => rfl) (fun _ _ => by kernel_rfl) (by kernel_rfl) (fun _ => rfl) roundsave_reader_cpu_0
theorem rnsave_reader_cpu (g0 : Reader) : execX false Esave_reader_cpu Tryz.f20 (Asave_reader_cpu.enc ()) (Gsave_reader_cpu.enc (g0, ())) = (Tsave_reader_cpu none g0).map (Rsave_reader_cpu () (g0, ())) := by kernel_rfl
theorem runsave_reader_cpu : ∀ (x : Unit) (g : Reader × Unit), execX false Esave_reader_cpu Tryz.f20 (Asave_reader_cpu.enc x) (Gsave_reader_cpu.enc g) = (Tsave_reader_cpu none g.1).map (Rsave_reader_cpu x g)
  | (), (g0, ()) => rnsave_reader_cpu g0
theorem oksave_reader_cpu : FnOk Tryz.prog cd 20 Ssave_reader_cpu := mk_okG (E := Esave_reader_cpu) (A := Asave_reader_cpu) (B := Gsave_reader_cpu) false cd_ok (addF_ok oksave_reader_word fns30_ok) Tryz.func20 (by kernel_rfl) (loops_of (addL_ok lpsave_reader_cpu_0 noL_ok)) (aP_ok (aNil_ok)) (bC_ok cReader_ok bNil_ok) (T := fun (x : Unit) (g : Reader × Unit) => Tsave_reader_cpu none g.1) (fun _ _ => rfl) runsave_reader_cpu
/-- emulator/save.listed[int] -/
structure Ssave_listed_int_0 where
  t6 : Int
  b0 : Reader
  b1 : (List Int)
noncomputable def Wsave_listed_int_0 (q : Option Nat) (s : Ssave_listed_int_0) : Tree (Ssave_listed_int_0 ⊕ (Reader × (List Int))) :=
  .ite (decide ((0 : Int) < s.t6))
    (.ite (!s.b0.bad)
      (.opt (Int × Reader) (save_reader_word q s.b0) fun r100 =>
        .ite (decide ((s.b1.length + ([r100.1]).length) * 8 ≤ 140737488355328))
          (.leaf (.inl (Ssave_listed_int_0.mk (IntKind.wrap .i64 (s.t6 - (1 : Int))) r100.2 (s.b1 ++ ([r100.1])))))
          .fail)
      (.leaf (.inr (s.b0, s.b1))))
    (.leaf (.inr (s.b0, s.b1)))
noncomputable def Lsave_listed_int_0 (q : Option Nat) (s : Ssave_listed_int_0) : Option (Reader × (List Int)) := limQ q (fun s => (Wsave_listed_int_0 q s).run) s
noncomputable def Tsave_listed_int (q : Option Nat) (g0 : Reader) : Tree ((List Int) × Reader) :=
  .opt (Int × Reader) (save_reader_word q g0) fun r99 =>
    .opt (Reader × (List Int)) (Lsave_listed_int_0 q (Ssave_listed_int_0.mk r99.1 r99.2 ([]))) fun l101 =>
      .leaf ((l101.2, l101.1))
noncomputable def save_listed_int (q : Option Nat) (g0 : Reader) : Option ((List Int) × Reader) := (Tsave_listed_int q g0).run
noncomputable def Asave_listed_int : Arg U (Unit) := aP 0 0 (aKF (.fn 22 [(.ptr 0 0)] []) (aNil))
noncomputable def Gsave_listed_int : Bls U (Reader × Unit) := bC cReader (bNil)
noncomputable def Rsave_listed_int (_x : Unit) (_g : Reader × Unit) (r : ((List Int) × Reader)) : List (V U) × List (Blk U) := ([vO (cPair (cSl 3) (cUnit)) (r.1, ())], [.cells ((cPair cReader (cUnit) : Cdc U (Reader × Unit)).enc (r.2, ())) none])
noncomputable def Ssave_listed_int : List (V U) → List (Blk U) → Option (FnOut U) := mkSpecG Asave_listed_int Gsave_listed_int (fun x g => save_listed_int none g.1) Rsave_listed_int
noncomputable def Psave_listed_int_0 (x : (Unit) × (Unit) × (Unit) × (Int × Unit) × Unit) (g : (Reader × Unit) × (List Int) × Unit) : Ssave_listed_int_0 := Ssave_listed_int_0.mk x.2.2.2.1.1 g.1.1 g.2.1
noncomputable def tAsave_listed_int_0 : Tms U ((Unit) × (Unit) × (Unit) × (Int × Unit) × Unit) := tO 0 (cK (.ptr 0 0) (cUnit)) (tO 1 (cK2 (.fn 22 [(.ptr 0 0)] []) (cUnit)) (tO 5 (cK (.row 1 0) (cUnit)) (tO 6 (cPair (cInt .i64) (cUnit)) (tNil))))
noncomputable def tBsave_listed_int_0 : Bls U ((Reader × Unit) × (List Int) × Unit) := bC (cPair cReader (cUnit)) (bRv 3 0 (bNil))
noncomputable def eSsave_listed_int_0 (s : Ssave_listed_int_0) : St U := { tm := [(0, .v (vO (cK (.ptr 0 0) (cUnit)) (()))), (1, .v (vO (cK2 (.fn 22 [(.ptr 0 0)] []) (cUnit)) (()))), (5, .v (vO (cK (.row 1 0) (cUnit)) (()))), (6, .v (vO (cPair (cInt .i64) (cUnit)) (s.t6, ())))], hp := [.cells ((cPair cReader (cUnit) : Cdc U (Reader × Unit)).enc (s.b0, ())) none, .row 3 0 s.b1] }
noncomputable def xSsave_listed_int_0 (r : (Reader × (List Int))) : Ex × St U := (.exit 0, { tm := [(5, .v (vO (cK (.row 1 0) (cUnit)) (())))], hp := [.cells ((cPair cReader (cUnit) : Cdc U (Reader × Unit)).enc (r.1, ())) none, .row 3 0 r.2] })
noncomputable def xTsave_listed_int_0 (r : (Reader × (List Int))) : Tree (Ex × St U) := .leaf (xSsave_listed_int_0 r)
noncomputable def hsave_listed_int_0 : Hd := { keep := [0, 1, 5, 6], xkeep := [4, 5], own := true }
noncomputable def Esave_listed_int : Env U := { P := Tryz.prog, cd := cd, fns := (addF 22 false (Ssave_reader_word) fns30), lps := (addL 0 hsave_listed_int_0 (mkLoop tAsave_listed_int_0 tBsave_listed_int_0 Psave_listed_int_0 (Lsave_listed_int_0 none) xTsave_listed_int_0) noL), frz := fun _r => false, nt := 26, n0 := 1 }
noncomputable def Bsave_listed_int_0 : Code := (loopAt (Tryz.f21.body.getD .skip) 0 0).getD .skip
theorem roundsave_listed_int_0 (s : Ssave_listed_int_0) : round Esave_listed_int hsave_listed_int_0 Bsave_listed_int_0 0 (eSsave_listed_int_0 s) = (Wsave_listed_int_0 none s).map (sumE eSsave_listed_int_0 xSsave_listed_int_0) := by kernel_rfl
theorem lpsave_listed_int_0 : LpOk Esave_listed_int Bsave_listed_int_0 0 := mkLoop_ok (A := tAsave_listed_int_0) (B := tBsave_listed_int_0) (f := Psave_listed_int_0) (L := Lsave_listed_int_0 none) (tO_ok (cK_ok cUnit_ok) (tO_ok (cK2_ok cUnit_ok) (tO_ok (cK_ok cUnit_ok) (tO_ok (cPair_ok (cInt_ok .i64) cUnit_ok) tNil_ok)))) (bC_ok (cPair_ok cReader_ok cUnit_ok) (bRv_ok bNil_ok)) (enc := eSsave_listed_int_0) (out := xTsave_listed_int_0) (outS := xSsave_listed_int_0) (step := Wsave_listed_int_0 none) (fun _ => rfl) (fun _ _ => by kernel_rfl) (by kernel_rfl) (fun _ => rfl) roundsave_listed_int_0
theorem rnsave_listed_int (g0 : Reader) : execX false Esave_listed_int Tryz.f21 (Asave_listed_int.enc ()) (Gsave_listed_int.enc (g0, ())) = (Tsave_listed_int none g0).map (Rsave_listed_int () (g0, ())) := by kernel_rfl
theorem runsave_listed_int : ∀ (x : Unit) (g : Reader × Unit), execX false Esave_listed_int Tryz.f21 (Asave_listed_int.enc x) (Gsave_listed_int.enc g) = (Tsave_listed_int none g.1).map (Rsave_listed_int x g)
  | (), (g0, ()) => rnsave_listed_int g0
theorem oksave_listed_int : FnOk Tryz.prog cd 21 Ssave_listed_int := mk_okG (E := Esave_listed_int) (A := Asave_listed_int) (B := Gsave_listed_int) false cd_ok (addF_ok oksave_reader_word fns30_ok) Tryz.func21 (by kernel_rfl) (loops_of (addL_ok lpsave_listed_int_0 noL_ok)) (aP_ok (aKF_ok (aNil_ok))) (bC_ok cReader_ok bNil_ok) (T := fun (x : Unit) (g : Reader × Unit) => Tsave_listed_int none g.1) (fun _ _ => rfl) runsave_listed_int
/-- (*emulator/save.reader).truth -/
noncomputable def Tsave_reader_truth (q : Option Nat) (g0 : Reader) : Tree (Bool × Reader) :=
  .opt (Int × Reader) (save_reader_num q (1 : Int) g0) fun r107 =>
    .ite (r107.2.bad)
      (.leaf ((decide (r107.1 = (1 : Int)), Reader.mk r107.2.s r107.2.at_ true)))
      (.leaf ((decide (r107.1 = (1 : Int)), Reader.mk r107.2.s r107.2.at_ (decide ((1 : Int) < r107.1)))))
noncomputable def save_reader_truth (q : Option Nat) (g0 : Reader) : Option (Bool × Reader) := (Tsave_reader_truth q g0).run
noncomputable def Asave_reader_truth : Arg U (Unit) := aP 0 0 (aNil)
noncomputable def Gsave_reader_truth : Bls U (Reader × Unit) := bC cReader (bNil)
noncomputable def Rsave_reader_truth (_x : Unit) (_g : Reader × Unit) (r : (Bool × Reader)) : List (V U) × List (Blk U) := ([vO (cPair cBool (cUnit)) (r.1, ())], [.cells ((cPair cReader (cUnit) : Cdc U (Reader × Unit)).enc (r.2, ())) none])
noncomputable def Ssave_reader_truth : List (V U) → List (Blk U) → Option (FnOut U) := mkSpecG Asave_reader_truth Gsave_reader_truth (fun x g => save_reader_truth none g.1) Rsave_reader_truth
noncomputable def Esave_reader_truth : Env U := { P := Tryz.prog, cd := cd, fns := (addF 29 false (Ssave_reader_num) fns30), lps := noL, frz := fun _r => false, nt := 19, n0 := 1 }
theorem rnsave_reader_truth (g0 : Reader) : execX false Esave_reader_truth Tryz.f24 (Asave_reader_truth.enc ()) (Gsave_reader_truth.enc (g0, ())) = (Tsave_reader_truth none g0).map (Rsave_reader_truth () (g0, ())) := by kernel_rfl
theorem runsave_reader_truth : ∀ (x : Unit) (g : Reader × Unit), execX false Esave_reader_truth Tryz.f24 (Asave_reader_truth.enc x) (Gsave_reader_truth.enc g) = (Tsave_reader_truth none g.1).map (Rsave_reader_truth x g)
  | (), (g0, ()) => rnsave_reader_truth g0
theorem oksave_reader_truth : FnOk Tryz.prog cd 24 Ssave_reader_truth := mk_okG (E := Esave_reader_truth) (A := Asave_reader_truth) (B := Gsave_reader_truth) false cd_ok (addF_ok oksave_reader_num fns30_ok) Tryz.func24 (by kernel_rfl) (noLoops_body (by kernel_rfl)) (aP_ok (aNil_ok)) (bC_ok cReader_ok bNil_ok) (T := fun (x : Unit) (g : Reader × Unit) => Tsave_reader_truth none g.1) (fun _ _ => rfl) runsave_reader_truth
/-- (*emulator/save.reader).mmu -/
structure Ssave_reader_mmu_1 where
  t4 : Int
  t9 : Int
  t12 : Int
  b0 : Reader
  b1 : Mmu
  b2 : Mmu
noncomputable def Wsave_reader_mmu_1 (q : Option Nat) (s : Ssave_reader_mmu_1) : Tree (Ssave_reader_mmu_1 ⊕ (Int × Reader × Mmu × Mmu)) :=
  .ite (decide (s.t12 < (8 : Int)))
    (.opt (Int × Reader) (save_reader_word q s.b0) fun r109 =>
      .opt (Int × Reader) (save_reader_num q (1 : Int) r109.2) fun r110 =>
        .opt (Int × Reader) (save_reader_num q (1 : Int) r110.2) fun r111 =>
          .opt (Bool × Reader) (save_reader_truth q r111.2) fun r112 =>
            .ite (decide (0 ≤ s.t4))
              (.ite (decide (s.t4 < (2 : Int)))
                (.ite (decide (0 ≤ s.t12))
                  (.ite (decide (s.t12 < (8 : Int)))
                    (.opt Page (s.b2.pages[(s.t4).toNat * 8 + (s.t12).toNat * 1]?) fun y113 =>
                      .leaf (.inl (Ssave_reader_mmu_1.mk s.t4 s.t9 (IntKind.wrap .i64 (s.t12 + (1 : Int))) r112.2 s.b1 (Mmu.mk s.b2.on (s.b2.pages.set ((s.t4).toNat * 8 + (s.t12).toNat * 1) (Page.mk r109.1 r110.1 r111.1 r112.1)) s.b2.status s.b2.addr))))
                    .fail)
                  .fail)
                .fail)
              .fail)
    (.leaf (.inr (s.t9, s.b0, s.b1, s.b2)))
noncomputable def Lsave_reader_mmu_1 (q : Option Nat) (s : Ssave_reader_mmu_1) : Option (Int × Reader × Mmu × Mmu) := limQ q (fun s => (Wsave_reader_mmu_1 q s).run) s
structure Ssave_reader_mmu_0 where
  t9 : Int
  b0 : Reader
  b1 : Mmu
  b2 : Mmu
noncomputable def Wsave_reader_mmu_0 (q : Option Nat) (s : Ssave_reader_mmu_0) : Tree (Ssave_reader_mmu_0 ⊕ (Reader × Mmu × Mmu)) :=
  .ite (decide (s.t9 < (2 : Int)))
    (.opt (Int × Reader × Mmu × Mmu) (Lsave_reader_mmu_1 q (Ssave_reader_mmu_1.mk s.t9 s.t9 (0 : Int) s.b0 s.b1 s.b2)) fun l114 =>
      .leaf (.inl (Ssave_reader_mmu_0.mk (IntKind.wrap .i64 (l114.1 + (1 : Int))) l114.2.1 l114.2.2.1 l114.2.2.2)))
    (.leaf (.inr (s.b0, s.b1, s.b2)))
noncomputable def Lsave_reader_mmu_0 (q : Option Nat) (s : Ssave_reader_mmu_0) : Option (Reader × Mmu × Mmu) := limQ q (fun s => (Wsave_reader_mmu_0 q s).run) s
noncomputable def Tsave_reader_mmu (q : Option Nat) (g0 : Reader) : Tree (Mmu × Reader) :=
  .opt (Bool × Reader) (save_reader_truth q g0) fun r108 =>
    .opt (Reader × Mmu × Mmu) (Lsave_reader_mmu_0 q (Ssave_reader_mmu_0.mk (0 : Int) r108.2 (Mmu.mk false (List.replicate 16 (Page.mk (0 : Int) (0 : Int) (0 : Int) false)) 0 0) (Mmu.mk r108.1 (List.replicate 16 (Page.mk (0 : Int) (0 : Int) (0 : Int) false)) 0 0))) fun l115 =>
      .opt (Int × Reader) (save_reader_num q (1 : Int) l115.1) fun r116 =>
        .opt (Int × Reader) (save_reader_word q r116.2) fun r117 =>
          .leaf ((Mmu.mk l115.2.2.on l115.2.2.pages r116.1 r117.1, r117.2))
noncomputable def save_reader_mmu (q : Option Nat) (g0 : Reader) : Option (Mmu × Reader) := (Tsave_reader_mmu q g0).run
noncomputable def Asave_reader_mmu : Arg U (Unit) := aP 0 0 (aNil)
noncomputable def Gsave_reader_mmu : Bls U (Reader × Unit) := bC cReader (bNil)
noncomputable def Rsave_reader_mmu (_x : Unit) (_g : Reader × Unit) (r : (Mmu × Reader)) : List (V U) × List (Blk U) := ([vA (cPair cMmu (cUnit)) (r.1, ())], [.cells ((cPair cReader (cUnit) : Cdc U (Reader × Unit)).enc (r.2, ())) none])
noncomputable def Ssave_reader_mmu : List (V U) → List (Blk U) → Option (FnOut U) := mkSpecG Asave_reader_mmu Gsave_reader_mmu (fun x g => save_reader_mmu none g.1) Rsave_reader_mmu
noncomputable def Psave_reader_mmu_0 (x : (Unit) × (Unit) × (Unit) × (Int × Unit) × Unit) (g : (Reader × Unit) × (Mmu × Unit) × (Mmu × Unit) × Unit) : Ssave_reader_mmu_0 := Ssave_reader_mmu_0.mk x.2.2.2.1.1 g.1.1 g.2.1.1 g.2.2.1.1
noncomputable def tAsave_reader_mmu_0 : Tms U ((Unit) × (Unit) × (Unit) × (Int × Unit) × Unit) := tO 0 (cK (.ptr 0 0) (cUnit)) (tO 2 (cK (.ptr 1 0) (cUnit)) (tO 3 (cK (.ptr 2 0) (cUnit)) (tO 9 (cPair (cInt .i64) (cUnit)) (tNil))))
noncomputable def tBsave_reader_mmu_0 : Bls U ((Reader × Unit) × (Mmu × Unit) × (Mmu × Unit) × Unit) := bC (cPair cReader (cUnit)) (bC (cPair cMmu (cUnit)) (bC (cPair cMmu (cUnit)) (bNil)))
noncomputable def eSsave_reader_mmu_0 (s : Ssave_reader_mmu_0) : St U := { tm := [(0, .v (vO (cK (.ptr 0 0) (cUnit)) (()))), (2, .v (vO (cK (.ptr 1 0) (cUnit)) (()))), (3, .v (vO (cK (.ptr 2 0) (cUnit)) (()))), (9, .v (vO (cPair (cInt .i64) (cUnit)) (s.t9, ())))], hp := [.cells ((cPair cReader (cUnit) : Cdc U (Reader × Unit)).enc (s.b0, ())) none, .cells ((cPair cMmu (cUnit) : Cdc U (Mmu × Unit)).enc (s.b1, ())) none, .cells ((cPair cMmu (cUnit) : Cdc U (Mmu × Unit)).enc (s.b2, ())) none] }
noncomputable def xSsave_reader_mmu_0 (r : (Reader × Mmu × Mmu)) : Ex × St U := (.exit 0, { tm := [(0, .v (vO (cK (.ptr 0 0) (cUnit)) (()))), (2, .v (vO (cK (.ptr 1 0) (cUnit)) (()))), (3, .v (vO (cK (.ptr 2 0) (cUnit)) (())))], hp := [.cells ((cPair cReader (cUnit) : Cdc U (Reader × Unit)).enc (r.1, ())) none, .cells ((cPair cMmu (cUnit) : Cdc U (Mmu × Unit)).enc (r.2.1, ())) none, .cells ((cPair cMmu (cUnit) : Cdc U (Mmu × Unit)).enc (r.2.2, ())) none] })
noncomputable def xTsave_reader_mmu_0 (r : (Reader × Mmu × Mmu)) : Tree (Ex × St U) := .leaf (xSsave_reader_mmu_0 r)
noncomputable def hsave_reader_mmu_0 : Hd := { keep := [0, 2, 3, 9], xkeep := [0, 2, 3], own := false }
noncomputable def Psave_reader_mmu_1 (x : (Unit) × (Unit) × (Unit) × (Int × Unit) × (Int × Unit) × (Int × Unit) × Unit) (g : (Reader × Unit) × (Mmu × Unit) × (Mmu × Unit) × Unit) : Ssave_reader_mmu_1 := Ssave_reader_mmu_1.mk x.2.2.2.1.1 x.2.2.2.2.1.1 x.2.2.2.2.2.1.1 g.1.1 g.2.1.1 g.2.2.1.1
noncomputable def tAsave_reader_mmu_1 : Tms U ((Unit) × (Unit) × (Unit) × (Int × Unit) × (Int × Unit) × (Int × Unit) × Unit) := tO 0 (cK (.ptr 0 0) (cUnit)) (tO 2 (cK (.ptr 1 0) (cUnit)) (tO 3 (cK (.ptr 2 0) (cUnit)) (tO 4 (cPair (cInt .i64) (cUnit)) (tO 9 (cPair (cInt .i64) (cUnit)) (tO 12 (cPair (cInt .i64) (cUnit)) (tNil))))))
noncomputable def tBsave_reader_mmu_1 : Bls U ((Reader × Unit) × (Mmu × Unit) × (Mmu × Unit) × Unit) := bC (cPair cReader (cUnit)) (bC (cPair cMmu (cUnit)) (bC (cPair cMmu (cUnit)) (bNil)))
noncomputable def eSsave_reader_mmu_1 (s : Ssave_reader_mmu_1) : St U := { tm := [(0, .v (vO (cK (.ptr 0 0) (cUnit)) (()))), (2, .v (vO (cK (.ptr 1 0) (cUnit)) (()))), (3, .v (vO (cK (.ptr 2 0) (cUnit)) (()))), (4, .v (vO (cPair (cInt .i64) (cUnit)) (s.t4, ()))), (9, .v (vO (cPair (cInt .i64) (cUnit)) (s.t9, ()))), (12, .v (vO (cPair (cInt .i64) (cUnit)) (s.t12, ())))], hp := [.cells ((cPair cReader (cUnit) : Cdc U (Reader × Unit)).enc (s.b0, ())) none, .cells ((cPair cMmu (cUnit) : Cdc U (Mmu × Unit)).enc (s.b1, ())) none, .cells ((cPair cMmu (cUnit) : Cdc U (Mmu × Unit)).enc (s.b2, ())) none] }
noncomputable def xSsave_reader_mmu_1 (r : (Int × Reader × Mmu × Mmu)) : Ex × St U := (.exit 2, { tm := [(0, .v (vO (cK (.ptr 0 0) (cUnit)) (()))), (2, .v (vO (cK (.ptr 1 0) (cUnit)) (()))), (3, .v (vO (cK (.ptr 2 0) (cUnit)) (()))), (9, .v (vO (cPair (cInt .i64) (cUnit)) (r.1, ())))], hp := [.cells ((cPair cReader (cUnit) : Cdc U (Reader × Unit)).enc (r.2.1, ())) none, .cells ((cPair cMmu (cUnit) : Cdc U (Mmu × Unit)).enc (r.2.2.1, ())) none, .cells ((cPair cMmu (cUnit) : Cdc U (Mmu × Unit)).enc (r.2.2.2, ())) none] })
noncomputable def xTsave_reader_mmu_1 (r : (Int × Reader × Mmu × Mmu)) : Tree (Ex × St U) := .leaf (xSsave_reader_mmu_1 r)
noncomputable def hsave_reader_mmu_1 : Hd := { keep := [0, 2, 3, 4, 9, 12], xkeep := [0, 2, 3, 9], own := false }
noncomputable def Esave_reader_mmu : Env U := { P := Tryz.prog, cd := cd, fns := (addF 29 false (Ssave_reader_num) (addF 24 false (Ssave_reader_truth) (addF 22 false (Ssave_reader_word) fns30))), lps := (addL 0 hsave_reader_mmu_0 (mkLoop tAsave_reader_mmu_0 tBsave_reader_mmu_0 Psave_reader_mmu_0 (Lsave_reader_mmu_0 none) xTsave_reader_mmu_0) (addL 1 hsave_reader_mmu_1 (mkLoop tAsave_reader_mmu_1 tBsave_reader_mmu_1 Psave_reader_mmu_1 (Lsave_reader_mmu_1 none) xTsave_reader_mmu_1) noL)), frz := fun _r => false, nt := 38, n0 := 1, fps := fun _r _i => bif Nat.beq _r 8 && Nat.beq _i 3 then .wr [0] 3 else bif Nat.beq _r 8 && Nat.beq _i 5 then .wr [0] 3 else bif Nat.beq _r 8 && Nat.beq _i 7 then .wr [0] 3 else bif Nat.beq _r 8 && Nat.beq _i 9 then .wr [0] 3 else bif Nat.beq _r 8 && Nat.beq _i 11 then .rd [] else bif Nat.beq _r 8 && Nat.beq _i 12 then .rd [2] else .none }
noncomputable def Bsave_reader_mmu_0 : Code := (loopAt (Tryz.f23.body.getD .skip) 0 0).getD .skip
theorem roundsave_reader_mmu_0 (s : Ssave_reader_mmu_0) : round Esave_reader_mmu hsave_reader_mmu_0 Bsave_reader_mmu_0 0 (eSsave_reader_mmu_0 s) = (Wsave_reader_mmu_0 none s).map (sumE eSsave_reader_mmu_0 xSsave_reader_mmu_0) := by kernel_rfl
theorem lpsave_reader_mmu_0 : LpOk Esave_reader_mmu Bsave_reader_mmu_0 0 := mkLoop_ok (A := tAsave_reader_mmu_0) (B := tBsave_reader_mmu_0) (f := Psave_reader_mmu_0) (L := Lsave_reader_mmu_0 none) (tO_ok (cK_ok cUnit_ok) (tO_ok (cK_ok cUnit_ok) (tO_ok (cK_ok cUnit_ok) (tO_ok (cPair_ok (cInt_ok .i64) cUnit_ok) tNil_ok)))) (bC_ok (cPair_ok cReader_ok cUnit_ok) (bC_ok (cPair_ok cMmu_ok cUnit_ok) (bC_ok (cPair_ok cMmu_ok cUnit_ok) bNil_ok))) (enc := eSsave_reader_mmu_0) (out := xTsave_reader_mmu_0) (outS := xSsave_reader_mmu_0) (step := Wsave_reader_mmu_0 none) (fun _ => rfl) (fun _ _ => by kernel_rfl) (by kernel_rfl) (fun _ => rfl) roundsave_reader_mmu_0
noncomputable def Bsave_reader_mmu_1 : Code := (loopAt (Tryz.f23.body.getD .skip) 0 1).getD .skip
theorem roundsave_reader_mmu_1 (s : Ssave_reader_mmu_1) : round Esave_reader_mmu hsave_reader_mmu_1 Bsave_reader_mmu_1 1 (eSsave_reader_mmu_1 s) = (Wsave_reader_mmu_1 none s).map (sumE eSsave_reader_mmu_1 xSsave_reader_mmu_1) := by kernel_rfl
theorem lpsave_reader_mmu_1 : LpOk Esave_reader_mmu Bsave_reader_mmu_1 1 := mkLoop_ok (A := tAsave_reader_mmu_1) (B := tBsave_reader_mmu_1) (f := Psave_reader_mmu_1) (L := Lsave_reader_mmu_1 none) (tO_ok (cK_ok cUnit_ok) (tO_ok (cK_ok cUnit_ok) (tO_ok (cK_ok cUnit_ok) (tO_ok (cPair_ok (cInt_ok .i64) cUnit_ok) (tO_ok (cPair_ok (cInt_ok .i64) cUnit_ok) (tO_ok (cPair_ok (cInt_ok .i64) cUnit_ok) tNil_ok)))))) (bC_ok (cPair_ok cReader_ok cUnit_ok) (bC_ok (cPair_ok cMmu_ok cUnit_ok) (bC_ok (cPair_ok cMmu_ok cUnit_ok) bNil_ok))) (enc := eSsave_reader_mmu_1) (out := xTsave_reader_mmu_1) (outS := xSsave_reader_mmu_1) (step := Wsave_reader_mmu_1 none) (fun _ => rfl) (fun _ _ => by kernel_rfl) (by kernel_rfl) (fun _ => rfl) roundsave_reader_mmu_1
theorem rnsave_reader_mmu (g0 : Reader) : execX false Esave_reader_mmu Tryz.f23 (Asave_reader_mmu.enc ()) (Gsave_reader_mmu.enc (g0, ())) = (Tsave_reader_mmu none g0).map (Rsave_reader_mmu () (g0, ())) := by kernel_rfl
theorem runsave_reader_mmu : ∀ (x : Unit) (g : Reader × Unit), execX false Esave_reader_mmu Tryz.f23 (Asave_reader_mmu.enc x) (Gsave_reader_mmu.enc g) = (Tsave_reader_mmu none g.1).map (Rsave_reader_mmu x g)
  | (), (g0, ()) => rnsave_reader_mmu g0
theorem oksave_reader_mmu : FnOk Tryz.prog cd 23 Ssave_reader_mmu := mk_okG (E := Esave_reader_mmu) (A := Asave_reader_mmu) (B := Gsave_reader_mmu) false cd_ok (addF_ok oksave_reader_num (addF_ok oksave_reader_truth (addF_ok oksave_reader_word fns30_ok))) Tryz.func23 (by kernel_rfl) (loops_of (addL_ok lpsave_reader_mmu_0 (addL_ok lpsave_reader_mmu_1 noL_ok))) (aP_ok (aNil_ok)) (bC_ok cReader_ok bNil_ok) (T := fun (x : Unit) (g : Reader × Unit) => Tsave_reader_mmu none g.1) (fun _ _ => rfl) runsave_reader_mmu
/-- emulator/octet.GetText -/
noncomputable def Toctet_GetText (q : Option Nat) (x0 : (List UInt8)) (x1 : Int) : Tree ((List UInt8) × Int × Int) :=
  .opt (Int × Int × Int) (octet_Get q x0 x1 (2 : Int)) fun r137 =>
    .ite (!decide (r137.2.2 = (0 : Int)))
      (.leaf ((([] : List UInt8), (0 : Int), r137.2.2)))
      (.ite (decide ((IntKind.wrap .i64 ((x0.length : Int) - r137.2.1)) < r137.1))
        (.leaf ((([] : List UInt8), (0 : Int), (8 : Int))))
        (.ite (decide (0 ≤ r137.2.1))
          (.ite (decide (r137.2.1 ≤ ((x0.length : Nat) : Int)))
            (.ite (decide (0 ≤ r137.1))
              (.ite (decide (r137.1 ≤ ((((x0.drop ((r137.2.1).toNat)).take (x0.length - (r137.2.1).toNat)).length : Nat) : Int)))
                (.leaf (((((x0.drop ((r137.2.1).toNat)).take (x0.length - (r137.2.1).toNat)).drop (0)).take ((r137.1).toNat - 0), IntKind.wrap .i64 (r137.2.1 + r137.1), (0 : Int))))
                .fail)
              .fail)
            .fail)
          .fail))
noncomputable def octet_GetText (q : Option Nat) (x0 : (List UInt8)) (x1 : Int) : Option ((List UInt8) × Int × Int) := (Toctet_GetText q x0 x1).run
noncomputable def Aoctet_GetText : Arg U ((List UInt8) × Int × Unit) := aO cStr (aO (cInt .i64) (aNil))
noncomputable def Goctet_GetText : Bls U (Unit) := bNil
noncomputable def Roctet_GetText (_x : (List UInt8) × Int × Unit) (_g : Unit) (r : ((List UInt8) × Int × Int)) : List (V U) × List (Blk U) := ([vO (cPair cStr (cUnit)) (r.1, ()), vO (cPair (cInt .i64) (cUnit)) (r.2.1, ()), vO (cPair (cInt .i64) (cUnit)) (r.2.2, ())], [])
noncomputable def Soctet_GetText : List (V U) → List (Blk U) → Option (FnOut U) := mkSpecG Aoctet_GetText Goctet_GetText (fun x _ => octet_GetText none x.1 x.2.1) Roctet_GetText
noncomputable def Eoctet_GetText : Env U := { P := Tryz.prog, cd := cd, fns := fns30, lps := noL, frz := fun _r => false, nt := 34, n0 := 0 }
theorem rnoctet_GetText (x0 : (List UInt8)) (x1 : Int) : execX false Eoctet_GetText Tryz.f106 (Aoctet_GetText.enc (x0, x1, ())) (Goctet_GetText.enc ()) = (Toctet_GetText none x0 x1).map (Roctet_GetText (x0, x1, ()) ()) := by kernel_rfl
theorem runoctet_GetText : ∀ (x : (List UInt8) × Int × Unit) (g : Unit), execX false Eoctet_GetText Tryz.f106 (Aoctet_GetText.enc x) (Goctet_GetText.enc g) = (Toctet_GetText none x.1 x.2.1).map (Roctet_GetText x g)
  | (x0, x1, ()), () => rnoctet_GetText x0 x1
theorem okoctet_GetText : FnOk Tryz.prog cd 106 Soctet_GetText := mk_okG (E := Eoctet_GetText) (A := Aoctet_GetText) (B := Goctet_GetText) false cd_ok fns30_ok Tryz.func106 (by kernel_rfl) (noLoops_body (by kernel_rfl)) (aO_ok cStr_ok (aO_ok (cInt_ok .i64) (aNil_ok))) bNil_ok (T := fun (x : (List UInt8) × Int × Unit) (_ : Unit) => Toctet_GetText none x.1 x.2.1) (fun _ _ => rfl) runoctet_GetText
/-- (*emulator/save.reader).text -/
noncomputable def Tsave_reader_text (q : Option Nat) (g0 : Reader) : Tree ((List UInt8) × Reader) :=
  .opt ((List UInt8) × Int × Int) (octet_GetText q g0.s g0.at_) fun r138 =>
    .ite (!decide (r138.2.2 = (0 : Int)))
      (.leaf ((([] : List UInt8), Reader.mk g0.s g0.at_ true)))
      (.leaf ((r138.1, Reader.mk g0.s r138.2.1 g0.bad)))
noncomputable def save_reader_text (q : Option Nat) (g0 : Reader) : Option ((List UInt8) × Reader) := (Tsave_reader_text q g0).run
noncomputable def Asave_reader_text : Arg U (Unit) := aP 0 0 (aNil)
noncomputable def Gsave_reader_text : Bls U (Reader × Unit) := bC cReader (bNil)
noncomputable def Rsave_reader_text (_x : Unit) (_g : Reader × Unit) (r : ((List UInt8) × Reader)) : List (V U) × List (Blk U) := ([vO (cPair cStr (cUnit)) (r.1, ())], [.cells ((cPair cReader (cUnit) : Cdc U (Reader × Unit)).enc (r.2, ())) none])
noncomputable def Ssave_reader_text : List (V U) → List (Blk U) → Option (FnOut U) := mkSpecG Asave_reader_text Gsave_reader_text (fun x g => save_reader_text none g.1) Rsave_reader_text
noncomputable def Esave_reader_text : Env U := { P := Tryz.prog, cd := cd, fns := (addF 106 false (Soctet_GetText) fns30), lps := noL, frz := fun _r => false, nt := 29, n0 := 1 }
theorem rnsave_reader_text (g0 : Reader) : execX false Esave_reader_text Tryz.f48 (Asave_reader_text.enc ()) (Gsave_reader_text.enc (g0, ())) = (Tsave_reader_text none g0).map (Rsave_reader_text () (g0, ())) := by kernel_rfl
theorem runsave_reader_text : ∀ (x : Unit) (g : Reader × Unit), execX false Esave_reader_text Tryz.f48 (Asave_reader_text.enc x) (Gsave_reader_text.enc g) = (Tsave_reader_text none g.1).map (Rsave_reader_text x g)
  | (), (g0, ()) => rnsave_reader_text g0
theorem oksave_reader_text : FnOk Tryz.prog cd 48 Ssave_reader_text := mk_okG (E := Esave_reader_text) (A := Asave_reader_text) (B := Gsave_reader_text) false cd_ok (addF_ok okoctet_GetText fns30_ok) Tryz.func48 (by kernel_rfl) (noLoops_body (by kernel_rfl)) (aP_ok (aNil_ok)) (bC_ok cReader_ok bNil_ok) (T := fun (x : Unit) (g : Reader × Unit) => Tsave_reader_text none g.1) (fun _ _ => rfl) runsave_reader_text
/-- (*emulator/save.reader).line -/
noncomputable def Tsave_reader_line (q : Option Nat) (g0 : Reader) : Tree (Line × Reader) :=
  .opt (Bool × Reader) (save_reader_truth q g0) fun r139 =>
    .opt (Bool × Reader) (save_reader_truth q r139.2) fun r140 =>
      .opt (Bool × Reader) (save_reader_truth q r140.2) fun r141 =>
        .opt (Int × Reader) (save_reader_num q (1 : Int) r141.2) fun r142 =>
          .opt (Bool × Reader) (save_reader_truth q r142.2) fun r143 =>
            .opt (Bool × Reader) (save_reader_truth q r143.2) fun r144 =>
              .opt (Int × Reader) (save_reader_num q (1 : Int) r144.2) fun r145 =>
                .opt (Int × Reader) (save_reader_num q (1 : Int) r145.2) fun r146 =>
                  .opt ((List UInt8) × Reader) (save_reader_text q r146.2) fun r147 =>
                    .leaf ((Line.mk r139.1 r140.1 r141.1 r142.1 r143.1 r144.1 r145.1 r146.1 r147.1, r147.2))
noncomputable def save_reader_line (q : Option Nat) (g0 : Reader) : Option (Line × Reader) := (Tsave_reader_line q g0).run
noncomputable def Asave_reader_line : Arg U (Unit) := aP 0 0 (aNil)
noncomputable def Gsave_reader_line : Bls U (Reader × Unit) := bC cReader (bNil)
noncomputable def Rsave_reader_line (_x : Unit) (_g : Reader × Unit) (r : (Line × Reader)) : List (V U) × List (Blk U) := ([vA (cPair cLine (cUnit)) (r.1, ())], [.cells ((cPair cReader (cUnit) : Cdc U (Reader × Unit)).enc (r.2, ())) none])
noncomputable def Ssave_reader_line : List (V U) → List (Blk U) → Option (FnOut U) := mkSpecG Asave_reader_line Gsave_reader_line (fun x g => save_reader_line none g.1) Rsave_reader_line
noncomputable def Esave_reader_line : Env U := { P := Tryz.prog, cd := cd, fns := (addF 48 false (Ssave_reader_text) (addF 29 false (Ssave_reader_num) (addF 24 false (Ssave_reader_truth) fns30))), lps := noL, frz := fun _r => false, nt := 22, n0 := 1 }
theorem rnsave_reader_line (g0 : Reader) : execX false Esave_reader_line Tryz.f26 (Asave_reader_line.enc ()) (Gsave_reader_line.enc (g0, ())) = (Tsave_reader_line none g0).map (Rsave_reader_line () (g0, ())) := by kernel_rfl
theorem runsave_reader_line : ∀ (x : Unit) (g : Reader × Unit), execX false Esave_reader_line Tryz.f26 (Asave_reader_line.enc x) (Gsave_reader_line.enc g) = (Tsave_reader_line none g.1).map (Rsave_reader_line x g)
  | (), (g0, ()) => rnsave_reader_line g0
theorem oksave_reader_line : FnOk Tryz.prog cd 26 Ssave_reader_line := mk_okG (E := Esave_reader_line) (A := Asave_reader_line) (B := Gsave_reader_line) false cd_ok (addF_ok oksave_reader_text (addF_ok oksave_reader_num (addF_ok oksave_reader_truth fns30_ok))) Tryz.func26 (by kernel_rfl) (noLoops_body (by kernel_rfl)) (aP_ok (aNil_ok)) (bC_ok cReader_ok bNil_ok) (T := fun (x : Unit) (g : Reader × Unit) => Tsave_reader_line none g.1) (fun _ _ => rfl) runsave_reader_line
/-- emulator/save.listed[emulator/api.Line] -/
structure Ssave_listed_api_Line_0 where
  t6 : Int
  b0 : Reader
  b1 : (List Line)
noncomputable def Wsave_listed_api_Line_0 (q : Option Nat) (s : Ssave_listed_api_Line_0) : Tree (Ssave_listed_api_Line_0 ⊕ (Reader × (List Line))) :=
  .ite (decide ((0 : Int) < s.t6))
    (.ite (!s.b0.bad)
      (.opt (Line × Reader) (save_reader_line q s.b0) fun r151 =>
        .ite (decide ((s.b1.length + ([r151.1]).length) * 56 ≤ 140737488355328))
          (.leaf (.inl (Ssave_listed_api_Line_0.mk (IntKind.wrap .i64 (s.t6 - (1 : Int))) r151.2 (s.b1 ++ ([r151.1])))))
          .fail)
      (.leaf (.inr (s.b0, s.b1))))
    (.leaf (.inr (s.b0, s.b1)))
noncomputable def Lsave_listed_api_Line_0 (q : Option Nat) (s : Ssave_listed_api_Line_0) : Option (Reader × (List Line)) := limQ q (fun s => (Wsave_listed_api_Line_0 q s).run) s
noncomputable def Tsave_listed_api_Line (q : Option Nat) (g0 : Reader) : Tree ((List Line) × Reader) :=
  .opt (Int × Reader) (save_reader_word q g0) fun r150 =>
    .opt (Reader × (List Line)) (Lsave_listed_api_Line_0 q (Ssave_listed_api_Line_0.mk r150.1 r150.2 ([]))) fun l152 =>
      .leaf ((l152.2, l152.1))
noncomputable def save_listed_api_Line (q : Option Nat) (g0 : Reader) : Option ((List Line) × Reader) := (Tsave_listed_api_Line q g0).run
noncomputable def Asave_listed_api_Line : Arg U (Unit) := aP 0 0 (aKF (.fn 26 [(.ptr 0 0)] []) (aNil))
noncomputable def Gsave_listed_api_Line : Bls U (Reader × Unit) := bC cReader (bNil)
noncomputable def Rsave_listed_api_Line (_x : Unit) (_g : Reader × Unit) (r : ((List Line) × Reader)) : List (V U) × List (Blk U) := ([vO (cPair (cSl 66) (cUnit)) (r.1, ())], [.cells ((cPair cReader (cUnit) : Cdc U (Reader × Unit)).enc (r.2, ())) none])
noncomputable def Ssave_listed_api_Line : List (V U) → List (Blk U) → Option (FnOut U) := mkSpecG Asave_listed_api_Line Gsave_listed_api_Line (fun x g => save_listed_api_Line none g.1) Rsave_listed_api_Line
noncomputable def Psave_listed_api_Line_0 (x : (Unit) × (Unit) × (Unit) × (Int × Unit) × Unit) (g : (Reader × Unit) × (List Line) × Unit) : Ssave_listed_api_Line_0 := Ssave_listed_api_Line_0.mk x.2.2.2.1.1 g.1.1 g.2.1
noncomputable def tAsave_listed_api_Line_0 : Tms U ((Unit) × (Unit) × (Unit) × (Int × Unit) × Unit) := tO 0 (cK (.ptr 0 0) (cUnit)) (tO 1 (cK2 (.fn 26 [(.ptr 0 0)] []) (cUnit)) (tO 5 (cK (.row 1 0) (cUnit)) (tO 6 (cPair (cInt .i64) (cUnit)) (tNil))))
noncomputable def tBsave_listed_api_Line_0 : Bls U ((Reader × Unit) × (List Line) × Unit) := bC (cPair cReader (cUnit)) (bRv 66 0 (bNil))
noncomputable def eSsave_listed_api_Line_0 (s : Ssave_listed_api_Line_0) : St U := { tm := [(0, .v (vO (cK (.ptr 0 0) (cUnit)) (()))), (1, .v (vO (cK2 (.fn 26 [(.ptr 0 0)] []) (cUnit)) (()))), (5, .v (vO (cK (.row 1 0) (cUnit)) (()))), (6, .v (vO (cPair (cInt .i64) (cUnit)) (s.t6, ())))], hp := [.cells ((cPair cReader (cUnit) : Cdc U (Reader × Unit)).enc (s.b0, ())) none, .row 66 0 s.b1] }
noncomputable def xSsave_listed_api_Line_0 (r : (Reader × (List Line))) : Ex × St U := (.exit 0, { tm := [(5, .v (vO (cK (.row 1 0) (cUnit)) (())))], hp := [.cells ((cPair cReader (cUnit) : Cdc U (Reader × Unit)).enc (r.1, ())) none, .row 66 0 r.2] })
noncomputable def xTsave_listed_api_Line_0 (r : (Reader × (List Line))) : Tree (Ex × St U) := .leaf (xSsave_listed_api_Line_0 r)
noncomputable def hsave_listed_api_Line_0 : Hd := { keep := [0, 1, 5, 6], xkeep := [4, 5], own := true }
noncomputable def Esave_listed_api_Line : Env U := { P := Tryz.prog, cd := cd, fns := (addF 26 false (Ssave_reader_line) (addF 22 false (Ssave_reader_word) fns30)), lps := (addL 0 hsave_listed_api_Line_0 (mkLoop tAsave_listed_api_Line_0 tBsave_listed_api_Line_0 Psave_listed_api_Line_0 (Lsave_listed_api_Line_0 none) xTsave_listed_api_Line_0) noL), frz := fun _r => false, nt := 26, n0 := 1 }
noncomputable def Bsave_listed_api_Line_0 : Code := (loopAt (Tryz.f25.body.getD .skip) 0 0).getD .skip
theorem roundsave_listed_api_Line_0 (s : Ssave_listed_api_Line_0) : round Esave_listed_api_Line hsave_listed_api_Line_0 Bsave_listed_api_Line_0 0 (eSsave_listed_api_Line_0 s) = (Wsave_listed_api_Line_0 none s).map (sumE eSsave_listed_api_Line_0 xSsave_listed_api_Line_0) := by kernel_rfl
theorem lpsave_listed_api_Line_0 : LpOk Esave_listed_api_Line Bsave_listed_api_Line_0 0 := mkLoop_ok (A := tAsave_listed_api_Line_0) (B := tBsave_listed_api_Line_0) (f := Psave_listed_api_Line_0) (L := Lsave_listed_api_Line_0 none) (tO_ok (cK_ok cUnit_ok) (tO_ok (cK2_ok cUnit_ok) (tO_ok (cK_ok cUnit_ok) (tO_ok (cPair_ok (cInt_ok .i64) cUnit_ok) tNil_ok)))) (bC_ok (cPair_ok cReader_ok cUnit_ok) (bRv_ok bNil_ok)) (enc := eSsave_listed_api_Line_0) (out := xTsave_listed_api_Line_0) (outS := xSsave_listed_api_Line_0) (step := Wsave_listed_api_Line_0 none) (fun _ => rfl) (fun _ _ => by kernel_rfl) (by kernel_rfl) (fun _ => rfl) roundsave_listed_api_Line_0
theorem rnsave_listed_api_Line (g0 : Reader) : execX false Esave_listed_api_Line Tryz.f25 (Asave_listed_api_Line.enc ()) (Gsave_listed_api_Line.enc (g0, ())) = (Tsave_listed_api_Line none g0).map (Rsave_listed_api_Line () (g0, ())) := by kernel_rfl
theorem runsave_listed_api_Line : ∀ (x : Unit) (g : Reader × Unit), execX false Esave_listed_api_Line Tryz.f25 (Asave_listed_api_Line.enc x) (Gsave_listed_api_Line.enc g) = (Tsave_listed_api_Line none g.1).map (Rsave_listed_api_Line x g)
  | (), (g0, ()) => rnsave_listed_api_Line g0
theorem oksave_listed_api_Line : FnOk Tryz.prog cd 25 Ssave_listed_api_Line := mk_okG (E := Esave_listed_api_Line) (A := Asave_listed_api_Line) (B := Gsave_listed_api_Line) false cd_ok (addF_ok oksave_reader_line (addF_ok oksave_reader_word fns30_ok)) Tryz.func25 (by kernel_rfl) (loops_of (addL_ok lpsave_listed_api_Line_0 noL_ok)) (aP_ok (aKF_ok (aNil_ok))) (bC_ok cReader_ok bNil_ok) (T := fun (x : Unit) (g : Reader × Unit) => Tsave_listed_api_Line none g.1) (fun _ _ => rfl) runsave_listed_api_Line
/-- emulator/save.listed[string] -/
structure Ssave_listed_string_0 where
  t6 : Int
  b0 : Reader
  b1 : (List (List UInt8))
noncomputable def Wsave_listed_string_0 (q : Option Nat) (s : Ssave_listed_string_0) : Tree (Ssave_listed_string_0 ⊕ (Reader × (List (List UInt8)))) :=
  .ite (decide ((0 : Int) < s.t6))
    (.ite (!s.b0.bad)
      (.opt ((List UInt8) × Reader) (save_reader_text q s.b0) fun r167 =>
        .ite (decide ((s.b1.length + ([r167.1]).length) * 16 ≤ 140737488355328))
          (.leaf (.inl (Ssave_listed_string_0.mk (IntKind.wrap .i64 (s.t6 - (1 : Int))) r167.2 (s.b1 ++ ([r167.1])))))
          .fail)
      (.leaf (.inr (s.b0, s.b1))))
    (.leaf (.inr (s.b0, s.b1)))
noncomputable def Lsave_listed_string_0 (q : Option Nat) (s : Ssave_listed_string_0) : Option (Reader × (List (List UInt8))) := limQ q (fun s => (Wsave_listed_string_0 q s).run) s
noncomputable def Tsave_listed_string (q : Option Nat) (g0 : Reader) : Tree ((List (List UInt8)) × Reader) :=
  .opt (Int × Reader) (save_reader_word q g0) fun r166 =>
    .opt (Reader × (List (List UInt8))) (Lsave_listed_string_0 q (Ssave_listed_string_0.mk r166.1 r166.2 ([]))) fun l168 =>
      .leaf ((l168.2, l168.1))
noncomputable def save_listed_string (q : Option Nat) (g0 : Reader) : Option ((List (List UInt8)) × Reader) := (Tsave_listed_string q g0).run
noncomputable def Asave_listed_string : Arg U (Unit) := aP 0 0 (aKF (.fn 48 [(.ptr 0 0)] []) (aNil))
noncomputable def Gsave_listed_string : Bls U (Reader × Unit) := bC cReader (bNil)
noncomputable def Rsave_listed_string (_x : Unit) (_g : Reader × Unit) (r : ((List (List UInt8)) × Reader)) : List (V U) × List (Blk U) := ([vO (cPair (cSl 9) (cUnit)) (r.1, ())], [.cells ((cPair cReader (cUnit) : Cdc U (Reader × Unit)).enc (r.2, ())) none])
noncomputable def Ssave_listed_string : List (V U) → List (Blk U) → Option (FnOut U) := mkSpecG Asave_listed_string Gsave_listed_string (fun x g => save_listed_string none g.1) Rsave_listed_string
noncomputable def Psave_listed_string_0 (x : (Unit) × (Unit) × (Unit) × (Int × Unit) × Unit) (g : (Reader × Unit) × (List (List UInt8)) × Unit) : Ssave_listed_string_0 := Ssave_listed_string_0.mk x.2.2.2.1.1 g.1.1 g.2.1
noncomputable def tAsave_listed_string_0 : Tms U ((Unit) × (Unit) × (Unit) × (Int × Unit) × Unit) := tO 0 (cK (.ptr 0 0) (cUnit)) (tO 1 (cK2 (.fn 48 [(.ptr 0 0)] []) (cUnit)) (tO 5 (cK (.row 1 0) (cUnit)) (tO 6 (cPair (cInt .i64) (cUnit)) (tNil))))
noncomputable def tBsave_listed_string_0 : Bls U ((Reader × Unit) × (List (List UInt8)) × Unit) := bC (cPair cReader (cUnit)) (bRv 9 0 (bNil))
noncomputable def eSsave_listed_string_0 (s : Ssave_listed_string_0) : St U := { tm := [(0, .v (vO (cK (.ptr 0 0) (cUnit)) (()))), (1, .v (vO (cK2 (.fn 48 [(.ptr 0 0)] []) (cUnit)) (()))), (5, .v (vO (cK (.row 1 0) (cUnit)) (()))), (6, .v (vO (cPair (cInt .i64) (cUnit)) (s.t6, ())))], hp := [.cells ((cPair cReader (cUnit) : Cdc U (Reader × Unit)).enc (s.b0, ())) none, .row 9 0 s.b1] }
noncomputable def xSsave_listed_string_0 (r : (Reader × (List (List UInt8)))) : Ex × St U := (.exit 0, { tm := [(5, .v (vO (cK (.row 1 0) (cUnit)) (())))], hp := [.cells ((cPair cReader (cUnit) : Cdc U (Reader × Unit)).enc (r.1, ())) none, .row 9 0 r.2] })
noncomputable def xTsave_listed_string_0 (r : (Reader × (List (List UInt8)))) : Tree (Ex × St U) := .leaf (xSsave_listed_string_0 r)
noncomputable def hsave_listed_string_0 : Hd := { keep := [0, 1, 5, 6], xkeep := [4, 5], own := true }
noncomputable def Esave_listed_string : Env U := { P := Tryz.prog, cd := cd, fns := (addF 48 false (Ssave_reader_text) (addF 22 false (Ssave_reader_word) fns30)), lps := (addL 0 hsave_listed_string_0 (mkLoop tAsave_listed_string_0 tBsave_listed_string_0 Psave_listed_string_0 (Lsave_listed_string_0 none) xTsave_listed_string_0) noL), frz := fun _r => false, nt := 26, n0 := 1 }
noncomputable def Bsave_listed_string_0 : Code := (loopAt (Tryz.f49.body.getD .skip) 0 0).getD .skip
theorem roundsave_listed_string_0 (s : Ssave_listed_string_0) : round Esave_listed_string hsave_listed_string_0 Bsave_listed_string_0 0 (eSsave_listed_string_0 s) = (Wsave_listed_string_0 none s).map (sumE eSsave_listed_string_0 xSsave_listed_string_0) := by kernel_rfl
theorem lpsave_listed_string_0 : LpOk Esave_listed_string Bsave_listed_string_0 0 := mkLoop_ok (A := tAsave_listed_string_0) (B := tBsave_listed_string_0) (f := Psave_listed_string_0) (L := Lsave_listed_string_0 none) (tO_ok (cK_ok cUnit_ok) (tO_ok (cK2_ok cUnit_ok) (tO_ok (cK_ok cUnit_ok) (tO_ok (cPair_ok (cInt_ok .i64) cUnit_ok) tNil_ok)))) (bC_ok (cPair_ok cReader_ok cUnit_ok) (bRv_ok bNil_ok)) (enc := eSsave_listed_string_0) (out := xTsave_listed_string_0) (outS := xSsave_listed_string_0) (step := Wsave_listed_string_0 none) (fun _ => rfl) (fun _ _ => by kernel_rfl) (by kernel_rfl) (fun _ => rfl) roundsave_listed_string_0
theorem rnsave_listed_string (g0 : Reader) : execX false Esave_listed_string Tryz.f49 (Asave_listed_string.enc ()) (Gsave_listed_string.enc (g0, ())) = (Tsave_listed_string none g0).map (Rsave_listed_string () (g0, ())) := by kernel_rfl
theorem runsave_listed_string : ∀ (x : Unit) (g : Reader × Unit), execX false Esave_listed_string Tryz.f49 (Asave_listed_string.enc x) (Gsave_listed_string.enc g) = (Tsave_listed_string none g.1).map (Rsave_listed_string x g)
  | (), (g0, ()) => rnsave_listed_string g0
theorem oksave_listed_string : FnOk Tryz.prog cd 49 Ssave_listed_string := mk_okG (E := Esave_listed_string) (A := Asave_listed_string) (B := Gsave_listed_string) false cd_ok (addF_ok oksave_reader_text (addF_ok oksave_reader_word fns30_ok)) Tryz.func49 (by kernel_rfl) (loops_of (addL_ok lpsave_listed_string_0 noL_ok)) (aP_ok (aKF_ok (aNil_ok))) (bC_ok cReader_ok bNil_ok) (T := fun (x : Unit) (g : Reader × Unit) => Tsave_listed_string none g.1) (fun _ _ => rfl) runsave_listed_string
/-- (*emulator/save.reader).disk -/
noncomputable def Tsave_reader_disk (q : Option Nat) (g0 : Reader) : Tree (Disk × Reader) :=
  .opt ((List (List UInt8)) × Reader) (save_listed_string q g0) fun r169 =>
    .opt ((List Int) × Reader) (save_listed_int q r169.2) fun r170 =>
      .opt (Bool × Reader) (save_reader_truth q r170.2) fun r171 =>
        .opt (Bool × Reader) (save_reader_truth q r171.2) fun r172 =>
          .opt (Bool × Reader) (save_reader_truth q r172.2) fun r173 =>
            .opt (Int × Reader) (save_reader_num q (1 : Int) r173.2) fun r174 =>
              .opt (Int × Reader) (save_reader_word q r174.2) fun r175 =>
                .opt (Int × Reader) (save_reader_word q r175.2) fun r176 =>
                  .opt (Int × Reader) (save_reader_word q r176.2) fun r177 =>
                    .opt (Int × Reader) (save_reader_num q (1 : Int) r177.2) fun r178 =>
                      .leaf ((Disk.mk (Drive.mk r169.1 r170.1) r171.1 r172.1 r173.1 r174.1 r175.1 r176.1 r177.1 r178.1, r178.2))
noncomputable def save_reader_disk (q : Option Nat) (g0 : Reader) : Option (Disk × Reader) := (Tsave_reader_disk q g0).run
noncomputable def Asave_reader_disk : Arg U (Unit) := aP 0 0 (aNil)
noncomputable def Gsave_reader_disk : Bls U (Reader × Unit) := bC cReader (bNil)
noncomputable def Rsave_reader_disk (_x : Unit) (_g : Reader × Unit) (r : (Disk × Reader)) : List (V U) × List (Blk U) := ([vA (cPair cDisk (cUnit)) (r.1, ())], [.cells ((cPair cReader (cUnit) : Cdc U (Reader × Unit)).enc (r.2, ())) none])
noncomputable def Ssave_reader_disk : List (V U) → List (Blk U) → Option (FnOut U) := mkSpecG Asave_reader_disk Gsave_reader_disk (fun x g => save_reader_disk none g.1) Rsave_reader_disk
noncomputable def Esave_reader_disk : Env U := { P := Tryz.prog, cd := cd, fns := (addF 49 false (Ssave_listed_string) (addF 29 false (Ssave_reader_num) (addF 24 false (Ssave_reader_truth) (addF 22 false (Ssave_reader_word) (addF 21 false (Ssave_listed_int) fns30))))), lps := noL, frz := fun _r => false, nt := 31, n0 := 1, fps := fun _r _i => bif Nat.beq _r 2 && Nat.beq _i 0 then .rd [2] else bif Nat.beq _r 2 && Nat.beq _i 2 then .wr [0] 3 else bif Nat.beq _r 2 && Nat.beq _i 4 then .wr [0] 3 else bif Nat.beq _r 2 && Nat.beq _i 6 then .wr [0] 3 else bif Nat.beq _r 2 && Nat.beq _i 8 then .wr [0] 3 else bif Nat.beq _r 2 && Nat.beq _i 10 then .wr [0] 3 else bif Nat.beq _r 2 && Nat.beq _i 12 then .wr [0] 3 else bif Nat.beq _r 2 && Nat.beq _i 14 then .wr [0] 3 else bif Nat.beq _r 2 && Nat.beq _i 16 then .wr [0] 3 else .none }
theorem rnsave_reader_disk (g0 : Reader) : execX false Esave_reader_disk Tryz.f27 (Asave_reader_disk.enc ()) (Gsave_reader_disk.enc (g0, ())) = (Tsave_reader_disk none g0).map (Rsave_reader_disk () (g0, ())) := by kernel_rfl
theorem runsave_reader_disk : ∀ (x : Unit) (g : Reader × Unit), execX false Esave_reader_disk Tryz.f27 (Asave_reader_disk.enc x) (Gsave_reader_disk.enc g) = (Tsave_reader_disk none g.1).map (Rsave_reader_disk x g)
  | (), (g0, ()) => rnsave_reader_disk g0
theorem oksave_reader_disk : FnOk Tryz.prog cd 27 Ssave_reader_disk := mk_okG (E := Esave_reader_disk) (A := Asave_reader_disk) (B := Gsave_reader_disk) false cd_ok (addF_ok oksave_listed_string (addF_ok oksave_reader_num (addF_ok oksave_reader_truth (addF_ok oksave_reader_word (addF_ok oksave_listed_int fns30_ok))))) Tryz.func27 (by kernel_rfl) (noLoops_body (by kernel_rfl)) (aP_ok (aNil_ok)) (bC_ok cReader_ok bNil_ok) (T := fun (x : Unit) (g : Reader × Unit) => Tsave_reader_disk none g.1) (fun _ _ => rfl) runsave_reader_disk
/-- (*emulator/save.reader).tape -/
noncomputable def Tsave_reader_tape (q : Option Nat) (g0 : Reader) : Tree (Tape × Reader) :=
  .opt ((List (List UInt8)) × Reader) (save_listed_string q g0) fun r191 =>
    .opt (Int × Reader) (save_reader_num q (1 : Int) r191.2) fun r192 =>
      .opt (Bool × Reader) (save_reader_truth q r192.2) fun r193 =>
        .opt (Bool × Reader) (save_reader_truth q r193.2) fun r194 =>
          .opt (Bool × Reader) (save_reader_truth q r194.2) fun r195 =>
            .opt (Bool × Reader) (save_reader_truth q r195.2) fun r196 =>
              .opt (Bool × Reader) (save_reader_truth q r196.2) fun r197 =>
                .opt (Int × Reader) (save_reader_num q (1 : Int) r197.2) fun r198 =>
                  .opt (Int × Reader) (save_reader_word q r198.2) fun r199 =>
                    .opt (Int × Reader) (save_reader_word q r199.2) fun r200 =>
                      .opt (Int × Reader) (save_reader_num q (1 : Int) r200.2) fun r201 =>
                        .leaf ((Tape.mk r191.1 r192.1 r193.1 r194.1 r195.1 r196.1 r197.1 r198.1 r199.1 r200.1 r201.1, r201.2))
noncomputable def save_reader_tape (q : Option Nat) (g0 : Reader) : Option (Tape × Reader) := (Tsave_reader_tape q g0).run
noncomputable def Asave_reader_tape : Arg U (Unit) := aP 0 0 (aNil)
noncomputable def Gsave_reader_tape : Bls U (Reader × Unit) := bC cReader (bNil)
noncomputable def Rsave_reader_tape (_x : Unit) (_g : Reader × Unit) (r : (Tape × Reader)) : List (V U) × List (Blk U) := ([vA (cPair cTape (cUnit)) (r.1, ())], [.cells ((cPair cReader (cUnit) : Cdc U (Reader × Unit)).enc (r.2, ())) none])
noncomputable def Ssave_reader_tape : List (V U) → List (Blk U) → Option (FnOut U) := mkSpecG Asave_reader_tape Gsave_reader_tape (fun x g => save_reader_tape none g.1) Rsave_reader_tape
noncomputable def Esave_reader_tape : Env U := { P := Tryz.prog, cd := cd, fns := (addF 49 false (Ssave_listed_string) (addF 29 false (Ssave_reader_num) (addF 24 false (Ssave_reader_truth) (addF 22 false (Ssave_reader_word) fns30)))), lps := noL, frz := fun _r => false, nt := 28, n0 := 1 }
theorem rnsave_reader_tape (g0 : Reader) : execX false Esave_reader_tape Tryz.f28 (Asave_reader_tape.enc ()) (Gsave_reader_tape.enc (g0, ())) = (Tsave_reader_tape none g0).map (Rsave_reader_tape () (g0, ())) := by kernel_rfl
theorem runsave_reader_tape : ∀ (x : Unit) (g : Reader × Unit), execX false Esave_reader_tape Tryz.f28 (Asave_reader_tape.enc x) (Gsave_reader_tape.enc g) = (Tsave_reader_tape none g.1).map (Rsave_reader_tape x g)
  | (), (g0, ()) => rnsave_reader_tape g0
theorem oksave_reader_tape : FnOk Tryz.prog cd 28 Ssave_reader_tape := mk_okG (E := Esave_reader_tape) (A := Asave_reader_tape) (B := Gsave_reader_tape) false cd_ok (addF_ok oksave_listed_string (addF_ok oksave_reader_num (addF_ok oksave_reader_truth (addF_ok oksave_reader_word fns30_ok)))) Tryz.func28 (by kernel_rfl) (noLoops_body (by kernel_rfl)) (aP_ok (aNil_ok)) (bC_ok cReader_ok bNil_ok) (T := fun (x : Unit) (g : Reader × Unit) => Tsave_reader_tape none g.1) (fun _ _ => rfl) runsave_reader_tape
/-- emulator/save.Decode -/
noncomputable def Tsave_Decode (q : Option Nat) (x0 : (List UInt8)) : Tree (Machine × Int) :=
  .opt ((List UInt8) × Int) (octet_Open q x0) fun r202 =>
    .ite (!decide (r202.2 = (0 : Int)))
      (.leaf ((Machine.mk (Cpu.mk (List.replicate 6 (0 : Int)) (List.replicate 2 (0 : Int)) 0 0) ([]) ([]) (Mmu.mk false (List.replicate 16 (Page.mk (0 : Int) (0 : Int) (0 : Int) false)) 0 0) (Clock.mk false false 0 0) ([]) (Disk.mk (Drive.mk ([]) ([])) false false false 0 0 0 0 0) (Tape.mk ([]) 0 false false false false false 0 0 0 0) 0 false false 0 false, r202.2)))
      (.opt Bool (strings_HasPrefix r202.1 ([69, 77, 85, 49] : List UInt8)) fun r203 =>
        .ite (!r203)
          (.leaf ((Machine.mk (Cpu.mk (List.replicate 6 (0 : Int)) (List.replicate 2 (0 : Int)) 0 0) ([]) ([]) (Mmu.mk false (List.replicate 16 (Page.mk (0 : Int) (0 : Int) (0 : Int) false)) 0 0) (Clock.mk false false 0 0) ([]) (Disk.mk (Drive.mk ([]) ([])) false false false 0 0 0 0 0) (Tape.mk ([]) 0 false false false false false 0 0 0 0) 0 false false 0 false, (9 : Int))))
          (.opt (Cpu × Reader) (save_reader_cpu q (Reader.mk r202.1 (4 : Int) false)) fun r204 =>
            .opt ((List Int) × Reader) (save_listed_int q r204.2) fun r205 =>
              .opt ((List Int) × Reader) (save_listed_int q r205.2) fun r206 =>
                .opt (Mmu × Reader) (save_reader_mmu q r206.2) fun r207 =>
                  .opt (Bool × Reader) (save_reader_truth q r207.2) fun r208 =>
                    .opt (Bool × Reader) (save_reader_truth q r208.2) fun r209 =>
                      .opt (Int × Reader) (save_reader_word q r209.2) fun r210 =>
                        .opt (Int × Reader) (save_reader_word q r210.2) fun r211 =>
                          .opt ((List Line) × Reader) (save_listed_api_Line q r211.2) fun r212 =>
                            .opt (Disk × Reader) (save_reader_disk q r212.2) fun r213 =>
                              .opt (Tape × Reader) (save_reader_tape q r213.2) fun r214 =>
                                .opt (Int × Reader) (save_reader_num q (6 : Int) r214.2) fun r215 =>
                                  .opt (Bool × Reader) (save_reader_truth q r215.2) fun r216 =>
                                    .opt (Bool × Reader) (save_reader_truth q r216.2) fun r217 =>
                                      .opt (Int × Reader) (save_reader_word q r217.2) fun r218 =>
                                        .opt (Bool × Reader) (save_reader_truth q r218.2) fun r219 =>
                                          .ite (r219.2.bad)
                                            (.leaf ((Machine.mk (Cpu.mk (List.replicate 6 (0 : Int)) (List.replicate 2 (0 : Int)) 0 0) ([]) ([]) (Mmu.mk false (List.replicate 16 (Page.mk (0 : Int) (0 : Int) (0 : Int) false)) 0 0) (Clock.mk false false 0 0) ([]) (Disk.mk (Drive.mk ([]) ([])) false false false 0 0 0 0 0) (Tape.mk ([]) 0 false false false false false 0 0 0 0) 0 false false 0 false, (9 : Int))))
                                            (.ite (!decide (r219.2.at_ = (r202.1.length : Int)))
                                              (.leaf ((Machine.mk (Cpu.mk (List.replicate 6 (0 : Int)) (List.replicate 2 (0 : Int)) 0 0) ([]) ([]) (Mmu.mk false (List.replicate 16 (Page.mk (0 : Int) (0 : Int) (0 : Int) false)) 0 0) (Clock.mk false false 0 0) ([]) (Disk.mk (Drive.mk ([]) ([])) false false false 0 0 0 0 0) (Tape.mk ([]) 0 false false false false false 0 0 0 0) 0 false false 0 false, (9 : Int))))
                                              (.opt Bool (machine_Right q (Machine.mk r204.1 r205.1 r206.1 r207.1 (Clock.mk r208.1 r209.1 r210.1 r211.1) r212.1 r213.1 r214.1 r215.1 r216.1 r217.1 r218.1 r219.1)) fun r220 =>
                                                .ite (!r220)
                                                  (.leaf ((Machine.mk (Cpu.mk (List.replicate 6 (0 : Int)) (List.replicate 2 (0 : Int)) 0 0) ([]) ([]) (Mmu.mk false (List.replicate 16 (Page.mk (0 : Int) (0 : Int) (0 : Int) false)) 0 0) (Clock.mk false false 0 0) ([]) (Disk.mk (Drive.mk ([]) ([])) false false false 0 0 0 0 0) (Tape.mk ([]) 0 false false false false false 0 0 0 0) 0 false false 0 false, (9 : Int))))
                                                  (.leaf ((Machine.mk r204.1 r205.1 r206.1 r207.1 (Clock.mk r208.1 r209.1 r210.1 r211.1) r212.1 r213.1 r214.1 r215.1 r216.1 r217.1 r218.1 r219.1, (0 : Int))))))))
noncomputable def save_Decode (q : Option Nat) (x0 : (List UInt8)) : Option (Machine × Int) := (Tsave_Decode q x0).run
noncomputable def Asave_Decode : Arg U ((List UInt8) × Unit) := aO cStr (aNil)
noncomputable def Rsave_Decode (r : (Machine × Int)) : List (V U) × List (Blk U) := ([vA cMachine r.1, vO (cInt .i64) r.2], [])
noncomputable def Ssave_Decode : List (V U) → List (Blk U) → Option (FnOut U) := mkSpec Asave_Decode bNil (fun x _ => save_Decode none x.1) Rsave_Decode
noncomputable def Esave_Decode : Env U := { P := Tryz.prog, cd := cd, fns := (addF 29 false (Ssave_reader_num) (addF 28 false (Ssave_reader_tape) (addF 27 false (Ssave_reader_disk) (addF 25 false (Ssave_listed_api_Line) (addF 24 false (Ssave_reader_truth) (addF 23 false (Ssave_reader_mmu) (addF 22 false (Ssave_reader_word) (addF 21 false (Ssave_listed_int) (addF 20 false (Ssave_reader_cpu) fns30))))))))), lps := noL, frz := fun _r => false, nt := 93, n0 := 0 }
theorem runsave_Decode (x : (List UInt8) × Unit) (g : Unit) : execF Esave_Decode Tryz.f7 (Asave_Decode.enc x) (bNil.enc g) = (Tsave_Decode none x.1).map Rsave_Decode := by kernel_rfl
theorem oksave_Decode : FnOk Tryz.prog cd 7 Ssave_Decode := mk_ok (E := Esave_Decode) cd_ok (addF_ok oksave_reader_num (addF_ok oksave_reader_tape (addF_ok oksave_reader_disk (addF_ok oksave_listed_api_Line (addF_ok oksave_reader_truth (addF_ok oksave_reader_mmu (addF_ok oksave_reader_word (addF_ok oksave_listed_int (addF_ok oksave_reader_cpu fns30_ok))))))))) Tryz.func7 (by kernel_rfl) (noLoops_body (by kernel_rfl)) (aO_ok cStr_ok (aNil_ok)) bNil_ok (T := fun x _ => Tsave_Decode none x.1) (fun _ _ => rfl) runsave_Decode
noncomputable def fns7 := addF 7 true Ssave_Decode fns30
theorem fns7_ok : ∀ f q t, fns7 f = some (q, t) → FnOk Tryz.prog cd f t := addF_ok oksave_Decode fns30_ok
/-- emulator/octet.joined -/
structure Soctet_joined_0 where
  t6 : (List (List UInt8))
  t7 : Int
  t8 : Int
  b0 : (List Int)
noncomputable def Woctet_joined_0 (s : Soctet_joined_0) : Tree (Soctet_joined_0 ⊕ (List Int)) :=
  .ite (decide (s.t8 < s.t7))
    (.ite (decide (0 ≤ s.t8))
      (.opt (List UInt8) (s.t6[(s.t8).toNat]?) fun y221 =>
        .ite (decide ((s.b0.length + (y221.map fun b => (b.toNat : Int)).length) * 1 ≤ 140737488355328))
          (.leaf (.inl (Soctet_joined_0.mk s.t6 s.t7 (IntKind.wrap .i64 (s.t8 + (1 : Int))) (s.b0 ++ (y221.map fun b => (b.toNat : Int))))))
          .fail)
      .fail)
    (.leaf (.inr s.b0))
noncomputable def Loctet_joined_0 (q : Option Nat) (s : Soctet_joined_0) : Option (List Int) := limQ q (fun s => (Woctet_joined_0 s).run) s
noncomputable def Toctet_joined (q : Option Nat) (x0 : (List (List UInt8))) : Tree (List UInt8) :=
  .opt (List Int) (Loctet_joined_0 q (Soctet_joined_0.mk x0 (x0.length : Int) (0 : Int) ([]))) fun l222 =>
    .leaf (l222.map fun x => UInt8.ofNat x.toNat)
noncomputable def octet_joined (q : Option Nat) (x0 : (List (List UInt8))) : Option (List UInt8) := (Toctet_joined q x0).run
noncomputable def Aoctet_joined : Arg U ((List (List UInt8)) × Unit) := aO (cSl 9) (aNil)
noncomputable def Roctet_joined (r : (List UInt8)) : List (V U) × List (Blk U) := ([vO cStr r], [])
noncomputable def Soctet_joined : List (V U) → List (Blk U) → Option (FnOut U) := mkSpec Aoctet_joined bNil (fun x _ => octet_joined none x.1) Roctet_joined
noncomputable def Poctet_joined_0 (x : (Unit) × ((List (List UInt8)) × Unit) × (Int × Unit) × (Int × Unit) × Unit) (g : (List Int) × Unit) : Soctet_joined_0 := Soctet_joined_0.mk x.2.1.1 x.2.2.1.1 x.2.2.2.1.1 g.1
noncomputable def tAoctet_joined_0 : Tms U ((Unit) × ((List (List UInt8)) × Unit) × (Int × Unit) × (Int × Unit) × Unit) := tO 3 (cK (.row 0 0) (cUnit)) (tO 6 (cPair (cSl 9) (cUnit)) (tO 7 (cPair (cInt .i64) (cUnit)) (tO 8 (cPair (cInt .i64) (cUnit)) (tNil))))
noncomputable def tBoctet_joined_0 : Bls U ((List Int) × Unit) := bRv 5 0 (bNil)
noncomputable def eSoctet_joined_0 (s : Soctet_joined_0) : St U := { tm := [(3, .v (vO (cK (.row 0 0) (cUnit)) (()))), (6, .v (vO (cPair (cSl 9) (cUnit)) (s.t6, ()))), (7, .v (vO (cPair (cInt .i64) (cUnit)) (s.t7, ()))), (8, .v (vO (cPair (cInt .i64) (cUnit)) (s.t8, ())))], hp := [.row 5 0 s.b0] }
noncomputable def xSoctet_joined_0 (r : (List Int)) : Ex × St U := (.exit 0, { tm := [(3, .v (vO (cK (.row 0 0) (cUnit)) (())))], hp := [.row 5 0 r] })
noncomputable def xToctet_joined_0 (r : (List Int)) : Tree (Ex × St U) := .leaf (xSoctet_joined_0 r)
noncomputable def hoctet_joined_0 : Hd := { keep := [3, 6, 7, 8], xkeep := [2, 3], own := true }
noncomputable def Eoctet_joined : Env U := { P := Tryz.prog, cd := cd, fns := fns7, lps := (addL 0 hoctet_joined_0 (mkLoop tAoctet_joined_0 tBoctet_joined_0 Poctet_joined_0 (Loctet_joined_0 none) xToctet_joined_0) noL), frz := fun _r => false, nt := 18, n0 := 0 }
noncomputable def Boctet_joined_0 : Code := (loopAt (Tryz.f85.body.getD .skip) 0 0).getD .skip
theorem roundoctet_joined_0 (s : Soctet_joined_0) : round Eoctet_joined hoctet_joined_0 Boctet_joined_0 0 (eSoctet_joined_0 s) = (Woctet_joined_0 s).map (sumE eSoctet_joined_0 xSoctet_joined_0) := by kernel_rfl
theorem lpoctet_joined_0 : LpOk Eoctet_joined Boctet_joined_0 0 := mkLoop_ok (A := tAoctet_joined_0) (B := tBoctet_joined_0) (f := Poctet_joined_0) (L := Loctet_joined_0 none) (tO_ok (cK_ok cUnit_ok) (tO_ok (cPair_ok (cSl_ok 9) cUnit_ok) (tO_ok (cPair_ok (cInt_ok .i64) cUnit_ok) (tO_ok (cPair_ok (cInt_ok .i64) cUnit_ok) tNil_ok)))) (bRv_ok bNil_ok) (enc := eSoctet_joined_0) (out := xToctet_joined_0) (outS := xSoctet_joined_0) (step := Woctet_joined_0) (fun _ => rfl) (fun _ _ => by kernel_rfl) (by kernel_rfl) (fun _ => rfl) roundoctet_joined_0
theorem runoctet_joined (x : (List (List UInt8)) × Unit) (g : Unit) : execF Eoctet_joined Tryz.f85 (Aoctet_joined.enc x) (bNil.enc g) = (Toctet_joined none x.1).map Roctet_joined := by kernel_rfl
theorem okoctet_joined : FnOk Tryz.prog cd 85 Soctet_joined := mk_ok (E := Eoctet_joined) cd_ok fns7_ok Tryz.func85 (by kernel_rfl) (loops_of (addL_ok lpoctet_joined_0 noL_ok)) (aO_ok (cSl_ok 9) (aNil_ok)) bNil_ok (T := fun x _ => Toctet_joined none x.1) (fun _ _ => rfl) runoctet_joined
noncomputable def fns85 := addF 85 true Soctet_joined fns7
theorem fns85_ok : ∀ f q t, fns85 f = some (q, t) → FnOk Tryz.prog cd f t := addF_ok okoctet_joined fns7_ok
/-- emulator/octet.Seal -/
noncomputable def Toctet_Seal (q : Option Nat) (x0 : (List UInt8)) : Tree (List UInt8) :=
  .opt Int (octet_sum q ([x0])) fun r225 =>
    .opt (List UInt8) (octet_Put q r225 (4 : Int)) fun r226 =>
      .opt (List UInt8) (octet_joined q ([x0, r226])) fun r227 =>
        .leaf (r227)
noncomputable def octet_Seal (q : Option Nat) (x0 : (List UInt8)) : Option (List UInt8) := (Toctet_Seal q x0).run
noncomputable def Aoctet_Seal : Arg U ((List UInt8) × Unit) := aO cStr (aNil)
noncomputable def Roctet_Seal (r : (List UInt8)) : List (V U) × List (Blk U) := ([vO cStr r], [])
noncomputable def Soctet_Seal : List (V U) → List (Blk U) → Option (FnOut U) := mkSpec Aoctet_Seal bNil (fun x _ => octet_Seal none x.1) Roctet_Seal
noncomputable def Eoctet_Seal : Env U := { P := Tryz.prog, cd := cd, fns := (addF 85 false (frzSpec Soctet_joined) (addF 46 false (frzSpec Soctet_sum) fns85)), lps := noL, frz := fun _r => false, nt := 10, n0 := 0 }
theorem runoctet_Seal (x : (List UInt8) × Unit) (g : Unit) : execF Eoctet_Seal Tryz.f38 (Aoctet_Seal.enc x) (bNil.enc g) = (Toctet_Seal none x.1).map Roctet_Seal := by kernel_rfl
theorem okoctet_Seal : FnOk Tryz.prog cd 38 Soctet_Seal := mk_ok (E := Eoctet_Seal) cd_ok (addF_ok (fnOk_frz cd_ok (mkSpec_out fun _ => rfl) okoctet_joined) (addF_ok (fnOk_frz cd_ok (mkSpec_out fun _ => rfl) okoctet_sum) fns85_ok)) Tryz.func38 (by kernel_rfl) (noLoops_body (by kernel_rfl)) (aO_ok cStr_ok (aNil_ok)) bNil_ok (T := fun x _ => Toctet_Seal none x.1) (fun _ _ => rfl) runoctet_Seal
noncomputable def fns38 := addF 38 true Soctet_Seal fns85
theorem fns38_ok : ∀ f q t, fns38 f = some (q, t) → FnOk Tryz.prog cd f t := addF_ok okoctet_Seal fns85_ok
end Go.Proofs.YtiafliookmnjoaaGreatDoor
namespace Go.Proofs
open Go.Shelf
shelf_lay Lays.n105 Nm 105 at Tryz as Tryz.lays129
theorem Tryz.extra129 : Builder.X72 Tryz.prog Tryz.lays129_ren where
  sizeBuilder := by kernel_rfl
  liesBuilder := by kernel_rfl
end Go.Proofs
namespace Go.Proofs.YtiafliookmnjoaaGreatDoor
open Go Go.Ab
theorem okstrings_Builder_copyCheck : FnOk Tryz.prog cd 129 (ccSpec 136) := cc_okT { Tryz.lays129 with } Tryz.extra129 Tryz.func129 (by kernel_rfl) (by kernel_rfl) rfl (by kernel_rfl)
/-- (*strings.Builder).WriteString -/
noncomputable def Tstrings_Builder_WriteString (x1 : (List UInt8)) (g0 : Unit) : Tree (Int × (List Int)) :=
  .opt Unit (ccF) fun r228 =>
    .ite (decide ((x1.map fun b => (b.toNat : Int)).length * 1 ≤ 140737488355328))
      (.leaf (((x1.length : Int), x1.map fun b => (b.toNat : Int))))
      .fail
noncomputable def strings_Builder_WriteString (x1 : (List UInt8)) (g0 : Unit) : Option (Int × (List Int)) := (Tstrings_Builder_WriteString x1 g0).run
noncomputable def Astrings_Builder_WriteString : Arg U ((List UInt8) × Unit) := aP 0 0 (aO cStr (aNil))
noncomputable def Gstrings_Builder_WriteString : Bls U (Unit × Unit) := bT (some 136) (cK .nilp (cNs 5)) (bNil)
noncomputable def Rstrings_Builder_WriteString (_x : (List UInt8) × Unit) (_g : Unit × Unit) (r : (Int × (List Int))) : List (V U) × List (Blk U) := ([vO (cPair (cInt .i64) (cUnit)) (r.1, ()), vO (cK .unk (cUnit)) (())], [.cells ((cK (.ptr 0 0) (cK (.row 1 0) (cUnit)) : Cdc U (Unit)).enc (())) (some 136), .row 5 0 r.2])
noncomputable def Sstrings_Builder_WriteString : List (V U) → List (Blk U) → Option (FnOut U) := mkSpecG Astrings_Builder_WriteString Gstrings_Builder_WriteString (fun x g => strings_Builder_WriteString x.1 g.1) Rstrings_Builder_WriteString
noncomputable def Estrings_Builder_WriteString : Env U := { P := Tryz.prog, cd := cd, fns := (addF 129 false (ccSpec 136) fns38), lps := noL, frz := fun _r => false, nt := 19, n0 := 1 }
theorem rnstrings_Builder_WriteString (x1 : (List UInt8)) (g0 : Unit) : execX true Estrings_Builder_WriteString Tryz.f86 (Astrings_Builder_WriteString.enc (x1, ())) (Gstrings_Builder_WriteString.enc (g0, ())) = (Tstrings_Builder_WriteString x1 g0).map (Rstrings_Builder_WriteString (x1, ()) (g0, ())) := by kernel_rfl
theorem runstrings_Builder_WriteString : ∀ (x : (List UInt8) × Unit) (g : Unit × Unit), execX true Estrings_Builder_WriteString Tryz.f86 (Astrings_Builder_WriteString.enc x) (Gstrings_Builder_WriteString.enc g) = (Tstrings_Builder_WriteString x.1 g.1).map (Rstrings_Builder_WriteString x g)
  | (x1, ()), (g0, ()) => rnstrings_Builder_WriteString x1 g0
theorem okstrings_Builder_WriteString : FnOk Tryz.prog cd 86 Sstrings_Builder_WriteString := mk_okG (E := Estrings_Builder_WriteString) (A := Astrings_Builder_WriteString) (B := Gstrings_Builder_WriteString) true cd_ok (addF_ok okstrings_Builder_copyCheck fns38_ok) Tryz.func86 (by kernel_rfl) (noLoops_body (by kernel_rfl)) (aP_ok (aO_ok cStr_ok (aNil_ok))) (bT_ok (cK_ok (cNs_ok 5)) bNil_ok) (T := fun (x : (List UInt8) × Unit) (g : Unit × Unit) => Tstrings_Builder_WriteString x.1 g.1) (fun _ _ => rfl) runstrings_Builder_WriteString
/-- (*strings.Builder).WriteString -/
noncomputable def Tstrings_Builder_WriteString_V2 (x1 : (List UInt8)) (g0 : Unit) (g1 : (List Int)) : Tree (Int × (List Int)) :=
  .opt Unit (ccF) fun r232 =>
    .ite (decide ((g1.length + (x1.map fun b => (b.toNat : Int)).length) * 1 ≤ 140737488355328))
      (.leaf (((x1.length : Int), g1 ++ (x1.map fun b => (b.toNat : Int)))))
      .fail
noncomputable def strings_Builder_WriteString_V2 (x1 : (List UInt8)) (g0 : Unit) (g1 : (List Int)) : Option (Int × (List Int)) := (Tstrings_Builder_WriteString_V2 x1 g0 g1).run
noncomputable def Astrings_Builder_WriteString_V2 : Arg U ((List UInt8) × Unit) := aP 0 0 (aO cStr (aNil))
noncomputable def Gstrings_Builder_WriteString_V2 : Bls U (Unit × (List Int) × Unit) := bT (some 136) (cK (.ptr 0 0) (cK (.row 1 0) (cUnit))) (bR 5 (bNil))
noncomputable def Rstrings_Builder_WriteString_V2 (_x : (List UInt8) × Unit) (_g : Unit × (List Int) × Unit) (r : (Int × (List Int))) : List (V U) × List (Blk U) := ([vO (cPair (cInt .i64) (cUnit)) (r.1, ()), vO (cK .unk (cUnit)) (())], [.cells ((cK (.ptr 0 0) (cK (.row 1 1) (cUnit)) : Cdc U (Unit)).enc (())) (some 136), .row 5 1 r.2])
noncomputable def Sstrings_Builder_WriteString_V2 : List (V U) → List (Blk U) → Option (FnOut U) := mkSpecG Astrings_Builder_WriteString_V2 Gstrings_Builder_WriteString_V2 (fun x g => strings_Builder_WriteString_V2 x.1 g.1 g.2.1) Rstrings_Builder_WriteString_V2
noncomputable def Estrings_Builder_WriteString_V2 : Env U := { P := Tryz.prog, cd := cd, fns := (addF 129 false (ccSpec 136) fns38), lps := noL, frz := fun _r => false, nt := 19, n0 := 2 }
theorem rnstrings_Builder_WriteString_V2 (x1 : (List UInt8)) (g0 : Unit) (g1 : (List Int)) : execX true Estrings_Builder_WriteString_V2 Tryz.f86 (Astrings_Builder_WriteString_V2.enc (x1, ())) (Gstrings_Builder_WriteString_V2.enc (g0, g1, ())) = (Tstrings_Builder_WriteString_V2 x1 g0 g1).map (Rstrings_Builder_WriteString_V2 (x1, ()) (g0, g1, ())) := by kernel_rfl
theorem runstrings_Builder_WriteString_V2 : ∀ (x : (List UInt8) × Unit) (g : Unit × (List Int) × Unit), execX true Estrings_Builder_WriteString_V2 Tryz.f86 (Astrings_Builder_WriteString_V2.enc x) (Gstrings_Builder_WriteString_V2.enc g) = (Tstrings_Builder_WriteString_V2 x.1 g.1 g.2.1).map (Rstrings_Builder_WriteString_V2 x g)
  | (x1, ()), (g0, g1, ()) => rnstrings_Builder_WriteString_V2 x1 g0 g1
theorem okstrings_Builder_WriteString_V2 : FnOk Tryz.prog cd 86 Sstrings_Builder_WriteString_V2 := mk_okG (E := Estrings_Builder_WriteString_V2) (A := Astrings_Builder_WriteString_V2) (B := Gstrings_Builder_WriteString_V2) true cd_ok (addF_ok okstrings_Builder_copyCheck fns38_ok) Tryz.func86 (by kernel_rfl) (noLoops_body (by kernel_rfl)) (aP_ok (aO_ok cStr_ok (aNil_ok))) (bT_ok (cK_ok (cK_ok cUnit_ok)) (bR_ok bNil_ok)) (T := fun (x : (List UInt8) × Unit) (g : Unit × (List Int) × Unit) => Tstrings_Builder_WriteString_V2 x.1 g.1 g.2.1) (fun _ _ => rfl) runstrings_Builder_WriteString_V2
/-- (*emulator/save.writer).nums -/
structure Ssave_writer_nums_0 where
  t1 : Int
  t9 : Int
  t10 : Int
  b2 : (List Int)
noncomputable def Wsave_writer_nums_0 (q : Option Nat) (kk : Cpu) (s : Ssave_writer_nums_0) : Tree (Ssave_writer_nums_0 ⊕ (List Int)) :=
  .ite (decide (s.t10 < s.t9))
    (.ite (decide (0 ≤ s.t10))
      (.ite (decide (s.t10 < ((6 : Nat) : Int)))
        (.opt Int (kk.r[(s.t10).toNat]?) fun y236 =>
          .opt (List UInt8) (octet_Put q y236 s.t1) fun r237 =>
            .opt (Int × (List Int)) (strings_Builder_WriteString_V2 r237 () s.b2) fun r238 =>
              .leaf (.inl (Ssave_writer_nums_0.mk s.t1 s.t9 (IntKind.wrap .i64 (s.t10 + (1 : Int))) r238.2)))
        .fail)
      .fail)
    (.leaf (.inr s.b2))
noncomputable def Lsave_writer_nums_0 (q : Option Nat) (kk : Cpu) (s : Ssave_writer_nums_0) : Option (List Int) := limQ q (fun s => (Wsave_writer_nums_0 q kk s).run) s
noncomputable def Tsave_writer_nums (q : Option Nat) (x1 : Int) (g0 : Unit) (g1 : Cpu) (g2 : (List Int)) : Tree (List Int) :=
  .opt (List Int) (Lsave_writer_nums_0 q g1 (Ssave_writer_nums_0.mk x1 ((6 : Nat) : Int) (0 : Int) g2)) fun l239 =>
    .leaf (l239)
noncomputable def save_writer_nums (q : Option Nat) (x1 : Int) (g0 : Unit) (g1 : Cpu) (g2 : (List Int)) : Option (List Int) := (Tsave_writer_nums q x1 g0 g1 g2).run
noncomputable def Asave_writer_nums : Arg U (Int × Unit) := aP 0 0 (aO (cInt .i64) (aKF (.asl 1 0 3 6) (aNil)))
noncomputable def Gsave_writer_nums : Bls U (Unit × Cpu × (List Int) × Unit) := bT (some 136) (cK (.ptr 0 0) (cK (.row 2 0) (cUnit))) (bC cCpu (bR 5 (bNil)))
noncomputable def Rsave_writer_nums (_x : Int × Unit) (g : Unit × Cpu × (List Int) × Unit) (r : (List Int)) : List (V U) × List (Blk U) := ([], [.cells ((cK (.ptr 0 0) (cK (.row 2 1) (cUnit)) : Cdc U (Unit)).enc (())) (some 136), .cells ((cCpu : Cdc U Cpu).enc g.2.1) none, .row 5 1 r])
noncomputable def Ssave_writer_nums : List (V U) → List (Blk U) → Option (FnOut U) := mkSpecG Asave_writer_nums Gsave_writer_nums (fun x g => save_writer_nums none x.1 g.1 g.2.1 g.2.2.1) Rsave_writer_nums
noncomputable def Psave_writer_nums_0 (x : (Unit) × (Int × Unit) × (Unit) × (Int × Unit) × (Int × Unit) × Unit) (g : (Unit) × (Cpu × Unit) × (List Int) × Unit) : Cpu × Ssave_writer_nums_0 := (g.2.1.1, Ssave_writer_nums_0.mk x.2.1.1 x.2.2.2.1.1 x.2.2.2.2.1.1 g.2.2.1)
noncomputable def tAsave_writer_nums_0 : Tms U ((Unit) × (Int × Unit) × (Unit) × (Int × Unit) × (Int × Unit) × Unit) := tO 0 (cK (.ptr 0 0) (cUnit)) (tO 1 (cPair (cInt .i64) (cUnit)) (tO 8 (cK (.asl 1 0 3 6) (cUnit)) (tO 9 (cPair (cInt .i64) (cUnit)) (tO 10 (cPair (cInt .i64) (cUnit)) (tNil)))))
noncomputable def tBsave_writer_nums_0 : Bls U ((Unit) × (Cpu × Unit) × (List Int) × Unit) := bT (some 136) (cK (.ptr 0 0) (cK (.row 2 1) (cUnit))) (bC (cPair cCpu (cUnit)) (bRv 5 1 (bNil)))
noncomputable def eSsave_writer_nums_0 (kk : Cpu) (s : Ssave_writer_nums_0) : St U := { tm := [(0, .v (vO (cK (.ptr 0 0) (cUnit)) (()))), (1, .v (vO (cPair (cInt .i64) (cUnit)) (s.t1, ()))), (8, .v (vO (cK (.asl 1 0 3 6) (cUnit)) (()))), (9, .v (vO (cPair (cInt .i64) (cUnit)) (s.t9, ()))), (10, .v (vO (cPair (cInt .i64) (cUnit)) (s.t10, ())))], hp := [.cells ((cK (.ptr 0 0) (cK (.row 2 1) (cUnit)) : Cdc U (Unit)).enc (())) (some 136), .cells ((cPair cCpu (cUnit) : Cdc U (Cpu × Unit)).enc (kk, ())) none, .row 5 1 s.b2] }
noncomputable def xSsave_writer_nums_0 (kk : Cpu) (r : (List Int)) : Ex × St U := (.exit 0, { tm := [], hp := [.cells ((cK (.ptr 0 0) (cK (.row 2 1) (cUnit)) : Cdc U (Unit)).enc (())) (some 136), .cells ((cPair cCpu (cUnit) : Cdc U (Cpu × Unit)).enc (kk, ())) none, .row 5 1 r] })
noncomputable def xTsave_writer_nums_0 (kk : Cpu) (r : (List Int)) : Tree (Ex × St U) := .leaf (xSsave_writer_nums_0 kk r)
noncomputable def hsave_writer_nums_0 : Hd := { keep := [0, 1, 8, 9, 10], xkeep := [], own := false, bump := true }
noncomputable def Esave_writer_nums : Env U := { P := Tryz.prog, cd := cd, fns := (addF 86 false (Sstrings_Builder_WriteString_V2) fns38), lps := (addL 0 hsave_writer_nums_0 (mkLoopK tAsave_writer_nums_0 tBsave_writer_nums_0 Psave_writer_nums_0 (Lsave_writer_nums_0 none) xTsave_writer_nums_0) noL), frz := fun _r => false, nt := 22, n0 := 3 }
noncomputable def Bsave_writer_nums_0 : Code := (loopAt (Tryz.f92.body.getD .skip) 0 0).getD .skip
theorem roundsave_writer_nums_0 (kk : Cpu) (s : Ssave_writer_nums_0) : round Esave_writer_nums hsave_writer_nums_0 Bsave_writer_nums_0 0 (eSsave_writer_nums_0 kk s) = (Wsave_writer_nums_0 none kk s).map (sumE (eSsave_writer_nums_0 kk) (xSsave_writer_nums_0 kk)) := by kernel_rfl
theorem lpsave_writer_nums_0 : LpOk Esave_writer_nums Bsave_writer_nums_0 0 := mkLoopK_ok (A := tAsave_writer_nums_0) (B := tBsave_writer_nums_0) (f := Psave_writer_nums_0) (L := Lsave_writer_nums_0 none) (tO_ok (cK_ok cUnit_ok) (tO_ok (cPair_ok (cInt_ok .i64) cUnit_ok) (tO_ok (cK_ok cUnit_ok) (tO_ok (cPair_ok (cInt_ok .i64) cUnit_ok) (tO_ok (cPair_ok (cInt_ok .i64) cUnit_ok) tNil_ok))))) (bT_ok (cK_ok (cK_ok cUnit_ok)) (bC_ok (cPair_ok cCpu_ok cUnit_ok) (bRv_ok bNil_ok))) (enc := eSsave_writer_nums_0) (out := xTsave_writer_nums_0) (outS := xSsave_writer_nums_0) (step := Wsave_writer_nums_0 none) (fun _ _ => rfl) (fun _ _ => by kernel_rfl) (by kernel_rfl) (fun _ _ => rfl) roundsave_writer_nums_0
theorem rnsave_writer_nums (x1 : Int) (g0 : Unit) (g1 : Cpu) (g2 : (List Int)) : execX false Esave_writer_nums Tryz.f92 (Asave_writer_nums.enc (x1, ())) (Gsave_writer_nums.enc (g0, g1, g2, ())) = (Tsave_writer_nums none x1 g0 g1 g2).map (Rsave_writer_nums (x1, ()) (g0, g1, g2, ())) := by kernel_rfl
theorem runsave_writer_nums : ∀ (x : Int × Unit) (g : Unit × Cpu × (List Int) × Unit), execX false Esave_writer_nums Tryz.f92 (Asave_writer_nums.enc x) (Gsave_writer_nums.enc g) = (Tsave_writer_nums none x.1 g.1 g.2.1 g.2.2.1).map (Rsave_writer_nums x g)
  | (x1, ()), (g0, g1, g2, ()) => rnsave_writer_nums x1 g0 g1 g2
theorem oksave_writer_nums : FnOk Tryz.prog cd 92 Ssave_writer_nums := mk_okG (E := Esave_writer_nums) (A := Asave_writer_nums) (B := Gsave_writer_nums) false cd_ok (addF_ok okstrings_Builder_WriteString_V2 fns38_ok) Tryz.func92 (by kernel_rfl) (loops_of (addL_ok lpsave_writer_nums_0 noL_ok)) (aP_ok (aO_ok (cInt_ok .i64) (aKF_ok (aNil_ok)))) (bT_ok (cK_ok (cK_ok cUnit_ok)) (bC_ok cCpu_ok (bR_ok bNil_ok))) (T := fun (x : Int × Unit) (g : Unit × Cpu × (List Int) × Unit) => Tsave_writer_nums none x.1 g.1 g.2.1 g.2.2.1) (fun _ _ => rfl) runsave_writer_nums
/-- (*emulator/save.writer).nums -/
structure Ssave_writer_nums_V2_0 where
  t1 : Int
  t9 : Int
  t10 : Int
  b2 : (List Int)
noncomputable def Wsave_writer_nums_V2_0 (q : Option Nat) (kk : (List Int)) (s : Ssave_writer_nums_V2_0) : Tree (Ssave_writer_nums_V2_0 ⊕ (List Int)) :=
  .ite (decide (s.t10 < s.t9))
    (.ite (decide (0 ≤ s.t10))
      (.ite (decide (s.t10 < (kk.length : Int)))
        (.opt Int (kk[(s.t10).toNat]?) fun y246 =>
          .opt (List UInt8) (octet_Put q y246 s.t1) fun r247 =>
            .opt (Int × (List Int)) (strings_Builder_WriteString_V2 r247 () s.b2) fun r248 =>
              .leaf (.inl (Ssave_writer_nums_V2_0.mk s.t1 s.t9 (IntKind.wrap .i64 (s.t10 + (1 : Int))) r248.2)))
        .fail)
      .fail)
    (.leaf (.inr s.b2))
noncomputable def Lsave_writer_nums_V2_0 (q : Option Nat) (kk : (List Int)) (s : Ssave_writer_nums_V2_0) : Option (List Int) := limQ q (fun s => (Wsave_writer_nums_V2_0 q kk s).run) s
noncomputable def Tsave_writer_nums_V2 (q : Option Nat) (x1 : Int) (g0 : Unit) (g1 : (List Int)) (g2 : (List Int)) : Tree ((List Int) × (List Int)) :=
  .opt (List Int) (Lsave_writer_nums_V2_0 q g1 (Ssave_writer_nums_V2_0.mk x1 (g1.length : Int) (0 : Int) g2)) fun l249 =>
    .leaf ((g1, l249))
noncomputable def save_writer_nums_V2 (q : Option Nat) (x1 : Int) (g0 : Unit) (g1 : (List Int)) (g2 : (List Int)) : Option ((List Int) × (List Int)) := (Tsave_writer_nums_V2 q x1 g0 g1 g2).run
noncomputable def Asave_writer_nums_V2 : Arg U (Int × Unit) := aP 0 0 (aO (cInt .i64) (aR 1 (aNil)))
noncomputable def Gsave_writer_nums_V2 : Bls U (Unit × (List Int) × (List Int) × Unit) := bT (some 136) (cK (.ptr 0 0) (cK (.row 2 0) (cUnit))) (bR 3 (bR 5 (bNil)))
noncomputable def Rsave_writer_nums_V2 (_x : Int × Unit) (_g : Unit × (List Int) × (List Int) × Unit) (r : ((List Int) × (List Int))) : List (V U) × List (Blk U) := ([], [.cells ((cK (.ptr 0 0) (cK (.row 2 1) (cUnit)) : Cdc U (Unit)).enc (())) (some 136), .row 3 1 r.1, .row 5 1 r.2])
noncomputable def Ssave_writer_nums_V2 : List (V U) → List (Blk U) → Option (FnOut U) := mkSpecG Asave_writer_nums_V2 Gsave_writer_nums_V2 (fun x g => save_writer_nums_V2 none x.1 g.1 g.2.1 g.2.2.1) Rsave_writer_nums_V2
noncomputable def Psave_writer_nums_V2_0 (x : (Unit) × (Int × Unit) × (Unit) × (Int × Unit) × (Int × Unit) × Unit) (g : (Unit) × (List Int) × (List Int) × Unit) : (List Int) × Ssave_writer_nums_V2_0 := (g.2.1, Ssave_writer_nums_V2_0.mk x.2.1.1 x.2.2.2.1.1 x.2.2.2.2.1.1 g.2.2.1)
noncomputable def tAsave_writer_nums_V2_0 : Tms U ((Unit) × (Int × Unit) × (Unit) × (Int × Unit) × (Int × Unit) × Unit) := tO 0 (cK (.ptr 0 0) (cUnit)) (tO 1 (cPair (cInt .i64) (cUnit)) (tO 8 (cK (.row 1 1) (cUnit)) (tO 9 (cPair (cInt .i64) (cUnit)) (tO 10 (cPair (cInt .i64) (cUnit)) (tNil)))))
noncomputable def tBsave_writer_nums_V2_0 : Bls U ((Unit) × (List Int) × (List Int) × Unit) := bT (some 136) (cK (.ptr 0 0) (cK (.row 2 1) (cUnit))) (bRv 3 1 (bRv 5 1 (bNil)))
noncomputable def eSsave_writer_nums_V2_0 (kk : (List Int)) (s : Ssave_writer_nums_V2_0) : St U := { tm := [(0, .v (vO (cK (.ptr 0 0) (cUnit)) (()))), (1, .v (vO (cPair (cInt .i64) (cUnit)) (s.t1, ()))), (8, .v (vO (cK (.row 1 1) (cUnit)) (()))), (9, .v (vO (cPair (cInt .i64) (cUnit)) (s.t9, ()))), (10, .v (vO (cPair (cInt .i64) (cUnit)) (s.t10, ())))], hp := [.cells ((cK (.ptr 0 0) (cK (.row 2 1) (cUnit)) : Cdc U (Unit)).enc (())) (some 136), .row 3 1 kk, .row 5 1 s.b2] }
noncomputable def xSsave_writer_nums_V2_0 (kk : (List Int)) (r : (List Int)) : Ex × St U := (.exit 0, { tm := [], hp := [.cells ((cK (.ptr 0 0) (cK (.row 2 1) (cUnit)) : Cdc U (Unit)).enc (())) (some 136), .row 3 1 kk, .row 5 1 r] })
noncomputable def xTsave_writer_nums_V2_0 (kk : (List Int)) (r : (List Int)) : Tree (Ex × St U) := .leaf (xSsave_writer_nums_V2_0 kk r)
noncomputable def hsave_writer_nums_V2_0 : Hd := { keep := [0, 1, 8, 9, 10], xkeep := [], own := false, bump := true }
noncomputable def Esave_writer_nums_V2 : Env U := { P := Tryz.prog, cd := cd, fns := (addF 86 false (Sstrings_Builder_WriteString_V2) fns38), lps := (addL 0 hsave_writer_nums_V2_0 (mkLoopK tAsave_writer_nums_V2_0 tBsave_writer_nums_V2_0 Psave_writer_nums_V2_0 (Lsave_writer_nums_V2_0 none) xTsave_writer_nums_V2_0) noL), frz := fun _r => false, nt := 22, n0 := 3 }
noncomputable def Bsave_writer_nums_V2_0 : Code := (loopAt (Tryz.f92.body.getD .skip) 0 0).getD .skip
theorem roundsave_writer_nums_V2_0 (kk : (List Int)) (s : Ssave_writer_nums_V2_0) : round Esave_writer_nums_V2 hsave_writer_nums_V2_0 Bsave_writer_nums_V2_0 0 (eSsave_writer_nums_V2_0 kk s) = (Wsave_writer_nums_V2_0 none kk s).map (sumE (eSsave_writer_nums_V2_0 kk) (xSsave_writer_nums_V2_0 kk)) := by kernel_rfl
theorem lpsave_writer_nums_V2_0 : LpOk Esave_writer_nums_V2 Bsave_writer_nums_V2_0 0 := mkLoopK_ok (A := tAsave_writer_nums_V2_0) (B := tBsave_writer_nums_V2_0) (f := Psave_writer_nums_V2_0) (L := Lsave_writer_nums_V2_0 none) (tO_ok (cK_ok cUnit_ok) (tO_ok (cPair_ok (cInt_ok .i64) cUnit_ok) (tO_ok (cK_ok cUnit_ok) (tO_ok (cPair_ok (cInt_ok .i64) cUnit_ok) (tO_ok (cPair_ok (cInt_ok .i64) cUnit_ok) tNil_ok))))) (bT_ok (cK_ok (cK_ok cUnit_ok)) (bRv_ok (bRv_ok bNil_ok))) (enc := eSsave_writer_nums_V2_0) (out := xTsave_writer_nums_V2_0) (outS := xSsave_writer_nums_V2_0) (step := Wsave_writer_nums_V2_0 none) (fun _ _ => rfl) (fun _ _ => by kernel_rfl) (by kernel_rfl) (fun _ _ => rfl) roundsave_writer_nums_V2_0
theorem rnsave_writer_nums_V2 (x1 : Int) (g0 : Unit) (g1 : (List Int)) (g2 : (List Int)) : execX false Esave_writer_nums_V2 Tryz.f92 (Asave_writer_nums_V2.enc (x1, ())) (Gsave_writer_nums_V2.enc (g0, g1, g2, ())) = (Tsave_writer_nums_V2 none x1 g0 g1 g2).map (Rsave_writer_nums_V2 (x1, ()) (g0, g1, g2, ())) := by kernel_rfl
theorem runsave_writer_nums_V2 : ∀ (x : Int × Unit) (g : Unit × (List Int) × (List Int) × Unit), execX false Esave_writer_nums_V2 Tryz.f92 (Asave_writer_nums_V2.enc x) (Gsave_writer_nums_V2.enc g) = (Tsave_writer_nums_V2 none x.1 g.1 g.2.1 g.2.2.1).map (Rsave_writer_nums_V2 x g)
  | (x1, ()), (g0, g1, g2, ()) => rnsave_writer_nums_V2 x1 g0 g1 g2
theorem oksave_writer_nums_V2 : FnOk Tryz.prog cd 92 Ssave_writer_nums_V2 := mk_okG (E := Esave_writer_nums_V2) (A := Asave_writer_nums_V2) (B := Gsave_writer_nums_V2) false cd_ok (addF_ok okstrings_Builder_WriteString_V2 fns38_ok) Tryz.func92 (by kernel_rfl) (loops_of (addL_ok lpsave_writer_nums_V2_0 noL_ok)) (aP_ok (aO_ok (cInt_ok .i64) (aR_ok (aNil_ok)))) (bT_ok (cK_ok (cK_ok cUnit_ok)) (bR_ok (bR_ok bNil_ok))) (T := fun (x : Int × Unit) (g : Unit × (List Int) × (List Int) × Unit) => Tsave_writer_nums_V2 none x.1 g.1 g.2.1 g.2.2.1) (fun _ _ => rfl) runsave_writer_nums_V2
/-- (*emulator/save.writer).cpu -/
noncomputable def Tsave_writer_cpu (q : Option Nat) (x1 : Cpu) (g0 : Unit) (g1 : (List Int)) : Tree (List Int) :=
  .opt (List Int) (save_writer_nums q (2 : Int) () x1 g1) fun r250 =>
    .ite (decide (0 ≤ (0 : Int)))
      (.ite (decide ((0 : Int) < (2 : Int)))
        (.opt Int (x1.sP[((0 : Int)).toNat * 1]?) fun y251 =>
          .ite (decide (0 ≤ (1 : Int)))
            (.ite (decide ((1 : Int) < (2 : Int)))
              (.opt Int (x1.sP[((1 : Int)).toNat * 1]?) fun y252 =>
                .opt ((List Int) × (List Int)) (save_writer_nums_V2 q (2 : Int) () ([y251, y252, x1.pC, x1.pSW]) r250) fun r253 =>
                  .leaf (r253.2))
              .fail)
            .fail)
        .fail)
      .fail
noncomputable def save_writer_cpu (q : Option Nat) (x1 : Cpu) (g0 : Unit) (g1 : (List Int)) : Option (List Int) := (Tsave_writer_cpu q x1 g0 g1).run
noncomputable def Asave_writer_cpu : Arg U (Cpu × Unit) := aP 0 0 (aA cCpu (aNil))
noncomputable def Gsave_writer_cpu : Bls U (Unit × (List Int) × Unit) := bT (some 136) (cK (.ptr 0 0) (cK (.row 1 0) (cUnit))) (bR 5 (bNil))
noncomputable def Rsave_writer_cpu (_x : Cpu × Unit) (_g : Unit × (List Int) × Unit) (r : (List Int)) : List (V U) × List (Blk U) := ([], [.cells ((cK (.ptr 0 0) (cK (.row 1 2) (cUnit)) : Cdc U (Unit)).enc (())) (some 136), .row 5 2 r])
noncomputable def Ssave_writer_cpu : List (V U) → List (Blk U) → Option (FnOut U) := mkSpecG Asave_writer_cpu Gsave_writer_cpu (fun x g => save_writer_cpu none x.1 g.1 g.2.1) Rsave_writer_cpu
noncomputable def Esave_writer_cpu : Env U := { P := Tryz.prog, cd := cd, fns := (addF 92 false (orSpec (Ssave_writer_nums) (Ssave_writer_nums_V2)) fns38), lps := noL, frz := fun _r => false, nt := 21, n0 := 2 }
theorem rnsave_writer_cpu (x1 : Cpu) (g0 : Unit) (g1 : (List Int)) : execX false Esave_writer_cpu Tryz.f87 (Asave_writer_cpu.enc (x1, ())) (Gsave_writer_cpu.enc (g0, g1, ())) = (Tsave_writer_cpu none x1 g0 g1).map (Rsave_writer_cpu (x1, ()) (g0, g1, ())) := by kernel_rfl
theorem runsave_writer_cpu : ∀ (x : Cpu × Unit) (g : Unit × (List Int) × Unit), execX false Esave_writer_cpu Tryz.f87 (Asave_writer_cpu.enc x) (Gsave_writer_cpu.enc g) = (Tsave_writer_cpu none x.1 g.1 g.2.1).map (Rsave_writer_cpu x g)
  | (x1, ()), (g0, g1, ()) => rnsave_writer_cpu x1 g0 g1
theorem oksave_writer_cpu : FnOk Tryz.prog cd 87 Ssave_writer_cpu := mk_okG (E := Esave_writer_cpu) (A := Asave_writer_cpu) (B := Gsave_writer_cpu) false cd_ok (addF_ok (orSpec_ok oksave_writer_nums oksave_writer_nums_V2) fns38_ok) Tryz.func87 (by kernel_rfl) (noLoops_body (by kernel_rfl)) (aP_ok (aA_ok cCpu_ok (aNil_ok))) (bT_ok (cK_ok (cK_ok cUnit_ok)) (bR_ok bNil_ok)) (T := fun (x : Cpu × Unit) (g : Unit × (List Int) × Unit) => Tsave_writer_cpu none x.1 g.1 g.2.1) (fun _ _ => rfl) runsave_writer_cpu
/-- (*emulator/save.writer).word -/
noncomputable def Tsave_writer_word (q : Option Nat) (x1 : Int) (g0 : Unit) (g1 : (List Int)) : Tree (List Int) :=
  .opt ((List Int) × (List Int)) (save_writer_nums_V2 q (2 : Int) () ([x1]) g1) fun r258 =>
    .leaf (r258.2)
noncomputable def save_writer_word (q : Option Nat) (x1 : Int) (g0 : Unit) (g1 : (List Int)) : Option (List Int) := (Tsave_writer_word q x1 g0 g1).run
noncomputable def Asave_writer_word : Arg U (Int × Unit) := aP 0 0 (aO (cInt .i64) (aNil))
noncomputable def Gsave_writer_word : Bls U (Unit × (List Int) × Unit) := bT (some 136) (cK (.ptr 0 0) (cK (.row 1 0) (cUnit))) (bR 5 (bNil))
noncomputable def Rsave_writer_word (_x : Int × Unit) (_g : Unit × (List Int) × Unit) (r : (List Int)) : List (V U) × List (Blk U) := ([], [.cells ((cK (.ptr 0 0) (cK (.row 1 1) (cUnit)) : Cdc U (Unit)).enc (())) (some 136), .row 5 1 r])
noncomputable def Ssave_writer_word : List (V U) → List (Blk U) → Option (FnOut U) := mkSpecG Asave_writer_word Gsave_writer_word (fun x g => save_writer_word none x.1 g.1 g.2.1) Rsave_writer_word
noncomputable def Esave_writer_word : Env U := { P := Tryz.prog, cd := cd, fns := (addF 92 false (Ssave_writer_nums_V2) fns38), lps := noL, frz := fun _r => false, nt := 8, n0 := 2 }
theorem rnsave_writer_word (x1 : Int) (g0 : Unit) (g1 : (List Int)) : execX false Esave_writer_word Tryz.f89 (Asave_writer_word.enc (x1, ())) (Gsave_writer_word.enc (g0, g1, ())) = (Tsave_writer_word none x1 g0 g1).map (Rsave_writer_word (x1, ()) (g0, g1, ())) := by kernel_rfl
theorem runsave_writer_word : ∀ (x : Int × Unit) (g : Unit × (List Int) × Unit), execX false Esave_writer_word Tryz.f89 (Asave_writer_word.enc x) (Gsave_writer_word.enc g) = (Tsave_writer_word none x.1 g.1 g.2.1).map (Rsave_writer_word x g)
  | (x1, ()), (g0, g1, ()) => rnsave_writer_word x1 g0 g1
theorem oksave_writer_word : FnOk Tryz.prog cd 89 Ssave_writer_word := mk_okG (E := Esave_writer_word) (A := Asave_writer_word) (B := Gsave_writer_word) false cd_ok (addF_ok oksave_writer_nums_V2 fns38_ok) Tryz.func89 (by kernel_rfl) (noLoops_body (by kernel_rfl)) (aP_ok (aO_ok (cInt_ok .i64) (aNil_ok))) (bT_ok (cK_ok (cK_ok cUnit_ok)) (bR_ok bNil_ok)) (T := fun (x : Int × Unit) (g : Unit × (List Int) × Unit) => Tsave_writer_word none x.1 g.1 g.2.1) (fun _ _ => rfl) runsave_writer_word
/-- emulator/save.list[int] -/
structure Ssave_list_int_0 where
  t13 : (List Int)
  t14 : Int
  t15 : Int
  b1 : (List Int)
noncomputable def Wsave_list_int_0 (q : Option Nat) (s : Ssave_list_int_0) : Tree (Ssave_list_int_0 ⊕ (List Int)) :=
  .ite (decide (s.t15 < s.t14))
    (.ite (decide (0 ≤ s.t15))
      (.opt Int (s.t13[(s.t15).toNat]?) fun y260 =>
        .opt (List Int) (save_writer_word q y260 () s.b1) fun r261 =>
          .leaf (.inl (Ssave_list_int_0.mk s.t13 s.t14 (IntKind.wrap .i64 (s.t15 + (1 : Int))) r261)))
      .fail)
    (.leaf (.inr s.b1))
noncomputable def Lsave_list_int_0 (q : Option Nat) (s : Ssave_list_int_0) : Option (List Int) := limQ q (fun s => (Wsave_list_int_0 q s).run) s
noncomputable def Tsave_list_int (q : Option Nat) (x1 : (List Int)) (g0 : Unit) (g1 : (List Int)) : Tree (List Int) :=
  .opt ((List Int) × (List Int)) (save_writer_nums_V2 q (2 : Int) () ([(x1.length : Int)]) g1) fun r259 =>
    .opt (List Int) (Lsave_list_int_0 q (Ssave_list_int_0.mk x1 (x1.length : Int) (0 : Int) r259.2)) fun l262 =>
      .leaf (l262)
noncomputable def save_list_int (q : Option Nat) (x1 : (List Int)) (g0 : Unit) (g1 : (List Int)) : Option (List Int) := (Tsave_list_int q x1 g0 g1).run
noncomputable def Asave_list_int : Arg U ((List Int) × Unit) := aP 0 0 (aO (cSl 3) (aKF (.fn 89 [(.ptr 0 0)] []) (aNil)))
noncomputable def Gsave_list_int : Bls U (Unit × (List Int) × Unit) := bT (some 136) (cK (.ptr 0 0) (cK (.row 1 0) (cUnit))) (bR 5 (bNil))
noncomputable def Rsave_list_int (_x : (List Int) × Unit) (_g : Unit × (List Int) × Unit) (r : (List Int)) : List (V U) × List (Blk U) := ([], [.cells ((cK (.ptr 0 0) (cK (.row 1 1) (cUnit)) : Cdc U (Unit)).enc (())) (some 136), .row 5 1 r])
noncomputable def Ssave_list_int : List (V U) → List (Blk U) → Option (FnOut U) := mkSpecG Asave_list_int Gsave_list_int (fun x g => save_list_int none x.1 g.1 g.2.1) Rsave_list_int
noncomputable def Psave_list_int_0 (x : (Unit) × ((List Int) × Unit) × (Int × Unit) × (Int × Unit) × Unit) (g : (Unit) × (List Int) × Unit) : Ssave_list_int_0 := Ssave_list_int_0.mk x.2.1.1 x.2.2.1.1 x.2.2.2.1.1 g.2.1
noncomputable def tAsave_list_int_0 : Tms U ((Unit) × ((List Int) × Unit) × (Int × Unit) × (Int × Unit) × Unit) := tO 2 (cK2 (.fn 89 [(.ptr 0 0)] []) (cUnit)) (tO 13 (cPair (cSl 3) (cUnit)) (tO 14 (cPair (cInt .i64) (cUnit)) (tO 15 (cPair (cInt .i64) (cUnit)) (tNil))))
noncomputable def tBsave_list_int_0 : Bls U ((Unit) × (List Int) × Unit) := bT (some 136) (cK (.ptr 0 0) (cK (.row 1 1) (cUnit))) (bRv 5 1 (bNil))
noncomputable def eSsave_list_int_0 (s : Ssave_list_int_0) : St U := { tm := [(2, .v (vO (cK2 (.fn 89 [(.ptr 0 0)] []) (cUnit)) (()))), (13, .v (vO (cPair (cSl 3) (cUnit)) (s.t13, ()))), (14, .v (vO (cPair (cInt .i64) (cUnit)) (s.t14, ()))), (15, .v (vO (cPair (cInt .i64) (cUnit)) (s.t15, ())))], hp := [.cells ((cK (.ptr 0 0) (cK (.row 1 1) (cUnit)) : Cdc U (Unit)).enc (())) (some 136), .row 5 1 s.b1] }
noncomputable def xSsave_list_int_0 (r : (List Int)) : Ex × St U := (.exit 0, { tm := [], hp := [.cells ((cK (.ptr 0 0) (cK (.row 1 1) (cUnit)) : Cdc U (Unit)).enc (())) (some 136), .row 5 1 r] })
noncomputable def xTsave_list_int_0 (r : (List Int)) : Tree (Ex × St U) := .leaf (xSsave_list_int_0 r)
noncomputable def hsave_list_int_0 : Hd := { keep := [2, 13, 14, 15], xkeep := [], own := false }
noncomputable def Esave_list_int : Env U := { P := Tryz.prog, cd := cd, fns := (addF 92 false (Ssave_writer_nums_V2) (addF 89 false (Ssave_writer_word) fns38)), lps := (addL 0 hsave_list_int_0 (mkLoop tAsave_list_int_0 tBsave_list_int_0 Psave_list_int_0 (Lsave_list_int_0 none) xTsave_list_int_0) noL), frz := fun _r => false, nt := 23, n0 := 2 }
noncomputable def Bsave_list_int_0 : Code := (loopAt (Tryz.f88.body.getD .skip) 0 0).getD .skip
theorem roundsave_list_int_0 (s : Ssave_list_int_0) : round Esave_list_int hsave_list_int_0 Bsave_list_int_0 0 (eSsave_list_int_0 s) = (Wsave_list_int_0 none s).map (sumE eSsave_list_int_0 xSsave_list_int_0) := by kernel_rfl
theorem lpsave_list_int_0 : LpOk Esave_list_int Bsave_list_int_0 0 := mkLoop_ok (A := tAsave_list_int_0) (B := tBsave_list_int_0) (f := Psave_list_int_0) (L := Lsave_list_int_0 none) (tO_ok (cK2_ok cUnit_ok) (tO_ok (cPair_ok (cSl_ok 3) cUnit_ok) (tO_ok (cPair_ok (cInt_ok .i64) cUnit_ok) (tO_ok (cPair_ok (cInt_ok .i64) cUnit_ok) tNil_ok)))) (bT_ok (cK_ok (cK_ok cUnit_ok)) (bRv_ok bNil_ok)) (enc := eSsave_list_int_0) (out := xTsave_list_int_0) (outS := xSsave_list_int_0) (step := Wsave_list_int_0 none) (fun _ => rfl) (fun _ _ => by kernel_rfl) (by kernel_rfl) (fun _ => rfl) roundsave_list_int_0
theorem rnsave_list_int (x1 : (List Int)) (g0 : Unit) (g1 : (List Int)) : execX false Esave_list_int Tryz.f88 (Asave_list_int.enc (x1, ())) (Gsave_list_int.enc (g0, g1, ())) = (Tsave_list_int none x1 g0 g1).map (Rsave_list_int (x1, ()) (g0, g1, ())) := by kernel_rfl
theorem runsave_list_int : ∀ (x : (List Int) × Unit) (g : Unit × (List Int) × Unit), execX false Esave_list_int Tryz.f88 (Asave_list_int.enc x) (Gsave_list_int.enc g) = (Tsave_list_int none x.1 g.1 g.2.1).map (Rsave_list_int x g)
  | (x1, ()), (g0, g1, ()) => rnsave_list_int x1 g0 g1
theorem oksave_list_int : FnOk Tryz.prog cd 88 Ssave_list_int := mk_okG (E := Esave_list_int) (A := Asave_list_int) (B := Gsave_list_int) false cd_ok (addF_ok oksave_writer_nums_V2 (addF_ok oksave_writer_word fns38_ok)) Tryz.func88 (by kernel_rfl) (loops_of (addL_ok lpsave_list_int_0 noL_ok)) (aP_ok (aO_ok (cSl_ok 3) (aKF_ok (aNil_ok)))) (bT_ok (cK_ok (cK_ok cUnit_ok)) (bR_ok bNil_ok)) (T := fun (x : (List Int) × Unit) (g : Unit × (List Int) × Unit) => Tsave_list_int none x.1 g.1 g.2.1) (fun _ _ => rfl) runsave_list_int
/-- (*emulator/save.writer).truths -/
structure Ssave_writer_truths_0 where
  t8 : Int
  t9 : Int
  b2 : (List Int)
noncomputable def Wsave_writer_truths_0 (q : Option Nat) (kk : (List Bool)) (s : Ssave_writer_truths_0) : Tree (Ssave_writer_truths_0 ⊕ (List Int)) :=
  .ite (decide (s.t9 < s.t8))
    (.ite (decide (0 ≤ s.t9))
      (.ite (decide (s.t9 < (kk.length : Int)))
        (.opt Bool (kk[(s.t9).toNat]?) fun y270 =>
          .ite (y270)
            (.opt ((List Int) × (List Int)) (save_writer_nums_V2 q (1 : Int) () ([(1 : Int)]) s.b2) fun r271 =>
              .leaf (.inl (Ssave_writer_truths_0.mk s.t8 (IntKind.wrap .i64 (s.t9 + (1 : Int))) r271.2)))
            (.opt ((List Int) × (List Int)) (save_writer_nums_V2 q (1 : Int) () ([(0 : Int)]) s.b2) fun r272 =>
              .leaf (.inl (Ssave_writer_truths_0.mk s.t8 (IntKind.wrap .i64 (s.t9 + (1 : Int))) r272.2))))
        .fail)
      .fail)
    (.leaf (.inr s.b2))
noncomputable def Lsave_writer_truths_0 (q : Option Nat) (kk : (List Bool)) (s : Ssave_writer_truths_0) : Option (List Int) := limQ q (fun s => (Wsave_writer_truths_0 q kk s).run) s
noncomputable def Tsave_writer_truths (q : Option Nat) (g0 : Unit) (g1 : (List Bool)) (g2 : (List Int)) : Tree ((List Bool) × (List Int)) :=
  .opt (List Int) (Lsave_writer_truths_0 q g1 (Ssave_writer_truths_0.mk (g1.length : Int) (0 : Int) g2)) fun l273 =>
    .leaf ((g1, l273))
noncomputable def save_writer_truths (q : Option Nat) (g0 : Unit) (g1 : (List Bool)) (g2 : (List Int)) : Option ((List Bool) × (List Int)) := (Tsave_writer_truths q g0 g1 g2).run
noncomputable def Asave_writer_truths : Arg U (Unit) := aP 0 0 (aR 1 (aNil))
noncomputable def Gsave_writer_truths : Bls U (Unit × (List Bool) × (List Int) × Unit) := bT (some 136) (cK (.ptr 0 0) (cK (.row 2 0) (cUnit))) (bR 4 (bR 5 (bNil)))
noncomputable def Rsave_writer_truths (_x : Unit) (_g : Unit × (List Bool) × (List Int) × Unit) (r : ((List Bool) × (List Int))) : List (V U) × List (Blk U) := ([], [.cells ((cK (.ptr 0 0) (cK (.row 2 1) (cUnit)) : Cdc U (Unit)).enc (())) (some 136), .row 4 1 r.1, .row 5 1 r.2])
noncomputable def Ssave_writer_truths : List (V U) → List (Blk U) → Option (FnOut U) := mkSpecG Asave_writer_truths Gsave_writer_truths (fun x g => save_writer_truths none g.1 g.2.1 g.2.2.1) Rsave_writer_truths
noncomputable def Psave_writer_truths_0 (x : (Unit) × (Unit) × (Int × Unit) × (Int × Unit) × Unit) (g : (Unit) × (List Bool) × (List Int) × Unit) : (List Bool) × Ssave_writer_truths_0 := (g.2.1, Ssave_writer_truths_0.mk x.2.2.1.1 x.2.2.2.1.1 g.2.2.1)
noncomputable def tAsave_writer_truths_0 : Tms U ((Unit) × (Unit) × (Int × Unit) × (Int × Unit) × Unit) := tO 0 (cK (.ptr 0 0) (cUnit)) (tO 7 (cK (.row 1 1) (cUnit)) (tO 8 (cPair (cInt .i64) (cUnit)) (tO 9 (cPair (cInt .i64) (cUnit)) (tNil))))
noncomputable def tBsave_writer_truths_0 : Bls U ((Unit) × (List Bool) × (List Int) × Unit) := bT (some 136) (cK (.ptr 0 0) (cK (.row 2 1) (cUnit))) (bRv 4 1 (bRv 5 1 (bNil)))
noncomputable def eSsave_writer_truths_0 (kk : (List Bool)) (s : Ssave_writer_truths_0) : St U := { tm := [(0, .v (vO (cK (.ptr 0 0) (cUnit)) (()))), (7, .v (vO (cK (.row 1 1) (cUnit)) (()))), (8, .v (vO (cPair (cInt .i64) (cUnit)) (s.t8, ()))), (9, .v (vO (cPair (cInt .i64) (cUnit)) (s.t9, ())))], hp := [.cells ((cK (.ptr 0 0) (cK (.row 2 1) (cUnit)) : Cdc U (Unit)).enc (())) (some 136), .row 4 1 kk, .row 5 1 s.b2] }
noncomputable def xSsave_writer_truths_0 (kk : (List Bool)) (r : (List Int)) : Ex × St U := (.exit 0, { tm := [], hp := [.cells ((cK (.ptr 0 0) (cK (.row 2 1) (cUnit)) : Cdc U (Unit)).enc (())) (some 136), .row 4 1 kk, .row 5 1 r] })
noncomputable def xTsave_writer_truths_0 (kk : (List Bool)) (r : (List Int)) : Tree (Ex × St U) := .leaf (xSsave_writer_truths_0 kk r)
noncomputable def hsave_writer_truths_0 : Hd := { keep := [0, 7, 8, 9], xkeep := [], own := false, bump := true }
noncomputable def Esave_writer_truths : Env U := { P := Tryz.prog, cd := cd, fns := (addF 92 false (Ssave_writer_nums_V2) fns38), lps := (addL 0 hsave_writer_truths_0 (mkLoopK tAsave_writer_truths_0 tBsave_writer_truths_0 Psave_writer_truths_0 (Lsave_writer_truths_0 none) xTsave_writer_truths_0) noL), frz := fun _r => false, nt := 19, n0 := 3 }
noncomputable def Bsave_writer_truths_0 : Code := (loopAt (Tryz.f91.body.getD .skip) 0 0).getD .skip
theorem roundsave_writer_truths_0 (kk : (List Bool)) (s : Ssave_writer_truths_0) : round Esave_writer_truths hsave_writer_truths_0 Bsave_writer_truths_0 0 (eSsave_writer_truths_0 kk s) = (Wsave_writer_truths_0 none kk s).map (sumE (eSsave_writer_truths_0 kk) (xSsave_writer_truths_0 kk)) := by kernel_rfl
theorem lpsave_writer_truths_0 : LpOk Esave_writer_truths Bsave_writer_truths_0 0 := mkLoopK_ok (A := tAsave_writer_truths_0) (B := tBsave_writer_truths_0) (f := Psave_writer_truths_0) (L := Lsave_writer_truths_0 none) (tO_ok (cK_ok cUnit_ok) (tO_ok (cK_ok cUnit_ok) (tO_ok (cPair_ok (cInt_ok .i64) cUnit_ok) (tO_ok (cPair_ok (cInt_ok .i64) cUnit_ok) tNil_ok)))) (bT_ok (cK_ok (cK_ok cUnit_ok)) (bRv_ok (bRv_ok bNil_ok))) (enc := eSsave_writer_truths_0) (out := xTsave_writer_truths_0) (outS := xSsave_writer_truths_0) (step := Wsave_writer_truths_0 none) (fun _ _ => rfl) (fun _ _ => by kernel_rfl) (by kernel_rfl) (fun _ _ => rfl) roundsave_writer_truths_0
theorem rnsave_writer_truths (g0 : Unit) (g1 : (List Bool)) (g2 : (List Int)) : execX false Esave_writer_truths Tryz.f91 (Asave_writer_truths.enc ()) (Gsave_writer_truths.enc (g0, g1, g2, ())) = (Tsave_writer_truths none g0 g1 g2).map (Rsave_writer_truths () (g0, g1, g2, ())) := by kernel_rfl
theorem runsave_writer_truths : ∀ (x : Unit) (g : Unit × (List Bool) × (List Int) × Unit), execX false Esave_writer_truths Tryz.f91 (Asave_writer_truths.enc x) (Gsave_writer_truths.enc g) = (Tsave_writer_truths none g.1 g.2.1 g.2.2.1).map (Rsave_writer_truths x g)
  | (), (g0, g1, g2, ()) => rnsave_writer_truths g0 g1 g2
theorem oksave_writer_truths : FnOk Tryz.prog cd 91 Ssave_writer_truths := mk_okG (E := Esave_writer_truths) (A := Asave_writer_truths) (B := Gsave_writer_truths) false cd_ok (addF_ok oksave_writer_nums_V2 fns38_ok) Tryz.func91 (by kernel_rfl) (loops_of (addL_ok lpsave_writer_truths_0 noL_ok)) (aP_ok (aR_ok (aNil_ok))) (bT_ok (cK_ok (cK_ok cUnit_ok)) (bR_ok (bR_ok bNil_ok))) (T := fun (x : Unit) (g : Unit × (List Bool) × (List Int) × Unit) => Tsave_writer_truths none g.1 g.2.1 g.2.2.1) (fun _ _ => rfl) runsave_writer_truths
/-- (*emulator/save.writer).mmu -/
structure Ssave_writer_mmu_1 where
  t14_0 : (List Page)
  t15 : Int
  t18_0 : (List Page)
  t19 : Int
  b1 : (List Int)
  b2 : Mmu
noncomputable def Wsave_writer_mmu_1 (q : Option Nat) (s : Ssave_writer_mmu_1) : Tree (Ssave_writer_mmu_1 ⊕ ((List Page) × Int × (List Int) × Mmu)) :=
  .ite (decide (s.t19 < (8 : Int)))
    (.ite (decide (0 ≤ s.t19))
      (.ite (decide (s.t19 < (8 : Int)))
        (.opt Page (s.t18_0[(s.t19).toNat]?) fun y275 =>
          .opt ((List Int) × (List Int)) (save_writer_nums_V2 q (2 : Int) () ([y275.base]) s.b1) fun r276 =>
            .opt ((List Int) × (List Int)) (save_writer_nums_V2 q (1 : Int) () ([y275.length, y275.access]) r276.2) fun r277 =>
              .opt ((List Bool) × (List Int)) (save_writer_truths q () ([y275.written]) r277.2) fun r278 =>
                .leaf (.inl (Ssave_writer_mmu_1.mk s.t14_0 s.t15 s.t18_0 (IntKind.wrap .i64 (s.t19 + (1 : Int))) r278.2 s.b2)))
        .fail)
      .fail)
    (.leaf (.inr (s.t14_0, s.t15, s.b1, s.b2)))
noncomputable def Lsave_writer_mmu_1 (q : Option Nat) (s : Ssave_writer_mmu_1) : Option ((List Page) × Int × (List Int) × Mmu) := limQ q (fun s => (Wsave_writer_mmu_1 q s).run) s
structure Ssave_writer_mmu_0 where
  t14_0 : (List Page)
  t15 : Int
  b1 : (List Int)
  b2 : Mmu
noncomputable def Wsave_writer_mmu_0 (q : Option Nat) (s : Ssave_writer_mmu_0) : Tree (Ssave_writer_mmu_0 ⊕ ((List Int) × Mmu)) :=
  .ite (decide (s.t15 < (2 : Int)))
    (.ite (decide (0 ≤ s.t15))
      (.ite (decide (s.t15 < (2 : Int)))
        (.ite (decide ((s.t15).toNat * 8 + 8 ≤ s.t14_0.length))
          (.opt ((List Page) × Int × (List Int) × Mmu) (Lsave_writer_mmu_1 q (Ssave_writer_mmu_1.mk s.t14_0 s.t15 ((s.t14_0.drop ((s.t15).toNat * 8)).take 8) (0 : Int) s.b1 s.b2)) fun l279 =>
            .leaf (.inl (Ssave_writer_mmu_0.mk l279.1 (IntKind.wrap .i64 (l279.2.1 + (1 : Int))) l279.2.2.1 l279.2.2.2)))
          .fail)
        .fail)
      .fail)
    (.leaf (.inr (s.b1, s.b2)))
noncomputable def Lsave_writer_mmu_0 (q : Option Nat) (s : Ssave_writer_mmu_0) : Option ((List Int) × Mmu) := limQ q (fun s => (Wsave_writer_mmu_0 q s).run) s
noncomputable def Tsave_writer_mmu (q : Option Nat) (x1 : Mmu) (g0 : Unit) (g1 : (List Int)) : Tree (List Int) :=
  .opt ((List Bool) × (List Int)) (save_writer_truths q () ([x1.on]) g1) fun r274 =>
    .opt ((List Int) × Mmu) (Lsave_writer_mmu_0 q (Ssave_writer_mmu_0.mk x1.pages (0 : Int) r274.2 x1)) fun l280 =>
      .opt ((List Int) × (List Int)) (save_writer_nums_V2 q (1 : Int) () ([l280.2.status]) l280.1) fun r281 =>
        .opt ((List Int) × (List Int)) (save_writer_nums_V2 q (2 : Int) () ([l280.2.addr]) r281.2) fun r282 =>
          .leaf (r282.2)
noncomputable def save_writer_mmu (q : Option Nat) (x1 : Mmu) (g0 : Unit) (g1 : (List Int)) : Option (List Int) := (Tsave_writer_mmu q x1 g0 g1).run
noncomputable def Asave_writer_mmu : Arg U (Mmu × Unit) := aP 0 0 (aA cMmu (aNil))
noncomputable def Gsave_writer_mmu : Bls U (Unit × (List Int) × Unit) := bT (some 136) (cK (.ptr 0 0) (cK (.row 1 0) (cUnit))) (bR 5 (bNil))
noncomputable def Rsave_writer_mmu (_x : Mmu × Unit) (_g : Unit × (List Int) × Unit) (r : (List Int)) : List (V U) × List (Blk U) := ([], [.cells ((cK (.ptr 0 0) (cK (.row 1 3) (cUnit)) : Cdc U (Unit)).enc (())) (some 136), .row 5 3 r])
noncomputable def Ssave_writer_mmu : List (V U) → List (Blk U) → Option (FnOut U) := mkSpecG Asave_writer_mmu Gsave_writer_mmu (fun x g => save_writer_mmu none x.1 g.1 g.2.1) Rsave_writer_mmu
noncomputable def Psave_writer_mmu_0 (x : (Unit) × (Unit) × ((List Page) × Unit) × (Int × Unit) × Unit) (g : (Unit) × (List Int) × (Mmu × Unit) × Unit) : Ssave_writer_mmu_0 := Ssave_writer_mmu_0.mk x.2.2.1.1 x.2.2.2.1.1 g.2.1 g.2.2.1.1
noncomputable def tAsave_writer_mmu_0 : Tms U ((Unit) × (Unit) × ((List Page) × Unit) × (Int × Unit) × Unit) := tO 0 (cK (.ptr 0 0) (cUnit)) (tO 3 (cK (.ptr 2 0) (cUnit)) (tA 14 (cPair (cArr 28 16) (cUnit)) (tO 15 (cPair (cInt .i64) (cUnit)) (tNil))))
noncomputable def tBsave_writer_mmu_0 : Bls U ((Unit) × (List Int) × (Mmu × Unit) × Unit) := bT (some 136) (cK (.ptr 0 0) (cK (.row 1 1) (cUnit))) (bRv 5 1 (bC (cPair cMmu (cUnit)) (bNil)))
noncomputable def eSsave_writer_mmu_0 (s : Ssave_writer_mmu_0) : St U := { tm := [(0, .v (vO (cK (.ptr 0 0) (cUnit)) (()))), (3, .v (vO (cK (.ptr 2 0) (cUnit)) (()))), (14, .v (vA (cPair (cArr 28 16) (cUnit)) (s.t14_0, ()))), (15, .v (vO (cPair (cInt .i64) (cUnit)) (s.t15, ())))], hp := [.cells ((cK (.ptr 0 0) (cK (.row 1 1) (cUnit)) : Cdc U (Unit)).enc (())) (some 136), .row 5 1 s.b1, .cells ((cPair cMmu (cUnit) : Cdc U (Mmu × Unit)).enc (s.b2, ())) none] }
noncomputable def xSsave_writer_mmu_0 (r : ((List Int) × Mmu)) : Ex × St U := (.exit 0, { tm := [(0, .v (vO (cK (.ptr 0 0) (cUnit)) (()))), (3, .v (vO (cK (.ptr 2 0) (cUnit)) (())))], hp := [.cells ((cK (.ptr 0 0) (cK (.row 1 1) (cUnit)) : Cdc U (Unit)).enc (())) (some 136), .row 5 1 r.1, .cells ((cPair cMmu (cUnit) : Cdc U (Mmu × Unit)).enc (r.2, ())) none] })
noncomputable def xTsave_writer_mmu_0 (r : ((List Int) × Mmu)) : Tree (Ex × St U) := .leaf (xSsave_writer_mmu_0 r)
noncomputable def hsave_writer_mmu_0 : Hd := { keep := [0, 3, 14, 15], xkeep := [0, 3], own := false }
noncomputable def Psave_writer_mmu_1 (x : (Unit) × (Unit) × ((List Page) × Unit) × (Int × Unit) × ((List Page) × Unit) × (Int × Unit) × Unit) (g : (Unit) × (List Int) × (Mmu × Unit) × Unit) : Ssave_writer_mmu_1 := Ssave_writer_mmu_1.mk x.2.2.1.1 x.2.2.2.1.1 x.2.2.2.2.1.1 x.2.2.2.2.2.1.1 g.2.1 g.2.2.1.1
noncomputable def tAsave_writer_mmu_1 : Tms U ((Unit) × (Unit) × ((List Page) × Unit) × (Int × Unit) × ((List Page) × Unit) × (Int × Unit) × Unit) := tO 0 (cK (.ptr 0 0) (cUnit)) (tO 3 (cK (.ptr 2 0) (cUnit)) (tA 14 (cPair (cArr 28 16) (cUnit)) (tO 15 (cPair (cInt .i64) (cUnit)) (tA 18 (cPair (cArr 28 8) (cUnit)) (tO 19 (cPair (cInt .i64) (cUnit)) (tNil))))))
noncomputable def tBsave_writer_mmu_1 : Bls U ((Unit) × (List Int) × (Mmu × Unit) × Unit) := bT (some 136) (cK (.ptr 0 0) (cK (.row 1 1) (cUnit))) (bRv 5 1 (bC (cPair cMmu (cUnit)) (bNil)))
noncomputable def eSsave_writer_mmu_1 (s : Ssave_writer_mmu_1) : St U := { tm := [(0, .v (vO (cK (.ptr 0 0) (cUnit)) (()))), (3, .v (vO (cK (.ptr 2 0) (cUnit)) (()))), (14, .v (vA (cPair (cArr 28 16) (cUnit)) (s.t14_0, ()))), (15, .v (vO (cPair (cInt .i64) (cUnit)) (s.t15, ()))), (18, .v (vA (cPair (cArr 28 8) (cUnit)) (s.t18_0, ()))), (19, .v (vO (cPair (cInt .i64) (cUnit)) (s.t19, ())))], hp := [.cells ((cK (.ptr 0 0) (cK (.row 1 1) (cUnit)) : Cdc U (Unit)).enc (())) (some 136), .row 5 1 s.b1, .cells ((cPair cMmu (cUnit) : Cdc U (Mmu × Unit)).enc (s.b2, ())) none] }
noncomputable def xSsave_writer_mmu_1 (r : ((List Page) × Int × (List Int) × Mmu)) : Ex × St U := (.exit 2, { tm := [(0, .v (vO (cK (.ptr 0 0) (cUnit)) (()))), (3, .v (vO (cK (.ptr 2 0) (cUnit)) (()))), (14, .v (vA (cPair (cArr 28 16) (cUnit)) (r.1, ()))), (15, .v (vO (cPair (cInt .i64) (cUnit)) (r.2.1, ())))], hp := [.cells ((cK (.ptr 0 0) (cK (.row 1 1) (cUnit)) : Cdc U (Unit)).enc (())) (some 136), .row 5 1 r.2.2.1, .cells ((cPair cMmu (cUnit) : Cdc U (Mmu × Unit)).enc (r.2.2.2, ())) none] })
noncomputable def xTsave_writer_mmu_1 (r : ((List Page) × Int × (List Int) × Mmu)) : Tree (Ex × St U) := .leaf (xSsave_writer_mmu_1 r)
noncomputable def hsave_writer_mmu_1 : Hd := { keep := [0, 3, 14, 15, 18, 19], xkeep := [0, 3, 14, 15], own := false }
noncomputable def Esave_writer_mmu : Env U := { P := Tryz.prog, cd := cd, fns := (addF 92 false (Ssave_writer_nums_V2) (addF 91 false (Ssave_writer_truths) fns38)), lps := (addL 0 hsave_writer_mmu_0 (mkLoop tAsave_writer_mmu_0 tBsave_writer_mmu_0 Psave_writer_mmu_0 (Lsave_writer_mmu_0 none) xTsave_writer_mmu_0) (addL 1 hsave_writer_mmu_1 (mkLoop tAsave_writer_mmu_1 tBsave_writer_mmu_1 Psave_writer_mmu_1 (Lsave_writer_mmu_1 none) xTsave_writer_mmu_1) noL)), frz := fun _r => false, nt := 51, n0 := 2 }
noncomputable def Bsave_writer_mmu_0 : Code := (loopAt (Tryz.f90.body.getD .skip) 0 0).getD .skip
theorem roundsave_writer_mmu_0 (s : Ssave_writer_mmu_0) : round Esave_writer_mmu hsave_writer_mmu_0 Bsave_writer_mmu_0 0 (eSsave_writer_mmu_0 s) = (Wsave_writer_mmu_0 none s).map (sumE eSsave_writer_mmu_0 xSsave_writer_mmu_0) := by kernel_rfl
theorem lpsave_writer_mmu_0 : LpOk Esave_writer_mmu Bsave_writer_mmu_0 0 := mkLoop_ok (A := tAsave_writer_mmu_0) (B := tBsave_writer_mmu_0) (f := Psave_writer_mmu_0) (L := Lsave_writer_mmu_0 none) (tO_ok (cK_ok cUnit_ok) (tO_ok (cK_ok cUnit_ok) (tA_ok (cPair_ok (cArr_ok 28 16) cUnit_ok) (tO_ok (cPair_ok (cInt_ok .i64) cUnit_ok) tNil_ok)))) (bT_ok (cK_ok (cK_ok cUnit_ok)) (bRv_ok (bC_ok (cPair_ok cMmu_ok cUnit_ok) bNil_ok))) (enc := eSsave_writer_mmu_0) (out := xTsave_writer_mmu_0) (outS := xSsave_writer_mmu_0) (step := Wsave_writer_mmu_0 none) (fun _ => rfl) (fun _ _ => by kernel_rfl) (by kernel_rfl) (fun _ => rfl) roundsave_writer_mmu_0
noncomputable def Bsave_writer_mmu_1 : Code := (loopAt (Tryz.f90.body.getD .skip) 0 1).getD .skip
theorem roundsave_writer_mmu_1 (s : Ssave_writer_mmu_1) : round Esave_writer_mmu hsave_writer_mmu_1 Bsave_writer_mmu_1 1 (eSsave_writer_mmu_1 s) = (Wsave_writer_mmu_1 none s).map (sumE eSsave_writer_mmu_1 xSsave_writer_mmu_1) := by kernel_rfl
theorem lpsave_writer_mmu_1 : LpOk Esave_writer_mmu Bsave_writer_mmu_1 1 := mkLoop_ok (A := tAsave_writer_mmu_1) (B := tBsave_writer_mmu_1) (f := Psave_writer_mmu_1) (L := Lsave_writer_mmu_1 none) (tO_ok (cK_ok cUnit_ok) (tO_ok (cK_ok cUnit_ok) (tA_ok (cPair_ok (cArr_ok 28 16) cUnit_ok) (tO_ok (cPair_ok (cInt_ok .i64) cUnit_ok) (tA_ok (cPair_ok (cArr_ok 28 8) cUnit_ok) (tO_ok (cPair_ok (cInt_ok .i64) cUnit_ok) tNil_ok)))))) (bT_ok (cK_ok (cK_ok cUnit_ok)) (bRv_ok (bC_ok (cPair_ok cMmu_ok cUnit_ok) bNil_ok))) (enc := eSsave_writer_mmu_1) (out := xTsave_writer_mmu_1) (outS := xSsave_writer_mmu_1) (step := Wsave_writer_mmu_1 none) (fun _ => rfl) (fun _ _ => by kernel_rfl) (by kernel_rfl) (fun _ => rfl) roundsave_writer_mmu_1
theorem rnsave_writer_mmu (x1 : Mmu) (g0 : Unit) (g1 : (List Int)) : execX false Esave_writer_mmu Tryz.f90 (Asave_writer_mmu.enc (x1, ())) (Gsave_writer_mmu.enc (g0, g1, ())) = (Tsave_writer_mmu none x1 g0 g1).map (Rsave_writer_mmu (x1, ()) (g0, g1, ())) := by kernel_rfl
theorem runsave_writer_mmu : ∀ (x : Mmu × Unit) (g : Unit × (List Int) × Unit), execX false Esave_writer_mmu Tryz.f90 (Asave_writer_mmu.enc x) (Gsave_writer_mmu.enc g) = (Tsave_writer_mmu none x.1 g.1 g.2.1).map (Rsave_writer_mmu x g)
  | (x1, ()), (g0, g1, ()) => rnsave_writer_mmu x1 g0 g1
theorem oksave_writer_mmu : FnOk Tryz.prog cd 90 Ssave_writer_mmu := mk_okG (E := Esave_writer_mmu) (A := Asave_writer_mmu) (B := Gsave_writer_mmu) false cd_ok (addF_ok oksave_writer_nums_V2 (addF_ok oksave_writer_truths fns38_ok)) Tryz.func90 (by kernel_rfl) (loops_of (addL_ok lpsave_writer_mmu_0 (addL_ok lpsave_writer_mmu_1 noL_ok))) (aP_ok (aA_ok cMmu_ok (aNil_ok))) (bT_ok (cK_ok (cK_ok cUnit_ok)) (bR_ok bNil_ok)) (T := fun (x : Mmu × Unit) (g : Unit × (List Int) × Unit) => Tsave_writer_mmu none x.1 g.1 g.2.1) (fun _ _ => rfl) runsave_writer_mmu
/-- emulator/octet.PutText -/
noncomputable def Toctet_PutText (q : Option Nat) (x0 : (List UInt8)) : Tree (List UInt8) :=
  .ite (decide (0 ≤ (if (65535 : Int) < (x0.length : Int) then (65535 : Int) else (x0.length : Int))))
    (.ite (decide ((if (65535 : Int) < (x0.length : Int) then (65535 : Int) else (x0.length : Int)) ≤ ((x0.length : Nat) : Int)))
      (.opt (List UInt8) (octet_Put q (((x0.drop (0)).take (((if (65535 : Int) < (x0.length : Int) then (65535 : Int) else (x0.length : Int))).toNat - 0)).length : Int) (2 : Int)) fun r297 =>
        .opt (List UInt8) (octet_joined q ([r297, (x0.drop (0)).take (((if (65535 : Int) < (x0.length : Int) then (65535 : Int) else (x0.length : Int))).toNat - 0)])) fun r298 =>
          .leaf (r298))
      .fail)
    .fail
noncomputable def octet_PutText (q : Option Nat) (x0 : (List UInt8)) : Option (List UInt8) := (Toctet_PutText q x0).run
noncomputable def Aoctet_PutText : Arg U ((List UInt8) × Unit) := aO cStr (aNil)
noncomputable def Goctet_PutText : Bls U (Unit) := bNil
noncomputable def Roctet_PutText (_x : (List UInt8) × Unit) (_g : Unit) (r : (List UInt8)) : List (V U) × List (Blk U) := ([vO (cPair cStr (cUnit)) (r, ())], [])
noncomputable def Soctet_PutText : List (V U) → List (Blk U) → Option (FnOut U) := mkSpecG Aoctet_PutText Goctet_PutText (fun x _ => octet_PutText none x.1) Roctet_PutText
noncomputable def Eoctet_PutText : Env U := { P := Tryz.prog, cd := cd, fns := (addF 85 false (frzSpec Soctet_joined) fns38), lps := noL, frz := fun _r => false, nt := 14, n0 := 0 }
theorem rnoctet_PutText (x0 : (List UInt8)) : execX false Eoctet_PutText Tryz.f148 (Aoctet_PutText.enc (x0, ())) (Goctet_PutText.enc ()) = (Toctet_PutText none x0).map (Roctet_PutText (x0, ()) ()) := by kernel_rfl
theorem runoctet_PutText : ∀ (x : (List UInt8) × Unit) (g : Unit), execX false Eoctet_PutText Tryz.f148 (Aoctet_PutText.enc x) (Goctet_PutText.enc g) = (Toctet_PutText none x.1).map (Roctet_PutText x g)
  | (x0, ()), () => rnoctet_PutText x0
theorem okoctet_PutText : FnOk Tryz.prog cd 148 Soctet_PutText := mk_okG (E := Eoctet_PutText) (A := Aoctet_PutText) (B := Goctet_PutText) false cd_ok (addF_ok (fnOk_frz cd_ok (mkSpec_out fun _ => rfl) okoctet_joined) fns38_ok) Tryz.func148 (by kernel_rfl) (noLoops_body (by kernel_rfl)) (aO_ok cStr_ok (aNil_ok)) bNil_ok (T := fun (x : (List UInt8) × Unit) (_ : Unit) => Toctet_PutText none x.1) (fun _ _ => rfl) runoctet_PutText
/-- (*emulator/save.writer).text -/
noncomputable def Tsave_writer_text (q : Option Nat) (x1 : (List UInt8)) (g0 : Unit) (g1 : (List Int)) : Tree (List Int) :=
  .opt (List UInt8) (octet_PutText q x1) fun r299 =>
    .opt (Int × (List Int)) (strings_Builder_WriteString_V2 r299 () g1) fun r300 =>
      .leaf (r300.2)
noncomputable def save_writer_text (q : Option Nat) (x1 : (List UInt8)) (g0 : Unit) (g1 : (List Int)) : Option (List Int) := (Tsave_writer_text q x1 g0 g1).run
noncomputable def Asave_writer_text : Arg U ((List UInt8) × Unit) := aP 0 0 (aO cStr (aNil))
noncomputable def Gsave_writer_text : Bls U (Unit × (List Int) × Unit) := bT (some 136) (cK (.ptr 0 0) (cK (.row 1 0) (cUnit))) (bR 5 (bNil))
noncomputable def Rsave_writer_text (_x : (List UInt8) × Unit) (_g : Unit × (List Int) × Unit) (r : (List Int)) : List (V U) × List (Blk U) := ([], [.cells ((cK (.ptr 0 0) (cK (.row 1 1) (cUnit)) : Cdc U (Unit)).enc (())) (some 136), .row 5 1 r])
noncomputable def Ssave_writer_text : List (V U) → List (Blk U) → Option (FnOut U) := mkSpecG Asave_writer_text Gsave_writer_text (fun x g => save_writer_text none x.1 g.1 g.2.1) Rsave_writer_text
noncomputable def Esave_writer_text : Env U := { P := Tryz.prog, cd := cd, fns := (addF 148 false (Soctet_PutText) (addF 86 false (Sstrings_Builder_WriteString_V2) fns38)), lps := noL, frz := fun _r => false, nt := 10, n0 := 2, fps := fun _r _i => bif Nat.beq _r 0 && Nat.beq _i 1 then .rd [] else bif Nat.beq _r 0 && Nat.beq _i 2 then .rd [] else bif Nat.beq _r 0 && Nat.beq _i 4 then .wr [] 2 else .none }
theorem rnsave_writer_text (x1 : (List UInt8)) (g0 : Unit) (g1 : (List Int)) : execX false Esave_writer_text Tryz.f130 (Asave_writer_text.enc (x1, ())) (Gsave_writer_text.enc (g0, g1, ())) = (Tsave_writer_text none x1 g0 g1).map (Rsave_writer_text (x1, ()) (g0, g1, ())) := by kernel_rfl
theorem runsave_writer_text : ∀ (x : (List UInt8) × Unit) (g : Unit × (List Int) × Unit), execX false Esave_writer_text Tryz.f130 (Asave_writer_text.enc x) (Gsave_writer_text.enc g) = (Tsave_writer_text none x.1 g.1 g.2.1).map (Rsave_writer_text x g)
  | (x1, ()), (g0, g1, ()) => rnsave_writer_text x1 g0 g1
theorem oksave_writer_text : FnOk Tryz.prog cd 130 Ssave_writer_text := mk_okG (E := Esave_writer_text) (A := Asave_writer_text) (B := Gsave_writer_text) false cd_ok (addF_ok okoctet_PutText (addF_ok okstrings_Builder_WriteString_V2 fns38_ok)) Tryz.func130 (by kernel_rfl) (noLoops_body (by kernel_rfl)) (aP_ok (aO_ok cStr_ok (aNil_ok))) (bT_ok (cK_ok (cK_ok cUnit_ok)) (bR_ok bNil_ok)) (T := fun (x : (List UInt8) × Unit) (g : Unit × (List Int) × Unit) => Tsave_writer_text none x.1 g.1 g.2.1) (fun _ _ => rfl) runsave_writer_text
end Go.Proofs.YtiafliookmnjoaaGreatDoor
