/- The types of the program, and how they are told in cells. -/
import Derived.Test.YtiafliookmnjoaaDoorAbMore
import Derived.Test.YtiafliookmnjoaaDoorAbClone
import Derived.Ground.NamesProg
import Derived.Shelf.Lay
import Derived.Shelf.SlGeneric
import Derived.Ground.SlgnProg
import Derived.Test.YtiafliookmnjoaaDoorProg
import Derived.KernelRfl
set_option linter.unusedSimpArgs false
namespace Go.Proofs.YtiafliookmnjoaaDoor
open Go Go.Ab
structure Cpu where
  r : (List Int)
  sP : (List Int)
  pC : Int
  pSW : Int
  deriving DecidableEq
structure Page where
  base : Int
  length : Int
  access : Int
  written : Bool
  deriving DecidableEq
structure Mmu where
  on : Bool
  pages : (List Page)
  status : Int
  addr : Int
  deriving DecidableEq
structure Clock where
  enable : Bool
  ready : Bool
  period : Int
  left : Int
  deriving DecidableEq
structure Line where
  rxEnable : Bool
  rxReady : Bool
  overrun : Bool
  rxData : Int
  txEnable : Bool
  txReady : Bool
  txData : Int
  txLeft : Int
  out : (List UInt8)
  deriving DecidableEq
structure Drive where
  sectors : (List (List UInt8))
  bad : (List Int)
  deriving DecidableEq
structure Disk where
  drive : Drive
  enable : Bool
  ready : Bool
  error : Bool
  command : Int
  words : Int
  addr : Int
  start : Int
  left : Int
  deriving DecidableEq
structure Tape where
  records : (List (List UInt8))
  pos : Int
  enable : Bool
  ready : Bool
  error : Bool
  mark : Bool
  end_ : Bool
  command : Int
  count : Int
  addr : Int
  left : Int
  deriving DecidableEq
structure Machine where
  cpu : Cpu
  mem : (List Int)
  bad : (List Int)
  mmu : Mmu
  clock : Clock
  lines : (List Line)
  disk : Disk
  tape : Tape
  now : Int
  halted : Bool
  waiting : Bool
  power : Int
  powerTrap : Bool
  deriving DecidableEq
structure Condition where
  halted : Bool
  waiting : Bool
  trap : Bool
  power : Int
  deriving DecidableEq
structure Reader where
  s : (List UInt8)
  at_ : Int
  bad : Bool
  deriving DecidableEq
abbrev tys : List (Nat × Type) := [(3, Int), (4, Bool), (5, Int), (9, (List UInt8)), (28, Page), (51, Line)]
abbrev U : Nat → Type := findT tys
noncomputable def cCpu : Cdc U Cpu := cMap (fun x => Cpu.mk x.1 x.2.1 x.2.2.1 x.2.2.2.1) (fun x => (x.r, x.sP, x.pC, x.pSW, ())) (cPair (cArr 3 6) (cPair (cArr 3 2) (cPair (cInt .i64) (cPair (cInt .i64) (cUnit)))))
theorem cCpu_ok : cCpu.Ok := cMap_ok (cPair_ok (cArr_ok 3 6) (cPair_ok (cArr_ok 3 2) (cPair_ok (cInt_ok .i64) (cPair_ok (cInt_ok .i64) cUnit_ok)))) fun _ => rfl
noncomputable def cPage : Cdc U Page := cMap (fun x => Page.mk x.1 x.2.1 x.2.2.1 x.2.2.2.1) (fun x => (x.base, x.length, x.access, x.written, ())) (cPair (cInt .i64) (cPair (cInt .i64) (cPair (cInt .i64) (cPair cBool (cUnit)))))
theorem cPage_ok : cPage.Ok := cMap_ok (cPair_ok (cInt_ok .i64) (cPair_ok (cInt_ok .i64) (cPair_ok (cInt_ok .i64) (cPair_ok cBool_ok cUnit_ok)))) fun _ => rfl
noncomputable def cMmu : Cdc U Mmu := cMap (fun x => Mmu.mk x.1 x.2.1 x.2.2.1 x.2.2.2.1) (fun x => (x.on, x.pages, x.status, x.addr, ())) (cPair cBool (cPair (cArr 28 16) (cPair (cInt .i64) (cPair (cInt .i64) (cUnit)))))
theorem cMmu_ok : cMmu.Ok := cMap_ok (cPair_ok cBool_ok (cPair_ok (cArr_ok 28 16) (cPair_ok (cInt_ok .i64) (cPair_ok (cInt_ok .i64) cUnit_ok)))) fun _ => rfl
noncomputable def cClock : Cdc U Clock := cMap (fun x => Clock.mk x.1 x.2.1 x.2.2.1 x.2.2.2.1) (fun x => (x.enable, x.ready, x.period, x.left, ())) (cPair cBool (cPair cBool (cPair (cInt .i64) (cPair (cInt .i64) (cUnit)))))
theorem cClock_ok : cClock.Ok := cMap_ok (cPair_ok cBool_ok (cPair_ok cBool_ok (cPair_ok (cInt_ok .i64) (cPair_ok (cInt_ok .i64) cUnit_ok)))) fun _ => rfl
noncomputable def cLine : Cdc U Line := cMap (fun x => Line.mk x.1 x.2.1 x.2.2.1 x.2.2.2.1 x.2.2.2.2.1 x.2.2.2.2.2.1 x.2.2.2.2.2.2.1 x.2.2.2.2.2.2.2.1 x.2.2.2.2.2.2.2.2.1) (fun x => (x.rxEnable, x.rxReady, x.overrun, x.rxData, x.txEnable, x.txReady, x.txData, x.txLeft, x.out, ())) (cPair cBool (cPair cBool (cPair cBool (cPair (cInt .i64) (cPair cBool (cPair cBool (cPair (cInt .i64) (cPair (cInt .i64) (cPair cStr (cUnit))))))))))
theorem cLine_ok : cLine.Ok := cMap_ok (cPair_ok cBool_ok (cPair_ok cBool_ok (cPair_ok cBool_ok (cPair_ok (cInt_ok .i64) (cPair_ok cBool_ok (cPair_ok cBool_ok (cPair_ok (cInt_ok .i64) (cPair_ok (cInt_ok .i64) (cPair_ok cStr_ok cUnit_ok))))))))) fun _ => rfl
noncomputable def cDrive : Cdc U Drive := cMap (fun x => Drive.mk x.1 x.2.1) (fun x => (x.sectors, x.bad, ())) (cPair (cSl 9) (cPair (cSl 3) (cUnit)))
theorem cDrive_ok : cDrive.Ok := cMap_ok (cPair_ok (cSl_ok 9) (cPair_ok (cSl_ok 3) cUnit_ok)) fun _ => rfl
noncomputable def cDisk : Cdc U Disk := cMap (fun x => Disk.mk x.1 x.2.1 x.2.2.1 x.2.2.2.1 x.2.2.2.2.1 x.2.2.2.2.2.1 x.2.2.2.2.2.2.1 x.2.2.2.2.2.2.2.1 x.2.2.2.2.2.2.2.2.1) (fun x => (x.drive, x.enable, x.ready, x.error, x.command, x.words, x.addr, x.start, x.left, ())) (cPair cDrive (cPair cBool (cPair cBool (cPair cBool (cPair (cInt .i64) (cPair (cInt .i64) (cPair (cInt .i64) (cPair (cInt .i64) (cPair (cInt .i64) (cUnit))))))))))
theorem cDisk_ok : cDisk.Ok := cMap_ok (cPair_ok cDrive_ok (cPair_ok cBool_ok (cPair_ok cBool_ok (cPair_ok cBool_ok (cPair_ok (cInt_ok .i64) (cPair_ok (cInt_ok .i64) (cPair_ok (cInt_ok .i64) (cPair_ok (cInt_ok .i64) (cPair_ok (cInt_ok .i64) cUnit_ok))))))))) fun _ => rfl
noncomputable def cTape : Cdc U Tape := cMap (fun x => Tape.mk x.1 x.2.1 x.2.2.1 x.2.2.2.1 x.2.2.2.2.1 x.2.2.2.2.2.1 x.2.2.2.2.2.2.1 x.2.2.2.2.2.2.2.1 x.2.2.2.2.2.2.2.2.1 x.2.2.2.2.2.2.2.2.2.1 x.2.2.2.2.2.2.2.2.2.2.1) (fun x => (x.records, x.pos, x.enable, x.ready, x.error, x.mark, x.end_, x.command, x.count, x.addr, x.left, ())) (cPair (cSl 9) (cPair (cInt .i64) (cPair cBool (cPair cBool (cPair cBool (cPair cBool (cPair cBool (cPair (cInt .i64) (cPair (cInt .i64) (cPair (cInt .i64) (cPair (cInt .i64) (cUnit))))))))))))
theorem cTape_ok : cTape.Ok := cMap_ok (cPair_ok (cSl_ok 9) (cPair_ok (cInt_ok .i64) (cPair_ok cBool_ok (cPair_ok cBool_ok (cPair_ok cBool_ok (cPair_ok cBool_ok (cPair_ok cBool_ok (cPair_ok (cInt_ok .i64) (cPair_ok (cInt_ok .i64) (cPair_ok (cInt_ok .i64) (cPair_ok (cInt_ok .i64) cUnit_ok))))))))))) fun _ => rfl
noncomputable def cMachine : Cdc U Machine := cMap (fun x => Machine.mk x.1 x.2.1 x.2.2.1 x.2.2.2.1 x.2.2.2.2.1 x.2.2.2.2.2.1 x.2.2.2.2.2.2.1 x.2.2.2.2.2.2.2.1 x.2.2.2.2.2.2.2.2.1 x.2.2.2.2.2.2.2.2.2.1 x.2.2.2.2.2.2.2.2.2.2.1 x.2.2.2.2.2.2.2.2.2.2.2.1 x.2.2.2.2.2.2.2.2.2.2.2.2.1) (fun x => (x.cpu, x.mem, x.bad, x.mmu, x.clock, x.lines, x.disk, x.tape, x.now, x.halted, x.waiting, x.power, x.powerTrap, ())) (cPair cCpu (cPair (cSl 3) (cPair (cSl 3) (cPair cMmu (cPair cClock (cPair (cSl 51) (cPair cDisk (cPair cTape (cPair (cInt .i64) (cPair cBool (cPair cBool (cPair (cInt .i64) (cPair cBool (cUnit))))))))))))))
theorem cMachine_ok : cMachine.Ok := cMap_ok (cPair_ok cCpu_ok (cPair_ok (cSl_ok 3) (cPair_ok (cSl_ok 3) (cPair_ok cMmu_ok (cPair_ok cClock_ok (cPair_ok (cSl_ok 51) (cPair_ok cDisk_ok (cPair_ok cTape_ok (cPair_ok (cInt_ok .i64) (cPair_ok cBool_ok (cPair_ok cBool_ok (cPair_ok (cInt_ok .i64) (cPair_ok cBool_ok cUnit_ok))))))))))))) fun _ => rfl
noncomputable def cCondition : Cdc U Condition := cMap (fun x => Condition.mk x.1 x.2.1 x.2.2.1 x.2.2.2.1) (fun x => (x.halted, x.waiting, x.trap, x.power, ())) (cPair cBool (cPair cBool (cPair cBool (cPair (cInt .i64) (cUnit)))))
theorem cCondition_ok : cCondition.Ok := cMap_ok (cPair_ok cBool_ok (cPair_ok cBool_ok (cPair_ok cBool_ok (cPair_ok (cInt_ok .i64) cUnit_ok)))) fun _ => rfl
noncomputable def cReader : Cdc U Reader := cMap (fun x => Reader.mk x.1 x.2.1 x.2.2.1) (fun x => (x.s, x.at_, x.bad, ())) (cPair cStr (cPair (cInt .i64) (cPair cBool (cUnit))))
theorem cReader_ok : cReader.Ok := cMap_ok (cPair_ok cStr_ok (cPair_ok (cInt_ok .i64) (cPair_ok cBool_ok cUnit_ok))) fun _ => rfl
noncomputable def ents : Ents U tys := .cons ⟨(cInt .i64), some (0 : Int), none, some inferInstance⟩ (.cons ⟨cBool, some false, none, some inferInstance⟩ (.cons ⟨(cInt .u8), some (0 : Int), some (fun x => x, fun x => x), some inferInstance⟩ (.cons ⟨cStr, some ([] : List UInt8), none, some inferInstance⟩ (.cons ⟨cPage, some (Page.mk (0 : Int) (0 : Int) (0 : Int) false), none, some inferInstance⟩ (.cons ⟨cLine, some (Line.mk false false false (0 : Int) false false (0 : Int) (0 : Int) ([] : List UInt8)), none, some inferInstance⟩ (.nil))))))
noncomputable def glob : Nat → List Value := fun g => bif Nat.beq g 0 then [.bool true, .bool false, .bool false, .int .i64 (0 : Int)] else []
noncomputable def cd : Cd U := cdOf ents glob
theorem eqSPage (cd : Cd U) (x y : Page) : eqT Tryd.prog cd false 4 28 (cPage.enc x) (cPage.enc y) = some (decide (x = y)) := by
  have h : eqT Tryd.prog cd false 4 28 (cPage.enc x) (cPage.enc y) = some (decide (x.base = y.base) && (decide (x.length = y.length) && (decide (x.access = y.access) && (x.written == y.written)))) := by kernel_rfl
  rw [h]
  cases x; cases y; rw [Option.some.injEq, Bool.eq_iff_iff]; simp
theorem eqSLine (cd : Cd U) (x y : Line) : eqT Tryd.prog cd false 4 51 (cLine.enc x) (cLine.enc y) = some (decide (x = y)) := by
  have h : eqT Tryd.prog cd false 4 51 (cLine.enc x) (cLine.enc y) = some ((x.rxEnable == y.rxEnable) && ((x.rxReady == y.rxReady) && ((x.overrun == y.overrun) && (decide (x.rxData = y.rxData) && ((x.txEnable == y.txEnable) && ((x.txReady == y.txReady) && (decide (x.txData = y.txData) && (decide (x.txLeft = y.txLeft) && decide (x.out = y.out))))))))) := by kernel_rfl
  rw [h]
  cases x; cases y; rw [Option.some.injEq, Bool.eq_iff_iff]; simp
theorem ents_ok : EntsOk Tryd.prog ents := ⟨⟨(cInt_ok .i64), (fun x => by kernel_rfl), (fun x => List.all_eq_true.1 (show (((cInt .i64) : Cdc U _).enc x).all plainC = true by kernel_rfl)), (fun f g h => by cases h), (fun d h cd x y => by cases h; exact eqT_int cd (by kernel_rfl) x y)⟩, ⟨cBool_ok, (fun x => by kernel_rfl), (fun x => List.all_eq_true.1 (show ((cBool : Cdc U _).enc x).all plainC = true by kernel_rfl)), (fun f g h => by cases h), (fun d h cd x y => by cases h; exact eqT_bool cd (by kernel_rfl) x y)⟩, ⟨(cInt_ok .u8), (fun x => by kernel_rfl), (fun x => List.all_eq_true.1 (show (((cInt .u8) : Cdc U _).enc x).all plainC = true by kernel_rfl)), (fun f g h => by simp only [Option.some.injEq, Prod.mk.injEq] at h; obtain ⟨rfl, rfl⟩ := h; exact ⟨by kernel_rfl, fun _ => rfl, fun _ => rfl⟩), (fun d h cd x y => by cases h; exact eqT_int cd (by kernel_rfl) x y)⟩, ⟨cStr_ok, (fun x => by kernel_rfl), (fun x => List.all_eq_true.1 (show ((cStr : Cdc U _).enc x).all plainC = true by kernel_rfl)), (fun f g h => by cases h), (fun d h cd x y => by cases h; exact eqT_string cd (by kernel_rfl) x y)⟩, ⟨cPage_ok, (fun x => by kernel_rfl), (fun x => List.all_eq_true.1 (show ((cPage : Cdc U _).enc x).all plainC = true by kernel_rfl)), (fun f g h => by cases h), (fun d h cd x y => by cases h; exact eqSPage cd x y)⟩, ⟨cLine_ok, (fun x => by kernel_rfl), (fun x => List.all_eq_true.1 (show ((cLine : Cdc U _).enc x).all plainC = true by kernel_rfl)), (fun f g h => by cases h), (fun d h cd x y => by cases h; exact eqSLine cd x y)⟩, trivial⟩
theorem cd_ok : CdOk Tryd.prog cd := cdOf_ok ents ents_ok glob
/-- emulator/emulatorref23.Great -/
structure Sref23_Great_0 where
  t3 : Int
  b0 : Machine
noncomputable def Wref23_Great_0 (s : Sref23_Great_0) : Tree (Sref23_Great_0 ⊕ ((Bool × Machine) ⊕ Machine)) :=
  .ite (decide (s.t3 < (s.b0.lines.length : Int)))
    (.ite (decide (0 ≤ s.t3))
      (.opt Line (s.b0.lines[(s.t3).toNat]?) fun y1 =>
        .ite (decide ((600 : Int) < (y1.out.length : Int)))
          (.leaf (.inr (.inl (true, s.b0))))
          (.leaf (.inl (Sref23_Great_0.mk (IntKind.wrap .i64 (s.t3 + (1 : Int))) s.b0))))
      .fail)
    (.leaf (.inr (.inr s.b0)))
noncomputable def Lref23_Great_0 (q : Option Nat) (s : Sref23_Great_0) : Option ((Bool × Machine) ⊕ Machine) := limQ q (fun s => (Wref23_Great_0 s).run) s
theorem leLref23_Great_0 (k : Nat) (s : Sref23_Great_0) : Le (Lref23_Great_0 (some k) s) (Lref23_Great_0 none s) := limQ_le (fun _ => Le.rfl) s
structure Sref23_Great_1 where
  t4 : Int
  b0 : Machine
noncomputable def Wref23_Great_1 (s : Sref23_Great_1) : Tree (Sref23_Great_1 ⊕ ((Bool × Machine) ⊕ Machine)) :=
  .ite (decide (s.t4 < (s.b0.disk.drive.sectors.length : Int)))
    (.ite (decide (0 ≤ s.t4))
      (.opt (List UInt8) (s.b0.disk.drive.sectors[(s.t4).toNat]?) fun y5 =>
        .ite (decide ((600 : Int) < (y5.length : Int)))
          (.leaf (.inr (.inl (true, s.b0))))
          (.leaf (.inl (Sref23_Great_1.mk (IntKind.wrap .i64 (s.t4 + (1 : Int))) s.b0))))
      .fail)
    (.leaf (.inr (.inr s.b0)))
noncomputable def Lref23_Great_1 (q : Option Nat) (s : Sref23_Great_1) : Option ((Bool × Machine) ⊕ Machine) := limQ q (fun s => (Wref23_Great_1 s).run) s
theorem leLref23_Great_1 (k : Nat) (s : Sref23_Great_1) : Le (Lref23_Great_1 (some k) s) (Lref23_Great_1 none s) := limQ_le (fun _ => Le.rfl) s
structure Sref23_Great_2 where
  t5 : Int
  b0 : Machine
noncomputable def Wref23_Great_2 (s : Sref23_Great_2) : Tree (Sref23_Great_2 ⊕ (Bool ⊕ Unit)) :=
  .ite (decide (s.t5 < (s.b0.tape.records.length : Int)))
    (.ite (decide (0 ≤ s.t5))
      (.opt (List UInt8) (s.b0.tape.records[(s.t5).toNat]?) fun y9 =>
        .ite (decide ((600 : Int) < (y9.length : Int)))
          (.leaf (.inr (.inl true)))
          (.leaf (.inl (Sref23_Great_2.mk (IntKind.wrap .i64 (s.t5 + (1 : Int))) s.b0))))
      .fail)
    (.leaf (.inr (.inr ())))
noncomputable def Lref23_Great_2 (q : Option Nat) (s : Sref23_Great_2) : Option (Bool ⊕ Unit) := limQ q (fun s => (Wref23_Great_2 s).run) s
theorem leLref23_Great_2 (k : Nat) (s : Sref23_Great_2) : Le (Lref23_Great_2 (some k) s) (Lref23_Great_2 none s) := limQ_le (fun _ => Le.rfl) s
noncomputable def Tref23_Great (q : Option Nat) (x0 : Machine) : Tree Bool :=
  .ite (decide ((2048 : Int) < (x0.mem.length : Int)))
    (.leaf (true))
    (.ite (decide ((100 : Int) < (x0.bad.length : Int)))
      (.leaf (true))
      (.ite (decide ((10 : Int) < (x0.lines.length : Int)))
        (.leaf (true))
        (.ite (decide ((64 : Int) < (x0.disk.drive.sectors.length : Int)))
          (.leaf (true))
          (.ite (decide ((100 : Int) < (x0.disk.drive.bad.length : Int)))
            (.leaf (true))
            (.ite (decide ((10 : Int) < (x0.tape.records.length : Int)))
              (.leaf (true))
              (.opt ((Bool × Machine) ⊕ Machine) (Lref23_Great_0 q (Sref23_Great_0.mk (0 : Int) x0)) fun l2 =>
                .ite (l2.isLeft)
                  (.opt (Bool × Machine) (l2.getLeft?) fun a3 =>
                    .leaf (a3.1))
                  (.opt Machine (l2.getRight?) fun b4 =>
                    .opt ((Bool × Machine) ⊕ Machine) (Lref23_Great_1 q (Sref23_Great_1.mk (0 : Int) b4)) fun l6 =>
                      .ite (l6.isLeft)
                        (.opt (Bool × Machine) (l6.getLeft?) fun a7 =>
                          .leaf (a7.1))
                        (.opt Machine (l6.getRight?) fun b8 =>
                          .opt (Bool ⊕ Unit) (Lref23_Great_2 q (Sref23_Great_2.mk (0 : Int) b8)) fun l10 =>
                            .ite (l10.isLeft)
                              (.opt Bool (l10.getLeft?) fun a11 =>
                                .leaf (a11))
                              (.opt Unit (l10.getRight?) fun b12 =>
                                .leaf (false))))))))))
noncomputable def ref23_Great (q : Option Nat) (x0 : Machine) : Option Bool := (Tref23_Great q x0).run
theorem leref23_Great (k : Nat) (x0 : Machine) : Le (ref23_Great (some k) x0) (ref23_Great none x0) := (TLe.ite TLe.rfl (TLe.ite TLe.rfl (TLe.ite TLe.rfl (TLe.ite TLe.rfl (TLe.ite TLe.rfl (TLe.ite TLe.rfl (TLe.opt (leLref23_Great_0 k _) fun _ => (TLe.ite TLe.rfl (TLe.opt Le.rfl fun _ => (TLe.opt (leLref23_Great_1 k _) fun _ => (TLe.ite TLe.rfl (TLe.opt Le.rfl fun _ => (TLe.opt (leLref23_Great_2 k _) fun _ => TLe.rfl)))))))))))))
noncomputable def Aref23_Great : Arg U (Machine × Unit) := aA cMachine (aNil)
noncomputable def Rref23_Great (r : Bool) : List (V U) × List (Blk U) := ([vO cBool r], [])
noncomputable def Sref23_Great : List (V U) → List (Blk U) → Option (FnOut U) := mkSpec Aref23_Great bNil (fun x _ => ref23_Great none x.1) Rref23_Great
noncomputable def Pref23_Great_0 (x : (Unit) × (Int × Unit) × Unit) (g : (Machine × Unit) × Unit) : Sref23_Great_0 := Sref23_Great_0.mk x.2.1.1 g.1.1
noncomputable def tAref23_Great_0 : Tms U ((Unit) × (Int × Unit) × Unit) := tO 1 (cK (.ptr 0 0) (cUnit)) (tO 3 (cPair (cInt .i64) (cUnit)) (tNil))
noncomputable def tBref23_Great_0 : Bls U ((Machine × Unit) × Unit) := bC (cPair cMachine (cUnit)) (bNil)
noncomputable def eSref23_Great_0 (s : Sref23_Great_0) : St U := { tm := [(1, .v (vO (cK (.ptr 0 0) (cUnit)) (()))), (3, .v (vO (cPair (cInt .i64) (cUnit)) (s.t3, ())))], hp := [.cells ((cPair cMachine (cUnit) : Cdc U (Machine × Unit)).enc (s.b0, ())) none] }
noncomputable def xSref23_Great_0 : ((Bool × Machine) ⊕ Machine) → Ex × St U
  | .inl r => (.ret, { tm := [(1, .v (vO (cK (.ptr 0 0) (cUnit)) (()))), (2, .v (vO (cPair cBool (cUnit)) (r.1, ())))], hp := [.cells ((cPair cMachine (cUnit) : Cdc U (Machine × Unit)).enc (r.2, ())) none] })
  | .inr r => (.exit 0, { tm := [(1, .v (vO (cK (.ptr 0 0) (cUnit)) (())))], hp := [.cells ((cPair cMachine (cUnit) : Cdc U (Machine × Unit)).enc (r, ())) none] })
noncomputable def xTref23_Great_0 (y : ((Bool × Machine) ⊕ Machine)) : Tree (Ex × St U) := .ite y.isLeft (.opt (Bool × Machine) y.getLeft? fun r => .leaf (.ret, { tm := [(1, .v (vO (cK (.ptr 0 0) (cUnit)) (()))), (2, .v (vO (cPair cBool (cUnit)) (r.1, ())))], hp := [.cells ((cPair cMachine (cUnit) : Cdc U (Machine × Unit)).enc (r.2, ())) none] })) (.opt Machine y.getRight? fun r => .leaf (.exit 0, { tm := [(1, .v (vO (cK (.ptr 0 0) (cUnit)) (())))], hp := [.cells ((cPair cMachine (cUnit) : Cdc U (Machine × Unit)).enc (r, ())) none] }))
noncomputable def href23_Great_0 : Hd := { keep := [1, 3], xkeep := [1, 2], own := false }
noncomputable def Pref23_Great_1 (x : (Unit) × (Int × Unit) × Unit) (g : (Machine × Unit) × Unit) : Sref23_Great_1 := Sref23_Great_1.mk x.2.1.1 g.1.1
noncomputable def tAref23_Great_1 : Tms U ((Unit) × (Int × Unit) × Unit) := tO 1 (cK (.ptr 0 0) (cUnit)) (tO 4 (cPair (cInt .i64) (cUnit)) (tNil))
noncomputable def tBref23_Great_1 : Bls U ((Machine × Unit) × Unit) := bC (cPair cMachine (cUnit)) (bNil)
noncomputable def eSref23_Great_1 (s : Sref23_Great_1) : St U := { tm := [(1, .v (vO (cK (.ptr 0 0) (cUnit)) (()))), (4, .v (vO (cPair (cInt .i64) (cUnit)) (s.t4, ())))], hp := [.cells ((cPair cMachine (cUnit) : Cdc U (Machine × Unit)).enc (s.b0, ())) none] }
noncomputable def xSref23_Great_1 : ((Bool × Machine) ⊕ Machine) → Ex × St U
  | .inl r => (.ret, { tm := [(1, .v (vO (cK (.ptr 0 0) (cUnit)) (()))), (2, .v (vO (cPair cBool (cUnit)) (r.1, ())))], hp := [.cells ((cPair cMachine (cUnit) : Cdc U (Machine × Unit)).enc (r.2, ())) none] })
  | .inr r => (.exit 2, { tm := [(1, .v (vO (cK (.ptr 0 0) (cUnit)) (())))], hp := [.cells ((cPair cMachine (cUnit) : Cdc U (Machine × Unit)).enc (r, ())) none] })
noncomputable def xTref23_Great_1 (y : ((Bool × Machine) ⊕ Machine)) : Tree (Ex × St U) := .ite y.isLeft (.opt (Bool × Machine) y.getLeft? fun r => .leaf (.ret, { tm := [(1, .v (vO (cK (.ptr 0 0) (cUnit)) (()))), (2, .v (vO (cPair cBool (cUnit)) (r.1, ())))], hp := [.cells ((cPair cMachine (cUnit) : Cdc U (Machine × Unit)).enc (r.2, ())) none] })) (.opt Machine y.getRight? fun r => .leaf (.exit 2, { tm := [(1, .v (vO (cK (.ptr 0 0) (cUnit)) (())))], hp := [.cells ((cPair cMachine (cUnit) : Cdc U (Machine × Unit)).enc (r, ())) none] }))
noncomputable def href23_Great_1 : Hd := { keep := [1, 4], xkeep := [1, 2], own := false }
noncomputable def Pref23_Great_2 (x : (Unit) × (Int × Unit) × Unit) (g : (Machine × Unit) × Unit) : Sref23_Great_2 := Sref23_Great_2.mk x.2.1.1 g.1.1
noncomputable def tAref23_Great_2 : Tms U ((Unit) × (Int × Unit) × Unit) := tO 1 (cK (.ptr 0 0) (cUnit)) (tO 5 (cPair (cInt .i64) (cUnit)) (tNil))
noncomputable def tBref23_Great_2 : Bls U ((Machine × Unit) × Unit) := bC (cPair cMachine (cUnit)) (bNil)
noncomputable def eSref23_Great_2 (s : Sref23_Great_2) : St U := { tm := [(1, .v (vO (cK (.ptr 0 0) (cUnit)) (()))), (5, .v (vO (cPair (cInt .i64) (cUnit)) (s.t5, ())))], hp := [.cells ((cPair cMachine (cUnit) : Cdc U (Machine × Unit)).enc (s.b0, ())) none] }
noncomputable def xSref23_Great_2 : (Bool ⊕ Unit) → Ex × St U
  | .inl r => (.ret, { tm := [(2, .v (vO (cPair cBool (cUnit)) (r, ())))], hp := [] })
  | .inr r => (.exit 4, { tm := [], hp := [] })
noncomputable def xTref23_Great_2 (y : (Bool ⊕ Unit)) : Tree (Ex × St U) := .ite y.isLeft (.opt Bool y.getLeft? fun r => .leaf (.ret, { tm := [(2, .v (vO (cPair cBool (cUnit)) (r, ())))], hp := [] })) (.opt Unit y.getRight? fun r => .leaf (.exit 4, { tm := [], hp := [] }))
noncomputable def href23_Great_2 : Hd := { keep := [1, 5], xkeep := [2], own := false }
noncomputable def Eref23_Great : Env U := { P := Tryd.prog, cd := cd, fns := noF, lps := (addL 0 href23_Great_0 (mkLoop tAref23_Great_0 tBref23_Great_0 Pref23_Great_0 (Lref23_Great_0 none) xTref23_Great_0) (addL 1 href23_Great_1 (mkLoop tAref23_Great_1 tBref23_Great_1 Pref23_Great_1 (Lref23_Great_1 none) xTref23_Great_1) (addL 2 href23_Great_2 (mkLoop tAref23_Great_2 tBref23_Great_2 Pref23_Great_2 (Lref23_Great_2 none) xTref23_Great_2) noL))), frz := fun _r => false, nt := 94, n0 := 0 }
noncomputable def Bref23_Great_0 : Code := (loopAt (Tryd.f4.body.getD .skip) 0 0).getD .skip
theorem roundref23_Great_0 (s : Sref23_Great_0) : round Eref23_Great href23_Great_0 Bref23_Great_0 0 (eSref23_Great_0 s) = (Wref23_Great_0 s).map (sumE eSref23_Great_0 xSref23_Great_0) := by kernel_rfl
theorem lpref23_Great_0 : LpOk Eref23_Great Bref23_Great_0 0 := mkLoop_ok (A := tAref23_Great_0) (B := tBref23_Great_0) (f := Pref23_Great_0) (L := Lref23_Great_0 none) (tO_ok (cK_ok cUnit_ok) (tO_ok (cPair_ok (cInt_ok .i64) cUnit_ok) tNil_ok)) (bC_ok (cPair_ok cMachine_ok cUnit_ok) bNil_ok) (enc := eSref23_Great_0) (out := xTref23_Great_0) (outS := xSref23_Great_0) (step := Wref23_Great_0) (fun _ => rfl) (fun _ _ => by kernel_rfl) (by kernel_rfl) (fun b => by cases b <;> rfl) roundref23_Great_0
noncomputable def Bref23_Great_1 : Code := (loopAt (Tryd.f4.body.getD .skip) 0 1).getD .skip
theorem roundref23_Great_1 (s : Sref23_Great_1) : round Eref23_Great href23_Great_1 Bref23_Great_1 1 (eSref23_Great_1 s) = (Wref23_Great_1 s).map (sumE eSref23_Great_1 xSref23_Great_1) := by kernel_rfl
theorem lpref23_Great_1 : LpOk Eref23_Great Bref23_Great_1 1 := mkLoop_ok (A := tAref23_Great_1) (B := tBref23_Great_1) (f := Pref23_Great_1) (L := Lref23_Great_1 none) (tO_ok (cK_ok cUnit_ok) (tO_ok (cPair_ok (cInt_ok .i64) cUnit_ok) tNil_ok)) (bC_ok (cPair_ok cMachine_ok cUnit_ok) bNil_ok) (enc := eSref23_Great_1) (out := xTref23_Great_1) (outS := xSref23_Great_1) (step := Wref23_Great_1) (fun _ => rfl) (fun _ _ => by kernel_rfl) (by kernel_rfl) (fun b => by cases b <;> rfl) roundref23_Great_1
noncomputable def Bref23_Great_2 : Code := (loopAt (Tryd.f4.body.getD .skip) 0 2).getD .skip
theorem roundref23_Great_2 (s : Sref23_Great_2) : round Eref23_Great href23_Great_2 Bref23_Great_2 2 (eSref23_Great_2 s) = (Wref23_Great_2 s).map (sumE eSref23_Great_2 xSref23_Great_2) := by kernel_rfl
theorem lpref23_Great_2 : LpOk Eref23_Great Bref23_Great_2 2 := mkLoop_ok (A := tAref23_Great_2) (B := tBref23_Great_2) (f := Pref23_Great_2) (L := Lref23_Great_2 none) (tO_ok (cK_ok cUnit_ok) (tO_ok (cPair_ok (cInt_ok .i64) cUnit_ok) tNil_ok)) (bC_ok (cPair_ok cMachine_ok cUnit_ok) bNil_ok) (enc := eSref23_Great_2) (out := xTref23_Great_2) (outS := xSref23_Great_2) (step := Wref23_Great_2) (fun _ => rfl) (fun _ _ => by kernel_rfl) (by kernel_rfl) (fun b => by cases b <;> rfl) roundref23_Great_2
theorem runref23_Great (x : Machine × Unit) (g : Unit) : execF Eref23_Great Tryd.f4 (Aref23_Great.enc x) (bNil.enc g) = (Tref23_Great none x.1).map Rref23_Great := by kernel_rfl
theorem okref23_Great : FnOk Tryd.prog cd 4 Sref23_Great := mk_ok (E := Eref23_Great) cd_ok noF_ok Tryd.func4 (by kernel_rfl) (loops_of (addL_ok lpref23_Great_0 (addL_ok lpref23_Great_1 (addL_ok lpref23_Great_2 noL_ok)))) (aA_ok cMachine_ok (aNil_ok)) bNil_ok (T := fun x _ => Tref23_Great none x.1) (fun _ _ => rfl) runref23_Great
noncomputable def fns4 := addF 4 true Sref23_Great noF
theorem fns4_ok : ∀ f q t, fns4 f = some (q, t) → FnOk Tryd.prog cd f t := addF_ok okref23_Great noF_ok
/-- slices.Equal[[]int,int] -/
structure Sslices_Equal_int_int_0 where
  t0 : (List Int)
  t1 : (List Int)
  t12 : Int
  t13 : Int
noncomputable def Wslices_Equal_int_int_0 (s : Sslices_Equal_int_int_0) : Tree (Sslices_Equal_int_int_0 ⊕ (Bool ⊕ Unit)) :=
  .ite (decide (s.t13 < s.t12))
    (.ite (decide (0 ≤ s.t13))
      (.opt Int (s.t0[(s.t13).toNat]?) fun y13 =>
        .ite (decide (0 ≤ s.t13))
          (.opt Int (s.t1[(s.t13).toNat]?) fun y14 =>
            .ite (!decide (y13 = y14))
              (.leaf (.inr (.inl false)))
              (.leaf (.inl (Sslices_Equal_int_int_0.mk s.t0 s.t1 s.t12 (IntKind.wrap .i64 (s.t13 + (1 : Int)))))))
          .fail)
      .fail)
    (.leaf (.inr (.inr ())))
noncomputable def Lslices_Equal_int_int_0 (q : Option Nat) (s : Sslices_Equal_int_int_0) : Option (Bool ⊕ Unit) := limQ q (fun s => (Wslices_Equal_int_int_0 s).run) s
theorem leLslices_Equal_int_int_0 (k : Nat) (s : Sslices_Equal_int_int_0) : Le (Lslices_Equal_int_int_0 (some k) s) (Lslices_Equal_int_int_0 none s) := limQ_le (fun _ => Le.rfl) s
noncomputable def Tslices_Equal_int_int (q : Option Nat) (x0 : (List Int)) (x1 : (List Int)) : Tree Bool :=
  .ite (!decide ((x0.length : Int) = (x1.length : Int)))
    (.leaf (false))
    (.opt (Bool ⊕ Unit) (Lslices_Equal_int_int_0 q (Sslices_Equal_int_int_0.mk x0 x1 (x0.length : Int) (0 : Int))) fun l15 =>
      .ite (l15.isLeft)
        (.opt Bool (l15.getLeft?) fun a16 =>
          .leaf (a16))
        (.opt Unit (l15.getRight?) fun b17 =>
          .leaf (true)))
noncomputable def slices_Equal_int_int (q : Option Nat) (x0 : (List Int)) (x1 : (List Int)) : Option Bool := (Tslices_Equal_int_int q x0 x1).run
theorem leslices_Equal_int_int (k : Nat) (x0 : (List Int)) (x1 : (List Int)) : Le (slices_Equal_int_int (some k) x0 x1) (slices_Equal_int_int none x0 x1) := (TLe.ite TLe.rfl (TLe.opt (leLslices_Equal_int_int_0 k _) fun _ => TLe.rfl))
noncomputable def Aslices_Equal_int_int : Arg U ((List Int) × (List Int) × Unit) := aO (cSl 3) (aO (cSl 3) (aNil))
noncomputable def Rslices_Equal_int_int (r : Bool) : List (V U) × List (Blk U) := ([vO cBool r], [])
noncomputable def Sslices_Equal_int_int : List (V U) → List (Blk U) → Option (FnOut U) := mkSpec Aslices_Equal_int_int bNil (fun x _ => slices_Equal_int_int none x.1 x.2.1) Rslices_Equal_int_int
noncomputable def Pslices_Equal_int_int_0 (x : ((List Int) × Unit) × ((List Int) × Unit) × (Int × Unit) × (Int × Unit) × Unit) (_g : Unit) : Sslices_Equal_int_int_0 := Sslices_Equal_int_int_0.mk x.1.1 x.2.1.1 x.2.2.1.1 x.2.2.2.1.1
noncomputable def tAslices_Equal_int_int_0 : Tms U (((List Int) × Unit) × ((List Int) × Unit) × (Int × Unit) × (Int × Unit) × Unit) := tO 0 (cPair (cSl 3) (cUnit)) (tO 1 (cPair (cSl 3) (cUnit)) (tO 12 (cPair (cInt .i64) (cUnit)) (tO 13 (cPair (cInt .i64) (cUnit)) (tNil))))
noncomputable def tBslices_Equal_int_int_0 : Bls U (Unit) := bNil
noncomputable def eSslices_Equal_int_int_0 (s : Sslices_Equal_int_int_0) : St U := { tm := [(0, .v (vO (cPair (cSl 3) (cUnit)) (s.t0, ()))), (1, .v (vO (cPair (cSl 3) (cUnit)) (s.t1, ()))), (12, .v (vO (cPair (cInt .i64) (cUnit)) (s.t12, ()))), (13, .v (vO (cPair (cInt .i64) (cUnit)) (s.t13, ())))], hp := [] }
noncomputable def xSslices_Equal_int_int_0 : (Bool ⊕ Unit) → Ex × St U
  | .inl r => (.ret, { tm := [(4, .v (vO (cPair cBool (cUnit)) (r, ())))], hp := [] })
  | .inr r => (.exit 0, { tm := [], hp := [] })
noncomputable def xTslices_Equal_int_int_0 (y : (Bool ⊕ Unit)) : Tree (Ex × St U) := .ite y.isLeft (.opt Bool y.getLeft? fun r => .leaf (.ret, { tm := [(4, .v (vO (cPair cBool (cUnit)) (r, ())))], hp := [] })) (.opt Unit y.getRight? fun r => .leaf (.exit 0, { tm := [], hp := [] }))
noncomputable def hslices_Equal_int_int_0 : Hd := { keep := [0, 1, 12, 13], xkeep := [4], own := false }
noncomputable def Eslices_Equal_int_int : Env U := { P := Tryd.prog, cd := cd, fns := fns4, lps := (addL 0 hslices_Equal_int_int_0 (mkLoop tAslices_Equal_int_int_0 tBslices_Equal_int_int_0 Pslices_Equal_int_int_0 (Lslices_Equal_int_int_0 none) xTslices_Equal_int_int_0) noL), frz := fun _r => false, nt := 26, n0 := 0 }
noncomputable def Bslices_Equal_int_int_0 : Code := (loopAt (Tryd.f11.body.getD .skip) 0 0).getD .skip
theorem roundslices_Equal_int_int_0 (s : Sslices_Equal_int_int_0) : round Eslices_Equal_int_int hslices_Equal_int_int_0 Bslices_Equal_int_int_0 0 (eSslices_Equal_int_int_0 s) = (Wslices_Equal_int_int_0 s).map (sumE eSslices_Equal_int_int_0 xSslices_Equal_int_int_0) := by kernel_rfl
theorem lpslices_Equal_int_int_0 : LpOk Eslices_Equal_int_int Bslices_Equal_int_int_0 0 := mkLoop_ok (A := tAslices_Equal_int_int_0) (B := tBslices_Equal_int_int_0) (f := Pslices_Equal_int_int_0) (L := Lslices_Equal_int_int_0 none) (tO_ok (cPair_ok (cSl_ok 3) cUnit_ok) (tO_ok (cPair_ok (cSl_ok 3) cUnit_ok) (tO_ok (cPair_ok (cInt_ok .i64) cUnit_ok) (tO_ok (cPair_ok (cInt_ok .i64) cUnit_ok) tNil_ok)))) bNil_ok (enc := eSslices_Equal_int_int_0) (out := xTslices_Equal_int_int_0) (outS := xSslices_Equal_int_int_0) (step := Wslices_Equal_int_int_0) (fun _ => rfl) (fun _ _ => by kernel_rfl) (by kernel_rfl) (fun b => by cases b <;> rfl) roundslices_Equal_int_int_0
theorem runslices_Equal_int_int (x : (List Int) × (List Int) × Unit) (g : Unit) : execF Eslices_Equal_int_int Tryd.f11 (Aslices_Equal_int_int.enc x) (bNil.enc g) = (Tslices_Equal_int_int none x.1 x.2.1).map Rslices_Equal_int_int := by kernel_rfl
theorem okslices_Equal_int_int : FnOk Tryd.prog cd 11 Sslices_Equal_int_int := mk_ok (E := Eslices_Equal_int_int) cd_ok fns4_ok Tryd.func11 (by kernel_rfl) (loops_of (addL_ok lpslices_Equal_int_int_0 noL_ok)) (aO_ok (cSl_ok 3) (aO_ok (cSl_ok 3) (aNil_ok))) bNil_ok (T := fun x _ => Tslices_Equal_int_int none x.1 x.2.1) (fun _ _ => rfl) runslices_Equal_int_int
noncomputable def fns11 := addF 11 true Sslices_Equal_int_int fns4
theorem fns11_ok : ∀ f q t, fns11 f = some (q, t) → FnOk Tryd.prog cd f t := addF_ok okslices_Equal_int_int fns4_ok
/-- slices.Equal[[]emulator/api.Line,emulator/api.Line] -/
structure Sslices_Equal_api_Line_api_Line_0 where
  t0 : (List Line)
  t1 : (List Line)
  t12 : Int
  t13 : Int
noncomputable def Wslices_Equal_api_Line_api_Line_0 (s : Sslices_Equal_api_Line_api_Line_0) : Tree (Sslices_Equal_api_Line_api_Line_0 ⊕ (Bool ⊕ Unit)) :=
  .ite (decide (s.t13 < s.t12))
    (.ite (decide (0 ≤ s.t13))
      (.opt Line (s.t0[(s.t13).toNat]?) fun y18 =>
        .ite (decide (0 ≤ s.t13))
          (.opt Line (s.t1[(s.t13).toNat]?) fun y19 =>
            .ite (!((y18.rxEnable == y19.rxEnable) && ((y18.rxReady == y19.rxReady) && ((y18.overrun == y19.overrun) && ((decide (y18.rxData = y19.rxData)) && ((y18.txEnable == y19.txEnable) && ((y18.txReady == y19.txReady) && ((decide (y18.txData = y19.txData)) && ((decide (y18.txLeft = y19.txLeft)) && (decide (y18.out = y19.out)))))))))))
              (.leaf (.inr (.inl false)))
              (.leaf (.inl (Sslices_Equal_api_Line_api_Line_0.mk s.t0 s.t1 s.t12 (IntKind.wrap .i64 (s.t13 + (1 : Int)))))))
          .fail)
      .fail)
    (.leaf (.inr (.inr ())))
noncomputable def Lslices_Equal_api_Line_api_Line_0 (q : Option Nat) (s : Sslices_Equal_api_Line_api_Line_0) : Option (Bool ⊕ Unit) := limQ q (fun s => (Wslices_Equal_api_Line_api_Line_0 s).run) s
theorem leLslices_Equal_api_Line_api_Line_0 (k : Nat) (s : Sslices_Equal_api_Line_api_Line_0) : Le (Lslices_Equal_api_Line_api_Line_0 (some k) s) (Lslices_Equal_api_Line_api_Line_0 none s) := limQ_le (fun _ => Le.rfl) s
noncomputable def Tslices_Equal_api_Line_api_Line (q : Option Nat) (x0 : (List Line)) (x1 : (List Line)) : Tree Bool :=
  .ite (!decide ((x0.length : Int) = (x1.length : Int)))
    (.leaf (false))
    (.opt (Bool ⊕ Unit) (Lslices_Equal_api_Line_api_Line_0 q (Sslices_Equal_api_Line_api_Line_0.mk x0 x1 (x0.length : Int) (0 : Int))) fun l20 =>
      .ite (l20.isLeft)
        (.opt Bool (l20.getLeft?) fun a21 =>
          .leaf (a21))
        (.opt Unit (l20.getRight?) fun b22 =>
          .leaf (true)))
noncomputable def slices_Equal_api_Line_api_Line (q : Option Nat) (x0 : (List Line)) (x1 : (List Line)) : Option Bool := (Tslices_Equal_api_Line_api_Line q x0 x1).run
theorem leslices_Equal_api_Line_api_Line (k : Nat) (x0 : (List Line)) (x1 : (List Line)) : Le (slices_Equal_api_Line_api_Line (some k) x0 x1) (slices_Equal_api_Line_api_Line none x0 x1) := (TLe.ite TLe.rfl (TLe.opt (leLslices_Equal_api_Line_api_Line_0 k _) fun _ => TLe.rfl))
noncomputable def Aslices_Equal_api_Line_api_Line : Arg U ((List Line) × (List Line) × Unit) := aO (cSl 51) (aO (cSl 51) (aNil))
noncomputable def Rslices_Equal_api_Line_api_Line (r : Bool) : List (V U) × List (Blk U) := ([vO cBool r], [])
noncomputable def Sslices_Equal_api_Line_api_Line : List (V U) → List (Blk U) → Option (FnOut U) := mkSpec Aslices_Equal_api_Line_api_Line bNil (fun x _ => slices_Equal_api_Line_api_Line none x.1 x.2.1) Rslices_Equal_api_Line_api_Line
noncomputable def Pslices_Equal_api_Line_api_Line_0 (x : ((List Line) × Unit) × ((List Line) × Unit) × (Int × Unit) × (Int × Unit) × Unit) (_g : Unit) : Sslices_Equal_api_Line_api_Line_0 := Sslices_Equal_api_Line_api_Line_0.mk x.1.1 x.2.1.1 x.2.2.1.1 x.2.2.2.1.1
noncomputable def tAslices_Equal_api_Line_api_Line_0 : Tms U (((List Line) × Unit) × ((List Line) × Unit) × (Int × Unit) × (Int × Unit) × Unit) := tO 0 (cPair (cSl 51) (cUnit)) (tO 1 (cPair (cSl 51) (cUnit)) (tO 12 (cPair (cInt .i64) (cUnit)) (tO 13 (cPair (cInt .i64) (cUnit)) (tNil))))
noncomputable def tBslices_Equal_api_Line_api_Line_0 : Bls U (Unit) := bNil
noncomputable def eSslices_Equal_api_Line_api_Line_0 (s : Sslices_Equal_api_Line_api_Line_0) : St U := { tm := [(0, .v (vO (cPair (cSl 51) (cUnit)) (s.t0, ()))), (1, .v (vO (cPair (cSl 51) (cUnit)) (s.t1, ()))), (12, .v (vO (cPair (cInt .i64) (cUnit)) (s.t12, ()))), (13, .v (vO (cPair (cInt .i64) (cUnit)) (s.t13, ())))], hp := [] }
noncomputable def xSslices_Equal_api_Line_api_Line_0 : (Bool ⊕ Unit) → Ex × St U
  | .inl r => (.ret, { tm := [(4, .v (vO (cPair cBool (cUnit)) (r, ())))], hp := [] })
  | .inr r => (.exit 0, { tm := [], hp := [] })
noncomputable def xTslices_Equal_api_Line_api_Line_0 (y : (Bool ⊕ Unit)) : Tree (Ex × St U) := .ite y.isLeft (.opt Bool y.getLeft? fun r => .leaf (.ret, { tm := [(4, .v (vO (cPair cBool (cUnit)) (r, ())))], hp := [] })) (.opt Unit y.getRight? fun r => .leaf (.exit 0, { tm := [], hp := [] }))
noncomputable def hslices_Equal_api_Line_api_Line_0 : Hd := { keep := [0, 1, 12, 13], xkeep := [4], own := false }
noncomputable def Eslices_Equal_api_Line_api_Line : Env U := { P := Tryd.prog, cd := cd, fns := fns11, lps := (addL 0 hslices_Equal_api_Line_api_Line_0 (mkLoop tAslices_Equal_api_Line_api_Line_0 tBslices_Equal_api_Line_api_Line_0 Pslices_Equal_api_Line_api_Line_0 (Lslices_Equal_api_Line_api_Line_0 none) xTslices_Equal_api_Line_api_Line_0) noL), frz := fun _r => false, nt := 26, n0 := 0 }
noncomputable def Bslices_Equal_api_Line_api_Line_0 : Code := (loopAt (Tryd.f12.body.getD .skip) 0 0).getD .skip
theorem roundslices_Equal_api_Line_api_Line_0 (s : Sslices_Equal_api_Line_api_Line_0) : round Eslices_Equal_api_Line_api_Line hslices_Equal_api_Line_api_Line_0 Bslices_Equal_api_Line_api_Line_0 0 (eSslices_Equal_api_Line_api_Line_0 s) = (Wslices_Equal_api_Line_api_Line_0 s).map (sumE eSslices_Equal_api_Line_api_Line_0 xSslices_Equal_api_Line_api_Line_0) := by kernel_rfl
theorem lpslices_Equal_api_Line_api_Line_0 : LpOk Eslices_Equal_api_Line_api_Line Bslices_Equal_api_Line_api_Line_0 0 := mkLoop_ok (A := tAslices_Equal_api_Line_api_Line_0) (B := tBslices_Equal_api_Line_api_Line_0) (f := Pslices_Equal_api_Line_api_Line_0) (L := Lslices_Equal_api_Line_api_Line_0 none) (tO_ok (cPair_ok (cSl_ok 51) cUnit_ok) (tO_ok (cPair_ok (cSl_ok 51) cUnit_ok) (tO_ok (cPair_ok (cInt_ok .i64) cUnit_ok) (tO_ok (cPair_ok (cInt_ok .i64) cUnit_ok) tNil_ok)))) bNil_ok (enc := eSslices_Equal_api_Line_api_Line_0) (out := xTslices_Equal_api_Line_api_Line_0) (outS := xSslices_Equal_api_Line_api_Line_0) (step := Wslices_Equal_api_Line_api_Line_0) (fun _ => rfl) (fun _ _ => by kernel_rfl) (by kernel_rfl) (fun b => by cases b <;> rfl) roundslices_Equal_api_Line_api_Line_0
theorem runslices_Equal_api_Line_api_Line (x : (List Line) × (List Line) × Unit) (g : Unit) : execF Eslices_Equal_api_Line_api_Line Tryd.f12 (Aslices_Equal_api_Line_api_Line.enc x) (bNil.enc g) = (Tslices_Equal_api_Line_api_Line none x.1 x.2.1).map Rslices_Equal_api_Line_api_Line := by kernel_rfl
theorem okslices_Equal_api_Line_api_Line : FnOk Tryd.prog cd 12 Sslices_Equal_api_Line_api_Line := mk_ok (E := Eslices_Equal_api_Line_api_Line) cd_ok fns11_ok Tryd.func12 (by kernel_rfl) (loops_of (addL_ok lpslices_Equal_api_Line_api_Line_0 noL_ok)) (aO_ok (cSl_ok 51) (aO_ok (cSl_ok 51) (aNil_ok))) bNil_ok (T := fun x _ => Tslices_Equal_api_Line_api_Line none x.1 x.2.1) (fun _ _ => rfl) runslices_Equal_api_Line_api_Line
noncomputable def fns12 := addF 12 true Sslices_Equal_api_Line_api_Line fns11
theorem fns12_ok : ∀ f q t, fns12 f = some (q, t) → FnOk Tryd.prog cd f t := addF_ok okslices_Equal_api_Line_api_Line fns11_ok
/-- slices.Equal[[]string,string] -/
structure Sslices_Equal_string_string_0 where
  t0 : (List (List UInt8))
  t1 : (List (List UInt8))
  t12 : Int
  t13 : Int
noncomputable def Wslices_Equal_string_string_0 (s : Sslices_Equal_string_string_0) : Tree (Sslices_Equal_string_string_0 ⊕ (Bool ⊕ Unit)) :=
  .ite (decide (s.t13 < s.t12))
    (.ite (decide (0 ≤ s.t13))
      (.opt (List UInt8) (s.t0[(s.t13).toNat]?) fun y23 =>
        .ite (decide (0 ≤ s.t13))
          (.opt (List UInt8) (s.t1[(s.t13).toNat]?) fun y24 =>
            .ite (!decide (y23 = y24))
              (.leaf (.inr (.inl false)))
              (.leaf (.inl (Sslices_Equal_string_string_0.mk s.t0 s.t1 s.t12 (IntKind.wrap .i64 (s.t13 + (1 : Int)))))))
          .fail)
      .fail)
    (.leaf (.inr (.inr ())))
noncomputable def Lslices_Equal_string_string_0 (q : Option Nat) (s : Sslices_Equal_string_string_0) : Option (Bool ⊕ Unit) := limQ q (fun s => (Wslices_Equal_string_string_0 s).run) s
theorem leLslices_Equal_string_string_0 (k : Nat) (s : Sslices_Equal_string_string_0) : Le (Lslices_Equal_string_string_0 (some k) s) (Lslices_Equal_string_string_0 none s) := limQ_le (fun _ => Le.rfl) s
noncomputable def Tslices_Equal_string_string (q : Option Nat) (x0 : (List (List UInt8))) (x1 : (List (List UInt8))) : Tree Bool :=
  .ite (!decide ((x0.length : Int) = (x1.length : Int)))
    (.leaf (false))
    (.opt (Bool ⊕ Unit) (Lslices_Equal_string_string_0 q (Sslices_Equal_string_string_0.mk x0 x1 (x0.length : Int) (0 : Int))) fun l25 =>
      .ite (l25.isLeft)
        (.opt Bool (l25.getLeft?) fun a26 =>
          .leaf (a26))
        (.opt Unit (l25.getRight?) fun b27 =>
          .leaf (true)))
noncomputable def slices_Equal_string_string (q : Option Nat) (x0 : (List (List UInt8))) (x1 : (List (List UInt8))) : Option Bool := (Tslices_Equal_string_string q x0 x1).run
theorem leslices_Equal_string_string (k : Nat) (x0 : (List (List UInt8))) (x1 : (List (List UInt8))) : Le (slices_Equal_string_string (some k) x0 x1) (slices_Equal_string_string none x0 x1) := (TLe.ite TLe.rfl (TLe.opt (leLslices_Equal_string_string_0 k _) fun _ => TLe.rfl))
noncomputable def Aslices_Equal_string_string : Arg U ((List (List UInt8)) × (List (List UInt8)) × Unit) := aO (cSl 9) (aO (cSl 9) (aNil))
noncomputable def Rslices_Equal_string_string (r : Bool) : List (V U) × List (Blk U) := ([vO cBool r], [])
noncomputable def Sslices_Equal_string_string : List (V U) → List (Blk U) → Option (FnOut U) := mkSpec Aslices_Equal_string_string bNil (fun x _ => slices_Equal_string_string none x.1 x.2.1) Rslices_Equal_string_string
noncomputable def Pslices_Equal_string_string_0 (x : ((List (List UInt8)) × Unit) × ((List (List UInt8)) × Unit) × (Int × Unit) × (Int × Unit) × Unit) (_g : Unit) : Sslices_Equal_string_string_0 := Sslices_Equal_string_string_0.mk x.1.1 x.2.1.1 x.2.2.1.1 x.2.2.2.1.1
noncomputable def tAslices_Equal_string_string_0 : Tms U (((List (List UInt8)) × Unit) × ((List (List UInt8)) × Unit) × (Int × Unit) × (Int × Unit) × Unit) := tO 0 (cPair (cSl 9) (cUnit)) (tO 1 (cPair (cSl 9) (cUnit)) (tO 12 (cPair (cInt .i64) (cUnit)) (tO 13 (cPair (cInt .i64) (cUnit)) (tNil))))
noncomputable def tBslices_Equal_string_string_0 : Bls U (Unit) := bNil
noncomputable def eSslices_Equal_string_string_0 (s : Sslices_Equal_string_string_0) : St U := { tm := [(0, .v (vO (cPair (cSl 9) (cUnit)) (s.t0, ()))), (1, .v (vO (cPair (cSl 9) (cUnit)) (s.t1, ()))), (12, .v (vO (cPair (cInt .i64) (cUnit)) (s.t12, ()))), (13, .v (vO (cPair (cInt .i64) (cUnit)) (s.t13, ())))], hp := [] }
noncomputable def xSslices_Equal_string_string_0 : (Bool ⊕ Unit) → Ex × St U
  | .inl r => (.ret, { tm := [(4, .v (vO (cPair cBool (cUnit)) (r, ())))], hp := [] })
  | .inr r => (.exit 0, { tm := [], hp := [] })
noncomputable def xTslices_Equal_string_string_0 (y : (Bool ⊕ Unit)) : Tree (Ex × St U) := .ite y.isLeft (.opt Bool y.getLeft? fun r => .leaf (.ret, { tm := [(4, .v (vO (cPair cBool (cUnit)) (r, ())))], hp := [] })) (.opt Unit y.getRight? fun r => .leaf (.exit 0, { tm := [], hp := [] }))
noncomputable def hslices_Equal_string_string_0 : Hd := { keep := [0, 1, 12, 13], xkeep := [4], own := false }
noncomputable def Eslices_Equal_string_string : Env U := { P := Tryd.prog, cd := cd, fns := fns12, lps := (addL 0 hslices_Equal_string_string_0 (mkLoop tAslices_Equal_string_string_0 tBslices_Equal_string_string_0 Pslices_Equal_string_string_0 (Lslices_Equal_string_string_0 none) xTslices_Equal_string_string_0) noL), frz := fun _r => false, nt := 26, n0 := 0 }
noncomputable def Bslices_Equal_string_string_0 : Code := (loopAt (Tryd.f22.body.getD .skip) 0 0).getD .skip
theorem roundslices_Equal_string_string_0 (s : Sslices_Equal_string_string_0) : round Eslices_Equal_string_string hslices_Equal_string_string_0 Bslices_Equal_string_string_0 0 (eSslices_Equal_string_string_0 s) = (Wslices_Equal_string_string_0 s).map (sumE eSslices_Equal_string_string_0 xSslices_Equal_string_string_0) := by kernel_rfl
theorem lpslices_Equal_string_string_0 : LpOk Eslices_Equal_string_string Bslices_Equal_string_string_0 0 := mkLoop_ok (A := tAslices_Equal_string_string_0) (B := tBslices_Equal_string_string_0) (f := Pslices_Equal_string_string_0) (L := Lslices_Equal_string_string_0 none) (tO_ok (cPair_ok (cSl_ok 9) cUnit_ok) (tO_ok (cPair_ok (cSl_ok 9) cUnit_ok) (tO_ok (cPair_ok (cInt_ok .i64) cUnit_ok) (tO_ok (cPair_ok (cInt_ok .i64) cUnit_ok) tNil_ok)))) bNil_ok (enc := eSslices_Equal_string_string_0) (out := xTslices_Equal_string_string_0) (outS := xSslices_Equal_string_string_0) (step := Wslices_Equal_string_string_0) (fun _ => rfl) (fun _ _ => by kernel_rfl) (by kernel_rfl) (fun b => by cases b <;> rfl) roundslices_Equal_string_string_0
theorem runslices_Equal_string_string (x : (List (List UInt8)) × (List (List UInt8)) × Unit) (g : Unit) : execF Eslices_Equal_string_string Tryd.f22 (Aslices_Equal_string_string.enc x) (bNil.enc g) = (Tslices_Equal_string_string none x.1 x.2.1).map Rslices_Equal_string_string := by kernel_rfl
theorem okslices_Equal_string_string : FnOk Tryd.prog cd 22 Sslices_Equal_string_string := mk_ok (E := Eslices_Equal_string_string) cd_ok fns12_ok Tryd.func22 (by kernel_rfl) (loops_of (addL_ok lpslices_Equal_string_string_0 noL_ok)) (aO_ok (cSl_ok 9) (aO_ok (cSl_ok 9) (aNil_ok))) bNil_ok (T := fun x _ => Tslices_Equal_string_string none x.1 x.2.1) (fun _ _ => rfl) runslices_Equal_string_string
noncomputable def fns22 := addF 22 true Sslices_Equal_string_string fns12
theorem fns22_ok : ∀ f q t, fns22 f = some (q, t) → FnOk Tryd.prog cd f t := addF_ok okslices_Equal_string_string fns12_ok
/-- emulator/save.sameDisk -/
noncomputable def Tsave_sameDisk (q : Option Nat) (x0 : Disk) (x1 : Disk) : Tree Bool :=
  .opt Bool (slices_Equal_string_string q x0.drive.sectors x1.drive.sectors) fun r28 =>
    .ite (r28)
      (.opt Bool (slices_Equal_int_int q x0.drive.bad x1.drive.bad) fun r29 =>
        .ite (r29)
          (.ite ((x0.enable == x1.enable))
            (.ite ((x0.ready == x1.ready))
              (.ite ((x0.error == x1.error))
                (.ite (decide (x0.command = x1.command))
                  (.ite (decide (x0.words = x1.words))
                    (.ite (decide (x0.addr = x1.addr))
                      (.ite (decide (x0.start = x1.start))
                        (.leaf (decide (x0.left = x1.left)))
                        (.leaf (false)))
                      (.leaf (false)))
                    (.leaf (false)))
                  (.leaf (false)))
                (.leaf (false)))
              (.leaf (false)))
            (.leaf (false)))
          (.leaf (false)))
      (.leaf (false))
noncomputable def save_sameDisk (q : Option Nat) (x0 : Disk) (x1 : Disk) : Option Bool := (Tsave_sameDisk q x0 x1).run
theorem lesave_sameDisk (k : Nat) (x0 : Disk) (x1 : Disk) : Le (save_sameDisk (some k) x0 x1) (save_sameDisk none x0 x1) := (TLe.opt (leslices_Equal_string_string k _ _) fun _ => (TLe.ite (TLe.opt (leslices_Equal_int_int k _ _) fun _ => TLe.rfl) TLe.rfl))
noncomputable def Asave_sameDisk : Arg U (Disk × Disk × Unit) := aA cDisk (aA cDisk (aNil))
noncomputable def Rsave_sameDisk (r : Bool) : List (V U) × List (Blk U) := ([vO cBool r], [])
noncomputable def Ssave_sameDisk : List (V U) → List (Blk U) → Option (FnOut U) := mkSpec Asave_sameDisk bNil (fun x _ => save_sameDisk none x.1 x.2.1) Rsave_sameDisk
noncomputable def Esave_sameDisk : Env U := { P := Tryd.prog, cd := cd, fns := fns22, lps := noL, frz := fun _r => false, nt := 79, n0 := 0, fps := fun _r _i => bif Nat.beq _r 1 && Nat.beq _i 2 then .rd [] else bif Nat.beq _r 1 && Nat.beq _i 3 then .rd [1] else bif Nat.beq _r 1 && Nat.beq _i 6 then .wr [2] 4 else .none }
theorem runsave_sameDisk (x : Disk × Disk × Unit) (g : Unit) : execF Esave_sameDisk Tryd.f13 (Asave_sameDisk.enc x) (bNil.enc g) = (Tsave_sameDisk none x.1 x.2.1).map Rsave_sameDisk := by kernel_rfl
theorem oksave_sameDisk : FnOk Tryd.prog cd 13 Ssave_sameDisk := mk_ok (E := Esave_sameDisk) cd_ok fns22_ok Tryd.func13 (by kernel_rfl) (noLoops_body (by kernel_rfl)) (aA_ok cDisk_ok (aA_ok cDisk_ok (aNil_ok))) bNil_ok (T := fun x _ => Tsave_sameDisk none x.1 x.2.1) (fun _ _ => rfl) runsave_sameDisk
noncomputable def fns13 := addF 13 true Ssave_sameDisk fns22
theorem fns13_ok : ∀ f q t, fns13 f = some (q, t) → FnOk Tryd.prog cd f t := addF_ok oksave_sameDisk fns22_ok
/-- emulator/save.sameTape -/
noncomputable def Tsave_sameTape (q : Option Nat) (x0 : Tape) (x1 : Tape) : Tree Bool :=
  .opt Bool (slices_Equal_string_string q x0.records x1.records) fun r30 =>
    .ite (r30)
      (.ite (decide (x0.pos = x1.pos))
        (.ite ((x0.enable == x1.enable))
          (.ite ((x0.ready == x1.ready))
            (.ite ((x0.error == x1.error))
              (.ite ((x0.mark == x1.mark))
                (.ite ((x0.end_ == x1.end_))
                  (.ite (decide (x0.command = x1.command))
                    (.ite (decide (x0.count = x1.count))
                      (.ite (decide (x0.addr = x1.addr))
                        (.leaf (decide (x0.left = x1.left)))
                        (.leaf (false)))
                      (.leaf (false)))
                    (.leaf (false)))
                  (.leaf (false)))
                (.leaf (false)))
              (.leaf (false)))
            (.leaf (false)))
          (.leaf (false)))
        (.leaf (false)))
      (.leaf (false))
noncomputable def save_sameTape (q : Option Nat) (x0 : Tape) (x1 : Tape) : Option Bool := (Tsave_sameTape q x0 x1).run
theorem lesave_sameTape (k : Nat) (x0 : Tape) (x1 : Tape) : Le (save_sameTape (some k) x0 x1) (save_sameTape none x0 x1) := (TLe.opt (leslices_Equal_string_string k _ _) fun _ => TLe.rfl)
noncomputable def Asave_sameTape : Arg U (Tape × Tape × Unit) := aA cTape (aA cTape (aNil))
noncomputable def Rsave_sameTape (r : Bool) : List (V U) × List (Blk U) := ([vO cBool r], [])
noncomputable def Ssave_sameTape : List (V U) → List (Blk U) → Option (FnOut U) := mkSpec Asave_sameTape bNil (fun x _ => save_sameTape none x.1 x.2.1) Rsave_sameTape
noncomputable def Esave_sameTape : Env U := { P := Tryd.prog, cd := cd, fns := fns13, lps := noL, frz := fun _r => false, nt := 80, n0 := 0 }
theorem runsave_sameTape (x : Tape × Tape × Unit) (g : Unit) : execF Esave_sameTape Tryd.f14 (Asave_sameTape.enc x) (bNil.enc g) = (Tsave_sameTape none x.1 x.2.1).map Rsave_sameTape := by kernel_rfl
theorem oksave_sameTape : FnOk Tryd.prog cd 14 Ssave_sameTape := mk_ok (E := Esave_sameTape) cd_ok fns13_ok Tryd.func14 (by kernel_rfl) (noLoops_body (by kernel_rfl)) (aA_ok cTape_ok (aA_ok cTape_ok (aNil_ok))) bNil_ok (T := fun x _ => Tsave_sameTape none x.1 x.2.1) (fun _ _ => rfl) runsave_sameTape
noncomputable def fns14 := addF 14 true Ssave_sameTape fns13
theorem fns14_ok : ∀ f q t, fns14 f = some (q, t) → FnOk Tryd.prog cd f t := addF_ok oksave_sameTape fns13_ok
/-- emulator/save.Diff$1 -/
noncomputable def Tsave_Diff_1 (x0 : (List UInt8)) (x1 : Bool) (g0 : Unit) (g1 : (List (List UInt8))) : Tree (List (List UInt8)) :=
  .ite (!x1)
    (.ite (decide ((g1.length + ([x0]).length) * 16 ≤ 140737488355328))
      (.leaf (g1 ++ ([x0])))
      .fail)
    (.leaf (g1))
noncomputable def save_Diff_1 (x0 : (List UInt8)) (x1 : Bool) (g0 : Unit) (g1 : (List (List UInt8))) : Option (List (List UInt8)) := (Tsave_Diff_1 x0 x1 g0 g1).run
noncomputable def Asave_Diff_1 : Arg U ((List UInt8) × Bool × Unit) := aO cStr (aO cBool (aP 0 0 (aNil)))
noncomputable def Gsave_Diff_1 : Bls U (Unit × (List (List UInt8)) × Unit) := bT none (cK (.row 1 0) (cUnit)) (bR 9 (bNil))
noncomputable def Rsave_Diff_1 (_x : (List UInt8) × Bool × Unit) (_g : Unit × (List (List UInt8)) × Unit) (r : (List (List UInt8))) : List (V U) × List (Blk U) := ([], [.cells ((cK (.row 1 1) (cUnit) : Cdc U (Unit)).enc (())) none, .row 9 1 r])
noncomputable def Ssave_Diff_1 : List (V U) → List (Blk U) → Option (FnOut U) := mkSpecG Asave_Diff_1 Gsave_Diff_1 (fun x g => save_Diff_1 x.1 x.2.1 g.1 g.2.1) Rsave_Diff_1
noncomputable def Esave_Diff_1 : Env U := { P := Tryd.prog, cd := cd, fns := fns14, lps := noL, frz := fun _r => false, nt := 11, n0 := 2, bump := true }
theorem rnsave_Diff_1 (x0 : (List UInt8)) (x1 : Bool) (g0 : Unit) (g1 : (List (List UInt8))) : execX true Esave_Diff_1 Tryd.f10 (Asave_Diff_1.enc (x0, x1, ())) (Gsave_Diff_1.enc (g0, g1, ())) = (Tsave_Diff_1 x0 x1 g0 g1).map (Rsave_Diff_1 (x0, x1, ()) (g0, g1, ())) := by kernel_rfl
theorem runsave_Diff_1 : ∀ (x : (List UInt8) × Bool × Unit) (g : Unit × (List (List UInt8)) × Unit), execX true Esave_Diff_1 Tryd.f10 (Asave_Diff_1.enc x) (Gsave_Diff_1.enc g) = (Tsave_Diff_1 x.1 x.2.1 g.1 g.2.1).map (Rsave_Diff_1 x g)
  | (x0, x1, ()), (g0, g1, ()) => rnsave_Diff_1 x0 x1 g0 g1
theorem oksave_Diff_1 : FnOk Tryd.prog cd 10 Ssave_Diff_1 := mk_okG (E := Esave_Diff_1) (A := Asave_Diff_1) (B := Gsave_Diff_1) true cd_ok fns14_ok Tryd.func10 (by kernel_rfl) (noLoops_body (by kernel_rfl)) (aO_ok cStr_ok (aO_ok cBool_ok (aP_ok (aNil_ok)))) (bT_ok (cK_ok cUnit_ok) (bR_ok bNil_ok)) (T := fun (x : (List UInt8) × Bool × Unit) (g : Unit × (List (List UInt8)) × Unit) => Tsave_Diff_1 x.1 x.2.1 g.1 g.2.1) (fun _ _ => rfl) runsave_Diff_1
/-- emulator/save.Diff -/
noncomputable def Tsave_Diff (q : Option Nat) (x0 : Machine) (x1 : Machine) : Tree (List (List UInt8)) :=
  .opt (List (List UInt8)) (save_Diff_1 ([67, 112, 117] : List UInt8) ((decide (x0.cpu.r = x1.cpu.r)) && ((decide (x0.cpu.sP = x1.cpu.sP)) && ((decide (x0.cpu.pC = x1.cpu.pC)) && (decide (x0.cpu.pSW = x1.cpu.pSW))))) () ([])) fun r31 =>
    .opt Bool (slices_Equal_int_int q x0.mem x1.mem) fun r32 =>
      .opt (List (List UInt8)) (save_Diff_1 ([77, 101, 109] : List UInt8) r32 () r31) fun r33 =>
        .opt Bool (slices_Equal_int_int q x0.bad x1.bad) fun r34 =>
          .opt (List (List UInt8)) (save_Diff_1 ([66, 97, 100] : List UInt8) r34 () r33) fun r35 =>
            .opt (List (List UInt8)) (save_Diff_1 ([77, 109, 117] : List UInt8) ((x0.mmu.on == x1.mmu.on) && ((decide (x0.mmu.pages = x1.mmu.pages)) && ((decide (x0.mmu.status = x1.mmu.status)) && (decide (x0.mmu.addr = x1.mmu.addr))))) () r35) fun r36 =>
              .opt (List (List UInt8)) (save_Diff_1 ([67, 108, 111, 99, 107] : List UInt8) ((x0.clock.enable == x1.clock.enable) && ((x0.clock.ready == x1.clock.ready) && ((decide (x0.clock.period = x1.clock.period)) && (decide (x0.clock.left = x1.clock.left))))) () r36) fun r37 =>
                .opt Bool (slices_Equal_api_Line_api_Line q x0.lines x1.lines) fun r38 =>
                  .opt (List (List UInt8)) (save_Diff_1 ([76, 105, 110, 101, 115] : List UInt8) r38 () r37) fun r39 =>
                    .opt Bool (save_sameDisk q x0.disk x1.disk) fun r40 =>
                      .opt (List (List UInt8)) (save_Diff_1 ([68, 105, 115, 107] : List UInt8) r40 () r39) fun r41 =>
                        .opt Bool (save_sameTape q x0.tape x1.tape) fun r42 =>
                          .opt (List (List UInt8)) (save_Diff_1 ([84, 97, 112, 101] : List UInt8) r42 () r41) fun r43 =>
                            .opt (List (List UInt8)) (save_Diff_1 ([78, 111, 119] : List UInt8) (decide (x0.now = x1.now)) () r43) fun r44 =>
                              .opt (List (List UInt8)) (save_Diff_1 ([72, 97, 108, 116, 101, 100] : List UInt8) (x0.halted == x1.halted) () r44) fun r45 =>
                                .opt (List (List UInt8)) (save_Diff_1 ([87, 97, 105, 116, 105, 110, 103] : List UInt8) (x0.waiting == x1.waiting) () r45) fun r46 =>
                                  .opt (List (List UInt8)) (save_Diff_1 ([80, 111, 119, 101, 114] : List UInt8) (decide (x0.power = x1.power)) () r46) fun r47 =>
                                    .opt (List (List UInt8)) (save_Diff_1 ([80, 111, 119, 101, 114, 84, 114, 97, 112] : List UInt8) (x0.powerTrap == x1.powerTrap) () r47) fun r48 =>
                                      .leaf (r48)
noncomputable def save_Diff (q : Option Nat) (x0 : Machine) (x1 : Machine) : Option (List (List UInt8)) := (Tsave_Diff q x0 x1).run
theorem lesave_Diff (k : Nat) (x0 : Machine) (x1 : Machine) : Le (save_Diff (some k) x0 x1) (save_Diff none x0 x1) := (TLe.opt Le.rfl fun _ => (TLe.opt (leslices_Equal_int_int k _ _) fun _ => (TLe.opt Le.rfl fun _ => (TLe.opt (leslices_Equal_int_int k _ _) fun _ => (TLe.opt Le.rfl fun _ => (TLe.opt Le.rfl fun _ => (TLe.opt Le.rfl fun _ => (TLe.opt (leslices_Equal_api_Line_api_Line k _ _) fun _ => (TLe.opt Le.rfl fun _ => (TLe.opt (lesave_sameDisk k _ _) fun _ => (TLe.opt Le.rfl fun _ => (TLe.opt (lesave_sameTape k _ _) fun _ => TLe.rfl))))))))))))
noncomputable def Asave_Diff : Arg U (Machine × Machine × Unit) := aA cMachine (aA cMachine (aNil))
noncomputable def Rsave_Diff (r : (List (List UInt8))) : List (V U) × List (Blk U) := ([vO (cSl 9) r], [])
noncomputable def Ssave_Diff : List (V U) → List (Blk U) → Option (FnOut U) := mkSpec Asave_Diff bNil (fun x _ => save_Diff none x.1 x.2.1) Rsave_Diff
noncomputable def Esave_Diff : Env U := { P := Tryd.prog, cd := cd, fns := (addF 10 false (Ssave_Diff_1) fns14), lps := noL, frz := fun _r => false, nt := 100, n0 := 0, ownr := fun _r => Nat.beq _r 2 }
theorem runsave_Diff (x : Machine × Machine × Unit) (g : Unit) : execF Esave_Diff Tryd.f5 (Asave_Diff.enc x) (bNil.enc g) = (Tsave_Diff none x.1 x.2.1).map Rsave_Diff := by kernel_rfl
theorem oksave_Diff : FnOk Tryd.prog cd 5 Ssave_Diff := mk_ok (E := Esave_Diff) cd_ok (addF_ok oksave_Diff_1 fns14_ok) Tryd.func5 (by kernel_rfl) (noLoops_body (by kernel_rfl)) (aA_ok cMachine_ok (aA_ok cMachine_ok (aNil_ok))) bNil_ok (T := fun x _ => Tsave_Diff none x.1 x.2.1) (fun _ _ => rfl) runsave_Diff
noncomputable def fns5 := addF 5 true Ssave_Diff fns14
theorem fns5_ok : ∀ f q t, fns5 f = some (q, t) → FnOk Tryd.prog cd f t := addF_ok oksave_Diff fns14_ok
/-- emulator/emulatorref02.Same -/
structure Sref02_Same_0 where
  t0 : (List (List UInt8))
  t1 : (List (List UInt8))
  t5 : Int
noncomputable def Wref02_Same_0 (s : Sref02_Same_0) : Tree (Sref02_Same_0 ⊕ (Bool ⊕ Unit)) :=
  .ite (decide (s.t5 < (s.t0.length : Int)))
    (.ite (decide (0 ≤ s.t5))
      (.opt (List UInt8) (s.t0[(s.t5).toNat]?) fun y49 =>
        .ite (decide (0 ≤ s.t5))
          (.opt (List UInt8) (s.t1[(s.t5).toNat]?) fun y50 =>
            .ite (!decide (y49 = y50))
              (.leaf (.inr (.inl false)))
              (.leaf (.inl (Sref02_Same_0.mk s.t0 s.t1 (IntKind.wrap .i64 (s.t5 + (1 : Int)))))))
          .fail)
      .fail)
    (.leaf (.inr (.inr ())))
noncomputable def Lref02_Same_0 (q : Option Nat) (s : Sref02_Same_0) : Option (Bool ⊕ Unit) := limQ q (fun s => (Wref02_Same_0 s).run) s
theorem leLref02_Same_0 (k : Nat) (s : Sref02_Same_0) : Le (Lref02_Same_0 (some k) s) (Lref02_Same_0 none s) := limQ_le (fun _ => Le.rfl) s
noncomputable def Tref02_Same (q : Option Nat) (x0 : (List (List UInt8))) (x1 : (List (List UInt8))) : Tree Bool :=
  .ite (!decide ((x0.length : Int) = (x1.length : Int)))
    (.leaf (false))
    (.opt (Bool ⊕ Unit) (Lref02_Same_0 q (Sref02_Same_0.mk x0 x1 (0 : Int))) fun l51 =>
      .ite (l51.isLeft)
        (.opt Bool (l51.getLeft?) fun a52 =>
          .leaf (a52))
        (.opt Unit (l51.getRight?) fun b53 =>
          .leaf (true)))
noncomputable def ref02_Same (q : Option Nat) (x0 : (List (List UInt8))) (x1 : (List (List UInt8))) : Option Bool := (Tref02_Same q x0 x1).run
theorem leref02_Same (k : Nat) (x0 : (List (List UInt8))) (x1 : (List (List UInt8))) : Le (ref02_Same (some k) x0 x1) (ref02_Same none x0 x1) := (TLe.ite TLe.rfl (TLe.opt (leLref02_Same_0 k _) fun _ => TLe.rfl))
noncomputable def Aref02_Same : Arg U ((List (List UInt8)) × (List (List UInt8)) × Unit) := aO (cSl 9) (aO (cSl 9) (aNil))
noncomputable def Rref02_Same (r : Bool) : List (V U) × List (Blk U) := ([vO cBool r], [])
noncomputable def Sref02_Same : List (V U) → List (Blk U) → Option (FnOut U) := mkSpec Aref02_Same bNil (fun x _ => ref02_Same none x.1 x.2.1) Rref02_Same
noncomputable def Pref02_Same_0 (x : ((List (List UInt8)) × Unit) × ((List (List UInt8)) × Unit) × (Int × Unit) × Unit) (_g : Unit) : Sref02_Same_0 := Sref02_Same_0.mk x.1.1 x.2.1.1 x.2.2.1.1
noncomputable def tAref02_Same_0 : Tms U (((List (List UInt8)) × Unit) × ((List (List UInt8)) × Unit) × (Int × Unit) × Unit) := tO 0 (cPair (cSl 9) (cUnit)) (tO 1 (cPair (cSl 9) (cUnit)) (tO 5 (cPair (cInt .i64) (cUnit)) (tNil)))
noncomputable def tBref02_Same_0 : Bls U (Unit) := bNil
noncomputable def eSref02_Same_0 (s : Sref02_Same_0) : St U := { tm := [(0, .v (vO (cPair (cSl 9) (cUnit)) (s.t0, ()))), (1, .v (vO (cPair (cSl 9) (cUnit)) (s.t1, ()))), (5, .v (vO (cPair (cInt .i64) (cUnit)) (s.t5, ())))], hp := [] }
noncomputable def xSref02_Same_0 : (Bool ⊕ Unit) → Ex × St U
  | .inl r => (.ret, { tm := [(4, .v (vO (cPair cBool (cUnit)) (r, ())))], hp := [] })
  | .inr r => (.exit 0, { tm := [], hp := [] })
noncomputable def xTref02_Same_0 (y : (Bool ⊕ Unit)) : Tree (Ex × St U) := .ite y.isLeft (.opt Bool y.getLeft? fun r => .leaf (.ret, { tm := [(4, .v (vO (cPair cBool (cUnit)) (r, ())))], hp := [] })) (.opt Unit y.getRight? fun r => .leaf (.exit 0, { tm := [], hp := [] }))
noncomputable def href02_Same_0 : Hd := { keep := [0, 1, 5], xkeep := [4], own := false }
noncomputable def Eref02_Same : Env U := { P := Tryd.prog, cd := cd, fns := fns5, lps := (addL 0 href02_Same_0 (mkLoop tAref02_Same_0 tBref02_Same_0 Pref02_Same_0 (Lref02_Same_0 none) xTref02_Same_0) noL), frz := fun _r => false, nt := 26, n0 := 0 }
noncomputable def Bref02_Same_0 : Code := (loopAt (Tryd.f6.body.getD .skip) 0 0).getD .skip
theorem roundref02_Same_0 (s : Sref02_Same_0) : round Eref02_Same href02_Same_0 Bref02_Same_0 0 (eSref02_Same_0 s) = (Wref02_Same_0 s).map (sumE eSref02_Same_0 xSref02_Same_0) := by kernel_rfl
theorem lpref02_Same_0 : LpOk Eref02_Same Bref02_Same_0 0 := mkLoop_ok (A := tAref02_Same_0) (B := tBref02_Same_0) (f := Pref02_Same_0) (L := Lref02_Same_0 none) (tO_ok (cPair_ok (cSl_ok 9) cUnit_ok) (tO_ok (cPair_ok (cSl_ok 9) cUnit_ok) (tO_ok (cPair_ok (cInt_ok .i64) cUnit_ok) tNil_ok))) bNil_ok (enc := eSref02_Same_0) (out := xTref02_Same_0) (outS := xSref02_Same_0) (step := Wref02_Same_0) (fun _ => rfl) (fun _ _ => by kernel_rfl) (by kernel_rfl) (fun b => by cases b <;> rfl) roundref02_Same_0
theorem runref02_Same (x : (List (List UInt8)) × (List (List UInt8)) × Unit) (g : Unit) : execF Eref02_Same Tryd.f6 (Aref02_Same.enc x) (bNil.enc g) = (Tref02_Same none x.1 x.2.1).map Rref02_Same := by kernel_rfl
theorem okref02_Same : FnOk Tryd.prog cd 6 Sref02_Same := mk_ok (E := Eref02_Same) cd_ok fns5_ok Tryd.func6 (by kernel_rfl) (loops_of (addL_ok lpref02_Same_0 noL_ok)) (aO_ok (cSl_ok 9) (aO_ok (cSl_ok 9) (aNil_ok))) bNil_ok (T := fun x _ => Tref02_Same none x.1 x.2.1) (fun _ _ => rfl) runref02_Same
noncomputable def fns6 := addF 6 true Sref02_Same fns5
theorem fns6_ok : ∀ f q t, fns6 f = some (q, t) → FnOk Tryd.prog cd f t := addF_ok okref02_Same fns5_ok
/-- emulator/emulatorref08.Same -/
structure Sref08_Same_0 where
  t0 : (List Int)
  t1 : (List Int)
  t5 : Int
noncomputable def Wref08_Same_0 (s : Sref08_Same_0) : Tree (Sref08_Same_0 ⊕ (Bool ⊕ Unit)) :=
  .ite (decide (s.t5 < (s.t0.length : Int)))
    (.ite (decide (0 ≤ s.t5))
      (.opt Int (s.t0[(s.t5).toNat]?) fun y54 =>
        .ite (decide (0 ≤ s.t5))
          (.opt Int (s.t1[(s.t5).toNat]?) fun y55 =>
            .ite (!decide (y54 = y55))
              (.leaf (.inr (.inl false)))
              (.leaf (.inl (Sref08_Same_0.mk s.t0 s.t1 (IntKind.wrap .i64 (s.t5 + (1 : Int)))))))
          .fail)
      .fail)
    (.leaf (.inr (.inr ())))
noncomputable def Lref08_Same_0 (q : Option Nat) (s : Sref08_Same_0) : Option (Bool ⊕ Unit) := limQ q (fun s => (Wref08_Same_0 s).run) s
theorem leLref08_Same_0 (k : Nat) (s : Sref08_Same_0) : Le (Lref08_Same_0 (some k) s) (Lref08_Same_0 none s) := limQ_le (fun _ => Le.rfl) s
noncomputable def Tref08_Same (q : Option Nat) (x0 : (List Int)) (x1 : (List Int)) : Tree Bool :=
  .ite (!decide ((x0.length : Int) = (x1.length : Int)))
    (.leaf (false))
    (.opt (Bool ⊕ Unit) (Lref08_Same_0 q (Sref08_Same_0.mk x0 x1 (0 : Int))) fun l56 =>
      .ite (l56.isLeft)
        (.opt Bool (l56.getLeft?) fun a57 =>
          .leaf (a57))
        (.opt Unit (l56.getRight?) fun b58 =>
          .leaf (true)))
noncomputable def ref08_Same (q : Option Nat) (x0 : (List Int)) (x1 : (List Int)) : Option Bool := (Tref08_Same q x0 x1).run
theorem leref08_Same (k : Nat) (x0 : (List Int)) (x1 : (List Int)) : Le (ref08_Same (some k) x0 x1) (ref08_Same none x0 x1) := (TLe.ite TLe.rfl (TLe.opt (leLref08_Same_0 k _) fun _ => TLe.rfl))
noncomputable def Aref08_Same : Arg U ((List Int) × (List Int) × Unit) := aO (cSl 3) (aO (cSl 3) (aNil))
noncomputable def Rref08_Same (r : Bool) : List (V U) × List (Blk U) := ([vO cBool r], [])
noncomputable def Sref08_Same : List (V U) → List (Blk U) → Option (FnOut U) := mkSpec Aref08_Same bNil (fun x _ => ref08_Same none x.1 x.2.1) Rref08_Same
noncomputable def Pref08_Same_0 (x : ((List Int) × Unit) × ((List Int) × Unit) × (Int × Unit) × Unit) (_g : Unit) : Sref08_Same_0 := Sref08_Same_0.mk x.1.1 x.2.1.1 x.2.2.1.1
noncomputable def tAref08_Same_0 : Tms U (((List Int) × Unit) × ((List Int) × Unit) × (Int × Unit) × Unit) := tO 0 (cPair (cSl 3) (cUnit)) (tO 1 (cPair (cSl 3) (cUnit)) (tO 5 (cPair (cInt .i64) (cUnit)) (tNil)))
noncomputable def tBref08_Same_0 : Bls U (Unit) := bNil
noncomputable def eSref08_Same_0 (s : Sref08_Same_0) : St U := { tm := [(0, .v (vO (cPair (cSl 3) (cUnit)) (s.t0, ()))), (1, .v (vO (cPair (cSl 3) (cUnit)) (s.t1, ()))), (5, .v (vO (cPair (cInt .i64) (cUnit)) (s.t5, ())))], hp := [] }
noncomputable def xSref08_Same_0 : (Bool ⊕ Unit) → Ex × St U
  | .inl r => (.ret, { tm := [(4, .v (vO (cPair cBool (cUnit)) (r, ())))], hp := [] })
  | .inr r => (.exit 0, { tm := [], hp := [] })
noncomputable def xTref08_Same_0 (y : (Bool ⊕ Unit)) : Tree (Ex × St U) := .ite y.isLeft (.opt Bool y.getLeft? fun r => .leaf (.ret, { tm := [(4, .v (vO (cPair cBool (cUnit)) (r, ())))], hp := [] })) (.opt Unit y.getRight? fun r => .leaf (.exit 0, { tm := [], hp := [] }))
noncomputable def href08_Same_0 : Hd := { keep := [0, 1, 5], xkeep := [4], own := false }
noncomputable def Eref08_Same : Env U := { P := Tryd.prog, cd := cd, fns := fns6, lps := (addL 0 href08_Same_0 (mkLoop tAref08_Same_0 tBref08_Same_0 Pref08_Same_0 (Lref08_Same_0 none) xTref08_Same_0) noL), frz := fun _r => false, nt := 26, n0 := 0 }
noncomputable def Bref08_Same_0 : Code := (loopAt (Tryd.f15.body.getD .skip) 0 0).getD .skip
theorem roundref08_Same_0 (s : Sref08_Same_0) : round Eref08_Same href08_Same_0 Bref08_Same_0 0 (eSref08_Same_0 s) = (Wref08_Same_0 s).map (sumE eSref08_Same_0 xSref08_Same_0) := by kernel_rfl
theorem lpref08_Same_0 : LpOk Eref08_Same Bref08_Same_0 0 := mkLoop_ok (A := tAref08_Same_0) (B := tBref08_Same_0) (f := Pref08_Same_0) (L := Lref08_Same_0 none) (tO_ok (cPair_ok (cSl_ok 3) cUnit_ok) (tO_ok (cPair_ok (cSl_ok 3) cUnit_ok) (tO_ok (cPair_ok (cInt_ok .i64) cUnit_ok) tNil_ok))) bNil_ok (enc := eSref08_Same_0) (out := xTref08_Same_0) (outS := xSref08_Same_0) (step := Wref08_Same_0) (fun _ => rfl) (fun _ _ => by kernel_rfl) (by kernel_rfl) (fun b => by cases b <;> rfl) roundref08_Same_0
theorem runref08_Same (x : (List Int) × (List Int) × Unit) (g : Unit) : execF Eref08_Same Tryd.f15 (Aref08_Same.enc x) (bNil.enc g) = (Tref08_Same none x.1 x.2.1).map Rref08_Same := by kernel_rfl
theorem okref08_Same : FnOk Tryd.prog cd 15 Sref08_Same := mk_ok (E := Eref08_Same) cd_ok fns6_ok Tryd.func15 (by kernel_rfl) (loops_of (addL_ok lpref08_Same_0 noL_ok)) (aO_ok (cSl_ok 3) (aO_ok (cSl_ok 3) (aNil_ok))) bNil_ok (T := fun x _ => Tref08_Same none x.1 x.2.1) (fun _ _ => rfl) runref08_Same
noncomputable def fns15 := addF 15 true Sref08_Same fns6
theorem fns15_ok : ∀ f q t, fns15 f = some (q, t) → FnOk Tryd.prog cd f t := addF_ok okref08_Same fns6_ok
/-- emulator/emulatorref23.SameLines -/
structure Sref23_SameLines_0 where
  t0 : (List Line)
  t1 : (List Line)
  t5 : Int
noncomputable def Wref23_SameLines_0 (s : Sref23_SameLines_0) : Tree (Sref23_SameLines_0 ⊕ (Bool ⊕ Unit)) :=
  .ite (decide (s.t5 < (s.t0.length : Int)))
    (.ite (decide (0 ≤ s.t5))
      (.opt Line (s.t0[(s.t5).toNat]?) fun y59 =>
        .ite (decide (0 ≤ s.t5))
          (.opt Line (s.t1[(s.t5).toNat]?) fun y60 =>
            .ite (!((y59.rxEnable == y60.rxEnable) && ((y59.rxReady == y60.rxReady) && ((y59.overrun == y60.overrun) && ((decide (y59.rxData = y60.rxData)) && ((y59.txEnable == y60.txEnable) && ((y59.txReady == y60.txReady) && ((decide (y59.txData = y60.txData)) && ((decide (y59.txLeft = y60.txLeft)) && (decide (y59.out = y60.out)))))))))))
              (.leaf (.inr (.inl false)))
              (.leaf (.inl (Sref23_SameLines_0.mk s.t0 s.t1 (IntKind.wrap .i64 (s.t5 + (1 : Int)))))))
          .fail)
      .fail)
    (.leaf (.inr (.inr ())))
noncomputable def Lref23_SameLines_0 (q : Option Nat) (s : Sref23_SameLines_0) : Option (Bool ⊕ Unit) := limQ q (fun s => (Wref23_SameLines_0 s).run) s
theorem leLref23_SameLines_0 (k : Nat) (s : Sref23_SameLines_0) : Le (Lref23_SameLines_0 (some k) s) (Lref23_SameLines_0 none s) := limQ_le (fun _ => Le.rfl) s
noncomputable def Tref23_SameLines (q : Option Nat) (x0 : (List Line)) (x1 : (List Line)) : Tree Bool :=
  .ite (!decide ((x0.length : Int) = (x1.length : Int)))
    (.leaf (false))
    (.opt (Bool ⊕ Unit) (Lref23_SameLines_0 q (Sref23_SameLines_0.mk x0 x1 (0 : Int))) fun l61 =>
      .ite (l61.isLeft)
        (.opt Bool (l61.getLeft?) fun a62 =>
          .leaf (a62))
        (.opt Unit (l61.getRight?) fun b63 =>
          .leaf (true)))
noncomputable def ref23_SameLines (q : Option Nat) (x0 : (List Line)) (x1 : (List Line)) : Option Bool := (Tref23_SameLines q x0 x1).run
theorem leref23_SameLines (k : Nat) (x0 : (List Line)) (x1 : (List Line)) : Le (ref23_SameLines (some k) x0 x1) (ref23_SameLines none x0 x1) := (TLe.ite TLe.rfl (TLe.opt (leLref23_SameLines_0 k _) fun _ => TLe.rfl))
noncomputable def Aref23_SameLines : Arg U ((List Line) × (List Line) × Unit) := aO (cSl 51) (aO (cSl 51) (aNil))
noncomputable def Rref23_SameLines (r : Bool) : List (V U) × List (Blk U) := ([vO cBool r], [])
noncomputable def Sref23_SameLines : List (V U) → List (Blk U) → Option (FnOut U) := mkSpec Aref23_SameLines bNil (fun x _ => ref23_SameLines none x.1 x.2.1) Rref23_SameLines
noncomputable def Pref23_SameLines_0 (x : ((List Line) × Unit) × ((List Line) × Unit) × (Int × Unit) × Unit) (_g : Unit) : Sref23_SameLines_0 := Sref23_SameLines_0.mk x.1.1 x.2.1.1 x.2.2.1.1
noncomputable def tAref23_SameLines_0 : Tms U (((List Line) × Unit) × ((List Line) × Unit) × (Int × Unit) × Unit) := tO 0 (cPair (cSl 51) (cUnit)) (tO 1 (cPair (cSl 51) (cUnit)) (tO 5 (cPair (cInt .i64) (cUnit)) (tNil)))
noncomputable def tBref23_SameLines_0 : Bls U (Unit) := bNil
noncomputable def eSref23_SameLines_0 (s : Sref23_SameLines_0) : St U := { tm := [(0, .v (vO (cPair (cSl 51) (cUnit)) (s.t0, ()))), (1, .v (vO (cPair (cSl 51) (cUnit)) (s.t1, ()))), (5, .v (vO (cPair (cInt .i64) (cUnit)) (s.t5, ())))], hp := [] }
noncomputable def xSref23_SameLines_0 : (Bool ⊕ Unit) → Ex × St U
  | .inl r => (.ret, { tm := [(4, .v (vO (cPair cBool (cUnit)) (r, ())))], hp := [] })
  | .inr r => (.exit 0, { tm := [], hp := [] })
noncomputable def xTref23_SameLines_0 (y : (Bool ⊕ Unit)) : Tree (Ex × St U) := .ite y.isLeft (.opt Bool y.getLeft? fun r => .leaf (.ret, { tm := [(4, .v (vO (cPair cBool (cUnit)) (r, ())))], hp := [] })) (.opt Unit y.getRight? fun r => .leaf (.exit 0, { tm := [], hp := [] }))
noncomputable def href23_SameLines_0 : Hd := { keep := [0, 1, 5], xkeep := [4], own := false }
noncomputable def Eref23_SameLines : Env U := { P := Tryd.prog, cd := cd, fns := fns15, lps := (addL 0 href23_SameLines_0 (mkLoop tAref23_SameLines_0 tBref23_SameLines_0 Pref23_SameLines_0 (Lref23_SameLines_0 none) xTref23_SameLines_0) noL), frz := fun _r => false, nt := 26, n0 := 0 }
noncomputable def Bref23_SameLines_0 : Code := (loopAt (Tryd.f16.body.getD .skip) 0 0).getD .skip
theorem roundref23_SameLines_0 (s : Sref23_SameLines_0) : round Eref23_SameLines href23_SameLines_0 Bref23_SameLines_0 0 (eSref23_SameLines_0 s) = (Wref23_SameLines_0 s).map (sumE eSref23_SameLines_0 xSref23_SameLines_0) := by kernel_rfl
theorem lpref23_SameLines_0 : LpOk Eref23_SameLines Bref23_SameLines_0 0 := mkLoop_ok (A := tAref23_SameLines_0) (B := tBref23_SameLines_0) (f := Pref23_SameLines_0) (L := Lref23_SameLines_0 none) (tO_ok (cPair_ok (cSl_ok 51) cUnit_ok) (tO_ok (cPair_ok (cSl_ok 51) cUnit_ok) (tO_ok (cPair_ok (cInt_ok .i64) cUnit_ok) tNil_ok))) bNil_ok (enc := eSref23_SameLines_0) (out := xTref23_SameLines_0) (outS := xSref23_SameLines_0) (step := Wref23_SameLines_0) (fun _ => rfl) (fun _ _ => by kernel_rfl) (by kernel_rfl) (fun b => by cases b <;> rfl) roundref23_SameLines_0
theorem runref23_SameLines (x : (List Line) × (List Line) × Unit) (g : Unit) : execF Eref23_SameLines Tryd.f16 (Aref23_SameLines.enc x) (bNil.enc g) = (Tref23_SameLines none x.1 x.2.1).map Rref23_SameLines := by kernel_rfl
theorem okref23_SameLines : FnOk Tryd.prog cd 16 Sref23_SameLines := mk_ok (E := Eref23_SameLines) cd_ok fns15_ok Tryd.func16 (by kernel_rfl) (loops_of (addL_ok lpref23_SameLines_0 noL_ok)) (aO_ok (cSl_ok 51) (aO_ok (cSl_ok 51) (aNil_ok))) bNil_ok (T := fun x _ => Tref23_SameLines none x.1 x.2.1) (fun _ _ => rfl) runref23_SameLines
noncomputable def fns16 := addF 16 true Sref23_SameLines fns15
theorem fns16_ok : ∀ f q t, fns16 f = some (q, t) → FnOk Tryd.prog cd f t := addF_ok okref23_SameLines fns15_ok
/-- emulator/emulatorref17.SameTexts -/
structure Sref17_SameTexts_0 where
  t0 : (List (List UInt8))
  t1 : (List (List UInt8))
  t5 : Int
noncomputable def Wref17_SameTexts_0 (s : Sref17_SameTexts_0) : Tree (Sref17_SameTexts_0 ⊕ (Bool ⊕ Unit)) :=
  .ite (decide (s.t5 < (s.t0.length : Int)))
    (.ite (decide (0 ≤ s.t5))
      (.opt (List UInt8) (s.t0[(s.t5).toNat]?) fun y64 =>
        .ite (decide (0 ≤ s.t5))
          (.opt (List UInt8) (s.t1[(s.t5).toNat]?) fun y65 =>
            .ite (!decide (y64 = y65))
              (.leaf (.inr (.inl false)))
              (.leaf (.inl (Sref17_SameTexts_0.mk s.t0 s.t1 (IntKind.wrap .i64 (s.t5 + (1 : Int)))))))
          .fail)
      .fail)
    (.leaf (.inr (.inr ())))
noncomputable def Lref17_SameTexts_0 (q : Option Nat) (s : Sref17_SameTexts_0) : Option (Bool ⊕ Unit) := limQ q (fun s => (Wref17_SameTexts_0 s).run) s
theorem leLref17_SameTexts_0 (k : Nat) (s : Sref17_SameTexts_0) : Le (Lref17_SameTexts_0 (some k) s) (Lref17_SameTexts_0 none s) := limQ_le (fun _ => Le.rfl) s
noncomputable def Tref17_SameTexts (q : Option Nat) (x0 : (List (List UInt8))) (x1 : (List (List UInt8))) : Tree Bool :=
  .ite (!decide ((x0.length : Int) = (x1.length : Int)))
    (.leaf (false))
    (.opt (Bool ⊕ Unit) (Lref17_SameTexts_0 q (Sref17_SameTexts_0.mk x0 x1 (0 : Int))) fun l66 =>
      .ite (l66.isLeft)
        (.opt Bool (l66.getLeft?) fun a67 =>
          .leaf (a67))
        (.opt Unit (l66.getRight?) fun b68 =>
          .leaf (true)))
noncomputable def ref17_SameTexts (q : Option Nat) (x0 : (List (List UInt8))) (x1 : (List (List UInt8))) : Option Bool := (Tref17_SameTexts q x0 x1).run
theorem leref17_SameTexts (k : Nat) (x0 : (List (List UInt8))) (x1 : (List (List UInt8))) : Le (ref17_SameTexts (some k) x0 x1) (ref17_SameTexts none x0 x1) := (TLe.ite TLe.rfl (TLe.opt (leLref17_SameTexts_0 k _) fun _ => TLe.rfl))
noncomputable def Aref17_SameTexts : Arg U ((List (List UInt8)) × (List (List UInt8)) × Unit) := aO (cSl 9) (aO (cSl 9) (aNil))
noncomputable def Rref17_SameTexts (r : Bool) : List (V U) × List (Blk U) := ([vO cBool r], [])
noncomputable def Sref17_SameTexts : List (V U) → List (Blk U) → Option (FnOut U) := mkSpec Aref17_SameTexts bNil (fun x _ => ref17_SameTexts none x.1 x.2.1) Rref17_SameTexts
noncomputable def Pref17_SameTexts_0 (x : ((List (List UInt8)) × Unit) × ((List (List UInt8)) × Unit) × (Int × Unit) × Unit) (_g : Unit) : Sref17_SameTexts_0 := Sref17_SameTexts_0.mk x.1.1 x.2.1.1 x.2.2.1.1
noncomputable def tAref17_SameTexts_0 : Tms U (((List (List UInt8)) × Unit) × ((List (List UInt8)) × Unit) × (Int × Unit) × Unit) := tO 0 (cPair (cSl 9) (cUnit)) (tO 1 (cPair (cSl 9) (cUnit)) (tO 5 (cPair (cInt .i64) (cUnit)) (tNil)))
noncomputable def tBref17_SameTexts_0 : Bls U (Unit) := bNil
noncomputable def eSref17_SameTexts_0 (s : Sref17_SameTexts_0) : St U := { tm := [(0, .v (vO (cPair (cSl 9) (cUnit)) (s.t0, ()))), (1, .v (vO (cPair (cSl 9) (cUnit)) (s.t1, ()))), (5, .v (vO (cPair (cInt .i64) (cUnit)) (s.t5, ())))], hp := [] }
noncomputable def xSref17_SameTexts_0 : (Bool ⊕ Unit) → Ex × St U
  | .inl r => (.ret, { tm := [(4, .v (vO (cPair cBool (cUnit)) (r, ())))], hp := [] })
  | .inr r => (.exit 0, { tm := [], hp := [] })
noncomputable def xTref17_SameTexts_0 (y : (Bool ⊕ Unit)) : Tree (Ex × St U) := .ite y.isLeft (.opt Bool y.getLeft? fun r => .leaf (.ret, { tm := [(4, .v (vO (cPair cBool (cUnit)) (r, ())))], hp := [] })) (.opt Unit y.getRight? fun r => .leaf (.exit 0, { tm := [], hp := [] }))
noncomputable def href17_SameTexts_0 : Hd := { keep := [0, 1, 5], xkeep := [4], own := false }
noncomputable def Eref17_SameTexts : Env U := { P := Tryd.prog, cd := cd, fns := fns16, lps := (addL 0 href17_SameTexts_0 (mkLoop tAref17_SameTexts_0 tBref17_SameTexts_0 Pref17_SameTexts_0 (Lref17_SameTexts_0 none) xTref17_SameTexts_0) noL), frz := fun _r => false, nt := 26, n0 := 0 }
noncomputable def Bref17_SameTexts_0 : Code := (loopAt (Tryd.f23.body.getD .skip) 0 0).getD .skip
theorem roundref17_SameTexts_0 (s : Sref17_SameTexts_0) : round Eref17_SameTexts href17_SameTexts_0 Bref17_SameTexts_0 0 (eSref17_SameTexts_0 s) = (Wref17_SameTexts_0 s).map (sumE eSref17_SameTexts_0 xSref17_SameTexts_0) := by kernel_rfl
theorem lpref17_SameTexts_0 : LpOk Eref17_SameTexts Bref17_SameTexts_0 0 := mkLoop_ok (A := tAref17_SameTexts_0) (B := tBref17_SameTexts_0) (f := Pref17_SameTexts_0) (L := Lref17_SameTexts_0 none) (tO_ok (cPair_ok (cSl_ok 9) cUnit_ok) (tO_ok (cPair_ok (cSl_ok 9) cUnit_ok) (tO_ok (cPair_ok (cInt_ok .i64) cUnit_ok) tNil_ok))) bNil_ok (enc := eSref17_SameTexts_0) (out := xTref17_SameTexts_0) (outS := xSref17_SameTexts_0) (step := Wref17_SameTexts_0) (fun _ => rfl) (fun _ _ => by kernel_rfl) (by kernel_rfl) (fun b => by cases b <;> rfl) roundref17_SameTexts_0
theorem runref17_SameTexts (x : (List (List UInt8)) × (List (List UInt8)) × Unit) (g : Unit) : execF Eref17_SameTexts Tryd.f23 (Aref17_SameTexts.enc x) (bNil.enc g) = (Tref17_SameTexts none x.1 x.2.1).map Rref17_SameTexts := by kernel_rfl
theorem okref17_SameTexts : FnOk Tryd.prog cd 23 Sref17_SameTexts := mk_ok (E := Eref17_SameTexts) cd_ok fns16_ok Tryd.func23 (by kernel_rfl) (loops_of (addL_ok lpref17_SameTexts_0 noL_ok)) (aO_ok (cSl_ok 9) (aO_ok (cSl_ok 9) (aNil_ok))) bNil_ok (T := fun x _ => Tref17_SameTexts none x.1 x.2.1) (fun _ _ => rfl) runref17_SameTexts
noncomputable def fns23 := addF 23 true Sref17_SameTexts fns16
theorem fns23_ok : ∀ f q t, fns23 f = some (q, t) → FnOk Tryd.prog cd f t := addF_ok okref17_SameTexts fns16_ok
/-- emulator/emulatorref23.SameDisk -/
noncomputable def Tref23_SameDisk (q : Option Nat) (x0 : Disk) (x1 : Disk) : Tree Bool :=
  .opt Bool (ref17_SameTexts q x0.drive.sectors x1.drive.sectors) fun r69 =>
    .ite (!r69)
      (.leaf (false))
      (.opt Bool (ref08_Same q x0.drive.bad x1.drive.bad) fun r70 =>
        .ite (!r70)
          (.leaf (false))
          (.ite (!(x0.enable == x1.enable))
            (.leaf (false))
            (.ite (!(x0.ready == x1.ready))
              (.leaf (false))
              (.ite (!(x0.error == x1.error))
                (.leaf (false))
                (.ite (decide (x0.command = x1.command))
                  (.ite (decide (x0.words = x1.words))
                    (.ite (decide (x0.addr = x1.addr))
                      (.ite (decide (x0.start = x1.start))
                        (.leaf (decide (x0.left = x1.left)))
                        (.leaf (false)))
                      (.leaf (false)))
                    (.leaf (false)))
                  (.leaf (false)))))))
noncomputable def ref23_SameDisk (q : Option Nat) (x0 : Disk) (x1 : Disk) : Option Bool := (Tref23_SameDisk q x0 x1).run
theorem leref23_SameDisk (k : Nat) (x0 : Disk) (x1 : Disk) : Le (ref23_SameDisk (some k) x0 x1) (ref23_SameDisk none x0 x1) := (TLe.opt (leref17_SameTexts k _ _) fun _ => (TLe.ite TLe.rfl (TLe.opt (leref08_Same k _ _) fun _ => TLe.rfl)))
noncomputable def Aref23_SameDisk : Arg U (Disk × Disk × Unit) := aA cDisk (aA cDisk (aNil))
noncomputable def Rref23_SameDisk (r : Bool) : List (V U) × List (Blk U) := ([vO cBool r], [])
noncomputable def Sref23_SameDisk : List (V U) → List (Blk U) → Option (FnOut U) := mkSpec Aref23_SameDisk bNil (fun x _ => ref23_SameDisk none x.1 x.2.1) Rref23_SameDisk
noncomputable def Eref23_SameDisk : Env U := { P := Tryd.prog, cd := cd, fns := fns23, lps := noL, frz := fun _r => false, nt := 77, n0 := 0 }
theorem runref23_SameDisk (x : Disk × Disk × Unit) (g : Unit) : execF Eref23_SameDisk Tryd.f17 (Aref23_SameDisk.enc x) (bNil.enc g) = (Tref23_SameDisk none x.1 x.2.1).map Rref23_SameDisk := by kernel_rfl
theorem okref23_SameDisk : FnOk Tryd.prog cd 17 Sref23_SameDisk := mk_ok (E := Eref23_SameDisk) cd_ok fns23_ok Tryd.func17 (by kernel_rfl) (noLoops_body (by kernel_rfl)) (aA_ok cDisk_ok (aA_ok cDisk_ok (aNil_ok))) bNil_ok (T := fun x _ => Tref23_SameDisk none x.1 x.2.1) (fun _ _ => rfl) runref23_SameDisk
noncomputable def fns17 := addF 17 true Sref23_SameDisk fns23
theorem fns17_ok : ∀ f q t, fns17 f = some (q, t) → FnOk Tryd.prog cd f t := addF_ok okref23_SameDisk fns23_ok
/-- emulator/emulatorref17.Same -/
noncomputable def Tref17_Same (q : Option Nat) (x0 : Tape) (x1 : Tape) : Tree Bool :=
  .opt Bool (ref17_SameTexts q x0.records x1.records) fun r71 =>
    .ite (!r71)
      (.leaf (false))
      (.ite (!decide (x0.pos = x1.pos))
        (.leaf (false))
        (.ite (!(x0.enable == x1.enable))
          (.leaf (false))
          (.ite (!(x0.ready == x1.ready))
            (.leaf (false))
            (.ite (!(x0.error == x1.error))
              (.leaf (false))
              (.ite ((x0.mark == x1.mark))
                (.ite ((x0.end_ == x1.end_))
                  (.ite (decide (x0.command = x1.command))
                    (.ite (decide (x0.count = x1.count))
                      (.ite (decide (x0.addr = x1.addr))
                        (.leaf (decide (x0.left = x1.left)))
                        (.leaf (false)))
                      (.leaf (false)))
                    (.leaf (false)))
                  (.leaf (false)))
                (.leaf (false)))))))
noncomputable def ref17_Same (q : Option Nat) (x0 : Tape) (x1 : Tape) : Option Bool := (Tref17_Same q x0 x1).run
theorem leref17_Same (k : Nat) (x0 : Tape) (x1 : Tape) : Le (ref17_Same (some k) x0 x1) (ref17_Same none x0 x1) := (TLe.opt (leref17_SameTexts k _ _) fun _ => TLe.rfl)
noncomputable def Aref17_Same : Arg U (Tape × Tape × Unit) := aA cTape (aA cTape (aNil))
noncomputable def Rref17_Same (r : Bool) : List (V U) × List (Blk U) := ([vO cBool r], [])
noncomputable def Sref17_Same : List (V U) → List (Blk U) → Option (FnOut U) := mkSpec Aref17_Same bNil (fun x _ => ref17_Same none x.1 x.2.1) Rref17_Same
noncomputable def Eref17_Same : Env U := { P := Tryd.prog, cd := cd, fns := fns17, lps := noL, frz := fun _r => false, nt := 79, n0 := 0 }
theorem runref17_Same (x : Tape × Tape × Unit) (g : Unit) : execF Eref17_Same Tryd.f18 (Aref17_Same.enc x) (bNil.enc g) = (Tref17_Same none x.1 x.2.1).map Rref17_Same := by kernel_rfl
theorem okref17_Same : FnOk Tryd.prog cd 18 Sref17_Same := mk_ok (E := Eref17_Same) cd_ok fns17_ok Tryd.func18 (by kernel_rfl) (noLoops_body (by kernel_rfl)) (aA_ok cTape_ok (aA_ok cTape_ok (aNil_ok))) bNil_ok (T := fun x _ => Tref17_Same none x.1 x.2.1) (fun _ _ => rfl) runref17_Same
noncomputable def fns18 := addF 18 true Sref17_Same fns17
theorem fns18_ok : ∀ f q t, fns18 f = some (q, t) → FnOk Tryd.prog cd f t := addF_ok okref17_Same fns17_ok
/-- emulator/emulatorref23.Diff -/
structure Sref23_Diff_0 where
  t8 : Int
  b0 : (List (List UInt8))
  b1 : (List Bool)
  b2 : (List (List UInt8))
noncomputable def Wref23_Diff_0 (s : Sref23_Diff_0) : Tree (Sref23_Diff_0 ⊕ (List (List UInt8))) :=
  .ite (decide (s.t8 < (s.b0.length : Int)))
    (.ite (decide (0 ≤ s.t8))
      (.ite (decide (s.t8 < (s.b1.length : Int)))
        (.opt Bool (s.b1[(s.t8).toNat]?) fun y77 =>
          .ite (!y77)
            (.ite (decide (0 ≤ s.t8))
              (.ite (decide (s.t8 < (s.b0.length : Int)))
                (.opt (List UInt8) (s.b0[(s.t8).toNat]?) fun y78 =>
                  .ite (decide ((s.b2.length + ([y78]).length) * 16 ≤ 140737488355328))
                    (.leaf (.inl (Sref23_Diff_0.mk (IntKind.wrap .i64 (s.t8 + (1 : Int))) s.b0 s.b1 (s.b2 ++ ([y78])))))
                    .fail)
                .fail)
              .fail)
            (.leaf (.inl (Sref23_Diff_0.mk (IntKind.wrap .i64 (s.t8 + (1 : Int))) s.b0 s.b1 s.b2))))
        .fail)
      .fail)
    (.leaf (.inr s.b2))
noncomputable def Lref23_Diff_0 (q : Option Nat) (s : Sref23_Diff_0) : Option (List (List UInt8)) := limQ q (fun s => (Wref23_Diff_0 s).run) s
theorem leLref23_Diff_0 (k : Nat) (s : Sref23_Diff_0) : Le (Lref23_Diff_0 (some k) s) (Lref23_Diff_0 none s) := limQ_le (fun _ => Le.rfl) s
noncomputable def Tref23_Diff (q : Option Nat) (x0 : Machine) (x1 : Machine) : Tree (List (List UInt8)) :=
  .opt Bool (ref08_Same q x0.mem x1.mem) fun r72 =>
    .opt Bool (ref08_Same q x0.bad x1.bad) fun r73 =>
      .opt Bool (ref23_SameLines q x0.lines x1.lines) fun r74 =>
        .opt Bool (ref23_SameDisk q x0.disk x1.disk) fun r75 =>
          .opt Bool (ref17_Same q x0.tape x1.tape) fun r76 =>
            .opt (List (List UInt8)) (Lref23_Diff_0 q (Sref23_Diff_0.mk (0 : Int) ([([67, 112, 117] : List UInt8), ([77, 101, 109] : List UInt8), ([66, 97, 100] : List UInt8), ([77, 109, 117] : List UInt8), ([67, 108, 111, 99, 107] : List UInt8), ([76, 105, 110, 101, 115] : List UInt8), ([68, 105, 115, 107] : List UInt8), ([84, 97, 112, 101] : List UInt8), ([78, 111, 119] : List UInt8), ([72, 97, 108, 116, 101, 100] : List UInt8), ([87, 97, 105, 116, 105, 110, 103] : List UInt8), ([80, 111, 119, 101, 114] : List UInt8), ([80, 111, 119, 101, 114, 84, 114, 97, 112] : List UInt8)]) ([((decide (x0.cpu.r = x1.cpu.r)) && ((decide (x0.cpu.sP = x1.cpu.sP)) && ((decide (x0.cpu.pC = x1.cpu.pC)) && (decide (x0.cpu.pSW = x1.cpu.pSW))))), r72, r73, ((x0.mmu.on == x1.mmu.on) && ((decide (x0.mmu.pages = x1.mmu.pages)) && ((decide (x0.mmu.status = x1.mmu.status)) && (decide (x0.mmu.addr = x1.mmu.addr))))), ((x0.clock.enable == x1.clock.enable) && ((x0.clock.ready == x1.clock.ready) && ((decide (x0.clock.period = x1.clock.period)) && (decide (x0.clock.left = x1.clock.left))))), r74, r75, r76, decide (x0.now = x1.now), (x0.halted == x1.halted), (x0.waiting == x1.waiting), decide (x0.power = x1.power), (x0.powerTrap == x1.powerTrap)]) ([]))) fun l79 =>
              .leaf (l79)
noncomputable def ref23_Diff (q : Option Nat) (x0 : Machine) (x1 : Machine) : Option (List (List UInt8)) := (Tref23_Diff q x0 x1).run
theorem leref23_Diff (k : Nat) (x0 : Machine) (x1 : Machine) : Le (ref23_Diff (some k) x0 x1) (ref23_Diff none x0 x1) := (TLe.opt (leref08_Same k _ _) fun _ => (TLe.opt (leref08_Same k _ _) fun _ => (TLe.opt (leref23_SameLines k _ _) fun _ => (TLe.opt (leref23_SameDisk k _ _) fun _ => (TLe.opt (leref17_Same k _ _) fun _ => (TLe.opt (leLref23_Diff_0 k _) fun _ => TLe.rfl))))))
noncomputable def Aref23_Diff : Arg U (Machine × Machine × Unit) := aA cMachine (aA cMachine (aNil))
noncomputable def Rref23_Diff (r : (List (List UInt8))) : List (V U) × List (Blk U) := ([vO (cSl 9) r], [])
noncomputable def Sref23_Diff : List (V U) → List (Blk U) → Option (FnOut U) := mkSpec Aref23_Diff bNil (fun x _ => ref23_Diff none x.1 x.2.1) Rref23_Diff
noncomputable def Pref23_Diff_0 (x : (Unit) × (Unit) × (Unit) × (Int × Unit) × Unit) (g : (List (List UInt8)) × (List Bool) × (List (List UInt8)) × Unit) : Sref23_Diff_0 := Sref23_Diff_0.mk x.2.2.2.1.1 g.1 g.2.1 g.2.2.1
noncomputable def tAref23_Diff_0 : Tms U ((Unit) × (Unit) × (Unit) × (Int × Unit) × Unit) := tO 5 (cK (.row 0 0) (cUnit)) (tO 6 (cK (.row 1 0) (cUnit)) (tO 7 (cK (.row 2 0) (cUnit)) (tO 8 (cPair (cInt .i64) (cUnit)) (tNil))))
noncomputable def tBref23_Diff_0 : Bls U ((List (List UInt8)) × (List Bool) × (List (List UInt8)) × Unit) := bRv 9 0 (bRv 4 0 (bRv 9 0 (bNil)))
noncomputable def eSref23_Diff_0 (s : Sref23_Diff_0) : St U := { tm := [(5, .v (vO (cK (.row 0 0) (cUnit)) (()))), (6, .v (vO (cK (.row 1 0) (cUnit)) (()))), (7, .v (vO (cK (.row 2 0) (cUnit)) (()))), (8, .v (vO (cPair (cInt .i64) (cUnit)) (s.t8, ())))], hp := [.row 9 0 s.b0, .row 4 0 s.b1, .row 9 0 s.b2] }
noncomputable def xSref23_Diff_0 (r : (List (List UInt8))) : Ex × St U := (.exit 0, { tm := [(7, .v (vO (cK (.row 0 0) (cUnit)) (())))], hp := [.row 9 0 r] })
noncomputable def xTref23_Diff_0 (r : (List (List UInt8))) : Tree (Ex × St U) := .leaf (xSref23_Diff_0 r)
noncomputable def href23_Diff_0 : Hd := { keep := [5, 6, 7, 8], xkeep := [4, 7], own := true }
noncomputable def Eref23_Diff : Env U := { P := Tryd.prog, cd := cd, fns := fns18, lps := (addL 0 href23_Diff_0 (mkLoop tAref23_Diff_0 tBref23_Diff_0 Pref23_Diff_0 (Lref23_Diff_0 none) xTref23_Diff_0) noL), frz := fun _r => false, nt := 95, n0 := 0 }
noncomputable def Bref23_Diff_0 : Code := (loopAt (Tryd.f7.body.getD .skip) 0 0).getD .skip
theorem roundref23_Diff_0 (s : Sref23_Diff_0) : round Eref23_Diff href23_Diff_0 Bref23_Diff_0 0 (eSref23_Diff_0 s) = (Wref23_Diff_0 s).map (sumE eSref23_Diff_0 xSref23_Diff_0) := by kernel_rfl
theorem lpref23_Diff_0 : LpOk Eref23_Diff Bref23_Diff_0 0 := mkLoop_ok (A := tAref23_Diff_0) (B := tBref23_Diff_0) (f := Pref23_Diff_0) (L := Lref23_Diff_0 none) (tO_ok (cK_ok cUnit_ok) (tO_ok (cK_ok cUnit_ok) (tO_ok (cK_ok cUnit_ok) (tO_ok (cPair_ok (cInt_ok .i64) cUnit_ok) tNil_ok)))) (bRv_ok (bRv_ok (bRv_ok bNil_ok))) (enc := eSref23_Diff_0) (out := xTref23_Diff_0) (outS := xSref23_Diff_0) (step := Wref23_Diff_0) (fun _ => rfl) (fun _ _ => by kernel_rfl) (by kernel_rfl) (fun _ => rfl) roundref23_Diff_0
theorem runref23_Diff (x : Machine × Machine × Unit) (g : Unit) : execF Eref23_Diff Tryd.f7 (Aref23_Diff.enc x) (bNil.enc g) = (Tref23_Diff none x.1 x.2.1).map Rref23_Diff := by kernel_rfl
theorem okref23_Diff : FnOk Tryd.prog cd 7 Sref23_Diff := mk_ok (E := Eref23_Diff) cd_ok fns18_ok Tryd.func7 (by kernel_rfl) (loops_of (addL_ok lpref23_Diff_0 noL_ok)) (aA_ok cMachine_ok (aA_ok cMachine_ok (aNil_ok))) bNil_ok (T := fun x _ => Tref23_Diff none x.1 x.2.1) (fun _ _ => rfl) runref23_Diff
noncomputable def fns7 := addF 7 true Sref23_Diff fns18
theorem fns7_ok : ∀ f q t, fns7 f = some (q, t) → FnOk Tryd.prog cd f t := addF_ok okref23_Diff fns18_ok
/-- emulator/save.Same -/
noncomputable def Tsave_Same (q : Option Nat) (x0 : Machine) (x1 : Machine) : Tree Bool :=
  .opt (List (List UInt8)) (save_Diff q x0 x1) fun r80 =>
    .leaf (decide ((r80.length : Int) = (0 : Int)))
noncomputable def save_Same (q : Option Nat) (x0 : Machine) (x1 : Machine) : Option Bool := (Tsave_Same q x0 x1).run
theorem lesave_Same (k : Nat) (x0 : Machine) (x1 : Machine) : Le (save_Same (some k) x0 x1) (save_Same none x0 x1) := (TLe.opt (lesave_Diff k _ _) fun _ => TLe.rfl)
noncomputable def Asave_Same : Arg U (Machine × Machine × Unit) := aA cMachine (aA cMachine (aNil))
noncomputable def Rsave_Same (r : Bool) : List (V U) × List (Blk U) := ([vO cBool r], [])
noncomputable def Ssave_Same : List (V U) → List (Blk U) → Option (FnOut U) := mkSpec Asave_Same bNil (fun x _ => save_Same none x.1 x.2.1) Rsave_Same
noncomputable def Esave_Same : Env U := { P := Tryd.prog, cd := cd, fns := fns7, lps := noL, frz := fun _r => false, nt := 10, n0 := 0 }
theorem runsave_Same (x : Machine × Machine × Unit) (g : Unit) : execF Esave_Same Tryd.f8 (Asave_Same.enc x) (bNil.enc g) = (Tsave_Same none x.1 x.2.1).map Rsave_Same := by kernel_rfl
theorem oksave_Same : FnOk Tryd.prog cd 8 Ssave_Same := mk_ok (E := Esave_Same) cd_ok fns7_ok Tryd.func8 (by kernel_rfl) (noLoops_body (by kernel_rfl)) (aA_ok cMachine_ok (aA_ok cMachine_ok (aNil_ok))) bNil_ok (T := fun x _ => Tsave_Same none x.1 x.2.1) (fun _ _ => rfl) runsave_Same
noncomputable def fns8 := addF 8 true Ssave_Same fns7
theorem fns8_ok : ∀ f q t, fns8 f = some (q, t) → FnOk Tryd.prog cd f t := addF_ok oksave_Same fns7_ok
/-- emulator/memory.sized -/
noncomputable def Tmemory_sized (x0 : Int) : Tree Bool :=
  .ite (decide ((256 : Int) ≤ x0))
    (.ite (decide (x0 ≤ (32768 : Int)))
      (.ite (decide ((64 : Int) = 0))
        .fail
        (.leaf (decide (((x0).tmod (64 : Int)) = (0 : Int)))))
      (.leaf (false)))
    (.leaf (false))
noncomputable def memory_sized (x0 : Int) : Option Bool := (Tmemory_sized x0).run
noncomputable def Amemory_sized : Arg U (Int × Unit) := aO (cInt .i64) (aNil)
noncomputable def Rmemory_sized (r : Bool) : List (V U) × List (Blk U) := ([vO cBool r], [])
noncomputable def Smemory_sized : List (V U) → List (Blk U) → Option (FnOut U) := mkSpec Amemory_sized bNil (fun x _ => memory_sized x.1) Rmemory_sized
noncomputable def Ememory_sized : Env U := { P := Tryd.prog, cd := cd, fns := fns8, lps := noL, frz := fun _r => false, nt := 14, n0 := 0 }
theorem runmemory_sized (x : Int × Unit) (g : Unit) : execF Ememory_sized Tryd.f45 (Amemory_sized.enc x) (bNil.enc g) = (Tmemory_sized x.1).map Rmemory_sized := by kernel_rfl
theorem okmemory_sized : FnOk Tryd.prog cd 45 Smemory_sized := mk_ok (E := Ememory_sized) cd_ok fns8_ok Tryd.func45 (by kernel_rfl) (noLoops_body (by kernel_rfl)) (aO_ok (cInt_ok .i64) (aNil_ok)) bNil_ok (T := fun x _ => Tmemory_sized x.1) (fun _ _ => rfl) runmemory_sized
noncomputable def fns45 := addF 45 true Smemory_sized fns8
theorem fns45_ok : ∀ f q t, fns45 f = some (q, t) → FnOk Tryd.prog cd f t := addF_ok okmemory_sized fns8_ok
/-- emulator/memory.New -/
noncomputable def Tmemory_New (x0 : Int) : Tree ((List Int) × Int) :=
  .opt Bool (memory_sized x0) fun r81 =>
    .ite (!r81)
      (.leaf (([], (1 : Int))))
      (.ite (decide ((2 : Int) = 0))
        .fail
        (.ite (decide (IntKind.wrap .i64 ((x0).tdiv (2 : Int)) = IntKind.wrap .i64 ((x0).tdiv (2 : Int))))
          (.ite (decide (0 ≤ IntKind.wrap .i64 ((x0).tdiv (2 : Int))))
            (.ite (decide ((8 : Int) * (IntKind.wrap .i64 ((x0).tdiv (2 : Int))) ≤ 281474976710656))
              (.leaf ((List.replicate (IntKind.wrap .i64 ((x0).tdiv (2 : Int))).toNat (0 : Int), (0 : Int))))
              .fail)
            .fail)
          .fail))
noncomputable def memory_New (x0 : Int) : Option ((List Int) × Int) := (Tmemory_New x0).run
noncomputable def Amemory_New : Arg U (Int × Unit) := aO (cInt .i64) (aNil)
noncomputable def Rmemory_New (r : ((List Int) × Int)) : List (V U) × List (Blk U) := ([vO (cSl 3) r.1, vO (cInt .i64) r.2], [])
noncomputable def Smemory_New : List (V U) → List (Blk U) → Option (FnOut U) := mkSpec Amemory_New bNil (fun x _ => memory_New x.1) Rmemory_New
noncomputable def Ememory_New : Env U := { P := Tryd.prog, cd := cd, fns := fns45, lps := noL, frz := fun _r => false, nt := 10, n0 := 0 }
theorem runmemory_New (x : Int × Unit) (g : Unit) : execF Ememory_New Tryd.f24 (Amemory_New.enc x) (bNil.enc g) = (Tmemory_New x.1).map Rmemory_New := by kernel_rfl
theorem okmemory_New : FnOk Tryd.prog cd 24 Smemory_New := mk_ok (E := Ememory_New) cd_ok fns45_ok Tryd.func24 (by kernel_rfl) (noLoops_body (by kernel_rfl)) (aO_ok (cInt_ok .i64) (aNil_ok)) bNil_ok (T := fun x _ => Tmemory_New x.1) (fun _ _ => rfl) runmemory_New
noncomputable def fns24 := addF 24 true Smemory_New fns45
theorem fns24_ok : ∀ f q t, fns24 f = some (q, t) → FnOk Tryd.prog cd f t := addF_ok okmemory_New fns45_ok
/-- strings.Repeat -/
noncomputable def strings_Repeat (x0 : (List UInt8)) (x1 : Int) : Option (List UInt8) := repF x0 x1
noncomputable def Sstrings_Repeat : List (V U) → List (Blk U) → Option (FnOut U) := mkSpec (aO cStr (aO (cInt .i64) aNil) : Arg U (List UInt8 × Int × Unit)) bNil (fun x _ => strings_Repeat x.1 x.2.1) fun r => ([vO cStr r], [])
end Go.Proofs.YtiafliookmnjoaaDoor
namespace Go.Proofs
open Go.Shelf
shelf_lay Lays.n105 Nm 105 at Tryd as Tryd.lays46
theorem Tryd.extra46 : Builder.Extra Tryd.prog Tryd.lays46_ren where
  sizeBuilder := by kernel_rfl
  liesBuilder := by kernel_rfl
  t5 := Tryd.underlying5
  a5 := Tryd.isAgg5
  z5 := Tryd.sizeOf5
  v5 := Tryd.zeroValue5
  infoByte := by kernel_rfl
  cellsByte := by kernel_rfl
  sizeByte := by kernel_rfl
  neB5 := by decide
end Go.Proofs
namespace Go.Proofs.YtiafliookmnjoaaDoor
open Go Go.Ab
theorem okstrings_Repeat : FnOk Tryd.prog cd 46 Sstrings_Repeat := rep_ok Tryd.lays46 Tryd.extra46 Tryd.func46 (by kernel_rfl) (by kernel_rfl) rfl
noncomputable def fns46 := addF 46 true Sstrings_Repeat fns24
theorem fns46_ok : ∀ f q t, fns46 f = some (q, t) → FnOk Tryd.prog cd f t := addF_ok okstrings_Repeat fns24_ok
/-- math/bits.Mul32 -/
noncomputable def Tmath_bits_Mul32 (x0 : Int) (x1 : Int) : Tree (Int × Int) :=
  .ite (decide (0 ≤ (32 : Int)))
    (.leaf ((IntKind.wrap .u32 (((IntKind.wrap .u64 ((IntKind.wrap .u64 x0) * (IntKind.wrap .u64 x1)))).fdiv (2 ^ (min ((32 : Int)).toNat 64))), IntKind.wrap .u32 (IntKind.wrap .u64 ((IntKind.wrap .u64 x0) * (IntKind.wrap .u64 x1))))))
    .fail
noncomputable def math_bits_Mul32 (x0 : Int) (x1 : Int) : Option (Int × Int) := (Tmath_bits_Mul32 x0 x1).run
noncomputable def Amath_bits_Mul32 : Arg U (Int × Int × Unit) := aO (cInt .u32) (aO (cInt .u32) (aNil))
noncomputable def Rmath_bits_Mul32 (r : (Int × Int)) : List (V U) × List (Blk U) := ([vO (cInt .u32) r.1, vO (cInt .u32) r.2], [])
noncomputable def Smath_bits_Mul32 : List (V U) → List (Blk U) → Option (FnOut U) := mkSpec Amath_bits_Mul32 bNil (fun x _ => math_bits_Mul32 x.1 x.2.1) Rmath_bits_Mul32
noncomputable def Emath_bits_Mul32 : Env U := { P := Tryd.prog, cd := cd, fns := fns46, lps := noL, frz := fun _r => false, nt := 17, n0 := 0 }
theorem runmath_bits_Mul32 (x : Int × Int × Unit) (g : Unit) : execF Emath_bits_Mul32 Tryd.f91 (Amath_bits_Mul32.enc x) (bNil.enc g) = (Tmath_bits_Mul32 x.1 x.2.1).map Rmath_bits_Mul32 := by kernel_rfl
theorem okmath_bits_Mul32 : FnOk Tryd.prog cd 91 Smath_bits_Mul32 := mk_ok (E := Emath_bits_Mul32) cd_ok fns46_ok Tryd.func91 (by kernel_rfl) (noLoops_body (by kernel_rfl)) (aO_ok (cInt_ok .u32) (aO_ok (cInt_ok .u32) (aNil_ok))) bNil_ok (T := fun x _ => Tmath_bits_Mul32 x.1 x.2.1) (fun _ _ => rfl) runmath_bits_Mul32
noncomputable def fns91 := addF 91 true Smath_bits_Mul32 fns46
theorem fns91_ok : ∀ f q t, fns91 f = some (q, t) → FnOk Tryd.prog cd f t := addF_ok okmath_bits_Mul32 fns46_ok
/-- math/bits.Mul64 -/
noncomputable def Tmath_bits_Mul64 (x0 : Int) (x1 : Int) : Tree (Int × Int) :=
  .ite (decide (0 ≤ (32 : Int)))
    (.ite (decide (0 ≤ (32 : Int)))
      (.ite (decide (0 ≤ (32 : Int)))
        (.ite (decide (0 ≤ (32 : Int)))
          (.ite (decide (0 ≤ (32 : Int)))
            (.leaf ((IntKind.wrap .u64 ((IntKind.wrap .u64 ((IntKind.wrap .u64 (((x0).fdiv (2 ^ (min ((32 : Int)).toNat 64))) * ((x1).fdiv (2 ^ (min ((32 : Int)).toNat 64))))) + (((IntKind.wrap .u64 ((IntKind.wrap .u64 (((x0).fdiv (2 ^ (min ((32 : Int)).toNat 64))) * (IntKind.wrap .u64 (((BitVec.ofInt 64 x1 &&& BitVec.ofInt 64 (4294967295 : Int)).toNat : Int))))) + (((IntKind.wrap .u64 ((IntKind.wrap .u64 (((BitVec.ofInt 64 x0 &&& BitVec.ofInt 64 (4294967295 : Int)).toNat : Int))) * (IntKind.wrap .u64 (((BitVec.ofInt 64 x1 &&& BitVec.ofInt 64 (4294967295 : Int)).toNat : Int)))))).fdiv (2 ^ (min ((32 : Int)).toNat 64)))))).fdiv (2 ^ (min ((32 : Int)).toNat 64))))) + (((IntKind.wrap .u64 ((IntKind.wrap .u64 (((BitVec.ofInt 64 (IntKind.wrap .u64 ((IntKind.wrap .u64 (((x0).fdiv (2 ^ (min ((32 : Int)).toNat 64))) * (IntKind.wrap .u64 (((BitVec.ofInt 64 x1 &&& BitVec.ofInt 64 (4294967295 : Int)).toNat : Int))))) + (((IntKind.wrap .u64 ((IntKind.wrap .u64 (((BitVec.ofInt 64 x0 &&& BitVec.ofInt 64 (4294967295 : Int)).toNat : Int))) * (IntKind.wrap .u64 (((BitVec.ofInt 64 x1 &&& BitVec.ofInt 64 (4294967295 : Int)).toNat : Int)))))).fdiv (2 ^ (min ((32 : Int)).toNat 64))))) &&& BitVec.ofInt 64 (4294967295 : Int)).toNat : Int))) + (IntKind.wrap .u64 ((IntKind.wrap .u64 (((BitVec.ofInt 64 x0 &&& BitVec.ofInt 64 (4294967295 : Int)).toNat : Int))) * ((x1).fdiv (2 ^ (min ((32 : Int)).toNat 64)))))))).fdiv (2 ^ (min ((32 : Int)).toNat 64)))), IntKind.wrap .u64 (x0 * x1))))
            .fail)
          .fail)
        .fail)
      .fail)
    .fail
noncomputable def math_bits_Mul64 (x0 : Int) (x1 : Int) : Option (Int × Int) := (Tmath_bits_Mul64 x0 x1).run
noncomputable def Amath_bits_Mul64 : Arg U (Int × Int × Unit) := aO (cInt .u64) (aO (cInt .u64) (aNil))
noncomputable def Rmath_bits_Mul64 (r : (Int × Int)) : List (V U) × List (Blk U) := ([vO (cInt .u64) r.1, vO (cInt .u64) r.2], [])
noncomputable def Smath_bits_Mul64 : List (V U) → List (Blk U) → Option (FnOut U) := mkSpec Amath_bits_Mul64 bNil (fun x _ => math_bits_Mul64 x.1 x.2.1) Rmath_bits_Mul64
noncomputable def Emath_bits_Mul64 : Env U := { P := Tryd.prog, cd := cd, fns := fns91, lps := noL, frz := fun _r => false, nt := 51, n0 := 0 }
theorem runmath_bits_Mul64 (x : Int × Int × Unit) (g : Unit) : execF Emath_bits_Mul64 Tryd.f92 (Amath_bits_Mul64.enc x) (bNil.enc g) = (Tmath_bits_Mul64 x.1 x.2.1).map Rmath_bits_Mul64 := by kernel_rfl
theorem okmath_bits_Mul64 : FnOk Tryd.prog cd 92 Smath_bits_Mul64 := mk_ok (E := Emath_bits_Mul64) cd_ok fns91_ok Tryd.func92 (by kernel_rfl) (noLoops_body (by kernel_rfl)) (aO_ok (cInt_ok .u64) (aO_ok (cInt_ok .u64) (aNil_ok))) bNil_ok (T := fun x _ => Tmath_bits_Mul64 x.1 x.2.1) (fun _ _ => rfl) runmath_bits_Mul64
noncomputable def fns92 := addF 92 true Smath_bits_Mul64 fns91
theorem fns92_ok : ∀ f q t, fns92 f = some (q, t) → FnOk Tryd.prog cd f t := addF_ok okmath_bits_Mul64 fns91_ok
/-- math/bits.Mul -/
noncomputable def Tmath_bits_Mul (x0 : Int) (x1 : Int) : Tree (Int × Int) :=
  .opt (Int × Int) (math_bits_Mul64 x0 x1) fun r82 =>
    .leaf ((r82.1, r82.2))
noncomputable def math_bits_Mul (x0 : Int) (x1 : Int) : Option (Int × Int) := (Tmath_bits_Mul x0 x1).run
noncomputable def Amath_bits_Mul : Arg U (Int × Int × Unit) := aO (cInt .u64) (aO (cInt .u64) (aNil))
noncomputable def Rmath_bits_Mul (r : (Int × Int)) : List (V U) × List (Blk U) := ([vO (cInt .u64) r.1, vO (cInt .u64) r.2], [])
noncomputable def Smath_bits_Mul : List (V U) → List (Blk U) → Option (FnOut U) := mkSpec Amath_bits_Mul bNil (fun x _ => math_bits_Mul x.1 x.2.1) Rmath_bits_Mul
noncomputable def Emath_bits_Mul : Env U := { P := Tryd.prog, cd := cd, fns := fns92, lps := noL, frz := fun _r => false, nt := 30, n0 := 0 }
theorem runmath_bits_Mul (x : Int × Int × Unit) (g : Unit) : execF Emath_bits_Mul Tryd.f74 (Amath_bits_Mul.enc x) (bNil.enc g) = (Tmath_bits_Mul x.1 x.2.1).map Rmath_bits_Mul := by kernel_rfl
theorem okmath_bits_Mul : FnOk Tryd.prog cd 74 Smath_bits_Mul := mk_ok (E := Emath_bits_Mul) cd_ok fns92_ok Tryd.func74 (by kernel_rfl) (noLoops_body (by kernel_rfl)) (aO_ok (cInt_ok .u64) (aO_ok (cInt_ok .u64) (aNil_ok))) bNil_ok (T := fun x _ => Tmath_bits_Mul x.1 x.2.1) (fun _ _ => rfl) runmath_bits_Mul
noncomputable def fns74 := addF 74 true Smath_bits_Mul fns92
theorem fns74_ok : ∀ f q t, fns74 f = some (q, t) → FnOk Tryd.prog cd f t := addF_ok okmath_bits_Mul fns92_ok
/-- slices.Repeat[[]string,string] -/
structure Sslices_Repeat_string_string_0 where
  t8 : Int
  b0 : (List (List UInt8))
noncomputable def Wslices_Repeat_string_string_0 (s : Sslices_Repeat_string_string_0) : Tree (Sslices_Repeat_string_string_0 ⊕ (List (List UInt8))) :=
  .ite (decide (s.t8 < (s.b0.length : Int)))
    (.ite (decide (0 ≤ s.t8))
      (.ite (decide (s.t8 ≤ ((s.b0.length : Nat) : Int)))
        (.ite (decide (0 ≤ s.t8))
          (.ite (decide (s.t8 ≤ ((s.b0.length : Nat) : Int)))
            .fail
            .fail)
          .fail)
        .fail)
      .fail)
    (.leaf (.inr s.b0))
noncomputable def Lslices_Repeat_string_string_0 (q : Option Nat) (s : Sslices_Repeat_string_string_0) : Option (List (List UInt8)) := limQ q (fun s => (Wslices_Repeat_string_string_0 s).run) s
theorem leLslices_Repeat_string_string_0 (k : Nat) (s : Sslices_Repeat_string_string_0) : Le (Lslices_Repeat_string_string_0 (some k) s) (Lslices_Repeat_string_string_0 none s) := limQ_le (fun _ => Le.rfl) s
noncomputable def Tslices_Repeat_string_string (q : Option Nat) (x0 : (List (List UInt8))) (x1 : Int) : Tree (List (List UInt8)) :=
  .ite (decide (x1 < (0 : Int)))
    .fail
    (.opt (Int × Int) (math_bits_Mul (IntKind.wrap .u64 (x0.length : Int)) (IntKind.wrap .u64 x1)) fun r83 =>
      .ite (decide ((0 : Int) < r83.1))
        .fail
        (.ite (decide ((9223372036854775807 : Int) < r83.2))
          .fail
          (.ite (decide (IntKind.wrap .i64 r83.2 = IntKind.wrap .i64 r83.2))
            (.ite (decide (0 ≤ IntKind.wrap .i64 r83.2))
              (.ite (decide ((16 : Int) * (IntKind.wrap .i64 r83.2) ≤ 281474976710656))
                (.opt (List (List UInt8)) (Lslices_Repeat_string_string_0 q (Sslices_Repeat_string_string_0.mk ((Nat.min x0.length (List.replicate (IntKind.wrap .i64 r83.2).toNat ([] : List UInt8)).length : Nat) : Int) (x0.take (List.replicate (IntKind.wrap .i64 r83.2).toNat ([] : List UInt8)).length ++ (List.replicate (IntKind.wrap .i64 r83.2).toNat ([] : List UInt8)).drop x0.length))) fun l84 =>
                  .leaf (l84))
                .fail)
              .fail)
            .fail)))
noncomputable def slices_Repeat_string_string (q : Option Nat) (x0 : (List (List UInt8))) (x1 : Int) : Option (List (List UInt8)) := (Tslices_Repeat_string_string q x0 x1).run
theorem leslices_Repeat_string_string (k : Nat) (x0 : (List (List UInt8))) (x1 : Int) : Le (slices_Repeat_string_string (some k) x0 x1) (slices_Repeat_string_string none x0 x1) := (TLe.ite TLe.rfl (TLe.opt Le.rfl fun _ => (TLe.ite TLe.rfl (TLe.ite TLe.rfl (TLe.ite (TLe.ite (TLe.ite (TLe.opt (leLslices_Repeat_string_string_0 k _) fun _ => TLe.rfl) TLe.rfl) TLe.rfl) TLe.rfl)))))
noncomputable def Aslices_Repeat_string_string : Arg U ((List (List UInt8)) × Int × Unit) := aO (cSl 9) (aO (cInt .i64) (aNil))
noncomputable def Rslices_Repeat_string_string (r : (List (List UInt8))) : List (V U) × List (Blk U) := ([vO (cSl 9) r], [])
noncomputable def Sslices_Repeat_string_string : List (V U) → List (Blk U) → Option (FnOut U) := mkSpec Aslices_Repeat_string_string bNil (fun x _ => slices_Repeat_string_string none x.1 x.2.1) Rslices_Repeat_string_string
noncomputable def Pslices_Repeat_string_string_0 (x : (Unit) × (Int × Unit) × Unit) (g : (List (List UInt8)) × Unit) : Sslices_Repeat_string_string_0 := Sslices_Repeat_string_string_0.mk x.2.1.1 g.1
noncomputable def tAslices_Repeat_string_string_0 : Tms U ((Unit) × (Int × Unit) × Unit) := tO 7 (cK (.row 0 0) (cUnit)) (tO 8 (cPair (cInt .i64) (cUnit)) (tNil))
noncomputable def tBslices_Repeat_string_string_0 : Bls U ((List (List UInt8)) × Unit) := bRv 9 0 (bNil)
noncomputable def eSslices_Repeat_string_string_0 (s : Sslices_Repeat_string_string_0) : St U := { tm := [(7, .v (vO (cK (.row 0 0) (cUnit)) (()))), (8, .v (vO (cPair (cInt .i64) (cUnit)) (s.t8, ())))], hp := [.row 9 0 s.b0] }
noncomputable def xSslices_Repeat_string_string_0 (r : (List (List UInt8))) : Ex × St U := (.exit 0, { tm := [(7, .v (vO (cK (.row 0 0) (cUnit)) (())))], hp := [.row 9 0 r] })
noncomputable def xTslices_Repeat_string_string_0 (r : (List (List UInt8))) : Tree (Ex × St U) := .leaf (xSslices_Repeat_string_string_0 r)
noncomputable def hslices_Repeat_string_string_0 : Hd := { keep := [7, 8], xkeep := [4, 7], own := false }
noncomputable def Eslices_Repeat_string_string : Env U := { P := Tryd.prog, cd := cd, fns := fns74, lps := (addL 0 hslices_Repeat_string_string_0 (mkLoop tAslices_Repeat_string_string_0 tBslices_Repeat_string_string_0 Pslices_Repeat_string_string_0 (Lslices_Repeat_string_string_0 none) xTslices_Repeat_string_string_0) noL), frz := fun _r => false, nt := 48, n0 := 0 }
noncomputable def Bslices_Repeat_string_string_0 : Code := (loopAt (Tryd.f47.body.getD .skip) 0 0).getD .skip
theorem roundslices_Repeat_string_string_0 (s : Sslices_Repeat_string_string_0) : round Eslices_Repeat_string_string hslices_Repeat_string_string_0 Bslices_Repeat_string_string_0 0 (eSslices_Repeat_string_string_0 s) = (Wslices_Repeat_string_string_0 s).map (sumE eSslices_Repeat_string_string_0 xSslices_Repeat_string_string_0) := by kernel_rfl
theorem lpslices_Repeat_string_string_0 : LpOk Eslices_Repeat_string_string Bslices_Repeat_string_string_0 0 := mkLoop_ok (A := tAslices_Repeat_string_string_0) (B := tBslices_Repeat_string_string_0) (f := Pslices_Repeat_string_string_0) (L := Lslices_Repeat_string_string_0 none) (tO_ok (cK_ok cUnit_ok) (tO_ok (cPair_ok (cInt_ok .i64) cUnit_ok) tNil_ok)) (bRv_ok bNil_ok) (enc := eSslices_Repeat_string_string_0) (out := xTslices_Repeat_string_string_0) (outS := xSslices_Repeat_string_string_0) (step := Wslices_Repeat_string_string_0) (fun _ => rfl) (fun _ _ => by kernel_rfl) (by kernel_rfl) (fun _ => rfl) roundslices_Repeat_string_string_0
theorem runslices_Repeat_string_string (x : (List (List UInt8)) × Int × Unit) (g : Unit) : execF Eslices_Repeat_string_string Tryd.f47 (Aslices_Repeat_string_string.enc x) (bNil.enc g) = (Tslices_Repeat_string_string none x.1 x.2.1).map Rslices_Repeat_string_string := by kernel_rfl
theorem okslices_Repeat_string_string : FnOk Tryd.prog cd 47 Sslices_Repeat_string_string := mk_ok (E := Eslices_Repeat_string_string) cd_ok fns74_ok Tryd.func47 (by kernel_rfl) (loops_of (addL_ok lpslices_Repeat_string_string_0 noL_ok)) (aO_ok (cSl_ok 9) (aO_ok (cInt_ok .i64) (aNil_ok))) bNil_ok (T := fun x _ => Tslices_Repeat_string_string none x.1 x.2.1) (fun _ _ => rfl) runslices_Repeat_string_string
noncomputable def fns47 := addF 47 true Sslices_Repeat_string_string fns74
theorem fns47_ok : ∀ f q t, fns47 f = some (q, t) → FnOk Tryd.prog cd f t := addF_ok okslices_Repeat_string_string fns74_ok
/-- emulator/drive.New -/
noncomputable def Tdrive_New (q : Option Nat) (x0 : Int) : Tree (Drive × Int) :=
  .ite (decide (x0 < (1 : Int)))
    (.leaf ((Drive.mk ([]) ([]), (2 : Int))))
    (.ite (decide ((256 : Int) < x0))
      (.leaf ((Drive.mk ([]) ([]), (2 : Int))))
      (.opt (List UInt8) (strings_Repeat ([0] : List UInt8) (128 : Int)) fun r86 =>
        .opt (List (List UInt8)) (slices_Repeat_string_string q ([r86]) x0) fun r87 =>
          .leaf ((Drive.mk r87 ([]), (0 : Int)))))
noncomputable def drive_New (q : Option Nat) (x0 : Int) : Option (Drive × Int) := (Tdrive_New q x0).run
theorem ledrive_New (k : Nat) (x0 : Int) : Le (drive_New (some k) x0) (drive_New none x0) := (TLe.ite TLe.rfl (TLe.ite TLe.rfl (TLe.opt Le.rfl fun _ => (TLe.opt (leslices_Repeat_string_string k _ _) fun _ => TLe.rfl))))
noncomputable def Adrive_New : Arg U (Int × Unit) := aO (cInt .i64) (aNil)
noncomputable def Rdrive_New (r : (Drive × Int)) : List (V U) × List (Blk U) := ([vA cDrive r.1, vO (cInt .i64) r.2], [])
noncomputable def Sdrive_New : List (V U) → List (Blk U) → Option (FnOut U) := mkSpec Adrive_New bNil (fun x _ => drive_New none x.1) Rdrive_New
noncomputable def Edrive_New : Env U := { P := Tryd.prog, cd := cd, fns := (addF 47 false (frzSpec Sslices_Repeat_string_string) fns47), lps := noL, frz := fun _r => false, nt := 18, n0 := 0 }
theorem rundrive_New (x : Int × Unit) (g : Unit) : execF Edrive_New Tryd.f25 (Adrive_New.enc x) (bNil.enc g) = (Tdrive_New none x.1).map Rdrive_New := by kernel_rfl
theorem okdrive_New : FnOk Tryd.prog cd 25 Sdrive_New := mk_ok (E := Edrive_New) cd_ok (addF_ok (fnOk_frz cd_ok (mkSpec_out fun _ => rfl) okslices_Repeat_string_string) fns47_ok) Tryd.func25 (by kernel_rfl) (noLoops_body (by kernel_rfl)) (aO_ok (cInt_ok .i64) (aNil_ok)) bNil_ok (T := fun x _ => Tdrive_New none x.1) (fun _ _ => rfl) rundrive_New
noncomputable def fns25 := addF 25 true Sdrive_New fns47
theorem fns25_ok : ∀ f q t, fns25 f = some (q, t) → FnOk Tryd.prog cd f t := addF_ok okdrive_New fns47_ok
end Go.Proofs.YtiafliookmnjoaaDoor
namespace Go.Proofs
shelf_lay_g SlLaysE0.n41 Slgn 41 at Tryd 51 as Tryd.lays51
end Go.Proofs
namespace Go.Proofs.YtiafliookmnjoaaDoor
open Go Go.Ab
theorem okslices_Clone_string_string : FnOk Tryd.prog cd 51 (cloneSpec 9 16) := clone_ok2 cd_ok Tryd.lays51 Tryd.func51 (by kernel_rfl) (by kernel_rfl) rfl rfl (by kernel_rfl)
end Go.Proofs.YtiafliookmnjoaaDoor
namespace Go.Proofs
shelf_lay_g SlLaysE0.n41 Slgn 41 at Tryd 77 as Tryd.lays77
end Go.Proofs
namespace Go.Proofs.YtiafliookmnjoaaDoor
open Go Go.Ab
theorem okslices_Clone_int_int : FnOk Tryd.prog cd 77 (cloneSpec 3 8) := clone_ok2 cd_ok Tryd.lays77 Tryd.func77 (by kernel_rfl) (by kernel_rfl) rfl rfl (by kernel_rfl)
/-- emulator/diskctl.cloned -/
noncomputable def Tdiskctl_cloned (x0 : Drive) : Tree Drive :=
  .opt (List (List UInt8)) (cloneF 16 x0.sectors) fun r91 =>
    .opt (List Int) (cloneF 8 x0.bad) fun r92 =>
      .leaf (Drive.mk r91 r92)
noncomputable def diskctl_cloned (x0 : Drive) : Option Drive := (Tdiskctl_cloned x0).run
noncomputable def Adiskctl_cloned : Arg U (Drive × Unit) := aA cDrive (aNil)
noncomputable def Rdiskctl_cloned (r : Drive) : List (V U) × List (Blk U) := ([vA cDrive r], [])
noncomputable def Sdiskctl_cloned : List (V U) → List (Blk U) → Option (FnOut U) := mkSpec Adiskctl_cloned bNil (fun x _ => diskctl_cloned x.1) Rdiskctl_cloned
noncomputable def Ediskctl_cloned : Env U := { P := Tryd.prog, cd := cd, fns := (addF 77 false (cloneSpec 3 8) (addF 51 false (cloneSpec 9 16) fns25)), lps := noL, frz := fun _r => false, nt := 10, n0 := 0, fps := fun _r _i => bif Nat.beq _r 1 && Nat.beq _i 2 then .wr [] 2 else bif Nat.beq _r 1 && Nat.beq _i 3 then .rd [] else bif Nat.beq _r 1 && Nat.beq _i 4 then .rd [0] else .none }
theorem rundiskctl_cloned (x : Drive × Unit) (g : Unit) : execF Ediskctl_cloned Tryd.f48 (Adiskctl_cloned.enc x) (bNil.enc g) = (Tdiskctl_cloned x.1).map Rdiskctl_cloned := by kernel_rfl
theorem okdiskctl_cloned : FnOk Tryd.prog cd 48 Sdiskctl_cloned := mk_ok (E := Ediskctl_cloned) cd_ok (addF_ok okslices_Clone_int_int (addF_ok okslices_Clone_string_string fns25_ok)) Tryd.func48 (by kernel_rfl) (noLoops_body (by kernel_rfl)) (aA_ok cDrive_ok (aNil_ok)) bNil_ok (T := fun x _ => Tdiskctl_cloned x.1) (fun _ _ => rfl) rundiskctl_cloned
noncomputable def fns48 := addF 48 true Sdiskctl_cloned fns25
theorem fns48_ok : ∀ f q t, fns48 f = some (q, t) → FnOk Tryd.prog cd f t := addF_ok okdiskctl_cloned fns25_ok
/-- emulator/diskctl.New -/
noncomputable def Tdiskctl_New (x0 : Drive) : Tree Disk :=
  .opt Drive (diskctl_cloned x0) fun r93 =>
    .leaf (Disk.mk r93 false true false 0 0 0 0 0)
noncomputable def diskctl_New (x0 : Drive) : Option Disk := (Tdiskctl_New x0).run
noncomputable def Adiskctl_New : Arg U (Drive × Unit) := aA cDrive (aNil)
noncomputable def Rdiskctl_New (r : Disk) : List (V U) × List (Blk U) := ([vA cDisk r], [])
noncomputable def Sdiskctl_New : List (V U) → List (Blk U) → Option (FnOut U) := mkSpec Adiskctl_New bNil (fun x _ => diskctl_New x.1) Rdiskctl_New
noncomputable def Ediskctl_New : Env U := { P := Tryd.prog, cd := cd, fns := fns48, lps := noL, frz := fun _r => false, nt := 6, n0 := 0 }
theorem rundiskctl_New (x : Drive × Unit) (g : Unit) : execF Ediskctl_New Tryd.f26 (Adiskctl_New.enc x) (bNil.enc g) = (Tdiskctl_New x.1).map Rdiskctl_New := by kernel_rfl
theorem okdiskctl_New : FnOk Tryd.prog cd 26 Sdiskctl_New := mk_ok (E := Ediskctl_New) cd_ok fns48_ok Tryd.func26 (by kernel_rfl) (noLoops_body (by kernel_rfl)) (aA_ok cDrive_ok (aNil_ok)) bNil_ok (T := fun x _ => Tdiskctl_New x.1) (fun _ _ => rfl) rundiskctl_New
noncomputable def fns26 := addF 26 true Sdiskctl_New fns48
theorem fns26_ok : ∀ f q t, fns26 f = some (q, t) → FnOk Tryd.prog cd f t := addF_ok okdiskctl_New fns48_ok
/-- emulator/clock.New -/
noncomputable def Tclock_New (x0 : Int) : Tree (Clock × Int) :=
  .ite (decide (x0 < (1 : Int)))
    (.leaf ((Clock.mk false false 0 0, (2 : Int))))
    (.ite (decide ((65535 : Int) < x0))
      (.leaf ((Clock.mk false false 0 0, (2 : Int))))
      (.leaf ((Clock.mk false false x0 x0, (0 : Int)))))
noncomputable def clock_New (x0 : Int) : Option (Clock × Int) := (Tclock_New x0).run
noncomputable def Aclock_New : Arg U (Int × Unit) := aO (cInt .i64) (aNil)
noncomputable def Rclock_New (r : (Clock × Int)) : List (V U) × List (Blk U) := ([vA cClock r.1, vO (cInt .i64) r.2], [])
noncomputable def Sclock_New : List (V U) → List (Blk U) → Option (FnOut U) := mkSpec Aclock_New bNil (fun x _ => clock_New x.1) Rclock_New
noncomputable def Eclock_New : Env U := { P := Tryd.prog, cd := cd, fns := fns26, lps := noL, frz := fun _r => false, nt := 14, n0 := 0 }
theorem runclock_New (x : Int × Unit) (g : Unit) : execF Eclock_New Tryd.f27 (Aclock_New.enc x) (bNil.enc g) = (Tclock_New x.1).map Rclock_New := by kernel_rfl
theorem okclock_New : FnOk Tryd.prog cd 27 Sclock_New := mk_ok (E := Eclock_New) cd_ok fns26_ok Tryd.func27 (by kernel_rfl) (noLoops_body (by kernel_rfl)) (aO_ok (cInt_ok .i64) (aNil_ok)) bNil_ok (T := fun x _ => Tclock_New x.1) (fun _ _ => rfl) runclock_New
noncomputable def fns27 := addF 27 true Sclock_New fns26
theorem fns27_ok : ∀ f q t, fns27 f = some (q, t) → FnOk Tryd.prog cd f t := addF_ok okclock_New fns26_ok
/-- emulator/tape.long -/
noncomputable def Ttape_long (x0 : (List UInt8)) : Tree Bool :=
  .leaf (decide ((512 : Int) < (x0.length : Int)))
noncomputable def tape_long (x0 : (List UInt8)) : Option Bool := (Ttape_long x0).run
noncomputable def Atape_long : Arg U ((List UInt8) × Unit) := aO cStr (aNil)
noncomputable def Rtape_long (r : Bool) : List (V U) × List (Blk U) := ([vO cBool r], [])
noncomputable def Stape_long : List (V U) → List (Blk U) → Option (FnOut U) := mkSpec Atape_long bNil (fun x _ => tape_long x.1) Rtape_long
noncomputable def Etape_long : Env U := { P := Tryd.prog, cd := cd, fns := fns27, lps := noL, frz := fun _r => false, nt := 6, n0 := 0 }
theorem runtape_long (x : (List UInt8) × Unit) (g : Unit) : execF Etape_long Tryd.f50 (Atape_long.enc x) (bNil.enc g) = (Ttape_long x.1).map Rtape_long := by kernel_rfl
theorem oktape_long : FnOk Tryd.prog cd 50 Stape_long := mk_ok (E := Etape_long) cd_ok fns27_ok Tryd.func50 (by kernel_rfl) (noLoops_body (by kernel_rfl)) (aO_ok cStr_ok (aNil_ok)) bNil_ok (T := fun x _ => Ttape_long x.1) (fun _ _ => rfl) runtape_long
noncomputable def fns50 := addF 50 true Stape_long fns27
theorem fns50_ok : ∀ f q t, fns50 f = some (q, t) → FnOk Tryd.prog cd f t := addF_ok oktape_long fns27_ok
/-- slices.IndexFunc[[]string,string] -/
structure Sslices_IndexFunc_string_string_0 where
  t0 : (List (List UInt8))
  t7 : Int
  t8 : Int
noncomputable def Wslices_IndexFunc_string_string_0 (s : Sslices_IndexFunc_string_string_0) : Tree (Sslices_IndexFunc_string_string_0 ⊕ (Int ⊕ Unit)) :=
  .ite (decide (s.t8 < s.t7))
    (.ite (decide (0 ≤ s.t8))
      (.opt (List UInt8) (s.t0[(s.t8).toNat]?) fun y94 =>
        .opt Bool (tape_long y94) fun r95 =>
          .ite (r95)
            (.leaf (.inr (.inl s.t8)))
            (.leaf (.inl (Sslices_IndexFunc_string_string_0.mk s.t0 s.t7 (IntKind.wrap .i64 (s.t8 + (1 : Int)))))))
      .fail)
    (.leaf (.inr (.inr ())))
noncomputable def Lslices_IndexFunc_string_string_0 (q : Option Nat) (s : Sslices_IndexFunc_string_string_0) : Option (Int ⊕ Unit) := limQ q (fun s => (Wslices_IndexFunc_string_string_0 s).run) s
theorem leLslices_IndexFunc_string_string_0 (k : Nat) (s : Sslices_IndexFunc_string_string_0) : Le (Lslices_IndexFunc_string_string_0 (some k) s) (Lslices_IndexFunc_string_string_0 none s) := limQ_le (fun _ => Le.rfl) s
noncomputable def Tslices_IndexFunc_string_string (q : Option Nat) (x0 : (List (List UInt8))) : Tree Int :=
  .opt (Int ⊕ Unit) (Lslices_IndexFunc_string_string_0 q (Sslices_IndexFunc_string_string_0.mk x0 (x0.length : Int) (0 : Int))) fun l96 =>
    .ite (l96.isLeft)
      (.opt Int (l96.getLeft?) fun a97 =>
        .leaf (a97))
      (.opt Unit (l96.getRight?) fun b98 =>
        .leaf ((-1 : Int)))
noncomputable def slices_IndexFunc_string_string (q : Option Nat) (x0 : (List (List UInt8))) : Option Int := (Tslices_IndexFunc_string_string q x0).run
theorem leslices_IndexFunc_string_string (k : Nat) (x0 : (List (List UInt8))) : Le (slices_IndexFunc_string_string (some k) x0) (slices_IndexFunc_string_string none x0) := (TLe.opt (leLslices_IndexFunc_string_string_0 k _) fun _ => TLe.rfl)
noncomputable def Aslices_IndexFunc_string_string : Arg U ((List (List UInt8)) × Unit) := aO (cSl 9) (aF 50 [] (aNil))
noncomputable def Gslices_IndexFunc_string_string : Bls U (Unit) := bNil
noncomputable def Rslices_IndexFunc_string_string (_x : (List (List UInt8)) × Unit) (_g : Unit) (r : Int) : List (V U) × List (Blk U) := ([vO (cPair (cInt .i64) (cUnit)) (r, ())], [])
noncomputable def Sslices_IndexFunc_string_string : List (V U) → List (Blk U) → Option (FnOut U) := mkSpecG Aslices_IndexFunc_string_string Gslices_IndexFunc_string_string (fun x _ => slices_IndexFunc_string_string none x.1) Rslices_IndexFunc_string_string
noncomputable def Pslices_IndexFunc_string_string_0 (x : ((List (List UInt8)) × Unit) × (Unit) × (Int × Unit) × (Int × Unit) × Unit) (_g : Unit) : Sslices_IndexFunc_string_string_0 := Sslices_IndexFunc_string_string_0.mk x.1.1 x.2.2.1.1 x.2.2.2.1.1
noncomputable def tAslices_IndexFunc_string_string_0 : Tms U (((List (List UInt8)) × Unit) × (Unit) × (Int × Unit) × (Int × Unit) × Unit) := tO 0 (cPair (cSl 9) (cUnit)) (tO 1 (cK2 (.fn 50 [] []) (cUnit)) (tO 7 (cPair (cInt .i64) (cUnit)) (tO 8 (cPair (cInt .i64) (cUnit)) (tNil))))
noncomputable def tBslices_IndexFunc_string_string_0 : Bls U (Unit) := bNil
noncomputable def eSslices_IndexFunc_string_string_0 (s : Sslices_IndexFunc_string_string_0) : St U := { tm := [(0, .v (vO (cPair (cSl 9) (cUnit)) (s.t0, ()))), (1, .v (vO (cK2 (.fn 50 [] []) (cUnit)) (()))), (7, .v (vO (cPair (cInt .i64) (cUnit)) (s.t7, ()))), (8, .v (vO (cPair (cInt .i64) (cUnit)) (s.t8, ())))], hp := [] }
noncomputable def xSslices_IndexFunc_string_string_0 : (Int ⊕ Unit) → Ex × St U
  | .inl r => (.ret, { tm := [(4, .v (vO (cPair (cInt .i64) (cUnit)) (r, ())))], hp := [] })
  | .inr r => (.exit 0, { tm := [], hp := [] })
noncomputable def xTslices_IndexFunc_string_string_0 (y : (Int ⊕ Unit)) : Tree (Ex × St U) := .ite y.isLeft (.opt Int y.getLeft? fun r => .leaf (.ret, { tm := [(4, .v (vO (cPair (cInt .i64) (cUnit)) (r, ())))], hp := [] })) (.opt Unit y.getRight? fun r => .leaf (.exit 0, { tm := [], hp := [] }))
noncomputable def hslices_IndexFunc_string_string_0 : Hd := { keep := [0, 1, 7, 8], xkeep := [4], own := false }
noncomputable def Eslices_IndexFunc_string_string : Env U := { P := Tryd.prog, cd := cd, fns := fns50, lps := (addL 0 hslices_IndexFunc_string_string_0 (mkLoop tAslices_IndexFunc_string_string_0 tBslices_IndexFunc_string_string_0 Pslices_IndexFunc_string_string_0 (Lslices_IndexFunc_string_string_0 none) xTslices_IndexFunc_string_string_0) noL), frz := fun _r => false, nt := 19, n0 := 0 }
noncomputable def Bslices_IndexFunc_string_string_0 : Code := (loopAt (Tryd.f78.body.getD .skip) 0 0).getD .skip
theorem roundslices_IndexFunc_string_string_0 (s : Sslices_IndexFunc_string_string_0) : round Eslices_IndexFunc_string_string hslices_IndexFunc_string_string_0 Bslices_IndexFunc_string_string_0 0 (eSslices_IndexFunc_string_string_0 s) = (Wslices_IndexFunc_string_string_0 s).map (sumE eSslices_IndexFunc_string_string_0 xSslices_IndexFunc_string_string_0) := by kernel_rfl
theorem lpslices_IndexFunc_string_string_0 : LpOk Eslices_IndexFunc_string_string Bslices_IndexFunc_string_string_0 0 := mkLoop_ok (A := tAslices_IndexFunc_string_string_0) (B := tBslices_IndexFunc_string_string_0) (f := Pslices_IndexFunc_string_string_0) (L := Lslices_IndexFunc_string_string_0 none) (tO_ok (cPair_ok (cSl_ok 9) cUnit_ok) (tO_ok (cK2_ok cUnit_ok) (tO_ok (cPair_ok (cInt_ok .i64) cUnit_ok) (tO_ok (cPair_ok (cInt_ok .i64) cUnit_ok) tNil_ok)))) bNil_ok (enc := eSslices_IndexFunc_string_string_0) (out := xTslices_IndexFunc_string_string_0) (outS := xSslices_IndexFunc_string_string_0) (step := Wslices_IndexFunc_string_string_0) (fun _ => rfl) (fun _ _ => by kernel_rfl) (by kernel_rfl) (fun b => by cases b <;> rfl) roundslices_IndexFunc_string_string_0
theorem rnslices_IndexFunc_string_string (x0 : (List (List UInt8))) : execX false Eslices_IndexFunc_string_string Tryd.f78 (Aslices_IndexFunc_string_string.enc (x0, ())) (Gslices_IndexFunc_string_string.enc ()) = (Tslices_IndexFunc_string_string none x0).map (Rslices_IndexFunc_string_string (x0, ()) ()) := by kernel_rfl
theorem runslices_IndexFunc_string_string : ∀ (x : (List (List UInt8)) × Unit) (g : Unit), execX false Eslices_IndexFunc_string_string Tryd.f78 (Aslices_IndexFunc_string_string.enc x) (Gslices_IndexFunc_string_string.enc g) = (Tslices_IndexFunc_string_string none x.1).map (Rslices_IndexFunc_string_string x g)
  | (x0, ()), () => rnslices_IndexFunc_string_string x0
theorem okslices_IndexFunc_string_string : FnOk Tryd.prog cd 78 Sslices_IndexFunc_string_string := mk_okG (E := Eslices_IndexFunc_string_string) (A := Aslices_IndexFunc_string_string) (B := Gslices_IndexFunc_string_string) false cd_ok fns50_ok Tryd.func78 (by kernel_rfl) (loops_of (addL_ok lpslices_IndexFunc_string_string_0 noL_ok)) (aO_ok (cSl_ok 9) (aF_ok (aNil_ok))) bNil_ok (T := fun (x : (List (List UInt8)) × Unit) (_ : Unit) => Tslices_IndexFunc_string_string none x.1) (fun _ _ => rfl) runslices_IndexFunc_string_string
/-- slices.ContainsFunc[[]string,string] -/
noncomputable def Tslices_ContainsFunc_string_string (q : Option Nat) (x0 : (List (List UInt8))) : Tree Bool :=
  .opt Int (slices_IndexFunc_string_string q x0) fun r99 =>
    .leaf (decide ((0 : Int) ≤ r99))
noncomputable def slices_ContainsFunc_string_string (q : Option Nat) (x0 : (List (List UInt8))) : Option Bool := (Tslices_ContainsFunc_string_string q x0).run
theorem leslices_ContainsFunc_string_string (k : Nat) (x0 : (List (List UInt8))) : Le (slices_ContainsFunc_string_string (some k) x0) (slices_ContainsFunc_string_string none x0) := (TLe.opt (leslices_IndexFunc_string_string k _) fun _ => TLe.rfl)
noncomputable def Aslices_ContainsFunc_string_string : Arg U ((List (List UInt8)) × Unit) := aO (cSl 9) (aF 50 [] (aNil))
noncomputable def Gslices_ContainsFunc_string_string : Bls U (Unit) := bNil
noncomputable def Rslices_ContainsFunc_string_string (_x : (List (List UInt8)) × Unit) (_g : Unit) (r : Bool) : List (V U) × List (Blk U) := ([vO (cPair cBool (cUnit)) (r, ())], [])
noncomputable def Sslices_ContainsFunc_string_string : List (V U) → List (Blk U) → Option (FnOut U) := mkSpecG Aslices_ContainsFunc_string_string Gslices_ContainsFunc_string_string (fun x _ => slices_ContainsFunc_string_string none x.1) Rslices_ContainsFunc_string_string
noncomputable def Eslices_ContainsFunc_string_string : Env U := { P := Tryd.prog, cd := cd, fns := (addF 78 false (Sslices_IndexFunc_string_string) fns50), lps := noL, frz := fun _r => false, nt := 9, n0 := 0 }
theorem rnslices_ContainsFunc_string_string (x0 : (List (List UInt8))) : execX false Eslices_ContainsFunc_string_string Tryd.f49 (Aslices_ContainsFunc_string_string.enc (x0, ())) (Gslices_ContainsFunc_string_string.enc ()) = (Tslices_ContainsFunc_string_string none x0).map (Rslices_ContainsFunc_string_string (x0, ()) ()) := by kernel_rfl
theorem runslices_ContainsFunc_string_string : ∀ (x : (List (List UInt8)) × Unit) (g : Unit), execX false Eslices_ContainsFunc_string_string Tryd.f49 (Aslices_ContainsFunc_string_string.enc x) (Gslices_ContainsFunc_string_string.enc g) = (Tslices_ContainsFunc_string_string none x.1).map (Rslices_ContainsFunc_string_string x g)
  | (x0, ()), () => rnslices_ContainsFunc_string_string x0
theorem okslices_ContainsFunc_string_string : FnOk Tryd.prog cd 49 Sslices_ContainsFunc_string_string := mk_okG (E := Eslices_ContainsFunc_string_string) (A := Aslices_ContainsFunc_string_string) (B := Gslices_ContainsFunc_string_string) false cd_ok (addF_ok okslices_IndexFunc_string_string fns50_ok) Tryd.func49 (by kernel_rfl) (noLoops_body (by kernel_rfl)) (aO_ok (cSl_ok 9) (aF_ok (aNil_ok))) bNil_ok (T := fun (x : (List (List UInt8)) × Unit) (_ : Unit) => Tslices_ContainsFunc_string_string none x.1) (fun _ _ => rfl) runslices_ContainsFunc_string_string
/-- emulator/tape.New -/
noncomputable def Ttape_New (q : Option Nat) (x0 : (List (List UInt8))) : Tree (Tape × Int) :=
  .ite (decide ((64 : Int) < (x0.length : Int)))
    (.leaf ((Tape.mk ([]) 0 false false false false false 0 0 0 0, (12 : Int))))
    (.opt Bool (slices_ContainsFunc_string_string q x0) fun r100 =>
      .ite (r100)
        (.leaf ((Tape.mk ([]) 0 false false false false false 0 0 0 0, (7 : Int))))
        (.opt (List (List UInt8)) (cloneF 16 x0) fun r101 =>
          .leaf ((Tape.mk r101 0 false true false false false 0 0 0 0, (0 : Int)))))
noncomputable def tape_New (q : Option Nat) (x0 : (List (List UInt8))) : Option (Tape × Int) := (Ttape_New q x0).run
theorem letape_New (k : Nat) (x0 : (List (List UInt8))) : Le (tape_New (some k) x0) (tape_New none x0) := (TLe.ite TLe.rfl (TLe.opt (leslices_ContainsFunc_string_string k _) fun _ => TLe.rfl))
noncomputable def Atape_New : Arg U ((List (List UInt8)) × Unit) := aO (cSl 9) (aNil)
noncomputable def Rtape_New (r : (Tape × Int)) : List (V U) × List (Blk U) := ([vA cTape r.1, vO (cInt .i64) r.2], [])
noncomputable def Stape_New : List (V U) → List (Blk U) → Option (FnOut U) := mkSpec Atape_New bNil (fun x _ => tape_New none x.1) Rtape_New
noncomputable def Etape_New : Env U := { P := Tryd.prog, cd := cd, fns := (addF 51 false (cloneSpec 9 16) (addF 49 false (Sslices_ContainsFunc_string_string) fns50)), lps := noL, frz := fun _r => false, nt := 14, n0 := 0 }
theorem runtape_New (x : (List (List UInt8)) × Unit) (g : Unit) : execF Etape_New Tryd.f28 (Atape_New.enc x) (bNil.enc g) = (Ttape_New none x.1).map Rtape_New := by kernel_rfl
theorem oktape_New : FnOk Tryd.prog cd 28 Stape_New := mk_ok (E := Etape_New) cd_ok (addF_ok okslices_Clone_string_string (addF_ok okslices_ContainsFunc_string_string fns50_ok)) Tryd.func28 (by kernel_rfl) (noLoops_body (by kernel_rfl)) (aO_ok (cSl_ok 9) (aNil_ok)) bNil_ok (T := fun x _ => Ttape_New none x.1) (fun _ _ => rfl) runtape_New
noncomputable def fns28 := addF 28 true Stape_New fns50
theorem fns28_ok : ∀ f q t, fns28 f = some (q, t) → FnOk Tryd.prog cd f t := addF_ok oktape_New fns50_ok
/-- emulator/line.New -/
noncomputable def Tline_New  : Tree Line :=
  .leaf (Line.mk false false false 0 false true 0 0 ([]))
noncomputable def line_New  : Option Line := (Tline_New ).run
noncomputable def Aline_New : Arg U (Unit) := aNil
noncomputable def Rline_New (r : Line) : List (V U) × List (Blk U) := ([vA cLine r], [])
noncomputable def Sline_New : List (V U) → List (Blk U) → Option (FnOut U) := mkSpec Aline_New bNil (fun x _ => line_New ) Rline_New
noncomputable def Eline_New : Env U := { P := Tryd.prog, cd := cd, fns := fns28, lps := noL, frz := fun _r => false, nt := 2, n0 := 0 }
theorem runline_New (x : Unit) (g : Unit) : execF Eline_New Tryd.f29 (Aline_New.enc x) (bNil.enc g) = (Tline_New ).map Rline_New := by kernel_rfl
theorem okline_New : FnOk Tryd.prog cd 29 Sline_New := mk_ok (E := Eline_New) cd_ok fns28_ok Tryd.func29 (by kernel_rfl) (noLoops_body (by kernel_rfl)) (aNil_ok) bNil_ok (T := fun x _ => Tline_New ) (fun _ _ => rfl) runline_New
noncomputable def fns29 := addF 29 true Sline_New fns28
theorem fns29_ok : ∀ f q t, fns29 f = some (q, t) → FnOk Tryd.prog cd f t := addF_ok okline_New fns28_ok
/-- emulator/machine.New -/
structure Smachine_New_0 where
  t51 : Int
  t52 : Int
  b0_0 : (List Int)
  b0_1 : (List Int)
  b0_2 : Int
  b0_3 : Int
  b0_6 : Bool
  b0_7 : (List Page)
  b0_8 : Int
  b0_9 : Int
  b0_10 : Bool
  b0_11 : Bool
  b0_12 : Int
  b0_13 : Int
  b0_17 : Bool
  b0_18 : Bool
  b0_19 : Bool
  b0_20 : Int
  b0_21 : Int
  b0_22 : Int
  b0_23 : Int
  b0_24 : Int
  b0_26 : Int
  b0_27 : Bool
  b0_28 : Bool
  b0_29 : Bool
  b0_30 : Bool
  b0_31 : Bool
  b0_32 : Int
  b0_33 : Int
  b0_34 : Int
  b0_35 : Int
  b0_36 : Int
  b0_37 : Bool
  b0_38 : Bool
  b0_39 : Int
  b0_40 : Bool
  b1_0 : (List Int)
  b1_1 : (List Int)
  b1_2 : Int
  b1_3 : Int
  b1_4 : (List Int)
  b1_6 : Bool
  b1_7 : (List Page)
  b1_8 : Int
  b1_9 : Int
  b1_10 : Bool
  b1_11 : Bool
  b1_12 : Int
  b1_13 : Int
  b1_15 : (List (List UInt8))
  b1_16 : (List Int)
  b1_17 : Bool
  b1_18 : Bool
  b1_19 : Bool
  b1_20 : Int
  b1_21 : Int
  b1_22 : Int
  b1_23 : Int
  b1_24 : Int
  b1_25 : (List (List UInt8))
  b1_26 : Int
  b1_27 : Bool
  b1_28 : Bool
  b1_29 : Bool
  b1_30 : Bool
  b1_31 : Bool
  b1_32 : Int
  b1_33 : Int
  b1_34 : Int
  b1_35 : Int
  b1_36 : Int
  b1_37 : Bool
  b1_38 : Bool
  b1_39 : Int
  b1_40 : Bool
  b2 : (List Int)
  b3 : (List Int)
  b4 : (List Line)
  b5 : (List (List UInt8))
  b6 : (List Int)
  b7 : (List (List UInt8))
  b8 : (List Int)
  b9 : (List Line)
noncomputable def Wmachine_New_0 (s : Smachine_New_0) : Tree (Smachine_New_0 ⊕ ((List Int) × (List Int) × Int × Int × Bool × (List Page) × Int × Int × Bool × Bool × Int × Int × Bool × Bool × Bool × Int × Int × Int × Int × Int × Int × Bool × Bool × Bool × Bool × Bool × Int × Int × Int × Int × Int × Bool × Bool × Int × Bool × (List Int) × (List Int) × Int × Int × (List Int) × Bool × (List Page) × Int × Int × Bool × Bool × Int × Int × (List (List UInt8)) × (List Int) × Bool × Bool × Bool × Int × Int × Int × Int × Int × (List (List UInt8)) × Int × Bool × Bool × Bool × Bool × Bool × Int × Int × Int × Int × Int × Bool × Bool × Int × Bool × (List Int) × (List Int) × (List Line) × (List (List UInt8)) × (List Int) × (List (List UInt8)) × (List Int) × (List Line))) :=
  .ite (decide (s.t52 < s.t51))
    (.opt Line (line_New) fun r107 =>
      .ite (decide ((s.b9.length + ([r107]).length) * 56 ≤ 140737488355328))
        (.leaf (.inl (Smachine_New_0.mk s.t51 (IntKind.wrap .i64 (s.t52 + (1 : Int))) s.b0_0 s.b0_1 s.b0_2 s.b0_3 s.b0_6 s.b0_7 s.b0_8 s.b0_9 s.b0_10 s.b0_11 s.b0_12 s.b0_13 s.b0_17 s.b0_18 s.b0_19 s.b0_20 s.b0_21 s.b0_22 s.b0_23 s.b0_24 s.b0_26 s.b0_27 s.b0_28 s.b0_29 s.b0_30 s.b0_31 s.b0_32 s.b0_33 s.b0_34 s.b0_35 s.b0_36 s.b0_37 s.b0_38 s.b0_39 s.b0_40 s.b1_0 s.b1_1 s.b1_2 s.b1_3 s.b1_4 s.b1_6 s.b1_7 s.b1_8 s.b1_9 s.b1_10 s.b1_11 s.b1_12 s.b1_13 s.b1_15 s.b1_16 s.b1_17 s.b1_18 s.b1_19 s.b1_20 s.b1_21 s.b1_22 s.b1_23 s.b1_24 s.b1_25 s.b1_26 s.b1_27 s.b1_28 s.b1_29 s.b1_30 s.b1_31 s.b1_32 s.b1_33 s.b1_34 s.b1_35 s.b1_36 s.b1_37 s.b1_38 s.b1_39 s.b1_40 s.b2 s.b3 s.b4 s.b5 s.b6 s.b7 s.b8 (s.b9 ++ ([r107])))))
        .fail)
    (.leaf (.inr (s.b0_0, s.b0_1, s.b0_2, s.b0_3, s.b0_6, s.b0_7, s.b0_8, s.b0_9, s.b0_10, s.b0_11, s.b0_12, s.b0_13, s.b0_17, s.b0_18, s.b0_19, s.b0_20, s.b0_21, s.b0_22, s.b0_23, s.b0_24, s.b0_26, s.b0_27, s.b0_28, s.b0_29, s.b0_30, s.b0_31, s.b0_32, s.b0_33, s.b0_34, s.b0_35, s.b0_36, s.b0_37, s.b0_38, s.b0_39, s.b0_40, s.b1_0, s.b1_1, s.b1_2, s.b1_3, s.b1_4, s.b1_6, s.b1_7, s.b1_8, s.b1_9, s.b1_10, s.b1_11, s.b1_12, s.b1_13, s.b1_15, s.b1_16, s.b1_17, s.b1_18, s.b1_19, s.b1_20, s.b1_21, s.b1_22, s.b1_23, s.b1_24, s.b1_25, s.b1_26, s.b1_27, s.b1_28, s.b1_29, s.b1_30, s.b1_31, s.b1_32, s.b1_33, s.b1_34, s.b1_35, s.b1_36, s.b1_37, s.b1_38, s.b1_39, s.b1_40, s.b2, s.b3, s.b4, s.b5, s.b6, s.b7, s.b8, s.b9)))
noncomputable def Lmachine_New_0 (q : Option Nat) (s : Smachine_New_0) : Option ((List Int) × (List Int) × Int × Int × Bool × (List Page) × Int × Int × Bool × Bool × Int × Int × Bool × Bool × Bool × Int × Int × Int × Int × Int × Int × Bool × Bool × Bool × Bool × Bool × Int × Int × Int × Int × Int × Bool × Bool × Int × Bool × (List Int) × (List Int) × Int × Int × (List Int) × Bool × (List Page) × Int × Int × Bool × Bool × Int × Int × (List (List UInt8)) × (List Int) × Bool × Bool × Bool × Int × Int × Int × Int × Int × (List (List UInt8)) × Int × Bool × Bool × Bool × Bool × Bool × Int × Int × Int × Int × Int × Bool × Bool × Int × Bool × (List Int) × (List Int) × (List Line) × (List (List UInt8)) × (List Int) × (List (List UInt8)) × (List Int) × (List Line)) := limQ q (fun s => (Wmachine_New_0 s).run) s
theorem leLmachine_New_0 (k : Nat) (s : Smachine_New_0) : Le (Lmachine_New_0 (some k) s) (Lmachine_New_0 none s) := limQ_le (fun _ => Le.rfl) s
noncomputable def Tmachine_New (q : Option Nat) (x0 : Int) (x1 : Int) (x2 : Int) : Tree (Machine × Int) :=
  .opt ((List Int) × Int) (memory_New x0) fun r102 =>
    .ite (!decide (r102.2 = (0 : Int)))
      (.leaf ((Machine.mk (Cpu.mk (List.replicate 6 (0 : Int)) (List.replicate 2 (0 : Int)) 0 0) ([]) ([]) (Mmu.mk false (List.replicate 16 (Page.mk (0 : Int) (0 : Int) (0 : Int) false)) 0 0) (Clock.mk false false 0 0) ([]) (Disk.mk (Drive.mk ([]) ([])) false false false 0 0 0 0 0) (Tape.mk ([]) 0 false false false false false 0 0 0 0) 0 false false 0 false, r102.2)))
      (.ite (decide (x1 < (0 : Int)))
        (.leaf ((Machine.mk (Cpu.mk (List.replicate 6 (0 : Int)) (List.replicate 2 (0 : Int)) 0 0) ([]) ([]) (Mmu.mk false (List.replicate 16 (Page.mk (0 : Int) (0 : Int) (0 : Int) false)) 0 0) (Clock.mk false false 0 0) ([]) (Disk.mk (Drive.mk ([]) ([])) false false false 0 0 0 0 0) (Tape.mk ([]) 0 false false false false false 0 0 0 0) 0 false false 0 false, (2 : Int))))
        (.ite (decide ((4 : Int) < x1))
          (.leaf ((Machine.mk (Cpu.mk (List.replicate 6 (0 : Int)) (List.replicate 2 (0 : Int)) 0 0) ([]) ([]) (Mmu.mk false (List.replicate 16 (Page.mk (0 : Int) (0 : Int) (0 : Int) false)) 0 0) (Clock.mk false false 0 0) ([]) (Disk.mk (Drive.mk ([]) ([])) false false false 0 0 0 0 0) (Tape.mk ([]) 0 false false false false false 0 0 0 0) 0 false false 0 false, (2 : Int))))
          (.opt (Drive × Int) (drive_New q x2) fun r103 =>
            .ite (!decide (r103.2 = (0 : Int)))
              (.leaf ((Machine.mk (Cpu.mk (List.replicate 6 (0 : Int)) (List.replicate 2 (0 : Int)) 0 0) ([]) ([]) (Mmu.mk false (List.replicate 16 (Page.mk (0 : Int) (0 : Int) (0 : Int) false)) 0 0) (Clock.mk false false 0 0) ([]) (Disk.mk (Drive.mk ([]) ([])) false false false 0 0 0 0 0) (Tape.mk ([]) 0 false false false false false 0 0 0 0) 0 false false 0 false, r103.2)))
              (.opt Disk (diskctl_New r103.1) fun r104 =>
                .opt (Clock × Int) (clock_New (100 : Int)) fun r105 =>
                  .opt (Tape × Int) (tape_New q ([])) fun r106 =>
                    .opt ((List Int) × (List Int) × Int × Int × Bool × (List Page) × Int × Int × Bool × Bool × Int × Int × Bool × Bool × Bool × Int × Int × Int × Int × Int × Int × Bool × Bool × Bool × Bool × Bool × Int × Int × Int × Int × Int × Bool × Bool × Int × Bool × (List Int) × (List Int) × Int × Int × (List Int) × Bool × (List Page) × Int × Int × Bool × Bool × Int × Int × (List (List UInt8)) × (List Int) × Bool × Bool × Bool × Int × Int × Int × Int × Int × (List (List UInt8)) × Int × Bool × Bool × Bool × Bool × Bool × Int × Int × Int × Int × Int × Bool × Bool × Int × Bool × (List Int) × (List Int) × (List Line) × (List (List UInt8)) × (List Int) × (List (List UInt8)) × (List Int) × (List Line)) (Lmachine_New_0 q (Smachine_New_0.mk x1 (0 : Int) (List.replicate 6 (0 : Int)) (List.replicate 2 (0 : Int)) 0 0 false (List.replicate 16 (Page.mk (0 : Int) (0 : Int) (0 : Int) false)) 0 0 false false 0 0 false false false 0 0 0 0 0 0 false false false false false 0 0 0 0 0 false false 0 false (List.replicate 6 (0 : Int)) (List.replicate 2 (0 : Int)) 0 0 r102.1 false (List.replicate 16 (Page.mk (0 : Int) (0 : Int) (0 : Int) false)) 0 0 r105.1.enable r105.1.ready r105.1.period r105.1.left r104.drive.sectors r104.drive.bad r104.enable r104.ready r104.error r104.command r104.words r104.addr r104.start r104.left r106.1.records r106.1.pos r106.1.enable r106.1.ready r106.1.error r106.1.mark r106.1.end_ r106.1.command r106.1.count r106.1.addr r106.1.left 0 false false 0 false ([]) ([]) ([]) ([]) ([]) ([]) ([]) ([]))) fun l108 =>
                      .leaf ((Machine.mk (Cpu.mk l108.2.2.2.2.2.2.2.2.2.2.2.2.2.2.2.2.2.2.2.2.2.2.2.2.2.2.2.2.2.2.2.2.2.2.2.1 l108.2.2.2.2.2.2.2.2.2.2.2.2.2.2.2.2.2.2.2.2.2.2.2.2.2.2.2.2.2.2.2.2.2.2.2.2.1 l108.2.2.2.2.2.2.2.2.2.2.2.2.2.2.2.2.2.2.2.2.2.2.2.2.2.2.2.2.2.2.2.2.2.2.2.2.2.1 l108.2.2.2.2.2.2.2.2.2.2.2.2.2.2.2.2.2.2.2.2.2.2.2.2.2.2.2.2.2.2.2.2.2.2.2.2.2.2.1) l108.2.2.2.2.2.2.2.2.2.2.2.2.2.2.2.2.2.2.2.2.2.2.2.2.2.2.2.2.2.2.2.2.2.2.2.2.2.2.2.1 l108.2.2.2.2.2.2.2.2.2.2.2.2.2.2.2.2.2.2.2.2.2.2.2.2.2.2.2.2.2.2.2.2.2.2.2.2.2.2.2.2.2.2.2.2.2.2.2.2.2.2.2.2.2.2.2.2.2.2.2.2.2.2.2.2.2.2.2.2.2.2.2.2.2.2.2.2.2.2.2.2.1 (Mmu.mk l108.2.2.2.2.2.2.2.2.2.2.2.2.2.2.2.2.2.2.2.2.2.2.2.2.2.2.2.2.2.2.2.2.2.2.2.2.2.2.2.2.1 l108.2.2.2.2.2.2.2.2.2.2.2.2.2.2.2.2.2.2.2.2.2.2.2.2.2.2.2.2.2.2.2.2.2.2.2.2.2.2.2.2.2.1 l108.2.2.2.2.2.2.2.2.2.2.2.2.2.2.2.2.2.2.2.2.2.2.2.2.2.2.2.2.2.2.2.2.2.2.2.2.2.2.2.2.2.2.1 l108.2.2.2.2.2.2.2.2.2.2.2.2.2.2.2.2.2.2.2.2.2.2.2.2.2.2.2.2.2.2.2.2.2.2.2.2.2.2.2.2.2.2.2.1) (Clock.mk l108.2.2.2.2.2.2.2.2.2.2.2.2.2.2.2.2.2.2.2.2.2.2.2.2.2.2.2.2.2.2.2.2.2.2.2.2.2.2.2.2.2.2.2.2.1 l108.2.2.2.2.2.2.2.2.2.2.2.2.2.2.2.2.2.2.2.2.2.2.2.2.2.2.2.2.2.2.2.2.2.2.2.2.2.2.2.2.2.2.2.2.2.1 l108.2.2.2.2.2.2.2.2.2.2.2.2.2.2.2.2.2.2.2.2.2.2.2.2.2.2.2.2.2.2.2.2.2.2.2.2.2.2.2.2.2.2.2.2.2.2.1 l108.2.2.2.2.2.2.2.2.2.2.2.2.2.2.2.2.2.2.2.2.2.2.2.2.2.2.2.2.2.2.2.2.2.2.2.2.2.2.2.2.2.2.2.2.2.2.2.1) l108.2.2.2.2.2.2.2.2.2.2.2.2.2.2.2.2.2.2.2.2.2.2.2.2.2.2.2.2.2.2.2.2.2.2.2.2.2.2.2.2.2.2.2.2.2.2.2.2.2.2.2.2.2.2.2.2.2.2.2.2.2.2.2.2.2.2.2.2.2.2.2.2.2.2.2.2.2.2.2.2.2 (Disk.mk (Drive.mk l108.2.2.2.2.2.2.2.2.2.2.2.2.2.2.2.2.2.2.2.2.2.2.2.2.2.2.2.2.2.2.2.2.2.2.2.2.2.2.2.2.2.2.2.2.2.2.2.2.1 l108.2.2.2.2.2.2.2.2.2.2.2.2.2.2.2.2.2.2.2.2.2.2.2.2.2.2.2.2.2.2.2.2.2.2.2.2.2.2.2.2.2.2.2.2.2.2.2.2.2.1) l108.2.2.2.2.2.2.2.2.2.2.2.2.2.2.2.2.2.2.2.2.2.2.2.2.2.2.2.2.2.2.2.2.2.2.2.2.2.2.2.2.2.2.2.2.2.2.2.2.2.2.1 l108.2.2.2.2.2.2.2.2.2.2.2.2.2.2.2.2.2.2.2.2.2.2.2.2.2.2.2.2.2.2.2.2.2.2.2.2.2.2.2.2.2.2.2.2.2.2.2.2.2.2.2.1 l108.2.2.2.2.2.2.2.2.2.2.2.2.2.2.2.2.2.2.2.2.2.2.2.2.2.2.2.2.2.2.2.2.2.2.2.2.2.2.2.2.2.2.2.2.2.2.2.2.2.2.2.2.1 l108.2.2.2.2.2.2.2.2.2.2.2.2.2.2.2.2.2.2.2.2.2.2.2.2.2.2.2.2.2.2.2.2.2.2.2.2.2.2.2.2.2.2.2.2.2.2.2.2.2.2.2.2.2.1 l108.2.2.2.2.2.2.2.2.2.2.2.2.2.2.2.2.2.2.2.2.2.2.2.2.2.2.2.2.2.2.2.2.2.2.2.2.2.2.2.2.2.2.2.2.2.2.2.2.2.2.2.2.2.2.1 l108.2.2.2.2.2.2.2.2.2.2.2.2.2.2.2.2.2.2.2.2.2.2.2.2.2.2.2.2.2.2.2.2.2.2.2.2.2.2.2.2.2.2.2.2.2.2.2.2.2.2.2.2.2.2.2.1 l108.2.2.2.2.2.2.2.2.2.2.2.2.2.2.2.2.2.2.2.2.2.2.2.2.2.2.2.2.2.2.2.2.2.2.2.2.2.2.2.2.2.2.2.2.2.2.2.2.2.2.2.2.2.2.2.2.1 l108.2.2.2.2.2.2.2.2.2.2.2.2.2.2.2.2.2.2.2.2.2.2.2.2.2.2.2.2.2.2.2.2.2.2.2.2.2.2.2.2.2.2.2.2.2.2.2.2.2.2.2.2.2.2.2.2.2.1) (Tape.mk l108.2.2.2.2.2.2.2.2.2.2.2.2.2.2.2.2.2.2.2.2.2.2.2.2.2.2.2.2.2.2.2.2.2.2.2.2.2.2.2.2.2.2.2.2.2.2.2.2.2.2.2.2.2.2.2.2.2.2.1 l108.2.2.2.2.2.2.2.2.2.2.2.2.2.2.2.2.2.2.2.2.2.2.2.2.2.2.2.2.2.2.2.2.2.2.2.2.2.2.2.2.2.2.2.2.2.2.2.2.2.2.2.2.2.2.2.2.2.2.2.1 l108.2.2.2.2.2.2.2.2.2.2.2.2.2.2.2.2.2.2.2.2.2.2.2.2.2.2.2.2.2.2.2.2.2.2.2.2.2.2.2.2.2.2.2.2.2.2.2.2.2.2.2.2.2.2.2.2.2.2.2.2.1 l108.2.2.2.2.2.2.2.2.2.2.2.2.2.2.2.2.2.2.2.2.2.2.2.2.2.2.2.2.2.2.2.2.2.2.2.2.2.2.2.2.2.2.2.2.2.2.2.2.2.2.2.2.2.2.2.2.2.2.2.2.2.1 l108.2.2.2.2.2.2.2.2.2.2.2.2.2.2.2.2.2.2.2.2.2.2.2.2.2.2.2.2.2.2.2.2.2.2.2.2.2.2.2.2.2.2.2.2.2.2.2.2.2.2.2.2.2.2.2.2.2.2.2.2.2.2.1 l108.2.2.2.2.2.2.2.2.2.2.2.2.2.2.2.2.2.2.2.2.2.2.2.2.2.2.2.2.2.2.2.2.2.2.2.2.2.2.2.2.2.2.2.2.2.2.2.2.2.2.2.2.2.2.2.2.2.2.2.2.2.2.2.1 l108.2.2.2.2.2.2.2.2.2.2.2.2.2.2.2.2.2.2.2.2.2.2.2.2.2.2.2.2.2.2.2.2.2.2.2.2.2.2.2.2.2.2.2.2.2.2.2.2.2.2.2.2.2.2.2.2.2.2.2.2.2.2.2.2.1 l108.2.2.2.2.2.2.2.2.2.2.2.2.2.2.2.2.2.2.2.2.2.2.2.2.2.2.2.2.2.2.2.2.2.2.2.2.2.2.2.2.2.2.2.2.2.2.2.2.2.2.2.2.2.2.2.2.2.2.2.2.2.2.2.2.2.1 l108.2.2.2.2.2.2.2.2.2.2.2.2.2.2.2.2.2.2.2.2.2.2.2.2.2.2.2.2.2.2.2.2.2.2.2.2.2.2.2.2.2.2.2.2.2.2.2.2.2.2.2.2.2.2.2.2.2.2.2.2.2.2.2.2.2.2.1 l108.2.2.2.2.2.2.2.2.2.2.2.2.2.2.2.2.2.2.2.2.2.2.2.2.2.2.2.2.2.2.2.2.2.2.2.2.2.2.2.2.2.2.2.2.2.2.2.2.2.2.2.2.2.2.2.2.2.2.2.2.2.2.2.2.2.2.2.1 l108.2.2.2.2.2.2.2.2.2.2.2.2.2.2.2.2.2.2.2.2.2.2.2.2.2.2.2.2.2.2.2.2.2.2.2.2.2.2.2.2.2.2.2.2.2.2.2.2.2.2.2.2.2.2.2.2.2.2.2.2.2.2.2.2.2.2.2.2.1) l108.2.2.2.2.2.2.2.2.2.2.2.2.2.2.2.2.2.2.2.2.2.2.2.2.2.2.2.2.2.2.2.2.2.2.2.2.2.2.2.2.2.2.2.2.2.2.2.2.2.2.2.2.2.2.2.2.2.2.2.2.2.2.2.2.2.2.2.2.2.1 l108.2.2.2.2.2.2.2.2.2.2.2.2.2.2.2.2.2.2.2.2.2.2.2.2.2.2.2.2.2.2.2.2.2.2.2.2.2.2.2.2.2.2.2.2.2.2.2.2.2.2.2.2.2.2.2.2.2.2.2.2.2.2.2.2.2.2.2.2.2.2.1 l108.2.2.2.2.2.2.2.2.2.2.2.2.2.2.2.2.2.2.2.2.2.2.2.2.2.2.2.2.2.2.2.2.2.2.2.2.2.2.2.2.2.2.2.2.2.2.2.2.2.2.2.2.2.2.2.2.2.2.2.2.2.2.2.2.2.2.2.2.2.2.2.1 l108.2.2.2.2.2.2.2.2.2.2.2.2.2.2.2.2.2.2.2.2.2.2.2.2.2.2.2.2.2.2.2.2.2.2.2.2.2.2.2.2.2.2.2.2.2.2.2.2.2.2.2.2.2.2.2.2.2.2.2.2.2.2.2.2.2.2.2.2.2.2.2.2.1 l108.2.2.2.2.2.2.2.2.2.2.2.2.2.2.2.2.2.2.2.2.2.2.2.2.2.2.2.2.2.2.2.2.2.2.2.2.2.2.2.2.2.2.2.2.2.2.2.2.2.2.2.2.2.2.2.2.2.2.2.2.2.2.2.2.2.2.2.2.2.2.2.2.2.1, (0 : Int)))))))
noncomputable def machine_New (q : Option Nat) (x0 : Int) (x1 : Int) (x2 : Int) : Option (Machine × Int) := (Tmachine_New q x0 x1 x2).run
theorem lemachine_New (k : Nat) (x0 : Int) (x1 : Int) (x2 : Int) : Le (machine_New (some k) x0 x1 x2) (machine_New none x0 x1 x2) := (TLe.opt Le.rfl fun _ => (TLe.ite TLe.rfl (TLe.ite TLe.rfl (TLe.ite TLe.rfl (TLe.opt (ledrive_New k _) fun _ => (TLe.ite TLe.rfl (TLe.opt Le.rfl fun _ => (TLe.opt Le.rfl fun _ => (TLe.opt (letape_New k _) fun _ => (TLe.opt (leLmachine_New_0 k _) fun _ => TLe.rfl))))))))))
noncomputable def Amachine_New : Arg U (Int × Int × Int × Unit) := aO (cInt .i64) (aO (cInt .i64) (aO (cInt .i64) (aNil)))
noncomputable def Rmachine_New (r : (Machine × Int)) : List (V U) × List (Blk U) := ([vA cMachine r.1, vO (cInt .i64) r.2], [])
noncomputable def Smachine_New : List (V U) → List (Blk U) → Option (FnOut U) := mkSpec Amachine_New bNil (fun x _ => machine_New none x.1 x.2.1 x.2.2.1) Rmachine_New
noncomputable def Pmachine_New_0 (x : (Unit) × (Unit) × (Int × Unit) × (Int × Unit) × Unit) (g : ((List Int) × (List Int) × Int × Int × Bool × (List Page) × Int × Int × Bool × Bool × Int × Int × Bool × Bool × Bool × Int × Int × Int × Int × Int × Int × Bool × Bool × Bool × Bool × Bool × Int × Int × Int × Int × Int × Bool × Bool × Int × Bool × Unit) × ((List Int) × (List Int) × Int × Int × (List Int) × Bool × (List Page) × Int × Int × Bool × Bool × Int × Int × (List (List UInt8)) × (List Int) × Bool × Bool × Bool × Int × Int × Int × Int × Int × (List (List UInt8)) × Int × Bool × Bool × Bool × Bool × Bool × Int × Int × Int × Int × Int × Bool × Bool × Int × Bool × Unit) × (List Int) × (List Int) × (List Line) × (List (List UInt8)) × (List Int) × (List (List UInt8)) × (List Int) × (List Line) × Unit) : Smachine_New_0 := Smachine_New_0.mk x.2.2.1.1 x.2.2.2.1.1 g.1.1 g.1.2.1 g.1.2.2.1 g.1.2.2.2.1 g.1.2.2.2.2.1 g.1.2.2.2.2.2.1 g.1.2.2.2.2.2.2.1 g.1.2.2.2.2.2.2.2.1 g.1.2.2.2.2.2.2.2.2.1 g.1.2.2.2.2.2.2.2.2.2.1 g.1.2.2.2.2.2.2.2.2.2.2.1 g.1.2.2.2.2.2.2.2.2.2.2.2.1 g.1.2.2.2.2.2.2.2.2.2.2.2.2.1 g.1.2.2.2.2.2.2.2.2.2.2.2.2.2.1 g.1.2.2.2.2.2.2.2.2.2.2.2.2.2.2.1 g.1.2.2.2.2.2.2.2.2.2.2.2.2.2.2.2.1 g.1.2.2.2.2.2.2.2.2.2.2.2.2.2.2.2.2.1 g.1.2.2.2.2.2.2.2.2.2.2.2.2.2.2.2.2.2.1 g.1.2.2.2.2.2.2.2.2.2.2.2.2.2.2.2.2.2.2.1 g.1.2.2.2.2.2.2.2.2.2.2.2.2.2.2.2.2.2.2.2.1 g.1.2.2.2.2.2.2.2.2.2.2.2.2.2.2.2.2.2.2.2.2.1 g.1.2.2.2.2.2.2.2.2.2.2.2.2.2.2.2.2.2.2.2.2.2.1 g.1.2.2.2.2.2.2.2.2.2.2.2.2.2.2.2.2.2.2.2.2.2.2.1 g.1.2.2.2.2.2.2.2.2.2.2.2.2.2.2.2.2.2.2.2.2.2.2.2.1 g.1.2.2.2.2.2.2.2.2.2.2.2.2.2.2.2.2.2.2.2.2.2.2.2.2.1 g.1.2.2.2.2.2.2.2.2.2.2.2.2.2.2.2.2.2.2.2.2.2.2.2.2.2.1 g.1.2.2.2.2.2.2.2.2.2.2.2.2.2.2.2.2.2.2.2.2.2.2.2.2.2.2.1 g.1.2.2.2.2.2.2.2.2.2.2.2.2.2.2.2.2.2.2.2.2.2.2.2.2.2.2.2.1 g.1.2.2.2.2.2.2.2.2.2.2.2.2.2.2.2.2.2.2.2.2.2.2.2.2.2.2.2.2.1 g.1.2.2.2.2.2.2.2.2.2.2.2.2.2.2.2.2.2.2.2.2.2.2.2.2.2.2.2.2.2.1 g.1.2.2.2.2.2.2.2.2.2.2.2.2.2.2.2.2.2.2.2.2.2.2.2.2.2.2.2.2.2.2.1 g.1.2.2.2.2.2.2.2.2.2.2.2.2.2.2.2.2.2.2.2.2.2.2.2.2.2.2.2.2.2.2.2.1 g.1.2.2.2.2.2.2.2.2.2.2.2.2.2.2.2.2.2.2.2.2.2.2.2.2.2.2.2.2.2.2.2.2.1 g.1.2.2.2.2.2.2.2.2.2.2.2.2.2.2.2.2.2.2.2.2.2.2.2.2.2.2.2.2.2.2.2.2.2.1 g.1.2.2.2.2.2.2.2.2.2.2.2.2.2.2.2.2.2.2.2.2.2.2.2.2.2.2.2.2.2.2.2.2.2.2.1 g.2.1.1 g.2.1.2.1 g.2.1.2.2.1 g.2.1.2.2.2.1 g.2.1.2.2.2.2.1 g.2.1.2.2.2.2.2.1 g.2.1.2.2.2.2.2.2.1 g.2.1.2.2.2.2.2.2.2.1 g.2.1.2.2.2.2.2.2.2.2.1 g.2.1.2.2.2.2.2.2.2.2.2.1 g.2.1.2.2.2.2.2.2.2.2.2.2.1 g.2.1.2.2.2.2.2.2.2.2.2.2.2.1 g.2.1.2.2.2.2.2.2.2.2.2.2.2.2.1 g.2.1.2.2.2.2.2.2.2.2.2.2.2.2.2.1 g.2.1.2.2.2.2.2.2.2.2.2.2.2.2.2.2.1 g.2.1.2.2.2.2.2.2.2.2.2.2.2.2.2.2.2.1 g.2.1.2.2.2.2.2.2.2.2.2.2.2.2.2.2.2.2.1 g.2.1.2.2.2.2.2.2.2.2.2.2.2.2.2.2.2.2.2.1 g.2.1.2.2.2.2.2.2.2.2.2.2.2.2.2.2.2.2.2.2.1 g.2.1.2.2.2.2.2.2.2.2.2.2.2.2.2.2.2.2.2.2.2.1 g.2.1.2.2.2.2.2.2.2.2.2.2.2.2.2.2.2.2.2.2.2.2.1 g.2.1.2.2.2.2.2.2.2.2.2.2.2.2.2.2.2.2.2.2.2.2.2.1 g.2.1.2.2.2.2.2.2.2.2.2.2.2.2.2.2.2.2.2.2.2.2.2.2.1 g.2.1.2.2.2.2.2.2.2.2.2.2.2.2.2.2.2.2.2.2.2.2.2.2.2.1 g.2.1.2.2.2.2.2.2.2.2.2.2.2.2.2.2.2.2.2.2.2.2.2.2.2.2.1 g.2.1.2.2.2.2.2.2.2.2.2.2.2.2.2.2.2.2.2.2.2.2.2.2.2.2.2.1 g.2.1.2.2.2.2.2.2.2.2.2.2.2.2.2.2.2.2.2.2.2.2.2.2.2.2.2.2.1 g.2.1.2.2.2.2.2.2.2.2.2.2.2.2.2.2.2.2.2.2.2.2.2.2.2.2.2.2.2.1 g.2.1.2.2.2.2.2.2.2.2.2.2.2.2.2.2.2.2.2.2.2.2.2.2.2.2.2.2.2.2.1 g.2.1.2.2.2.2.2.2.2.2.2.2.2.2.2.2.2.2.2.2.2.2.2.2.2.2.2.2.2.2.2.1 g.2.1.2.2.2.2.2.2.2.2.2.2.2.2.2.2.2.2.2.2.2.2.2.2.2.2.2.2.2.2.2.2.1 g.2.1.2.2.2.2.2.2.2.2.2.2.2.2.2.2.2.2.2.2.2.2.2.2.2.2.2.2.2.2.2.2.2.1 g.2.1.2.2.2.2.2.2.2.2.2.2.2.2.2.2.2.2.2.2.2.2.2.2.2.2.2.2.2.2.2.2.2.2.1 g.2.1.2.2.2.2.2.2.2.2.2.2.2.2.2.2.2.2.2.2.2.2.2.2.2.2.2.2.2.2.2.2.2.2.2.1 g.2.1.2.2.2.2.2.2.2.2.2.2.2.2.2.2.2.2.2.2.2.2.2.2.2.2.2.2.2.2.2.2.2.2.2.2.1 g.2.1.2.2.2.2.2.2.2.2.2.2.2.2.2.2.2.2.2.2.2.2.2.2.2.2.2.2.2.2.2.2.2.2.2.2.2.1 g.2.1.2.2.2.2.2.2.2.2.2.2.2.2.2.2.2.2.2.2.2.2.2.2.2.2.2.2.2.2.2.2.2.2.2.2.2.2.1 g.2.1.2.2.2.2.2.2.2.2.2.2.2.2.2.2.2.2.2.2.2.2.2.2.2.2.2.2.2.2.2.2.2.2.2.2.2.2.2.1 g.2.1.2.2.2.2.2.2.2.2.2.2.2.2.2.2.2.2.2.2.2.2.2.2.2.2.2.2.2.2.2.2.2.2.2.2.2.2.2.2.1 g.2.2.1 g.2.2.2.1 g.2.2.2.2.1 g.2.2.2.2.2.1 g.2.2.2.2.2.2.1 g.2.2.2.2.2.2.2.1 g.2.2.2.2.2.2.2.2.1 g.2.2.2.2.2.2.2.2.2.1
noncomputable def tAmachine_New_0 : Tms U ((Unit) × (Unit) × (Int × Unit) × (Int × Unit) × Unit) := tO 6 (cK (.ptr 0 0) (cUnit)) (tO 11 (cK (.ptr 1 0) (cUnit)) (tO 51 (cPair (cInt .i64) (cUnit)) (tO 52 (cPair (cInt .i64) (cUnit)) (tNil))))
noncomputable def tBmachine_New_0 : Bls U (((List Int) × (List Int) × Int × Int × Bool × (List Page) × Int × Int × Bool × Bool × Int × Int × Bool × Bool × Bool × Int × Int × Int × Int × Int × Int × Bool × Bool × Bool × Bool × Bool × Int × Int × Int × Int × Int × Bool × Bool × Int × Bool × Unit) × ((List Int) × (List Int) × Int × Int × (List Int) × Bool × (List Page) × Int × Int × Bool × Bool × Int × Int × (List (List UInt8)) × (List Int) × Bool × Bool × Bool × Int × Int × Int × Int × Int × (List (List UInt8)) × Int × Bool × Bool × Bool × Bool × Bool × Int × Int × Int × Int × Int × Bool × Bool × Int × Bool × Unit) × (List Int) × (List Int) × (List Line) × (List (List UInt8)) × (List Int) × (List (List UInt8)) × (List Int) × (List Line) × Unit) := bC (cPair (cArr 3 6) (cPair (cArr 3 2) (cPair (cInt .i64) (cPair (cInt .i64) (cK (.row 2 0) (cK (.row 3 0) (cPair cBool (cPair (cArr 28 16) (cPair (cInt .i64) (cPair (cInt .i64) (cPair cBool (cPair cBool (cPair (cInt .i64) (cPair (cInt .i64) (cK (.row 4 0) (cK (.row 5 0) (cK (.row 6 0) (cPair cBool (cPair cBool (cPair cBool (cPair (cInt .i64) (cPair (cInt .i64) (cPair (cInt .i64) (cPair (cInt .i64) (cPair (cInt .i64) (cK (.row 7 0) (cPair (cInt .i64) (cPair cBool (cPair cBool (cPair cBool (cPair cBool (cPair cBool (cPair (cInt .i64) (cPair (cInt .i64) (cPair (cInt .i64) (cPair (cInt .i64) (cPair (cInt .i64) (cPair cBool (cPair cBool (cPair (cInt .i64) (cPair cBool (cUnit)))))))))))))))))))))))))))))))))))))))))) (bC (cPair (cArr 3 6) (cPair (cArr 3 2) (cPair (cInt .i64) (cPair (cInt .i64) (cPair (cSl 3) (cK (.row 8 0) (cPair cBool (cPair (cArr 28 16) (cPair (cInt .i64) (cPair (cInt .i64) (cPair cBool (cPair cBool (cPair (cInt .i64) (cPair (cInt .i64) (cK (.row 9 0) (cPair (cSl 9) (cPair (cSl 3) (cPair cBool (cPair cBool (cPair cBool (cPair (cInt .i64) (cPair (cInt .i64) (cPair (cInt .i64) (cPair (cInt .i64) (cPair (cInt .i64) (cPair (cSl 9) (cPair (cInt .i64) (cPair cBool (cPair cBool (cPair cBool (cPair cBool (cPair cBool (cPair (cInt .i64) (cPair (cInt .i64) (cPair (cInt .i64) (cPair (cInt .i64) (cPair (cInt .i64) (cPair cBool (cPair cBool (cPair (cInt .i64) (cPair cBool (cUnit)))))))))))))))))))))))))))))))))))))))))) (bRv 3 0 (bRv 3 0 (bRv 51 0 (bRv 9 0 (bRv 3 0 (bRv 9 0 (bRv 3 0 (bRv 51 0 (bNil))))))))))
noncomputable def eSmachine_New_0 (s : Smachine_New_0) : St U := { tm := [(6, .v (vO (cK (.ptr 0 0) (cUnit)) (()))), (11, .v (vO (cK (.ptr 1 0) (cUnit)) (()))), (51, .v (vO (cPair (cInt .i64) (cUnit)) (s.t51, ()))), (52, .v (vO (cPair (cInt .i64) (cUnit)) (s.t52, ())))], hp := [.cells ((cPair (cArr 3 6) (cPair (cArr 3 2) (cPair (cInt .i64) (cPair (cInt .i64) (cK (.row 2 0) (cK (.row 3 0) (cPair cBool (cPair (cArr 28 16) (cPair (cInt .i64) (cPair (cInt .i64) (cPair cBool (cPair cBool (cPair (cInt .i64) (cPair (cInt .i64) (cK (.row 4 0) (cK (.row 5 0) (cK (.row 6 0) (cPair cBool (cPair cBool (cPair cBool (cPair (cInt .i64) (cPair (cInt .i64) (cPair (cInt .i64) (cPair (cInt .i64) (cPair (cInt .i64) (cK (.row 7 0) (cPair (cInt .i64) (cPair cBool (cPair cBool (cPair cBool (cPair cBool (cPair cBool (cPair (cInt .i64) (cPair (cInt .i64) (cPair (cInt .i64) (cPair (cInt .i64) (cPair (cInt .i64) (cPair cBool (cPair cBool (cPair (cInt .i64) (cPair cBool (cUnit))))))))))))))))))))))))))))))))))))))))) : Cdc U ((List Int) × (List Int) × Int × Int × Bool × (List Page) × Int × Int × Bool × Bool × Int × Int × Bool × Bool × Bool × Int × Int × Int × Int × Int × Int × Bool × Bool × Bool × Bool × Bool × Int × Int × Int × Int × Int × Bool × Bool × Int × Bool × Unit)).enc (s.b0_0, s.b0_1, s.b0_2, s.b0_3, s.b0_6, s.b0_7, s.b0_8, s.b0_9, s.b0_10, s.b0_11, s.b0_12, s.b0_13, s.b0_17, s.b0_18, s.b0_19, s.b0_20, s.b0_21, s.b0_22, s.b0_23, s.b0_24, s.b0_26, s.b0_27, s.b0_28, s.b0_29, s.b0_30, s.b0_31, s.b0_32, s.b0_33, s.b0_34, s.b0_35, s.b0_36, s.b0_37, s.b0_38, s.b0_39, s.b0_40, ())) none, .cells ((cPair (cArr 3 6) (cPair (cArr 3 2) (cPair (cInt .i64) (cPair (cInt .i64) (cPair (cSl 3) (cK (.row 8 0) (cPair cBool (cPair (cArr 28 16) (cPair (cInt .i64) (cPair (cInt .i64) (cPair cBool (cPair cBool (cPair (cInt .i64) (cPair (cInt .i64) (cK (.row 9 0) (cPair (cSl 9) (cPair (cSl 3) (cPair cBool (cPair cBool (cPair cBool (cPair (cInt .i64) (cPair (cInt .i64) (cPair (cInt .i64) (cPair (cInt .i64) (cPair (cInt .i64) (cPair (cSl 9) (cPair (cInt .i64) (cPair cBool (cPair cBool (cPair cBool (cPair cBool (cPair cBool (cPair (cInt .i64) (cPair (cInt .i64) (cPair (cInt .i64) (cPair (cInt .i64) (cPair (cInt .i64) (cPair cBool (cPair cBool (cPair (cInt .i64) (cPair cBool (cUnit))))))))))))))))))))))))))))))))))))))))) : Cdc U ((List Int) × (List Int) × Int × Int × (List Int) × Bool × (List Page) × Int × Int × Bool × Bool × Int × Int × (List (List UInt8)) × (List Int) × Bool × Bool × Bool × Int × Int × Int × Int × Int × (List (List UInt8)) × Int × Bool × Bool × Bool × Bool × Bool × Int × Int × Int × Int × Int × Bool × Bool × Int × Bool × Unit)).enc (s.b1_0, s.b1_1, s.b1_2, s.b1_3, s.b1_4, s.b1_6, s.b1_7, s.b1_8, s.b1_9, s.b1_10, s.b1_11, s.b1_12, s.b1_13, s.b1_15, s.b1_16, s.b1_17, s.b1_18, s.b1_19, s.b1_20, s.b1_21, s.b1_22, s.b1_23, s.b1_24, s.b1_25, s.b1_26, s.b1_27, s.b1_28, s.b1_29, s.b1_30, s.b1_31, s.b1_32, s.b1_33, s.b1_34, s.b1_35, s.b1_36, s.b1_37, s.b1_38, s.b1_39, s.b1_40, ())) none, .row 3 0 s.b2, .row 3 0 s.b3, .row 51 0 s.b4, .row 9 0 s.b5, .row 3 0 s.b6, .row 9 0 s.b7, .row 3 0 s.b8, .row 51 0 s.b9] }
noncomputable def xSmachine_New_0 (r : ((List Int) × (List Int) × Int × Int × Bool × (List Page) × Int × Int × Bool × Bool × Int × Int × Bool × Bool × Bool × Int × Int × Int × Int × Int × Int × Bool × Bool × Bool × Bool × Bool × Int × Int × Int × Int × Int × Bool × Bool × Int × Bool × (List Int) × (List Int) × Int × Int × (List Int) × Bool × (List Page) × Int × Int × Bool × Bool × Int × Int × (List (List UInt8)) × (List Int) × Bool × Bool × Bool × Int × Int × Int × Int × Int × (List (List UInt8)) × Int × Bool × Bool × Bool × Bool × Bool × Int × Int × Int × Int × Int × Bool × Bool × Int × Bool × (List Int) × (List Int) × (List Line) × (List (List UInt8)) × (List Int) × (List (List UInt8)) × (List Int) × (List Line))) : Ex × St U := (.exit 0, { tm := [(6, .v (vO (cK (.ptr 0 0) (cUnit)) (()))), (11, .v (vO (cK (.ptr 1 0) (cUnit)) (())))], hp := [.cells ((cPair (cArr 3 6) (cPair (cArr 3 2) (cPair (cInt .i64) (cPair (cInt .i64) (cK (.row 2 0) (cK (.row 3 0) (cPair cBool (cPair (cArr 28 16) (cPair (cInt .i64) (cPair (cInt .i64) (cPair cBool (cPair cBool (cPair (cInt .i64) (cPair (cInt .i64) (cK (.row 4 0) (cK (.row 5 0) (cK (.row 6 0) (cPair cBool (cPair cBool (cPair cBool (cPair (cInt .i64) (cPair (cInt .i64) (cPair (cInt .i64) (cPair (cInt .i64) (cPair (cInt .i64) (cK (.row 7 0) (cPair (cInt .i64) (cPair cBool (cPair cBool (cPair cBool (cPair cBool (cPair cBool (cPair (cInt .i64) (cPair (cInt .i64) (cPair (cInt .i64) (cPair (cInt .i64) (cPair (cInt .i64) (cPair cBool (cPair cBool (cPair (cInt .i64) (cPair cBool (cUnit))))))))))))))))))))))))))))))))))))))))) : Cdc U ((List Int) × (List Int) × Int × Int × Bool × (List Page) × Int × Int × Bool × Bool × Int × Int × Bool × Bool × Bool × Int × Int × Int × Int × Int × Int × Bool × Bool × Bool × Bool × Bool × Int × Int × Int × Int × Int × Bool × Bool × Int × Bool × Unit)).enc (r.1, r.2.1, r.2.2.1, r.2.2.2.1, r.2.2.2.2.1, r.2.2.2.2.2.1, r.2.2.2.2.2.2.1, r.2.2.2.2.2.2.2.1, r.2.2.2.2.2.2.2.2.1, r.2.2.2.2.2.2.2.2.2.1, r.2.2.2.2.2.2.2.2.2.2.1, r.2.2.2.2.2.2.2.2.2.2.2.1, r.2.2.2.2.2.2.2.2.2.2.2.2.1, r.2.2.2.2.2.2.2.2.2.2.2.2.2.1, r.2.2.2.2.2.2.2.2.2.2.2.2.2.2.1, r.2.2.2.2.2.2.2.2.2.2.2.2.2.2.2.1, r.2.2.2.2.2.2.2.2.2.2.2.2.2.2.2.2.1, r.2.2.2.2.2.2.2.2.2.2.2.2.2.2.2.2.2.1, r.2.2.2.2.2.2.2.2.2.2.2.2.2.2.2.2.2.2.1, r.2.2.2.2.2.2.2.2.2.2.2.2.2.2.2.2.2.2.2.1, r.2.2.2.2.2.2.2.2.2.2.2.2.2.2.2.2.2.2.2.2.1, r.2.2.2.2.2.2.2.2.2.2.2.2.2.2.2.2.2.2.2.2.2.1, r.2.2.2.2.2.2.2.2.2.2.2.2.2.2.2.2.2.2.2.2.2.2.1, r.2.2.2.2.2.2.2.2.2.2.2.2.2.2.2.2.2.2.2.2.2.2.2.1, r.2.2.2.2.2.2.2.2.2.2.2.2.2.2.2.2.2.2.2.2.2.2.2.2.1, r.2.2.2.2.2.2.2.2.2.2.2.2.2.2.2.2.2.2.2.2.2.2.2.2.2.1, r.2.2.2.2.2.2.2.2.2.2.2.2.2.2.2.2.2.2.2.2.2.2.2.2.2.2.1, r.2.2.2.2.2.2.2.2.2.2.2.2.2.2.2.2.2.2.2.2.2.2.2.2.2.2.2.1, r.2.2.2.2.2.2.2.2.2.2.2.2.2.2.2.2.2.2.2.2.2.2.2.2.2.2.2.2.1, r.2.2.2.2.2.2.2.2.2.2.2.2.2.2.2.2.2.2.2.2.2.2.2.2.2.2.2.2.2.1, r.2.2.2.2.2.2.2.2.2.2.2.2.2.2.2.2.2.2.2.2.2.2.2.2.2.2.2.2.2.2.1, r.2.2.2.2.2.2.2.2.2.2.2.2.2.2.2.2.2.2.2.2.2.2.2.2.2.2.2.2.2.2.2.1, r.2.2.2.2.2.2.2.2.2.2.2.2.2.2.2.2.2.2.2.2.2.2.2.2.2.2.2.2.2.2.2.2.1, r.2.2.2.2.2.2.2.2.2.2.2.2.2.2.2.2.2.2.2.2.2.2.2.2.2.2.2.2.2.2.2.2.2.1, r.2.2.2.2.2.2.2.2.2.2.2.2.2.2.2.2.2.2.2.2.2.2.2.2.2.2.2.2.2.2.2.2.2.2.1, ())) none, .cells ((cPair (cArr 3 6) (cPair (cArr 3 2) (cPair (cInt .i64) (cPair (cInt .i64) (cPair (cSl 3) (cK (.row 8 0) (cPair cBool (cPair (cArr 28 16) (cPair (cInt .i64) (cPair (cInt .i64) (cPair cBool (cPair cBool (cPair (cInt .i64) (cPair (cInt .i64) (cK (.row 9 0) (cPair (cSl 9) (cPair (cSl 3) (cPair cBool (cPair cBool (cPair cBool (cPair (cInt .i64) (cPair (cInt .i64) (cPair (cInt .i64) (cPair (cInt .i64) (cPair (cInt .i64) (cPair (cSl 9) (cPair (cInt .i64) (cPair cBool (cPair cBool (cPair cBool (cPair cBool (cPair cBool (cPair (cInt .i64) (cPair (cInt .i64) (cPair (cInt .i64) (cPair (cInt .i64) (cPair (cInt .i64) (cPair cBool (cPair cBool (cPair (cInt .i64) (cPair cBool (cUnit))))))))))))))))))))))))))))))))))))))))) : Cdc U ((List Int) × (List Int) × Int × Int × (List Int) × Bool × (List Page) × Int × Int × Bool × Bool × Int × Int × (List (List UInt8)) × (List Int) × Bool × Bool × Bool × Int × Int × Int × Int × Int × (List (List UInt8)) × Int × Bool × Bool × Bool × Bool × Bool × Int × Int × Int × Int × Int × Bool × Bool × Int × Bool × Unit)).enc (r.2.2.2.2.2.2.2.2.2.2.2.2.2.2.2.2.2.2.2.2.2.2.2.2.2.2.2.2.2.2.2.2.2.2.2.1, r.2.2.2.2.2.2.2.2.2.2.2.2.2.2.2.2.2.2.2.2.2.2.2.2.2.2.2.2.2.2.2.2.2.2.2.2.1, r.2.2.2.2.2.2.2.2.2.2.2.2.2.2.2.2.2.2.2.2.2.2.2.2.2.2.2.2.2.2.2.2.2.2.2.2.2.1, r.2.2.2.2.2.2.2.2.2.2.2.2.2.2.2.2.2.2.2.2.2.2.2.2.2.2.2.2.2.2.2.2.2.2.2.2.2.2.1, r.2.2.2.2.2.2.2.2.2.2.2.2.2.2.2.2.2.2.2.2.2.2.2.2.2.2.2.2.2.2.2.2.2.2.2.2.2.2.2.1, r.2.2.2.2.2.2.2.2.2.2.2.2.2.2.2.2.2.2.2.2.2.2.2.2.2.2.2.2.2.2.2.2.2.2.2.2.2.2.2.2.1, r.2.2.2.2.2.2.2.2.2.2.2.2.2.2.2.2.2.2.2.2.2.2.2.2.2.2.2.2.2.2.2.2.2.2.2.2.2.2.2.2.2.1, r.2.2.2.2.2.2.2.2.2.2.2.2.2.2.2.2.2.2.2.2.2.2.2.2.2.2.2.2.2.2.2.2.2.2.2.2.2.2.2.2.2.2.1, r.2.2.2.2.2.2.2.2.2.2.2.2.2.2.2.2.2.2.2.2.2.2.2.2.2.2.2.2.2.2.2.2.2.2.2.2.2.2.2.2.2.2.2.1, r.2.2.2.2.2.2.2.2.2.2.2.2.2.2.2.2.2.2.2.2.2.2.2.2.2.2.2.2.2.2.2.2.2.2.2.2.2.2.2.2.2.2.2.2.1, r.2.2.2.2.2.2.2.2.2.2.2.2.2.2.2.2.2.2.2.2.2.2.2.2.2.2.2.2.2.2.2.2.2.2.2.2.2.2.2.2.2.2.2.2.2.1, r.2.2.2.2.2.2.2.2.2.2.2.2.2.2.2.2.2.2.2.2.2.2.2.2.2.2.2.2.2.2.2.2.2.2.2.2.2.2.2.2.2.2.2.2.2.2.1, r.2.2.2.2.2.2.2.2.2.2.2.2.2.2.2.2.2.2.2.2.2.2.2.2.2.2.2.2.2.2.2.2.2.2.2.2.2.2.2.2.2.2.2.2.2.2.2.1, r.2.2.2.2.2.2.2.2.2.2.2.2.2.2.2.2.2.2.2.2.2.2.2.2.2.2.2.2.2.2.2.2.2.2.2.2.2.2.2.2.2.2.2.2.2.2.2.2.1, r.2.2.2.2.2.2.2.2.2.2.2.2.2.2.2.2.2.2.2.2.2.2.2.2.2.2.2.2.2.2.2.2.2.2.2.2.2.2.2.2.2.2.2.2.2.2.2.2.2.1, r.2.2.2.2.2.2.2.2.2.2.2.2.2.2.2.2.2.2.2.2.2.2.2.2.2.2.2.2.2.2.2.2.2.2.2.2.2.2.2.2.2.2.2.2.2.2.2.2.2.2.1, r.2.2.2.2.2.2.2.2.2.2.2.2.2.2.2.2.2.2.2.2.2.2.2.2.2.2.2.2.2.2.2.2.2.2.2.2.2.2.2.2.2.2.2.2.2.2.2.2.2.2.2.1, r.2.2.2.2.2.2.2.2.2.2.2.2.2.2.2.2.2.2.2.2.2.2.2.2.2.2.2.2.2.2.2.2.2.2.2.2.2.2.2.2.2.2.2.2.2.2.2.2.2.2.2.2.1, r.2.2.2.2.2.2.2.2.2.2.2.2.2.2.2.2.2.2.2.2.2.2.2.2.2.2.2.2.2.2.2.2.2.2.2.2.2.2.2.2.2.2.2.2.2.2.2.2.2.2.2.2.2.1, r.2.2.2.2.2.2.2.2.2.2.2.2.2.2.2.2.2.2.2.2.2.2.2.2.2.2.2.2.2.2.2.2.2.2.2.2.2.2.2.2.2.2.2.2.2.2.2.2.2.2.2.2.2.2.1, r.2.2.2.2.2.2.2.2.2.2.2.2.2.2.2.2.2.2.2.2.2.2.2.2.2.2.2.2.2.2.2.2.2.2.2.2.2.2.2.2.2.2.2.2.2.2.2.2.2.2.2.2.2.2.2.1, r.2.2.2.2.2.2.2.2.2.2.2.2.2.2.2.2.2.2.2.2.2.2.2.2.2.2.2.2.2.2.2.2.2.2.2.2.2.2.2.2.2.2.2.2.2.2.2.2.2.2.2.2.2.2.2.2.1, r.2.2.2.2.2.2.2.2.2.2.2.2.2.2.2.2.2.2.2.2.2.2.2.2.2.2.2.2.2.2.2.2.2.2.2.2.2.2.2.2.2.2.2.2.2.2.2.2.2.2.2.2.2.2.2.2.2.1, r.2.2.2.2.2.2.2.2.2.2.2.2.2.2.2.2.2.2.2.2.2.2.2.2.2.2.2.2.2.2.2.2.2.2.2.2.2.2.2.2.2.2.2.2.2.2.2.2.2.2.2.2.2.2.2.2.2.2.1, r.2.2.2.2.2.2.2.2.2.2.2.2.2.2.2.2.2.2.2.2.2.2.2.2.2.2.2.2.2.2.2.2.2.2.2.2.2.2.2.2.2.2.2.2.2.2.2.2.2.2.2.2.2.2.2.2.2.2.2.1, r.2.2.2.2.2.2.2.2.2.2.2.2.2.2.2.2.2.2.2.2.2.2.2.2.2.2.2.2.2.2.2.2.2.2.2.2.2.2.2.2.2.2.2.2.2.2.2.2.2.2.2.2.2.2.2.2.2.2.2.2.1, r.2.2.2.2.2.2.2.2.2.2.2.2.2.2.2.2.2.2.2.2.2.2.2.2.2.2.2.2.2.2.2.2.2.2.2.2.2.2.2.2.2.2.2.2.2.2.2.2.2.2.2.2.2.2.2.2.2.2.2.2.2.1, r.2.2.2.2.2.2.2.2.2.2.2.2.2.2.2.2.2.2.2.2.2.2.2.2.2.2.2.2.2.2.2.2.2.2.2.2.2.2.2.2.2.2.2.2.2.2.2.2.2.2.2.2.2.2.2.2.2.2.2.2.2.2.1, r.2.2.2.2.2.2.2.2.2.2.2.2.2.2.2.2.2.2.2.2.2.2.2.2.2.2.2.2.2.2.2.2.2.2.2.2.2.2.2.2.2.2.2.2.2.2.2.2.2.2.2.2.2.2.2.2.2.2.2.2.2.2.2.1, r.2.2.2.2.2.2.2.2.2.2.2.2.2.2.2.2.2.2.2.2.2.2.2.2.2.2.2.2.2.2.2.2.2.2.2.2.2.2.2.2.2.2.2.2.2.2.2.2.2.2.2.2.2.2.2.2.2.2.2.2.2.2.2.2.1, r.2.2.2.2.2.2.2.2.2.2.2.2.2.2.2.2.2.2.2.2.2.2.2.2.2.2.2.2.2.2.2.2.2.2.2.2.2.2.2.2.2.2.2.2.2.2.2.2.2.2.2.2.2.2.2.2.2.2.2.2.2.2.2.2.2.1, r.2.2.2.2.2.2.2.2.2.2.2.2.2.2.2.2.2.2.2.2.2.2.2.2.2.2.2.2.2.2.2.2.2.2.2.2.2.2.2.2.2.2.2.2.2.2.2.2.2.2.2.2.2.2.2.2.2.2.2.2.2.2.2.2.2.2.1, r.2.2.2.2.2.2.2.2.2.2.2.2.2.2.2.2.2.2.2.2.2.2.2.2.2.2.2.2.2.2.2.2.2.2.2.2.2.2.2.2.2.2.2.2.2.2.2.2.2.2.2.2.2.2.2.2.2.2.2.2.2.2.2.2.2.2.2.1, r.2.2.2.2.2.2.2.2.2.2.2.2.2.2.2.2.2.2.2.2.2.2.2.2.2.2.2.2.2.2.2.2.2.2.2.2.2.2.2.2.2.2.2.2.2.2.2.2.2.2.2.2.2.2.2.2.2.2.2.2.2.2.2.2.2.2.2.2.1, r.2.2.2.2.2.2.2.2.2.2.2.2.2.2.2.2.2.2.2.2.2.2.2.2.2.2.2.2.2.2.2.2.2.2.2.2.2.2.2.2.2.2.2.2.2.2.2.2.2.2.2.2.2.2.2.2.2.2.2.2.2.2.2.2.2.2.2.2.2.1, r.2.2.2.2.2.2.2.2.2.2.2.2.2.2.2.2.2.2.2.2.2.2.2.2.2.2.2.2.2.2.2.2.2.2.2.2.2.2.2.2.2.2.2.2.2.2.2.2.2.2.2.2.2.2.2.2.2.2.2.2.2.2.2.2.2.2.2.2.2.2.1, r.2.2.2.2.2.2.2.2.2.2.2.2.2.2.2.2.2.2.2.2.2.2.2.2.2.2.2.2.2.2.2.2.2.2.2.2.2.2.2.2.2.2.2.2.2.2.2.2.2.2.2.2.2.2.2.2.2.2.2.2.2.2.2.2.2.2.2.2.2.2.2.1, r.2.2.2.2.2.2.2.2.2.2.2.2.2.2.2.2.2.2.2.2.2.2.2.2.2.2.2.2.2.2.2.2.2.2.2.2.2.2.2.2.2.2.2.2.2.2.2.2.2.2.2.2.2.2.2.2.2.2.2.2.2.2.2.2.2.2.2.2.2.2.2.2.1, r.2.2.2.2.2.2.2.2.2.2.2.2.2.2.2.2.2.2.2.2.2.2.2.2.2.2.2.2.2.2.2.2.2.2.2.2.2.2.2.2.2.2.2.2.2.2.2.2.2.2.2.2.2.2.2.2.2.2.2.2.2.2.2.2.2.2.2.2.2.2.2.2.2.1, ())) none, .row 3 0 r.2.2.2.2.2.2.2.2.2.2.2.2.2.2.2.2.2.2.2.2.2.2.2.2.2.2.2.2.2.2.2.2.2.2.2.2.2.2.2.2.2.2.2.2.2.2.2.2.2.2.2.2.2.2.2.2.2.2.2.2.2.2.2.2.2.2.2.2.2.2.2.2.2.2.1, .row 3 0 r.2.2.2.2.2.2.2.2.2.2.2.2.2.2.2.2.2.2.2.2.2.2.2.2.2.2.2.2.2.2.2.2.2.2.2.2.2.2.2.2.2.2.2.2.2.2.2.2.2.2.2.2.2.2.2.2.2.2.2.2.2.2.2.2.2.2.2.2.2.2.2.2.2.2.2.1, .row 51 0 r.2.2.2.2.2.2.2.2.2.2.2.2.2.2.2.2.2.2.2.2.2.2.2.2.2.2.2.2.2.2.2.2.2.2.2.2.2.2.2.2.2.2.2.2.2.2.2.2.2.2.2.2.2.2.2.2.2.2.2.2.2.2.2.2.2.2.2.2.2.2.2.2.2.2.2.2.1, .row 9 0 r.2.2.2.2.2.2.2.2.2.2.2.2.2.2.2.2.2.2.2.2.2.2.2.2.2.2.2.2.2.2.2.2.2.2.2.2.2.2.2.2.2.2.2.2.2.2.2.2.2.2.2.2.2.2.2.2.2.2.2.2.2.2.2.2.2.2.2.2.2.2.2.2.2.2.2.2.2.1, .row 3 0 r.2.2.2.2.2.2.2.2.2.2.2.2.2.2.2.2.2.2.2.2.2.2.2.2.2.2.2.2.2.2.2.2.2.2.2.2.2.2.2.2.2.2.2.2.2.2.2.2.2.2.2.2.2.2.2.2.2.2.2.2.2.2.2.2.2.2.2.2.2.2.2.2.2.2.2.2.2.2.1, .row 9 0 r.2.2.2.2.2.2.2.2.2.2.2.2.2.2.2.2.2.2.2.2.2.2.2.2.2.2.2.2.2.2.2.2.2.2.2.2.2.2.2.2.2.2.2.2.2.2.2.2.2.2.2.2.2.2.2.2.2.2.2.2.2.2.2.2.2.2.2.2.2.2.2.2.2.2.2.2.2.2.2.1, .row 3 0 r.2.2.2.2.2.2.2.2.2.2.2.2.2.2.2.2.2.2.2.2.2.2.2.2.2.2.2.2.2.2.2.2.2.2.2.2.2.2.2.2.2.2.2.2.2.2.2.2.2.2.2.2.2.2.2.2.2.2.2.2.2.2.2.2.2.2.2.2.2.2.2.2.2.2.2.2.2.2.2.2.1, .row 51 0 r.2.2.2.2.2.2.2.2.2.2.2.2.2.2.2.2.2.2.2.2.2.2.2.2.2.2.2.2.2.2.2.2.2.2.2.2.2.2.2.2.2.2.2.2.2.2.2.2.2.2.2.2.2.2.2.2.2.2.2.2.2.2.2.2.2.2.2.2.2.2.2.2.2.2.2.2.2.2.2.2.2] })
noncomputable def xTmachine_New_0 (r : ((List Int) × (List Int) × Int × Int × Bool × (List Page) × Int × Int × Bool × Bool × Int × Int × Bool × Bool × Bool × Int × Int × Int × Int × Int × Int × Bool × Bool × Bool × Bool × Bool × Int × Int × Int × Int × Int × Bool × Bool × Int × Bool × (List Int) × (List Int) × Int × Int × (List Int) × Bool × (List Page) × Int × Int × Bool × Bool × Int × Int × (List (List UInt8)) × (List Int) × Bool × Bool × Bool × Int × Int × Int × Int × Int × (List (List UInt8)) × Int × Bool × Bool × Bool × Bool × Bool × Int × Int × Int × Int × Int × Bool × Bool × Int × Bool × (List Int) × (List Int) × (List Line) × (List (List UInt8)) × (List Int) × (List (List UInt8)) × (List Int) × (List Line))) : Tree (Ex × St U) := .leaf (xSmachine_New_0 r)
noncomputable def hmachine_New_0 : Hd := { keep := [6, 11, 51, 52], xkeep := [6, 7, 11], own := true }
noncomputable def Emachine_New : Env U := { P := Tryd.prog, cd := cd, fns := fns29, lps := (addL 0 hmachine_New_0 (mkLoop tAmachine_New_0 tBmachine_New_0 Pmachine_New_0 (Lmachine_New_0 none) xTmachine_New_0) noL), frz := fun _r => false, nt := 62, n0 := 0 }
noncomputable def Bmachine_New_0 : Code := (loopAt (Tryd.f19.body.getD .skip) 0 0).getD .skip
theorem roundmachine_New_0 (s : Smachine_New_0) : round Emachine_New hmachine_New_0 Bmachine_New_0 0 (eSmachine_New_0 s) = (Wmachine_New_0 s).map (sumE eSmachine_New_0 xSmachine_New_0) := by kernel_rfl
theorem lpmachine_New_0 : LpOk Emachine_New Bmachine_New_0 0 := mkLoop_ok (A := tAmachine_New_0) (B := tBmachine_New_0) (f := Pmachine_New_0) (L := Lmachine_New_0 none) (tO_ok (cK_ok cUnit_ok) (tO_ok (cK_ok cUnit_ok) (tO_ok (cPair_ok (cInt_ok .i64) cUnit_ok) (tO_ok (cPair_ok (cInt_ok .i64) cUnit_ok) tNil_ok)))) (bC_ok (cPair_ok (cArr_ok 3 6) (cPair_ok (cArr_ok 3 2) (cPair_ok (cInt_ok .i64) (cPair_ok (cInt_ok .i64) (cK_ok (cK_ok (cPair_ok cBool_ok (cPair_ok (cArr_ok 28 16) (cPair_ok (cInt_ok .i64) (cPair_ok (cInt_ok .i64) (cPair_ok cBool_ok (cPair_ok cBool_ok (cPair_ok (cInt_ok .i64) (cPair_ok (cInt_ok .i64) (cK_ok (cK_ok (cK_ok (cPair_ok cBool_ok (cPair_ok cBool_ok (cPair_ok cBool_ok (cPair_ok (cInt_ok .i64) (cPair_ok (cInt_ok .i64) (cPair_ok (cInt_ok .i64) (cPair_ok (cInt_ok .i64) (cPair_ok (cInt_ok .i64) (cK_ok (cPair_ok (cInt_ok .i64) (cPair_ok cBool_ok (cPair_ok cBool_ok (cPair_ok cBool_ok (cPair_ok cBool_ok (cPair_ok cBool_ok (cPair_ok (cInt_ok .i64) (cPair_ok (cInt_ok .i64) (cPair_ok (cInt_ok .i64) (cPair_ok (cInt_ok .i64) (cPair_ok (cInt_ok .i64) (cPair_ok cBool_ok (cPair_ok cBool_ok (cPair_ok (cInt_ok .i64) (cPair_ok cBool_ok cUnit_ok))))))))))))))))))))))))))))))))))))))))) (bC_ok (cPair_ok (cArr_ok 3 6) (cPair_ok (cArr_ok 3 2) (cPair_ok (cInt_ok .i64) (cPair_ok (cInt_ok .i64) (cPair_ok (cSl_ok 3) (cK_ok (cPair_ok cBool_ok (cPair_ok (cArr_ok 28 16) (cPair_ok (cInt_ok .i64) (cPair_ok (cInt_ok .i64) (cPair_ok cBool_ok (cPair_ok cBool_ok (cPair_ok (cInt_ok .i64) (cPair_ok (cInt_ok .i64) (cK_ok (cPair_ok (cSl_ok 9) (cPair_ok (cSl_ok 3) (cPair_ok cBool_ok (cPair_ok cBool_ok (cPair_ok cBool_ok (cPair_ok (cInt_ok .i64) (cPair_ok (cInt_ok .i64) (cPair_ok (cInt_ok .i64) (cPair_ok (cInt_ok .i64) (cPair_ok (cInt_ok .i64) (cPair_ok (cSl_ok 9) (cPair_ok (cInt_ok .i64) (cPair_ok cBool_ok (cPair_ok cBool_ok (cPair_ok cBool_ok (cPair_ok cBool_ok (cPair_ok cBool_ok (cPair_ok (cInt_ok .i64) (cPair_ok (cInt_ok .i64) (cPair_ok (cInt_ok .i64) (cPair_ok (cInt_ok .i64) (cPair_ok (cInt_ok .i64) (cPair_ok cBool_ok (cPair_ok cBool_ok (cPair_ok (cInt_ok .i64) (cPair_ok cBool_ok cUnit_ok))))))))))))))))))))))))))))))))))))))))) (bRv_ok (bRv_ok (bRv_ok (bRv_ok (bRv_ok (bRv_ok (bRv_ok (bRv_ok bNil_ok)))))))))) (enc := eSmachine_New_0) (out := xTmachine_New_0) (outS := xSmachine_New_0) (step := Wmachine_New_0) (fun _ => rfl) (fun _ _ => by kernel_rfl) (by kernel_rfl) (fun _ => rfl) roundmachine_New_0
theorem runmachine_New (x : Int × Int × Int × Unit) (g : Unit) : execF Emachine_New Tryd.f19 (Amachine_New.enc x) (bNil.enc g) = (Tmachine_New none x.1 x.2.1 x.2.2.1).map Rmachine_New := by kernel_rfl
theorem okmachine_New : FnOk Tryd.prog cd 19 Smachine_New := mk_ok (E := Emachine_New) cd_ok fns29_ok Tryd.func19 (by kernel_rfl) (loops_of (addL_ok lpmachine_New_0 noL_ok)) (aO_ok (cInt_ok .i64) (aO_ok (cInt_ok .i64) (aO_ok (cInt_ok .i64) (aNil_ok)))) bNil_ok (T := fun x _ => Tmachine_New none x.1 x.2.1 x.2.2.1) (fun _ _ => rfl) runmachine_New
noncomputable def fns19 := addF 19 true Smachine_New fns29
theorem fns19_ok : ∀ f q t, fns19 f = some (q, t) → FnOk Tryd.prog cd f t := addF_ok okmachine_New fns29_ok
/-- emulator/memory.Right -/
structure Smemory_Right_0 where
  t0 : (List Int)
  t1 : (List Int)
  t15 : (List Int)
  t16 : Int
  t17 : Int
noncomputable def Wmemory_Right_0 (s : Smemory_Right_0) : Tree (Smemory_Right_0 ⊕ (((List Int) × (List Int) × Bool) ⊕ ((List Int) × (List Int)))) :=
  .ite (decide (s.t17 < s.t16))
    (.ite (decide (0 ≤ s.t17))
      (.opt Int (s.t15[(s.t17).toNat]?) fun y110 =>
        .ite (!decide ((IntKind.wrap .i64 (((BitVec.ofInt 64 y110 &&& BitVec.ofInt 64 (65535 : Int)).toNat : Int))) = y110))
          (.leaf (.inr (.inl (s.t0, s.t1, false))))
          (.leaf (.inl (Smemory_Right_0.mk s.t0 s.t1 s.t15 s.t16 (IntKind.wrap .i64 (s.t17 + (1 : Int)))))))
      .fail)
    (.leaf (.inr (.inr (s.t0, s.t1))))
noncomputable def Lmemory_Right_0 (q : Option Nat) (s : Smemory_Right_0) : Option (((List Int) × (List Int) × Bool) ⊕ ((List Int) × (List Int))) := limQ q (fun s => (Wmemory_Right_0 s).run) s
theorem leLmemory_Right_0 (k : Nat) (s : Smemory_Right_0) : Le (Lmemory_Right_0 (some k) s) (Lmemory_Right_0 none s) := limQ_le (fun _ => Le.rfl) s
structure Smemory_Right_1 where
  t0 : (List Int)
  t7 : Int
  t26 : (List Int)
  t27 : Int
  t28 : Int
noncomputable def Wmemory_Right_1 (s : Smemory_Right_1) : Tree (Smemory_Right_1 ⊕ (Bool ⊕ Unit)) :=
  .ite (decide (s.t28 < s.t27))
    (.ite (decide (0 ≤ s.t28))
      (.opt Int (s.t26[(s.t28).toNat]?) fun y114 =>
        .ite (decide (y114 ≤ s.t7))
          (.leaf (.inr (.inl false)))
          (.ite (decide ((2 : Int) = 0))
            .fail
            (.ite (!decide (((y114).tmod (2 : Int)) = (0 : Int)))
              (.leaf (.inr (.inl false)))
              (.ite (decide ((IntKind.wrap .i64 ((2 : Int) * (s.t0.length : Int))) ≤ y114))
                (.leaf (.inr (.inl false)))
                (.leaf (.inl (Smemory_Right_1.mk s.t0 y114 s.t26 s.t27 (IntKind.wrap .i64 (s.t28 + (1 : Int))))))))))
      .fail)
    (.leaf (.inr (.inr ())))
noncomputable def Lmemory_Right_1 (q : Option Nat) (s : Smemory_Right_1) : Option (Bool ⊕ Unit) := limQ q (fun s => (Wmemory_Right_1 s).run) s
theorem leLmemory_Right_1 (k : Nat) (s : Smemory_Right_1) : Le (Lmemory_Right_1 (some k) s) (Lmemory_Right_1 none s) := limQ_le (fun _ => Le.rfl) s
noncomputable def Tmemory_Right (q : Option Nat) (x0 : (List Int)) (x1 : (List Int)) : Tree Bool :=
  .opt Bool (memory_sized (IntKind.wrap .i64 ((2 : Int) * (x0.length : Int)))) fun r109 =>
    .ite (!r109)
      (.leaf (false))
      (.opt (((List Int) × (List Int) × Bool) ⊕ ((List Int) × (List Int))) (Lmemory_Right_0 q (Smemory_Right_0.mk x0 x1 x0 (x0.length : Int) (0 : Int))) fun l111 =>
        .ite (l111.isLeft)
          (.opt ((List Int) × (List Int) × Bool) (l111.getLeft?) fun a112 =>
            .leaf (a112.2.2))
          (.opt ((List Int) × (List Int)) (l111.getRight?) fun b113 =>
            .opt (Bool ⊕ Unit) (Lmemory_Right_1 q (Smemory_Right_1.mk b113.1 (-1 : Int) b113.2 (b113.2.length : Int) (0 : Int))) fun l115 =>
              .ite (l115.isLeft)
                (.opt Bool (l115.getLeft?) fun a116 =>
                  .leaf (a116))
                (.opt Unit (l115.getRight?) fun b117 =>
                  .leaf (true))))
noncomputable def memory_Right (q : Option Nat) (x0 : (List Int)) (x1 : (List Int)) : Option Bool := (Tmemory_Right q x0 x1).run
theorem lememory_Right (k : Nat) (x0 : (List Int)) (x1 : (List Int)) : Le (memory_Right (some k) x0 x1) (memory_Right none x0 x1) := (TLe.opt Le.rfl fun _ => (TLe.ite TLe.rfl (TLe.opt (leLmemory_Right_0 k _) fun _ => (TLe.ite TLe.rfl (TLe.opt Le.rfl fun _ => (TLe.opt (leLmemory_Right_1 k _) fun _ => TLe.rfl))))))
noncomputable def Amemory_Right : Arg U ((List Int) × (List Int) × Unit) := aO (cSl 3) (aO (cSl 3) (aNil))
noncomputable def Rmemory_Right (r : Bool) : List (V U) × List (Blk U) := ([vO cBool r], [])
noncomputable def Smemory_Right : List (V U) → List (Blk U) → Option (FnOut U) := mkSpec Amemory_Right bNil (fun x _ => memory_Right none x.1 x.2.1) Rmemory_Right
noncomputable def Pmemory_Right_0 (x : ((List Int) × Unit) × ((List Int) × Unit) × ((List Int) × Unit) × (Int × Unit) × (Int × Unit) × Unit) (_g : Unit) : Smemory_Right_0 := Smemory_Right_0.mk x.1.1 x.2.1.1 x.2.2.1.1 x.2.2.2.1.1 x.2.2.2.2.1.1
noncomputable def tAmemory_Right_0 : Tms U (((List Int) × Unit) × ((List Int) × Unit) × ((List Int) × Unit) × (Int × Unit) × (Int × Unit) × Unit) := tO 0 (cPair (cSl 3) (cUnit)) (tO 1 (cPair (cSl 3) (cUnit)) (tO 15 (cPair (cSl 3) (cUnit)) (tO 16 (cPair (cInt .i64) (cUnit)) (tO 17 (cPair (cInt .i64) (cUnit)) (tNil)))))
noncomputable def tBmemory_Right_0 : Bls U (Unit) := bNil
noncomputable def eSmemory_Right_0 (s : Smemory_Right_0) : St U := { tm := [(0, .v (vO (cPair (cSl 3) (cUnit)) (s.t0, ()))), (1, .v (vO (cPair (cSl 3) (cUnit)) (s.t1, ()))), (15, .v (vO (cPair (cSl 3) (cUnit)) (s.t15, ()))), (16, .v (vO (cPair (cInt .i64) (cUnit)) (s.t16, ()))), (17, .v (vO (cPair (cInt .i64) (cUnit)) (s.t17, ())))], hp := [] }
noncomputable def xSmemory_Right_0 : (((List Int) × (List Int) × Bool) ⊕ ((List Int) × (List Int))) → Ex × St U
  | .inl r => (.ret, { tm := [(0, .v (vO (cPair (cSl 3) (cUnit)) (r.1, ()))), (1, .v (vO (cPair (cSl 3) (cUnit)) (r.2.1, ()))), (4, .v (vO (cPair cBool (cUnit)) (r.2.2, ())))], hp := [] })
  | .inr r => (.exit 0, { tm := [(0, .v (vO (cPair (cSl 3) (cUnit)) (r.1, ()))), (1, .v (vO (cPair (cSl 3) (cUnit)) (r.2, ())))], hp := [] })
noncomputable def xTmemory_Right_0 (y : (((List Int) × (List Int) × Bool) ⊕ ((List Int) × (List Int)))) : Tree (Ex × St U) := .ite y.isLeft (.opt ((List Int) × (List Int) × Bool) y.getLeft? fun r => .leaf (.ret, { tm := [(0, .v (vO (cPair (cSl 3) (cUnit)) (r.1, ()))), (1, .v (vO (cPair (cSl 3) (cUnit)) (r.2.1, ()))), (4, .v (vO (cPair cBool (cUnit)) (r.2.2, ())))], hp := [] })) (.opt ((List Int) × (List Int)) y.getRight? fun r => .leaf (.exit 0, { tm := [(0, .v (vO (cPair (cSl 3) (cUnit)) (r.1, ()))), (1, .v (vO (cPair (cSl 3) (cUnit)) (r.2, ())))], hp := [] }))
noncomputable def hmemory_Right_0 : Hd := { keep := [0, 1, 15, 16, 17], xkeep := [0, 1, 4], own := false }
noncomputable def Pmemory_Right_1 (x : ((List Int) × Unit) × (Int × Unit) × ((List Int) × Unit) × (Int × Unit) × (Int × Unit) × Unit) (_g : Unit) : Smemory_Right_1 := Smemory_Right_1.mk x.1.1 x.2.1.1 x.2.2.1.1 x.2.2.2.1.1 x.2.2.2.2.1.1
noncomputable def tAmemory_Right_1 : Tms U (((List Int) × Unit) × (Int × Unit) × ((List Int) × Unit) × (Int × Unit) × (Int × Unit) × Unit) := tO 0 (cPair (cSl 3) (cUnit)) (tO 7 (cPair (cInt .i64) (cUnit)) (tO 26 (cPair (cSl 3) (cUnit)) (tO 27 (cPair (cInt .i64) (cUnit)) (tO 28 (cPair (cInt .i64) (cUnit)) (tNil)))))
noncomputable def tBmemory_Right_1 : Bls U (Unit) := bNil
noncomputable def eSmemory_Right_1 (s : Smemory_Right_1) : St U := { tm := [(0, .v (vO (cPair (cSl 3) (cUnit)) (s.t0, ()))), (7, .v (vO (cPair (cInt .i64) (cUnit)) (s.t7, ()))), (26, .v (vO (cPair (cSl 3) (cUnit)) (s.t26, ()))), (27, .v (vO (cPair (cInt .i64) (cUnit)) (s.t27, ()))), (28, .v (vO (cPair (cInt .i64) (cUnit)) (s.t28, ())))], hp := [] }
noncomputable def xSmemory_Right_1 : (Bool ⊕ Unit) → Ex × St U
  | .inl r => (.ret, { tm := [(4, .v (vO (cPair cBool (cUnit)) (r, ())))], hp := [] })
  | .inr r => (.exit 2, { tm := [], hp := [] })
noncomputable def xTmemory_Right_1 (y : (Bool ⊕ Unit)) : Tree (Ex × St U) := .ite y.isLeft (.opt Bool y.getLeft? fun r => .leaf (.ret, { tm := [(4, .v (vO (cPair cBool (cUnit)) (r, ())))], hp := [] })) (.opt Unit y.getRight? fun r => .leaf (.exit 2, { tm := [], hp := [] }))
noncomputable def hmemory_Right_1 : Hd := { keep := [0, 7, 26, 27, 28], xkeep := [4], own := false }
noncomputable def Ememory_Right : Env U := { P := Tryd.prog, cd := cd, fns := fns19, lps := (addL 0 hmemory_Right_0 (mkLoop tAmemory_Right_0 tBmemory_Right_0 Pmemory_Right_0 (Lmemory_Right_0 none) xTmemory_Right_0) (addL 1 hmemory_Right_1 (mkLoop tAmemory_Right_1 tBmemory_Right_1 Pmemory_Right_1 (Lmemory_Right_1 none) xTmemory_Right_1) noL)), frz := fun _r => false, nt := 49, n0 := 0 }
noncomputable def Bmemory_Right_0 : Code := (loopAt (Tryd.f79.body.getD .skip) 0 0).getD .skip
theorem roundmemory_Right_0 (s : Smemory_Right_0) : round Ememory_Right hmemory_Right_0 Bmemory_Right_0 0 (eSmemory_Right_0 s) = (Wmemory_Right_0 s).map (sumE eSmemory_Right_0 xSmemory_Right_0) := by kernel_rfl
theorem lpmemory_Right_0 : LpOk Ememory_Right Bmemory_Right_0 0 := mkLoop_ok (A := tAmemory_Right_0) (B := tBmemory_Right_0) (f := Pmemory_Right_0) (L := Lmemory_Right_0 none) (tO_ok (cPair_ok (cSl_ok 3) cUnit_ok) (tO_ok (cPair_ok (cSl_ok 3) cUnit_ok) (tO_ok (cPair_ok (cSl_ok 3) cUnit_ok) (tO_ok (cPair_ok (cInt_ok .i64) cUnit_ok) (tO_ok (cPair_ok (cInt_ok .i64) cUnit_ok) tNil_ok))))) bNil_ok (enc := eSmemory_Right_0) (out := xTmemory_Right_0) (outS := xSmemory_Right_0) (step := Wmemory_Right_0) (fun _ => rfl) (fun _ _ => by kernel_rfl) (by kernel_rfl) (fun b => by cases b <;> rfl) roundmemory_Right_0
noncomputable def Bmemory_Right_1 : Code := (loopAt (Tryd.f79.body.getD .skip) 0 1).getD .skip
theorem roundmemory_Right_1 (s : Smemory_Right_1) : round Ememory_Right hmemory_Right_1 Bmemory_Right_1 1 (eSmemory_Right_1 s) = (Wmemory_Right_1 s).map (sumE eSmemory_Right_1 xSmemory_Right_1) := by kernel_rfl
theorem lpmemory_Right_1 : LpOk Ememory_Right Bmemory_Right_1 1 := mkLoop_ok (A := tAmemory_Right_1) (B := tBmemory_Right_1) (f := Pmemory_Right_1) (L := Lmemory_Right_1 none) (tO_ok (cPair_ok (cSl_ok 3) cUnit_ok) (tO_ok (cPair_ok (cInt_ok .i64) cUnit_ok) (tO_ok (cPair_ok (cSl_ok 3) cUnit_ok) (tO_ok (cPair_ok (cInt_ok .i64) cUnit_ok) (tO_ok (cPair_ok (cInt_ok .i64) cUnit_ok) tNil_ok))))) bNil_ok (enc := eSmemory_Right_1) (out := xTmemory_Right_1) (outS := xSmemory_Right_1) (step := Wmemory_Right_1) (fun _ => rfl) (fun _ _ => by kernel_rfl) (by kernel_rfl) (fun b => by cases b <;> rfl) roundmemory_Right_1
theorem runmemory_Right (x : (List Int) × (List Int) × Unit) (g : Unit) : execF Ememory_Right Tryd.f79 (Amemory_Right.enc x) (bNil.enc g) = (Tmemory_Right none x.1 x.2.1).map Rmemory_Right := by kernel_rfl
theorem okmemory_Right : FnOk Tryd.prog cd 79 Smemory_Right := mk_ok (E := Ememory_Right) cd_ok fns19_ok Tryd.func79 (by kernel_rfl) (loops_of (addL_ok lpmemory_Right_0 (addL_ok lpmemory_Right_1 noL_ok))) (aO_ok (cSl_ok 3) (aO_ok (cSl_ok 3) (aNil_ok))) bNil_ok (T := fun x _ => Tmemory_Right none x.1 x.2.1) (fun _ _ => rfl) runmemory_Right
noncomputable def fns79 := addF 79 true Smemory_Right fns19
theorem fns79_ok : ∀ f q t, fns79 f = some (q, t) → FnOk Tryd.prog cd f t := addF_ok okmemory_Right fns19_ok
/-- emulator/mmu.from -/
noncomputable def Tmmu_from (x0 : Int) (x1 : Int) : Tree Bool :=
  .ite (decide ((0 : Int) ≤ x0))
    (.leaf (decide (x0 ≤ x1)))
    (.leaf (false))
noncomputable def mmu_from (x0 : Int) (x1 : Int) : Option Bool := (Tmmu_from x0 x1).run
noncomputable def Ammu_from : Arg U (Int × Int × Unit) := aO (cInt .i64) (aO (cInt .i64) (aNil))
noncomputable def Rmmu_from (r : Bool) : List (V U) × List (Blk U) := ([vO cBool r], [])
noncomputable def Smmu_from : List (V U) → List (Blk U) → Option (FnOut U) := mkSpec Ammu_from bNil (fun x _ => mmu_from x.1 x.2.1) Rmmu_from
noncomputable def Emmu_from : Env U := { P := Tryd.prog, cd := cd, fns := fns79, lps := noL, frz := fun _r => false, nt := 12, n0 := 0 }
theorem runmmu_from (x : Int × Int × Unit) (g : Unit) : execF Emmu_from Tryd.f94 (Ammu_from.enc x) (bNil.enc g) = (Tmmu_from x.1 x.2.1).map Rmmu_from := by kernel_rfl
theorem okmmu_from : FnOk Tryd.prog cd 94 Smmu_from := mk_ok (E := Emmu_from) cd_ok fns79_ok Tryd.func94 (by kernel_rfl) (noLoops_body (by kernel_rfl)) (aO_ok (cInt_ok .i64) (aO_ok (cInt_ok .i64) (aNil_ok))) bNil_ok (T := fun x _ => Tmmu_from x.1 x.2.1) (fun _ _ => rfl) runmmu_from
noncomputable def fns94 := addF 94 true Smmu_from fns79
theorem fns94_ok : ∀ f q t, fns94 f = some (q, t) → FnOk Tryd.prog cd f t := addF_ok okmmu_from fns79_ok
/-- emulator/mmu.Right -/
structure Smmu_Right_1 where
  t8_0 : (List Page)
  t9 : Int
  t12_0 : (List Page)
  t13 : Int
  b0 : Mmu
noncomputable def Wmmu_Right_1 (s : Smmu_Right_1) : Tree (Smmu_Right_1 ⊕ ((Bool × (List Page) × Int × Mmu) ⊕ ((List Page) × Int × Mmu))) :=
  .ite (decide (s.t13 < (8 : Int)))
    (.ite (decide (0 ≤ s.t13))
      (.ite (decide (s.t13 < (8 : Int)))
        (.opt Page (s.t12_0[(s.t13).toNat]?) fun y118 =>
          .opt Bool (mmu_from y118.base (4095 : Int)) fun r119 =>
            .ite (!r119)
              (.leaf (.inr (.inl (false, s.t8_0, s.t9, s.b0))))
              (.opt Bool (mmu_from y118.length (128 : Int)) fun r120 =>
                .ite (!r120)
                  (.leaf (.inr (.inl (false, s.t8_0, s.t9, s.b0))))
                  (.opt Bool (mmu_from y118.access (2 : Int)) fun r121 =>
                    .ite (!r121)
                      (.leaf (.inr (.inl (false, s.t8_0, s.t9, s.b0))))
                      (.leaf (.inl (Smmu_Right_1.mk s.t8_0 s.t9 s.t12_0 (IntKind.wrap .i64 (s.t13 + (1 : Int))) s.b0))))))
        .fail)
      .fail)
    (.leaf (.inr (.inr (s.t8_0, s.t9, s.b0))))
noncomputable def Lmmu_Right_1 (q : Option Nat) (s : Smmu_Right_1) : Option ((Bool × (List Page) × Int × Mmu) ⊕ ((List Page) × Int × Mmu)) := limQ q (fun s => (Wmmu_Right_1 s).run) s
theorem leLmmu_Right_1 (k : Nat) (s : Smmu_Right_1) : Le (Lmmu_Right_1 (some k) s) (Lmmu_Right_1 none s) := limQ_le (fun _ => Le.rfl) s
structure Smmu_Right_0 where
  t8_0 : (List Page)
  t9 : Int
  b0 : Mmu
noncomputable def Wmmu_Right_0 (q : Option Nat) (s : Smmu_Right_0) : Tree (Smmu_Right_0 ⊕ ((Bool × Mmu) ⊕ Mmu)) :=
  .ite (decide (s.t9 < (2 : Int)))
    (.ite (decide (0 ≤ s.t9))
      (.ite (decide (s.t9 < (2 : Int)))
        (.ite (decide ((s.t9).toNat * 8 + 8 ≤ s.t8_0.length))
          (.opt ((Bool × (List Page) × Int × Mmu) ⊕ ((List Page) × Int × Mmu)) (Lmmu_Right_1 q (Smmu_Right_1.mk s.t8_0 s.t9 ((s.t8_0.drop ((s.t9).toNat * 8)).take 8) (0 : Int) s.b0)) fun l122 =>
            .ite (l122.isLeft)
              (.opt (Bool × (List Page) × Int × Mmu) (l122.getLeft?) fun a123 =>
                .leaf (.inr (.inl (a123.1, a123.2.2.2))))
              (.opt ((List Page) × Int × Mmu) (l122.getRight?) fun b124 =>
                .leaf (.inl (Smmu_Right_0.mk b124.1 (IntKind.wrap .i64 (b124.2.1 + (1 : Int))) b124.2.2))))
          .fail)
        .fail)
      .fail)
    (.leaf (.inr (.inr s.b0)))
noncomputable def Lmmu_Right_0 (q : Option Nat) (s : Smmu_Right_0) : Option ((Bool × Mmu) ⊕ Mmu) := limQ q (fun s => (Wmmu_Right_0 q s).run) s
theorem leLmmu_Right_0 (k : Nat) (s : Smmu_Right_0) : Le (Lmmu_Right_0 (some k) s) (Lmmu_Right_0 none s) := limQ_le (fun s => (TLe.ite (TLe.ite (TLe.ite (TLe.ite (TLe.opt (leLmmu_Right_1 k _) fun _ => TLe.rfl) TLe.rfl) TLe.rfl) TLe.rfl) TLe.rfl)) s
noncomputable def Tmmu_Right (q : Option Nat) (x0 : Mmu) : Tree Bool :=
  .opt ((Bool × Mmu) ⊕ Mmu) (Lmmu_Right_0 q (Smmu_Right_0.mk x0.pages (0 : Int) x0)) fun l125 =>
    .ite (l125.isLeft)
      (.opt (Bool × Mmu) (l125.getLeft?) fun a126 =>
        .leaf (a126.1))
      (.opt Mmu (l125.getRight?) fun b127 =>
        .opt Bool (mmu_from b127.status (3 : Int)) fun r128 =>
          .ite (r128)
            (.opt Bool (mmu_from b127.addr (65535 : Int)) fun r129 =>
              .leaf (r129))
            (.leaf (false)))
noncomputable def mmu_Right (q : Option Nat) (x0 : Mmu) : Option Bool := (Tmmu_Right q x0).run
theorem lemmu_Right (k : Nat) (x0 : Mmu) : Le (mmu_Right (some k) x0) (mmu_Right none x0) := (TLe.opt (leLmmu_Right_0 k _) fun _ => TLe.rfl)
noncomputable def Ammu_Right : Arg U (Mmu × Unit) := aA cMmu (aNil)
noncomputable def Rmmu_Right (r : Bool) : List (V U) × List (Blk U) := ([vO cBool r], [])
noncomputable def Smmu_Right : List (V U) → List (Blk U) → Option (FnOut U) := mkSpec Ammu_Right bNil (fun x _ => mmu_Right none x.1) Rmmu_Right
noncomputable def Pmmu_Right_0 (x : (Unit) × ((List Page) × Unit) × (Int × Unit) × Unit) (g : (Mmu × Unit) × Unit) : Smmu_Right_0 := Smmu_Right_0.mk x.2.1.1 x.2.2.1.1 g.1.1
noncomputable def tAmmu_Right_0 : Tms U ((Unit) × ((List Page) × Unit) × (Int × Unit) × Unit) := tO 1 (cK (.ptr 0 0) (cUnit)) (tA 8 (cPair (cArr 28 16) (cUnit)) (tO 9 (cPair (cInt .i64) (cUnit)) (tNil)))
noncomputable def tBmmu_Right_0 : Bls U ((Mmu × Unit) × Unit) := bC (cPair cMmu (cUnit)) (bNil)
noncomputable def eSmmu_Right_0 (s : Smmu_Right_0) : St U := { tm := [(1, .v (vO (cK (.ptr 0 0) (cUnit)) (()))), (8, .v (vA (cPair (cArr 28 16) (cUnit)) (s.t8_0, ()))), (9, .v (vO (cPair (cInt .i64) (cUnit)) (s.t9, ())))], hp := [.cells ((cPair cMmu (cUnit) : Cdc U (Mmu × Unit)).enc (s.b0, ())) none] }
noncomputable def xSmmu_Right_0 : ((Bool × Mmu) ⊕ Mmu) → Ex × St U
  | .inl r => (.ret, { tm := [(1, .v (vO (cK (.ptr 0 0) (cUnit)) (()))), (2, .v (vO (cPair cBool (cUnit)) (r.1, ())))], hp := [.cells ((cPair cMmu (cUnit) : Cdc U (Mmu × Unit)).enc (r.2, ())) none] })
  | .inr r => (.exit 0, { tm := [(1, .v (vO (cK (.ptr 0 0) (cUnit)) (())))], hp := [.cells ((cPair cMmu (cUnit) : Cdc U (Mmu × Unit)).enc (r, ())) none] })
noncomputable def xTmmu_Right_0 (y : ((Bool × Mmu) ⊕ Mmu)) : Tree (Ex × St U) := .ite y.isLeft (.opt (Bool × Mmu) y.getLeft? fun r => .leaf (.ret, { tm := [(1, .v (vO (cK (.ptr 0 0) (cUnit)) (()))), (2, .v (vO (cPair cBool (cUnit)) (r.1, ())))], hp := [.cells ((cPair cMmu (cUnit) : Cdc U (Mmu × Unit)).enc (r.2, ())) none] })) (.opt Mmu y.getRight? fun r => .leaf (.exit 0, { tm := [(1, .v (vO (cK (.ptr 0 0) (cUnit)) (())))], hp := [.cells ((cPair cMmu (cUnit) : Cdc U (Mmu × Unit)).enc (r, ())) none] }))
noncomputable def hmmu_Right_0 : Hd := { keep := [1, 8, 9], xkeep := [1, 2], own := false }
noncomputable def Pmmu_Right_1 (x : (Unit) × ((List Page) × Unit) × (Int × Unit) × ((List Page) × Unit) × (Int × Unit) × Unit) (g : (Mmu × Unit) × Unit) : Smmu_Right_1 := Smmu_Right_1.mk x.2.1.1 x.2.2.1.1 x.2.2.2.1.1 x.2.2.2.2.1.1 g.1.1
noncomputable def tAmmu_Right_1 : Tms U ((Unit) × ((List Page) × Unit) × (Int × Unit) × ((List Page) × Unit) × (Int × Unit) × Unit) := tO 1 (cK (.ptr 0 0) (cUnit)) (tA 8 (cPair (cArr 28 16) (cUnit)) (tO 9 (cPair (cInt .i64) (cUnit)) (tA 12 (cPair (cArr 28 8) (cUnit)) (tO 13 (cPair (cInt .i64) (cUnit)) (tNil)))))
noncomputable def tBmmu_Right_1 : Bls U ((Mmu × Unit) × Unit) := bC (cPair cMmu (cUnit)) (bNil)
noncomputable def eSmmu_Right_1 (s : Smmu_Right_1) : St U := { tm := [(1, .v (vO (cK (.ptr 0 0) (cUnit)) (()))), (8, .v (vA (cPair (cArr 28 16) (cUnit)) (s.t8_0, ()))), (9, .v (vO (cPair (cInt .i64) (cUnit)) (s.t9, ()))), (12, .v (vA (cPair (cArr 28 8) (cUnit)) (s.t12_0, ()))), (13, .v (vO (cPair (cInt .i64) (cUnit)) (s.t13, ())))], hp := [.cells ((cPair cMmu (cUnit) : Cdc U (Mmu × Unit)).enc (s.b0, ())) none] }
noncomputable def xSmmu_Right_1 : ((Bool × (List Page) × Int × Mmu) ⊕ ((List Page) × Int × Mmu)) → Ex × St U
  | .inl r => (.ret, { tm := [(1, .v (vO (cK (.ptr 0 0) (cUnit)) (()))), (2, .v (vO (cPair cBool (cUnit)) (r.1, ()))), (8, .v (vA (cPair (cArr 28 16) (cUnit)) (r.2.1, ()))), (9, .v (vO (cPair (cInt .i64) (cUnit)) (r.2.2.1, ())))], hp := [.cells ((cPair cMmu (cUnit) : Cdc U (Mmu × Unit)).enc (r.2.2.2, ())) none] })
  | .inr r => (.exit 2, { tm := [(1, .v (vO (cK (.ptr 0 0) (cUnit)) (()))), (8, .v (vA (cPair (cArr 28 16) (cUnit)) (r.1, ()))), (9, .v (vO (cPair (cInt .i64) (cUnit)) (r.2.1, ())))], hp := [.cells ((cPair cMmu (cUnit) : Cdc U (Mmu × Unit)).enc (r.2.2, ())) none] })
noncomputable def xTmmu_Right_1 (y : ((Bool × (List Page) × Int × Mmu) ⊕ ((List Page) × Int × Mmu))) : Tree (Ex × St U) := .ite y.isLeft (.opt (Bool × (List Page) × Int × Mmu) y.getLeft? fun r => .leaf (.ret, { tm := [(1, .v (vO (cK (.ptr 0 0) (cUnit)) (()))), (2, .v (vO (cPair cBool (cUnit)) (r.1, ()))), (8, .v (vA (cPair (cArr 28 16) (cUnit)) (r.2.1, ()))), (9, .v (vO (cPair (cInt .i64) (cUnit)) (r.2.2.1, ())))], hp := [.cells ((cPair cMmu (cUnit) : Cdc U (Mmu × Unit)).enc (r.2.2.2, ())) none] })) (.opt ((List Page) × Int × Mmu) y.getRight? fun r => .leaf (.exit 2, { tm := [(1, .v (vO (cK (.ptr 0 0) (cUnit)) (()))), (8, .v (vA (cPair (cArr 28 16) (cUnit)) (r.1, ()))), (9, .v (vO (cPair (cInt .i64) (cUnit)) (r.2.1, ())))], hp := [.cells ((cPair cMmu (cUnit) : Cdc U (Mmu × Unit)).enc (r.2.2, ())) none] }))
noncomputable def hmmu_Right_1 : Hd := { keep := [1, 8, 9, 12, 13], xkeep := [1, 2, 8, 9], own := false }
noncomputable def Emmu_Right : Env U := { P := Tryd.prog, cd := cd, fns := fns94, lps := (addL 0 hmmu_Right_0 (mkLoop tAmmu_Right_0 tBmmu_Right_0 Pmmu_Right_0 (Lmmu_Right_0 none) xTmmu_Right_0) (addL 1 hmmu_Right_1 (mkLoop tAmmu_Right_1 tBmmu_Right_1 Pmmu_Right_1 (Lmmu_Right_1 none) xTmmu_Right_1) noL)), frz := fun _r => false, nt := 42, n0 := 0 }
noncomputable def Bmmu_Right_0 : Code := (loopAt (Tryd.f80.body.getD .skip) 0 0).getD .skip
theorem roundmmu_Right_0 (s : Smmu_Right_0) : round Emmu_Right hmmu_Right_0 Bmmu_Right_0 0 (eSmmu_Right_0 s) = (Wmmu_Right_0 none s).map (sumE eSmmu_Right_0 xSmmu_Right_0) := by kernel_rfl
theorem lpmmu_Right_0 : LpOk Emmu_Right Bmmu_Right_0 0 := mkLoop_ok (A := tAmmu_Right_0) (B := tBmmu_Right_0) (f := Pmmu_Right_0) (L := Lmmu_Right_0 none) (tO_ok (cK_ok cUnit_ok) (tA_ok (cPair_ok (cArr_ok 28 16) cUnit_ok) (tO_ok (cPair_ok (cInt_ok .i64) cUnit_ok) tNil_ok))) (bC_ok (cPair_ok cMmu_ok cUnit_ok) bNil_ok) (enc := eSmmu_Right_0) (out := xTmmu_Right_0) (outS := xSmmu_Right_0) (step := Wmmu_Right_0 none) (fun _ => rfl) (fun _ _ => by kernel_rfl) (by kernel_rfl) (fun b => by cases b <;> rfl) roundmmu_Right_0
noncomputable def Bmmu_Right_1 : Code := (loopAt (Tryd.f80.body.getD .skip) 0 1).getD .skip
theorem roundmmu_Right_1 (s : Smmu_Right_1) : round Emmu_Right hmmu_Right_1 Bmmu_Right_1 1 (eSmmu_Right_1 s) = (Wmmu_Right_1 s).map (sumE eSmmu_Right_1 xSmmu_Right_1) := by kernel_rfl
theorem lpmmu_Right_1 : LpOk Emmu_Right Bmmu_Right_1 1 := mkLoop_ok (A := tAmmu_Right_1) (B := tBmmu_Right_1) (f := Pmmu_Right_1) (L := Lmmu_Right_1 none) (tO_ok (cK_ok cUnit_ok) (tA_ok (cPair_ok (cArr_ok 28 16) cUnit_ok) (tO_ok (cPair_ok (cInt_ok .i64) cUnit_ok) (tA_ok (cPair_ok (cArr_ok 28 8) cUnit_ok) (tO_ok (cPair_ok (cInt_ok .i64) cUnit_ok) tNil_ok))))) (bC_ok (cPair_ok cMmu_ok cUnit_ok) bNil_ok) (enc := eSmmu_Right_1) (out := xTmmu_Right_1) (outS := xSmmu_Right_1) (step := Wmmu_Right_1) (fun _ => rfl) (fun _ _ => by kernel_rfl) (by kernel_rfl) (fun b => by cases b <;> rfl) roundmmu_Right_1
theorem runmmu_Right (x : Mmu × Unit) (g : Unit) : execF Emmu_Right Tryd.f80 (Ammu_Right.enc x) (bNil.enc g) = (Tmmu_Right none x.1).map Rmmu_Right := by kernel_rfl
theorem okmmu_Right : FnOk Tryd.prog cd 80 Smmu_Right := mk_ok (E := Emmu_Right) cd_ok fns94_ok Tryd.func80 (by kernel_rfl) (loops_of (addL_ok lpmmu_Right_0 (addL_ok lpmmu_Right_1 noL_ok))) (aA_ok cMmu_ok (aNil_ok)) bNil_ok (T := fun x _ => Tmmu_Right none x.1) (fun _ _ => rfl) runmmu_Right
noncomputable def fns80 := addF 80 true Smmu_Right fns94
theorem fns80_ok : ∀ f q t, fns80 f = some (q, t) → FnOk Tryd.prog cd f t := addF_ok okmmu_Right fns94_ok
/-- emulator/clock.Right -/
noncomputable def Tclock_Right (x0 : Clock) : Tree Bool :=
  .ite (decide ((1 : Int) ≤ x0.period))
    (.ite (decide (x0.period ≤ (65535 : Int)))
      (.ite (decide ((1 : Int) ≤ x0.left))
        (.leaf (decide (x0.left ≤ x0.period)))
        (.leaf (false)))
      (.leaf (false)))
    (.leaf (false))
noncomputable def clock_Right (x0 : Clock) : Option Bool := (Tclock_Right x0).run
noncomputable def Aclock_Right : Arg U (Clock × Unit) := aA cClock (aNil)
noncomputable def Rclock_Right (r : Bool) : List (V U) × List (Blk U) := ([vO cBool r], [])
noncomputable def Sclock_Right : List (V U) → List (Blk U) → Option (FnOut U) := mkSpec Aclock_Right bNil (fun x _ => clock_Right x.1) Rclock_Right
noncomputable def Eclock_Right : Env U := { P := Tryd.prog, cd := cd, fns := fns80, lps := noL, frz := fun _r => false, nt := 23, n0 := 0 }
theorem runclock_Right (x : Clock × Unit) (g : Unit) : execF Eclock_Right Tryd.f81 (Aclock_Right.enc x) (bNil.enc g) = (Tclock_Right x.1).map Rclock_Right := by kernel_rfl
theorem okclock_Right : FnOk Tryd.prog cd 81 Sclock_Right := mk_ok (E := Eclock_Right) cd_ok fns80_ok Tryd.func81 (by kernel_rfl) (noLoops_body (by kernel_rfl)) (aA_ok cClock_ok (aNil_ok)) bNil_ok (T := fun x _ => Tclock_Right x.1) (fun _ _ => rfl) runclock_Right
noncomputable def fns81 := addF 81 true Sclock_Right fns80
theorem fns81_ok : ∀ f q t, fns81 f = some (q, t) → FnOk Tryd.prog cd f t := addF_ok okclock_Right fns80_ok
/-- emulator/line.isByte -/
noncomputable def Tline_isByte (x0 : Int) : Tree Bool :=
  .leaf (decide ((IntKind.wrap .i64 (((BitVec.ofInt 64 x0 &&& BitVec.ofInt 64 (255 : Int)).toNat : Int))) = x0))
noncomputable def line_isByte (x0 : Int) : Option Bool := (Tline_isByte x0).run
noncomputable def Aline_isByte : Arg U (Int × Unit) := aO (cInt .i64) (aNil)
noncomputable def Rline_isByte (r : Bool) : List (V U) × List (Blk U) := ([vO cBool r], [])
noncomputable def Sline_isByte : List (V U) → List (Blk U) → Option (FnOut U) := mkSpec Aline_isByte bNil (fun x _ => line_isByte x.1) Rline_isByte
noncomputable def Eline_isByte : Env U := { P := Tryd.prog, cd := cd, fns := fns81, lps := noL, frz := fun _r => false, nt := 7, n0 := 0 }
theorem runline_isByte (x : Int × Unit) (g : Unit) : execF Eline_isByte Tryd.f95 (Aline_isByte.enc x) (bNil.enc g) = (Tline_isByte x.1).map Rline_isByte := by kernel_rfl
theorem okline_isByte : FnOk Tryd.prog cd 95 Sline_isByte := mk_ok (E := Eline_isByte) cd_ok fns81_ok Tryd.func95 (by kernel_rfl) (noLoops_body (by kernel_rfl)) (aO_ok (cInt_ok .i64) (aNil_ok)) bNil_ok (T := fun x _ => Tline_isByte x.1) (fun _ _ => rfl) runline_isByte
noncomputable def fns95 := addF 95 true Sline_isByte fns81
theorem fns95_ok : ∀ f q t, fns95 f = some (q, t) → FnOk Tryd.prog cd f t := addF_ok okline_isByte fns81_ok
/-- emulator/line.Right -/
noncomputable def Tline_Right (x0 : Line) : Tree Bool :=
  .opt Bool (line_isByte x0.rxData) fun r130 =>
    .ite (r130)
      (.opt Bool (line_isByte x0.txData) fun r131 =>
        .ite (r131)
          (.ite (decide ((0 : Int) ≤ x0.txLeft))
            (.ite (decide (x0.txLeft ≤ (4 : Int)))
              (.ite ((x0.txReady == (decide (x0.txLeft = (0 : Int)))))
                (.leaf (decide ((x0.out.length : Int) ≤ (4096 : Int))))
                (.leaf (false)))
              (.leaf (false)))
            (.leaf (false)))
          (.leaf (false)))
      (.leaf (false))
noncomputable def line_Right (x0 : Line) : Option Bool := (Tline_Right x0).run
noncomputable def Aline_Right : Arg U (Line × Unit) := aA cLine (aNil)
noncomputable def Rline_Right (r : Bool) : List (V U) × List (Blk U) := ([vO cBool r], [])
noncomputable def Sline_Right : List (V U) → List (Blk U) → Option (FnOut U) := mkSpec Aline_Right bNil (fun x _ => line_Right x.1) Rline_Right
noncomputable def Eline_Right : Env U := { P := Tryd.prog, cd := cd, fns := fns95, lps := noL, frz := fun _r => false, nt := 35, n0 := 0 }
theorem runline_Right (x : Line × Unit) (g : Unit) : execF Eline_Right Tryd.f82 (Aline_Right.enc x) (bNil.enc g) = (Tline_Right x.1).map Rline_Right := by kernel_rfl
theorem okline_Right : FnOk Tryd.prog cd 82 Sline_Right := mk_ok (E := Eline_Right) cd_ok fns95_ok Tryd.func82 (by kernel_rfl) (noLoops_body (by kernel_rfl)) (aA_ok cLine_ok (aNil_ok)) bNil_ok (T := fun x _ => Tline_Right x.1) (fun _ _ => rfl) runline_Right
noncomputable def fns82 := addF 82 true Sline_Right fns95
theorem fns82_ok : ∀ f q t, fns82 f = some (q, t) → FnOk Tryd.prog cd f t := addF_ok okline_Right fns95_ok
/-- emulator/drive.Right -/
structure Sdrive_Right_0 where
  t19 : (List (List UInt8))
  t20 : Int
  t21 : Int
  b0 : Drive
noncomputable def Wdrive_Right_0 (s : Sdrive_Right_0) : Tree (Sdrive_Right_0 ⊕ ((Bool × Drive) ⊕ Drive)) :=
  .ite (decide (s.t21 < s.t20))
    (.ite (decide (0 ≤ s.t21))
      (.opt (List UInt8) (s.t19[(s.t21).toNat]?) fun y132 =>
        .ite (!decide ((y132.length : Int) = (128 : Int)))
          (.leaf (.inr (.inl (false, s.b0))))
          (.leaf (.inl (Sdrive_Right_0.mk s.t19 s.t20 (IntKind.wrap .i64 (s.t21 + (1 : Int))) s.b0))))
      .fail)
    (.leaf (.inr (.inr s.b0)))
noncomputable def Ldrive_Right_0 (q : Option Nat) (s : Sdrive_Right_0) : Option ((Bool × Drive) ⊕ Drive) := limQ q (fun s => (Wdrive_Right_0 s).run) s
theorem leLdrive_Right_0 (k : Nat) (s : Sdrive_Right_0) : Le (Ldrive_Right_0 (some k) s) (Ldrive_Right_0 none s) := limQ_le (fun _ => Le.rfl) s
structure Sdrive_Right_1 where
  t5 : Int
  t30 : (List Int)
  t31 : Int
  t32 : Int
  b0 : Drive
noncomputable def Wdrive_Right_1 (s : Sdrive_Right_1) : Tree (Sdrive_Right_1 ⊕ (Bool ⊕ Unit)) :=
  .ite (decide (s.t32 < s.t31))
    (.ite (decide (0 ≤ s.t32))
      (.opt Int (s.t30[(s.t32).toNat]?) fun y136 =>
        .ite (decide (y136 ≤ s.t5))
          (.leaf (.inr (.inl false)))
          (.ite (decide ((s.b0.sectors.length : Int) ≤ y136))
            (.leaf (.inr (.inl false)))
            (.leaf (.inl (Sdrive_Right_1.mk y136 s.t30 s.t31 (IntKind.wrap .i64 (s.t32 + (1 : Int))) s.b0)))))
      .fail)
    (.leaf (.inr (.inr ())))
noncomputable def Ldrive_Right_1 (q : Option Nat) (s : Sdrive_Right_1) : Option (Bool ⊕ Unit) := limQ q (fun s => (Wdrive_Right_1 s).run) s
theorem leLdrive_Right_1 (k : Nat) (s : Sdrive_Right_1) : Le (Ldrive_Right_1 (some k) s) (Ldrive_Right_1 none s) := limQ_le (fun _ => Le.rfl) s
noncomputable def Tdrive_Right (q : Option Nat) (x0 : Drive) : Tree Bool :=
  .ite (decide ((x0.sectors.length : Int) < (1 : Int)))
    (.leaf (false))
    (.ite (decide ((256 : Int) < (x0.sectors.length : Int)))
      (.leaf (false))
      (.opt ((Bool × Drive) ⊕ Drive) (Ldrive_Right_0 q (Sdrive_Right_0.mk x0.sectors (x0.sectors.length : Int) (0 : Int) x0)) fun l133 =>
        .ite (l133.isLeft)
          (.opt (Bool × Drive) (l133.getLeft?) fun a134 =>
            .leaf (a134.1))
          (.opt Drive (l133.getRight?) fun b135 =>
            .opt (Bool ⊕ Unit) (Ldrive_Right_1 q (Sdrive_Right_1.mk (-1 : Int) b135.bad (b135.bad.length : Int) (0 : Int) b135)) fun l137 =>
              .ite (l137.isLeft)
                (.opt Bool (l137.getLeft?) fun a138 =>
                  .leaf (a138))
                (.opt Unit (l137.getRight?) fun b139 =>
                  .leaf (true)))))
noncomputable def drive_Right (q : Option Nat) (x0 : Drive) : Option Bool := (Tdrive_Right q x0).run
theorem ledrive_Right (k : Nat) (x0 : Drive) : Le (drive_Right (some k) x0) (drive_Right none x0) := (TLe.ite TLe.rfl (TLe.ite TLe.rfl (TLe.opt (leLdrive_Right_0 k _) fun _ => (TLe.ite TLe.rfl (TLe.opt Le.rfl fun _ => (TLe.opt (leLdrive_Right_1 k _) fun _ => TLe.rfl))))))
noncomputable def Adrive_Right : Arg U (Drive × Unit) := aA cDrive (aNil)
noncomputable def Rdrive_Right (r : Bool) : List (V U) × List (Blk U) := ([vO cBool r], [])
noncomputable def Sdrive_Right : List (V U) → List (Blk U) → Option (FnOut U) := mkSpec Adrive_Right bNil (fun x _ => drive_Right none x.1) Rdrive_Right
noncomputable def Pdrive_Right_0 (x : (Unit) × ((List (List UInt8)) × Unit) × (Int × Unit) × (Int × Unit) × Unit) (g : (Drive × Unit) × Unit) : Sdrive_Right_0 := Sdrive_Right_0.mk x.2.1.1 x.2.2.1.1 x.2.2.2.1.1 g.1.1
noncomputable def tAdrive_Right_0 : Tms U ((Unit) × ((List (List UInt8)) × Unit) × (Int × Unit) × (Int × Unit) × Unit) := tO 1 (cK (.ptr 0 0) (cUnit)) (tO 19 (cPair (cSl 9) (cUnit)) (tO 20 (cPair (cInt .i64) (cUnit)) (tO 21 (cPair (cInt .i64) (cUnit)) (tNil))))
noncomputable def tBdrive_Right_0 : Bls U ((Drive × Unit) × Unit) := bC (cPair cDrive (cUnit)) (bNil)
noncomputable def eSdrive_Right_0 (s : Sdrive_Right_0) : St U := { tm := [(1, .v (vO (cK (.ptr 0 0) (cUnit)) (()))), (19, .v (vO (cPair (cSl 9) (cUnit)) (s.t19, ()))), (20, .v (vO (cPair (cInt .i64) (cUnit)) (s.t20, ()))), (21, .v (vO (cPair (cInt .i64) (cUnit)) (s.t21, ())))], hp := [.cells ((cPair cDrive (cUnit) : Cdc U (Drive × Unit)).enc (s.b0, ())) none] }
noncomputable def xSdrive_Right_0 : ((Bool × Drive) ⊕ Drive) → Ex × St U
  | .inl r => (.ret, { tm := [(1, .v (vO (cK (.ptr 0 0) (cUnit)) (()))), (2, .v (vO (cPair cBool (cUnit)) (r.1, ())))], hp := [.cells ((cPair cDrive (cUnit) : Cdc U (Drive × Unit)).enc (r.2, ())) none] })
  | .inr r => (.exit 0, { tm := [(1, .v (vO (cK (.ptr 0 0) (cUnit)) (())))], hp := [.cells ((cPair cDrive (cUnit) : Cdc U (Drive × Unit)).enc (r, ())) none] })
noncomputable def xTdrive_Right_0 (y : ((Bool × Drive) ⊕ Drive)) : Tree (Ex × St U) := .ite y.isLeft (.opt (Bool × Drive) y.getLeft? fun r => .leaf (.ret, { tm := [(1, .v (vO (cK (.ptr 0 0) (cUnit)) (()))), (2, .v (vO (cPair cBool (cUnit)) (r.1, ())))], hp := [.cells ((cPair cDrive (cUnit) : Cdc U (Drive × Unit)).enc (r.2, ())) none] })) (.opt Drive y.getRight? fun r => .leaf (.exit 0, { tm := [(1, .v (vO (cK (.ptr 0 0) (cUnit)) (())))], hp := [.cells ((cPair cDrive (cUnit) : Cdc U (Drive × Unit)).enc (r, ())) none] }))
noncomputable def hdrive_Right_0 : Hd := { keep := [1, 19, 20, 21], xkeep := [1, 2], own := false }
noncomputable def Pdrive_Right_1 (x : (Unit) × (Int × Unit) × ((List Int) × Unit) × (Int × Unit) × (Int × Unit) × Unit) (g : (Drive × Unit) × Unit) : Sdrive_Right_1 := Sdrive_Right_1.mk x.2.1.1 x.2.2.1.1 x.2.2.2.1.1 x.2.2.2.2.1.1 g.1.1
noncomputable def tAdrive_Right_1 : Tms U ((Unit) × (Int × Unit) × ((List Int) × Unit) × (Int × Unit) × (Int × Unit) × Unit) := tO 1 (cK (.ptr 0 0) (cUnit)) (tO 5 (cPair (cInt .i64) (cUnit)) (tO 30 (cPair (cSl 3) (cUnit)) (tO 31 (cPair (cInt .i64) (cUnit)) (tO 32 (cPair (cInt .i64) (cUnit)) (tNil)))))
noncomputable def tBdrive_Right_1 : Bls U ((Drive × Unit) × Unit) := bC (cPair cDrive (cUnit)) (bNil)
noncomputable def eSdrive_Right_1 (s : Sdrive_Right_1) : St U := { tm := [(1, .v (vO (cK (.ptr 0 0) (cUnit)) (()))), (5, .v (vO (cPair (cInt .i64) (cUnit)) (s.t5, ()))), (30, .v (vO (cPair (cSl 3) (cUnit)) (s.t30, ()))), (31, .v (vO (cPair (cInt .i64) (cUnit)) (s.t31, ()))), (32, .v (vO (cPair (cInt .i64) (cUnit)) (s.t32, ())))], hp := [.cells ((cPair cDrive (cUnit) : Cdc U (Drive × Unit)).enc (s.b0, ())) none] }
noncomputable def xSdrive_Right_1 : (Bool ⊕ Unit) → Ex × St U
  | .inl r => (.ret, { tm := [(2, .v (vO (cPair cBool (cUnit)) (r, ())))], hp := [] })
  | .inr r => (.exit 2, { tm := [], hp := [] })
noncomputable def xTdrive_Right_1 (y : (Bool ⊕ Unit)) : Tree (Ex × St U) := .ite y.isLeft (.opt Bool y.getLeft? fun r => .leaf (.ret, { tm := [(2, .v (vO (cPair cBool (cUnit)) (r, ())))], hp := [] })) (.opt Unit y.getRight? fun r => .leaf (.exit 2, { tm := [], hp := [] }))
noncomputable def hdrive_Right_1 : Hd := { keep := [1, 5, 30, 31, 32], xkeep := [2], own := false }
noncomputable def Edrive_Right : Env U := { P := Tryd.prog, cd := cd, fns := fns82, lps := (addL 0 hdrive_Right_0 (mkLoop tAdrive_Right_0 tBdrive_Right_0 Pdrive_Right_0 (Ldrive_Right_0 none) xTdrive_Right_0) (addL 1 hdrive_Right_1 (mkLoop tAdrive_Right_1 tBdrive_Right_1 Pdrive_Right_1 (Ldrive_Right_1 none) xTdrive_Right_1) noL)), frz := fun _r => false, nt := 48, n0 := 0 }
noncomputable def Bdrive_Right_0 : Code := (loopAt (Tryd.f96.body.getD .skip) 0 0).getD .skip
theorem rounddrive_Right_0 (s : Sdrive_Right_0) : round Edrive_Right hdrive_Right_0 Bdrive_Right_0 0 (eSdrive_Right_0 s) = (Wdrive_Right_0 s).map (sumE eSdrive_Right_0 xSdrive_Right_0) := by kernel_rfl
theorem lpdrive_Right_0 : LpOk Edrive_Right Bdrive_Right_0 0 := mkLoop_ok (A := tAdrive_Right_0) (B := tBdrive_Right_0) (f := Pdrive_Right_0) (L := Ldrive_Right_0 none) (tO_ok (cK_ok cUnit_ok) (tO_ok (cPair_ok (cSl_ok 9) cUnit_ok) (tO_ok (cPair_ok (cInt_ok .i64) cUnit_ok) (tO_ok (cPair_ok (cInt_ok .i64) cUnit_ok) tNil_ok)))) (bC_ok (cPair_ok cDrive_ok cUnit_ok) bNil_ok) (enc := eSdrive_Right_0) (out := xTdrive_Right_0) (outS := xSdrive_Right_0) (step := Wdrive_Right_0) (fun _ => rfl) (fun _ _ => by kernel_rfl) (by kernel_rfl) (fun b => by cases b <;> rfl) rounddrive_Right_0
noncomputable def Bdrive_Right_1 : Code := (loopAt (Tryd.f96.body.getD .skip) 0 1).getD .skip
theorem rounddrive_Right_1 (s : Sdrive_Right_1) : round Edrive_Right hdrive_Right_1 Bdrive_Right_1 1 (eSdrive_Right_1 s) = (Wdrive_Right_1 s).map (sumE eSdrive_Right_1 xSdrive_Right_1) := by kernel_rfl
theorem lpdrive_Right_1 : LpOk Edrive_Right Bdrive_Right_1 1 := mkLoop_ok (A := tAdrive_Right_1) (B := tBdrive_Right_1) (f := Pdrive_Right_1) (L := Ldrive_Right_1 none) (tO_ok (cK_ok cUnit_ok) (tO_ok (cPair_ok (cInt_ok .i64) cUnit_ok) (tO_ok (cPair_ok (cSl_ok 3) cUnit_ok) (tO_ok (cPair_ok (cInt_ok .i64) cUnit_ok) (tO_ok (cPair_ok (cInt_ok .i64) cUnit_ok) tNil_ok))))) (bC_ok (cPair_ok cDrive_ok cUnit_ok) bNil_ok) (enc := eSdrive_Right_1) (out := xTdrive_Right_1) (outS := xSdrive_Right_1) (step := Wdrive_Right_1) (fun _ => rfl) (fun _ _ => by kernel_rfl) (by kernel_rfl) (fun b => by cases b <;> rfl) rounddrive_Right_1
theorem rundrive_Right (x : Drive × Unit) (g : Unit) : execF Edrive_Right Tryd.f96 (Adrive_Right.enc x) (bNil.enc g) = (Tdrive_Right none x.1).map Rdrive_Right := by kernel_rfl
theorem okdrive_Right : FnOk Tryd.prog cd 96 Sdrive_Right := mk_ok (E := Edrive_Right) cd_ok fns82_ok Tryd.func96 (by kernel_rfl) (loops_of (addL_ok lpdrive_Right_0 (addL_ok lpdrive_Right_1 noL_ok))) (aA_ok cDrive_ok (aNil_ok)) bNil_ok (T := fun x _ => Tdrive_Right none x.1) (fun _ _ => rfl) rundrive_Right
noncomputable def fns96 := addF 96 true Sdrive_Right fns82
theorem fns96_ok : ∀ f q t, fns96 f = some (q, t) → FnOk Tryd.prog cd f t := addF_ok okdrive_Right fns82_ok
/-- emulator/diskctl.isWord -/
noncomputable def Tdiskctl_isWord (x0 : Int) : Tree Bool :=
  .leaf (decide ((IntKind.wrap .i64 (((BitVec.ofInt 64 x0 &&& BitVec.ofInt 64 (65535 : Int)).toNat : Int))) = x0))
noncomputable def diskctl_isWord (x0 : Int) : Option Bool := (Tdiskctl_isWord x0).run
noncomputable def Adiskctl_isWord : Arg U (Int × Unit) := aO (cInt .i64) (aNil)
noncomputable def Rdiskctl_isWord (r : Bool) : List (V U) × List (Blk U) := ([vO cBool r], [])
noncomputable def Sdiskctl_isWord : List (V U) → List (Blk U) → Option (FnOut U) := mkSpec Adiskctl_isWord bNil (fun x _ => diskctl_isWord x.1) Rdiskctl_isWord
noncomputable def Ediskctl_isWord : Env U := { P := Tryd.prog, cd := cd, fns := fns96, lps := noL, frz := fun _r => false, nt := 7, n0 := 0 }
theorem rundiskctl_isWord (x : Int × Unit) (g : Unit) : execF Ediskctl_isWord Tryd.f97 (Adiskctl_isWord.enc x) (bNil.enc g) = (Tdiskctl_isWord x.1).map Rdiskctl_isWord := by kernel_rfl
theorem okdiskctl_isWord : FnOk Tryd.prog cd 97 Sdiskctl_isWord := mk_ok (E := Ediskctl_isWord) cd_ok fns96_ok Tryd.func97 (by kernel_rfl) (noLoops_body (by kernel_rfl)) (aO_ok (cInt_ok .i64) (aNil_ok)) bNil_ok (T := fun x _ => Tdiskctl_isWord x.1) (fun _ _ => rfl) rundiskctl_isWord
noncomputable def fns97 := addF 97 true Sdiskctl_isWord fns96
theorem fns97_ok : ∀ f q t, fns97 f = some (q, t) → FnOk Tryd.prog cd f t := addF_ok okdiskctl_isWord fns96_ok
/-- emulator/diskctl.Right -/
noncomputable def Tdiskctl_Right (q : Option Nat) (x0 : Disk) : Tree Bool :=
  .opt Bool (drive_Right q x0.drive) fun r140 =>
    .ite (!r140)
      (.leaf (false))
      (.ite (decide (x0.command < (0 : Int)))
        (.leaf (false))
        (.ite (decide ((3 : Int) < x0.command))
          (.leaf (false))
          (.opt Bool (diskctl_isWord x0.words) fun r141 =>
            .ite (!r141)
              (.leaf (false))
              (.opt Bool (diskctl_isWord x0.addr) fun r142 =>
                .ite (!r142)
                  (.leaf (false))
                  (.opt Bool (diskctl_isWord x0.start) fun r143 =>
                    .ite (!r143)
                      (.leaf (false))
                      (.ite (decide ((2 : Int) = 0))
                        .fail
                        (.ite (decide (((x0.addr).tmod (2 : Int)) = (1 : Int)))
                          (.leaf (false))
                          (.ite (decide (x0.left < (0 : Int)))
                            (.leaf (false))
                            (.ite (decide ((8 : Int) < x0.left))
                              (.leaf (false))
                              (.ite (!(x0.ready == (decide (x0.left = (0 : Int)))))
                                (.leaf (false))
                                (.ite (decide (x0.left = (0 : Int)))
                                  (.leaf (true))
                                  (.ite (!decide (x0.command = (0 : Int)))
                                    (.leaf (!decide (x0.words = (0 : Int))))
                                    (.leaf (false))))))))))))))
noncomputable def diskctl_Right (q : Option Nat) (x0 : Disk) : Option Bool := (Tdiskctl_Right q x0).run
theorem lediskctl_Right (k : Nat) (x0 : Disk) : Le (diskctl_Right (some k) x0) (diskctl_Right none x0) := (TLe.opt (ledrive_Right k _) fun _ => TLe.rfl)
noncomputable def Adiskctl_Right : Arg U (Disk × Unit) := aA cDisk (aNil)
noncomputable def Rdiskctl_Right (r : Bool) : List (V U) × List (Blk U) := ([vO cBool r], [])
noncomputable def Sdiskctl_Right : List (V U) → List (Blk U) → Option (FnOut U) := mkSpec Adiskctl_Right bNil (fun x _ => diskctl_Right none x.1) Rdiskctl_Right
noncomputable def Ediskctl_Right : Env U := { P := Tryd.prog, cd := cd, fns := fns97, lps := noL, frz := fun _r => false, nt := 70, n0 := 0 }
theorem rundiskctl_Right (x : Disk × Unit) (g : Unit) : execF Ediskctl_Right Tryd.f83 (Adiskctl_Right.enc x) (bNil.enc g) = (Tdiskctl_Right none x.1).map Rdiskctl_Right := by kernel_rfl
theorem okdiskctl_Right : FnOk Tryd.prog cd 83 Sdiskctl_Right := mk_ok (E := Ediskctl_Right) cd_ok fns97_ok Tryd.func83 (by kernel_rfl) (noLoops_body (by kernel_rfl)) (aA_ok cDisk_ok (aNil_ok)) bNil_ok (T := fun x _ => Tdiskctl_Right none x.1) (fun _ _ => rfl) rundiskctl_Right
noncomputable def fns83 := addF 83 true Sdiskctl_Right fns97
theorem fns83_ok : ∀ f q t, fns83 f = some (q, t) → FnOk Tryd.prog cd f t := addF_ok okdiskctl_Right fns97_ok
/-- emulator/tape.isWord -/
noncomputable def Ttape_isWord (x0 : Int) : Tree Bool :=
  .leaf (decide ((IntKind.wrap .i64 (((BitVec.ofInt 64 x0 &&& BitVec.ofInt 64 (65535 : Int)).toNat : Int))) = x0))
noncomputable def tape_isWord (x0 : Int) : Option Bool := (Ttape_isWord x0).run
noncomputable def Atape_isWord : Arg U (Int × Unit) := aO (cInt .i64) (aNil)
noncomputable def Rtape_isWord (r : Bool) : List (V U) × List (Blk U) := ([vO cBool r], [])
noncomputable def Stape_isWord : List (V U) → List (Blk U) → Option (FnOut U) := mkSpec Atape_isWord bNil (fun x _ => tape_isWord x.1) Rtape_isWord
noncomputable def Etape_isWord : Env U := { P := Tryd.prog, cd := cd, fns := fns83, lps := noL, frz := fun _r => false, nt := 7, n0 := 0 }
theorem runtape_isWord (x : Int × Unit) (g : Unit) : execF Etape_isWord Tryd.f98 (Atape_isWord.enc x) (bNil.enc g) = (Ttape_isWord x.1).map Rtape_isWord := by kernel_rfl
theorem oktape_isWord : FnOk Tryd.prog cd 98 Stape_isWord := mk_ok (E := Etape_isWord) cd_ok fns83_ok Tryd.func98 (by kernel_rfl) (noLoops_body (by kernel_rfl)) (aO_ok (cInt_ok .i64) (aNil_ok)) bNil_ok (T := fun x _ => Ttape_isWord x.1) (fun _ _ => rfl) runtape_isWord
noncomputable def fns98 := addF 98 true Stape_isWord fns83
theorem fns98_ok : ∀ f q t, fns98 f = some (q, t) → FnOk Tryd.prog cd f t := addF_ok oktape_isWord fns83_ok
/-- emulator/tape.Right -/
noncomputable def Ttape_Right (q : Option Nat) (x0 : Tape) : Tree Bool :=
  .ite (decide ((64 : Int) < (x0.records.length : Int)))
    (.leaf (false))
    (.opt Bool (slices_ContainsFunc_string_string q x0.records) fun r144 =>
      .ite (r144)
        (.leaf (false))
        (.ite (decide (x0.pos < (0 : Int)))
          (.leaf (false))
          (.ite (decide ((x0.records.length : Int) < x0.pos))
            (.leaf (false))
            (.ite (decide ((0 : Int) ≤ x0.command))
              (.ite (decide (x0.command ≤ (6 : Int)))
                (.opt Bool (tape_isWord x0.count) fun r145 =>
                  .ite (r145)
                    (.opt Bool (tape_isWord x0.addr) fun r146 =>
                      .ite (r146)
                        (.ite (decide ((0 : Int) ≤ x0.left))
                          (.ite (decide (x0.left ≤ (16 : Int)))
                            (.leaf ((x0.ready == (decide (x0.left = (0 : Int))))))
                            (.leaf (false)))
                          (.leaf (false)))
                        (.leaf (false)))
                    (.leaf (false)))
                (.leaf (false)))
              (.leaf (false))))))
noncomputable def tape_Right (q : Option Nat) (x0 : Tape) : Option Bool := (Ttape_Right q x0).run
theorem letape_Right (k : Nat) (x0 : Tape) : Le (tape_Right (some k) x0) (tape_Right none x0) := (TLe.ite TLe.rfl (TLe.opt (leslices_ContainsFunc_string_string k _) fun _ => TLe.rfl))
noncomputable def Atape_Right : Arg U (Tape × Unit) := aA cTape (aNil)
noncomputable def Rtape_Right (r : Bool) : List (V U) × List (Blk U) := ([vO cBool r], [])
noncomputable def Stape_Right : List (V U) → List (Blk U) → Option (FnOut U) := mkSpec Atape_Right bNil (fun x _ => tape_Right none x.1) Rtape_Right
noncomputable def Etape_Right : Env U := { P := Tryd.prog, cd := cd, fns := (addF 49 false (Sslices_ContainsFunc_string_string) fns98), lps := noL, frz := fun _r => false, nt := 61, n0 := 0 }
theorem runtape_Right (x : Tape × Unit) (g : Unit) : execF Etape_Right Tryd.f84 (Atape_Right.enc x) (bNil.enc g) = (Ttape_Right none x.1).map Rtape_Right := by kernel_rfl
theorem oktape_Right : FnOk Tryd.prog cd 84 Stape_Right := mk_ok (E := Etape_Right) cd_ok (addF_ok okslices_ContainsFunc_string_string fns98_ok) Tryd.func84 (by kernel_rfl) (noLoops_body (by kernel_rfl)) (aA_ok cTape_ok (aNil_ok)) bNil_ok (T := fun x _ => Ttape_Right none x.1) (fun _ _ => rfl) runtape_Right
noncomputable def fns84 := addF 84 true Stape_Right fns98
theorem fns84_ok : ∀ f q t, fns84 f = some (q, t) → FnOk Tryd.prog cd f t := addF_ok oktape_Right fns98_ok
/-- emulator/bus.Right -/
structure Sbus_Right_0 where
  t30 : (List Line)
  t31 : Int
  t32 : Int
  b0 : Machine
noncomputable def Wbus_Right_0 (s : Sbus_Right_0) : Tree (Sbus_Right_0 ⊕ ((Bool × Machine) ⊕ Machine)) :=
  .ite (decide (s.t32 < s.t31))
    (.ite (decide (0 ≤ s.t32))
      (.opt Line (s.t30[(s.t32).toNat]?) fun y150 =>
        .opt Bool (line_Right y150) fun r151 =>
          .ite (!r151)
            (.leaf (.inr (.inl (false, s.b0))))
            (.leaf (.inl (Sbus_Right_0.mk s.t30 s.t31 (IntKind.wrap .i64 (s.t32 + (1 : Int))) s.b0))))
      .fail)
    (.leaf (.inr (.inr s.b0)))
noncomputable def Lbus_Right_0 (q : Option Nat) (s : Sbus_Right_0) : Option ((Bool × Machine) ⊕ Machine) := limQ q (fun s => (Wbus_Right_0 s).run) s
theorem leLbus_Right_0 (k : Nat) (s : Sbus_Right_0) : Le (Lbus_Right_0 (some k) s) (Lbus_Right_0 none s) := limQ_le (fun _ => Le.rfl) s
noncomputable def Tbus_Right (q : Option Nat) (x0 : Machine) : Tree Bool :=
  .ite (decide ((4 : Int) < (x0.lines.length : Int)))
    (.leaf (false))
    (.opt Bool (memory_Right q x0.mem x0.bad) fun r147 =>
      .ite (!r147)
        (.leaf (false))
        (.opt Bool (mmu_Right q x0.mmu) fun r148 =>
          .ite (!r148)
            (.leaf (false))
            (.opt Bool (clock_Right x0.clock) fun r149 =>
              .ite (!r149)
                (.leaf (false))
                (.opt ((Bool × Machine) ⊕ Machine) (Lbus_Right_0 q (Sbus_Right_0.mk x0.lines (x0.lines.length : Int) (0 : Int) x0)) fun l152 =>
                  .ite (l152.isLeft)
                    (.opt (Bool × Machine) (l152.getLeft?) fun a153 =>
                      .leaf (a153.1))
                    (.opt Machine (l152.getRight?) fun b154 =>
                      .opt Bool (diskctl_Right q b154.disk) fun r155 =>
                        .ite (r155)
                          (.opt Bool (tape_Right q b154.tape) fun r156 =>
                            .leaf (r156))
                          (.leaf (false)))))))
noncomputable def bus_Right (q : Option Nat) (x0 : Machine) : Option Bool := (Tbus_Right q x0).run
theorem lebus_Right (k : Nat) (x0 : Machine) : Le (bus_Right (some k) x0) (bus_Right none x0) := (TLe.ite TLe.rfl (TLe.opt (lememory_Right k _ _) fun _ => (TLe.ite TLe.rfl (TLe.opt (lemmu_Right k _) fun _ => (TLe.ite TLe.rfl (TLe.opt Le.rfl fun _ => (TLe.ite TLe.rfl (TLe.opt (leLbus_Right_0 k _) fun _ => (TLe.ite TLe.rfl (TLe.opt Le.rfl fun _ => (TLe.opt (lediskctl_Right k _) fun _ => (TLe.ite (TLe.opt (letape_Right k _) fun _ => TLe.rfl) TLe.rfl))))))))))))
noncomputable def Abus_Right : Arg U (Machine × Unit) := aA cMachine (aNil)
noncomputable def Rbus_Right (r : Bool) : List (V U) × List (Blk U) := ([vO cBool r], [])
noncomputable def Sbus_Right : List (V U) → List (Blk U) → Option (FnOut U) := mkSpec Abus_Right bNil (fun x _ => bus_Right none x.1) Rbus_Right
noncomputable def Pbus_Right_0 (x : (Unit) × ((List Line) × Unit) × (Int × Unit) × (Int × Unit) × Unit) (g : (Machine × Unit) × Unit) : Sbus_Right_0 := Sbus_Right_0.mk x.2.1.1 x.2.2.1.1 x.2.2.2.1.1 g.1.1
noncomputable def tAbus_Right_0 : Tms U ((Unit) × ((List Line) × Unit) × (Int × Unit) × (Int × Unit) × Unit) := tO 1 (cK (.ptr 0 0) (cUnit)) (tO 30 (cPair (cSl 51) (cUnit)) (tO 31 (cPair (cInt .i64) (cUnit)) (tO 32 (cPair (cInt .i64) (cUnit)) (tNil))))
noncomputable def tBbus_Right_0 : Bls U ((Machine × Unit) × Unit) := bC (cPair cMachine (cUnit)) (bNil)
noncomputable def eSbus_Right_0 (s : Sbus_Right_0) : St U := { tm := [(1, .v (vO (cK (.ptr 0 0) (cUnit)) (()))), (30, .v (vO (cPair (cSl 51) (cUnit)) (s.t30, ()))), (31, .v (vO (cPair (cInt .i64) (cUnit)) (s.t31, ()))), (32, .v (vO (cPair (cInt .i64) (cUnit)) (s.t32, ())))], hp := [.cells ((cPair cMachine (cUnit) : Cdc U (Machine × Unit)).enc (s.b0, ())) none] }
noncomputable def xSbus_Right_0 : ((Bool × Machine) ⊕ Machine) → Ex × St U
  | .inl r => (.ret, { tm := [(1, .v (vO (cK (.ptr 0 0) (cUnit)) (()))), (2, .v (vO (cPair cBool (cUnit)) (r.1, ())))], hp := [.cells ((cPair cMachine (cUnit) : Cdc U (Machine × Unit)).enc (r.2, ())) none] })
  | .inr r => (.exit 0, { tm := [(1, .v (vO (cK (.ptr 0 0) (cUnit)) (())))], hp := [.cells ((cPair cMachine (cUnit) : Cdc U (Machine × Unit)).enc (r, ())) none] })
noncomputable def xTbus_Right_0 (y : ((Bool × Machine) ⊕ Machine)) : Tree (Ex × St U) := .ite y.isLeft (.opt (Bool × Machine) y.getLeft? fun r => .leaf (.ret, { tm := [(1, .v (vO (cK (.ptr 0 0) (cUnit)) (()))), (2, .v (vO (cPair cBool (cUnit)) (r.1, ())))], hp := [.cells ((cPair cMachine (cUnit) : Cdc U (Machine × Unit)).enc (r.2, ())) none] })) (.opt Machine y.getRight? fun r => .leaf (.exit 0, { tm := [(1, .v (vO (cK (.ptr 0 0) (cUnit)) (())))], hp := [.cells ((cPair cMachine (cUnit) : Cdc U (Machine × Unit)).enc (r, ())) none] }))
noncomputable def hbus_Right_0 : Hd := { keep := [1, 30, 31, 32], xkeep := [1, 2], own := false }
noncomputable def Ebus_Right : Env U := { P := Tryd.prog, cd := cd, fns := fns84, lps := (addL 0 hbus_Right_0 (mkLoop tAbus_Right_0 tBbus_Right_0 Pbus_Right_0 (Lbus_Right_0 none) xTbus_Right_0) noL), frz := fun _r => false, nt := 48, n0 := 0 }
noncomputable def Bbus_Right_0 : Code := (loopAt (Tryd.f52.body.getD .skip) 0 0).getD .skip
theorem roundbus_Right_0 (s : Sbus_Right_0) : round Ebus_Right hbus_Right_0 Bbus_Right_0 0 (eSbus_Right_0 s) = (Wbus_Right_0 s).map (sumE eSbus_Right_0 xSbus_Right_0) := by kernel_rfl
theorem lpbus_Right_0 : LpOk Ebus_Right Bbus_Right_0 0 := mkLoop_ok (A := tAbus_Right_0) (B := tBbus_Right_0) (f := Pbus_Right_0) (L := Lbus_Right_0 none) (tO_ok (cK_ok cUnit_ok) (tO_ok (cPair_ok (cSl_ok 51) cUnit_ok) (tO_ok (cPair_ok (cInt_ok .i64) cUnit_ok) (tO_ok (cPair_ok (cInt_ok .i64) cUnit_ok) tNil_ok)))) (bC_ok (cPair_ok cMachine_ok cUnit_ok) bNil_ok) (enc := eSbus_Right_0) (out := xTbus_Right_0) (outS := xSbus_Right_0) (step := Wbus_Right_0) (fun _ => rfl) (fun _ _ => by kernel_rfl) (by kernel_rfl) (fun b => by cases b <;> rfl) roundbus_Right_0
theorem runbus_Right (x : Machine × Unit) (g : Unit) : execF Ebus_Right Tryd.f52 (Abus_Right.enc x) (bNil.enc g) = (Tbus_Right none x.1).map Rbus_Right := by kernel_rfl
theorem okbus_Right : FnOk Tryd.prog cd 52 Sbus_Right := mk_ok (E := Ebus_Right) cd_ok fns84_ok Tryd.func52 (by kernel_rfl) (loops_of (addL_ok lpbus_Right_0 noL_ok)) (aA_ok cMachine_ok (aNil_ok)) bNil_ok (T := fun x _ => Tbus_Right none x.1) (fun _ _ => rfl) runbus_Right
noncomputable def fns52 := addF 52 true Sbus_Right fns84
theorem fns52_ok : ∀ f q t, fns52 f = some (q, t) → FnOk Tryd.prog cd f t := addF_ok okbus_Right fns84_ok
/-- emulator/cpu.isWord -/
noncomputable def Tcpu_isWord (x0 : Int) : Tree Bool :=
  .ite (decide ((0 : Int) ≤ x0))
    (.leaf (decide (x0 ≤ (65535 : Int))))
    (.leaf (false))
noncomputable def cpu_isWord (x0 : Int) : Option Bool := (Tcpu_isWord x0).run
noncomputable def Acpu_isWord : Arg U (Int × Unit) := aO (cInt .i64) (aNil)
noncomputable def Rcpu_isWord (r : Bool) : List (V U) × List (Blk U) := ([vO cBool r], [])
noncomputable def Scpu_isWord : List (V U) → List (Blk U) → Option (FnOut U) := mkSpec Acpu_isWord bNil (fun x _ => cpu_isWord x.1) Rcpu_isWord
noncomputable def Ecpu_isWord : Env U := { P := Tryd.prog, cd := cd, fns := fns52, lps := noL, frz := fun _r => false, nt := 9, n0 := 0 }
theorem runcpu_isWord (x : Int × Unit) (g : Unit) : execF Ecpu_isWord Tryd.f85 (Acpu_isWord.enc x) (bNil.enc g) = (Tcpu_isWord x.1).map Rcpu_isWord := by kernel_rfl
theorem okcpu_isWord : FnOk Tryd.prog cd 85 Scpu_isWord := mk_ok (E := Ecpu_isWord) cd_ok fns52_ok Tryd.func85 (by kernel_rfl) (noLoops_body (by kernel_rfl)) (aO_ok (cInt_ok .i64) (aNil_ok)) bNil_ok (T := fun x _ => Tcpu_isWord x.1) (fun _ _ => rfl) runcpu_isWord
noncomputable def fns85 := addF 85 true Scpu_isWord fns52
theorem fns85_ok : ∀ f q t, fns85 f = some (q, t) → FnOk Tryd.prog cd f t := addF_ok okcpu_isWord fns52_ok
/-- emulator/psw.Valid -/
noncomputable def Tpsw_Valid (x0 : Int) : Tree Bool :=
  .leaf (decide ((IntKind.wrap .i64 (((BitVec.ofInt 64 x0 &&& BitVec.ofInt 64 (49407 : Int)).toNat : Int))) = x0))
noncomputable def psw_Valid (x0 : Int) : Option Bool := (Tpsw_Valid x0).run
noncomputable def Apsw_Valid : Arg U (Int × Unit) := aO (cInt .i64) (aNil)
noncomputable def Rpsw_Valid (r : Bool) : List (V U) × List (Blk U) := ([vO cBool r], [])
noncomputable def Spsw_Valid : List (V U) → List (Blk U) → Option (FnOut U) := mkSpec Apsw_Valid bNil (fun x _ => psw_Valid x.1) Rpsw_Valid
noncomputable def Epsw_Valid : Env U := { P := Tryd.prog, cd := cd, fns := fns85, lps := noL, frz := fun _r => false, nt := 7, n0 := 0 }
theorem runpsw_Valid (x : Int × Unit) (g : Unit) : execF Epsw_Valid Tryd.f86 (Apsw_Valid.enc x) (bNil.enc g) = (Tpsw_Valid x.1).map Rpsw_Valid := by kernel_rfl
theorem okpsw_Valid : FnOk Tryd.prog cd 86 Spsw_Valid := mk_ok (E := Epsw_Valid) cd_ok fns85_ok Tryd.func86 (by kernel_rfl) (noLoops_body (by kernel_rfl)) (aO_ok (cInt_ok .i64) (aNil_ok)) bNil_ok (T := fun x _ => Tpsw_Valid x.1) (fun _ _ => rfl) runpsw_Valid
noncomputable def fns86 := addF 86 true Spsw_Valid fns85
theorem fns86_ok : ∀ f q t, fns86 f = some (q, t) → FnOk Tryd.prog cd f t := addF_ok okpsw_Valid fns85_ok
/-- emulator/cpu.Right -/
structure Scpu_Right_0 where
  t6_0 : (List Int)
  t7 : Int
  b0 : Cpu
noncomputable def Wcpu_Right_0 (s : Scpu_Right_0) : Tree (Scpu_Right_0 ⊕ ((Bool × Cpu) ⊕ Cpu)) :=
  .ite (decide (s.t7 < (6 : Int)))
    (.ite (decide (0 ≤ s.t7))
      (.ite (decide (s.t7 < (6 : Int)))
        (.opt Int (s.t6_0[(s.t7).toNat]?) fun y157 =>
          .opt Bool (cpu_isWord y157) fun r158 =>
            .ite (!r158)
              (.leaf (.inr (.inl (false, s.b0))))
              (.leaf (.inl (Scpu_Right_0.mk s.t6_0 (IntKind.wrap .i64 (s.t7 + (1 : Int))) s.b0))))
        .fail)
      .fail)
    (.leaf (.inr (.inr s.b0)))
noncomputable def Lcpu_Right_0 (q : Option Nat) (s : Scpu_Right_0) : Option ((Bool × Cpu) ⊕ Cpu) := limQ q (fun s => (Wcpu_Right_0 s).run) s
theorem leLcpu_Right_0 (k : Nat) (s : Scpu_Right_0) : Le (Lcpu_Right_0 (some k) s) (Lcpu_Right_0 none s) := limQ_le (fun _ => Le.rfl) s
noncomputable def Tcpu_Right (q : Option Nat) (x0 : Cpu) : Tree Bool :=
  .opt ((Bool × Cpu) ⊕ Cpu) (Lcpu_Right_0 q (Scpu_Right_0.mk x0.r (0 : Int) x0)) fun l159 =>
    .ite (l159.isLeft)
      (.opt (Bool × Cpu) (l159.getLeft?) fun a160 =>
        .leaf (a160.1))
      (.opt Cpu (l159.getRight?) fun b161 =>
        .ite (decide (0 ≤ (0 : Int)))
          (.ite (decide ((0 : Int) < (2 : Int)))
            (.opt Int (b161.sP[((0 : Int)).toNat * 1]?) fun y162 =>
              .opt Bool (cpu_isWord y162) fun r163 =>
                .ite (r163)
                  (.ite (decide (0 ≤ (1 : Int)))
                    (.ite (decide ((1 : Int) < (2 : Int)))
                      (.opt Int (b161.sP[((1 : Int)).toNat * 1]?) fun y164 =>
                        .opt Bool (cpu_isWord y164) fun r165 =>
                          .ite (r165)
                            (.opt Bool (cpu_isWord b161.pC) fun r166 =>
                              .ite (r166)
                                (.opt Bool (psw_Valid b161.pSW) fun r167 =>
                                  .leaf (r167))
                                (.leaf (false)))
                            (.leaf (false)))
                      .fail)
                    .fail)
                  (.leaf (false)))
            .fail)
          .fail)
noncomputable def cpu_Right (q : Option Nat) (x0 : Cpu) : Option Bool := (Tcpu_Right q x0).run
theorem lecpu_Right (k : Nat) (x0 : Cpu) : Le (cpu_Right (some k) x0) (cpu_Right none x0) := (TLe.opt (leLcpu_Right_0 k _) fun _ => TLe.rfl)
noncomputable def Acpu_Right : Arg U (Cpu × Unit) := aA cCpu (aNil)
noncomputable def Rcpu_Right (r : Bool) : List (V U) × List (Blk U) := ([vO cBool r], [])
noncomputable def Scpu_Right : List (V U) → List (Blk U) → Option (FnOut U) := mkSpec Acpu_Right bNil (fun x _ => cpu_Right none x.1) Rcpu_Right
noncomputable def Pcpu_Right_0 (x : (Unit) × ((List Int) × Unit) × (Int × Unit) × Unit) (g : (Cpu × Unit) × Unit) : Scpu_Right_0 := Scpu_Right_0.mk x.2.1.1 x.2.2.1.1 g.1.1
noncomputable def tAcpu_Right_0 : Tms U ((Unit) × ((List Int) × Unit) × (Int × Unit) × Unit) := tO 1 (cK (.ptr 0 0) (cUnit)) (tA 6 (cPair (cArr 3 6) (cUnit)) (tO 7 (cPair (cInt .i64) (cUnit)) (tNil)))
noncomputable def tBcpu_Right_0 : Bls U ((Cpu × Unit) × Unit) := bC (cPair cCpu (cUnit)) (bNil)
noncomputable def eScpu_Right_0 (s : Scpu_Right_0) : St U := { tm := [(1, .v (vO (cK (.ptr 0 0) (cUnit)) (()))), (6, .v (vA (cPair (cArr 3 6) (cUnit)) (s.t6_0, ()))), (7, .v (vO (cPair (cInt .i64) (cUnit)) (s.t7, ())))], hp := [.cells ((cPair cCpu (cUnit) : Cdc U (Cpu × Unit)).enc (s.b0, ())) none] }
noncomputable def xScpu_Right_0 : ((Bool × Cpu) ⊕ Cpu) → Ex × St U
  | .inl r => (.ret, { tm := [(1, .v (vO (cK (.ptr 0 0) (cUnit)) (()))), (2, .v (vO (cPair cBool (cUnit)) (r.1, ())))], hp := [.cells ((cPair cCpu (cUnit) : Cdc U (Cpu × Unit)).enc (r.2, ())) none] })
  | .inr r => (.exit 0, { tm := [(1, .v (vO (cK (.ptr 0 0) (cUnit)) (())))], hp := [.cells ((cPair cCpu (cUnit) : Cdc U (Cpu × Unit)).enc (r, ())) none] })
noncomputable def xTcpu_Right_0 (y : ((Bool × Cpu) ⊕ Cpu)) : Tree (Ex × St U) := .ite y.isLeft (.opt (Bool × Cpu) y.getLeft? fun r => .leaf (.ret, { tm := [(1, .v (vO (cK (.ptr 0 0) (cUnit)) (()))), (2, .v (vO (cPair cBool (cUnit)) (r.1, ())))], hp := [.cells ((cPair cCpu (cUnit) : Cdc U (Cpu × Unit)).enc (r.2, ())) none] })) (.opt Cpu y.getRight? fun r => .leaf (.exit 0, { tm := [(1, .v (vO (cK (.ptr 0 0) (cUnit)) (())))], hp := [.cells ((cPair cCpu (cUnit) : Cdc U (Cpu × Unit)).enc (r, ())) none] }))
noncomputable def hcpu_Right_0 : Hd := { keep := [1, 6, 7], xkeep := [1, 2], own := false }
noncomputable def Ecpu_Right : Env U := { P := Tryd.prog, cd := cd, fns := fns86, lps := (addL 0 hcpu_Right_0 (mkLoop tAcpu_Right_0 tBcpu_Right_0 Pcpu_Right_0 (Lcpu_Right_0 none) xTcpu_Right_0) noL), frz := fun _r => false, nt := 34, n0 := 0 }
noncomputable def Bcpu_Right_0 : Code := (loopAt (Tryd.f53.body.getD .skip) 0 0).getD .skip
theorem roundcpu_Right_0 (s : Scpu_Right_0) : round Ecpu_Right hcpu_Right_0 Bcpu_Right_0 0 (eScpu_Right_0 s) = (Wcpu_Right_0 s).map (sumE eScpu_Right_0 xScpu_Right_0) := by kernel_rfl
theorem lpcpu_Right_0 : LpOk Ecpu_Right Bcpu_Right_0 0 := mkLoop_ok (A := tAcpu_Right_0) (B := tBcpu_Right_0) (f := Pcpu_Right_0) (L := Lcpu_Right_0 none) (tO_ok (cK_ok cUnit_ok) (tA_ok (cPair_ok (cArr_ok 3 6) cUnit_ok) (tO_ok (cPair_ok (cInt_ok .i64) cUnit_ok) tNil_ok))) (bC_ok (cPair_ok cCpu_ok cUnit_ok) bNil_ok) (enc := eScpu_Right_0) (out := xTcpu_Right_0) (outS := xScpu_Right_0) (step := Wcpu_Right_0) (fun _ => rfl) (fun _ _ => by kernel_rfl) (by kernel_rfl) (fun b => by cases b <;> rfl) roundcpu_Right_0
theorem runcpu_Right (x : Cpu × Unit) (g : Unit) : execF Ecpu_Right Tryd.f53 (Acpu_Right.enc x) (bNil.enc g) = (Tcpu_Right none x.1).map Rcpu_Right := by kernel_rfl
theorem okcpu_Right : FnOk Tryd.prog cd 53 Scpu_Right := mk_ok (E := Ecpu_Right) cd_ok fns86_ok Tryd.func53 (by kernel_rfl) (loops_of (addL_ok lpcpu_Right_0 noL_ok)) (aA_ok cCpu_ok (aNil_ok)) bNil_ok (T := fun x _ => Tcpu_Right none x.1) (fun _ _ => rfl) runcpu_Right
noncomputable def fns53 := addF 53 true Scpu_Right fns86
theorem fns53_ok : ∀ f q t, fns53 f = some (q, t) → FnOk Tryd.prog cd f t := addF_ok okcpu_Right fns86_ok
/-- emulator/machine.conditionOf -/
noncomputable def Tmachine_conditionOf (x0 : Machine) : Tree Condition :=
  .leaf (Condition.mk x0.halted x0.waiting x0.powerTrap x0.power)
noncomputable def machine_conditionOf (x0 : Machine) : Option Condition := (Tmachine_conditionOf x0).run
noncomputable def Amachine_conditionOf : Arg U (Machine × Unit) := aA cMachine (aNil)
noncomputable def Rmachine_conditionOf (r : Condition) : List (V U) × List (Blk U) := ([vA cCondition r], [])
noncomputable def Smachine_conditionOf : List (V U) → List (Blk U) → Option (FnOut U) := mkSpec Amachine_conditionOf bNil (fun x _ => machine_conditionOf x.1) Rmachine_conditionOf
noncomputable def Emachine_conditionOf : Env U := { P := Tryd.prog, cd := cd, fns := fns53, lps := noL, frz := fun _r => false, nt := 12, n0 := 0 }
theorem runmachine_conditionOf (x : Machine × Unit) (g : Unit) : execF Emachine_conditionOf Tryd.f54 (Amachine_conditionOf.enc x) (bNil.enc g) = (Tmachine_conditionOf x.1).map Rmachine_conditionOf := by kernel_rfl
theorem okmachine_conditionOf : FnOk Tryd.prog cd 54 Smachine_conditionOf := mk_ok (E := Emachine_conditionOf) cd_ok fns53_ok Tryd.func54 (by kernel_rfl) (noLoops_body (by kernel_rfl)) (aA_ok cMachine_ok (aNil_ok)) bNil_ok (T := fun x _ => Tmachine_conditionOf x.1) (fun _ _ => rfl) runmachine_conditionOf
noncomputable def fns54 := addF 54 true Smachine_conditionOf fns53
theorem fns54_ok : ∀ f q t, fns54 f = some (q, t) → FnOk Tryd.prog cd f t := addF_ok okmachine_conditionOf fns53_ok
/-- emulator/machine.Right -/
noncomputable def Tmachine_Right (q : Option Nat) (x0 : Machine) : Tree Bool :=
  .opt Bool (bus_Right q x0) fun r168 =>
    .ite (r168)
      (.opt Bool (cpu_Right q x0.cpu) fun r169 =>
        .ite (r169)
          (.ite (decide ((0 : Int) ≤ x0.now))
            (.ite (decide (x0.now ≤ (1099511627776 : Int)))
              (.ite (decide ((0 : Int) ≤ x0.power))
                (.ite (decide (x0.power ≤ (10000 : Int)))
                  (.ite (!x0.halted)
                    (.leaf (true))
                    (.opt Condition (machine_conditionOf x0) fun r170 =>
                      .leaf (((r170.halted == true) && ((r170.waiting == false) && ((r170.trap == false) && (decide (r170.power = (0 : Int)))))))))
                  (.leaf (false)))
                (.leaf (false)))
              (.leaf (false)))
            (.leaf (false)))
          (.leaf (false)))
      (.leaf (false))
noncomputable def machine_Right (q : Option Nat) (x0 : Machine) : Option Bool := (Tmachine_Right q x0).run
theorem lemachine_Right (k : Nat) (x0 : Machine) : Le (machine_Right (some k) x0) (machine_Right none x0) := (TLe.opt (lebus_Right k _) fun _ => (TLe.ite (TLe.opt (lecpu_Right k _) fun _ => TLe.rfl) TLe.rfl))
noncomputable def Amachine_Right : Arg U (Machine × Unit) := aA cMachine (aNil)
noncomputable def Rmachine_Right (r : Bool) : List (V U) × List (Blk U) := ([vO cBool r], [])
noncomputable def Smachine_Right : List (V U) → List (Blk U) → Option (FnOut U) := mkSpec Amachine_Right bNil (fun x _ => machine_Right none x.1) Rmachine_Right
noncomputable def Emachine_Right : Env U := { P := Tryd.prog, cd := cd, fns := fns54, lps := noL, frz := fun _r => false, nt := 41, n0 := 0 }
theorem runmachine_Right (x : Machine × Unit) (g : Unit) : execF Emachine_Right Tryd.f30 (Amachine_Right.enc x) (bNil.enc g) = (Tmachine_Right none x.1).map Rmachine_Right := by kernel_rfl
theorem okmachine_Right : FnOk Tryd.prog cd 30 Smachine_Right := mk_ok (E := Emachine_Right) cd_ok fns54_ok Tryd.func30 (by kernel_rfl) (noLoops_body (by kernel_rfl)) (aA_ok cMachine_ok (aNil_ok)) bNil_ok (T := fun x _ => Tmachine_Right none x.1) (fun _ _ => rfl) runmachine_Right
noncomputable def fns30 := addF 30 true Smachine_Right fns54
theorem fns30_ok : ∀ f q t, fns30 f = some (q, t) → FnOk Tryd.prog cd f t := addF_ok okmachine_Right fns54_ok
/-- emulator/octet.joined -/
structure Soctet_joined_0 where
  t6 : (List (List UInt8))
  t7 : Int
  t8 : Int
  b0 : (List Int)
noncomputable def Woctet_joined_0 (s : Soctet_joined_0) : Tree (Soctet_joined_0 ⊕ (List Int)) :=
  .ite (decide (s.t8 < s.t7))
    (.ite (decide (0 ≤ s.t8))
      (.opt (List UInt8) (s.t6[(s.t8).toNat]?) fun y171 =>
        .ite (decide ((s.b0.length + (y171.map fun b => (b.toNat : Int)).length) * 1 ≤ 140737488355328))
          (.leaf (.inl (Soctet_joined_0.mk s.t6 s.t7 (IntKind.wrap .i64 (s.t8 + (1 : Int))) (s.b0 ++ (y171.map fun b => (b.toNat : Int))))))
          .fail)
      .fail)
    (.leaf (.inr s.b0))
noncomputable def Loctet_joined_0 (q : Option Nat) (s : Soctet_joined_0) : Option (List Int) := limQ q (fun s => (Woctet_joined_0 s).run) s
theorem leLoctet_joined_0 (k : Nat) (s : Soctet_joined_0) : Le (Loctet_joined_0 (some k) s) (Loctet_joined_0 none s) := limQ_le (fun _ => Le.rfl) s
noncomputable def Toctet_joined (q : Option Nat) (x0 : (List (List UInt8))) : Tree (List UInt8) :=
  .opt (List Int) (Loctet_joined_0 q (Soctet_joined_0.mk x0 (x0.length : Int) (0 : Int) ([]))) fun l172 =>
    .leaf (l172.map fun x => UInt8.ofNat x.toNat)
noncomputable def octet_joined (q : Option Nat) (x0 : (List (List UInt8))) : Option (List UInt8) := (Toctet_joined q x0).run
theorem leoctet_joined (k : Nat) (x0 : (List (List UInt8))) : Le (octet_joined (some k) x0) (octet_joined none x0) := (TLe.opt (leLoctet_joined_0 k _) fun _ => TLe.rfl)
noncomputable def Aoctet_joined : Arg U ((List (List UInt8)) × Unit) := aO (cSl 9) (aNil)
noncomputable def Roctet_joined (r : (List UInt8)) : List (V U) × List (Blk U) := ([vO cStr r], [])
noncomputable def Soctet_joined : List (V U) → List (Blk U) → Option (FnOut U) := mkSpec Aoctet_joined bNil (fun x _ => octet_joined none x.1) Roctet_joined
noncomputable def Poctet_joined_0 (x : (Unit) × ((List (List UInt8)) × Unit) × (Int × Unit) × (Int × Unit) × Unit) (g : (List Int) × Unit) : Soctet_joined_0 := Soctet_joined_0.mk x.2.1.1 x.2.2.1.1 x.2.2.2.1.1 g.1
noncomputable def tAoctet_joined_0 : Tms U ((Unit) × ((List (List UInt8)) × Unit) × (Int × Unit) × (Int × Unit) × Unit) := tO 3 (cK (.row 0 0) (cUnit)) (tO 6 (cPair (cSl 9) (cUnit)) (tO 7 (cPair (cInt .i64) (cUnit)) (tO 8 (cPair (cInt .i64) (cUnit)) (tNil))))
noncomputable def tBoctet_joined_0 : Bls U ((List Int) × Unit) := bRv 5 0 (bNil)
noncomputable def eSoctet_joined_0 (s : Soctet_joined_0) : St U := { tm := [(3, .v (vO (cK (.row 0 0) (cUnit)) (()))), (6, .v (vO (cPair (cSl 9) (cUnit)) (s.t6, ()))), (7, .v (vO (cPair (cInt .i64) (cUnit)) (s.t7, ()))), (8, .v (vO (cPair (cInt .i64) (cUnit)) (s.t8, ())))], hp := [.row 5 0 s.b0] }
noncomputable def xSoctet_joined_0 (r : (List Int)) : Ex × St U := (.exit 0, { tm := [(3, .v (vO (cK (.row 0 0) (cUnit)) (())))], hp := [.row 5 0 r] })
noncomputable def xToctet_joined_0 (r : (List Int)) : Tree (Ex × St U) := .leaf (xSoctet_joined_0 r)
noncomputable def hoctet_joined_0 : Hd := { keep := [3, 6, 7, 8], xkeep := [2, 3], own := true }
noncomputable def Eoctet_joined : Env U := { P := Tryd.prog, cd := cd, fns := fns30, lps := (addL 0 hoctet_joined_0 (mkLoop tAoctet_joined_0 tBoctet_joined_0 Poctet_joined_0 (Loctet_joined_0 none) xToctet_joined_0) noL), frz := fun _r => false, nt := 18, n0 := 0 }
noncomputable def Boctet_joined_0 : Code := (loopAt (Tryd.f55.body.getD .skip) 0 0).getD .skip
theorem roundoctet_joined_0 (s : Soctet_joined_0) : round Eoctet_joined hoctet_joined_0 Boctet_joined_0 0 (eSoctet_joined_0 s) = (Woctet_joined_0 s).map (sumE eSoctet_joined_0 xSoctet_joined_0) := by kernel_rfl
theorem lpoctet_joined_0 : LpOk Eoctet_joined Boctet_joined_0 0 := mkLoop_ok (A := tAoctet_joined_0) (B := tBoctet_joined_0) (f := Poctet_joined_0) (L := Loctet_joined_0 none) (tO_ok (cK_ok cUnit_ok) (tO_ok (cPair_ok (cSl_ok 9) cUnit_ok) (tO_ok (cPair_ok (cInt_ok .i64) cUnit_ok) (tO_ok (cPair_ok (cInt_ok .i64) cUnit_ok) tNil_ok)))) (bRv_ok bNil_ok) (enc := eSoctet_joined_0) (out := xToctet_joined_0) (outS := xSoctet_joined_0) (step := Woctet_joined_0) (fun _ => rfl) (fun _ _ => by kernel_rfl) (by kernel_rfl) (fun _ => rfl) roundoctet_joined_0
theorem runoctet_joined (x : (List (List UInt8)) × Unit) (g : Unit) : execF Eoctet_joined Tryd.f55 (Aoctet_joined.enc x) (bNil.enc g) = (Toctet_joined none x.1).map Roctet_joined := by kernel_rfl
theorem okoctet_joined : FnOk Tryd.prog cd 55 Soctet_joined := mk_ok (E := Eoctet_joined) cd_ok fns30_ok Tryd.func55 (by kernel_rfl) (loops_of (addL_ok lpoctet_joined_0 noL_ok)) (aO_ok (cSl_ok 9) (aNil_ok)) bNil_ok (T := fun x _ => Toctet_joined none x.1) (fun _ _ => rfl) runoctet_joined
noncomputable def fns55 := addF 55 true Soctet_joined fns30
theorem fns55_ok : ∀ f q t, fns55 f = some (q, t) → FnOk Tryd.prog cd f t := addF_ok okoctet_joined fns30_ok
end Go.Proofs.YtiafliookmnjoaaDoor
