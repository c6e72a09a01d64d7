/- The types of the program, and how they are told in cells. -/
import Derived.Test.YtlaabdpccdnalaaAbMore
import Derived.Test.YtlaabdpccdnalaaAbClone
import Derived.Shelf.SlGeneric
import Derived.Ground.SlgnProg
import Derived.Test.YtlaabdpccdnalaaProg
import Derived.KernelRfl
set_option linter.unusedSimpArgs false
namespace Go.Proofs.Ytlaabdpccdnalaa
open Go Go.Ab
structure Cpu where
  r : (List Int)
  sP : (List Int)
  pC : Int
  pSW : Int
  deriving DecidableEq
structure Page where
  base : Int
  length : Int
  access : Int
  written : Bool
  deriving DecidableEq
structure Mmu where
  on : Bool
  pages : (List Page)
  status : Int
  addr : Int
  deriving DecidableEq
structure Clock where
  enable : Bool
  ready : Bool
  period : Int
  left : Int
  deriving DecidableEq
structure Line where
  rxEnable : Bool
  rxReady : Bool
  overrun : Bool
  rxData : Int
  txEnable : Bool
  txReady : Bool
  txData : Int
  txLeft : Int
  out : (List UInt8)
  deriving DecidableEq
structure Drive where
  sectors : (List (List UInt8))
  bad : (List Int)
  deriving DecidableEq
structure Disk where
  drive : Drive
  enable : Bool
  ready : Bool
  error : Bool
  command : Int
  words : Int
  addr : Int
  start : Int
  left : Int
  deriving DecidableEq
structure Tape where
  records : (List (List UInt8))
  pos : Int
  enable : Bool
  ready : Bool
  error : Bool
  mark : Bool
  end_ : Bool
  command : Int
  count : Int
  addr : Int
  left : Int
  deriving DecidableEq
structure Machine where
  cpu : Cpu
  mem : (List Int)
  bad : (List Int)
  mmu : Mmu
  clock : Clock
  lines : (List Line)
  disk : Disk
  tape : Tape
  now : Int
  halted : Bool
  waiting : Bool
  power : Int
  powerTrap : Bool
  deriving DecidableEq
structure Pipe where
  data : (List UInt8)
  readers : Int
  writers : Int
  deriving DecidableEq
abbrev tys : List (Nat × Type) := [(3, Int), (9, (List UInt8)), (28, Page), (97, Line)]
abbrev U : Nat → Type := findT tys
noncomputable def cCpu : Cdc U Cpu := cMap (fun x => Cpu.mk x.1 x.2.1 x.2.2.1 x.2.2.2.1) (fun x => (x.r, x.sP, x.pC, x.pSW, ())) (cPair (cArr 3 6) (cPair (cArr 3 2) (cPair (cInt .i64) (cPair (cInt .i64) (cUnit)))))
theorem cCpu_ok : cCpu.Ok := cMap_ok (cPair_ok (cArr_ok 3 6) (cPair_ok (cArr_ok 3 2) (cPair_ok (cInt_ok .i64) (cPair_ok (cInt_ok .i64) cUnit_ok)))) fun _ => rfl
noncomputable def cPage : Cdc U Page := cMap (fun x => Page.mk x.1 x.2.1 x.2.2.1 x.2.2.2.1) (fun x => (x.base, x.length, x.access, x.written, ())) (cPair (cInt .i64) (cPair (cInt .i64) (cPair (cInt .i64) (cPair cBool (cUnit)))))
theorem cPage_ok : cPage.Ok := cMap_ok (cPair_ok (cInt_ok .i64) (cPair_ok (cInt_ok .i64) (cPair_ok (cInt_ok .i64) (cPair_ok cBool_ok cUnit_ok)))) fun _ => rfl
noncomputable def cMmu : Cdc U Mmu := cMap (fun x => Mmu.mk x.1 x.2.1 x.2.2.1 x.2.2.2.1) (fun x => (x.on, x.pages, x.status, x.addr, ())) (cPair cBool (cPair (cArr 28 16) (cPair (cInt .i64) (cPair (cInt .i64) (cUnit)))))
theorem cMmu_ok : cMmu.Ok := cMap_ok (cPair_ok cBool_ok (cPair_ok (cArr_ok 28 16) (cPair_ok (cInt_ok .i64) (cPair_ok (cInt_ok .i64) cUnit_ok)))) fun _ => rfl
noncomputable def cClock : Cdc U Clock := cMap (fun x => Clock.mk x.1 x.2.1 x.2.2.1 x.2.2.2.1) (fun x => (x.enable, x.ready, x.period, x.left, ())) (cPair cBool (cPair cBool (cPair (cInt .i64) (cPair (cInt .i64) (cUnit)))))
theorem cClock_ok : cClock.Ok := cMap_ok (cPair_ok cBool_ok (cPair_ok cBool_ok (cPair_ok (cInt_ok .i64) (cPair_ok (cInt_ok .i64) cUnit_ok)))) fun _ => rfl
noncomputable def cLine : Cdc U Line := cMap (fun x => Line.mk x.1 x.2.1 x.2.2.1 x.2.2.2.1 x.2.2.2.2.1 x.2.2.2.2.2.1 x.2.2.2.2.2.2.1 x.2.2.2.2.2.2.2.1 x.2.2.2.2.2.2.2.2.1) (fun x => (x.rxEnable, x.rxReady, x.overrun, x.rxData, x.txEnable, x.txReady, x.txData, x.txLeft, x.out, ())) (cPair cBool (cPair cBool (cPair cBool (cPair (cInt .i64) (cPair cBool (cPair cBool (cPair (cInt .i64) (cPair (cInt .i64) (cPair cStr (cUnit))))))))))
theorem cLine_ok : cLine.Ok := cMap_ok (cPair_ok cBool_ok (cPair_ok cBool_ok (cPair_ok cBool_ok (cPair_ok (cInt_ok .i64) (cPair_ok cBool_ok (cPair_ok cBool_ok (cPair_ok (cInt_ok .i64) (cPair_ok (cInt_ok .i64) (cPair_ok cStr_ok cUnit_ok))))))))) fun _ => rfl
noncomputable def cDrive : Cdc U Drive := cMap (fun x => Drive.mk x.1 x.2.1) (fun x => (x.sectors, x.bad, ())) (cPair (cSl 9) (cPair (cSl 3) (cUnit)))
theorem cDrive_ok : cDrive.Ok := cMap_ok (cPair_ok (cSl_ok 9) (cPair_ok (cSl_ok 3) cUnit_ok)) fun _ => rfl
noncomputable def cDisk : Cdc U Disk := cMap (fun x => Disk.mk x.1 x.2.1 x.2.2.1 x.2.2.2.1 x.2.2.2.2.1 x.2.2.2.2.2.1 x.2.2.2.2.2.2.1 x.2.2.2.2.2.2.2.1 x.2.2.2.2.2.2.2.2.1) (fun x => (x.drive, x.enable, x.ready, x.error, x.command, x.words, x.addr, x.start, x.left, ())) (cPair cDrive (cPair cBool (cPair cBool (cPair cBool (cPair (cInt .i64) (cPair (cInt .i64) (cPair (cInt .i64) (cPair (cInt .i64) (cPair (cInt .i64) (cUnit))))))))))
theorem cDisk_ok : cDisk.Ok := cMap_ok (cPair_ok cDrive_ok (cPair_ok cBool_ok (cPair_ok cBool_ok (cPair_ok cBool_ok (cPair_ok (cInt_ok .i64) (cPair_ok (cInt_ok .i64) (cPair_ok (cInt_ok .i64) (cPair_ok (cInt_ok .i64) (cPair_ok (cInt_ok .i64) cUnit_ok))))))))) fun _ => rfl
noncomputable def cTape : Cdc U Tape := cMap (fun x => Tape.mk x.1 x.2.1 x.2.2.1 x.2.2.2.1 x.2.2.2.2.1 x.2.2.2.2.2.1 x.2.2.2.2.2.2.1 x.2.2.2.2.2.2.2.1 x.2.2.2.2.2.2.2.2.1 x.2.2.2.2.2.2.2.2.2.1 x.2.2.2.2.2.2.2.2.2.2.1) (fun x => (x.records, x.pos, x.enable, x.ready, x.error, x.mark, x.end_, x.command, x.count, x.addr, x.left, ())) (cPair (cSl 9) (cPair (cInt .i64) (cPair cBool (cPair cBool (cPair cBool (cPair cBool (cPair cBool (cPair (cInt .i64) (cPair (cInt .i64) (cPair (cInt .i64) (cPair (cInt .i64) (cUnit))))))))))))
theorem cTape_ok : cTape.Ok := cMap_ok (cPair_ok (cSl_ok 9) (cPair_ok (cInt_ok .i64) (cPair_ok cBool_ok (cPair_ok cBool_ok (cPair_ok cBool_ok (cPair_ok cBool_ok (cPair_ok cBool_ok (cPair_ok (cInt_ok .i64) (cPair_ok (cInt_ok .i64) (cPair_ok (cInt_ok .i64) (cPair_ok (cInt_ok .i64) cUnit_ok))))))))))) fun _ => rfl
noncomputable def cMachine : Cdc U Machine := cMap (fun x => Machine.mk x.1 x.2.1 x.2.2.1 x.2.2.2.1 x.2.2.2.2.1 x.2.2.2.2.2.1 x.2.2.2.2.2.2.1 x.2.2.2.2.2.2.2.1 x.2.2.2.2.2.2.2.2.1 x.2.2.2.2.2.2.2.2.2.1 x.2.2.2.2.2.2.2.2.2.2.1 x.2.2.2.2.2.2.2.2.2.2.2.1 x.2.2.2.2.2.2.2.2.2.2.2.2.1) (fun x => (x.cpu, x.mem, x.bad, x.mmu, x.clock, x.lines, x.disk, x.tape, x.now, x.halted, x.waiting, x.power, x.powerTrap, ())) (cPair cCpu (cPair (cSl 3) (cPair (cSl 3) (cPair cMmu (cPair cClock (cPair (cSl 97) (cPair cDisk (cPair cTape (cPair (cInt .i64) (cPair cBool (cPair cBool (cPair (cInt .i64) (cPair cBool (cUnit))))))))))))))
theorem cMachine_ok : cMachine.Ok := cMap_ok (cPair_ok cCpu_ok (cPair_ok (cSl_ok 3) (cPair_ok (cSl_ok 3) (cPair_ok cMmu_ok (cPair_ok cClock_ok (cPair_ok (cSl_ok 97) (cPair_ok cDisk_ok (cPair_ok cTape_ok (cPair_ok (cInt_ok .i64) (cPair_ok cBool_ok (cPair_ok cBool_ok (cPair_ok (cInt_ok .i64) (cPair_ok cBool_ok cUnit_ok))))))))))))) fun _ => rfl
noncomputable def cPipe : Cdc U Pipe := cMap (fun x => Pipe.mk x.1 x.2.1 x.2.2.1) (fun x => (x.data, x.readers, x.writers, ())) (cPair cStr (cPair (cInt .i64) (cPair (cInt .i64) (cUnit))))
theorem cPipe_ok : cPipe.Ok := cMap_ok (cPair_ok cStr_ok (cPair_ok (cInt_ok .i64) (cPair_ok (cInt_ok .i64) cUnit_ok))) fun _ => rfl
noncomputable def ents : Ents U tys := .cons ⟨(cInt .i64), some (0 : Int), none, some inferInstance⟩ (.cons ⟨cStr, some ([] : List UInt8), none, some inferInstance⟩ (.cons ⟨cPage, some (Page.mk (0 : Int) (0 : Int) (0 : Int) false), none, some inferInstance⟩ (.cons ⟨cLine, some (Line.mk false false false (0 : Int) false false (0 : Int) (0 : Int) ([] : List UInt8)), none, some inferInstance⟩ (.nil))))
noncomputable def cd : Cd U := cdOf ents
theorem eqSPage (cd : Cd U) (x y : Page) : eqT Try.prog cd false 4 28 (cPage.enc x) (cPage.enc y) = some (decide (x = y)) := by
  have h : eqT Try.prog cd false 4 28 (cPage.enc x) (cPage.enc y) = some (decide (x.base = y.base) && (decide (x.length = y.length) && (decide (x.access = y.access) && (x.written == y.written)))) := by kernel_rfl
  rw [h]
  cases x; cases y; rw [Option.some.injEq, Bool.eq_iff_iff]; simp
theorem eqSLine (cd : Cd U) (x y : Line) : eqT Try.prog cd false 4 97 (cLine.enc x) (cLine.enc y) = some (decide (x = y)) := by
  have h : eqT Try.prog cd false 4 97 (cLine.enc x) (cLine.enc y) = some ((x.rxEnable == y.rxEnable) && ((x.rxReady == y.rxReady) && ((x.overrun == y.overrun) && (decide (x.rxData = y.rxData) && ((x.txEnable == y.txEnable) && ((x.txReady == y.txReady) && (decide (x.txData = y.txData) && (decide (x.txLeft = y.txLeft) && decide (x.out = y.out))))))))) := by kernel_rfl
  rw [h]
  cases x; cases y; rw [Option.some.injEq, Bool.eq_iff_iff]; simp
theorem ents_ok : EntsOk Try.prog ents := ⟨⟨(cInt_ok .i64), (fun x => by kernel_rfl), (fun x => List.all_eq_true.1 (show (((cInt .i64) : Cdc U _).enc x).all plainC = true by kernel_rfl)), (fun f g h => by cases h), (fun d h cd x y => by cases h; exact eqT_int cd (by kernel_rfl) x y)⟩, ⟨cStr_ok, (fun x => by kernel_rfl), (fun x => List.all_eq_true.1 (show ((cStr : Cdc U _).enc x).all plainC = true by kernel_rfl)), (fun f g h => by cases h), (fun d h cd x y => by cases h; exact eqT_string cd (by kernel_rfl) x y)⟩, ⟨cPage_ok, (fun x => by kernel_rfl), (fun x => List.all_eq_true.1 (show ((cPage : Cdc U _).enc x).all plainC = true by kernel_rfl)), (fun f g h => by cases h), (fun d h cd x y => by cases h; exact eqSPage cd x y)⟩, ⟨cLine_ok, (fun x => by kernel_rfl), (fun x => List.all_eq_true.1 (show ((cLine : Cdc U _).enc x).all plainC = true by kernel_rfl)), (fun f g h => by cases h), (fun d h cd x y => by cases h; exact eqSLine cd x y)⟩, trivial⟩
theorem cd_ok : CdOk Try.prog cd := cdOf_ok ents ents_ok
/-- emulator/emulatorlaw18.Small -/
structure Slaw18_Small_0 where
  t3 : Int
  t4 : Int
  b0 : Machine
noncomputable def Wlaw18_Small_0 (s : Slaw18_Small_0) : Tree (Slaw18_Small_0 ⊕ (Int × Machine)) :=
  .ite (decide (s.t4 < (s.b0.disk.drive.sectors.length : Int)))
    (.ite (decide (s.t4 < (300 : Int)))
      (.ite (decide (0 ≤ s.t4))
        (.opt (List UInt8) (s.b0.disk.drive.sectors[(s.t4).toNat]?) fun y1 =>
          .leaf (.inl (Slaw18_Small_0.mk (IntKind.wrap .i64 (s.t3 + (if (100000 : Int) < (y1.length : Int) then (100000 : Int) else (y1.length : Int)))) (IntKind.wrap .i64 (s.t4 + (1 : Int))) s.b0)))
        .fail)
      (.leaf (.inr (s.t3, s.b0))))
    (.leaf (.inr (s.t3, s.b0)))
noncomputable def Llaw18_Small_0 (q : Option Nat) (s : Slaw18_Small_0) : Option (Int × Machine) := limQ q (fun s => (Wlaw18_Small_0 s).run) s
theorem leLlaw18_Small_0 (k : Nat) (s : Slaw18_Small_0) : Le (Llaw18_Small_0 (some k) s) (Llaw18_Small_0 none s) := limQ_le (fun _ => Le.rfl) s
structure Slaw18_Small_1 where
  t3 : Int
  t5 : Int
  b0 : Machine
noncomputable def Wlaw18_Small_1 (s : Slaw18_Small_1) : Tree (Slaw18_Small_1 ⊕ (Int × Machine)) :=
  .ite (decide (s.t5 < (s.b0.tape.records.length : Int)))
    (.ite (decide (s.t5 < (300 : Int)))
      (.ite (decide (0 ≤ s.t5))
        (.opt (List UInt8) (s.b0.tape.records[(s.t5).toNat]?) fun y3 =>
          .leaf (.inl (Slaw18_Small_1.mk (IntKind.wrap .i64 (s.t3 + (if (100000 : Int) < (y3.length : Int) then (100000 : Int) else (y3.length : Int)))) (IntKind.wrap .i64 (s.t5 + (1 : Int))) s.b0)))
        .fail)
      (.leaf (.inr (s.t3, s.b0))))
    (.leaf (.inr (s.t3, s.b0)))
noncomputable def Llaw18_Small_1 (q : Option Nat) (s : Slaw18_Small_1) : Option (Int × Machine) := limQ q (fun s => (Wlaw18_Small_1 s).run) s
theorem leLlaw18_Small_1 (k : Nat) (s : Slaw18_Small_1) : Le (Llaw18_Small_1 (some k) s) (Llaw18_Small_1 none s) := limQ_le (fun _ => Le.rfl) s
structure Slaw18_Small_2 where
  t3 : Int
  t6 : Int
  b0 : Machine
noncomputable def Wlaw18_Small_2 (s : Slaw18_Small_2) : Tree (Slaw18_Small_2 ⊕ (Int × Machine)) :=
  .ite (decide (s.t6 < (s.b0.lines.length : Int)))
    (.ite (decide (s.t6 < (9 : Int)))
      (.ite (decide (0 ≤ s.t6))
        (.opt Line (s.b0.lines[(s.t6).toNat]?) fun y5 =>
          .leaf (.inl (Slaw18_Small_2.mk (IntKind.wrap .i64 (s.t3 + (if (100000 : Int) < (y5.out.length : Int) then (100000 : Int) else (y5.out.length : Int)))) (IntKind.wrap .i64 (s.t6 + (1 : Int))) s.b0)))
        .fail)
      (.leaf (.inr (s.t3, s.b0))))
    (.leaf (.inr (s.t3, s.b0)))
noncomputable def Llaw18_Small_2 (q : Option Nat) (s : Slaw18_Small_2) : Option (Int × Machine) := limQ q (fun s => (Wlaw18_Small_2 s).run) s
theorem leLlaw18_Small_2 (k : Nat) (s : Slaw18_Small_2) : Le (Llaw18_Small_2 (some k) s) (Llaw18_Small_2 none s) := limQ_le (fun _ => Le.rfl) s
noncomputable def Tlaw18_Small (q : Option Nat) (x0 : Machine) : Tree Bool :=
  .opt (Int × Machine) (Llaw18_Small_0 q (Slaw18_Small_0.mk (0 : Int) (0 : Int) x0)) fun l2 =>
    .opt (Int × Machine) (Llaw18_Small_1 q (Slaw18_Small_1.mk l2.1 (0 : Int) l2.2)) fun l4 =>
      .opt (Int × Machine) (Llaw18_Small_2 q (Slaw18_Small_2.mk l4.1 (0 : Int) l4.2)) fun l6 =>
        .ite (decide (l6.1 ≤ (60000 : Int)))
          (.ite (decide ((l6.2.mem.length : Int) ≤ (2048 : Int)))
            (.ite (decide ((l6.2.bad.length : Int) ≤ (64 : Int)))
              (.ite (decide ((l6.2.lines.length : Int) ≤ (8 : Int)))
                (.ite (decide ((l6.2.disk.drive.sectors.length : Int) ≤ (256 : Int)))
                  (.ite (decide ((l6.2.disk.drive.bad.length : Int) ≤ (256 : Int)))
                    (.leaf (decide ((l6.2.tape.records.length : Int) ≤ (70 : Int))))
                    (.leaf (false)))
                  (.leaf (false)))
                (.leaf (false)))
              (.leaf (false)))
            (.leaf (false)))
          (.leaf (false))
noncomputable def law18_Small (q : Option Nat) (x0 : Machine) : Option Bool := (Tlaw18_Small q x0).run
theorem lelaw18_Small (k : Nat) (x0 : Machine) : Le (law18_Small (some k) x0) (law18_Small none x0) := (TLe.opt (leLlaw18_Small_0 k _) fun _ => (TLe.opt (leLlaw18_Small_1 k _) fun _ => (TLe.opt (leLlaw18_Small_2 k _) fun _ => TLe.rfl)))
noncomputable def Alaw18_Small : Arg U (Machine × Unit) := aA cMachine (aNil)
noncomputable def Rlaw18_Small (r : Bool) : List (V U) × List (Blk U) := ([vO cBool r], [])
noncomputable def Slaw18_Small : List (V U) → List (Blk U) → Option (FnOut U) := mkSpec Alaw18_Small bNil (fun x _ => law18_Small none x.1) Rlaw18_Small
noncomputable def Plaw18_Small_0 (x : (Unit) × (Int × Unit) × (Int × Unit) × Unit) (g : (Machine × Unit) × Unit) : Slaw18_Small_0 := Slaw18_Small_0.mk x.2.1.1 x.2.2.1.1 g.1.1
noncomputable def tAlaw18_Small_0 : Tms U ((Unit) × (Int × Unit) × (Int × Unit) × Unit) := tO 1 (cK (.ptr 0 0) (cUnit)) (tO 3 (cPair (cInt .i64) (cUnit)) (tO 4 (cPair (cInt .i64) (cUnit)) (tNil)))
noncomputable def tBlaw18_Small_0 : Bls U ((Machine × Unit) × Unit) := bC (cPair cMachine (cUnit)) (bNil)
noncomputable def eSlaw18_Small_0 (s : Slaw18_Small_0) : St U := { tm := [(1, .v (vO (cK (.ptr 0 0) (cUnit)) (()))), (3, .v (vO (cPair (cInt .i64) (cUnit)) (s.t3, ()))), (4, .v (vO (cPair (cInt .i64) (cUnit)) (s.t4, ())))], hp := [.cells ((cPair cMachine (cUnit) : Cdc U (Machine × Unit)).enc (s.b0, ()))] }
noncomputable def xSlaw18_Small_0 (r : (Int × Machine)) : Ex × St U := (.exit 0, { tm := [(1, .v (vO (cK (.ptr 0 0) (cUnit)) (()))), (3, .v (vO (cPair (cInt .i64) (cUnit)) (r.1, ())))], hp := [.cells ((cPair cMachine (cUnit) : Cdc U (Machine × Unit)).enc (r.2, ()))] })
noncomputable def xTlaw18_Small_0 (r : (Int × Machine)) : Tree (Ex × St U) := .leaf (xSlaw18_Small_0 r)
noncomputable def hlaw18_Small_0 : Hd := { keep := [1, 3, 4], xkeep := [1, 2, 3], own := false }
noncomputable def Plaw18_Small_1 (x : (Unit) × (Int × Unit) × (Int × Unit) × Unit) (g : (Machine × Unit) × Unit) : Slaw18_Small_1 := Slaw18_Small_1.mk x.2.1.1 x.2.2.1.1 g.1.1
noncomputable def tAlaw18_Small_1 : Tms U ((Unit) × (Int × Unit) × (Int × Unit) × Unit) := tO 1 (cK (.ptr 0 0) (cUnit)) (tO 3 (cPair (cInt .i64) (cUnit)) (tO 5 (cPair (cInt .i64) (cUnit)) (tNil)))
noncomputable def tBlaw18_Small_1 : Bls U ((Machine × Unit) × Unit) := bC (cPair cMachine (cUnit)) (bNil)
noncomputable def eSlaw18_Small_1 (s : Slaw18_Small_1) : St U := { tm := [(1, .v (vO (cK (.ptr 0 0) (cUnit)) (()))), (3, .v (vO (cPair (cInt .i64) (cUnit)) (s.t3, ()))), (5, .v (vO (cPair (cInt .i64) (cUnit)) (s.t5, ())))], hp := [.cells ((cPair cMachine (cUnit) : Cdc U (Machine × Unit)).enc (s.b0, ()))] }
noncomputable def xSlaw18_Small_1 (r : (Int × Machine)) : Ex × St U := (.exit 2, { tm := [(1, .v (vO (cK (.ptr 0 0) (cUnit)) (()))), (3, .v (vO (cPair (cInt .i64) (cUnit)) (r.1, ())))], hp := [.cells ((cPair cMachine (cUnit) : Cdc U (Machine × Unit)).enc (r.2, ()))] })
noncomputable def xTlaw18_Small_1 (r : (Int × Machine)) : Tree (Ex × St U) := .leaf (xSlaw18_Small_1 r)
noncomputable def hlaw18_Small_1 : Hd := { keep := [1, 3, 5], xkeep := [1, 2, 3], own := false }
noncomputable def Plaw18_Small_2 (x : (Unit) × (Int × Unit) × (Int × Unit) × Unit) (g : (Machine × Unit) × Unit) : Slaw18_Small_2 := Slaw18_Small_2.mk x.2.1.1 x.2.2.1.1 g.1.1
noncomputable def tAlaw18_Small_2 : Tms U ((Unit) × (Int × Unit) × (Int × Unit) × Unit) := tO 1 (cK (.ptr 0 0) (cUnit)) (tO 3 (cPair (cInt .i64) (cUnit)) (tO 6 (cPair (cInt .i64) (cUnit)) (tNil)))
noncomputable def tBlaw18_Small_2 : Bls U ((Machine × Unit) × Unit) := bC (cPair cMachine (cUnit)) (bNil)
noncomputable def eSlaw18_Small_2 (s : Slaw18_Small_2) : St U := { tm := [(1, .v (vO (cK (.ptr 0 0) (cUnit)) (()))), (3, .v (vO (cPair (cInt .i64) (cUnit)) (s.t3, ()))), (6, .v (vO (cPair (cInt .i64) (cUnit)) (s.t6, ())))], hp := [.cells ((cPair cMachine (cUnit) : Cdc U (Machine × Unit)).enc (s.b0, ()))] }
noncomputable def xSlaw18_Small_2 (r : (Int × Machine)) : Ex × St U := (.exit 4, { tm := [(1, .v (vO (cK (.ptr 0 0) (cUnit)) (()))), (3, .v (vO (cPair (cInt .i64) (cUnit)) (r.1, ())))], hp := [.cells ((cPair cMachine (cUnit) : Cdc U (Machine × Unit)).enc (r.2, ()))] })
noncomputable def xTlaw18_Small_2 (r : (Int × Machine)) : Tree (Ex × St U) := .leaf (xSlaw18_Small_2 r)
noncomputable def hlaw18_Small_2 : Hd := { keep := [1, 3, 6], xkeep := [1, 2, 3], own := false }
noncomputable def Elaw18_Small : Env U := { P := Try.prog, cd := cd, fns := noF, lps := (addL 0 hlaw18_Small_0 (mkLoop tAlaw18_Small_0 tBlaw18_Small_0 Plaw18_Small_0 (Llaw18_Small_0 none) xTlaw18_Small_0) (addL 1 hlaw18_Small_1 (mkLoop tAlaw18_Small_1 tBlaw18_Small_1 Plaw18_Small_1 (Llaw18_Small_1 none) xTlaw18_Small_1) (addL 2 hlaw18_Small_2 (mkLoop tAlaw18_Small_2 tBlaw18_Small_2 Plaw18_Small_2 (Llaw18_Small_2 none) xTlaw18_Small_2) noL))), frz := fun _r => false, nt := 117, n0 := 0 }
noncomputable def Blaw18_Small_0 : Code := (loopAt (Try.f18.body.getD .skip) 0 0).getD .skip
theorem roundlaw18_Small_0 (s : Slaw18_Small_0) : round Elaw18_Small hlaw18_Small_0 Blaw18_Small_0 0 (eSlaw18_Small_0 s) = (Wlaw18_Small_0 s).map (sumE eSlaw18_Small_0 xSlaw18_Small_0) := by kernel_rfl
theorem lplaw18_Small_0 : LpOk Elaw18_Small Blaw18_Small_0 0 := mkLoop_ok (A := tAlaw18_Small_0) (B := tBlaw18_Small_0) (f := Plaw18_Small_0) (L := Llaw18_Small_0 none) (tO_ok (cK_ok cUnit_ok) (tO_ok (cPair_ok (cInt_ok .i64) cUnit_ok) (tO_ok (cPair_ok (cInt_ok .i64) cUnit_ok) tNil_ok))) (bC_ok (cPair_ok cMachine_ok cUnit_ok) bNil_ok) (enc := eSlaw18_Small_0) (out := xTlaw18_Small_0) (outS := xSlaw18_Small_0) (step := Wlaw18_Small_0) (fun _ => rfl) (fun _ _ => by kernel_rfl) (by kernel_rfl) (fun _ => rfl) roundlaw18_Small_0
noncomputable def Blaw18_Small_1 : Code := (loopAt (Try.f18.body.getD .skip) 0 1).getD .skip
theorem roundlaw18_Small_1 (s : Slaw18_Small_1) : round Elaw18_Small hlaw18_Small_1 Blaw18_Small_1 1 (eSlaw18_Small_1 s) = (Wlaw18_Small_1 s).map (sumE eSlaw18_Small_1 xSlaw18_Small_1) := by kernel_rfl
theorem lplaw18_Small_1 : LpOk Elaw18_Small Blaw18_Small_1 1 := mkLoop_ok (A := tAlaw18_Small_1) (B := tBlaw18_Small_1) (f := Plaw18_Small_1) (L := Llaw18_Small_1 none) (tO_ok (cK_ok cUnit_ok) (tO_ok (cPair_ok (cInt_ok .i64) cUnit_ok) (tO_ok (cPair_ok (cInt_ok .i64) cUnit_ok) tNil_ok))) (bC_ok (cPair_ok cMachine_ok cUnit_ok) bNil_ok) (enc := eSlaw18_Small_1) (out := xTlaw18_Small_1) (outS := xSlaw18_Small_1) (step := Wlaw18_Small_1) (fun _ => rfl) (fun _ _ => by kernel_rfl) (by kernel_rfl) (fun _ => rfl) roundlaw18_Small_1
noncomputable def Blaw18_Small_2 : Code := (loopAt (Try.f18.body.getD .skip) 0 2).getD .skip
theorem roundlaw18_Small_2 (s : Slaw18_Small_2) : round Elaw18_Small hlaw18_Small_2 Blaw18_Small_2 2 (eSlaw18_Small_2 s) = (Wlaw18_Small_2 s).map (sumE eSlaw18_Small_2 xSlaw18_Small_2) := by kernel_rfl
theorem lplaw18_Small_2 : LpOk Elaw18_Small Blaw18_Small_2 2 := mkLoop_ok (A := tAlaw18_Small_2) (B := tBlaw18_Small_2) (f := Plaw18_Small_2) (L := Llaw18_Small_2 none) (tO_ok (cK_ok cUnit_ok) (tO_ok (cPair_ok (cInt_ok .i64) cUnit_ok) (tO_ok (cPair_ok (cInt_ok .i64) cUnit_ok) tNil_ok))) (bC_ok (cPair_ok cMachine_ok cUnit_ok) bNil_ok) (enc := eSlaw18_Small_2) (out := xTlaw18_Small_2) (outS := xSlaw18_Small_2) (step := Wlaw18_Small_2) (fun _ => rfl) (fun _ _ => by kernel_rfl) (by kernel_rfl) (fun _ => rfl) roundlaw18_Small_2
theorem runlaw18_Small (x : Machine × Unit) (g : Unit) : execF Elaw18_Small Try.f18 (Alaw18_Small.enc x) (bNil.enc g) = (Tlaw18_Small none x.1).map Rlaw18_Small := by kernel_rfl
theorem oklaw18_Small : FnOk Try.prog cd 18 Slaw18_Small := mk_ok (E := Elaw18_Small) cd_ok noF_ok Try.func18 (by kernel_rfl) (loops_of (addL_ok lplaw18_Small_0 (addL_ok lplaw18_Small_1 (addL_ok lplaw18_Small_2 noL_ok)))) (aA_ok cMachine_ok (aNil_ok)) bNil_ok (T := fun x _ => Tlaw18_Small none x.1) (fun _ _ => rfl) runlaw18_Small
noncomputable def fns18 := addF 18 true Slaw18_Small noF
theorem fns18_ok : ∀ f q t, fns18 f = some (q, t) → FnOk Try.prog cd f t := addF_ok oklaw18_Small noF_ok
/-- emulator/emulatorref14.Right -/
noncomputable def Tref14_Right (x0 : Line) : Tree Bool :=
  .ite (decide (x0.rxData < (0 : Int)))
    (.leaf (false))
    (.ite (decide ((255 : Int) < x0.rxData))
      (.leaf (false))
      (.ite (decide (x0.txData < (0 : Int)))
        (.leaf (false))
        (.ite (decide ((255 : Int) < x0.txData))
          (.leaf (false))
          (.ite (decide ((4096 : Int) < (x0.out.length : Int)))
            (.leaf (false))
            (.ite (decide ((0 : Int) ≤ x0.txLeft))
              (.ite (decide (x0.txLeft ≤ (4 : Int)))
                (.leaf ((x0.txReady == (decide (x0.txLeft = (0 : Int))))))
                (.leaf (false)))
              (.leaf (false)))))))
noncomputable def ref14_Right (x0 : Line) : Option Bool := (Tref14_Right x0).run
noncomputable def Aref14_Right : Arg U (Line × Unit) := aA cLine (aNil)
noncomputable def Rref14_Right (r : Bool) : List (V U) × List (Blk U) := ([vO cBool r], [])
noncomputable def Sref14_Right : List (V U) → List (Blk U) → Option (FnOut U) := mkSpec Aref14_Right bNil (fun x _ => ref14_Right x.1) Rref14_Right
noncomputable def Eref14_Right : Env U := { P := Try.prog, cd := cd, fns := fns18, lps := noL, frz := fun _r => false, nt := 43, n0 := 0 }
theorem runref14_Right (x : Line × Unit) (g : Unit) : execF Eref14_Right Try.f65 (Aref14_Right.enc x) (bNil.enc g) = (Tref14_Right x.1).map Rref14_Right := by kernel_rfl
theorem okref14_Right : FnOk Try.prog cd 65 Sref14_Right := mk_ok (E := Eref14_Right) cd_ok fns18_ok Try.func65 (by kernel_rfl) (noLoops_body (by kernel_rfl)) (aA_ok cLine_ok (aNil_ok)) bNil_ok (T := fun x _ => Tref14_Right x.1) (fun _ _ => rfl) runref14_Right
noncomputable def fns65 := addF 65 true Sref14_Right fns18
theorem fns65_ok : ∀ f q t, fns65 f = some (q, t) → FnOk Try.prog cd f t := addF_ok okref14_Right fns18_ok
/-- emulator/emulatorref08.Size -/
noncomputable def Tref08_Size (x0 : Int) : Tree Bool :=
  .ite (decide ((256 : Int) ≤ x0))
    (.ite (decide (x0 ≤ (32768 : Int)))
      (.ite (decide ((64 : Int) = 0))
        .fail
        (.leaf (decide (((x0).tmod (64 : Int)) = (0 : Int)))))
      (.leaf (false)))
    (.leaf (false))
noncomputable def ref08_Size (x0 : Int) : Option Bool := (Tref08_Size x0).run
noncomputable def Aref08_Size : Arg U (Int × Unit) := aO (cInt .i64) (aNil)
noncomputable def Rref08_Size (r : Bool) : List (V U) × List (Blk U) := ([vO cBool r], [])
noncomputable def Sref08_Size : List (V U) → List (Blk U) → Option (FnOut U) := mkSpec Aref08_Size bNil (fun x _ => ref08_Size x.1) Rref08_Size
noncomputable def Eref08_Size : Env U := { P := Try.prog, cd := cd, fns := fns65, lps := noL, frz := fun _r => false, nt := 14, n0 := 0 }
theorem runref08_Size (x : Int × Unit) (g : Unit) : execF Eref08_Size Try.f85 (Aref08_Size.enc x) (bNil.enc g) = (Tref08_Size x.1).map Rref08_Size := by kernel_rfl
theorem okref08_Size : FnOk Try.prog cd 85 Sref08_Size := mk_ok (E := Eref08_Size) cd_ok fns65_ok Try.func85 (by kernel_rfl) (noLoops_body (by kernel_rfl)) (aO_ok (cInt_ok .i64) (aNil_ok)) bNil_ok (T := fun x _ => Tref08_Size x.1) (fun _ _ => rfl) runref08_Size
noncomputable def fns85 := addF 85 true Sref08_Size fns65
theorem fns85_ok : ∀ f q t, fns85 f = some (q, t) → FnOk Try.prog cd f t := addF_ok okref08_Size fns65_ok
/-- emulator/emulatorref08.Right -/
structure Sref08_Right_0 where
  t0 : (List Int)
  t1 : (List Int)
  t5 : Int
noncomputable def Wref08_Right_0 (s : Sref08_Right_0) : Tree (Sref08_Right_0 ⊕ (((List Int) × (List Int) × Bool) ⊕ ((List Int) × (List Int)))) :=
  .ite (decide (s.t5 < (s.t0.length : Int)))
    (.ite (decide (0 ≤ s.t5))
      (.opt Int (s.t0[(s.t5).toNat]?) fun y8 =>
        .ite (decide (y8 < (0 : Int)))
          (.leaf (.inr (.inl (s.t0, s.t1, false))))
          (.ite (decide (0 ≤ s.t5))
            (.opt Int (s.t0[(s.t5).toNat]?) fun y9 =>
              .ite (decide ((65535 : Int) < y9))
                (.leaf (.inr (.inl (s.t0, s.t1, false))))
                (.leaf (.inl (Sref08_Right_0.mk s.t0 s.t1 (IntKind.wrap .i64 (s.t5 + (1 : Int)))))))
            .fail))
      .fail)
    (.leaf (.inr (.inr (s.t0, s.t1))))
noncomputable def Lref08_Right_0 (q : Option Nat) (s : Sref08_Right_0) : Option (((List Int) × (List Int) × Bool) ⊕ ((List Int) × (List Int))) := limQ q (fun s => (Wref08_Right_0 s).run) s
theorem leLref08_Right_0 (k : Nat) (s : Sref08_Right_0) : Le (Lref08_Right_0 (some k) s) (Lref08_Right_0 none s) := limQ_le (fun _ => Le.rfl) s
structure Sref08_Right_1 where
  t0 : (List Int)
  t1 : (List Int)
  t6 : Int
noncomputable def Wref08_Right_1 (s : Sref08_Right_1) : Tree (Sref08_Right_1 ⊕ (Bool ⊕ Unit)) :=
  .ite (decide (s.t6 < (s.t1.length : Int)))
    (.ite (decide (0 ≤ s.t6))
      (.opt Int (s.t1[(s.t6).toNat]?) fun y13 =>
        .ite (decide (y13 < (0 : Int)))
          (.leaf (.inr (.inl false)))
          (.ite (decide (0 ≤ s.t6))
            (.opt Int (s.t1[(s.t6).toNat]?) fun y14 =>
              .ite (decide ((IntKind.wrap .i64 ((2 : Int) * (s.t0.length : Int))) ≤ y14))
                (.leaf (.inr (.inl false)))
                (.ite (decide (0 ≤ s.t6))
                  (.opt Int (s.t1[(s.t6).toNat]?) fun y15 =>
                    .ite (decide ((2 : Int) = 0))
                      .fail
                      (.ite (!decide (((y15).tmod (2 : Int)) = (0 : Int)))
                        (.leaf (.inr (.inl false)))
                        (.ite (decide ((0 : Int) < s.t6))
                          (.ite (decide (0 ≤ s.t6))
                            (.opt Int (s.t1[(s.t6).toNat]?) fun y16 =>
                              .ite (decide (0 ≤ IntKind.wrap .i64 (s.t6 - (1 : Int))))
                                (.opt Int (s.t1[(IntKind.wrap .i64 (s.t6 - (1 : Int))).toNat]?) fun y17 =>
                                  .ite (decide (y16 ≤ y17))
                                    (.leaf (.inr (.inl false)))
                                    (.leaf (.inl (Sref08_Right_1.mk s.t0 s.t1 (IntKind.wrap .i64 (s.t6 + (1 : Int)))))))
                                .fail)
                            .fail)
                          (.leaf (.inl (Sref08_Right_1.mk s.t0 s.t1 (IntKind.wrap .i64 (s.t6 + (1 : Int)))))))))
                  .fail))
            .fail))
      .fail)
    (.leaf (.inr (.inr ())))
noncomputable def Lref08_Right_1 (q : Option Nat) (s : Sref08_Right_1) : Option (Bool ⊕ Unit) := limQ q (fun s => (Wref08_Right_1 s).run) s
theorem leLref08_Right_1 (k : Nat) (s : Sref08_Right_1) : Le (Lref08_Right_1 (some k) s) (Lref08_Right_1 none s) := limQ_le (fun _ => Le.rfl) s
noncomputable def Tref08_Right (q : Option Nat) (x0 : (List Int)) (x1 : (List Int)) : Tree Bool :=
  .opt Bool (ref08_Size (IntKind.wrap .i64 ((2 : Int) * (x0.length : Int)))) fun r7 =>
    .ite (!r7)
      (.leaf (false))
      (.opt (((List Int) × (List Int) × Bool) ⊕ ((List Int) × (List Int))) (Lref08_Right_0 q (Sref08_Right_0.mk x0 x1 (0 : Int))) fun l10 =>
        .ite (l10.isLeft)
          (.opt ((List Int) × (List Int) × Bool) (l10.getLeft?) fun a11 =>
            .leaf (a11.2.2))
          (.opt ((List Int) × (List Int)) (l10.getRight?) fun b12 =>
            .opt (Bool ⊕ Unit) (Lref08_Right_1 q (Sref08_Right_1.mk b12.1 b12.2 (0 : Int))) fun l18 =>
              .ite (l18.isLeft)
                (.opt Bool (l18.getLeft?) fun a19 =>
                  .leaf (a19))
                (.opt Unit (l18.getRight?) fun b20 =>
                  .leaf (true))))
noncomputable def ref08_Right (q : Option Nat) (x0 : (List Int)) (x1 : (List Int)) : Option Bool := (Tref08_Right q x0 x1).run
theorem leref08_Right (k : Nat) (x0 : (List Int)) (x1 : (List Int)) : Le (ref08_Right (some k) x0 x1) (ref08_Right none x0 x1) := (TLe.opt Le.rfl fun _ => (TLe.ite TLe.rfl (TLe.opt (leLref08_Right_0 k _) fun _ => (TLe.ite TLe.rfl (TLe.opt Le.rfl fun _ => (TLe.opt (leLref08_Right_1 k _) fun _ => TLe.rfl))))))
noncomputable def Aref08_Right : Arg U ((List Int) × (List Int) × Unit) := aO (cSl 3) (aO (cSl 3) (aNil))
noncomputable def Rref08_Right (r : Bool) : List (V U) × List (Blk U) := ([vO cBool r], [])
noncomputable def Sref08_Right : List (V U) → List (Blk U) → Option (FnOut U) := mkSpec Aref08_Right bNil (fun x _ => ref08_Right none x.1 x.2.1) Rref08_Right
noncomputable def Pref08_Right_0 (x : ((List Int) × Unit) × ((List Int) × Unit) × (Int × Unit) × Unit) (_g : Unit) : Sref08_Right_0 := Sref08_Right_0.mk x.1.1 x.2.1.1 x.2.2.1.1
noncomputable def tAref08_Right_0 : Tms U (((List Int) × Unit) × ((List Int) × Unit) × (Int × Unit) × Unit) := tO 0 (cPair (cSl 3) (cUnit)) (tO 1 (cPair (cSl 3) (cUnit)) (tO 5 (cPair (cInt .i64) (cUnit)) (tNil)))
noncomputable def tBref08_Right_0 : Bls U (Unit) := bNil
noncomputable def eSref08_Right_0 (s : Sref08_Right_0) : St U := { tm := [(0, .v (vO (cPair (cSl 3) (cUnit)) (s.t0, ()))), (1, .v (vO (cPair (cSl 3) (cUnit)) (s.t1, ()))), (5, .v (vO (cPair (cInt .i64) (cUnit)) (s.t5, ())))], hp := [] }
noncomputable def xSref08_Right_0 : (((List Int) × (List Int) × Bool) ⊕ ((List Int) × (List Int))) → Ex × St U
  | .inl r => (.ret, { tm := [(0, .v (vO (cPair (cSl 3) (cUnit)) (r.1, ()))), (1, .v (vO (cPair (cSl 3) (cUnit)) (r.2.1, ()))), (4, .v (vO (cPair cBool (cUnit)) (r.2.2, ())))], hp := [] })
  | .inr r => (.exit 0, { tm := [(0, .v (vO (cPair (cSl 3) (cUnit)) (r.1, ()))), (1, .v (vO (cPair (cSl 3) (cUnit)) (r.2, ())))], hp := [] })
noncomputable def xTref08_Right_0 (y : (((List Int) × (List Int) × Bool) ⊕ ((List Int) × (List Int)))) : Tree (Ex × St U) := .ite y.isLeft (.opt ((List Int) × (List Int) × Bool) y.getLeft? fun r => .leaf (.ret, { tm := [(0, .v (vO (cPair (cSl 3) (cUnit)) (r.1, ()))), (1, .v (vO (cPair (cSl 3) (cUnit)) (r.2.1, ()))), (4, .v (vO (cPair cBool (cUnit)) (r.2.2, ())))], hp := [] })) (.opt ((List Int) × (List Int)) y.getRight? fun r => .leaf (.exit 0, { tm := [(0, .v (vO (cPair (cSl 3) (cUnit)) (r.1, ()))), (1, .v (vO (cPair (cSl 3) (cUnit)) (r.2, ())))], hp := [] }))
noncomputable def href08_Right_0 : Hd := { keep := [0, 1, 5], xkeep := [0, 1, 4], own := false }
noncomputable def Pref08_Right_1 (x : ((List Int) × Unit) × ((List Int) × Unit) × (Int × Unit) × Unit) (_g : Unit) : Sref08_Right_1 := Sref08_Right_1.mk x.1.1 x.2.1.1 x.2.2.1.1
noncomputable def tAref08_Right_1 : Tms U (((List Int) × Unit) × ((List Int) × Unit) × (Int × Unit) × Unit) := tO 0 (cPair (cSl 3) (cUnit)) (tO 1 (cPair (cSl 3) (cUnit)) (tO 6 (cPair (cInt .i64) (cUnit)) (tNil)))
noncomputable def tBref08_Right_1 : Bls U (Unit) := bNil
noncomputable def eSref08_Right_1 (s : Sref08_Right_1) : St U := { tm := [(0, .v (vO (cPair (cSl 3) (cUnit)) (s.t0, ()))), (1, .v (vO (cPair (cSl 3) (cUnit)) (s.t1, ()))), (6, .v (vO (cPair (cInt .i64) (cUnit)) (s.t6, ())))], hp := [] }
noncomputable def xSref08_Right_1 : (Bool ⊕ Unit) → Ex × St U
  | .inl r => (.ret, { tm := [(4, .v (vO (cPair cBool (cUnit)) (r, ())))], hp := [] })
  | .inr r => (.exit 2, { tm := [], hp := [] })
noncomputable def xTref08_Right_1 (y : (Bool ⊕ Unit)) : Tree (Ex × St U) := .ite y.isLeft (.opt Bool y.getLeft? fun r => .leaf (.ret, { tm := [(4, .v (vO (cPair cBool (cUnit)) (r, ())))], hp := [] })) (.opt Unit y.getRight? fun r => .leaf (.exit 2, { tm := [], hp := [] }))
noncomputable def href08_Right_1 : Hd := { keep := [0, 1, 6], xkeep := [4], own := false }
noncomputable def Eref08_Right : Env U := { P := Try.prog, cd := cd, fns := fns85, lps := (addL 0 href08_Right_0 (mkLoop tAref08_Right_0 tBref08_Right_0 Pref08_Right_0 (Lref08_Right_0 none) xTref08_Right_0) (addL 1 href08_Right_1 (mkLoop tAref08_Right_1 tBref08_Right_1 Pref08_Right_1 (Lref08_Right_1 none) xTref08_Right_1) noL)), frz := fun _r => false, nt := 75, n0 := 0 }
noncomputable def Bref08_Right_0 : Code := (loopAt (Try.f66.body.getD .skip) 0 0).getD .skip
theorem roundref08_Right_0 (s : Sref08_Right_0) : round Eref08_Right href08_Right_0 Bref08_Right_0 0 (eSref08_Right_0 s) = (Wref08_Right_0 s).map (sumE eSref08_Right_0 xSref08_Right_0) := by kernel_rfl
theorem lpref08_Right_0 : LpOk Eref08_Right Bref08_Right_0 0 := mkLoop_ok (A := tAref08_Right_0) (B := tBref08_Right_0) (f := Pref08_Right_0) (L := Lref08_Right_0 none) (tO_ok (cPair_ok (cSl_ok 3) cUnit_ok) (tO_ok (cPair_ok (cSl_ok 3) cUnit_ok) (tO_ok (cPair_ok (cInt_ok .i64) cUnit_ok) tNil_ok))) bNil_ok (enc := eSref08_Right_0) (out := xTref08_Right_0) (outS := xSref08_Right_0) (step := Wref08_Right_0) (fun _ => rfl) (fun _ _ => by kernel_rfl) (by kernel_rfl) (fun b => by cases b <;> rfl) roundref08_Right_0
noncomputable def Bref08_Right_1 : Code := (loopAt (Try.f66.body.getD .skip) 0 1).getD .skip
theorem roundref08_Right_1 (s : Sref08_Right_1) : round Eref08_Right href08_Right_1 Bref08_Right_1 1 (eSref08_Right_1 s) = (Wref08_Right_1 s).map (sumE eSref08_Right_1 xSref08_Right_1) := by kernel_rfl
theorem lpref08_Right_1 : LpOk Eref08_Right Bref08_Right_1 1 := mkLoop_ok (A := tAref08_Right_1) (B := tBref08_Right_1) (f := Pref08_Right_1) (L := Lref08_Right_1 none) (tO_ok (cPair_ok (cSl_ok 3) cUnit_ok) (tO_ok (cPair_ok (cSl_ok 3) cUnit_ok) (tO_ok (cPair_ok (cInt_ok .i64) cUnit_ok) tNil_ok))) bNil_ok (enc := eSref08_Right_1) (out := xTref08_Right_1) (outS := xSref08_Right_1) (step := Wref08_Right_1) (fun _ => rfl) (fun _ _ => by kernel_rfl) (by kernel_rfl) (fun b => by cases b <;> rfl) roundref08_Right_1
theorem runref08_Right (x : (List Int) × (List Int) × Unit) (g : Unit) : execF Eref08_Right Try.f66 (Aref08_Right.enc x) (bNil.enc g) = (Tref08_Right none x.1 x.2.1).map Rref08_Right := by kernel_rfl
theorem okref08_Right : FnOk Try.prog cd 66 Sref08_Right := mk_ok (E := Eref08_Right) cd_ok fns85_ok Try.func66 (by kernel_rfl) (loops_of (addL_ok lpref08_Right_0 (addL_ok lpref08_Right_1 noL_ok))) (aO_ok (cSl_ok 3) (aO_ok (cSl_ok 3) (aNil_ok))) bNil_ok (T := fun x _ => Tref08_Right none x.1 x.2.1) (fun _ _ => rfl) runref08_Right
noncomputable def fns66 := addF 66 true Sref08_Right fns85
theorem fns66_ok : ∀ f q t, fns66 f = some (q, t) → FnOk Try.prog cd f t := addF_ok okref08_Right fns85_ok
/-- emulator/emulatorref09.Right -/
structure Sref09_Right_1 where
  t3 : Int
  t4 : Int
  b0 : Mmu
noncomputable def Wref09_Right_1 (s : Sref09_Right_1) : Tree (Sref09_Right_1 ⊕ ((Bool × Int × Mmu) ⊕ (Int × Mmu))) :=
  .ite (decide (s.t4 < (8 : Int)))
    (.ite (decide (0 ≤ s.t3))
      (.ite (decide (s.t3 < (2 : Int)))
        (.ite (decide (0 ≤ s.t4))
          (.ite (decide (s.t4 < (8 : Int)))
            (.opt Page (s.b0.pages[(s.t3).toNat * 8 + (s.t4).toNat * 1]?) fun y21 =>
              .ite (decide (y21.base < (0 : Int)))
                (.leaf (.inr (.inl (false, s.t3, s.b0))))
                (.ite (decide ((4095 : Int) < y21.base))
                  (.leaf (.inr (.inl (false, s.t3, s.b0))))
                  (.ite (decide (y21.length < (0 : Int)))
                    (.leaf (.inr (.inl (false, s.t3, s.b0))))
                    (.ite (decide ((128 : Int) < y21.length))
                      (.leaf (.inr (.inl (false, s.t3, s.b0))))
                      (.ite (decide (y21.access < (0 : Int)))
                        (.leaf (.inr (.inl (false, s.t3, s.b0))))
                        (.ite (decide ((2 : Int) < y21.access))
                          (.leaf (.inr (.inl (false, s.t3, s.b0))))
                          (.leaf (.inl (Sref09_Right_1.mk s.t3 (IntKind.wrap .i64 (s.t4 + (1 : Int))) s.b0)))))))))
            .fail)
          .fail)
        .fail)
      .fail)
    (.leaf (.inr (.inr (s.t3, s.b0))))
noncomputable def Lref09_Right_1 (q : Option Nat) (s : Sref09_Right_1) : Option ((Bool × Int × Mmu) ⊕ (Int × Mmu)) := limQ q (fun s => (Wref09_Right_1 s).run) s
theorem leLref09_Right_1 (k : Nat) (s : Sref09_Right_1) : Le (Lref09_Right_1 (some k) s) (Lref09_Right_1 none s) := limQ_le (fun _ => Le.rfl) s
structure Sref09_Right_0 where
  t3 : Int
  b0 : Mmu
noncomputable def Wref09_Right_0 (q : Option Nat) (s : Sref09_Right_0) : Tree (Sref09_Right_0 ⊕ ((Bool × Mmu) ⊕ Mmu)) :=
  .ite (decide (s.t3 < (2 : Int)))
    (.opt ((Bool × Int × Mmu) ⊕ (Int × Mmu)) (Lref09_Right_1 q (Sref09_Right_1.mk s.t3 (0 : Int) s.b0)) fun l22 =>
      .ite (l22.isLeft)
        (.opt (Bool × Int × Mmu) (l22.getLeft?) fun a23 =>
          .leaf (.inr (.inl (a23.1, a23.2.2))))
        (.opt (Int × Mmu) (l22.getRight?) fun b24 =>
          .leaf (.inl (Sref09_Right_0.mk (IntKind.wrap .i64 (b24.1 + (1 : Int))) b24.2))))
    (.leaf (.inr (.inr s.b0)))
noncomputable def Lref09_Right_0 (q : Option Nat) (s : Sref09_Right_0) : Option ((Bool × Mmu) ⊕ Mmu) := limQ q (fun s => (Wref09_Right_0 q s).run) s
theorem leLref09_Right_0 (k : Nat) (s : Sref09_Right_0) : Le (Lref09_Right_0 (some k) s) (Lref09_Right_0 none s) := limQ_le (fun s => (TLe.ite (TLe.opt (leLref09_Right_1 k _) fun _ => TLe.rfl) TLe.rfl)) s
noncomputable def Tref09_Right (q : Option Nat) (x0 : Mmu) : Tree Bool :=
  .opt ((Bool × Mmu) ⊕ Mmu) (Lref09_Right_0 q (Sref09_Right_0.mk (0 : Int) x0)) fun l25 =>
    .ite (l25.isLeft)
      (.opt (Bool × Mmu) (l25.getLeft?) fun a26 =>
        .leaf (a26.1))
      (.opt Mmu (l25.getRight?) fun b27 =>
        .ite (decide ((0 : Int) ≤ b27.status))
          (.ite (decide (b27.status ≤ (3 : Int)))
            (.ite (decide ((0 : Int) ≤ b27.addr))
              (.leaf (decide (b27.addr < (65536 : Int))))
              (.leaf (false)))
            (.leaf (false)))
          (.leaf (false)))
noncomputable def ref09_Right (q : Option Nat) (x0 : Mmu) : Option Bool := (Tref09_Right q x0).run
theorem leref09_Right (k : Nat) (x0 : Mmu) : Le (ref09_Right (some k) x0) (ref09_Right none x0) := (TLe.opt (leLref09_Right_0 k _) fun _ => TLe.rfl)
noncomputable def Aref09_Right : Arg U (Mmu × Unit) := aA cMmu (aNil)
noncomputable def Rref09_Right (r : Bool) : List (V U) × List (Blk U) := ([vO cBool r], [])
noncomputable def Sref09_Right : List (V U) → List (Blk U) → Option (FnOut U) := mkSpec Aref09_Right bNil (fun x _ => ref09_Right none x.1) Rref09_Right
noncomputable def Pref09_Right_0 (x : (Unit) × (Int × Unit) × Unit) (g : (Mmu × Unit) × Unit) : Sref09_Right_0 := Sref09_Right_0.mk x.2.1.1 g.1.1
noncomputable def tAref09_Right_0 : Tms U ((Unit) × (Int × Unit) × Unit) := tO 1 (cK (.ptr 0 0) (cUnit)) (tO 3 (cPair (cInt .i64) (cUnit)) (tNil))
noncomputable def tBref09_Right_0 : Bls U ((Mmu × Unit) × Unit) := bC (cPair cMmu (cUnit)) (bNil)
noncomputable def eSref09_Right_0 (s : Sref09_Right_0) : St U := { tm := [(1, .v (vO (cK (.ptr 0 0) (cUnit)) (()))), (3, .v (vO (cPair (cInt .i64) (cUnit)) (s.t3, ())))], hp := [.cells ((cPair cMmu (cUnit) : Cdc U (Mmu × Unit)).enc (s.b0, ()))] }
noncomputable def xSref09_Right_0 : ((Bool × Mmu) ⊕ Mmu) → Ex × St U
  | .inl r => (.ret, { tm := [(1, .v (vO (cK (.ptr 0 0) (cUnit)) (()))), (2, .v (vO (cPair cBool (cUnit)) (r.1, ())))], hp := [.cells ((cPair cMmu (cUnit) : Cdc U (Mmu × Unit)).enc (r.2, ()))] })
  | .inr r => (.exit 0, { tm := [(1, .v (vO (cK (.ptr 0 0) (cUnit)) (())))], hp := [.cells ((cPair cMmu (cUnit) : Cdc U (Mmu × Unit)).enc (r, ()))] })
noncomputable def xTref09_Right_0 (y : ((Bool × Mmu) ⊕ Mmu)) : Tree (Ex × St U) := .ite y.isLeft (.opt (Bool × Mmu) y.getLeft? fun r => .leaf (.ret, { tm := [(1, .v (vO (cK (.ptr 0 0) (cUnit)) (()))), (2, .v (vO (cPair cBool (cUnit)) (r.1, ())))], hp := [.cells ((cPair cMmu (cUnit) : Cdc U (Mmu × Unit)).enc (r.2, ()))] })) (.opt Mmu y.getRight? fun r => .leaf (.exit 0, { tm := [(1, .v (vO (cK (.ptr 0 0) (cUnit)) (())))], hp := [.cells ((cPair cMmu (cUnit) : Cdc U (Mmu × Unit)).enc (r, ()))] }))
noncomputable def href09_Right_0 : Hd := { keep := [1, 3], xkeep := [1, 2], own := false }
noncomputable def Pref09_Right_1 (x : (Unit) × (Int × Unit) × (Int × Unit) × Unit) (g : (Mmu × Unit) × Unit) : Sref09_Right_1 := Sref09_Right_1.mk x.2.1.1 x.2.2.1.1 g.1.1
noncomputable def tAref09_Right_1 : Tms U ((Unit) × (Int × Unit) × (Int × Unit) × Unit) := tO 1 (cK (.ptr 0 0) (cUnit)) (tO 3 (cPair (cInt .i64) (cUnit)) (tO 4 (cPair (cInt .i64) (cUnit)) (tNil)))
noncomputable def tBref09_Right_1 : Bls U ((Mmu × Unit) × Unit) := bC (cPair cMmu (cUnit)) (bNil)
noncomputable def eSref09_Right_1 (s : Sref09_Right_1) : St U := { tm := [(1, .v (vO (cK (.ptr 0 0) (cUnit)) (()))), (3, .v (vO (cPair (cInt .i64) (cUnit)) (s.t3, ()))), (4, .v (vO (cPair (cInt .i64) (cUnit)) (s.t4, ())))], hp := [.cells ((cPair cMmu (cUnit) : Cdc U (Mmu × Unit)).enc (s.b0, ()))] }
noncomputable def xSref09_Right_1 : ((Bool × Int × Mmu) ⊕ (Int × Mmu)) → Ex × St U
  | .inl r => (.ret, { tm := [(1, .v (vO (cK (.ptr 0 0) (cUnit)) (()))), (2, .v (vO (cPair cBool (cUnit)) (r.1, ()))), (3, .v (vO (cPair (cInt .i64) (cUnit)) (r.2.1, ())))], hp := [.cells ((cPair cMmu (cUnit) : Cdc U (Mmu × Unit)).enc (r.2.2, ()))] })
  | .inr r => (.exit 2, { tm := [(1, .v (vO (cK (.ptr 0 0) (cUnit)) (()))), (3, .v (vO (cPair (cInt .i64) (cUnit)) (r.1, ())))], hp := [.cells ((cPair cMmu (cUnit) : Cdc U (Mmu × Unit)).enc (r.2, ()))] })
noncomputable def xTref09_Right_1 (y : ((Bool × Int × Mmu) ⊕ (Int × Mmu))) : Tree (Ex × St U) := .ite y.isLeft (.opt (Bool × Int × Mmu) y.getLeft? fun r => .leaf (.ret, { tm := [(1, .v (vO (cK (.ptr 0 0) (cUnit)) (()))), (2, .v (vO (cPair cBool (cUnit)) (r.1, ()))), (3, .v (vO (cPair (cInt .i64) (cUnit)) (r.2.1, ())))], hp := [.cells ((cPair cMmu (cUnit) : Cdc U (Mmu × Unit)).enc (r.2.2, ()))] })) (.opt (Int × Mmu) y.getRight? fun r => .leaf (.exit 2, { tm := [(1, .v (vO (cK (.ptr 0 0) (cUnit)) (()))), (3, .v (vO (cPair (cInt .i64) (cUnit)) (r.1, ())))], hp := [.cells ((cPair cMmu (cUnit) : Cdc U (Mmu × Unit)).enc (r.2, ()))] }))
noncomputable def href09_Right_1 : Hd := { keep := [1, 3, 4], xkeep := [1, 2, 3], own := false }
noncomputable def Eref09_Right : Env U := { P := Try.prog, cd := cd, fns := fns66, lps := (addL 0 href09_Right_0 (mkLoop tAref09_Right_0 tBref09_Right_0 Pref09_Right_0 (Lref09_Right_0 none) xTref09_Right_0) (addL 1 href09_Right_1 (mkLoop tAref09_Right_1 tBref09_Right_1 Pref09_Right_1 (Lref09_Right_1 none) xTref09_Right_1) noL)), frz := fun _r => false, nt := 66, n0 := 0 }
noncomputable def Bref09_Right_0 : Code := (loopAt (Try.f67.body.getD .skip) 0 0).getD .skip
theorem roundref09_Right_0 (s : Sref09_Right_0) : round Eref09_Right href09_Right_0 Bref09_Right_0 0 (eSref09_Right_0 s) = (Wref09_Right_0 none s).map (sumE eSref09_Right_0 xSref09_Right_0) := by kernel_rfl
theorem lpref09_Right_0 : LpOk Eref09_Right Bref09_Right_0 0 := mkLoop_ok (A := tAref09_Right_0) (B := tBref09_Right_0) (f := Pref09_Right_0) (L := Lref09_Right_0 none) (tO_ok (cK_ok cUnit_ok) (tO_ok (cPair_ok (cInt_ok .i64) cUnit_ok) tNil_ok)) (bC_ok (cPair_ok cMmu_ok cUnit_ok) bNil_ok) (enc := eSref09_Right_0) (out := xTref09_Right_0) (outS := xSref09_Right_0) (step := Wref09_Right_0 none) (fun _ => rfl) (fun _ _ => by kernel_rfl) (by kernel_rfl) (fun b => by cases b <;> rfl) roundref09_Right_0
noncomputable def Bref09_Right_1 : Code := (loopAt (Try.f67.body.getD .skip) 0 1).getD .skip
theorem roundref09_Right_1 (s : Sref09_Right_1) : round Eref09_Right href09_Right_1 Bref09_Right_1 1 (eSref09_Right_1 s) = (Wref09_Right_1 s).map (sumE eSref09_Right_1 xSref09_Right_1) := by kernel_rfl
theorem lpref09_Right_1 : LpOk Eref09_Right Bref09_Right_1 1 := mkLoop_ok (A := tAref09_Right_1) (B := tBref09_Right_1) (f := Pref09_Right_1) (L := Lref09_Right_1 none) (tO_ok (cK_ok cUnit_ok) (tO_ok (cPair_ok (cInt_ok .i64) cUnit_ok) (tO_ok (cPair_ok (cInt_ok .i64) cUnit_ok) tNil_ok))) (bC_ok (cPair_ok cMmu_ok cUnit_ok) bNil_ok) (enc := eSref09_Right_1) (out := xTref09_Right_1) (outS := xSref09_Right_1) (step := Wref09_Right_1) (fun _ => rfl) (fun _ _ => by kernel_rfl) (by kernel_rfl) (fun b => by cases b <;> rfl) roundref09_Right_1
theorem runref09_Right (x : Mmu × Unit) (g : Unit) : execF Eref09_Right Try.f67 (Aref09_Right.enc x) (bNil.enc g) = (Tref09_Right none x.1).map Rref09_Right := by kernel_rfl
theorem okref09_Right : FnOk Try.prog cd 67 Sref09_Right := mk_ok (E := Eref09_Right) cd_ok fns66_ok Try.func67 (by kernel_rfl) (loops_of (addL_ok lpref09_Right_0 (addL_ok lpref09_Right_1 noL_ok))) (aA_ok cMmu_ok (aNil_ok)) bNil_ok (T := fun x _ => Tref09_Right none x.1) (fun _ _ => rfl) runref09_Right
noncomputable def fns67 := addF 67 true Sref09_Right fns66
theorem fns67_ok : ∀ f q t, fns67 f = some (q, t) → FnOk Try.prog cd f t := addF_ok okref09_Right fns66_ok
/-- emulator/emulatorref13.Right -/
noncomputable def Tref13_Right (x0 : Clock) : Tree Bool :=
  .ite (decide ((1 : Int) ≤ x0.period))
    (.ite (decide (x0.period ≤ (65535 : Int)))
      (.ite (decide ((1 : Int) ≤ x0.left))
        (.leaf (decide (x0.left ≤ x0.period)))
        (.leaf (false)))
      (.leaf (false)))
    (.leaf (false))
noncomputable def ref13_Right (x0 : Clock) : Option Bool := (Tref13_Right x0).run
noncomputable def Aref13_Right : Arg U (Clock × Unit) := aA cClock (aNil)
noncomputable def Rref13_Right (r : Bool) : List (V U) × List (Blk U) := ([vO cBool r], [])
noncomputable def Sref13_Right : List (V U) → List (Blk U) → Option (FnOut U) := mkSpec Aref13_Right bNil (fun x _ => ref13_Right x.1) Rref13_Right
noncomputable def Eref13_Right : Env U := { P := Try.prog, cd := cd, fns := fns67, lps := noL, frz := fun _r => false, nt := 23, n0 := 0 }
theorem runref13_Right (x : Clock × Unit) (g : Unit) : execF Eref13_Right Try.f68 (Aref13_Right.enc x) (bNil.enc g) = (Tref13_Right x.1).map Rref13_Right := by kernel_rfl
theorem okref13_Right : FnOk Try.prog cd 68 Sref13_Right := mk_ok (E := Eref13_Right) cd_ok fns67_ok Try.func68 (by kernel_rfl) (noLoops_body (by kernel_rfl)) (aA_ok cClock_ok (aNil_ok)) bNil_ok (T := fun x _ => Tref13_Right x.1) (fun _ _ => rfl) runref13_Right
noncomputable def fns68 := addF 68 true Sref13_Right fns67
theorem fns68_ok : ∀ f q t, fns68 f = some (q, t) → FnOk Try.prog cd f t := addF_ok okref13_Right fns67_ok
/-- emulator/emulatorref16.word -/
noncomputable def Tref16_word (x0 : Int) : Tree Bool :=
  .ite (decide ((0 : Int) ≤ x0))
    (.leaf (decide (x0 ≤ (65535 : Int))))
    (.leaf (false))
noncomputable def ref16_word (x0 : Int) : Option Bool := (Tref16_word x0).run
noncomputable def Aref16_word : Arg U (Int × Unit) := aO (cInt .i64) (aNil)
noncomputable def Rref16_word (r : Bool) : List (V U) × List (Blk U) := ([vO cBool r], [])
noncomputable def Sref16_word : List (V U) → List (Blk U) → Option (FnOut U) := mkSpec Aref16_word bNil (fun x _ => ref16_word x.1) Rref16_word
noncomputable def Eref16_word : Env U := { P := Try.prog, cd := cd, fns := fns68, lps := noL, frz := fun _r => false, nt := 9, n0 := 0 }
theorem runref16_word (x : Int × Unit) (g : Unit) : execF Eref16_word Try.f86 (Aref16_word.enc x) (bNil.enc g) = (Tref16_word x.1).map Rref16_word := by kernel_rfl
theorem okref16_word : FnOk Try.prog cd 86 Sref16_word := mk_ok (E := Eref16_word) cd_ok fns68_ok Try.func86 (by kernel_rfl) (noLoops_body (by kernel_rfl)) (aO_ok (cInt_ok .i64) (aNil_ok)) bNil_ok (T := fun x _ => Tref16_word x.1) (fun _ _ => rfl) runref16_word
noncomputable def fns86 := addF 86 true Sref16_word fns68
theorem fns86_ok : ∀ f q t, fns86 f = some (q, t) → FnOk Try.prog cd f t := addF_ok okref16_word fns68_ok
/-- emulator/emulatorref15.Right -/
structure Sref15_Right_0 where
  t3 : Int
  b0 : Drive
noncomputable def Wref15_Right_0 (s : Sref15_Right_0) : Tree (Sref15_Right_0 ⊕ ((Bool × Drive) ⊕ Drive)) :=
  .ite (decide (s.t3 < (s.b0.sectors.length : Int)))
    (.ite (decide (0 ≤ s.t3))
      (.opt (List UInt8) (s.b0.sectors[(s.t3).toNat]?) fun y28 =>
        .ite (!decide ((y28.length : Int) = (128 : Int)))
          (.leaf (.inr (.inl (false, s.b0))))
          (.leaf (.inl (Sref15_Right_0.mk (IntKind.wrap .i64 (s.t3 + (1 : Int))) s.b0))))
      .fail)
    (.leaf (.inr (.inr s.b0)))
noncomputable def Lref15_Right_0 (q : Option Nat) (s : Sref15_Right_0) : Option ((Bool × Drive) ⊕ Drive) := limQ q (fun s => (Wref15_Right_0 s).run) s
theorem leLref15_Right_0 (k : Nat) (s : Sref15_Right_0) : Le (Lref15_Right_0 (some k) s) (Lref15_Right_0 none s) := limQ_le (fun _ => Le.rfl) s
structure Sref15_Right_1 where
  t4 : Int
  b0 : Drive
noncomputable def Wref15_Right_1 (s : Sref15_Right_1) : Tree (Sref15_Right_1 ⊕ (Bool ⊕ Unit)) :=
  .ite (decide (s.t4 < (s.b0.bad.length : Int)))
    (.ite (decide (0 ≤ s.t4))
      (.opt Int (s.b0.bad[(s.t4).toNat]?) fun y32 =>
        .ite (decide (y32 < (0 : Int)))
          (.leaf (.inr (.inl false)))
          (.ite (decide (0 ≤ s.t4))
            (.opt Int (s.b0.bad[(s.t4).toNat]?) fun y33 =>
              .ite (decide ((s.b0.sectors.length : Int) ≤ y33))
                (.leaf (.inr (.inl false)))
                (.ite (decide ((0 : Int) < s.t4))
                  (.ite (decide (0 ≤ IntKind.wrap .i64 (s.t4 - (1 : Int))))
                    (.opt Int (s.b0.bad[(IntKind.wrap .i64 (s.t4 - (1 : Int))).toNat]?) fun y34 =>
                      .ite (decide (0 ≤ s.t4))
                        (.opt Int (s.b0.bad[(s.t4).toNat]?) fun y35 =>
                          .ite (decide (y35 ≤ y34))
                            (.leaf (.inr (.inl false)))
                            (.leaf (.inl (Sref15_Right_1.mk (IntKind.wrap .i64 (s.t4 + (1 : Int))) s.b0))))
                        .fail)
                    .fail)
                  (.leaf (.inl (Sref15_Right_1.mk (IntKind.wrap .i64 (s.t4 + (1 : Int))) s.b0)))))
            .fail))
      .fail)
    (.leaf (.inr (.inr ())))
noncomputable def Lref15_Right_1 (q : Option Nat) (s : Sref15_Right_1) : Option (Bool ⊕ Unit) := limQ q (fun s => (Wref15_Right_1 s).run) s
theorem leLref15_Right_1 (k : Nat) (s : Sref15_Right_1) : Le (Lref15_Right_1 (some k) s) (Lref15_Right_1 none s) := limQ_le (fun _ => Le.rfl) s
noncomputable def Tref15_Right (q : Option Nat) (x0 : Drive) : Tree Bool :=
  .ite (decide ((x0.sectors.length : Int) < (1 : Int)))
    (.leaf (false))
    (.ite (decide ((256 : Int) < (x0.sectors.length : Int)))
      (.leaf (false))
      (.opt ((Bool × Drive) ⊕ Drive) (Lref15_Right_0 q (Sref15_Right_0.mk (0 : Int) x0)) fun l29 =>
        .ite (l29.isLeft)
          (.opt (Bool × Drive) (l29.getLeft?) fun a30 =>
            .leaf (a30.1))
          (.opt Drive (l29.getRight?) fun b31 =>
            .opt (Bool ⊕ Unit) (Lref15_Right_1 q (Sref15_Right_1.mk (0 : Int) b31)) fun l36 =>
              .ite (l36.isLeft)
                (.opt Bool (l36.getLeft?) fun a37 =>
                  .leaf (a37))
                (.opt Unit (l36.getRight?) fun b38 =>
                  .leaf (true)))))
noncomputable def ref15_Right (q : Option Nat) (x0 : Drive) : Option Bool := (Tref15_Right q x0).run
theorem leref15_Right (k : Nat) (x0 : Drive) : Le (ref15_Right (some k) x0) (ref15_Right none x0) := (TLe.ite TLe.rfl (TLe.ite TLe.rfl (TLe.opt (leLref15_Right_0 k _) fun _ => (TLe.ite TLe.rfl (TLe.opt Le.rfl fun _ => (TLe.opt (leLref15_Right_1 k _) fun _ => TLe.rfl))))))
noncomputable def Aref15_Right : Arg U (Drive × Unit) := aA cDrive (aNil)
noncomputable def Rref15_Right (r : Bool) : List (V U) × List (Blk U) := ([vO cBool r], [])
noncomputable def Sref15_Right : List (V U) → List (Blk U) → Option (FnOut U) := mkSpec Aref15_Right bNil (fun x _ => ref15_Right none x.1) Rref15_Right
noncomputable def Pref15_Right_0 (x : (Unit) × (Int × Unit) × Unit) (g : (Drive × Unit) × Unit) : Sref15_Right_0 := Sref15_Right_0.mk x.2.1.1 g.1.1
noncomputable def tAref15_Right_0 : Tms U ((Unit) × (Int × Unit) × Unit) := tO 1 (cK (.ptr 0 0) (cUnit)) (tO 3 (cPair (cInt .i64) (cUnit)) (tNil))
noncomputable def tBref15_Right_0 : Bls U ((Drive × Unit) × Unit) := bC (cPair cDrive (cUnit)) (bNil)
noncomputable def eSref15_Right_0 (s : Sref15_Right_0) : St U := { tm := [(1, .v (vO (cK (.ptr 0 0) (cUnit)) (()))), (3, .v (vO (cPair (cInt .i64) (cUnit)) (s.t3, ())))], hp := [.cells ((cPair cDrive (cUnit) : Cdc U (Drive × Unit)).enc (s.b0, ()))] }
noncomputable def xSref15_Right_0 : ((Bool × Drive) ⊕ Drive) → Ex × St U
  | .inl r => (.ret, { tm := [(1, .v (vO (cK (.ptr 0 0) (cUnit)) (()))), (2, .v (vO (cPair cBool (cUnit)) (r.1, ())))], hp := [.cells ((cPair cDrive (cUnit) : Cdc U (Drive × Unit)).enc (r.2, ()))] })
  | .inr r => (.exit 0, { tm := [(1, .v (vO (cK (.ptr 0 0) (cUnit)) (())))], hp := [.cells ((cPair cDrive (cUnit) : Cdc U (Drive × Unit)).enc (r, ()))] })
noncomputable def xTref15_Right_0 (y : ((Bool × Drive) ⊕ Drive)) : Tree (Ex × St U) := .ite y.isLeft (.opt (Bool × Drive) y.getLeft? fun r => .leaf (.ret, { tm := [(1, .v (vO (cK (.ptr 0 0) (cUnit)) (()))), (2, .v (vO (cPair cBool (cUnit)) (r.1, ())))], hp := [.cells ((cPair cDrive (cUnit) : Cdc U (Drive × Unit)).enc (r.2, ()))] })) (.opt Drive y.getRight? fun r => .leaf (.exit 0, { tm := [(1, .v (vO (cK (.ptr 0 0) (cUnit)) (())))], hp := [.cells ((cPair cDrive (cUnit) : Cdc U (Drive × Unit)).enc (r, ()))] }))
noncomputable def href15_Right_0 : Hd := { keep := [1, 3], xkeep := [1, 2], own := false }
noncomputable def Pref15_Right_1 (x : (Unit) × (Int × Unit) × Unit) (g : (Drive × Unit) × Unit) : Sref15_Right_1 := Sref15_Right_1.mk x.2.1.1 g.1.1
noncomputable def tAref15_Right_1 : Tms U ((Unit) × (Int × Unit) × Unit) := tO 1 (cK (.ptr 0 0) (cUnit)) (tO 4 (cPair (cInt .i64) (cUnit)) (tNil))
noncomputable def tBref15_Right_1 : Bls U ((Drive × Unit) × Unit) := bC (cPair cDrive (cUnit)) (bNil)
noncomputable def eSref15_Right_1 (s : Sref15_Right_1) : St U := { tm := [(1, .v (vO (cK (.ptr 0 0) (cUnit)) (()))), (4, .v (vO (cPair (cInt .i64) (cUnit)) (s.t4, ())))], hp := [.cells ((cPair cDrive (cUnit) : Cdc U (Drive × Unit)).enc (s.b0, ()))] }
noncomputable def xSref15_Right_1 : (Bool ⊕ Unit) → Ex × St U
  | .inl r => (.ret, { tm := [(2, .v (vO (cPair cBool (cUnit)) (r, ())))], hp := [] })
  | .inr r => (.exit 2, { tm := [], hp := [] })
noncomputable def xTref15_Right_1 (y : (Bool ⊕ Unit)) : Tree (Ex × St U) := .ite y.isLeft (.opt Bool y.getLeft? fun r => .leaf (.ret, { tm := [(2, .v (vO (cPair cBool (cUnit)) (r, ())))], hp := [] })) (.opt Unit y.getRight? fun r => .leaf (.exit 2, { tm := [], hp := [] }))
noncomputable def href15_Right_1 : Hd := { keep := [1, 4], xkeep := [2], own := false }
noncomputable def Eref15_Right : Env U := { P := Try.prog, cd := cd, fns := fns86, lps := (addL 0 href15_Right_0 (mkLoop tAref15_Right_0 tBref15_Right_0 Pref15_Right_0 (Lref15_Right_0 none) xTref15_Right_0) (addL 1 href15_Right_1 (mkLoop tAref15_Right_1 tBref15_Right_1 Pref15_Right_1 (Lref15_Right_1 none) xTref15_Right_1) noL)), frz := fun _r => false, nt := 71, n0 := 0 }
noncomputable def Bref15_Right_0 : Code := (loopAt (Try.f87.body.getD .skip) 0 0).getD .skip
theorem roundref15_Right_0 (s : Sref15_Right_0) : round Eref15_Right href15_Right_0 Bref15_Right_0 0 (eSref15_Right_0 s) = (Wref15_Right_0 s).map (sumE eSref15_Right_0 xSref15_Right_0) := by kernel_rfl
theorem lpref15_Right_0 : LpOk Eref15_Right Bref15_Right_0 0 := mkLoop_ok (A := tAref15_Right_0) (B := tBref15_Right_0) (f := Pref15_Right_0) (L := Lref15_Right_0 none) (tO_ok (cK_ok cUnit_ok) (tO_ok (cPair_ok (cInt_ok .i64) cUnit_ok) tNil_ok)) (bC_ok (cPair_ok cDrive_ok cUnit_ok) bNil_ok) (enc := eSref15_Right_0) (out := xTref15_Right_0) (outS := xSref15_Right_0) (step := Wref15_Right_0) (fun _ => rfl) (fun _ _ => by kernel_rfl) (by kernel_rfl) (fun b => by cases b <;> rfl) roundref15_Right_0
noncomputable def Bref15_Right_1 : Code := (loopAt (Try.f87.body.getD .skip) 0 1).getD .skip
theorem roundref15_Right_1 (s : Sref15_Right_1) : round Eref15_Right href15_Right_1 Bref15_Right_1 1 (eSref15_Right_1 s) = (Wref15_Right_1 s).map (sumE eSref15_Right_1 xSref15_Right_1) := by kernel_rfl
theorem lpref15_Right_1 : LpOk Eref15_Right Bref15_Right_1 1 := mkLoop_ok (A := tAref15_Right_1) (B := tBref15_Right_1) (f := Pref15_Right_1) (L := Lref15_Right_1 none) (tO_ok (cK_ok cUnit_ok) (tO_ok (cPair_ok (cInt_ok .i64) cUnit_ok) tNil_ok)) (bC_ok (cPair_ok cDrive_ok cUnit_ok) bNil_ok) (enc := eSref15_Right_1) (out := xTref15_Right_1) (outS := xSref15_Right_1) (step := Wref15_Right_1) (fun _ => rfl) (fun _ _ => by kernel_rfl) (by kernel_rfl) (fun b => by cases b <;> rfl) roundref15_Right_1
theorem runref15_Right (x : Drive × Unit) (g : Unit) : execF Eref15_Right Try.f87 (Aref15_Right.enc x) (bNil.enc g) = (Tref15_Right none x.1).map Rref15_Right := by kernel_rfl
theorem okref15_Right : FnOk Try.prog cd 87 Sref15_Right := mk_ok (E := Eref15_Right) cd_ok fns86_ok Try.func87 (by kernel_rfl) (loops_of (addL_ok lpref15_Right_0 (addL_ok lpref15_Right_1 noL_ok))) (aA_ok cDrive_ok (aNil_ok)) bNil_ok (T := fun x _ => Tref15_Right none x.1) (fun _ _ => rfl) runref15_Right
noncomputable def fns87 := addF 87 true Sref15_Right fns86
theorem fns87_ok : ∀ f q t, fns87 f = some (q, t) → FnOk Try.prog cd f t := addF_ok okref15_Right fns86_ok
/-- emulator/emulatorref16.Right -/
noncomputable def Tref16_Right (q : Option Nat) (x0 : Disk) : Tree Bool :=
  .ite (decide (x0.command < (0 : Int)))
    (.leaf (false))
    (.ite (decide ((3 : Int) < x0.command))
      (.leaf (false))
      (.opt Bool (ref16_word x0.words) fun r39 =>
        .ite (!r39)
          (.leaf (false))
          (.opt Bool (ref16_word x0.addr) fun r40 =>
            .ite (!r40)
              (.leaf (false))
              (.opt Bool (ref16_word x0.start) fun r41 =>
                .ite (!r41)
                  (.leaf (false))
                  (.ite (decide ((2 : Int) = 0))
                    .fail
                    (.ite (!decide (((x0.addr).tmod (2 : Int)) = (0 : Int)))
                      (.leaf (false))
                      (.ite (decide (x0.left < (0 : Int)))
                        (.leaf (false))
                        (.ite (decide ((8 : Int) < x0.left))
                          (.leaf (false))
                          (.ite (!(x0.ready == (decide (x0.left = (0 : Int)))))
                            (.leaf (false))
                            (.ite (!decide (x0.left = (0 : Int)))
                              (.ite (decide (x0.command = (0 : Int)))
                                (.leaf (false))
                                (.ite (decide (x0.words = (0 : Int)))
                                  (.leaf (false))
                                  (.opt Bool (ref15_Right q x0.drive) fun r42 =>
                                    .leaf (r42))))
                              (.opt Bool (ref15_Right q x0.drive) fun r43 =>
                                .leaf (r43))))))))))))
noncomputable def ref16_Right (q : Option Nat) (x0 : Disk) : Option Bool := (Tref16_Right q x0).run
theorem leref16_Right (k : Nat) (x0 : Disk) : Le (ref16_Right (some k) x0) (ref16_Right none x0) := (TLe.ite TLe.rfl (TLe.ite TLe.rfl (TLe.opt Le.rfl fun _ => (TLe.ite TLe.rfl (TLe.opt Le.rfl fun _ => (TLe.ite TLe.rfl (TLe.opt Le.rfl fun _ => (TLe.ite TLe.rfl (TLe.ite TLe.rfl (TLe.ite TLe.rfl (TLe.ite TLe.rfl (TLe.ite TLe.rfl (TLe.ite TLe.rfl (TLe.ite (TLe.ite TLe.rfl (TLe.ite TLe.rfl (TLe.opt (leref15_Right k _) fun _ => TLe.rfl))) (TLe.opt (leref15_Right k _) fun _ => TLe.rfl)))))))))))))))
noncomputable def Aref16_Right : Arg U (Disk × Unit) := aA cDisk (aNil)
noncomputable def Rref16_Right (r : Bool) : List (V U) × List (Blk U) := ([vO cBool r], [])
noncomputable def Sref16_Right : List (V U) → List (Blk U) → Option (FnOut U) := mkSpec Aref16_Right bNil (fun x _ => ref16_Right none x.1) Rref16_Right
noncomputable def Eref16_Right : Env U := { P := Try.prog, cd := cd, fns := fns87, lps := noL, frz := fun _r => false, nt := 69, n0 := 0 }
theorem runref16_Right (x : Disk × Unit) (g : Unit) : execF Eref16_Right Try.f69 (Aref16_Right.enc x) (bNil.enc g) = (Tref16_Right none x.1).map Rref16_Right := by kernel_rfl
theorem okref16_Right : FnOk Try.prog cd 69 Sref16_Right := mk_ok (E := Eref16_Right) cd_ok fns87_ok Try.func69 (by kernel_rfl) (noLoops_body (by kernel_rfl)) (aA_ok cDisk_ok (aNil_ok)) bNil_ok (T := fun x _ => Tref16_Right none x.1) (fun _ _ => rfl) runref16_Right
noncomputable def fns69 := addF 69 true Sref16_Right fns87
theorem fns69_ok : ∀ f q t, fns69 f = some (q, t) → FnOk Try.prog cd f t := addF_ok okref16_Right fns87_ok
/-- emulator/emulatorref17.word -/
noncomputable def Tref17_word (x0 : Int) : Tree Bool :=
  .ite (decide ((0 : Int) ≤ x0))
    (.leaf (decide (x0 ≤ (65535 : Int))))
    (.leaf (false))
noncomputable def ref17_word (x0 : Int) : Option Bool := (Tref17_word x0).run
noncomputable def Aref17_word : Arg U (Int × Unit) := aO (cInt .i64) (aNil)
noncomputable def Rref17_word (r : Bool) : List (V U) × List (Blk U) := ([vO cBool r], [])
noncomputable def Sref17_word : List (V U) → List (Blk U) → Option (FnOut U) := mkSpec Aref17_word bNil (fun x _ => ref17_word x.1) Rref17_word
noncomputable def Eref17_word : Env U := { P := Try.prog, cd := cd, fns := fns69, lps := noL, frz := fun _r => false, nt := 9, n0 := 0 }
theorem runref17_word (x : Int × Unit) (g : Unit) : execF Eref17_word Try.f88 (Aref17_word.enc x) (bNil.enc g) = (Tref17_word x.1).map Rref17_word := by kernel_rfl
theorem okref17_word : FnOk Try.prog cd 88 Sref17_word := mk_ok (E := Eref17_word) cd_ok fns69_ok Try.func88 (by kernel_rfl) (noLoops_body (by kernel_rfl)) (aO_ok (cInt_ok .i64) (aNil_ok)) bNil_ok (T := fun x _ => Tref17_word x.1) (fun _ _ => rfl) runref17_word
noncomputable def fns88 := addF 88 true Sref17_word fns69
theorem fns88_ok : ∀ f q t, fns88 f = some (q, t) → FnOk Try.prog cd f t := addF_ok okref17_word fns69_ok
/-- emulator/emulatorref17.Right -/
structure Sref17_Right_0 where
  t3 : Int
  b0 : Tape
noncomputable def Wref17_Right_0 (s : Sref17_Right_0) : Tree (Sref17_Right_0 ⊕ ((Bool × Tape) ⊕ Tape)) :=
  .ite (decide (s.t3 < (s.b0.records.length : Int)))
    (.ite (decide (0 ≤ s.t3))
      (.opt (List UInt8) (s.b0.records[(s.t3).toNat]?) fun y46 =>
        .ite (decide ((512 : Int) < (y46.length : Int)))
          (.leaf (.inr (.inl (false, s.b0))))
          (.leaf (.inl (Sref17_Right_0.mk (IntKind.wrap .i64 (s.t3 + (1 : Int))) s.b0))))
      .fail)
    (.leaf (.inr (.inr s.b0)))
noncomputable def Lref17_Right_0 (q : Option Nat) (s : Sref17_Right_0) : Option ((Bool × Tape) ⊕ Tape) := limQ q (fun s => (Wref17_Right_0 s).run) s
theorem leLref17_Right_0 (k : Nat) (s : Sref17_Right_0) : Le (Lref17_Right_0 (some k) s) (Lref17_Right_0 none s) := limQ_le (fun _ => Le.rfl) s
noncomputable def Tref17_Right (q : Option Nat) (x0 : Tape) : Tree Bool :=
  .ite (decide ((64 : Int) < (x0.records.length : Int)))
    (.leaf (false))
    (.ite (decide (x0.pos < (0 : Int)))
      (.leaf (false))
      (.ite (decide ((x0.records.length : Int) < x0.pos))
        (.leaf (false))
        (.ite (decide (x0.command < (0 : Int)))
          (.leaf (false))
          (.ite (decide ((6 : Int) < x0.command))
            (.leaf (false))
            (.opt Bool (ref17_word x0.count) fun r44 =>
              .ite (!r44)
                (.leaf (false))
                (.opt Bool (ref17_word x0.addr) fun r45 =>
                  .ite (!r45)
                    (.leaf (false))
                    (.opt ((Bool × Tape) ⊕ Tape) (Lref17_Right_0 q (Sref17_Right_0.mk (0 : Int) x0)) fun l47 =>
                      .ite (l47.isLeft)
                        (.opt (Bool × Tape) (l47.getLeft?) fun a48 =>
                          .leaf (a48.1))
                        (.opt Tape (l47.getRight?) fun b49 =>
                          .ite (decide ((0 : Int) ≤ b49.left))
                            (.ite (decide (b49.left ≤ (16 : Int)))
                              (.leaf ((b49.ready == (decide (b49.left = (0 : Int))))))
                              (.leaf (false)))
                            (.leaf (false))))))))))
noncomputable def ref17_Right (q : Option Nat) (x0 : Tape) : Option Bool := (Tref17_Right q x0).run
theorem leref17_Right (k : Nat) (x0 : Tape) : Le (ref17_Right (some k) x0) (ref17_Right none x0) := (TLe.ite TLe.rfl (TLe.ite TLe.rfl (TLe.ite TLe.rfl (TLe.ite TLe.rfl (TLe.ite TLe.rfl (TLe.opt Le.rfl fun _ => (TLe.ite TLe.rfl (TLe.opt Le.rfl fun _ => (TLe.ite TLe.rfl (TLe.opt (leLref17_Right_0 k _) fun _ => TLe.rfl))))))))))
noncomputable def Aref17_Right : Arg U (Tape × Unit) := aA cTape (aNil)
noncomputable def Rref17_Right (r : Bool) : List (V U) × List (Blk U) := ([vO cBool r], [])
noncomputable def Sref17_Right : List (V U) → List (Blk U) → Option (FnOut U) := mkSpec Aref17_Right bNil (fun x _ => ref17_Right none x.1) Rref17_Right
noncomputable def Pref17_Right_0 (x : (Unit) × (Int × Unit) × Unit) (g : (Tape × Unit) × Unit) : Sref17_Right_0 := Sref17_Right_0.mk x.2.1.1 g.1.1
noncomputable def tAref17_Right_0 : Tms U ((Unit) × (Int × Unit) × Unit) := tO 1 (cK (.ptr 0 0) (cUnit)) (tO 3 (cPair (cInt .i64) (cUnit)) (tNil))
noncomputable def tBref17_Right_0 : Bls U ((Tape × Unit) × Unit) := bC (cPair cTape (cUnit)) (bNil)
noncomputable def eSref17_Right_0 (s : Sref17_Right_0) : St U := { tm := [(1, .v (vO (cK (.ptr 0 0) (cUnit)) (()))), (3, .v (vO (cPair (cInt .i64) (cUnit)) (s.t3, ())))], hp := [.cells ((cPair cTape (cUnit) : Cdc U (Tape × Unit)).enc (s.b0, ()))] }
noncomputable def xSref17_Right_0 : ((Bool × Tape) ⊕ Tape) → Ex × St U
  | .inl r => (.ret, { tm := [(1, .v (vO (cK (.ptr 0 0) (cUnit)) (()))), (2, .v (vO (cPair cBool (cUnit)) (r.1, ())))], hp := [.cells ((cPair cTape (cUnit) : Cdc U (Tape × Unit)).enc (r.2, ()))] })
  | .inr r => (.exit 0, { tm := [(1, .v (vO (cK (.ptr 0 0) (cUnit)) (())))], hp := [.cells ((cPair cTape (cUnit) : Cdc U (Tape × Unit)).enc (r, ()))] })
noncomputable def xTref17_Right_0 (y : ((Bool × Tape) ⊕ Tape)) : Tree (Ex × St U) := .ite y.isLeft (.opt (Bool × Tape) y.getLeft? fun r => .leaf (.ret, { tm := [(1, .v (vO (cK (.ptr 0 0) (cUnit)) (()))), (2, .v (vO (cPair cBool (cUnit)) (r.1, ())))], hp := [.cells ((cPair cTape (cUnit) : Cdc U (Tape × Unit)).enc (r.2, ()))] })) (.opt Tape y.getRight? fun r => .leaf (.exit 0, { tm := [(1, .v (vO (cK (.ptr 0 0) (cUnit)) (())))], hp := [.cells ((cPair cTape (cUnit) : Cdc U (Tape × Unit)).enc (r, ()))] }))
noncomputable def href17_Right_0 : Hd := { keep := [1, 3], xkeep := [1, 2], own := false }
noncomputable def Eref17_Right : Env U := { P := Try.prog, cd := cd, fns := fns88, lps := (addL 0 href17_Right_0 (mkLoop tAref17_Right_0 tBref17_Right_0 Pref17_Right_0 (Lref17_Right_0 none) xTref17_Right_0) noL), frz := fun _r => false, nt := 73, n0 := 0 }
noncomputable def Bref17_Right_0 : Code := (loopAt (Try.f70.body.getD .skip) 0 0).getD .skip
theorem roundref17_Right_0 (s : Sref17_Right_0) : round Eref17_Right href17_Right_0 Bref17_Right_0 0 (eSref17_Right_0 s) = (Wref17_Right_0 s).map (sumE eSref17_Right_0 xSref17_Right_0) := by kernel_rfl
theorem lpref17_Right_0 : LpOk Eref17_Right Bref17_Right_0 0 := mkLoop_ok (A := tAref17_Right_0) (B := tBref17_Right_0) (f := Pref17_Right_0) (L := Lref17_Right_0 none) (tO_ok (cK_ok cUnit_ok) (tO_ok (cPair_ok (cInt_ok .i64) cUnit_ok) tNil_ok)) (bC_ok (cPair_ok cTape_ok cUnit_ok) bNil_ok) (enc := eSref17_Right_0) (out := xTref17_Right_0) (outS := xSref17_Right_0) (step := Wref17_Right_0) (fun _ => rfl) (fun _ _ => by kernel_rfl) (by kernel_rfl) (fun b => by cases b <;> rfl) roundref17_Right_0
theorem runref17_Right (x : Tape × Unit) (g : Unit) : execF Eref17_Right Try.f70 (Aref17_Right.enc x) (bNil.enc g) = (Tref17_Right none x.1).map Rref17_Right := by kernel_rfl
theorem okref17_Right : FnOk Try.prog cd 70 Sref17_Right := mk_ok (E := Eref17_Right) cd_ok fns88_ok Try.func70 (by kernel_rfl) (loops_of (addL_ok lpref17_Right_0 noL_ok)) (aA_ok cTape_ok (aNil_ok)) bNil_ok (T := fun x _ => Tref17_Right none x.1) (fun _ _ => rfl) runref17_Right
noncomputable def fns70 := addF 70 true Sref17_Right fns88
theorem fns70_ok : ∀ f q t, fns70 f = some (q, t) → FnOk Try.prog cd f t := addF_ok okref17_Right fns88_ok
/-- emulator/emulatorref18.Right -/
structure Sref18_Right_0 where
  t3 : Int
  b0 : Machine
noncomputable def Wref18_Right_0 (s : Sref18_Right_0) : Tree (Sref18_Right_0 ⊕ ((Bool × Machine) ⊕ Machine)) :=
  .ite (decide (s.t3 < (s.b0.lines.length : Int)))
    (.ite (decide (0 ≤ s.t3))
      (.opt Line (s.b0.lines[(s.t3).toNat]?) fun y50 =>
        .opt Bool (ref14_Right y50) fun r51 =>
          .ite (!r51)
            (.leaf (.inr (.inl (false, s.b0))))
            (.leaf (.inl (Sref18_Right_0.mk (IntKind.wrap .i64 (s.t3 + (1 : Int))) s.b0))))
      .fail)
    (.leaf (.inr (.inr s.b0)))
noncomputable def Lref18_Right_0 (q : Option Nat) (s : Sref18_Right_0) : Option ((Bool × Machine) ⊕ Machine) := limQ q (fun s => (Wref18_Right_0 s).run) s
theorem leLref18_Right_0 (k : Nat) (s : Sref18_Right_0) : Le (Lref18_Right_0 (some k) s) (Lref18_Right_0 none s) := limQ_le (fun _ => Le.rfl) s
noncomputable def Tref18_Right (q : Option Nat) (x0 : Machine) : Tree Bool :=
  .ite (decide ((4 : Int) < (x0.lines.length : Int)))
    (.leaf (false))
    (.opt ((Bool × Machine) ⊕ Machine) (Lref18_Right_0 q (Sref18_Right_0.mk (0 : Int) x0)) fun l52 =>
      .ite (l52.isLeft)
        (.opt (Bool × Machine) (l52.getLeft?) fun a53 =>
          .leaf (a53.1))
        (.opt Machine (l52.getRight?) fun b54 =>
          .opt Bool (ref08_Right q b54.mem b54.bad) fun r55 =>
            .ite (r55)
              (.opt Bool (ref09_Right q b54.mmu) fun r56 =>
                .ite (r56)
                  (.opt Bool (ref13_Right b54.clock) fun r57 =>
                    .ite (r57)
                      (.opt Bool (ref16_Right q b54.disk) fun r58 =>
                        .ite (r58)
                          (.opt Bool (ref17_Right q b54.tape) fun r59 =>
                            .leaf (r59))
                          (.leaf (false)))
                      (.leaf (false)))
                  (.leaf (false)))
              (.leaf (false))))
noncomputable def ref18_Right (q : Option Nat) (x0 : Machine) : Option Bool := (Tref18_Right q x0).run
theorem leref18_Right (k : Nat) (x0 : Machine) : Le (ref18_Right (some k) x0) (ref18_Right none x0) := (TLe.ite TLe.rfl (TLe.opt (leLref18_Right_0 k _) fun _ => (TLe.ite TLe.rfl (TLe.opt Le.rfl fun _ => (TLe.opt (leref08_Right k _ _) fun _ => (TLe.ite (TLe.opt (leref09_Right k _) fun _ => (TLe.ite (TLe.opt Le.rfl fun _ => (TLe.ite (TLe.opt (leref16_Right k _) fun _ => (TLe.ite (TLe.opt (leref17_Right k _) fun _ => TLe.rfl) TLe.rfl)) TLe.rfl)) TLe.rfl)) TLe.rfl))))))
noncomputable def Aref18_Right : Arg U (Machine × Unit) := aA cMachine (aNil)
noncomputable def Rref18_Right (r : Bool) : List (V U) × List (Blk U) := ([vO cBool r], [])
noncomputable def Sref18_Right : List (V U) → List (Blk U) → Option (FnOut U) := mkSpec Aref18_Right bNil (fun x _ => ref18_Right none x.1) Rref18_Right
noncomputable def Pref18_Right_0 (x : (Unit) × (Int × Unit) × Unit) (g : (Machine × Unit) × Unit) : Sref18_Right_0 := Sref18_Right_0.mk x.2.1.1 g.1.1
noncomputable def tAref18_Right_0 : Tms U ((Unit) × (Int × Unit) × Unit) := tO 1 (cK (.ptr 0 0) (cUnit)) (tO 3 (cPair (cInt .i64) (cUnit)) (tNil))
noncomputable def tBref18_Right_0 : Bls U ((Machine × Unit) × Unit) := bC (cPair cMachine (cUnit)) (bNil)
noncomputable def eSref18_Right_0 (s : Sref18_Right_0) : St U := { tm := [(1, .v (vO (cK (.ptr 0 0) (cUnit)) (()))), (3, .v (vO (cPair (cInt .i64) (cUnit)) (s.t3, ())))], hp := [.cells ((cPair cMachine (cUnit) : Cdc U (Machine × Unit)).enc (s.b0, ()))] }
noncomputable def xSref18_Right_0 : ((Bool × Machine) ⊕ Machine) → Ex × St U
  | .inl r => (.ret, { tm := [(1, .v (vO (cK (.ptr 0 0) (cUnit)) (()))), (2, .v (vO (cPair cBool (cUnit)) (r.1, ())))], hp := [.cells ((cPair cMachine (cUnit) : Cdc U (Machine × Unit)).enc (r.2, ()))] })
  | .inr r => (.exit 0, { tm := [(1, .v (vO (cK (.ptr 0 0) (cUnit)) (())))], hp := [.cells ((cPair cMachine (cUnit) : Cdc U (Machine × Unit)).enc (r, ()))] })
noncomputable def xTref18_Right_0 (y : ((Bool × Machine) ⊕ Machine)) : Tree (Ex × St U) := .ite y.isLeft (.opt (Bool × Machine) y.getLeft? fun r => .leaf (.ret, { tm := [(1, .v (vO (cK (.ptr 0 0) (cUnit)) (()))), (2, .v (vO (cPair cBool (cUnit)) (r.1, ())))], hp := [.cells ((cPair cMachine (cUnit) : Cdc U (Machine × Unit)).enc (r.2, ()))] })) (.opt Machine y.getRight? fun r => .leaf (.exit 0, { tm := [(1, .v (vO (cK (.ptr 0 0) (cUnit)) (())))], hp := [.cells ((cPair cMachine (cUnit) : Cdc U (Machine × Unit)).enc (r, ()))] }))
noncomputable def href18_Right_0 : Hd := { keep := [1, 3], xkeep := [1, 2], own := false }
noncomputable def Eref18_Right : Env U := { P := Try.prog, cd := cd, fns := fns70, lps := (addL 0 href18_Right_0 (mkLoop tAref18_Right_0 tBref18_Right_0 Pref18_Right_0 (Lref18_Right_0 none) xTref18_Right_0) noL), frz := fun _r => false, nt := 47, n0 := 0 }
noncomputable def Bref18_Right_0 : Code := (loopAt (Try.f41.body.getD .skip) 0 0).getD .skip
theorem roundref18_Right_0 (s : Sref18_Right_0) : round Eref18_Right href18_Right_0 Bref18_Right_0 0 (eSref18_Right_0 s) = (Wref18_Right_0 s).map (sumE eSref18_Right_0 xSref18_Right_0) := by kernel_rfl
theorem lpref18_Right_0 : LpOk Eref18_Right Bref18_Right_0 0 := mkLoop_ok (A := tAref18_Right_0) (B := tBref18_Right_0) (f := Pref18_Right_0) (L := Lref18_Right_0 none) (tO_ok (cK_ok cUnit_ok) (tO_ok (cPair_ok (cInt_ok .i64) cUnit_ok) tNil_ok)) (bC_ok (cPair_ok cMachine_ok cUnit_ok) bNil_ok) (enc := eSref18_Right_0) (out := xTref18_Right_0) (outS := xSref18_Right_0) (step := Wref18_Right_0) (fun _ => rfl) (fun _ _ => by kernel_rfl) (by kernel_rfl) (fun b => by cases b <;> rfl) roundref18_Right_0
theorem runref18_Right (x : Machine × Unit) (g : Unit) : execF Eref18_Right Try.f41 (Aref18_Right.enc x) (bNil.enc g) = (Tref18_Right none x.1).map Rref18_Right := by kernel_rfl
theorem okref18_Right : FnOk Try.prog cd 41 Sref18_Right := mk_ok (E := Eref18_Right) cd_ok fns70_ok Try.func41 (by kernel_rfl) (loops_of (addL_ok lpref18_Right_0 noL_ok)) (aA_ok cMachine_ok (aNil_ok)) bNil_ok (T := fun x _ => Tref18_Right none x.1) (fun _ _ => rfl) runref18_Right
noncomputable def fns41 := addF 41 true Sref18_Right fns70
theorem fns41_ok : ∀ f q t, fns41 f = some (q, t) → FnOk Try.prog cd f t := addF_ok okref18_Right fns70_ok
/-- emulator/emulatorref19.word -/
noncomputable def Tref19_word (x0 : Int) : Tree Bool :=
  .ite (decide ((0 : Int) ≤ x0))
    (.leaf (decide (x0 < (65536 : Int))))
    (.leaf (false))
noncomputable def ref19_word (x0 : Int) : Option Bool := (Tref19_word x0).run
noncomputable def Aref19_word : Arg U (Int × Unit) := aO (cInt .i64) (aNil)
noncomputable def Rref19_word (r : Bool) : List (V U) × List (Blk U) := ([vO cBool r], [])
noncomputable def Sref19_word : List (V U) → List (Blk U) → Option (FnOut U) := mkSpec Aref19_word bNil (fun x _ => ref19_word x.1) Rref19_word
noncomputable def Eref19_word : Env U := { P := Try.prog, cd := cd, fns := fns41, lps := noL, frz := fun _r => false, nt := 9, n0 := 0 }
theorem runref19_word (x : Int × Unit) (g : Unit) : execF Eref19_word Try.f71 (Aref19_word.enc x) (bNil.enc g) = (Tref19_word x.1).map Rref19_word := by kernel_rfl
theorem okref19_word : FnOk Try.prog cd 71 Sref19_word := mk_ok (E := Eref19_word) cd_ok fns41_ok Try.func71 (by kernel_rfl) (noLoops_body (by kernel_rfl)) (aO_ok (cInt_ok .i64) (aNil_ok)) bNil_ok (T := fun x _ => Tref19_word x.1) (fun _ _ => rfl) runref19_word
noncomputable def fns71 := addF 71 true Sref19_word fns41
theorem fns71_ok : ∀ f q t, fns71 f = some (q, t) → FnOk Try.prog cd f t := addF_ok okref19_word fns41_ok
/-- emulator/emulatorref04.Valid -/
noncomputable def Tref04_Valid (x0 : Int) : Tree Bool :=
  .ite (decide ((0 : Int) ≤ x0))
    (.ite (decide (x0 ≤ (65535 : Int)))
      (.leaf (decide ((IntKind.wrap .i64 (((BitVec.ofInt 64 x0 &&& ~~~BitVec.ofInt 64 (49407 : Int)).toNat : Int))) = (0 : Int))))
      (.leaf (false)))
    (.leaf (false))
noncomputable def ref04_Valid (x0 : Int) : Option Bool := (Tref04_Valid x0).run
noncomputable def Aref04_Valid : Arg U (Int × Unit) := aO (cInt .i64) (aNil)
noncomputable def Rref04_Valid (r : Bool) : List (V U) × List (Blk U) := ([vO cBool r], [])
noncomputable def Sref04_Valid : List (V U) → List (Blk U) → Option (FnOut U) := mkSpec Aref04_Valid bNil (fun x _ => ref04_Valid x.1) Rref04_Valid
noncomputable def Eref04_Valid : Env U := { P := Try.prog, cd := cd, fns := fns71, lps := noL, frz := fun _r => false, nt := 14, n0 := 0 }
theorem runref04_Valid (x : Int × Unit) (g : Unit) : execF Eref04_Valid Try.f72 (Aref04_Valid.enc x) (bNil.enc g) = (Tref04_Valid x.1).map Rref04_Valid := by kernel_rfl
theorem okref04_Valid : FnOk Try.prog cd 72 Sref04_Valid := mk_ok (E := Eref04_Valid) cd_ok fns71_ok Try.func72 (by kernel_rfl) (noLoops_body (by kernel_rfl)) (aO_ok (cInt_ok .i64) (aNil_ok)) bNil_ok (T := fun x _ => Tref04_Valid x.1) (fun _ _ => rfl) runref04_Valid
noncomputable def fns72 := addF 72 true Sref04_Valid fns71
theorem fns72_ok : ∀ f q t, fns72 f = some (q, t) → FnOk Try.prog cd f t := addF_ok okref04_Valid fns71_ok
/-- emulator/emulatorref19.Right -/
structure Sref19_Right_0 where
  t3 : Int
  b0 : Cpu
noncomputable def Wref19_Right_0 (s : Sref19_Right_0) : Tree (Sref19_Right_0 ⊕ ((Bool × Cpu) ⊕ Cpu)) :=
  .ite (decide (s.t3 < (6 : Int)))
    (.ite (decide (0 ≤ s.t3))
      (.ite (decide (s.t3 < (6 : Int)))
        (.opt Int (s.b0.r[(s.t3).toNat * 1]?) fun y60 =>
          .opt Bool (ref19_word y60) fun r61 =>
            .ite (!r61)
              (.leaf (.inr (.inl (false, s.b0))))
              (.leaf (.inl (Sref19_Right_0.mk (IntKind.wrap .i64 (s.t3 + (1 : Int))) s.b0))))
        .fail)
      .fail)
    (.leaf (.inr (.inr s.b0)))
noncomputable def Lref19_Right_0 (q : Option Nat) (s : Sref19_Right_0) : Option ((Bool × Cpu) ⊕ Cpu) := limQ q (fun s => (Wref19_Right_0 s).run) s
theorem leLref19_Right_0 (k : Nat) (s : Sref19_Right_0) : Le (Lref19_Right_0 (some k) s) (Lref19_Right_0 none s) := limQ_le (fun _ => Le.rfl) s
noncomputable def Tref19_Right (q : Option Nat) (x0 : Cpu) : Tree Bool :=
  .opt ((Bool × Cpu) ⊕ Cpu) (Lref19_Right_0 q (Sref19_Right_0.mk (0 : Int) x0)) fun l62 =>
    .ite (l62.isLeft)
      (.opt (Bool × Cpu) (l62.getLeft?) fun a63 =>
        .leaf (a63.1))
      (.opt Cpu (l62.getRight?) fun b64 =>
        .ite (decide (0 ≤ (0 : Int)))
          (.ite (decide ((0 : Int) < (2 : Int)))
            (.opt Int (b64.sP[((0 : Int)).toNat * 1]?) fun y65 =>
              .opt Bool (ref19_word y65) fun r66 =>
                .ite (r66)
                  (.ite (decide (0 ≤ (1 : Int)))
                    (.ite (decide ((1 : Int) < (2 : Int)))
                      (.opt Int (b64.sP[((1 : Int)).toNat * 1]?) fun y67 =>
                        .opt Bool (ref19_word y67) fun r68 =>
                          .ite (r68)
                            (.opt Bool (ref19_word b64.pC) fun r69 =>
                              .ite (r69)
                                (.opt Bool (ref04_Valid b64.pSW) fun r70 =>
                                  .leaf (r70))
                                (.leaf (false)))
                            (.leaf (false)))
                      .fail)
                    .fail)
                  (.leaf (false)))
            .fail)
          .fail)
noncomputable def ref19_Right (q : Option Nat) (x0 : Cpu) : Option Bool := (Tref19_Right q x0).run
theorem leref19_Right (k : Nat) (x0 : Cpu) : Le (ref19_Right (some k) x0) (ref19_Right none x0) := (TLe.opt (leLref19_Right_0 k _) fun _ => TLe.rfl)
noncomputable def Aref19_Right : Arg U (Cpu × Unit) := aA cCpu (aNil)
noncomputable def Rref19_Right (r : Bool) : List (V U) × List (Blk U) := ([vO cBool r], [])
noncomputable def Sref19_Right : List (V U) → List (Blk U) → Option (FnOut U) := mkSpec Aref19_Right bNil (fun x _ => ref19_Right none x.1) Rref19_Right
noncomputable def Pref19_Right_0 (x : (Unit) × (Int × Unit) × Unit) (g : (Cpu × Unit) × Unit) : Sref19_Right_0 := Sref19_Right_0.mk x.2.1.1 g.1.1
noncomputable def tAref19_Right_0 : Tms U ((Unit) × (Int × Unit) × Unit) := tO 1 (cK (.ptr 0 0) (cUnit)) (tO 3 (cPair (cInt .i64) (cUnit)) (tNil))
noncomputable def tBref19_Right_0 : Bls U ((Cpu × Unit) × Unit) := bC (cPair cCpu (cUnit)) (bNil)
noncomputable def eSref19_Right_0 (s : Sref19_Right_0) : St U := { tm := [(1, .v (vO (cK (.ptr 0 0) (cUnit)) (()))), (3, .v (vO (cPair (cInt .i64) (cUnit)) (s.t3, ())))], hp := [.cells ((cPair cCpu (cUnit) : Cdc U (Cpu × Unit)).enc (s.b0, ()))] }
noncomputable def xSref19_Right_0 : ((Bool × Cpu) ⊕ Cpu) → Ex × St U
  | .inl r => (.ret, { tm := [(1, .v (vO (cK (.ptr 0 0) (cUnit)) (()))), (2, .v (vO (cPair cBool (cUnit)) (r.1, ())))], hp := [.cells ((cPair cCpu (cUnit) : Cdc U (Cpu × Unit)).enc (r.2, ()))] })
  | .inr r => (.exit 0, { tm := [(1, .v (vO (cK (.ptr 0 0) (cUnit)) (())))], hp := [.cells ((cPair cCpu (cUnit) : Cdc U (Cpu × Unit)).enc (r, ()))] })
noncomputable def xTref19_Right_0 (y : ((Bool × Cpu) ⊕ Cpu)) : Tree (Ex × St U) := .ite y.isLeft (.opt (Bool × Cpu) y.getLeft? fun r => .leaf (.ret, { tm := [(1, .v (vO (cK (.ptr 0 0) (cUnit)) (()))), (2, .v (vO (cPair cBool (cUnit)) (r.1, ())))], hp := [.cells ((cPair cCpu (cUnit) : Cdc U (Cpu × Unit)).enc (r.2, ()))] })) (.opt Cpu y.getRight? fun r => .leaf (.exit 0, { tm := [(1, .v (vO (cK (.ptr 0 0) (cUnit)) (())))], hp := [.cells ((cPair cCpu (cUnit) : Cdc U (Cpu × Unit)).enc (r, ()))] }))
noncomputable def href19_Right_0 : Hd := { keep := [1, 3], xkeep := [1, 2], own := false }
noncomputable def Eref19_Right : Env U := { P := Try.prog, cd := cd, fns := fns72, lps := (addL 0 href19_Right_0 (mkLoop tAref19_Right_0 tBref19_Right_0 Pref19_Right_0 (Lref19_Right_0 none) xTref19_Right_0) noL), frz := fun _r => false, nt := 34, n0 := 0 }
noncomputable def Bref19_Right_0 : Code := (loopAt (Try.f42.body.getD .skip) 0 0).getD .skip
theorem roundref19_Right_0 (s : Sref19_Right_0) : round Eref19_Right href19_Right_0 Bref19_Right_0 0 (eSref19_Right_0 s) = (Wref19_Right_0 s).map (sumE eSref19_Right_0 xSref19_Right_0) := by kernel_rfl
theorem lpref19_Right_0 : LpOk Eref19_Right Bref19_Right_0 0 := mkLoop_ok (A := tAref19_Right_0) (B := tBref19_Right_0) (f := Pref19_Right_0) (L := Lref19_Right_0 none) (tO_ok (cK_ok cUnit_ok) (tO_ok (cPair_ok (cInt_ok .i64) cUnit_ok) tNil_ok)) (bC_ok (cPair_ok cCpu_ok cUnit_ok) bNil_ok) (enc := eSref19_Right_0) (out := xTref19_Right_0) (outS := xSref19_Right_0) (step := Wref19_Right_0) (fun _ => rfl) (fun _ _ => by kernel_rfl) (by kernel_rfl) (fun b => by cases b <;> rfl) roundref19_Right_0
theorem runref19_Right (x : Cpu × Unit) (g : Unit) : execF Eref19_Right Try.f42 (Aref19_Right.enc x) (bNil.enc g) = (Tref19_Right none x.1).map Rref19_Right := by kernel_rfl
theorem okref19_Right : FnOk Try.prog cd 42 Sref19_Right := mk_ok (E := Eref19_Right) cd_ok fns72_ok Try.func42 (by kernel_rfl) (loops_of (addL_ok lpref19_Right_0 noL_ok)) (aA_ok cCpu_ok (aNil_ok)) bNil_ok (T := fun x _ => Tref19_Right none x.1) (fun _ _ => rfl) runref19_Right
noncomputable def fns42 := addF 42 true Sref19_Right fns72
theorem fns42_ok : ∀ f q t, fns42 f = some (q, t) → FnOk Try.prog cd f t := addF_ok okref19_Right fns72_ok
/-- emulator/emulatorref20.Right -/
noncomputable def Tref20_Right (q : Option Nat) (x0 : Machine) : Tree Bool :=
  .ite (decide (x0.now < (0 : Int)))
    (.leaf (false))
    (.ite (decide ((1099511627776 : Int) < x0.now))
      (.leaf (false))
      (.ite (decide (x0.power < (0 : Int)))
        (.leaf (false))
        (.ite (decide ((10000 : Int) < x0.power))
          (.leaf (false))
          (.ite (x0.halted)
            (.ite (x0.waiting)
              (.leaf (false))
              (.ite (!decide (x0.power = (0 : Int)))
                (.leaf (false))
                (.ite (x0.powerTrap)
                  (.leaf (false))
                  (.opt Bool (ref18_Right q x0) fun r71 =>
                    .ite (r71)
                      (.opt Bool (ref19_Right q x0.cpu) fun r72 =>
                        .leaf (r72))
                      (.leaf (false))))))
            (.opt Bool (ref18_Right q x0) fun r73 =>
              .ite (r73)
                (.opt Bool (ref19_Right q x0.cpu) fun r74 =>
                  .leaf (r74))
                (.leaf (false)))))))
noncomputable def ref20_Right (q : Option Nat) (x0 : Machine) : Option Bool := (Tref20_Right q x0).run
theorem leref20_Right (k : Nat) (x0 : Machine) : Le (ref20_Right (some k) x0) (ref20_Right none x0) := (TLe.ite TLe.rfl (TLe.ite TLe.rfl (TLe.ite TLe.rfl (TLe.ite TLe.rfl (TLe.ite (TLe.ite TLe.rfl (TLe.ite TLe.rfl (TLe.ite TLe.rfl (TLe.opt (leref18_Right k _) fun _ => (TLe.ite (TLe.opt (leref19_Right k _) fun _ => TLe.rfl) TLe.rfl))))) (TLe.opt (leref18_Right k _) fun _ => (TLe.ite (TLe.opt (leref19_Right k _) fun _ => TLe.rfl) TLe.rfl)))))))
noncomputable def Aref20_Right : Arg U (Machine × Unit) := aA cMachine (aNil)
noncomputable def Rref20_Right (r : Bool) : List (V U) × List (Blk U) := ([vO cBool r], [])
noncomputable def Sref20_Right : List (V U) → List (Blk U) → Option (FnOut U) := mkSpec Aref20_Right bNil (fun x _ => ref20_Right none x.1) Rref20_Right
noncomputable def Eref20_Right : Env U := { P := Try.prog, cd := cd, fns := fns42, lps := noL, frz := fun _r => false, nt := 43, n0 := 0 }
theorem runref20_Right (x : Machine × Unit) (g : Unit) : execF Eref20_Right Try.f19 (Aref20_Right.enc x) (bNil.enc g) = (Tref20_Right none x.1).map Rref20_Right := by kernel_rfl
theorem okref20_Right : FnOk Try.prog cd 19 Sref20_Right := mk_ok (E := Eref20_Right) cd_ok fns42_ok Try.func19 (by kernel_rfl) (noLoops_body (by kernel_rfl)) (aA_ok cMachine_ok (aNil_ok)) bNil_ok (T := fun x _ => Tref20_Right none x.1) (fun _ _ => rfl) runref20_Right
noncomputable def fns19 := addF 19 true Sref20_Right fns42
theorem fns19_ok : ∀ f q t, fns19 f = some (q, t) → FnOk Try.prog cd f t := addF_ok okref20_Right fns42_ok
/-- emulator/emulatortop.fit -/
noncomputable def Ttop_fit (q : Option Nat) (x0 : Machine) : Tree Bool :=
  .opt Bool (law18_Small q x0) fun r75 =>
    .ite (r75)
      (.opt Bool (ref20_Right q x0) fun r76 =>
        .leaf (r76))
      (.leaf (false))
noncomputable def top_fit (q : Option Nat) (x0 : Machine) : Option Bool := (Ttop_fit q x0).run
theorem letop_fit (k : Nat) (x0 : Machine) : Le (top_fit (some k) x0) (top_fit none x0) := (TLe.opt (lelaw18_Small k _) fun _ => (TLe.ite (TLe.opt (leref20_Right k _) fun _ => TLe.rfl) TLe.rfl))
noncomputable def Atop_fit : Arg U (Machine × Unit) := aA cMachine (aNil)
noncomputable def Rtop_fit (r : Bool) : List (V U) × List (Blk U) := ([vO cBool r], [])
noncomputable def Stop_fit : List (V U) → List (Blk U) → Option (FnOut U) := mkSpec Atop_fit bNil (fun x _ => top_fit none x.1) Rtop_fit
noncomputable def Etop_fit : Env U := { P := Try.prog, cd := cd, fns := fns19, lps := noL, frz := fun _r => false, nt := 9, n0 := 0 }
theorem runtop_fit (x : Machine × Unit) (g : Unit) : execF Etop_fit Try.f6 (Atop_fit.enc x) (bNil.enc g) = (Ttop_fit none x.1).map Rtop_fit := by kernel_rfl
theorem oktop_fit : FnOk Try.prog cd 6 Stop_fit := mk_ok (E := Etop_fit) cd_ok fns19_ok Try.func6 (by kernel_rfl) (noLoops_body (by kernel_rfl)) (aA_ok cMachine_ok (aNil_ok)) bNil_ok (T := fun x _ => Ttop_fit none x.1) (fun _ _ => rfl) runtop_fit
noncomputable def fns6 := addF 6 true Stop_fit fns19
theorem fns6_ok : ∀ f q t, fns6 f = some (q, t) → FnOk Try.prog cd f t := addF_ok oktop_fit fns19_ok
/-- emulator/mmu.Translate -/
noncomputable def Tmmu_Translate (x0 : Mmu) (x1 : Int) (x2 : Int) (x3 : Bool) : Tree (Int × Mmu × Int) :=
  .ite (!x0.on)
    (.ite (decide ((57344 : Int) ≤ (IntKind.wrap .i64 (((BitVec.ofInt 64 x2 &&& BitVec.ofInt 64 (65535 : Int)).toNat : Int)))))
      (.leaf ((IntKind.wrap .i64 ((IntKind.wrap .i64 (((BitVec.ofInt 64 x2 &&& BitVec.ofInt 64 (65535 : Int)).toNat : Int))) + (196608 : Int)), x0, (0 : Int))))
      (.leaf ((IntKind.wrap .i64 (((BitVec.ofInt 64 x2 &&& BitVec.ofInt 64 (65535 : Int)).toNat : Int)), x0, (0 : Int)))))
    (.ite (decide ((8192 : Int) = 0))
      .fail
      (.ite (decide ((8192 : Int) = 0))
        .fail
        (.ite (decide (0 ≤ IntKind.wrap .i64 (((BitVec.ofInt 64 x1 &&& BitVec.ofInt 64 (1 : Int)).toNat : Int))))
          (.ite (decide (IntKind.wrap .i64 (((BitVec.ofInt 64 x1 &&& BitVec.ofInt 64 (1 : Int)).toNat : Int)) < (2 : Int)))
            (.ite (decide (0 ≤ IntKind.wrap .i64 (((IntKind.wrap .i64 (((BitVec.ofInt 64 x2 &&& BitVec.ofInt 64 (65535 : Int)).toNat : Int)))).tdiv (8192 : Int))))
              (.ite (decide (IntKind.wrap .i64 (((IntKind.wrap .i64 (((BitVec.ofInt 64 x2 &&& BitVec.ofInt 64 (65535 : Int)).toNat : Int)))).tdiv (8192 : Int)) < (8 : Int)))
                (.opt Page (x0.pages[(IntKind.wrap .i64 (((BitVec.ofInt 64 x1 &&& BitVec.ofInt 64 (1 : Int)).toNat : Int))).toNat * 8 + (IntKind.wrap .i64 (((IntKind.wrap .i64 (((BitVec.ofInt 64 x2 &&& BitVec.ofInt 64 (65535 : Int)).toNat : Int)))).tdiv (8192 : Int))).toNat * 1]?) fun y77 =>
                  .ite (decide (y77.access = (0 : Int)))
                    (.ite (!decide ((1 : Int) = (0 : Int)))
                      (.leaf (((0 : Int), Mmu.mk x0.on x0.pages (1 : Int) (IntKind.wrap .i64 (((BitVec.ofInt 64 x2 &&& BitVec.ofInt 64 (65535 : Int)).toNat : Int))), (8 : Int))))
                      (.opt Page (x0.pages[(IntKind.wrap .i64 (((BitVec.ofInt 64 x1 &&& BitVec.ofInt 64 (1 : Int)).toNat : Int))).toNat * 8 + (IntKind.wrap .i64 (((IntKind.wrap .i64 (((BitVec.ofInt 64 x2 &&& BitVec.ofInt 64 (65535 : Int)).toNat : Int)))).tdiv (8192 : Int))).toNat * 1]?) fun y80 =>
                        .ite (y80.written)
                          (.opt Page (x0.pages[(IntKind.wrap .i64 (((BitVec.ofInt 64 x1 &&& BitVec.ofInt 64 (1 : Int)).toNat : Int))).toNat * 8 + (IntKind.wrap .i64 (((IntKind.wrap .i64 (((BitVec.ofInt 64 x2 &&& BitVec.ofInt 64 (65535 : Int)).toNat : Int)))).tdiv (8192 : Int))).toNat * 1]?) fun y81 =>
                            .opt Page ((x0.pages.set ((IntKind.wrap .i64 (((BitVec.ofInt 64 x1 &&& BitVec.ofInt 64 (1 : Int)).toNat : Int))).toNat * 8 + (IntKind.wrap .i64 (((IntKind.wrap .i64 (((BitVec.ofInt 64 x2 &&& BitVec.ofInt 64 (65535 : Int)).toNat : Int)))).tdiv (8192 : Int))).toNat * 1) (Page.mk y81.base y81.length y81.access true))[(IntKind.wrap .i64 (((BitVec.ofInt 64 x1 &&& BitVec.ofInt 64 (1 : Int)).toNat : Int))).toNat * 8 + (IntKind.wrap .i64 (((IntKind.wrap .i64 (((BitVec.ofInt 64 x2 &&& BitVec.ofInt 64 (65535 : Int)).toNat : Int)))).tdiv (8192 : Int))).toNat * 1]?) fun y83 =>
                              .ite (decide ((262144 : Int) = 0))
                                .fail
                                (.leaf ((((IntKind.wrap .i64 ((IntKind.wrap .i64 (y83.base * (64 : Int))) + (((IntKind.wrap .i64 (((BitVec.ofInt 64 x2 &&& BitVec.ofInt 64 (65535 : Int)).toNat : Int)))).tmod (8192 : Int))))).tmod (262144 : Int), Mmu.mk x0.on (x0.pages.set ((IntKind.wrap .i64 (((BitVec.ofInt 64 x1 &&& BitVec.ofInt 64 (1 : Int)).toNat : Int))).toNat * 8 + (IntKind.wrap .i64 (((IntKind.wrap .i64 (((BitVec.ofInt 64 x2 &&& BitVec.ofInt 64 (65535 : Int)).toNat : Int)))).tdiv (8192 : Int))).toNat * 1) (Page.mk y81.base y81.length y81.access true)) x0.status x0.addr, (0 : Int)))))
                          (.opt Page (x0.pages[(IntKind.wrap .i64 (((BitVec.ofInt 64 x1 &&& BitVec.ofInt 64 (1 : Int)).toNat : Int))).toNat * 8 + (IntKind.wrap .i64 (((IntKind.wrap .i64 (((BitVec.ofInt 64 x2 &&& BitVec.ofInt 64 (65535 : Int)).toNat : Int)))).tdiv (8192 : Int))).toNat * 1]?) fun y82 =>
                            .opt Page ((x0.pages.set ((IntKind.wrap .i64 (((BitVec.ofInt 64 x1 &&& BitVec.ofInt 64 (1 : Int)).toNat : Int))).toNat * 8 + (IntKind.wrap .i64 (((IntKind.wrap .i64 (((BitVec.ofInt 64 x2 &&& BitVec.ofInt 64 (65535 : Int)).toNat : Int)))).tdiv (8192 : Int))).toNat * 1) (Page.mk y82.base y82.length y82.access x3))[(IntKind.wrap .i64 (((BitVec.ofInt 64 x1 &&& BitVec.ofInt 64 (1 : Int)).toNat : Int))).toNat * 8 + (IntKind.wrap .i64 (((IntKind.wrap .i64 (((BitVec.ofInt 64 x2 &&& BitVec.ofInt 64 (65535 : Int)).toNat : Int)))).tdiv (8192 : Int))).toNat * 1]?) fun y84 =>
                              .ite (decide ((262144 : Int) = 0))
                                .fail
                                (.leaf ((((IntKind.wrap .i64 ((IntKind.wrap .i64 (y84.base * (64 : Int))) + (((IntKind.wrap .i64 (((BitVec.ofInt 64 x2 &&& BitVec.ofInt 64 (65535 : Int)).toNat : Int)))).tmod (8192 : Int))))).tmod (262144 : Int), Mmu.mk x0.on (x0.pages.set ((IntKind.wrap .i64 (((BitVec.ofInt 64 x1 &&& BitVec.ofInt 64 (1 : Int)).toNat : Int))).toNat * 8 + (IntKind.wrap .i64 (((IntKind.wrap .i64 (((BitVec.ofInt 64 x2 &&& BitVec.ofInt 64 (65535 : Int)).toNat : Int)))).tdiv (8192 : Int))).toNat * 1) (Page.mk y82.base y82.length y82.access x3)) x0.status x0.addr, (0 : Int)))))))
                    (.ite (decide ((64 : Int) = 0))
                      .fail
                      (.opt Page (x0.pages[(IntKind.wrap .i64 (((BitVec.ofInt 64 x1 &&& BitVec.ofInt 64 (1 : Int)).toNat : Int))).toNat * 8 + (IntKind.wrap .i64 (((IntKind.wrap .i64 (((BitVec.ofInt 64 x2 &&& BitVec.ofInt 64 (65535 : Int)).toNat : Int)))).tdiv (8192 : Int))).toNat * 1]?) fun y78 =>
                        .ite (decide (y78.length ≤ (IntKind.wrap .i64 (((((IntKind.wrap .i64 (((BitVec.ofInt 64 x2 &&& BitVec.ofInt 64 (65535 : Int)).toNat : Int)))).tmod (8192 : Int))).tdiv (64 : Int)))))
                          (.ite (!decide ((2 : Int) = (0 : Int)))
                            (.leaf (((0 : Int), Mmu.mk x0.on x0.pages (2 : Int) (IntKind.wrap .i64 (((BitVec.ofInt 64 x2 &&& BitVec.ofInt 64 (65535 : Int)).toNat : Int))), (8 : Int))))
                            (.opt Page (x0.pages[(IntKind.wrap .i64 (((BitVec.ofInt 64 x1 &&& BitVec.ofInt 64 (1 : Int)).toNat : Int))).toNat * 8 + (IntKind.wrap .i64 (((IntKind.wrap .i64 (((BitVec.ofInt 64 x2 &&& BitVec.ofInt 64 (65535 : Int)).toNat : Int)))).tdiv (8192 : Int))).toNat * 1]?) fun y85 =>
                              .ite (y85.written)
                                (.opt Page (x0.pages[(IntKind.wrap .i64 (((BitVec.ofInt 64 x1 &&& BitVec.ofInt 64 (1 : Int)).toNat : Int))).toNat * 8 + (IntKind.wrap .i64 (((IntKind.wrap .i64 (((BitVec.ofInt 64 x2 &&& BitVec.ofInt 64 (65535 : Int)).toNat : Int)))).tdiv (8192 : Int))).toNat * 1]?) fun y86 =>
                                  .opt Page ((x0.pages.set ((IntKind.wrap .i64 (((BitVec.ofInt 64 x1 &&& BitVec.ofInt 64 (1 : Int)).toNat : Int))).toNat * 8 + (IntKind.wrap .i64 (((IntKind.wrap .i64 (((BitVec.ofInt 64 x2 &&& BitVec.ofInt 64 (65535 : Int)).toNat : Int)))).tdiv (8192 : Int))).toNat * 1) (Page.mk y86.base y86.length y86.access true))[(IntKind.wrap .i64 (((BitVec.ofInt 64 x1 &&& BitVec.ofInt 64 (1 : Int)).toNat : Int))).toNat * 8 + (IntKind.wrap .i64 (((IntKind.wrap .i64 (((BitVec.ofInt 64 x2 &&& BitVec.ofInt 64 (65535 : Int)).toNat : Int)))).tdiv (8192 : Int))).toNat * 1]?) fun y88 =>
                                    .ite (decide ((262144 : Int) = 0))
                                      .fail
                                      (.leaf ((((IntKind.wrap .i64 ((IntKind.wrap .i64 (y88.base * (64 : Int))) + (((IntKind.wrap .i64 (((BitVec.ofInt 64 x2 &&& BitVec.ofInt 64 (65535 : Int)).toNat : Int)))).tmod (8192 : Int))))).tmod (262144 : Int), Mmu.mk x0.on (x0.pages.set ((IntKind.wrap .i64 (((BitVec.ofInt 64 x1 &&& BitVec.ofInt 64 (1 : Int)).toNat : Int))).toNat * 8 + (IntKind.wrap .i64 (((IntKind.wrap .i64 (((BitVec.ofInt 64 x2 &&& BitVec.ofInt 64 (65535 : Int)).toNat : Int)))).tdiv (8192 : Int))).toNat * 1) (Page.mk y86.base y86.length y86.access true)) x0.status x0.addr, (0 : Int)))))
                                (.opt Page (x0.pages[(IntKind.wrap .i64 (((BitVec.ofInt 64 x1 &&& BitVec.ofInt 64 (1 : Int)).toNat : Int))).toNat * 8 + (IntKind.wrap .i64 (((IntKind.wrap .i64 (((BitVec.ofInt 64 x2 &&& BitVec.ofInt 64 (65535 : Int)).toNat : Int)))).tdiv (8192 : Int))).toNat * 1]?) fun y87 =>
                                  .opt Page ((x0.pages.set ((IntKind.wrap .i64 (((BitVec.ofInt 64 x1 &&& BitVec.ofInt 64 (1 : Int)).toNat : Int))).toNat * 8 + (IntKind.wrap .i64 (((IntKind.wrap .i64 (((BitVec.ofInt 64 x2 &&& BitVec.ofInt 64 (65535 : Int)).toNat : Int)))).tdiv (8192 : Int))).toNat * 1) (Page.mk y87.base y87.length y87.access x3))[(IntKind.wrap .i64 (((BitVec.ofInt 64 x1 &&& BitVec.ofInt 64 (1 : Int)).toNat : Int))).toNat * 8 + (IntKind.wrap .i64 (((IntKind.wrap .i64 (((BitVec.ofInt 64 x2 &&& BitVec.ofInt 64 (65535 : Int)).toNat : Int)))).tdiv (8192 : Int))).toNat * 1]?) fun y89 =>
                                    .ite (decide ((262144 : Int) = 0))
                                      .fail
                                      (.leaf ((((IntKind.wrap .i64 ((IntKind.wrap .i64 (y89.base * (64 : Int))) + (((IntKind.wrap .i64 (((BitVec.ofInt 64 x2 &&& BitVec.ofInt 64 (65535 : Int)).toNat : Int)))).tmod (8192 : Int))))).tmod (262144 : Int), Mmu.mk x0.on (x0.pages.set ((IntKind.wrap .i64 (((BitVec.ofInt 64 x1 &&& BitVec.ofInt 64 (1 : Int)).toNat : Int))).toNat * 8 + (IntKind.wrap .i64 (((IntKind.wrap .i64 (((BitVec.ofInt 64 x2 &&& BitVec.ofInt 64 (65535 : Int)).toNat : Int)))).tdiv (8192 : Int))).toNat * 1) (Page.mk y87.base y87.length y87.access x3)) x0.status x0.addr, (0 : Int)))))))
                          (.ite (x3)
                            (.opt Page (x0.pages[(IntKind.wrap .i64 (((BitVec.ofInt 64 x1 &&& BitVec.ofInt 64 (1 : Int)).toNat : Int))).toNat * 8 + (IntKind.wrap .i64 (((IntKind.wrap .i64 (((BitVec.ofInt 64 x2 &&& BitVec.ofInt 64 (65535 : Int)).toNat : Int)))).tdiv (8192 : Int))).toNat * 1]?) fun y79 =>
                              .ite (!decide (y79.access = (2 : Int)))
                                (.ite (!decide ((3 : Int) = (0 : Int)))
                                  (.leaf (((0 : Int), Mmu.mk x0.on x0.pages (3 : Int) (IntKind.wrap .i64 (((BitVec.ofInt 64 x2 &&& BitVec.ofInt 64 (65535 : Int)).toNat : Int))), (8 : Int))))
                                  (.opt Page (x0.pages[(IntKind.wrap .i64 (((BitVec.ofInt 64 x1 &&& BitVec.ofInt 64 (1 : Int)).toNat : Int))).toNat * 8 + (IntKind.wrap .i64 (((IntKind.wrap .i64 (((BitVec.ofInt 64 x2 &&& BitVec.ofInt 64 (65535 : Int)).toNat : Int)))).tdiv (8192 : Int))).toNat * 1]?) fun y90 =>
                                    .ite (y90.written)
                                      (.opt Page (x0.pages[(IntKind.wrap .i64 (((BitVec.ofInt 64 x1 &&& BitVec.ofInt 64 (1 : Int)).toNat : Int))).toNat * 8 + (IntKind.wrap .i64 (((IntKind.wrap .i64 (((BitVec.ofInt 64 x2 &&& BitVec.ofInt 64 (65535 : Int)).toNat : Int)))).tdiv (8192 : Int))).toNat * 1]?) fun y91 =>
                                        .opt Page ((x0.pages.set ((IntKind.wrap .i64 (((BitVec.ofInt 64 x1 &&& BitVec.ofInt 64 (1 : Int)).toNat : Int))).toNat * 8 + (IntKind.wrap .i64 (((IntKind.wrap .i64 (((BitVec.ofInt 64 x2 &&& BitVec.ofInt 64 (65535 : Int)).toNat : Int)))).tdiv (8192 : Int))).toNat * 1) (Page.mk y91.base y91.length y91.access true))[(IntKind.wrap .i64 (((BitVec.ofInt 64 x1 &&& BitVec.ofInt 64 (1 : Int)).toNat : Int))).toNat * 8 + (IntKind.wrap .i64 (((IntKind.wrap .i64 (((BitVec.ofInt 64 x2 &&& BitVec.ofInt 64 (65535 : Int)).toNat : Int)))).tdiv (8192 : Int))).toNat * 1]?) fun y93 =>
                                          .ite (decide ((262144 : Int) = 0))
                                            .fail
                                            (.leaf ((((IntKind.wrap .i64 ((IntKind.wrap .i64 (y93.base * (64 : Int))) + (((IntKind.wrap .i64 (((BitVec.ofInt 64 x2 &&& BitVec.ofInt 64 (65535 : Int)).toNat : Int)))).tmod (8192 : Int))))).tmod (262144 : Int), Mmu.mk x0.on (x0.pages.set ((IntKind.wrap .i64 (((BitVec.ofInt 64 x1 &&& BitVec.ofInt 64 (1 : Int)).toNat : Int))).toNat * 8 + (IntKind.wrap .i64 (((IntKind.wrap .i64 (((BitVec.ofInt 64 x2 &&& BitVec.ofInt 64 (65535 : Int)).toNat : Int)))).tdiv (8192 : Int))).toNat * 1) (Page.mk y91.base y91.length y91.access true)) x0.status x0.addr, (0 : Int)))))
                                      (.opt Page (x0.pages[(IntKind.wrap .i64 (((BitVec.ofInt 64 x1 &&& BitVec.ofInt 64 (1 : Int)).toNat : Int))).toNat * 8 + (IntKind.wrap .i64 (((IntKind.wrap .i64 (((BitVec.ofInt 64 x2 &&& BitVec.ofInt 64 (65535 : Int)).toNat : Int)))).tdiv (8192 : Int))).toNat * 1]?) fun y92 =>
                                        .opt Page ((x0.pages.set ((IntKind.wrap .i64 (((BitVec.ofInt 64 x1 &&& BitVec.ofInt 64 (1 : Int)).toNat : Int))).toNat * 8 + (IntKind.wrap .i64 (((IntKind.wrap .i64 (((BitVec.ofInt 64 x2 &&& BitVec.ofInt 64 (65535 : Int)).toNat : Int)))).tdiv (8192 : Int))).toNat * 1) (Page.mk y92.base y92.length y92.access x3))[(IntKind.wrap .i64 (((BitVec.ofInt 64 x1 &&& BitVec.ofInt 64 (1 : Int)).toNat : Int))).toNat * 8 + (IntKind.wrap .i64 (((IntKind.wrap .i64 (((BitVec.ofInt 64 x2 &&& BitVec.ofInt 64 (65535 : Int)).toNat : Int)))).tdiv (8192 : Int))).toNat * 1]?) fun y94 =>
                                          .ite (decide ((262144 : Int) = 0))
                                            .fail
                                            (.leaf ((((IntKind.wrap .i64 ((IntKind.wrap .i64 (y94.base * (64 : Int))) + (((IntKind.wrap .i64 (((BitVec.ofInt 64 x2 &&& BitVec.ofInt 64 (65535 : Int)).toNat : Int)))).tmod (8192 : Int))))).tmod (262144 : Int), Mmu.mk x0.on (x0.pages.set ((IntKind.wrap .i64 (((BitVec.ofInt 64 x1 &&& BitVec.ofInt 64 (1 : Int)).toNat : Int))).toNat * 8 + (IntKind.wrap .i64 (((IntKind.wrap .i64 (((BitVec.ofInt 64 x2 &&& BitVec.ofInt 64 (65535 : Int)).toNat : Int)))).tdiv (8192 : Int))).toNat * 1) (Page.mk y92.base y92.length y92.access x3)) x0.status x0.addr, (0 : Int)))))))
                                (.ite (!decide ((0 : Int) = (0 : Int)))
                                  (.leaf (((0 : Int), Mmu.mk x0.on x0.pages (0 : Int) (IntKind.wrap .i64 (((BitVec.ofInt 64 x2 &&& BitVec.ofInt 64 (65535 : Int)).toNat : Int))), (8 : Int))))
                                  (.opt Page (x0.pages[(IntKind.wrap .i64 (((BitVec.ofInt 64 x1 &&& BitVec.ofInt 64 (1 : Int)).toNat : Int))).toNat * 8 + (IntKind.wrap .i64 (((IntKind.wrap .i64 (((BitVec.ofInt 64 x2 &&& BitVec.ofInt 64 (65535 : Int)).toNat : Int)))).tdiv (8192 : Int))).toNat * 1]?) fun y95 =>
                                    .ite (y95.written)
                                      (.opt Page (x0.pages[(IntKind.wrap .i64 (((BitVec.ofInt 64 x1 &&& BitVec.ofInt 64 (1 : Int)).toNat : Int))).toNat * 8 + (IntKind.wrap .i64 (((IntKind.wrap .i64 (((BitVec.ofInt 64 x2 &&& BitVec.ofInt 64 (65535 : Int)).toNat : Int)))).tdiv (8192 : Int))).toNat * 1]?) fun y96 =>
                                        .opt Page ((x0.pages.set ((IntKind.wrap .i64 (((BitVec.ofInt 64 x1 &&& BitVec.ofInt 64 (1 : Int)).toNat : Int))).toNat * 8 + (IntKind.wrap .i64 (((IntKind.wrap .i64 (((BitVec.ofInt 64 x2 &&& BitVec.ofInt 64 (65535 : Int)).toNat : Int)))).tdiv (8192 : Int))).toNat * 1) (Page.mk y96.base y96.length y96.access true))[(IntKind.wrap .i64 (((BitVec.ofInt 64 x1 &&& BitVec.ofInt 64 (1 : Int)).toNat : Int))).toNat * 8 + (IntKind.wrap .i64 (((IntKind.wrap .i64 (((BitVec.ofInt 64 x2 &&& BitVec.ofInt 64 (65535 : Int)).toNat : Int)))).tdiv (8192 : Int))).toNat * 1]?) fun y98 =>
                                          .ite (decide ((262144 : Int) = 0))
                                            .fail
                                            (.leaf ((((IntKind.wrap .i64 ((IntKind.wrap .i64 (y98.base * (64 : Int))) + (((IntKind.wrap .i64 (((BitVec.ofInt 64 x2 &&& BitVec.ofInt 64 (65535 : Int)).toNat : Int)))).tmod (8192 : Int))))).tmod (262144 : Int), Mmu.mk x0.on (x0.pages.set ((IntKind.wrap .i64 (((BitVec.ofInt 64 x1 &&& BitVec.ofInt 64 (1 : Int)).toNat : Int))).toNat * 8 + (IntKind.wrap .i64 (((IntKind.wrap .i64 (((BitVec.ofInt 64 x2 &&& BitVec.ofInt 64 (65535 : Int)).toNat : Int)))).tdiv (8192 : Int))).toNat * 1) (Page.mk y96.base y96.length y96.access true)) x0.status x0.addr, (0 : Int)))))
                                      (.opt Page (x0.pages[(IntKind.wrap .i64 (((BitVec.ofInt 64 x1 &&& BitVec.ofInt 64 (1 : Int)).toNat : Int))).toNat * 8 + (IntKind.wrap .i64 (((IntKind.wrap .i64 (((BitVec.ofInt 64 x2 &&& BitVec.ofInt 64 (65535 : Int)).toNat : Int)))).tdiv (8192 : Int))).toNat * 1]?) fun y97 =>
                                        .opt Page ((x0.pages.set ((IntKind.wrap .i64 (((BitVec.ofInt 64 x1 &&& BitVec.ofInt 64 (1 : Int)).toNat : Int))).toNat * 8 + (IntKind.wrap .i64 (((IntKind.wrap .i64 (((BitVec.ofInt 64 x2 &&& BitVec.ofInt 64 (65535 : Int)).toNat : Int)))).tdiv (8192 : Int))).toNat * 1) (Page.mk y97.base y97.length y97.access x3))[(IntKind.wrap .i64 (((BitVec.ofInt 64 x1 &&& BitVec.ofInt 64 (1 : Int)).toNat : Int))).toNat * 8 + (IntKind.wrap .i64 (((IntKind.wrap .i64 (((BitVec.ofInt 64 x2 &&& BitVec.ofInt 64 (65535 : Int)).toNat : Int)))).tdiv (8192 : Int))).toNat * 1]?) fun y99 =>
                                          .ite (decide ((262144 : Int) = 0))
                                            .fail
                                            (.leaf ((((IntKind.wrap .i64 ((IntKind.wrap .i64 (y99.base * (64 : Int))) + (((IntKind.wrap .i64 (((BitVec.ofInt 64 x2 &&& BitVec.ofInt 64 (65535 : Int)).toNat : Int)))).tmod (8192 : Int))))).tmod (262144 : Int), Mmu.mk x0.on (x0.pages.set ((IntKind.wrap .i64 (((BitVec.ofInt 64 x1 &&& BitVec.ofInt 64 (1 : Int)).toNat : Int))).toNat * 8 + (IntKind.wrap .i64 (((IntKind.wrap .i64 (((BitVec.ofInt 64 x2 &&& BitVec.ofInt 64 (65535 : Int)).toNat : Int)))).tdiv (8192 : Int))).toNat * 1) (Page.mk y97.base y97.length y97.access x3)) x0.status x0.addr, (0 : Int))))))))
                            (.ite (!decide ((0 : Int) = (0 : Int)))
                              (.leaf (((0 : Int), Mmu.mk x0.on x0.pages (0 : Int) (IntKind.wrap .i64 (((BitVec.ofInt 64 x2 &&& BitVec.ofInt 64 (65535 : Int)).toNat : Int))), (8 : Int))))
                              (.opt Page (x0.pages[(IntKind.wrap .i64 (((BitVec.ofInt 64 x1 &&& BitVec.ofInt 64 (1 : Int)).toNat : Int))).toNat * 8 + (IntKind.wrap .i64 (((IntKind.wrap .i64 (((BitVec.ofInt 64 x2 &&& BitVec.ofInt 64 (65535 : Int)).toNat : Int)))).tdiv (8192 : Int))).toNat * 1]?) fun y100 =>
                                .ite (y100.written)
                                  (.opt Page (x0.pages[(IntKind.wrap .i64 (((BitVec.ofInt 64 x1 &&& BitVec.ofInt 64 (1 : Int)).toNat : Int))).toNat * 8 + (IntKind.wrap .i64 (((IntKind.wrap .i64 (((BitVec.ofInt 64 x2 &&& BitVec.ofInt 64 (65535 : Int)).toNat : Int)))).tdiv (8192 : Int))).toNat * 1]?) fun y101 =>
                                    .opt Page ((x0.pages.set ((IntKind.wrap .i64 (((BitVec.ofInt 64 x1 &&& BitVec.ofInt 64 (1 : Int)).toNat : Int))).toNat * 8 + (IntKind.wrap .i64 (((IntKind.wrap .i64 (((BitVec.ofInt 64 x2 &&& BitVec.ofInt 64 (65535 : Int)).toNat : Int)))).tdiv (8192 : Int))).toNat * 1) (Page.mk y101.base y101.length y101.access true))[(IntKind.wrap .i64 (((BitVec.ofInt 64 x1 &&& BitVec.ofInt 64 (1 : Int)).toNat : Int))).toNat * 8 + (IntKind.wrap .i64 (((IntKind.wrap .i64 (((BitVec.ofInt 64 x2 &&& BitVec.ofInt 64 (65535 : Int)).toNat : Int)))).tdiv (8192 : Int))).toNat * 1]?) fun y103 =>
                                      .ite (decide ((262144 : Int) = 0))
                                        .fail
                                        (.leaf ((((IntKind.wrap .i64 ((IntKind.wrap .i64 (y103.base * (64 : Int))) + (((IntKind.wrap .i64 (((BitVec.ofInt 64 x2 &&& BitVec.ofInt 64 (65535 : Int)).toNat : Int)))).tmod (8192 : Int))))).tmod (262144 : Int), Mmu.mk x0.on (x0.pages.set ((IntKind.wrap .i64 (((BitVec.ofInt 64 x1 &&& BitVec.ofInt 64 (1 : Int)).toNat : Int))).toNat * 8 + (IntKind.wrap .i64 (((IntKind.wrap .i64 (((BitVec.ofInt 64 x2 &&& BitVec.ofInt 64 (65535 : Int)).toNat : Int)))).tdiv (8192 : Int))).toNat * 1) (Page.mk y101.base y101.length y101.access true)) x0.status x0.addr, (0 : Int)))))
                                  (.opt Page (x0.pages[(IntKind.wrap .i64 (((BitVec.ofInt 64 x1 &&& BitVec.ofInt 64 (1 : Int)).toNat : Int))).toNat * 8 + (IntKind.wrap .i64 (((IntKind.wrap .i64 (((BitVec.ofInt 64 x2 &&& BitVec.ofInt 64 (65535 : Int)).toNat : Int)))).tdiv (8192 : Int))).toNat * 1]?) fun y102 =>
                                    .opt Page ((x0.pages.set ((IntKind.wrap .i64 (((BitVec.ofInt 64 x1 &&& BitVec.ofInt 64 (1 : Int)).toNat : Int))).toNat * 8 + (IntKind.wrap .i64 (((IntKind.wrap .i64 (((BitVec.ofInt 64 x2 &&& BitVec.ofInt 64 (65535 : Int)).toNat : Int)))).tdiv (8192 : Int))).toNat * 1) (Page.mk y102.base y102.length y102.access x3))[(IntKind.wrap .i64 (((BitVec.ofInt 64 x1 &&& BitVec.ofInt 64 (1 : Int)).toNat : Int))).toNat * 8 + (IntKind.wrap .i64 (((IntKind.wrap .i64 (((BitVec.ofInt 64 x2 &&& BitVec.ofInt 64 (65535 : Int)).toNat : Int)))).tdiv (8192 : Int))).toNat * 1]?) fun y104 =>
                                      .ite (decide ((262144 : Int) = 0))
                                        .fail
                                        (.leaf ((((IntKind.wrap .i64 ((IntKind.wrap .i64 (y104.base * (64 : Int))) + (((IntKind.wrap .i64 (((BitVec.ofInt 64 x2 &&& BitVec.ofInt 64 (65535 : Int)).toNat : Int)))).tmod (8192 : Int))))).tmod (262144 : Int), Mmu.mk x0.on (x0.pages.set ((IntKind.wrap .i64 (((BitVec.ofInt 64 x1 &&& BitVec.ofInt 64 (1 : Int)).toNat : Int))).toNat * 8 + (IntKind.wrap .i64 (((IntKind.wrap .i64 (((BitVec.ofInt 64 x2 &&& BitVec.ofInt 64 (65535 : Int)).toNat : Int)))).tdiv (8192 : Int))).toNat * 1) (Page.mk y102.base y102.length y102.access x3)) x0.status x0.addr, (0 : Int)))))))))))
                .fail)
              .fail)
            .fail)
          .fail)))
noncomputable def mmu_Translate (x0 : Mmu) (x1 : Int) (x2 : Int) (x3 : Bool) : Option (Int × Mmu × Int) := (Tmmu_Translate x0 x1 x2 x3).run
noncomputable def Ammu_Translate : Arg U (Mmu × Int × Int × Bool × Unit) := aA cMmu (aO (cInt .i64) (aO (cInt .i64) (aO cBool (aNil))))
noncomputable def Rmmu_Translate (r : (Int × Mmu × Int)) : List (V U) × List (Blk U) := ([vO (cInt .i64) r.1, vA cMmu r.2.1, vO (cInt .i64) r.2.2], [])
noncomputable def Smmu_Translate : List (V U) → List (Blk U) → Option (FnOut U) := mkSpec Ammu_Translate bNil (fun x _ => mmu_Translate x.1 x.2.1 x.2.2.1 x.2.2.2.1) Rmmu_Translate
noncomputable def Emmu_Translate : Env U := { P := Try.prog, cd := cd, fns := fns6, lps := noL, frz := fun _r => false, nt := 83, n0 := 0 }
theorem runmmu_Translate (x : Mmu × Int × Int × Bool × Unit) (g : Unit) : execF Emmu_Translate Try.f12 (Ammu_Translate.enc x) (bNil.enc g) = (Tmmu_Translate x.1 x.2.1 x.2.2.1 x.2.2.2.1).map Rmmu_Translate := by kernel_rfl
theorem okmmu_Translate : FnOk Try.prog cd 12 Smmu_Translate := mk_ok (E := Emmu_Translate) cd_ok fns6_ok Try.func12 (by kernel_rfl) (noLoops_body (by kernel_rfl)) (aA_ok cMmu_ok (aO_ok (cInt_ok .i64) (aO_ok (cInt_ok .i64) (aO_ok cBool_ok (aNil_ok))))) bNil_ok (T := fun x _ => Tmmu_Translate x.1 x.2.1 x.2.2.1 x.2.2.2.1) (fun _ _ => rfl) runmmu_Translate
noncomputable def fns12 := addF 12 true Smmu_Translate fns6
theorem fns12_ok : ∀ f q t, fns12 f = some (q, t) → FnOk Try.prog cd f t := addF_ok okmmu_Translate fns6_ok
/-- emulator/pipe.Write -/
noncomputable def Tpipe_Write (x0 : Pipe) (x1 : (List UInt8)) : Tree (Pipe × Int × Int) :=
  .ite (decide (x0.writers = (0 : Int)))
    (.leaf ((Pipe.mk ([]) 0 0, (0 : Int), (18 : Int))))
    (.ite (decide (x0.readers = (0 : Int)))
      (.leaf ((Pipe.mk ([]) 0 0, (0 : Int), (19 : Int))))
      (.ite (!decide (x1 = ([] : List UInt8)))
        (.ite (decide ((if IntKind.wrap .i64 ((64 : Int) - (x0.data.length : Int)) < (x1.length : Int) then IntKind.wrap .i64 ((64 : Int) - (x0.data.length : Int)) else (x1.length : Int)) = (0 : Int)))
          (.leaf ((Pipe.mk ([]) 0 0, (0 : Int), (20 : Int))))
          (.ite (decide (0 ≤ (if IntKind.wrap .i64 ((64 : Int) - (x0.data.length : Int)) < (x1.length : Int) then IntKind.wrap .i64 ((64 : Int) - (x0.data.length : Int)) else (x1.length : Int))))
            (.ite (decide ((if IntKind.wrap .i64 ((64 : Int) - (x0.data.length : Int)) < (x1.length : Int) then IntKind.wrap .i64 ((64 : Int) - (x0.data.length : Int)) else (x1.length : Int)) ≤ ((x1.length : Nat) : Int)))
              (.ite (decide (x0.data.length + ((x1.drop (0)).take (((if IntKind.wrap .i64 ((64 : Int) - (x0.data.length : Int)) < (x1.length : Int) then IntKind.wrap .i64 ((64 : Int) - (x0.data.length : Int)) else (x1.length : Int))).toNat - 0)).length ≤ 9223372036854775807))
                (.leaf ((Pipe.mk (x0.data ++ ((x1.drop (0)).take (((if IntKind.wrap .i64 ((64 : Int) - (x0.data.length : Int)) < (x1.length : Int) then IntKind.wrap .i64 ((64 : Int) - (x0.data.length : Int)) else (x1.length : Int))).toNat - 0))) x0.readers x0.writers, (if IntKind.wrap .i64 ((64 : Int) - (x0.data.length : Int)) < (x1.length : Int) then IntKind.wrap .i64 ((64 : Int) - (x0.data.length : Int)) else (x1.length : Int)), (0 : Int))))
                .fail)
              .fail)
            .fail))
        (.ite (decide (0 ≤ (if IntKind.wrap .i64 ((64 : Int) - (x0.data.length : Int)) < (x1.length : Int) then IntKind.wrap .i64 ((64 : Int) - (x0.data.length : Int)) else (x1.length : Int))))
          (.ite (decide ((if IntKind.wrap .i64 ((64 : Int) - (x0.data.length : Int)) < (x1.length : Int) then IntKind.wrap .i64 ((64 : Int) - (x0.data.length : Int)) else (x1.length : Int)) ≤ ((x1.length : Nat) : Int)))
            (.ite (decide (x0.data.length + ((x1.drop (0)).take (((if IntKind.wrap .i64 ((64 : Int) - (x0.data.length : Int)) < (x1.length : Int) then IntKind.wrap .i64 ((64 : Int) - (x0.data.length : Int)) else (x1.length : Int))).toNat - 0)).length ≤ 9223372036854775807))
              (.leaf ((Pipe.mk (x0.data ++ ((x1.drop (0)).take (((if IntKind.wrap .i64 ((64 : Int) - (x0.data.length : Int)) < (x1.length : Int) then IntKind.wrap .i64 ((64 : Int) - (x0.data.length : Int)) else (x1.length : Int))).toNat - 0))) x0.readers x0.writers, (if IntKind.wrap .i64 ((64 : Int) - (x0.data.length : Int)) < (x1.length : Int) then IntKind.wrap .i64 ((64 : Int) - (x0.data.length : Int)) else (x1.length : Int)), (0 : Int))))
              .fail)
            .fail)
          .fail)))
noncomputable def pipe_Write (x0 : Pipe) (x1 : (List UInt8)) : Option (Pipe × Int × Int) := (Tpipe_Write x0 x1).run
noncomputable def Apipe_Write : Arg U (Pipe × (List UInt8) × Unit) := aA cPipe (aO cStr (aNil))
noncomputable def Rpipe_Write (r : (Pipe × Int × Int)) : List (V U) × List (Blk U) := ([vA cPipe r.1, vO (cInt .i64) r.2.1, vO (cInt .i64) r.2.2], [])
noncomputable def Spipe_Write : List (V U) → List (Blk U) → Option (FnOut U) := mkSpec Apipe_Write bNil (fun x _ => pipe_Write x.1 x.2.1) Rpipe_Write
noncomputable def Epipe_Write : Env U := { P := Try.prog, cd := cd, fns := fns12, lps := noL, frz := fun _r => false, nt := 42, n0 := 0 }
theorem runpipe_Write (x : Pipe × (List UInt8) × Unit) (g : Unit) : execF Epipe_Write Try.f28 (Apipe_Write.enc x) (bNil.enc g) = (Tpipe_Write x.1 x.2.1).map Rpipe_Write := by kernel_rfl
theorem okpipe_Write : FnOk Try.prog cd 28 Spipe_Write := mk_ok (E := Epipe_Write) cd_ok fns12_ok Try.func28 (by kernel_rfl) (noLoops_body (by kernel_rfl)) (aA_ok cPipe_ok (aO_ok cStr_ok (aNil_ok))) bNil_ok (T := fun x _ => Tpipe_Write x.1 x.2.1) (fun _ _ => rfl) runpipe_Write
noncomputable def fns28 := addF 28 true Spipe_Write fns12
theorem fns28_ok : ∀ f q t, fns28 f = some (q, t) → FnOk Try.prog cd f t := addF_ok okpipe_Write fns12_ok
/-- emulator/pipe.New -/
noncomputable def Tpipe_New  : Tree Pipe :=
  .leaf (Pipe.mk ([]) (1 : Int) (1 : Int))
noncomputable def pipe_New  : Option Pipe := (Tpipe_New ).run
noncomputable def Apipe_New : Arg U (Unit) := aNil
noncomputable def Rpipe_New (r : Pipe) : List (V U) × List (Blk U) := ([vA cPipe r], [])
noncomputable def Spipe_New : List (V U) → List (Blk U) → Option (FnOut U) := mkSpec Apipe_New bNil (fun x _ => pipe_New ) Rpipe_New
noncomputable def Epipe_New : Env U := { P := Try.prog, cd := cd, fns := fns28, lps := noL, frz := fun _r => false, nt := 2, n0 := 0 }
theorem runpipe_New (x : Unit) (g : Unit) : execF Epipe_New Try.f29 (Apipe_New.enc x) (bNil.enc g) = (Tpipe_New ).map Rpipe_New := by kernel_rfl
theorem okpipe_New : FnOk Try.prog cd 29 Spipe_New := mk_ok (E := Epipe_New) cd_ok fns28_ok Try.func29 (by kernel_rfl) (noLoops_body (by kernel_rfl)) (aNil_ok) bNil_ok (T := fun x _ => Tpipe_New ) (fun _ _ => rfl) runpipe_New
noncomputable def fns29 := addF 29 true Spipe_New fns28
theorem fns29_ok : ∀ f q t, fns29 f = some (q, t) → FnOk Try.prog cd f t := addF_ok okpipe_New fns28_ok
/-- emulator/pipe.Read -/
noncomputable def Tpipe_Read (x0 : Pipe) (x1 : Int) : Tree (Pipe × (List UInt8) × Int) :=
  .ite (decide (x1 < (0 : Int)))
    (.leaf ((Pipe.mk ([]) 0 0, ([] : List UInt8), (1 : Int))))
    (.ite (decide (x0.readers = (0 : Int)))
      (.leaf ((Pipe.mk ([]) 0 0, ([] : List UInt8), (18 : Int))))
      (.ite (decide ((0 : Int) < x1))
        (.ite (decide (x0.data = ([] : List UInt8)))
          (.ite (decide ((0 : Int) < x0.writers))
            (.leaf ((Pipe.mk ([]) 0 0, ([] : List UInt8), (20 : Int))))
            (.ite (decide (0 ≤ (if (x0.data.length : Int) < x1 then (x0.data.length : Int) else x1)))
              (.ite (decide ((if (x0.data.length : Int) < x1 then (x0.data.length : Int) else x1) ≤ ((x0.data.length : Nat) : Int)))
                (.ite (decide (0 ≤ (if (x0.data.length : Int) < x1 then (x0.data.length : Int) else x1)))
                  (.ite (decide ((if (x0.data.length : Int) < x1 then (x0.data.length : Int) else x1) ≤ ((x0.data.length : Nat) : Int)))
                    (.leaf ((Pipe.mk ((x0.data.drop (((if (x0.data.length : Int) < x1 then (x0.data.length : Int) else x1)).toNat)).take (x0.data.length - ((if (x0.data.length : Int) < x1 then (x0.data.length : Int) else x1)).toNat)) x0.readers x0.writers, (x0.data.drop (0)).take (((if (x0.data.length : Int) < x1 then (x0.data.length : Int) else x1)).toNat - 0), (0 : Int))))
                    .fail)
                  .fail)
                .fail)
              .fail))
          (.ite (decide (0 ≤ (if (x0.data.length : Int) < x1 then (x0.data.length : Int) else x1)))
            (.ite (decide ((if (x0.data.length : Int) < x1 then (x0.data.length : Int) else x1) ≤ ((x0.data.length : Nat) : Int)))
              (.ite (decide (0 ≤ (if (x0.data.length : Int) < x1 then (x0.data.length : Int) else x1)))
                (.ite (decide ((if (x0.data.length : Int) < x1 then (x0.data.length : Int) else x1) ≤ ((x0.data.length : Nat) : Int)))
                  (.leaf ((Pipe.mk ((x0.data.drop (((if (x0.data.length : Int) < x1 then (x0.data.length : Int) else x1)).toNat)).take (x0.data.length - ((if (x0.data.length : Int) < x1 then (x0.data.length : Int) else x1)).toNat)) x0.readers x0.writers, (x0.data.drop (0)).take (((if (x0.data.length : Int) < x1 then (x0.data.length : Int) else x1)).toNat - 0), (0 : Int))))
                  .fail)
                .fail)
              .fail)
            .fail))
        (.ite (decide (0 ≤ (if (x0.data.length : Int) < x1 then (x0.data.length : Int) else x1)))
          (.ite (decide ((if (x0.data.length : Int) < x1 then (x0.data.length : Int) else x1) ≤ ((x0.data.length : Nat) : Int)))
            (.ite (decide (0 ≤ (if (x0.data.length : Int) < x1 then (x0.data.length : Int) else x1)))
              (.ite (decide ((if (x0.data.length : Int) < x1 then (x0.data.length : Int) else x1) ≤ ((x0.data.length : Nat) : Int)))
                (.leaf ((Pipe.mk ((x0.data.drop (((if (x0.data.length : Int) < x1 then (x0.data.length : Int) else x1)).toNat)).take (x0.data.length - ((if (x0.data.length : Int) < x1 then (x0.data.length : Int) else x1)).toNat)) x0.readers x0.writers, (x0.data.drop (0)).take (((if (x0.data.length : Int) < x1 then (x0.data.length : Int) else x1)).toNat - 0), (0 : Int))))
                .fail)
              .fail)
            .fail)
          .fail)))
noncomputable def pipe_Read (x0 : Pipe) (x1 : Int) : Option (Pipe × (List UInt8) × Int) := (Tpipe_Read x0 x1).run
noncomputable def Apipe_Read : Arg U (Pipe × Int × Unit) := aA cPipe (aO (cInt .i64) (aNil))
noncomputable def Rpipe_Read (r : (Pipe × (List UInt8) × Int)) : List (V U) × List (Blk U) := ([vA cPipe r.1, vO cStr r.2.1, vO (cInt .i64) r.2.2], [])
noncomputable def Spipe_Read : List (V U) → List (Blk U) → Option (FnOut U) := mkSpec Apipe_Read bNil (fun x _ => pipe_Read x.1 x.2.1) Rpipe_Read
noncomputable def Epipe_Read : Env U := { P := Try.prog, cd := cd, fns := fns29, lps := noL, frz := fun _r => false, nt := 47, n0 := 0 }
theorem runpipe_Read (x : Pipe × Int × Unit) (g : Unit) : execF Epipe_Read Try.f30 (Apipe_Read.enc x) (bNil.enc g) = (Tpipe_Read x.1 x.2.1).map Rpipe_Read := by kernel_rfl
theorem okpipe_Read : FnOk Try.prog cd 30 Spipe_Read := mk_ok (E := Epipe_Read) cd_ok fns29_ok Try.func30 (by kernel_rfl) (noLoops_body (by kernel_rfl)) (aA_ok cPipe_ok (aO_ok (cInt_ok .i64) (aNil_ok))) bNil_ok (T := fun x _ => Tpipe_Read x.1 x.2.1) (fun _ _ => rfl) runpipe_Read
noncomputable def fns30 := addF 30 true Spipe_Read fns29
theorem fns30_ok : ∀ f q t, fns30 f = some (q, t) → FnOk Try.prog cd f t := addF_ok okpipe_Read fns29_ok
/-- emulator/radix.known -/
noncomputable def Tradix_known (x0 : Int) : Tree Bool :=
  .ite (decide (x0 = (8 : Int)))
    (.leaf (true))
    (.ite (decide (x0 = (10 : Int)))
      (.leaf (true))
      (.leaf (decide (x0 = (16 : Int)))))
noncomputable def radix_known (x0 : Int) : Option Bool := (Tradix_known x0).run
noncomputable def Aradix_known : Arg U (Int × Unit) := aO (cInt .i64) (aNil)
noncomputable def Rradix_known (r : Bool) : List (V U) × List (Blk U) := ([vO cBool r], [])
noncomputable def Sradix_known : List (V U) → List (Blk U) → Option (FnOut U) := mkSpec Aradix_known bNil (fun x _ => radix_known x.1) Rradix_known
noncomputable def Eradix_known : Env U := { P := Try.prog, cd := cd, fns := fns30, lps := noL, frz := fun _r => false, nt := 13, n0 := 0 }
theorem runradix_known (x : Int × Unit) (g : Unit) : execF Eradix_known Try.f52 (Aradix_known.enc x) (bNil.enc g) = (Tradix_known x.1).map Rradix_known := by kernel_rfl
theorem okradix_known : FnOk Try.prog cd 52 Sradix_known := mk_ok (E := Eradix_known) cd_ok fns30_ok Try.func52 (by kernel_rfl) (noLoops_body (by kernel_rfl)) (aO_ok (cInt_ok .i64) (aNil_ok)) bNil_ok (T := fun x _ => Tradix_known x.1) (fun _ _ => rfl) runradix_known
noncomputable def fns52 := addF 52 true Sradix_known fns30
theorem fns52_ok : ∀ f q t, fns52 f = some (q, t) → FnOk Try.prog cd f t := addF_ok okradix_known fns30_ok
/-- emulator/radix.unsigned -/
structure Sradix_unsigned_0 where
  t0 : Int
  t1 : Int
  t5 : (List UInt8)
noncomputable def Wradix_unsigned_0 (s : Sradix_unsigned_0) : Tree (Sradix_unsigned_0 ⊕ (List UInt8)) :=
  .ite (decide ((IntKind.wrap .u64 s.t1) = 0))
    .fail
    (.ite (decide (0 ≤ (s.t0).tmod (IntKind.wrap .u64 s.t1)))
      (.ite (decide ((s.t0).tmod (IntKind.wrap .u64 s.t1) ≤ ((([48, 49, 50, 51, 52, 53, 54, 55, 56, 57, 97, 98, 99, 100, 101, 102] : List UInt8).length : Nat) : Int)))
        (.ite (decide (0 ≤ (1 : Int)))
          (.ite (decide ((1 : Int) ≤ ((((([48, 49, 50, 51, 52, 53, 54, 55, 56, 57, 97, 98, 99, 100, 101, 102] : List UInt8).drop (((s.t0).tmod (IntKind.wrap .u64 s.t1)).toNat)).take (([48, 49, 50, 51, 52, 53, 54, 55, 56, 57, 97, 98, 99, 100, 101, 102] : List UInt8).length - ((s.t0).tmod (IntKind.wrap .u64 s.t1)).toNat)).length : Nat) : Int)))
            (.ite (decide (((((([48, 49, 50, 51, 52, 53, 54, 55, 56, 57, 97, 98, 99, 100, 101, 102] : List UInt8).drop (((s.t0).tmod (IntKind.wrap .u64 s.t1)).toNat)).take (([48, 49, 50, 51, 52, 53, 54, 55, 56, 57, 97, 98, 99, 100, 101, 102] : List UInt8).length - ((s.t0).tmod (IntKind.wrap .u64 s.t1)).toNat)).drop (0)).take (((1 : Int)).toNat - 0)).length + s.t5.length ≤ 9223372036854775807))
              (.ite (decide ((IntKind.wrap .u64 s.t1) = 0))
                .fail
                (.ite (decide ((IntKind.wrap .u64 ((s.t0).tdiv (IntKind.wrap .u64 s.t1))) = (0 : Int)))
                  (.leaf (.inr (((((([48, 49, 50, 51, 52, 53, 54, 55, 56, 57, 97, 98, 99, 100, 101, 102] : List UInt8).drop (((s.t0).tmod (IntKind.wrap .u64 s.t1)).toNat)).take (([48, 49, 50, 51, 52, 53, 54, 55, 56, 57, 97, 98, 99, 100, 101, 102] : List UInt8).length - ((s.t0).tmod (IntKind.wrap .u64 s.t1)).toNat)).drop (0)).take (((1 : Int)).toNat - 0)) ++ s.t5)))
                  (.leaf (.inl (Sradix_unsigned_0.mk (IntKind.wrap .u64 ((s.t0).tdiv (IntKind.wrap .u64 s.t1))) s.t1 (((((([48, 49, 50, 51, 52, 53, 54, 55, 56, 57, 97, 98, 99, 100, 101, 102] : List UInt8).drop (((s.t0).tmod (IntKind.wrap .u64 s.t1)).toNat)).take (([48, 49, 50, 51, 52, 53, 54, 55, 56, 57, 97, 98, 99, 100, 101, 102] : List UInt8).length - ((s.t0).tmod (IntKind.wrap .u64 s.t1)).toNat)).drop (0)).take (((1 : Int)).toNat - 0)) ++ s.t5))))))
              .fail)
            .fail)
          .fail)
        .fail)
      .fail)
noncomputable def Lradix_unsigned_0 (q : Option Nat) (s : Sradix_unsigned_0) : Option (List UInt8) := limQ q (fun s => (Wradix_unsigned_0 s).run) s
theorem leLradix_unsigned_0 (k : Nat) (s : Sradix_unsigned_0) : Le (Lradix_unsigned_0 (some k) s) (Lradix_unsigned_0 none s) := limQ_le (fun _ => Le.rfl) s
noncomputable def Tradix_unsigned (q : Option Nat) (x0 : Int) (x1 : Int) : Tree (List UInt8) :=
  .opt (List UInt8) (Lradix_unsigned_0 q (Sradix_unsigned_0.mk x0 x1 ([] : List UInt8))) fun l105 =>
    .leaf (l105)
noncomputable def radix_unsigned (q : Option Nat) (x0 : Int) (x1 : Int) : Option (List UInt8) := (Tradix_unsigned q x0 x1).run
theorem leradix_unsigned (k : Nat) (x0 : Int) (x1 : Int) : Le (radix_unsigned (some k) x0 x1) (radix_unsigned none x0 x1) := (TLe.opt (leLradix_unsigned_0 k _) fun _ => TLe.rfl)
noncomputable def Aradix_unsigned : Arg U (Int × Int × Unit) := aO (cInt .u64) (aO (cInt .i64) (aNil))
noncomputable def Rradix_unsigned (r : (List UInt8)) : List (V U) × List (Blk U) := ([vO cStr r], [])
noncomputable def Sradix_unsigned : List (V U) → List (Blk U) → Option (FnOut U) := mkSpec Aradix_unsigned bNil (fun x _ => radix_unsigned none x.1 x.2.1) Rradix_unsigned
noncomputable def Pradix_unsigned_0 (x : (Int × Unit) × (Int × Unit) × ((List UInt8) × Unit) × Unit) (_g : Unit) : Sradix_unsigned_0 := Sradix_unsigned_0.mk x.1.1 x.2.1.1 x.2.2.1.1
noncomputable def tAradix_unsigned_0 : Tms U ((Int × Unit) × (Int × Unit) × ((List UInt8) × Unit) × Unit) := tO 0 (cPair (cInt .u64) (cUnit)) (tO 1 (cPair (cInt .i64) (cUnit)) (tO 5 (cPair cStr (cUnit)) (tNil)))
noncomputable def tBradix_unsigned_0 : Bls U (Unit) := bNil
noncomputable def eSradix_unsigned_0 (s : Sradix_unsigned_0) : St U := { tm := [(0, .v (vO (cPair (cInt .u64) (cUnit)) (s.t0, ()))), (1, .v (vO (cPair (cInt .i64) (cUnit)) (s.t1, ()))), (5, .v (vO (cPair cStr (cUnit)) (s.t5, ())))], hp := [] }
noncomputable def xSradix_unsigned_0 (r : (List UInt8)) : Ex × St U := (.ret, { tm := [(4, .v (vO (cPair cStr (cUnit)) (r, ())))], hp := [] })
noncomputable def xTradix_unsigned_0 (r : (List UInt8)) : Tree (Ex × St U) := .leaf (xSradix_unsigned_0 r)
noncomputable def hradix_unsigned_0 : Hd := { keep := [0, 1, 5], xkeep := [4], own := false }
noncomputable def Eradix_unsigned : Env U := { P := Try.prog, cd := cd, fns := fns52, lps := (addL 0 hradix_unsigned_0 (mkLoop tAradix_unsigned_0 tBradix_unsigned_0 Pradix_unsigned_0 (Lradix_unsigned_0 none) xTradix_unsigned_0) noL), frz := fun _r => false, nt := 21, n0 := 0 }
noncomputable def Bradix_unsigned_0 : Code := (loopAt (Try.f53.body.getD .skip) 0 0).getD .skip
theorem roundradix_unsigned_0 (s : Sradix_unsigned_0) : round Eradix_unsigned hradix_unsigned_0 Bradix_unsigned_0 0 (eSradix_unsigned_0 s) = (Wradix_unsigned_0 s).map (sumE eSradix_unsigned_0 xSradix_unsigned_0) := by kernel_rfl
theorem lpradix_unsigned_0 : LpOk Eradix_unsigned Bradix_unsigned_0 0 := mkLoop_ok (A := tAradix_unsigned_0) (B := tBradix_unsigned_0) (f := Pradix_unsigned_0) (L := Lradix_unsigned_0 none) (tO_ok (cPair_ok (cInt_ok .u64) cUnit_ok) (tO_ok (cPair_ok (cInt_ok .i64) cUnit_ok) (tO_ok (cPair_ok cStr_ok cUnit_ok) tNil_ok))) bNil_ok (enc := eSradix_unsigned_0) (out := xTradix_unsigned_0) (outS := xSradix_unsigned_0) (step := Wradix_unsigned_0) (fun _ => rfl) (fun _ _ => by kernel_rfl) (by kernel_rfl) (fun _ => rfl) roundradix_unsigned_0
theorem runradix_unsigned (x : Int × Int × Unit) (g : Unit) : execF Eradix_unsigned Try.f53 (Aradix_unsigned.enc x) (bNil.enc g) = (Tradix_unsigned none x.1 x.2.1).map Rradix_unsigned := by kernel_rfl
theorem okradix_unsigned : FnOk Try.prog cd 53 Sradix_unsigned := mk_ok (E := Eradix_unsigned) cd_ok fns52_ok Try.func53 (by kernel_rfl) (loops_of (addL_ok lpradix_unsigned_0 noL_ok)) (aO_ok (cInt_ok .u64) (aO_ok (cInt_ok .i64) (aNil_ok))) bNil_ok (T := fun x _ => Tradix_unsigned none x.1 x.2.1) (fun _ _ => rfl) runradix_unsigned
noncomputable def fns53 := addF 53 true Sradix_unsigned fns52
theorem fns53_ok : ∀ f q t, fns53 f = some (q, t) → FnOk Try.prog cd f t := addF_ok okradix_unsigned fns52_ok
/-- emulator/radix.Format -/
noncomputable def Tradix_Format (q : Option Nat) (x0 : Int) (x1 : Int) : Tree (List UInt8) :=
  .opt Bool (radix_known x1) fun r106 =>
    .ite (!r106)
      (.leaf (([] : List UInt8)))
      (.ite (decide (x0 < (0 : Int)))
        (.opt (List UInt8) (radix_unsigned q (IntKind.wrap .u64 (0 - (IntKind.wrap .u64 x0))) x1) fun r107 =>
          .ite (decide (([45] : List UInt8).length + r107.length ≤ 9223372036854775807))
            (.leaf (([45] : List UInt8) ++ r107))
            .fail)
        (.opt (List UInt8) (radix_unsigned q (IntKind.wrap .u64 x0) x1) fun r108 =>
          .leaf (r108)))
noncomputable def radix_Format (q : Option Nat) (x0 : Int) (x1 : Int) : Option (List UInt8) := (Tradix_Format q x0 x1).run
theorem leradix_Format (k : Nat) (x0 : Int) (x1 : Int) : Le (radix_Format (some k) x0 x1) (radix_Format none x0 x1) := (TLe.opt Le.rfl fun _ => (TLe.ite TLe.rfl (TLe.ite (TLe.opt (leradix_unsigned k _ _) fun _ => TLe.rfl) (TLe.opt (leradix_unsigned k _ _) fun _ => TLe.rfl))))
noncomputable def Aradix_Format : Arg U (Int × Int × Unit) := aO (cInt .i64) (aO (cInt .i64) (aNil))
noncomputable def Rradix_Format (r : (List UInt8)) : List (V U) × List (Blk U) := ([vO cStr r], [])
noncomputable def Sradix_Format : List (V U) → List (Blk U) → Option (FnOut U) := mkSpec Aradix_Format bNil (fun x _ => radix_Format none x.1 x.2.1) Rradix_Format
noncomputable def Eradix_Format : Env U := { P := Try.prog, cd := cd, fns := fns53, lps := noL, frz := fun _r => false, nt := 22, n0 := 0 }
theorem runradix_Format (x : Int × Int × Unit) (g : Unit) : execF Eradix_Format Try.f31 (Aradix_Format.enc x) (bNil.enc g) = (Tradix_Format none x.1 x.2.1).map Rradix_Format := by kernel_rfl
theorem okradix_Format : FnOk Try.prog cd 31 Sradix_Format := mk_ok (E := Eradix_Format) cd_ok fns53_ok Try.func31 (by kernel_rfl) (noLoops_body (by kernel_rfl)) (aO_ok (cInt_ok .i64) (aO_ok (cInt_ok .i64) (aNil_ok))) bNil_ok (T := fun x _ => Tradix_Format none x.1 x.2.1) (fun _ _ => rfl) runradix_Format
noncomputable def fns31 := addF 31 true Sradix_Format fns53
theorem fns31_ok : ∀ f q t, fns31 f = some (q, t) → FnOk Try.prog cd f t := addF_ok okradix_Format fns53_ok
/-- emulator/emulatortop.awake -/
noncomputable def Ttop_awake (q : Option Nat)  : Tree Bool :=
  .opt Pipe (pipe_New) fun r109 =>
    .opt (Pipe × Int × Int) (pipe_Write r109 ([97, 98, 99] : List UInt8)) fun r110 =>
      .opt (Pipe × (List UInt8) × Int) (pipe_Read r110.1 (2 : Int)) fun r111 =>
        .opt (Int × Mmu × Int) (mmu_Translate (Mmu.mk false (List.replicate 16 (Page.mk (0 : Int) (0 : Int) (0 : Int) false)) 0 0) (1 : Int) (57344 : Int) false) fun r112 =>
          .ite (decide (r110.2.2 = (0 : Int)))
            (.ite (decide (r110.2.1 = (3 : Int)))
              (.ite (decide (r111.2.2 = (0 : Int)))
                (.ite (decide (r111.2.1 = ([97, 98] : List UInt8)))
                  (.ite (decide (r111.1.data = ([99] : List UInt8)))
                    (.ite (decide (r112.1 = (253952 : Int)))
                      (.ite (decide (r112.2.2 = (0 : Int)))
                        (.opt (List UInt8) (radix_Format q (64 : Int) (8 : Int)) fun r113 =>
                          .leaf (decide (r113 = ([49, 48, 48] : List UInt8))))
                        (.leaf (false)))
                      (.leaf (false)))
                    (.leaf (false)))
                  (.leaf (false)))
                (.leaf (false)))
              (.leaf (false)))
            (.leaf (false))
noncomputable def top_awake (q : Option Nat)  : Option Bool := (Ttop_awake q ).run
theorem letop_awake (k : Nat)  : Le (top_awake (some k) ) (top_awake none ) := (TLe.opt Le.rfl fun _ => (TLe.opt Le.rfl fun _ => (TLe.opt Le.rfl fun _ => (TLe.opt Le.rfl fun _ => (TLe.ite (TLe.ite (TLe.ite (TLe.ite (TLe.ite (TLe.ite (TLe.ite (TLe.opt (leradix_Format k _ _) fun _ => TLe.rfl) TLe.rfl) TLe.rfl) TLe.rfl) TLe.rfl) TLe.rfl) TLe.rfl) TLe.rfl)))))
noncomputable def Atop_awake : Arg U (Unit) := aNil
noncomputable def Rtop_awake (r : Bool) : List (V U) × List (Blk U) := ([vO cBool r], [])
noncomputable def Stop_awake : List (V U) → List (Blk U) → Option (FnOut U) := mkSpec Atop_awake bNil (fun x _ => top_awake none ) Rtop_awake
noncomputable def Etop_awake : Env U := { P := Try.prog, cd := cd, fns := fns31, lps := noL, frz := fun _r => false, nt := 59, n0 := 0 }
theorem runtop_awake (x : Unit) (g : Unit) : execF Etop_awake Try.f10 (Atop_awake.enc x) (bNil.enc g) = (Ttop_awake none ).map Rtop_awake := by kernel_rfl
theorem oktop_awake : FnOk Try.prog cd 10 Stop_awake := mk_ok (E := Etop_awake) cd_ok fns31_ok Try.func10 (by kernel_rfl) (noLoops_body (by kernel_rfl)) (aNil_ok) bNil_ok (T := fun x _ => Ttop_awake none ) (fun _ _ => rfl) runtop_awake
noncomputable def fns10 := addF 10 true Stop_awake fns31
theorem fns10_ok : ∀ f q t, fns10 f = some (q, t) → FnOk Try.prog cd f t := addF_ok oktop_awake fns31_ok
/-- emulator/memory.misses -/
noncomputable def Tmemory_misses (x0 : (List Int)) (x1 : Int) (x2 : Bool) : Tree Bool :=
  .ite (!x2)
    (.ite (decide ((2 : Int) = 0))
      .fail
      (.ite (!decide (((x1).tmod (2 : Int)) = (0 : Int)))
        (.leaf (true))
        (.ite (decide (x1 < (0 : Int)))
          (.leaf (true))
          (.leaf (decide ((IntKind.wrap .i64 ((2 : Int) * (x0.length : Int))) ≤ x1))))))
    (.ite (decide (x1 < (0 : Int)))
      (.leaf (true))
      (.leaf (decide ((IntKind.wrap .i64 ((2 : Int) * (x0.length : Int))) ≤ x1))))
noncomputable def memory_misses (x0 : (List Int)) (x1 : Int) (x2 : Bool) : Option Bool := (Tmemory_misses x0 x1 x2).run
noncomputable def Amemory_misses : Arg U ((List Int) × Int × Bool × Unit) := aO (cSl 3) (aO (cInt .i64) (aO cBool (aNil)))
noncomputable def Rmemory_misses (r : Bool) : List (V U) × List (Blk U) := ([vO cBool r], [])
noncomputable def Smemory_misses : List (V U) → List (Blk U) → Option (FnOut U) := mkSpec Amemory_misses bNil (fun x _ => memory_misses x.1 x.2.1 x.2.2.1) Rmemory_misses
noncomputable def Ememory_misses : Env U := { P := Try.prog, cd := cd, fns := fns10, lps := noL, frz := fun _r => false, nt := 25, n0 := 0 }
theorem runmemory_misses (x : (List Int) × Int × Bool × Unit) (g : Unit) : execF Ememory_misses Try.f55 (Amemory_misses.enc x) (bNil.enc g) = (Tmemory_misses x.1 x.2.1 x.2.2.1).map Rmemory_misses := by kernel_rfl
theorem okmemory_misses : FnOk Try.prog cd 55 Smemory_misses := mk_ok (E := Ememory_misses) cd_ok fns10_ok Try.func55 (by kernel_rfl) (noLoops_body (by kernel_rfl)) (aO_ok (cSl_ok 3) (aO_ok (cInt_ok .i64) (aO_ok cBool_ok (aNil_ok)))) bNil_ok (T := fun x _ => Tmemory_misses x.1 x.2.1 x.2.2.1) (fun _ _ => rfl) runmemory_misses
noncomputable def fns55 := addF 55 true Smemory_misses fns10
theorem fns55_ok : ∀ f q t, fns55 f = some (q, t) → FnOk Try.prog cd f t := addF_ok okmemory_misses fns10_ok
/-- slices.Index[[]int,int] -/
structure Sslices_Index_int_int_0 where
  t0 : (List Int)
  t1 : Int
  t7 : Int
  t8 : Int
noncomputable def Wslices_Index_int_int_0 (s : Sslices_Index_int_int_0) : Tree (Sslices_Index_int_int_0 ⊕ (Int ⊕ Unit)) :=
  .ite (decide (s.t8 < s.t7))
    (.ite (decide (0 ≤ s.t8))
      (.opt Int (s.t0[(s.t8).toNat]?) fun y114 =>
        .ite (decide (s.t1 = y114))
          (.leaf (.inr (.inl s.t8)))
          (.leaf (.inl (Sslices_Index_int_int_0.mk s.t0 s.t1 s.t7 (IntKind.wrap .i64 (s.t8 + (1 : Int)))))))
      .fail)
    (.leaf (.inr (.inr ())))
noncomputable def Lslices_Index_int_int_0 (q : Option Nat) (s : Sslices_Index_int_int_0) : Option (Int ⊕ Unit) := limQ q (fun s => (Wslices_Index_int_int_0 s).run) s
theorem leLslices_Index_int_int_0 (k : Nat) (s : Sslices_Index_int_int_0) : Le (Lslices_Index_int_int_0 (some k) s) (Lslices_Index_int_int_0 none s) := limQ_le (fun _ => Le.rfl) s
noncomputable def Tslices_Index_int_int (q : Option Nat) (x0 : (List Int)) (x1 : Int) : Tree Int :=
  .opt (Int ⊕ Unit) (Lslices_Index_int_int_0 q (Sslices_Index_int_int_0.mk x0 x1 (x0.length : Int) (0 : Int))) fun l115 =>
    .ite (l115.isLeft)
      (.opt Int (l115.getLeft?) fun a116 =>
        .leaf (a116))
      (.opt Unit (l115.getRight?) fun b117 =>
        .leaf ((-1 : Int)))
noncomputable def slices_Index_int_int (q : Option Nat) (x0 : (List Int)) (x1 : Int) : Option Int := (Tslices_Index_int_int q x0 x1).run
theorem leslices_Index_int_int (k : Nat) (x0 : (List Int)) (x1 : Int) : Le (slices_Index_int_int (some k) x0 x1) (slices_Index_int_int none x0 x1) := (TLe.opt (leLslices_Index_int_int_0 k _) fun _ => TLe.rfl)
noncomputable def Aslices_Index_int_int : Arg U ((List Int) × Int × Unit) := aO (cSl 3) (aO (cInt .i64) (aNil))
noncomputable def Rslices_Index_int_int (r : Int) : List (V U) × List (Blk U) := ([vO (cInt .i64) r], [])
noncomputable def Sslices_Index_int_int : List (V U) → List (Blk U) → Option (FnOut U) := mkSpec Aslices_Index_int_int bNil (fun x _ => slices_Index_int_int none x.1 x.2.1) Rslices_Index_int_int
noncomputable def Pslices_Index_int_int_0 (x : ((List Int) × Unit) × (Int × Unit) × (Int × Unit) × (Int × Unit) × Unit) (_g : Unit) : Sslices_Index_int_int_0 := Sslices_Index_int_int_0.mk x.1.1 x.2.1.1 x.2.2.1.1 x.2.2.2.1.1
noncomputable def tAslices_Index_int_int_0 : Tms U (((List Int) × Unit) × (Int × Unit) × (Int × Unit) × (Int × Unit) × Unit) := tO 0 (cPair (cSl 3) (cUnit)) (tO 1 (cPair (cInt .i64) (cUnit)) (tO 7 (cPair (cInt .i64) (cUnit)) (tO 8 (cPair (cInt .i64) (cUnit)) (tNil))))
noncomputable def tBslices_Index_int_int_0 : Bls U (Unit) := bNil
noncomputable def eSslices_Index_int_int_0 (s : Sslices_Index_int_int_0) : St U := { tm := [(0, .v (vO (cPair (cSl 3) (cUnit)) (s.t0, ()))), (1, .v (vO (cPair (cInt .i64) (cUnit)) (s.t1, ()))), (7, .v (vO (cPair (cInt .i64) (cUnit)) (s.t7, ()))), (8, .v (vO (cPair (cInt .i64) (cUnit)) (s.t8, ())))], hp := [] }
noncomputable def xSslices_Index_int_int_0 : (Int ⊕ Unit) → Ex × St U
  | .inl r => (.ret, { tm := [(4, .v (vO (cPair (cInt .i64) (cUnit)) (r, ())))], hp := [] })
  | .inr r => (.exit 0, { tm := [], hp := [] })
noncomputable def xTslices_Index_int_int_0 (y : (Int ⊕ Unit)) : Tree (Ex × St U) := .ite y.isLeft (.opt Int y.getLeft? fun r => .leaf (.ret, { tm := [(4, .v (vO (cPair (cInt .i64) (cUnit)) (r, ())))], hp := [] })) (.opt Unit y.getRight? fun r => .leaf (.exit 0, { tm := [], hp := [] }))
noncomputable def hslices_Index_int_int_0 : Hd := { keep := [0, 1, 7, 8], xkeep := [4], own := false }
noncomputable def Eslices_Index_int_int : Env U := { P := Try.prog, cd := cd, fns := fns55, lps := (addL 0 hslices_Index_int_int_0 (mkLoop tAslices_Index_int_int_0 tBslices_Index_int_int_0 Pslices_Index_int_int_0 (Lslices_Index_int_int_0 none) xTslices_Index_int_int_0) noL), frz := fun _r => false, nt := 19, n0 := 0 }
noncomputable def Bslices_Index_int_int_0 : Code := (loopAt (Try.f79.body.getD .skip) 0 0).getD .skip
theorem roundslices_Index_int_int_0 (s : Sslices_Index_int_int_0) : round Eslices_Index_int_int hslices_Index_int_int_0 Bslices_Index_int_int_0 0 (eSslices_Index_int_int_0 s) = (Wslices_Index_int_int_0 s).map (sumE eSslices_Index_int_int_0 xSslices_Index_int_int_0) := by kernel_rfl
theorem lpslices_Index_int_int_0 : LpOk Eslices_Index_int_int Bslices_Index_int_int_0 0 := mkLoop_ok (A := tAslices_Index_int_int_0) (B := tBslices_Index_int_int_0) (f := Pslices_Index_int_int_0) (L := Lslices_Index_int_int_0 none) (tO_ok (cPair_ok (cSl_ok 3) cUnit_ok) (tO_ok (cPair_ok (cInt_ok .i64) cUnit_ok) (tO_ok (cPair_ok (cInt_ok .i64) cUnit_ok) (tO_ok (cPair_ok (cInt_ok .i64) cUnit_ok) tNil_ok)))) bNil_ok (enc := eSslices_Index_int_int_0) (out := xTslices_Index_int_int_0) (outS := xSslices_Index_int_int_0) (step := Wslices_Index_int_int_0) (fun _ => rfl) (fun _ _ => by kernel_rfl) (by kernel_rfl) (fun b => by cases b <;> rfl) roundslices_Index_int_int_0
theorem runslices_Index_int_int (x : (List Int) × Int × Unit) (g : Unit) : execF Eslices_Index_int_int Try.f79 (Aslices_Index_int_int.enc x) (bNil.enc g) = (Tslices_Index_int_int none x.1 x.2.1).map Rslices_Index_int_int := by kernel_rfl
theorem okslices_Index_int_int : FnOk Try.prog cd 79 Sslices_Index_int_int := mk_ok (E := Eslices_Index_int_int) cd_ok fns55_ok Try.func79 (by kernel_rfl) (loops_of (addL_ok lpslices_Index_int_int_0 noL_ok)) (aO_ok (cSl_ok 3) (aO_ok (cInt_ok .i64) (aNil_ok))) bNil_ok (T := fun x _ => Tslices_Index_int_int none x.1 x.2.1) (fun _ _ => rfl) runslices_Index_int_int
noncomputable def fns79 := addF 79 true Sslices_Index_int_int fns55
theorem fns79_ok : ∀ f q t, fns79 f = some (q, t) → FnOk Try.prog cd f t := addF_ok okslices_Index_int_int fns55_ok
/-- slices.Contains[[]int,int] -/
noncomputable def Tslices_Contains_int_int (q : Option Nat) (x0 : (List Int)) (x1 : Int) : Tree Bool :=
  .opt Int (slices_Index_int_int q x0 x1) fun r118 =>
    .leaf (decide ((0 : Int) ≤ r118))
noncomputable def slices_Contains_int_int (q : Option Nat) (x0 : (List Int)) (x1 : Int) : Option Bool := (Tslices_Contains_int_int q x0 x1).run
theorem leslices_Contains_int_int (k : Nat) (x0 : (List Int)) (x1 : Int) : Le (slices_Contains_int_int (some k) x0 x1) (slices_Contains_int_int none x0 x1) := (TLe.opt (leslices_Index_int_int k _ _) fun _ => TLe.rfl)
noncomputable def Aslices_Contains_int_int : Arg U ((List Int) × Int × Unit) := aO (cSl 3) (aO (cInt .i64) (aNil))
noncomputable def Rslices_Contains_int_int (r : Bool) : List (V U) × List (Blk U) := ([vO cBool r], [])
noncomputable def Sslices_Contains_int_int : List (V U) → List (Blk U) → Option (FnOut U) := mkSpec Aslices_Contains_int_int bNil (fun x _ => slices_Contains_int_int none x.1 x.2.1) Rslices_Contains_int_int
noncomputable def Eslices_Contains_int_int : Env U := { P := Try.prog, cd := cd, fns := fns79, lps := noL, frz := fun _r => false, nt := 9, n0 := 0 }
theorem runslices_Contains_int_int (x : (List Int) × Int × Unit) (g : Unit) : execF Eslices_Contains_int_int Try.f56 (Aslices_Contains_int_int.enc x) (bNil.enc g) = (Tslices_Contains_int_int none x.1 x.2.1).map Rslices_Contains_int_int := by kernel_rfl
theorem okslices_Contains_int_int : FnOk Try.prog cd 56 Sslices_Contains_int_int := mk_ok (E := Eslices_Contains_int_int) cd_ok fns79_ok Try.func56 (by kernel_rfl) (noLoops_body (by kernel_rfl)) (aO_ok (cSl_ok 3) (aO_ok (cInt_ok .i64) (aNil_ok))) bNil_ok (T := fun x _ => Tslices_Contains_int_int none x.1 x.2.1) (fun _ _ => rfl) runslices_Contains_int_int
noncomputable def fns56 := addF 56 true Sslices_Contains_int_int fns79
theorem fns56_ok : ∀ f q t, fns56 f = some (q, t) → FnOk Try.prog cd f t := addF_ok okslices_Contains_int_int fns79_ok
/-- emulator/memory.Read -/
noncomputable def Tmemory_Read (q : Option Nat) (x0 : (List Int)) (x1 : (List Int)) (x2 : Int) (x3 : Bool) : Tree (Int × Int) :=
  .opt Bool (memory_misses x0 x2 x3) fun r119 =>
    .ite (r119)
      (.leaf (((0 : Int), (1 : Int))))
      (.opt Bool (slices_Contains_int_int q x1 (IntKind.wrap .i64 (((BitVec.ofInt 64 x2 &&& ~~~BitVec.ofInt 64 (1 : Int)).toNat : Int)))) fun r120 =>
        .ite (r120)
          (.leaf (((0 : Int), (9 : Int))))
          (.ite (decide ((2 : Int) = 0))
            .fail
            (.ite (decide (0 ≤ IntKind.wrap .i64 ((x2).tdiv (2 : Int))))
              (.opt Int (x0[(IntKind.wrap .i64 ((x2).tdiv (2 : Int))).toNat]?) fun y121 =>
                .ite (x3)
                  (.ite (decide ((2 : Int) = 0))
                    .fail
                    (.ite (decide (0 ≤ (IntKind.wrap .i64 (((x2).tmod (2 : Int)) * (8 : Int)))))
                      (.leaf ((IntKind.wrap .i64 (((BitVec.ofInt 64 ((y121).fdiv (2 ^ (min ((IntKind.wrap .i64 (((x2).tmod (2 : Int)) * (8 : Int)))).toNat 64))) &&& BitVec.ofInt 64 (255 : Int)).toNat : Int)), (0 : Int))))
                      .fail))
                  (.leaf ((y121, (0 : Int)))))
              .fail)))
noncomputable def memory_Read (q : Option Nat) (x0 : (List Int)) (x1 : (List Int)) (x2 : Int) (x3 : Bool) : Option (Int × Int) := (Tmemory_Read q x0 x1 x2 x3).run
theorem lememory_Read (k : Nat) (x0 : (List Int)) (x1 : (List Int)) (x2 : Int) (x3 : Bool) : Le (memory_Read (some k) x0 x1 x2 x3) (memory_Read none x0 x1 x2 x3) := (TLe.opt Le.rfl fun _ => (TLe.ite TLe.rfl (TLe.opt (leslices_Contains_int_int k _ _) fun _ => TLe.rfl)))
noncomputable def Amemory_Read : Arg U ((List Int) × (List Int) × Int × Bool × Unit) := aO (cSl 3) (aO (cSl 3) (aO (cInt .i64) (aO cBool (aNil))))
noncomputable def Rmemory_Read (r : (Int × Int)) : List (V U) × List (Blk U) := ([vO (cInt .i64) r.1, vO (cInt .i64) r.2], [])
noncomputable def Smemory_Read : List (V U) → List (Blk U) → Option (FnOut U) := mkSpec Amemory_Read bNil (fun x _ => memory_Read none x.1 x.2.1 x.2.2.1 x.2.2.2.1) Rmemory_Read
noncomputable def Ememory_Read : Env U := { P := Try.prog, cd := cd, fns := fns56, lps := noL, frz := fun _r => false, nt := 32, n0 := 0 }
theorem runmemory_Read (x : (List Int) × (List Int) × Int × Bool × Unit) (g : Unit) : execF Ememory_Read Try.f34 (Amemory_Read.enc x) (bNil.enc g) = (Tmemory_Read none x.1 x.2.1 x.2.2.1 x.2.2.2.1).map Rmemory_Read := by kernel_rfl
theorem okmemory_Read : FnOk Try.prog cd 34 Smemory_Read := mk_ok (E := Ememory_Read) cd_ok fns56_ok Try.func34 (by kernel_rfl) (noLoops_body (by kernel_rfl)) (aO_ok (cSl_ok 3) (aO_ok (cSl_ok 3) (aO_ok (cInt_ok .i64) (aO_ok cBool_ok (aNil_ok))))) bNil_ok (T := fun x _ => Tmemory_Read none x.1 x.2.1 x.2.2.1 x.2.2.2.1) (fun _ _ => rfl) runmemory_Read
noncomputable def fns34 := addF 34 true Smemory_Read fns56
theorem fns34_ok : ∀ f q t, fns34 f = some (q, t) → FnOk Try.prog cd f t := addF_ok okmemory_Read fns56_ok
/-- emulator/bus.lineOf -/
noncomputable def Tbus_lineOf (x0 : Machine) (x1 : Int) : Tree (Int × Int × Bool) :=
  .ite (decide ((8 : Int) = 0))
    .fail
    (.ite (decide ((8 : Int) = 0))
      .fail
      (.ite (decide ((512 : Int) ≤ x1))
        (.ite (decide (x1 < (768 : Int)))
          (.leaf ((IntKind.wrap .i64 (((IntKind.wrap .i64 (x1 - (512 : Int)))).tdiv (8 : Int)), (x1).tmod (8 : Int), decide ((IntKind.wrap .i64 (((IntKind.wrap .i64 (x1 - (512 : Int)))).tdiv (8 : Int))) < (x0.lines.length : Int)))))
          (.leaf ((IntKind.wrap .i64 (((IntKind.wrap .i64 (x1 - (512 : Int)))).tdiv (8 : Int)), (x1).tmod (8 : Int), false))))
        (.leaf ((IntKind.wrap .i64 (((IntKind.wrap .i64 (x1 - (512 : Int)))).tdiv (8 : Int)), (x1).tmod (8 : Int), false)))))
noncomputable def bus_lineOf (x0 : Machine) (x1 : Int) : Option (Int × Int × Bool) := (Tbus_lineOf x0 x1).run
noncomputable def Abus_lineOf : Arg U (Machine × Int × Unit) := aA cMachine (aO (cInt .i64) (aNil))
noncomputable def Rbus_lineOf (r : (Int × Int × Bool)) : List (V U) × List (Blk U) := ([vO (cInt .i64) r.1, vO (cInt .i64) r.2.1, vO cBool r.2.2], [])
noncomputable def Sbus_lineOf : List (V U) → List (Blk U) → Option (FnOut U) := mkSpec Abus_lineOf bNil (fun x _ => bus_lineOf x.1 x.2.1) Rbus_lineOf
noncomputable def Ebus_lineOf : Env U := { P := Try.prog, cd := cd, fns := fns34, lps := noL, frz := fun _r => false, nt := 27, n0 := 0 }
theorem runbus_lineOf (x : Machine × Int × Unit) (g : Unit) : execF Ebus_lineOf Try.f57 (Abus_lineOf.enc x) (bNil.enc g) = (Tbus_lineOf x.1 x.2.1).map Rbus_lineOf := by kernel_rfl
theorem okbus_lineOf : FnOk Try.prog cd 57 Sbus_lineOf := mk_ok (E := Ebus_lineOf) cd_ok fns34_ok Try.func57 (by kernel_rfl) (noLoops_body (by kernel_rfl)) (aA_ok cMachine_ok (aO_ok (cInt_ok .i64) (aNil_ok))) bNil_ok (T := fun x _ => Tbus_lineOf x.1 x.2.1) (fun _ _ => rfl) runbus_lineOf
noncomputable def fns57 := addF 57 true Sbus_lineOf fns34
theorem fns57_ok : ∀ f q t, fns57 f = some (q, t) → FnOk Try.prog cd f t := addF_ok okbus_lineOf fns34_ok
/-- emulator/line.status -/
noncomputable def Tline_status (x0 : Bool) (x1 : Bool) : Tree Int :=
  .ite (x0)
    (.ite (x1)
      (.leaf (IntKind.wrap .i64 ((64 : Int) + (128 : Int))))
      (.leaf ((64 : Int))))
    (.ite (x1)
      (.leaf (IntKind.wrap .i64 ((0 : Int) + (128 : Int))))
      (.leaf ((0 : Int))))
noncomputable def line_status (x0 : Bool) (x1 : Bool) : Option Int := (Tline_status x0 x1).run
noncomputable def Aline_status : Arg U (Bool × Bool × Unit) := aO cBool (aO cBool (aNil))
noncomputable def Rline_status (r : Int) : List (V U) × List (Blk U) := ([vO (cInt .i64) r], [])
noncomputable def Sline_status : List (V U) → List (Blk U) → Option (FnOut U) := mkSpec Aline_status bNil (fun x _ => line_status x.1 x.2.1) Rline_status
noncomputable def Eline_status : Env U := { P := Try.prog, cd := cd, fns := fns57, lps := noL, frz := fun _r => false, nt := 11, n0 := 0 }
theorem runline_status (x : Bool × Bool × Unit) (g : Unit) : execF Eline_status Try.f80 (Aline_status.enc x) (bNil.enc g) = (Tline_status x.1 x.2.1).map Rline_status := by kernel_rfl
theorem okline_status : FnOk Try.prog cd 80 Sline_status := mk_ok (E := Eline_status) cd_ok fns57_ok Try.func80 (by kernel_rfl) (noLoops_body (by kernel_rfl)) (aO_ok cBool_ok (aO_ok cBool_ok (aNil_ok))) bNil_ok (T := fun x _ => Tline_status x.1 x.2.1) (fun _ _ => rfl) runline_status
noncomputable def fns80 := addF 80 true Sline_status fns57
theorem fns80_ok : ∀ f q t, fns80 f = some (q, t) → FnOk Try.prog cd f t := addF_ok okline_status fns57_ok
/-- emulator/line.Read -/
noncomputable def Tline_Read (x0 : Line) (x1 : Int) : Tree (Line × Int) :=
  .ite (decide (x1 = (0 : Int)))
    (.opt Int (line_status x0.rxEnable x0.rxReady) fun r122 =>
      .leaf ((x0, r122)))
    (.ite (decide (x1 = (4 : Int)))
      (.opt Int (line_status x0.txEnable x0.txReady) fun r123 =>
        .leaf ((x0, r123)))
      (.ite (decide (x1 = (2 : Int)))
        (.ite (x0.overrun)
          (.leaf ((Line.mk x0.rxEnable false false x0.rxData x0.txEnable x0.txReady x0.txData x0.txLeft x0.out, IntKind.wrap .i64 (x0.rxData + (32768 : Int)))))
          (.leaf ((Line.mk x0.rxEnable false false x0.rxData x0.txEnable x0.txReady x0.txData x0.txLeft x0.out, x0.rxData))))
        (.leaf ((x0, (0 : Int))))))
noncomputable def line_Read (x0 : Line) (x1 : Int) : Option (Line × Int) := (Tline_Read x0 x1).run
noncomputable def Aline_Read : Arg U (Line × Int × Unit) := aA cLine (aO (cInt .i64) (aNil))
noncomputable def Rline_Read (r : (Line × Int)) : List (V U) × List (Blk U) := ([vA cLine r.1, vO (cInt .i64) r.2], [])
noncomputable def Sline_Read : List (V U) → List (Blk U) → Option (FnOut U) := mkSpec Aline_Read bNil (fun x _ => line_Read x.1 x.2.1) Rline_Read
noncomputable def Eline_Read : Env U := { P := Try.prog, cd := cd, fns := fns80, lps := noL, frz := fun _r => false, nt := 37, n0 := 0 }
theorem runline_Read (x : Line × Int × Unit) (g : Unit) : execF Eline_Read Try.f58 (Aline_Read.enc x) (bNil.enc g) = (Tline_Read x.1 x.2.1).map Rline_Read := by kernel_rfl
theorem okline_Read : FnOk Try.prog cd 58 Sline_Read := mk_ok (E := Eline_Read) cd_ok fns80_ok Try.func58 (by kernel_rfl) (noLoops_body (by kernel_rfl)) (aA_ok cLine_ok (aO_ok (cInt_ok .i64) (aNil_ok))) bNil_ok (T := fun x _ => Tline_Read x.1 x.2.1) (fun _ _ => rfl) runline_Read
noncomputable def fns58 := addF 58 true Sline_Read fns80
theorem fns58_ok : ∀ f q t, fns58 f = some (q, t) → FnOk Try.prog cd f t := addF_ok okline_Read fns80_ok
/-- emulator/mmu.bit -/
noncomputable def Tmmu_bit (x0 : Bool) (x1 : Int) : Tree Int :=
  .ite (x0)
    (.leaf (x1))
    (.leaf ((0 : Int)))
noncomputable def mmu_bit (x0 : Bool) (x1 : Int) : Option Int := (Tmmu_bit x0 x1).run
noncomputable def Ammu_bit : Arg U (Bool × Int × Unit) := aO cBool (aO (cInt .i64) (aNil))
noncomputable def Rmmu_bit (r : Int) : List (V U) × List (Blk U) := ([vO (cInt .i64) r], [])
noncomputable def Smmu_bit : List (V U) → List (Blk U) → Option (FnOut U) := mkSpec Ammu_bit bNil (fun x _ => mmu_bit x.1 x.2.1) Rmmu_bit
noncomputable def Emmu_bit : Env U := { P := Try.prog, cd := cd, fns := fns58, lps := noL, frz := fun _r => false, nt := 7, n0 := 0 }
theorem runmmu_bit (x : Bool × Int × Unit) (g : Unit) : execF Emmu_bit Try.f81 (Ammu_bit.enc x) (bNil.enc g) = (Tmmu_bit x.1 x.2.1).map Rmmu_bit := by kernel_rfl
theorem okmmu_bit : FnOk Try.prog cd 81 Smmu_bit := mk_ok (E := Emmu_bit) cd_ok fns58_ok Try.func81 (by kernel_rfl) (noLoops_body (by kernel_rfl)) (aO_ok cBool_ok (aO_ok (cInt_ok .i64) (aNil_ok))) bNil_ok (T := fun x _ => Tmmu_bit x.1 x.2.1) (fun _ _ => rfl) runmmu_bit
noncomputable def fns81 := addF 81 true Smmu_bit fns58
theorem fns81_ok : ∀ f q t, fns81 f = some (q, t) → FnOk Try.prog cd f t := addF_ok okmmu_bit fns58_ok
/-- emulator/mmu.from -/
noncomputable def Tmmu_from (x0 : Int) (x1 : Int) : Tree Bool :=
  .ite (decide ((0 : Int) ≤ x0))
    (.leaf (decide (x0 ≤ x1)))
    (.leaf (false))
noncomputable def mmu_from (x0 : Int) (x1 : Int) : Option Bool := (Tmmu_from x0 x1).run
noncomputable def Ammu_from : Arg U (Int × Int × Unit) := aO (cInt .i64) (aO (cInt .i64) (aNil))
noncomputable def Rmmu_from (r : Bool) : List (V U) × List (Blk U) := ([vO cBool r], [])
noncomputable def Smmu_from : List (V U) → List (Blk U) → Option (FnOut U) := mkSpec Ammu_from bNil (fun x _ => mmu_from x.1 x.2.1) Rmmu_from
noncomputable def Emmu_from : Env U := { P := Try.prog, cd := cd, fns := fns81, lps := noL, frz := fun _r => false, nt := 12, n0 := 0 }
theorem runmmu_from (x : Int × Int × Unit) (g : Unit) : execF Emmu_from Try.f92 (Ammu_from.enc x) (bNil.enc g) = (Tmmu_from x.1 x.2.1).map Rmmu_from := by kernel_rfl
theorem okmmu_from : FnOk Try.prog cd 92 Smmu_from := mk_ok (E := Emmu_from) cd_ok fns81_ok Try.func92 (by kernel_rfl) (noLoops_body (by kernel_rfl)) (aO_ok (cInt_ok .i64) (aO_ok (cInt_ok .i64) (aNil_ok))) bNil_ok (T := fun x _ => Tmmu_from x.1 x.2.1) (fun _ _ => rfl) runmmu_from
noncomputable def fns92 := addF 92 true Smmu_from fns81
theorem fns92_ok : ∀ f q t, fns92 f = some (q, t) → FnOk Try.prog cd f t := addF_ok okmmu_from fns81_ok
/-- emulator/mmu.register -/
noncomputable def Tmmu_register (x0 : Int) : Tree (Int × Int × Bool × Bool) :=
  .opt Bool (mmu_from (IntKind.wrap .i64 (x0 - (16 : Int))) (63 : Int)) fun r124 =>
    .ite (!r124)
      (.leaf (((0 : Int), (0 : Int), false, false)))
      (.ite (decide ((2 : Int) = 0))
        .fail
        (.ite (!decide ((((IntKind.wrap .i64 (x0 - (16 : Int)))).tmod (2 : Int)) = (0 : Int)))
          (.leaf (((0 : Int), (0 : Int), false, false)))
          (.ite (decide ((32 : Int) = 0))
            .fail
            (.ite (decide ((4 : Int) = 0))
              .fail
              (.ite (decide ((8 : Int) = 0))
                .fail
                (.ite (decide ((4 : Int) = 0))
                  .fail
                  (.leaf ((IntKind.wrap .i64 (((IntKind.wrap .i64 (x0 - (16 : Int)))).tdiv (32 : Int)), ((IntKind.wrap .i64 (((IntKind.wrap .i64 (x0 - (16 : Int)))).tdiv (4 : Int)))).tmod (8 : Int), decide ((((IntKind.wrap .i64 (x0 - (16 : Int)))).tmod (4 : Int)) = (2 : Int)), true)))))))))
noncomputable def mmu_register (x0 : Int) : Option (Int × Int × Bool × Bool) := (Tmmu_register x0).run
noncomputable def Ammu_register : Arg U (Int × Unit) := aO (cInt .i64) (aNil)
noncomputable def Rmmu_register (r : (Int × Int × Bool × Bool)) : List (V U) × List (Blk U) := ([vO (cInt .i64) r.1, vO (cInt .i64) r.2.1, vO cBool r.2.2.1, vO cBool r.2.2.2], [])
noncomputable def Smmu_register : List (V U) → List (Blk U) → Option (FnOut U) := mkSpec Ammu_register bNil (fun x _ => mmu_register x.1) Rmmu_register
noncomputable def Emmu_register : Env U := { P := Try.prog, cd := cd, fns := fns92, lps := noL, frz := fun _r => false, nt := 25, n0 := 0 }
theorem runmmu_register (x : Int × Unit) (g : Unit) : execF Emmu_register Try.f82 (Ammu_register.enc x) (bNil.enc g) = (Tmmu_register x.1).map Rmmu_register := by kernel_rfl
theorem okmmu_register : FnOk Try.prog cd 82 Smmu_register := mk_ok (E := Emmu_register) cd_ok fns92_ok Try.func82 (by kernel_rfl) (noLoops_body (by kernel_rfl)) (aO_ok (cInt_ok .i64) (aNil_ok)) bNil_ok (T := fun x _ => Tmmu_register x.1) (fun _ _ => rfl) runmmu_register
noncomputable def fns82 := addF 82 true Smmu_register fns92
theorem fns82_ok : ∀ f q t, fns82 f = some (q, t) → FnOk Try.prog cd f t := addF_ok okmmu_register fns92_ok
/-- emulator/mmu.Read -/
noncomputable def Tmmu_Read (x0 : Mmu) (x1 : Int) : Tree (Int × Bool) :=
  .ite (decide (x1 = (0 : Int)))
    (.opt Int (mmu_bit x0.on (1 : Int)) fun r125 =>
      .ite (decide (0 ≤ (1 : Int)))
        (.leaf ((IntKind.wrap .i64 (((BitVec.ofInt 64 r125 ||| BitVec.ofInt 64 (IntKind.wrap .i64 (x0.status * 2 ^ (min ((1 : Int)).toNat 64)))).toNat : Int)), true)))
        .fail)
    (.ite (decide (x1 = (2 : Int)))
      (.leaf ((x0.addr, true)))
      (.opt (Int × Int × Bool × Bool) (mmu_register x1) fun r126 =>
        .ite (!r126.2.2.2)
          (.leaf (((0 : Int), false)))
          (.ite (decide (0 ≤ r126.1))
            (.ite (decide (r126.1 < (2 : Int)))
              (.ite (decide (0 ≤ r126.2.1))
                (.ite (decide (r126.2.1 < (8 : Int)))
                  (.opt Page (x0.pages[(r126.1).toNat * 8 + (r126.2.1).toNat * 1]?) fun y127 =>
                    .ite (r126.2.2.1)
                      (.ite (decide (0 ≤ (8 : Int)))
                        (.opt Int (mmu_bit y127.written (32768 : Int)) fun r128 =>
                          .leaf ((IntKind.wrap .i64 (((BitVec.ofInt 64 (IntKind.wrap .i64 (((BitVec.ofInt 64 y127.length ||| BitVec.ofInt 64 (IntKind.wrap .i64 (y127.access * 2 ^ (min ((8 : Int)).toNat 64)))).toNat : Int))) ||| BitVec.ofInt 64 r128).toNat : Int)), true)))
                        .fail)
                      (.leaf ((y127.base, true))))
                  .fail)
                .fail)
              .fail)
            .fail)))
noncomputable def mmu_Read (x0 : Mmu) (x1 : Int) : Option (Int × Bool) := (Tmmu_Read x0 x1).run
noncomputable def Ammu_Read : Arg U (Mmu × Int × Unit) := aA cMmu (aO (cInt .i64) (aNil))
noncomputable def Rmmu_Read (r : (Int × Bool)) : List (V U) × List (Blk U) := ([vO (cInt .i64) r.1, vO cBool r.2], [])
noncomputable def Smmu_Read : List (V U) → List (Blk U) → Option (FnOut U) := mkSpec Ammu_Read bNil (fun x _ => mmu_Read x.1 x.2.1) Rmmu_Read
noncomputable def Emmu_Read : Env U := { P := Try.prog, cd := cd, fns := fns82, lps := noL, frz := fun _r => false, nt := 53, n0 := 0 }
theorem runmmu_Read (x : Mmu × Int × Unit) (g : Unit) : execF Emmu_Read Try.f60 (Ammu_Read.enc x) (bNil.enc g) = (Tmmu_Read x.1 x.2.1).map Rmmu_Read := by kernel_rfl
theorem okmmu_Read : FnOk Try.prog cd 60 Smmu_Read := mk_ok (E := Emmu_Read) cd_ok fns82_ok Try.func60 (by kernel_rfl) (noLoops_body (by kernel_rfl)) (aA_ok cMmu_ok (aO_ok (cInt_ok .i64) (aNil_ok))) bNil_ok (T := fun x _ => Tmmu_Read x.1 x.2.1) (fun _ _ => rfl) runmmu_Read
noncomputable def fns60 := addF 60 true Smmu_Read fns82
theorem fns60_ok : ∀ f q t, fns60 f = some (q, t) → FnOk Try.prog cd f t := addF_ok okmmu_Read fns82_ok
/-- emulator/clock.Read -/
noncomputable def Tclock_Read (x0 : Clock) : Tree Int :=
  .ite (x0.enable)
    (.ite (x0.ready)
      (.leaf (IntKind.wrap .i64 ((IntKind.wrap .i64 ((0 : Int) + (64 : Int))) + (128 : Int))))
      (.leaf (IntKind.wrap .i64 ((0 : Int) + (64 : Int)))))
    (.ite (x0.ready)
      (.leaf (IntKind.wrap .i64 ((0 : Int) + (128 : Int))))
      (.leaf ((0 : Int))))
noncomputable def clock_Read (x0 : Clock) : Option Int := (Tclock_Read x0).run
noncomputable def Aclock_Read : Arg U (Clock × Unit) := aA cClock (aNil)
noncomputable def Rclock_Read (r : Int) : List (V U) × List (Blk U) := ([vO (cInt .i64) r], [])
noncomputable def Sclock_Read : List (V U) → List (Blk U) → Option (FnOut U) := mkSpec Aclock_Read bNil (fun x _ => clock_Read x.1) Rclock_Read
noncomputable def Eclock_Read : Env U := { P := Try.prog, cd := cd, fns := fns60, lps := noL, frz := fun _r => false, nt := 13, n0 := 0 }
theorem runclock_Read (x : Clock × Unit) (g : Unit) : execF Eclock_Read Try.f61 (Aclock_Read.enc x) (bNil.enc g) = (Tclock_Read x.1).map Rclock_Read := by kernel_rfl
theorem okclock_Read : FnOk Try.prog cd 61 Sclock_Read := mk_ok (E := Eclock_Read) cd_ok fns60_ok Try.func61 (by kernel_rfl) (noLoops_body (by kernel_rfl)) (aA_ok cClock_ok (aNil_ok)) bNil_ok (T := fun x _ => Tclock_Read x.1) (fun _ _ => rfl) runclock_Read
noncomputable def fns61 := addF 61 true Sclock_Read fns60
theorem fns61_ok : ∀ f q t, fns61 f = some (q, t) → FnOk Try.prog cd f t := addF_ok okclock_Read fns60_ok
/-- emulator/diskctl.bit -/
noncomputable def Tdiskctl_bit (x0 : Bool) (x1 : Int) : Tree Int :=
  .ite (x0)
    (.leaf (x1))
    (.leaf ((0 : Int)))
noncomputable def diskctl_bit (x0 : Bool) (x1 : Int) : Option Int := (Tdiskctl_bit x0 x1).run
noncomputable def Adiskctl_bit : Arg U (Bool × Int × Unit) := aO cBool (aO (cInt .i64) (aNil))
noncomputable def Rdiskctl_bit (r : Int) : List (V U) × List (Blk U) := ([vO (cInt .i64) r], [])
noncomputable def Sdiskctl_bit : List (V U) → List (Blk U) → Option (FnOut U) := mkSpec Adiskctl_bit bNil (fun x _ => diskctl_bit x.1 x.2.1) Rdiskctl_bit
noncomputable def Ediskctl_bit : Env U := { P := Try.prog, cd := cd, fns := fns61, lps := noL, frz := fun _r => false, nt := 7, n0 := 0 }
theorem rundiskctl_bit (x : Bool × Int × Unit) (g : Unit) : execF Ediskctl_bit Try.f83 (Adiskctl_bit.enc x) (bNil.enc g) = (Tdiskctl_bit x.1 x.2.1).map Rdiskctl_bit := by kernel_rfl
theorem okdiskctl_bit : FnOk Try.prog cd 83 Sdiskctl_bit := mk_ok (E := Ediskctl_bit) cd_ok fns61_ok Try.func83 (by kernel_rfl) (noLoops_body (by kernel_rfl)) (aO_ok cBool_ok (aO_ok (cInt_ok .i64) (aNil_ok))) bNil_ok (T := fun x _ => Tdiskctl_bit x.1 x.2.1) (fun _ _ => rfl) rundiskctl_bit
noncomputable def fns83 := addF 83 true Sdiskctl_bit fns61
theorem fns83_ok : ∀ f q t, fns83 f = some (q, t) → FnOk Try.prog cd f t := addF_ok okdiskctl_bit fns61_ok
/-- emulator/diskctl.Read -/
noncomputable def Tdiskctl_Read (x0 : Disk) (x1 : Int) : Tree (Int × Bool) :=
  .ite (decide (x1 = (0 : Int)))
    (.ite (decide (0 ≤ (1 : Int)))
      (.opt Int (diskctl_bit x0.enable (64 : Int)) fun r129 =>
        .opt Int (diskctl_bit x0.ready (128 : Int)) fun r130 =>
          .opt Int (diskctl_bit x0.error (32768 : Int)) fun r131 =>
            .leaf ((IntKind.wrap .i64 (((BitVec.ofInt 64 (IntKind.wrap .i64 (((BitVec.ofInt 64 (IntKind.wrap .i64 (((BitVec.ofInt 64 (IntKind.wrap .i64 (x0.command * 2 ^ (min ((1 : Int)).toNat 64))) ||| BitVec.ofInt 64 r129).toNat : Int))) ||| BitVec.ofInt 64 r130).toNat : Int))) ||| BitVec.ofInt 64 r131).toNat : Int)), true)))
      .fail)
    (.ite (decide (x1 = (2 : Int)))
      (.leaf ((x0.words, true)))
      (.ite (decide (x1 = (4 : Int)))
        (.leaf ((x0.addr, true)))
        (.ite (decide (x1 = (6 : Int)))
          (.leaf ((x0.start, true)))
          (.leaf (((0 : Int), false))))))
noncomputable def diskctl_Read (x0 : Disk) (x1 : Int) : Option (Int × Bool) := (Tdiskctl_Read x0 x1).run
noncomputable def Adiskctl_Read : Arg U (Disk × Int × Unit) := aA cDisk (aO (cInt .i64) (aNil))
noncomputable def Rdiskctl_Read (r : (Int × Bool)) : List (V U) × List (Blk U) := ([vO (cInt .i64) r.1, vO cBool r.2], [])
noncomputable def Sdiskctl_Read : List (V U) → List (Blk U) → Option (FnOut U) := mkSpec Adiskctl_Read bNil (fun x _ => diskctl_Read x.1 x.2.1) Rdiskctl_Read
noncomputable def Ediskctl_Read : Env U := { P := Try.prog, cd := cd, fns := fns83, lps := noL, frz := fun _r => false, nt := 36, n0 := 0 }
theorem rundiskctl_Read (x : Disk × Int × Unit) (g : Unit) : execF Ediskctl_Read Try.f62 (Adiskctl_Read.enc x) (bNil.enc g) = (Tdiskctl_Read x.1 x.2.1).map Rdiskctl_Read := by kernel_rfl
theorem okdiskctl_Read : FnOk Try.prog cd 62 Sdiskctl_Read := mk_ok (E := Ediskctl_Read) cd_ok fns83_ok Try.func62 (by kernel_rfl) (noLoops_body (by kernel_rfl)) (aA_ok cDisk_ok (aO_ok (cInt_ok .i64) (aNil_ok))) bNil_ok (T := fun x _ => Tdiskctl_Read x.1 x.2.1) (fun _ _ => rfl) rundiskctl_Read
noncomputable def fns62 := addF 62 true Sdiskctl_Read fns83
theorem fns62_ok : ∀ f q t, fns62 f = some (q, t) → FnOk Try.prog cd f t := addF_ok okdiskctl_Read fns83_ok
/-- emulator/tape.bit -/
noncomputable def Ttape_bit (x0 : Bool) (x1 : Int) : Tree Int :=
  .ite (x0)
    (.leaf (x1))
    (.leaf ((0 : Int)))
noncomputable def tape_bit (x0 : Bool) (x1 : Int) : Option Int := (Ttape_bit x0 x1).run
noncomputable def Atape_bit : Arg U (Bool × Int × Unit) := aO cBool (aO (cInt .i64) (aNil))
noncomputable def Rtape_bit (r : Int) : List (V U) × List (Blk U) := ([vO (cInt .i64) r], [])
noncomputable def Stape_bit : List (V U) → List (Blk U) → Option (FnOut U) := mkSpec Atape_bit bNil (fun x _ => tape_bit x.1 x.2.1) Rtape_bit
noncomputable def Etape_bit : Env U := { P := Try.prog, cd := cd, fns := fns62, lps := noL, frz := fun _r => false, nt := 7, n0 := 0 }
theorem runtape_bit (x : Bool × Int × Unit) (g : Unit) : execF Etape_bit Try.f84 (Atape_bit.enc x) (bNil.enc g) = (Ttape_bit x.1 x.2.1).map Rtape_bit := by kernel_rfl
theorem oktape_bit : FnOk Try.prog cd 84 Stape_bit := mk_ok (E := Etape_bit) cd_ok fns62_ok Try.func84 (by kernel_rfl) (noLoops_body (by kernel_rfl)) (aO_ok cBool_ok (aO_ok (cInt_ok .i64) (aNil_ok))) bNil_ok (T := fun x _ => Ttape_bit x.1 x.2.1) (fun _ _ => rfl) runtape_bit
noncomputable def fns84 := addF 84 true Stape_bit fns62
theorem fns84_ok : ∀ f q t, fns84 f = some (q, t) → FnOk Try.prog cd f t := addF_ok oktape_bit fns62_ok
/-- emulator/tape.Read -/
noncomputable def Ttape_Read (x0 : Tape) (x1 : Int) : Tree (Int × Bool) :=
  .ite (decide (x1 = (0 : Int)))
    (.ite (decide (0 ≤ (1 : Int)))
      (.opt Int (tape_bit x0.enable (64 : Int)) fun r132 =>
        .opt Int (tape_bit x0.ready (128 : Int)) fun r133 =>
          .opt Int (tape_bit x0.mark (256 : Int)) fun r134 =>
            .opt Int (tape_bit x0.end_ (512 : Int)) fun r135 =>
              .opt Int (tape_bit x0.error (32768 : Int)) fun r136 =>
                .leaf ((IntKind.wrap .i64 (((BitVec.ofInt 64 (IntKind.wrap .i64 (((BitVec.ofInt 64 (IntKind.wrap .i64 (((BitVec.ofInt 64 (IntKind.wrap .i64 (((BitVec.ofInt 64 (IntKind.wrap .i64 (((BitVec.ofInt 64 (IntKind.wrap .i64 (x0.command * 2 ^ (min ((1 : Int)).toNat 64))) ||| BitVec.ofInt 64 r132).toNat : Int))) ||| BitVec.ofInt 64 r133).toNat : Int))) ||| BitVec.ofInt 64 r134).toNat : Int))) ||| BitVec.ofInt 64 r135).toNat : Int))) ||| BitVec.ofInt 64 r136).toNat : Int)), true)))
      .fail)
    (.ite (decide (x1 = (2 : Int)))
      (.leaf ((x0.count, true)))
      (.ite (decide (x1 = (4 : Int)))
        (.leaf ((x0.addr, true)))
        (.leaf (((0 : Int), false)))))
noncomputable def tape_Read (x0 : Tape) (x1 : Int) : Option (Int × Bool) := (Ttape_Read x0 x1).run
noncomputable def Atape_Read : Arg U (Tape × Int × Unit) := aA cTape (aO (cInt .i64) (aNil))
noncomputable def Rtape_Read (r : (Int × Bool)) : List (V U) × List (Blk U) := ([vO (cInt .i64) r.1, vO cBool r.2], [])
noncomputable def Stape_Read : List (V U) → List (Blk U) → Option (FnOut U) := mkSpec Atape_Read bNil (fun x _ => tape_Read x.1 x.2.1) Rtape_Read
noncomputable def Etape_Read : Env U := { P := Try.prog, cd := cd, fns := fns84, lps := noL, frz := fun _r => false, nt := 40, n0 := 0 }
theorem runtape_Read (x : Tape × Int × Unit) (g : Unit) : execF Etape_Read Try.f63 (Atape_Read.enc x) (bNil.enc g) = (Ttape_Read x.1 x.2.1).map Rtape_Read := by kernel_rfl
theorem oktape_Read : FnOk Try.prog cd 63 Stape_Read := mk_ok (E := Etape_Read) cd_ok fns84_ok Try.func63 (by kernel_rfl) (noLoops_body (by kernel_rfl)) (aA_ok cTape_ok (aO_ok (cInt_ok .i64) (aNil_ok))) bNil_ok (T := fun x _ => Ttape_Read x.1 x.2.1) (fun _ _ => rfl) runtape_Read
noncomputable def fns63 := addF 63 true Stape_Read fns84
theorem fns63_ok : ∀ f q t, fns63 f = some (q, t) → FnOk Try.prog cd f t := addF_ok oktape_Read fns84_ok
end Go.Proofs.Ytlaabdpccdnalaa
namespace Go.Proofs
shelf_lay_g SlLaysE0.n41 Slgn 41 at Try 59 as Try.lays59
end Go.Proofs
namespace Go.Proofs.Ytlaabdpccdnalaa
open Go Go.Ab
theorem okslices_Clone_api_Line_api_Line : FnOk Try.prog cd 59 (cloneSpec 97 56) := clone_ok2 cd_ok Try.lays59 Try.func59 (by kernel_rfl) (by kernel_rfl) rfl rfl (by kernel_rfl)
/-- emulator/bus.get -/
noncomputable def Tbus_get (x0 : Machine) (x1 : Int) : Tree (Machine × Int × Bool) :=
  .opt (Int × Int × Bool) (bus_lineOf x0 x1) fun r141 =>
    .ite (r141.2.2)
      (.ite (decide (0 ≤ r141.1))
        (.opt Line (x0.lines[(r141.1).toNat]?) fun y142 =>
          .opt (Line × Int) (line_Read y142 r141.2.1) fun r143 =>
            .opt (List Line) (cloneF 56 x0.lines) fun r144 =>
              .ite (decide (0 ≤ r141.1))
                (.ite (decide (r141.1 < (r144.length : Int)))
                  (.opt Line (r144[(r141.1).toNat]?) fun y145 =>
                    .leaf ((Machine.mk x0.cpu x0.mem x0.bad x0.mmu x0.clock (r144.set ((r141.1).toNat) r143.1) x0.disk x0.tape x0.now x0.halted x0.waiting x0.power x0.powerTrap, r143.2, true)))
                  .fail)
                .fail)
        .fail)
      (.ite (decide (x1 < (256 : Int)))
        (.opt (Int × Bool) (mmu_Read x0.mmu x1) fun r146 =>
          .leaf ((x0, r146.1, r146.2)))
        (.ite (decide (x1 = (256 : Int)))
          (.opt Int (clock_Read x0.clock) fun r147 =>
            .leaf ((x0, r147, true)))
          (.ite (decide ((768 : Int) ≤ x1))
            (.ite (decide (x1 < (800 : Int)))
              (.opt (Int × Bool) (diskctl_Read x0.disk (IntKind.wrap .i64 (x1 - (768 : Int)))) fun r148 =>
                .leaf ((x0, r148.1, r148.2)))
              (.ite (decide ((800 : Int) ≤ x1))
                (.opt (Int × Bool) (tape_Read x0.tape (IntKind.wrap .i64 (x1 - (800 : Int)))) fun r149 =>
                  .leaf ((x0, r149.1, r149.2)))
                (.leaf ((x0, (0 : Int), false)))))
            (.ite (decide ((800 : Int) ≤ x1))
              (.opt (Int × Bool) (tape_Read x0.tape (IntKind.wrap .i64 (x1 - (800 : Int)))) fun r150 =>
                .leaf ((x0, r150.1, r150.2)))
              (.leaf ((x0, (0 : Int), false)))))))
noncomputable def bus_get (x0 : Machine) (x1 : Int) : Option (Machine × Int × Bool) := (Tbus_get x0 x1).run
noncomputable def Abus_get : Arg U (Machine × Int × Unit) := aA cMachine (aO (cInt .i64) (aNil))
noncomputable def Rbus_get (r : (Machine × Int × Bool)) : List (V U) × List (Blk U) := ([vA cMachine r.1, vO (cInt .i64) r.2.1, vO cBool r.2.2], [])
noncomputable def Sbus_get : List (V U) → List (Blk U) → Option (FnOut U) := mkSpec Abus_get bNil (fun x _ => bus_get x.1 x.2.1) Rbus_get
noncomputable def Ebus_get : Env U := { P := Try.prog, cd := cd, fns := (addF 59 false (cloneSpec 97 56) fns63), lps := noL, frz := fun _r => false, nt := 88, n0 := 0 }
theorem runbus_get (x : Machine × Int × Unit) (g : Unit) : execF Ebus_get Try.f35 (Abus_get.enc x) (bNil.enc g) = (Tbus_get x.1 x.2.1).map Rbus_get := by kernel_rfl
theorem okbus_get : FnOk Try.prog cd 35 Sbus_get := mk_ok (E := Ebus_get) cd_ok (addF_ok okslices_Clone_api_Line_api_Line fns63_ok) Try.func35 (by kernel_rfl) (noLoops_body (by kernel_rfl)) (aA_ok cMachine_ok (aO_ok (cInt_ok .i64) (aNil_ok))) bNil_ok (T := fun x _ => Tbus_get x.1 x.2.1) (fun _ _ => rfl) runbus_get
noncomputable def fns35 := addF 35 true Sbus_get fns63
theorem fns35_ok : ∀ f q t, fns35 f = some (q, t) → FnOk Try.prog cd f t := addF_ok okbus_get fns63_ok
/-- emulator/bus.Read -/
noncomputable def Tbus_Read (q : Option Nat) (x0 : Machine) (x1 : Int) (x2 : Bool) : Tree (Machine × Int × Int) :=
  .ite (decide ((IntKind.wrap .i64 (((BitVec.ofInt 64 x1 &&& BitVec.ofInt 64 (262143 : Int)).toNat : Int))) < (253952 : Int)))
    (.opt (Int × Int) (memory_Read q x0.mem x0.bad (IntKind.wrap .i64 (((BitVec.ofInt 64 x1 &&& BitVec.ofInt 64 (262143 : Int)).toNat : Int))) x2) fun r151 =>
      .leaf ((x0, r151.1, r151.2)))
    (.ite (!x2)
      (.ite (decide ((2 : Int) = 0))
        .fail
        (.ite (!decide ((((IntKind.wrap .i64 (((BitVec.ofInt 64 x1 &&& BitVec.ofInt 64 (262143 : Int)).toNat : Int)))).tmod (2 : Int)) = (0 : Int)))
          (.leaf ((x0, (0 : Int), (1 : Int))))
          (.opt (Machine × Int × Bool) (bus_get x0 (IntKind.wrap .i64 (((BitVec.ofInt 64 (IntKind.wrap .i64 ((IntKind.wrap .i64 (((BitVec.ofInt 64 x1 &&& BitVec.ofInt 64 (262143 : Int)).toNat : Int))) - (253952 : Int))) &&& ~~~BitVec.ofInt 64 (1 : Int)).toNat : Int)))) fun r152 =>
            .ite (!r152.2.2)
              (.leaf ((x0, (0 : Int), (1 : Int))))
              (.ite (x2)
                (.ite (decide ((2 : Int) = 0))
                  .fail
                  (.ite (!decide ((((IntKind.wrap .i64 (((BitVec.ofInt 64 x1 &&& BitVec.ofInt 64 (262143 : Int)).toNat : Int)))).tmod (2 : Int)) = (0 : Int)))
                    (.ite (decide (0 ≤ (8 : Int)))
                      (.leaf ((r152.1, (r152.2.1).fdiv (2 ^ (min ((8 : Int)).toNat 64)), (0 : Int))))
                      .fail)
                    (.ite (x2)
                      (.leaf ((r152.1, IntKind.wrap .i64 (((BitVec.ofInt 64 r152.2.1 &&& BitVec.ofInt 64 (255 : Int)).toNat : Int)), (0 : Int))))
                      (.leaf ((r152.1, r152.2.1, (0 : Int)))))))
                (.ite (x2)
                  (.leaf ((r152.1, IntKind.wrap .i64 (((BitVec.ofInt 64 r152.2.1 &&& BitVec.ofInt 64 (255 : Int)).toNat : Int)), (0 : Int))))
                  (.leaf ((r152.1, r152.2.1, (0 : Int)))))))))
      (.opt (Machine × Int × Bool) (bus_get x0 (IntKind.wrap .i64 (((BitVec.ofInt 64 (IntKind.wrap .i64 ((IntKind.wrap .i64 (((BitVec.ofInt 64 x1 &&& BitVec.ofInt 64 (262143 : Int)).toNat : Int))) - (253952 : Int))) &&& ~~~BitVec.ofInt 64 (1 : Int)).toNat : Int)))) fun r153 =>
        .ite (!r153.2.2)
          (.leaf ((x0, (0 : Int), (1 : Int))))
          (.ite (x2)
            (.ite (decide ((2 : Int) = 0))
              .fail
              (.ite (!decide ((((IntKind.wrap .i64 (((BitVec.ofInt 64 x1 &&& BitVec.ofInt 64 (262143 : Int)).toNat : Int)))).tmod (2 : Int)) = (0 : Int)))
                (.ite (decide (0 ≤ (8 : Int)))
                  (.leaf ((r153.1, (r153.2.1).fdiv (2 ^ (min ((8 : Int)).toNat 64)), (0 : Int))))
                  .fail)
                (.ite (x2)
                  (.leaf ((r153.1, IntKind.wrap .i64 (((BitVec.ofInt 64 r153.2.1 &&& BitVec.ofInt 64 (255 : Int)).toNat : Int)), (0 : Int))))
                  (.leaf ((r153.1, r153.2.1, (0 : Int)))))))
            (.ite (x2)
              (.leaf ((r153.1, IntKind.wrap .i64 (((BitVec.ofInt 64 r153.2.1 &&& BitVec.ofInt 64 (255 : Int)).toNat : Int)), (0 : Int))))
              (.leaf ((r153.1, r153.2.1, (0 : Int))))))))
noncomputable def bus_Read (q : Option Nat) (x0 : Machine) (x1 : Int) (x2 : Bool) : Option (Machine × Int × Int) := (Tbus_Read q x0 x1 x2).run
theorem lebus_Read (k : Nat) (x0 : Machine) (x1 : Int) (x2 : Bool) : Le (bus_Read (some k) x0 x1 x2) (bus_Read none x0 x1 x2) := (TLe.ite (TLe.opt (lememory_Read k _ _ _ _) fun _ => TLe.rfl) TLe.rfl)
noncomputable def Abus_Read : Arg U (Machine × Int × Bool × Unit) := aA cMachine (aO (cInt .i64) (aO cBool (aNil)))
noncomputable def Rbus_Read (r : (Machine × Int × Int)) : List (V U) × List (Blk U) := ([vA cMachine r.1, vO (cInt .i64) r.2.1, vO (cInt .i64) r.2.2], [])
noncomputable def Sbus_Read : List (V U) → List (Blk U) → Option (FnOut U) := mkSpec Abus_Read bNil (fun x _ => bus_Read none x.1 x.2.1 x.2.2.1) Rbus_Read
noncomputable def Ebus_Read : Env U := { P := Try.prog, cd := cd, fns := fns35, lps := noL, frz := fun _r => false, nt := 68, n0 := 0 }
theorem runbus_Read (x : Machine × Int × Bool × Unit) (g : Unit) : execF Ebus_Read Try.f14 (Abus_Read.enc x) (bNil.enc g) = (Tbus_Read none x.1 x.2.1 x.2.2.1).map Rbus_Read := by kernel_rfl
theorem okbus_Read : FnOk Try.prog cd 14 Sbus_Read := mk_ok (E := Ebus_Read) cd_ok fns35_ok Try.func14 (by kernel_rfl) (noLoops_body (by kernel_rfl)) (aA_ok cMachine_ok (aO_ok (cInt_ok .i64) (aO_ok cBool_ok (aNil_ok)))) bNil_ok (T := fun x _ => Tbus_Read none x.1 x.2.1 x.2.2.1) (fun _ _ => rfl) runbus_Read
noncomputable def fns14 := addF 14 true Sbus_Read fns35
theorem fns14_ok : ∀ f q t, fns14 f = some (q, t) → FnOk Try.prog cd f t := addF_ok okbus_Read fns35_ok
/-- emulator/word.Wrap -/
noncomputable def Tword_Wrap (x0 : Int) : Tree Int :=
  .leaf (IntKind.wrap .i64 (((BitVec.ofInt 64 x0 &&& BitVec.ofInt 64 (65535 : Int)).toNat : Int)))
noncomputable def word_Wrap (x0 : Int) : Option Int := (Tword_Wrap x0).run
noncomputable def Aword_Wrap : Arg U (Int × Unit) := aO (cInt .i64) (aNil)
noncomputable def Rword_Wrap (r : Int) : List (V U) × List (Blk U) := ([vO (cInt .i64) r], [])
noncomputable def Sword_Wrap : List (V U) → List (Blk U) → Option (FnOut U) := mkSpec Aword_Wrap bNil (fun x _ => word_Wrap x.1) Rword_Wrap
noncomputable def Eword_Wrap : Env U := { P := Try.prog, cd := cd, fns := fns14, lps := noL, frz := fun _r => false, nt := 5, n0 := 0 }
theorem runword_Wrap (x : Int × Unit) (g : Unit) : execF Eword_Wrap Try.f54 (Aword_Wrap.enc x) (bNil.enc g) = (Tword_Wrap x.1).map Rword_Wrap := by kernel_rfl
theorem okword_Wrap : FnOk Try.prog cd 54 Sword_Wrap := mk_ok (E := Eword_Wrap) cd_ok fns14_ok Try.func54 (by kernel_rfl) (noLoops_body (by kernel_rfl)) (aO_ok (cInt_ok .i64) (aNil_ok)) bNil_ok (T := fun x _ => Tword_Wrap x.1) (fun _ _ => rfl) runword_Wrap
noncomputable def fns54 := addF 54 true Sword_Wrap fns14
theorem fns54_ok : ∀ f q t, fns54 f = some (q, t) → FnOk Try.prog cd f t := addF_ok okword_Wrap fns14_ok
/-- emulator/cpu.load -/
noncomputable def Tcpu_load (q : Option Nat) (x0 : Machine) (x1 : Int) (x2 : Int) (x3 : Bool) : Tree (Machine × Int × Int) :=
  .opt Int (word_Wrap x2) fun r154 =>
    .ite (!x3)
      (.ite (!decide ((IntKind.wrap .i64 (((BitVec.ofInt 64 r154 &&& BitVec.ofInt 64 (1 : Int)).toNat : Int))) = (0 : Int)))
        (.leaf ((x0, (0 : Int), (1 : Int))))
        (.opt (Int × Mmu × Int) (mmu_Translate x0.mmu x1 r154 false) fun r155 =>
          .ite (!decide (r155.2.2 = (0 : Int)))
            (.leaf ((Machine.mk x0.cpu x0.mem x0.bad r155.2.1 x0.clock x0.lines x0.disk x0.tape x0.now x0.halted x0.waiting x0.power x0.powerTrap, (0 : Int), r155.2.2)))
            (.opt (Machine × Int × Int) (bus_Read q (Machine.mk x0.cpu x0.mem x0.bad r155.2.1 x0.clock x0.lines x0.disk x0.tape x0.now x0.halted x0.waiting x0.power x0.powerTrap) r155.1 x3) fun r156 =>
              .ite (!decide (r156.2.2 = (0 : Int)))
                (.leaf ((Machine.mk x0.cpu x0.mem x0.bad r155.2.1 x0.clock x0.lines x0.disk x0.tape x0.now x0.halted x0.waiting x0.power x0.powerTrap, (0 : Int), r156.2.2)))
                (.leaf ((r156.1, r156.2.1, (0 : Int)))))))
      (.opt (Int × Mmu × Int) (mmu_Translate x0.mmu x1 r154 false) fun r157 =>
        .ite (!decide (r157.2.2 = (0 : Int)))
          (.leaf ((Machine.mk x0.cpu x0.mem x0.bad r157.2.1 x0.clock x0.lines x0.disk x0.tape x0.now x0.halted x0.waiting x0.power x0.powerTrap, (0 : Int), r157.2.2)))
          (.opt (Machine × Int × Int) (bus_Read q (Machine.mk x0.cpu x0.mem x0.bad r157.2.1 x0.clock x0.lines x0.disk x0.tape x0.now x0.halted x0.waiting x0.power x0.powerTrap) r157.1 x3) fun r158 =>
            .ite (!decide (r158.2.2 = (0 : Int)))
              (.leaf ((Machine.mk x0.cpu x0.mem x0.bad r157.2.1 x0.clock x0.lines x0.disk x0.tape x0.now x0.halted x0.waiting x0.power x0.powerTrap, (0 : Int), r158.2.2)))
              (.leaf ((r158.1, r158.2.1, (0 : Int))))))
noncomputable def cpu_load (q : Option Nat) (x0 : Machine) (x1 : Int) (x2 : Int) (x3 : Bool) : Option (Machine × Int × Int) := (Tcpu_load q x0 x1 x2 x3).run
theorem lecpu_load (k : Nat) (x0 : Machine) (x1 : Int) (x2 : Int) (x3 : Bool) : Le (cpu_load (some k) x0 x1 x2 x3) (cpu_load none x0 x1 x2 x3) := (TLe.opt Le.rfl fun _ => (TLe.ite (TLe.ite TLe.rfl (TLe.opt Le.rfl fun _ => (TLe.ite TLe.rfl (TLe.opt (lebus_Read k _ _ _) fun _ => TLe.rfl)))) (TLe.opt Le.rfl fun _ => (TLe.ite TLe.rfl (TLe.opt (lebus_Read k _ _ _) fun _ => TLe.rfl)))))
noncomputable def Acpu_load : Arg U (Machine × Int × Int × Bool × Unit) := aA cMachine (aO (cInt .i64) (aO (cInt .i64) (aO cBool (aNil))))
noncomputable def Rcpu_load (r : (Machine × Int × Int)) : List (V U) × List (Blk U) := ([vA cMachine r.1, vO (cInt .i64) r.2.1, vO (cInt .i64) r.2.2], [])
noncomputable def Scpu_load : List (V U) → List (Blk U) → Option (FnOut U) := mkSpec Acpu_load bNil (fun x _ => cpu_load none x.1 x.2.1 x.2.2.1 x.2.2.2.1) Rcpu_load
noncomputable def Ecpu_load : Env U := { P := Try.prog, cd := cd, fns := fns54, lps := noL, frz := fun _r => false, nt := 55, n0 := 0 }
theorem runcpu_load (x : Machine × Int × Int × Bool × Unit) (g : Unit) : execF Ecpu_load Try.f32 (Acpu_load.enc x) (bNil.enc g) = (Tcpu_load none x.1 x.2.1 x.2.2.1 x.2.2.2.1).map Rcpu_load := by kernel_rfl
theorem okcpu_load : FnOk Try.prog cd 32 Scpu_load := mk_ok (E := Ecpu_load) cd_ok fns54_ok Try.func32 (by kernel_rfl) (noLoops_body (by kernel_rfl)) (aA_ok cMachine_ok (aO_ok (cInt_ok .i64) (aO_ok (cInt_ok .i64) (aO_ok cBool_ok (aNil_ok))))) bNil_ok (T := fun x _ => Tcpu_load none x.1 x.2.1 x.2.2.1 x.2.2.2.1) (fun _ _ => rfl) runcpu_load
noncomputable def fns32 := addF 32 true Scpu_load fns54
theorem fns32_ok : ∀ f q t, fns32 f = some (q, t) → FnOk Try.prog cd f t := addF_ok okcpu_load fns54_ok
/-- emulator/psw.Mode -/
noncomputable def Tpsw_Mode (x0 : Int) : Tree Int :=
  .ite (decide (0 ≤ (15 : Int)))
    (.leaf (IntKind.wrap .i64 (((BitVec.ofInt 64 ((x0).fdiv (2 ^ (min ((15 : Int)).toNat 64))) &&& BitVec.ofInt 64 (1 : Int)).toNat : Int))))
    .fail
noncomputable def psw_Mode (x0 : Int) : Option Int := (Tpsw_Mode x0).run
noncomputable def Apsw_Mode : Arg U (Int × Unit) := aO (cInt .i64) (aNil)
noncomputable def Rpsw_Mode (r : Int) : List (V U) × List (Blk U) := ([vO (cInt .i64) r], [])
noncomputable def Spsw_Mode : List (V U) → List (Blk U) → Option (FnOut U) := mkSpec Apsw_Mode bNil (fun x _ => psw_Mode x.1) Rpsw_Mode
noncomputable def Epsw_Mode : Env U := { P := Try.prog, cd := cd, fns := fns32, lps := noL, frz := fun _r => false, nt := 6, n0 := 0 }
theorem runpsw_Mode (x : Int × Unit) (g : Unit) : execF Epsw_Mode Try.f33 (Apsw_Mode.enc x) (bNil.enc g) = (Tpsw_Mode x.1).map Rpsw_Mode := by kernel_rfl
theorem okpsw_Mode : FnOk Try.prog cd 33 Spsw_Mode := mk_ok (E := Epsw_Mode) cd_ok fns32_ok Try.func33 (by kernel_rfl) (noLoops_body (by kernel_rfl)) (aO_ok (cInt_ok .i64) (aNil_ok)) bNil_ok (T := fun x _ => Tpsw_Mode x.1) (fun _ _ => rfl) runpsw_Mode
noncomputable def fns33 := addF 33 true Spsw_Mode fns32
theorem fns33_ok : ∀ f q t, fns33 f = some (q, t) → FnOk Try.prog cd f t := addF_ok okpsw_Mode fns32_ok
/-- emulator/cpu.Load -/
noncomputable def Tcpu_Load (q : Option Nat) (x0 : Machine) (x1 : Int) (x2 : Bool) : Tree (Machine × Int × Int) :=
  .opt Int (psw_Mode x0.cpu.pSW) fun r159 =>
    .opt (Machine × Int × Int) (cpu_load q x0 r159 x1 x2) fun r160 =>
      .leaf ((r160.1, r160.2.1, r160.2.2))
noncomputable def cpu_Load (q : Option Nat) (x0 : Machine) (x1 : Int) (x2 : Bool) : Option (Machine × Int × Int) := (Tcpu_Load q x0 x1 x2).run
theorem lecpu_Load (k : Nat) (x0 : Machine) (x1 : Int) (x2 : Bool) : Le (cpu_Load (some k) x0 x1 x2) (cpu_Load none x0 x1 x2) := (TLe.opt Le.rfl fun _ => (TLe.opt (lecpu_load k _ _ _ _) fun _ => TLe.rfl))
noncomputable def Acpu_Load : Arg U (Machine × Int × Bool × Unit) := aA cMachine (aO (cInt .i64) (aO cBool (aNil)))
noncomputable def Rcpu_Load (r : (Machine × Int × Int)) : List (V U) × List (Blk U) := ([vA cMachine r.1, vO (cInt .i64) r.2.1, vO (cInt .i64) r.2.2], [])
noncomputable def Scpu_Load : List (V U) → List (Blk U) → Option (FnOut U) := mkSpec Acpu_Load bNil (fun x _ => cpu_Load none x.1 x.2.1 x.2.2.1) Rcpu_Load
noncomputable def Ecpu_Load : Env U := { P := Try.prog, cd := cd, fns := fns33, lps := noL, frz := fun _r => false, nt := 20, n0 := 0 }
theorem runcpu_Load (x : Machine × Int × Bool × Unit) (g : Unit) : execF Ecpu_Load Try.f11 (Acpu_Load.enc x) (bNil.enc g) = (Tcpu_Load none x.1 x.2.1 x.2.2.1).map Rcpu_Load := by kernel_rfl
theorem okcpu_Load : FnOk Try.prog cd 11 Scpu_Load := mk_ok (E := Ecpu_Load) cd_ok fns33_ok Try.func11 (by kernel_rfl) (noLoops_body (by kernel_rfl)) (aA_ok cMachine_ok (aO_ok (cInt_ok .i64) (aO_ok cBool_ok (aNil_ok)))) bNil_ok (T := fun x _ => Tcpu_Load none x.1 x.2.1 x.2.2.1) (fun _ _ => rfl) runcpu_Load
noncomputable def fns11 := addF 11 true Scpu_Load fns33
theorem fns11_ok : ∀ f q t, fns11 f = some (q, t) → FnOk Try.prog cd f t := addF_ok okcpu_Load fns33_ok
/-- emulator/emulatorref04.Mode -/
noncomputable def Tref04_Mode (x0 : Int) : Tree Int :=
  .ite (decide (0 ≤ (15 : Int)))
    (.leaf (IntKind.wrap .i64 (((BitVec.ofInt 64 ((x0).fdiv (2 ^ (min ((15 : Int)).toNat 64))) &&& BitVec.ofInt 64 (1 : Int)).toNat : Int))))
    .fail
noncomputable def ref04_Mode (x0 : Int) : Option Int := (Tref04_Mode x0).run
noncomputable def Aref04_Mode : Arg U (Int × Unit) := aO (cInt .i64) (aNil)
noncomputable def Rref04_Mode (r : Int) : List (V U) × List (Blk U) := ([vO (cInt .i64) r], [])
noncomputable def Sref04_Mode : List (V U) → List (Blk U) → Option (FnOut U) := mkSpec Aref04_Mode bNil (fun x _ => ref04_Mode x.1) Rref04_Mode
noncomputable def Eref04_Mode : Env U := { P := Try.prog, cd := cd, fns := fns11, lps := noL, frz := fun _r => false, nt := 6, n0 := 0 }
theorem runref04_Mode (x : Int × Unit) (g : Unit) : execF Eref04_Mode Try.f13 (Aref04_Mode.enc x) (bNil.enc g) = (Tref04_Mode x.1).map Rref04_Mode := by kernel_rfl
theorem okref04_Mode : FnOk Try.prog cd 13 Sref04_Mode := mk_ok (E := Eref04_Mode) cd_ok fns11_ok Try.func13 (by kernel_rfl) (noLoops_body (by kernel_rfl)) (aO_ok (cInt_ok .i64) (aNil_ok)) bNil_ok (T := fun x _ => Tref04_Mode x.1) (fun _ _ => rfl) runref04_Mode
noncomputable def fns13 := addF 13 true Sref04_Mode fns11
theorem fns13_ok : ∀ f q t, fns13 f = some (q, t) → FnOk Try.prog cd f t := addF_ok okref04_Mode fns11_ok
/-- emulator/emulatortop.PartsAccess -/
noncomputable def Ttop_PartsAccess (q : Option Nat) (x0 : Machine) (x1 : Int) : Tree Bool :=
  .opt Bool (top_fit q x0) fun r161 =>
    .ite (!r161)
      (.opt Bool (top_awake q) fun r162 =>
        .leaf (r162))
      (.ite (decide (x1 < (0 : Int)))
        (.opt Bool (top_awake q) fun r163 =>
          .leaf (r163))
        (.ite (decide ((65535 : Int) < x1))
          (.opt Bool (top_awake q) fun r164 =>
            .leaf (r164))
          (.opt (Machine × Int × Int) (cpu_Load q x0 x1 true) fun r165 =>
            .opt Int (ref04_Mode x0.cpu.pSW) fun r166 =>
              .opt (Int × Mmu × Int) (mmu_Translate x0.mmu r166 x1 false) fun r167 =>
                .ite (!decide (r167.2.2 = (0 : Int)))
                  (.ite (decide (r165.2.2 = r167.2.2))
                    (.ite (decide (r165.2.1 = (0 : Int)))
                      (.opt Bool (top_awake q) fun r168 =>
                        .leaf (r168))
                      (.leaf (false)))
                    (.leaf (false)))
                  (.opt (Machine × Int × Int) (bus_Read q (Machine.mk x0.cpu x0.mem x0.bad r167.2.1 x0.clock x0.lines x0.disk x0.tape x0.now x0.halted x0.waiting x0.power x0.powerTrap) r167.1 true) fun r169 =>
                    .ite (decide (r165.2.1 = r169.2.1))
                      (.ite (decide (r165.2.2 = r169.2.2))
                        (.opt Bool (top_awake q) fun r170 =>
                          .leaf (r170))
                        (.leaf (false)))
                      (.leaf (false))))))
noncomputable def top_PartsAccess (q : Option Nat) (x0 : Machine) (x1 : Int) : Option Bool := (Ttop_PartsAccess q x0 x1).run
theorem letop_PartsAccess (k : Nat) (x0 : Machine) (x1 : Int) : Le (top_PartsAccess (some k) x0 x1) (top_PartsAccess none x0 x1) := (TLe.opt (letop_fit k _) fun _ => (TLe.ite (TLe.opt (letop_awake k) fun _ => TLe.rfl) (TLe.ite (TLe.opt (letop_awake k) fun _ => TLe.rfl) (TLe.ite (TLe.opt (letop_awake k) fun _ => TLe.rfl) (TLe.opt (lecpu_Load k _ _ _) fun _ => (TLe.opt Le.rfl fun _ => (TLe.opt Le.rfl fun _ => (TLe.ite (TLe.ite (TLe.ite (TLe.opt (letop_awake k) fun _ => TLe.rfl) TLe.rfl) TLe.rfl) (TLe.opt (lebus_Read k _ _ _) fun _ => (TLe.ite (TLe.ite (TLe.opt (letop_awake k) fun _ => TLe.rfl) TLe.rfl) TLe.rfl))))))))))
noncomputable def Atop_PartsAccess : Arg U (Machine × Int × Unit) := aA cMachine (aO (cInt .i64) (aNil))
noncomputable def Rtop_PartsAccess (r : Bool) : List (V U) × List (Blk U) := ([vO cBool r], [])
noncomputable def Stop_PartsAccess : List (V U) → List (Blk U) → Option (FnOut U) := mkSpec Atop_PartsAccess bNil (fun x _ => top_PartsAccess none x.1 x.2.1) Rtop_PartsAccess
noncomputable def Etop_PartsAccess : Env U := { P := Try.prog, cd := cd, fns := fns13, lps := noL, frz := fun _r => false, nt := 77, n0 := 0 }
theorem runtop_PartsAccess (x : Machine × Int × Unit) (g : Unit) : execF Etop_PartsAccess Try.f4 (Atop_PartsAccess.enc x) (bNil.enc g) = (Ttop_PartsAccess none x.1 x.2.1).map Rtop_PartsAccess := by kernel_rfl
theorem oktop_PartsAccess : FnOk Try.prog cd 4 Stop_PartsAccess := mk_ok (E := Etop_PartsAccess) cd_ok fns13_ok Try.func4 (by kernel_rfl) (noLoops_body (by kernel_rfl)) (aA_ok cMachine_ok (aO_ok (cInt_ok .i64) (aNil_ok))) bNil_ok (T := fun x _ => Ttop_PartsAccess none x.1 x.2.1) (fun _ _ => rfl) runtop_PartsAccess
noncomputable def fns4 := addF 4 true Stop_PartsAccess fns13
theorem fns4_ok : ∀ f q t, fns4 f = some (q, t) → FnOk Try.prog cd f t := addF_ok oktop_PartsAccess fns13_ok
/-- emulator/monitor.within -/
noncomputable def Tmonitor_within (x0 : Machine) (x1 : Int) (x2 : Int) : Tree Bool :=
  .ite (decide ((1 : Int) ≤ x2))
    (.ite (decide (x2 ≤ (64 : Int)))
      (.ite (decide ((0 : Int) ≤ x1))
        (.ite (decide ((2 : Int) = 0))
          .fail
          (.ite (decide (((x1).tmod (2 : Int)) = (0 : Int)))
            (.ite (decide ((2 : Int) = 0))
              .fail
              (.leaf (decide ((IntKind.wrap .i64 ((x1).tdiv (2 : Int))) ≤ (IntKind.wrap .i64 ((x0.mem.length : Int) - x2))))))
            (.leaf (false))))
        (.leaf (false)))
      (.leaf (false)))
    (.leaf (false))
noncomputable def monitor_within (x0 : Machine) (x1 : Int) (x2 : Int) : Option Bool := (Tmonitor_within x0 x1 x2).run
noncomputable def Amonitor_within : Arg U (Machine × Int × Int × Unit) := aA cMachine (aO (cInt .i64) (aO (cInt .i64) (aNil)))
noncomputable def Rmonitor_within (r : Bool) : List (V U) × List (Blk U) := ([vO cBool r], [])
noncomputable def Smonitor_within : List (V U) → List (Blk U) → Option (FnOut U) := mkSpec Amonitor_within bNil (fun x _ => monitor_within x.1 x.2.1 x.2.2.1) Rmonitor_within
noncomputable def Emonitor_within : Env U := { P := Try.prog, cd := cd, fns := fns4, lps := noL, frz := fun _r => false, nt := 32, n0 := 0 }
theorem runmonitor_within (x : Machine × Int × Int × Unit) (g : Unit) : execF Emonitor_within Try.f36 (Amonitor_within.enc x) (bNil.enc g) = (Tmonitor_within x.1 x.2.1 x.2.2.1).map Rmonitor_within := by kernel_rfl
theorem okmonitor_within : FnOk Try.prog cd 36 Smonitor_within := mk_ok (E := Emonitor_within) cd_ok fns4_ok Try.func36 (by kernel_rfl) (noLoops_body (by kernel_rfl)) (aA_ok cMachine_ok (aO_ok (cInt_ok .i64) (aO_ok (cInt_ok .i64) (aNil_ok)))) bNil_ok (T := fun x _ => Tmonitor_within x.1 x.2.1 x.2.2.1) (fun _ _ => rfl) runmonitor_within
noncomputable def fns36 := addF 36 true Smonitor_within fns4
theorem fns36_ok : ∀ f q t, fns36 f = some (q, t) → FnOk Try.prog cd f t := addF_ok okmonitor_within fns4_ok
/-- emulator/monitor.isWord -/
noncomputable def Tmonitor_isWord (x0 : Int) : Tree Bool :=
  .ite (decide ((0 : Int) ≤ x0))
    (.leaf (decide (x0 ≤ (65535 : Int))))
    (.leaf (false))
noncomputable def monitor_isWord (x0 : Int) : Option Bool := (Tmonitor_isWord x0).run
noncomputable def Amonitor_isWord : Arg U (Int × Unit) := aO (cInt .i64) (aNil)
noncomputable def Rmonitor_isWord (r : Bool) : List (V U) × List (Blk U) := ([vO cBool r], [])
noncomputable def Smonitor_isWord : List (V U) → List (Blk U) → Option (FnOut U) := mkSpec Amonitor_isWord bNil (fun x _ => monitor_isWord x.1) Rmonitor_isWord
noncomputable def Emonitor_isWord : Env U := { P := Try.prog, cd := cd, fns := fns36, lps := noL, frz := fun _r => false, nt := 9, n0 := 0 }
theorem runmonitor_isWord (x : Int × Unit) (g : Unit) : execF Emonitor_isWord Try.f39 (Amonitor_isWord.enc x) (bNil.enc g) = (Tmonitor_isWord x.1).map Rmonitor_isWord := by kernel_rfl
theorem okmonitor_isWord : FnOk Try.prog cd 39 Smonitor_isWord := mk_ok (E := Emonitor_isWord) cd_ok fns36_ok Try.func39 (by kernel_rfl) (noLoops_body (by kernel_rfl)) (aO_ok (cInt_ok .i64) (aNil_ok)) bNil_ok (T := fun x _ => Tmonitor_isWord x.1) (fun _ _ => rfl) runmonitor_isWord
noncomputable def fns39 := addF 39 true Smonitor_isWord fns36
theorem fns39_ok : ∀ f q t, fns39 f = some (q, t) → FnOk Try.prog cd f t := addF_ok okmonitor_isWord fns36_ok
/-- emulator/monitor.Deposit$1 -/
noncomputable def Tmonitor_Deposit_1 (x0 : Int) : Tree Bool :=
  .opt Bool (monitor_isWord x0) fun r171 =>
    .leaf (!r171)
noncomputable def monitor_Deposit_1 (x0 : Int) : Option Bool := (Tmonitor_Deposit_1 x0).run
noncomputable def Amonitor_Deposit_1 : Arg U (Int × Unit) := aO (cInt .i64) (aNil)
noncomputable def Rmonitor_Deposit_1 (r : Bool) : List (V U) × List (Blk U) := ([vO cBool r], [])
noncomputable def Smonitor_Deposit_1 : List (V U) → List (Blk U) → Option (FnOut U) := mkSpec Amonitor_Deposit_1 bNil (fun x _ => monitor_Deposit_1 x.1) Rmonitor_Deposit_1
noncomputable def Emonitor_Deposit_1 : Env U := { P := Try.prog, cd := cd, fns := fns39, lps := noL, frz := fun _r => false, nt := 6, n0 := 0 }
theorem runmonitor_Deposit_1 (x : Int × Unit) (g : Unit) : execF Emonitor_Deposit_1 Try.f38 (Amonitor_Deposit_1.enc x) (bNil.enc g) = (Tmonitor_Deposit_1 x.1).map Rmonitor_Deposit_1 := by kernel_rfl
theorem okmonitor_Deposit_1 : FnOk Try.prog cd 38 Smonitor_Deposit_1 := mk_ok (E := Emonitor_Deposit_1) cd_ok fns39_ok Try.func38 (by kernel_rfl) (noLoops_body (by kernel_rfl)) (aO_ok (cInt_ok .i64) (aNil_ok)) bNil_ok (T := fun x _ => Tmonitor_Deposit_1 x.1) (fun _ _ => rfl) runmonitor_Deposit_1
noncomputable def fns38 := addF 38 true Smonitor_Deposit_1 fns39
theorem fns38_ok : ∀ f q t, fns38 f = some (q, t) → FnOk Try.prog cd f t := addF_ok okmonitor_Deposit_1 fns39_ok
/-- emulator/memory.copied -/
noncomputable def Tmemory_copied (x0 : (List Int)) : Tree (List Int) :=
  .ite (decide ((x0.length : Int) = (x0.length : Int)))
    (.ite (decide (0 ≤ (x0.length : Int)))
      (.ite (decide ((8 : Int) * (x0.length : Int) ≤ 281474976710656))
        (.leaf (x0.take (List.replicate ((x0.length : Int)).toNat (0 : Int)).length ++ (List.replicate ((x0.length : Int)).toNat (0 : Int)).drop x0.length))
        .fail)
      .fail)
    .fail
noncomputable def memory_copied (x0 : (List Int)) : Option (List Int) := (Tmemory_copied x0).run
noncomputable def Amemory_copied : Arg U ((List Int) × Unit) := aO (cSl 3) (aNil)
noncomputable def Gmemory_copied : Bls U (Unit) := bNil
noncomputable def Rmemory_copied (_x : (List Int) × Unit) (_g : Unit) (r : (List Int)) : List (V U) × List (Blk U) := ([vO (cK (.row 0 0) (cUnit)) (())], [.row 3 0 r])
noncomputable def Smemory_copied : List (V U) → List (Blk U) → Option (FnOut U) := mkSpecG Amemory_copied Gmemory_copied (fun x _ => memory_copied x.1) Rmemory_copied
noncomputable def Ememory_copied : Env U := { P := Try.prog, cd := cd, fns := fns38, lps := noL, frz := fun _r => false, nt := 11, n0 := 0 }
theorem rnmemory_copied (x0 : (List Int)) : execX true Ememory_copied Try.f44 (Amemory_copied.enc (x0, ())) (Gmemory_copied.enc ()) = (Tmemory_copied x0).map (Rmemory_copied (x0, ()) ()) := by kernel_rfl
theorem runmemory_copied : ∀ (x : (List Int) × Unit) (g : Unit), execX true Ememory_copied Try.f44 (Amemory_copied.enc x) (Gmemory_copied.enc g) = (Tmemory_copied x.1).map (Rmemory_copied x g)
  | (x0, ()), () => rnmemory_copied x0
theorem okmemory_copied : FnOk Try.prog cd 44 Smemory_copied := mk_okG (E := Ememory_copied) (A := Amemory_copied) (B := Gmemory_copied) true cd_ok fns38_ok Try.func44 (by kernel_rfl) (noLoops_body (by kernel_rfl)) (aO_ok (cSl_ok 3) (aNil_ok)) bNil_ok (T := fun (x : (List Int) × Unit) (_ : Unit) => Tmemory_copied x.1) (fun _ _ => rfl) runmemory_copied
end Go.Proofs.Ytlaabdpccdnalaa
namespace Go.Proofs
shelf_lay_g SlLaysE0.n41 Slgn 41 at Try 24 as Try.lays24
end Go.Proofs
namespace Go.Proofs.Ytlaabdpccdnalaa
open Go Go.Ab
theorem okslices_Clone_int_int : FnOk Try.prog cd 24 (cloneSpec 3 8) := clone_ok2 cd_ok Try.lays24 Try.func24 (by kernel_rfl) (by kernel_rfl) rfl rfl (by kernel_rfl)
/-- emulator/memory.Write$1 -/
noncomputable def Tmemory_Write_1 (x0 : Int) (g0 : Int) : Tree Bool :=
  .leaf (decide (x0 = (IntKind.wrap .i64 (((BitVec.ofInt 64 g0 &&& ~~~BitVec.ofInt 64 (1 : Int)).toNat : Int)))))
noncomputable def memory_Write_1 (x0 : Int) (g0 : Int) : Option Bool := (Tmemory_Write_1 x0 g0).run
noncomputable def Amemory_Write_1 : Arg U (Int × Unit) := aO (cInt .i64) (aP 0 0 (aNil))
noncomputable def Gmemory_Write_1 : Bls U (Int × Unit) := bC (cInt .i64) (bNil)
noncomputable def Rmemory_Write_1 (_x : Int × Unit) (g : Int × Unit) (r : Bool) : List (V U) × List (Blk U) := ([vO (cPair cBool (cUnit)) (r, ())], [.cells (((cInt .i64) : Cdc U Int).enc g.1)])
noncomputable def Smemory_Write_1 : List (V U) → List (Blk U) → Option (FnOut U) := mkSpecG Amemory_Write_1 Gmemory_Write_1 (fun x g => memory_Write_1 x.1 g.1) Rmemory_Write_1
noncomputable def Ememory_Write_1 : Env U := { P := Try.prog, cd := cd, fns := fns38, lps := noL, frz := fun _r => false, nt := 8, n0 := 1 }
theorem rnmemory_Write_1 (x0 : Int) (g0 : Int) : execX false Ememory_Write_1 Try.f64 (Amemory_Write_1.enc (x0, ())) (Gmemory_Write_1.enc (g0, ())) = (Tmemory_Write_1 x0 g0).map (Rmemory_Write_1 (x0, ()) (g0, ())) := by kernel_rfl
theorem runmemory_Write_1 : ∀ (x : Int × Unit) (g : Int × Unit), execX false Ememory_Write_1 Try.f64 (Amemory_Write_1.enc x) (Gmemory_Write_1.enc g) = (Tmemory_Write_1 x.1 g.1).map (Rmemory_Write_1 x g)
  | (x0, ()), (g0, ()) => rnmemory_Write_1 x0 g0
theorem okmemory_Write_1 : FnOk Try.prog cd 64 Smemory_Write_1 := mk_okG (E := Ememory_Write_1) (A := Amemory_Write_1) (B := Gmemory_Write_1) false cd_ok fns38_ok Try.func64 (by kernel_rfl) (noLoops_body (by kernel_rfl)) (aO_ok (cInt_ok .i64) (aP_ok (aNil_ok))) (bC_ok (cInt_ok .i64) bNil_ok) (T := fun (x : Int × Unit) (g : Int × Unit) => Tmemory_Write_1 x.1 g.1) (fun _ _ => rfl) runmemory_Write_1
/-- slices.IndexFunc[[]int,int] -/
structure Sslices_IndexFunc_int_int_0 where
  t7 : Int
  t8 : Int
  b0 : (List Int)
  b1_0 : Int
noncomputable def Wslices_IndexFunc_int_int_0 (s : Sslices_IndexFunc_int_int_0) : Tree (Sslices_IndexFunc_int_int_0 ⊕ ((Int × (List Int) × Int) ⊕ ((List Int) × Int))) :=
  .ite (decide (s.t8 < s.t7))
    (.ite (decide (0 ≤ s.t8))
      (.ite (decide (s.t8 < (s.b0.length : Int)))
        (.opt Int (s.b0[(s.t8).toNat]?) fun y184 =>
          .opt Bool (memory_Write_1 y184 s.b1_0) fun r185 =>
            .ite (r185)
              (.leaf (.inr (.inl (s.t8, s.b0, s.b1_0))))
              (.leaf (.inl (Sslices_IndexFunc_int_int_0.mk s.t7 (IntKind.wrap .i64 (s.t8 + (1 : Int))) s.b0 s.b1_0))))
        .fail)
      .fail)
    (.leaf (.inr (.inr (s.b0, s.b1_0))))
noncomputable def Lslices_IndexFunc_int_int_0 (q : Option Nat) (s : Sslices_IndexFunc_int_int_0) : Option ((Int × (List Int) × Int) ⊕ ((List Int) × Int)) := limQ q (fun s => (Wslices_IndexFunc_int_int_0 s).run) s
theorem leLslices_IndexFunc_int_int_0 (k : Nat) (s : Sslices_IndexFunc_int_int_0) : Le (Lslices_IndexFunc_int_int_0 (some k) s) (Lslices_IndexFunc_int_int_0 none s) := limQ_le (fun _ => Le.rfl) s
noncomputable def Tslices_IndexFunc_int_int (q : Option Nat) (g0 : (List Int)) (g1 : Int) : Tree (Int × (List Int) × Int) :=
  .opt ((Int × (List Int) × Int) ⊕ ((List Int) × Int)) (Lslices_IndexFunc_int_int_0 q (Sslices_IndexFunc_int_int_0.mk (g0.length : Int) (0 : Int) g0 g1)) fun l186 =>
    .ite (l186.isLeft)
      (.opt (Int × (List Int) × Int) (l186.getLeft?) fun a187 =>
        .leaf ((a187.1, a187.2.1, a187.2.2)))
      (.opt ((List Int) × Int) (l186.getRight?) fun b188 =>
        .leaf (((-1 : Int), b188.1, b188.2)))
noncomputable def slices_IndexFunc_int_int (q : Option Nat) (g0 : (List Int)) (g1 : Int) : Option (Int × (List Int) × Int) := (Tslices_IndexFunc_int_int q g0 g1).run
theorem leslices_IndexFunc_int_int (k : Nat) (g0 : (List Int)) (g1 : Int) : Le (slices_IndexFunc_int_int (some k) g0 g1) (slices_IndexFunc_int_int none g0 g1) := (TLe.opt (leLslices_IndexFunc_int_int_0 k _) fun _ => TLe.rfl)
noncomputable def Aslices_IndexFunc_int_int : Arg U (Unit) := aR 0 (aF 64 [(.ptr 1 0)] (aNil))
noncomputable def Gslices_IndexFunc_int_int : Bls U ((List Int) × Int × Unit) := bR 3 (bC (cInt .i64) (bNil))
noncomputable def Rslices_IndexFunc_int_int (_x : Unit) (_g : (List Int) × Int × Unit) (r : (Int × (List Int) × Int)) : List (V U) × List (Blk U) := ([vO (cPair (cInt .i64) (cUnit)) (r.1, ())], [.row 3 0 r.2.1, .cells ((cPair (cInt .i64) (cUnit) : Cdc U (Int × Unit)).enc (r.2.2, ()))])
noncomputable def Sslices_IndexFunc_int_int : List (V U) → List (Blk U) → Option (FnOut U) := mkSpecG Aslices_IndexFunc_int_int Gslices_IndexFunc_int_int (fun x g => slices_IndexFunc_int_int none g.1 g.2.1) Rslices_IndexFunc_int_int
noncomputable def Pslices_IndexFunc_int_int_0 (x : (Unit) × (Unit) × (Int × Unit) × (Int × Unit) × Unit) (g : (List Int) × (Int × Unit) × Unit) : Sslices_IndexFunc_int_int_0 := Sslices_IndexFunc_int_int_0.mk x.2.2.1.1 x.2.2.2.1.1 g.1 g.2.1.1
noncomputable def tAslices_IndexFunc_int_int_0 : Tms U ((Unit) × (Unit) × (Int × Unit) × (Int × Unit) × Unit) := tO 0 (cK (.row 0 0) (cUnit)) (tO 1 (cK2 (.fn 64 [] [(.ptr 1 0)]) (cUnit)) (tO 7 (cPair (cInt .i64) (cUnit)) (tO 8 (cPair (cInt .i64) (cUnit)) (tNil))))
noncomputable def tBslices_IndexFunc_int_int_0 : Bls U ((List Int) × (Int × Unit) × Unit) := bRv 3 0 (bC (cPair (cInt .i64) (cUnit)) (bNil))
noncomputable def eSslices_IndexFunc_int_int_0 (s : Sslices_IndexFunc_int_int_0) : St U := { tm := [(0, .v (vO (cK (.row 0 0) (cUnit)) (()))), (1, .v (vO (cK2 (.fn 64 [] [(.ptr 1 0)]) (cUnit)) (()))), (7, .v (vO (cPair (cInt .i64) (cUnit)) (s.t7, ()))), (8, .v (vO (cPair (cInt .i64) (cUnit)) (s.t8, ())))], hp := [.row 3 0 s.b0, .cells ((cPair (cInt .i64) (cUnit) : Cdc U (Int × Unit)).enc (s.b1_0, ()))] }
noncomputable def xSslices_IndexFunc_int_int_0 : ((Int × (List Int) × Int) ⊕ ((List Int) × Int)) → Ex × St U
  | .inl r => (.ret, { tm := [(4, .v (vO (cPair (cInt .i64) (cUnit)) (r.1, ())))], hp := [.row 3 0 r.2.1, .cells ((cPair (cInt .i64) (cUnit) : Cdc U (Int × Unit)).enc (r.2.2, ()))] })
  | .inr r => (.exit 0, { tm := [], hp := [.row 3 0 r.1, .cells ((cPair (cInt .i64) (cUnit) : Cdc U (Int × Unit)).enc (r.2, ()))] })
noncomputable def xTslices_IndexFunc_int_int_0 (y : ((Int × (List Int) × Int) ⊕ ((List Int) × Int))) : Tree (Ex × St U) := .ite y.isLeft (.opt (Int × (List Int) × Int) y.getLeft? fun r => .leaf (.ret, { tm := [(4, .v (vO (cPair (cInt .i64) (cUnit)) (r.1, ())))], hp := [.row 3 0 r.2.1, .cells ((cPair (cInt .i64) (cUnit) : Cdc U (Int × Unit)).enc (r.2.2, ()))] })) (.opt ((List Int) × Int) y.getRight? fun r => .leaf (.exit 0, { tm := [], hp := [.row 3 0 r.1, .cells ((cPair (cInt .i64) (cUnit) : Cdc U (Int × Unit)).enc (r.2, ()))] }))
noncomputable def hslices_IndexFunc_int_int_0 : Hd := { keep := [0, 1, 7, 8], xkeep := [4], own := false }
noncomputable def Eslices_IndexFunc_int_int : Env U := { P := Try.prog, cd := cd, fns := (addF 64 false (Smemory_Write_1) fns38), lps := (addL 0 hslices_IndexFunc_int_int_0 (mkLoop tAslices_IndexFunc_int_int_0 tBslices_IndexFunc_int_int_0 Pslices_IndexFunc_int_int_0 (Lslices_IndexFunc_int_int_0 none) xTslices_IndexFunc_int_int_0) noL), frz := fun _r => false, nt := 19, n0 := 2 }
noncomputable def Bslices_IndexFunc_int_int_0 : Code := (loopAt (Try.f51.body.getD .skip) 0 0).getD .skip
theorem roundslices_IndexFunc_int_int_0 (s : Sslices_IndexFunc_int_int_0) : round Eslices_IndexFunc_int_int hslices_IndexFunc_int_int_0 Bslices_IndexFunc_int_int_0 0 (eSslices_IndexFunc_int_int_0 s) = (Wslices_IndexFunc_int_int_0 s).map (sumE eSslices_IndexFunc_int_int_0 xSslices_IndexFunc_int_int_0) := by kernel_rfl
theorem lpslices_IndexFunc_int_int_0 : LpOk Eslices_IndexFunc_int_int Bslices_IndexFunc_int_int_0 0 := mkLoop_ok (A := tAslices_IndexFunc_int_int_0) (B := tBslices_IndexFunc_int_int_0) (f := Pslices_IndexFunc_int_int_0) (L := Lslices_IndexFunc_int_int_0 none) (tO_ok (cK_ok cUnit_ok) (tO_ok (cK2_ok cUnit_ok) (tO_ok (cPair_ok (cInt_ok .i64) cUnit_ok) (tO_ok (cPair_ok (cInt_ok .i64) cUnit_ok) tNil_ok)))) (bRv_ok (bC_ok (cPair_ok (cInt_ok .i64) cUnit_ok) bNil_ok)) (enc := eSslices_IndexFunc_int_int_0) (out := xTslices_IndexFunc_int_int_0) (outS := xSslices_IndexFunc_int_int_0) (step := Wslices_IndexFunc_int_int_0) (fun _ => rfl) (fun _ _ => by kernel_rfl) (by kernel_rfl) (fun b => by cases b <;> rfl) roundslices_IndexFunc_int_int_0
theorem rnslices_IndexFunc_int_int (g0 : (List Int)) (g1 : Int) : execX false Eslices_IndexFunc_int_int Try.f51 (Aslices_IndexFunc_int_int.enc ()) (Gslices_IndexFunc_int_int.enc (g0, g1, ())) = (Tslices_IndexFunc_int_int none g0 g1).map (Rslices_IndexFunc_int_int () (g0, g1, ())) := by kernel_rfl
theorem runslices_IndexFunc_int_int : ∀ (x : Unit) (g : (List Int) × Int × Unit), execX false Eslices_IndexFunc_int_int Try.f51 (Aslices_IndexFunc_int_int.enc x) (Gslices_IndexFunc_int_int.enc g) = (Tslices_IndexFunc_int_int none g.1 g.2.1).map (Rslices_IndexFunc_int_int x g)
  | (), (g0, g1, ()) => rnslices_IndexFunc_int_int g0 g1
theorem okslices_IndexFunc_int_int : FnOk Try.prog cd 51 Sslices_IndexFunc_int_int := mk_okG (E := Eslices_IndexFunc_int_int) (A := Aslices_IndexFunc_int_int) (B := Gslices_IndexFunc_int_int) false cd_ok (addF_ok okmemory_Write_1 fns38_ok) Try.func51 (by kernel_rfl) (loops_of (addL_ok lpslices_IndexFunc_int_int_0 noL_ok)) (aR_ok (aF_ok (aNil_ok))) (bR_ok (bC_ok (cInt_ok .i64) bNil_ok)) (T := fun (x : Unit) (g : (List Int) × Int × Unit) => Tslices_IndexFunc_int_int none g.1 g.2.1) (fun _ _ => rfl) runslices_IndexFunc_int_int
/-- slices.DeleteFunc[[]int,int] -/
structure Sslices_DeleteFunc_int_int_0 where
  t5 : Int
  t6 : Int
  b0 : (List Int)
  b1_0 : Int
noncomputable def Wslices_DeleteFunc_int_int_0 (s : Sslices_DeleteFunc_int_int_0) : Tree (Sslices_DeleteFunc_int_int_0 ⊕ (Int × (List Int) × Int)) :=
  .ite (decide (s.t6 < (s.b0.length : Int)))
    (.ite (decide (0 ≤ s.t6))
      (.ite (decide (s.t6 < (s.b0.length : Int)))
        (.opt Int (s.b0[(s.t6).toNat]?) fun y190 =>
          .opt Bool (memory_Write_1 y190 s.b1_0) fun r191 =>
            .ite (!r191)
              (.ite (decide (0 ≤ s.t5))
                (.ite (decide (s.t5 < (s.b0.length : Int)))
                  (.opt Int (s.b0[(s.t5).toNat]?) fun y192 =>
                    .leaf (.inl (Sslices_DeleteFunc_int_int_0.mk (IntKind.wrap .i64 (s.t5 + (1 : Int))) (IntKind.wrap .i64 (s.t6 + (1 : Int))) (s.b0.set ((s.t5).toNat) y190) s.b1_0)))
                  .fail)
                .fail)
              (.leaf (.inl (Sslices_DeleteFunc_int_int_0.mk s.t5 (IntKind.wrap .i64 (s.t6 + (1 : Int))) s.b0 s.b1_0))))
        .fail)
      .fail)
    (.leaf (.inr (s.t5, s.b0, s.b1_0)))
noncomputable def Lslices_DeleteFunc_int_int_0 (q : Option Nat) (s : Sslices_DeleteFunc_int_int_0) : Option (Int × (List Int) × Int) := limQ q (fun s => (Wslices_DeleteFunc_int_int_0 s).run) s
theorem leLslices_DeleteFunc_int_int_0 (k : Nat) (s : Sslices_DeleteFunc_int_int_0) : Le (Lslices_DeleteFunc_int_int_0 (some k) s) (Lslices_DeleteFunc_int_int_0 none s) := limQ_le (fun _ => Le.rfl) s
noncomputable def Tslices_DeleteFunc_int_int (q : Option Nat) (g0 : (List Int)) (g1 : Int) : Tree (((List Int) × Int) ⊕ ((Nat × Nat) × (List Int) × Int)) :=
  .opt (Int × (List Int) × Int) (slices_IndexFunc_int_int q g0 g1) fun r189 =>
    .ite (decide (r189.1 = (-1 : Int)))
      (.leaf (.inl (r189.2.1, r189.2.2)))
      (.opt (Int × (List Int) × Int) (Lslices_DeleteFunc_int_int_0 q (Sslices_DeleteFunc_int_int_0.mk r189.1 (IntKind.wrap .i64 (r189.1 + (1 : Int))) r189.2.1 r189.2.2)) fun l193 =>
        .ite (decide (0 ≤ l193.1))
          (.ite (decide (l193.1 ≤ ((l193.2.1.length : Nat) : Int)))
            (.ite (decide (0 ≤ l193.1))
              (.ite (decide (l193.1 ≤ (((l193.2.1.take ((l193.1).toNat) ++ List.replicate (l193.2.1.length - (l193.1).toNat) (0 : Int) ++ l193.2.1.drop ((l193.1).toNat + (l193.2.1.length - (l193.1).toNat))).length : Nat) : Int)))
                (.leaf (.inr ((0, (l193.1).toNat - 0), l193.2.1.take ((l193.1).toNat) ++ List.replicate (l193.2.1.length - (l193.1).toNat) (0 : Int) ++ l193.2.1.drop ((l193.1).toNat + (l193.2.1.length - (l193.1).toNat)), l193.2.2)))
                .fail)
              .fail)
            .fail)
          .fail)
noncomputable def slices_DeleteFunc_int_int (q : Option Nat) (g0 : (List Int)) (g1 : Int) : Option (((List Int) × Int) ⊕ ((Nat × Nat) × (List Int) × Int)) := (Tslices_DeleteFunc_int_int q g0 g1).run
theorem leslices_DeleteFunc_int_int (k : Nat) (g0 : (List Int)) (g1 : Int) : Le (slices_DeleteFunc_int_int (some k) g0 g1) (slices_DeleteFunc_int_int none g0 g1) := (TLe.opt (leslices_IndexFunc_int_int k _ _) fun _ => (TLe.ite TLe.rfl (TLe.opt (leLslices_DeleteFunc_int_int_0 k _) fun _ => TLe.rfl)))
noncomputable def Aslices_DeleteFunc_int_int : Arg U (Unit) := aR 0 (aF 64 [(.ptr 1 0)] (aNil))
noncomputable def Gslices_DeleteFunc_int_int : Bls U ((List Int) × Int × Unit) := bR 3 (bC (cInt .i64) (bNil))
noncomputable def Rslices_DeleteFunc_int_int (_x : Unit) (_g : (List Int) × Int × Unit) (r : ((List Int) × Int)) : List (V U) × List (Blk U) := ([vO (cK (.row 0 0) (cUnit)) (())], [.row 3 0 r.1, .cells ((cPair (cInt .i64) (cUnit) : Cdc U (Int × Unit)).enc (r.2, ()))])
noncomputable def Rslices_DeleteFunc_int_intb (_x : Unit) (_g : (List Int) × Int × Unit) (r : ((Nat × Nat) × (List Int) × Int)) : List (V U) × List (Blk U) := ([vO (cPair (cOwn 0 0) (cUnit)) (r.1, ())], [.row 3 0 r.2.1, .cells ((cPair (cInt .i64) (cUnit) : Cdc U (Int × Unit)).enc (r.2.2, ()))])
noncomputable def Sslices_DeleteFunc_int_int : List (V U) → List (Blk U) → Option (FnOut U) := mkSpecG2 Aslices_DeleteFunc_int_int Gslices_DeleteFunc_int_int (fun x g => slices_DeleteFunc_int_int none g.1 g.2.1) Rslices_DeleteFunc_int_int Rslices_DeleteFunc_int_intb
noncomputable def Pslices_DeleteFunc_int_int_0 (x : (Unit) × (Unit) × (Int × Unit) × (Int × Unit) × Unit) (g : (List Int) × (Int × Unit) × Unit) : Sslices_DeleteFunc_int_int_0 := Sslices_DeleteFunc_int_int_0.mk x.2.2.1.1 x.2.2.2.1.1 g.1 g.2.1.1
noncomputable def tAslices_DeleteFunc_int_int_0 : Tms U ((Unit) × (Unit) × (Int × Unit) × (Int × Unit) × Unit) := tO 0 (cK (.row 0 0) (cUnit)) (tO 1 (cK2 (.fn 64 [] [(.ptr 1 0)]) (cUnit)) (tO 5 (cPair (cInt .i64) (cUnit)) (tO 6 (cPair (cInt .i64) (cUnit)) (tNil))))
noncomputable def tBslices_DeleteFunc_int_int_0 : Bls U ((List Int) × (Int × Unit) × Unit) := bRv 3 0 (bC (cPair (cInt .i64) (cUnit)) (bNil))
noncomputable def eSslices_DeleteFunc_int_int_0 (s : Sslices_DeleteFunc_int_int_0) : St U := { tm := [(0, .v (vO (cK (.row 0 0) (cUnit)) (()))), (1, .v (vO (cK2 (.fn 64 [] [(.ptr 1 0)]) (cUnit)) (()))), (5, .v (vO (cPair (cInt .i64) (cUnit)) (s.t5, ()))), (6, .v (vO (cPair (cInt .i64) (cUnit)) (s.t6, ())))], hp := [.row 3 0 s.b0, .cells ((cPair (cInt .i64) (cUnit) : Cdc U (Int × Unit)).enc (s.b1_0, ()))] }
noncomputable def xSslices_DeleteFunc_int_int_0 (r : (Int × (List Int) × Int)) : Ex × St U := (.exit 0, { tm := [(0, .v (vO (cK (.row 0 0) (cUnit)) (()))), (5, .v (vO (cPair (cInt .i64) (cUnit)) (r.1, ())))], hp := [.row 3 0 r.2.1, .cells ((cPair (cInt .i64) (cUnit) : Cdc U (Int × Unit)).enc (r.2.2, ()))] })
noncomputable def xTslices_DeleteFunc_int_int_0 (r : (Int × (List Int) × Int)) : Tree (Ex × St U) := .leaf (xSslices_DeleteFunc_int_int_0 r)
noncomputable def hslices_DeleteFunc_int_int_0 : Hd := { keep := [0, 1, 5, 6], xkeep := [0, 4, 5], own := false }
noncomputable def Eslices_DeleteFunc_int_int : Env U := { P := Try.prog, cd := cd, fns := (addF 64 false (Smemory_Write_1) (addF 51 false (Sslices_IndexFunc_int_int) fns38)), lps := (addL 0 hslices_DeleteFunc_int_int_0 (mkLoop tAslices_DeleteFunc_int_int_0 tBslices_DeleteFunc_int_int_0 Pslices_DeleteFunc_int_int_0 (Lslices_DeleteFunc_int_int_0 none) xTslices_DeleteFunc_int_int_0) noL), frz := fun _r => false, nt := 42, n0 := 2 }
noncomputable def Bslices_DeleteFunc_int_int_0 : Code := (loopAt (Try.f23.body.getD .skip) 0 0).getD .skip
theorem roundslices_DeleteFunc_int_int_0 (s : Sslices_DeleteFunc_int_int_0) : round Eslices_DeleteFunc_int_int hslices_DeleteFunc_int_int_0 Bslices_DeleteFunc_int_int_0 0 (eSslices_DeleteFunc_int_int_0 s) = (Wslices_DeleteFunc_int_int_0 s).map (sumE eSslices_DeleteFunc_int_int_0 xSslices_DeleteFunc_int_int_0) := by kernel_rfl
theorem lpslices_DeleteFunc_int_int_0 : LpOk Eslices_DeleteFunc_int_int Bslices_DeleteFunc_int_int_0 0 := mkLoop_ok (A := tAslices_DeleteFunc_int_int_0) (B := tBslices_DeleteFunc_int_int_0) (f := Pslices_DeleteFunc_int_int_0) (L := Lslices_DeleteFunc_int_int_0 none) (tO_ok (cK_ok cUnit_ok) (tO_ok (cK2_ok cUnit_ok) (tO_ok (cPair_ok (cInt_ok .i64) cUnit_ok) (tO_ok (cPair_ok (cInt_ok .i64) cUnit_ok) tNil_ok)))) (bRv_ok (bC_ok (cPair_ok (cInt_ok .i64) cUnit_ok) bNil_ok)) (enc := eSslices_DeleteFunc_int_int_0) (out := xTslices_DeleteFunc_int_int_0) (outS := xSslices_DeleteFunc_int_int_0) (step := Wslices_DeleteFunc_int_int_0) (fun _ => rfl) (fun _ _ => by kernel_rfl) (by kernel_rfl) (fun _ => rfl) roundslices_DeleteFunc_int_int_0
theorem rnslices_DeleteFunc_int_int (g0 : (List Int)) (g1 : Int) : execX false Eslices_DeleteFunc_int_int Try.f23 (Aslices_DeleteFunc_int_int.enc ()) (Gslices_DeleteFunc_int_int.enc (g0, g1, ())) = (Tslices_DeleteFunc_int_int none g0 g1).map ((Sum.elim (Rslices_DeleteFunc_int_int () (g0, g1, ())) (Rslices_DeleteFunc_int_intb () (g0, g1, ())))) := by kernel_rfl
theorem runslices_DeleteFunc_int_int : ∀ (x : Unit) (g : (List Int) × Int × Unit), execX false Eslices_DeleteFunc_int_int Try.f23 (Aslices_DeleteFunc_int_int.enc x) (Gslices_DeleteFunc_int_int.enc g) = (Tslices_DeleteFunc_int_int none g.1 g.2.1).map ((Sum.elim (Rslices_DeleteFunc_int_int x g) (Rslices_DeleteFunc_int_intb x g)))
  | (), (g0, g1, ()) => rnslices_DeleteFunc_int_int g0 g1
theorem okslices_DeleteFunc_int_int : FnOk Try.prog cd 23 Sslices_DeleteFunc_int_int := mk_okG2 (E := Eslices_DeleteFunc_int_int) (A := Aslices_DeleteFunc_int_int) (B := Gslices_DeleteFunc_int_int) false cd_ok (addF_ok okmemory_Write_1 (addF_ok okslices_IndexFunc_int_int fns38_ok)) Try.func23 (by kernel_rfl) (loops_of (addL_ok lpslices_DeleteFunc_int_int_0 noL_ok)) (aR_ok (aF_ok (aNil_ok))) (bR_ok (bC_ok (cInt_ok .i64) bNil_ok)) (T := fun (x : Unit) (g : (List Int) × Int × Unit) => Tslices_DeleteFunc_int_int none g.1 g.2.1) (fun _ _ => rfl) runslices_DeleteFunc_int_int
/-- emulator/memory.Write -/
noncomputable def Tmemory_Write (q : Option Nat) (x0 : (List Int)) (x1 : (List Int)) (x2 : Int) (x3 : Bool) (x4 : Int) : Tree ((List Int) × (List Int) × Int) :=
  .opt Bool (memory_misses x0 x2 x3) fun r194 =>
    .ite (r194)
      (.leaf (([], [], (1 : Int))))
      (.opt (List Int) (memory_copied x0) fun r195 =>
        .ite (x3)
          (.ite (decide ((2 : Int) = 0))
            .fail
            (.ite (decide ((2 : Int) = 0))
              .fail
              (.ite (decide ((2 : Int) = 0))
                .fail
                (.ite (decide (0 ≤ IntKind.wrap .i64 ((x2).tdiv (2 : Int))))
                  (.ite (decide (IntKind.wrap .i64 ((x2).tdiv (2 : Int)) < (r195.length : Int)))
                    (.opt Int (r195[(IntKind.wrap .i64 ((x2).tdiv (2 : Int))).toNat]?) fun y196 =>
                      .ite (decide (0 ≤ (IntKind.wrap .i64 (((x2).tmod (2 : Int)) * (8 : Int)))))
                        (.ite (decide (0 ≤ (IntKind.wrap .i64 (((x2).tmod (2 : Int)) * (8 : Int)))))
                          (.ite (decide (0 ≤ IntKind.wrap .i64 ((x2).tdiv (2 : Int))))
                            (.ite (decide (IntKind.wrap .i64 ((x2).tdiv (2 : Int)) < (r195.length : Int)))
                              (.opt Int (r195[(IntKind.wrap .i64 ((x2).tdiv (2 : Int))).toNat]?) fun y197 =>
                                .opt (List Int) (cloneF 8 x1) fun r198 =>
                                  .opt (((List Int) × Int) ⊕ ((Nat × Nat) × (List Int) × Int)) (slices_DeleteFunc_int_int q r198 x2) fun r199 =>
                                    .ite (r199.isLeft)
                                      (.opt ((List Int) × Int) (r199.getLeft?) fun a200 =>
                                        .leaf ((r195.set ((IntKind.wrap .i64 ((x2).tdiv (2 : Int))).toNat) (IntKind.wrap .i64 (((BitVec.ofInt 64 (IntKind.wrap .i64 (((BitVec.ofInt 64 y196 &&& ~~~BitVec.ofInt 64 (IntKind.wrap .i64 ((255 : Int) * 2 ^ (min ((IntKind.wrap .i64 (((x2).tmod (2 : Int)) * (8 : Int)))).toNat 64)))).toNat : Int))) ||| BitVec.ofInt 64 (IntKind.wrap .i64 ((IntKind.wrap .i64 (((BitVec.ofInt 64 x4 &&& BitVec.ofInt 64 (255 : Int)).toNat : Int))) * 2 ^ (min ((IntKind.wrap .i64 (((x2).tmod (2 : Int)) * (8 : Int)))).toNat 64)))).toNat : Int))), a200.1, (0 : Int))))
                                      (.opt ((Nat × Nat) × (List Int) × Int) (r199.getRight?) fun b201 =>
                                        .leaf ((r195.set ((IntKind.wrap .i64 ((x2).tdiv (2 : Int))).toNat) (IntKind.wrap .i64 (((BitVec.ofInt 64 (IntKind.wrap .i64 (((BitVec.ofInt 64 y196 &&& ~~~BitVec.ofInt 64 (IntKind.wrap .i64 ((255 : Int) * 2 ^ (min ((IntKind.wrap .i64 (((x2).tmod (2 : Int)) * (8 : Int)))).toNat 64)))).toNat : Int))) ||| BitVec.ofInt 64 (IntKind.wrap .i64 ((IntKind.wrap .i64 (((BitVec.ofInt 64 x4 &&& BitVec.ofInt 64 (255 : Int)).toNat : Int))) * 2 ^ (min ((IntKind.wrap .i64 (((x2).tmod (2 : Int)) * (8 : Int)))).toNat 64)))).toNat : Int))), (b201.2.1.drop (b201.1.1)).take (b201.1.2), (0 : Int)))))
                              .fail)
                            .fail)
                          .fail)
                        .fail)
                    .fail)
                  .fail))))
          (.ite (decide ((2 : Int) = 0))
            .fail
            (.ite (decide ((2 : Int) = 0))
              .fail
              (.ite (decide (0 ≤ IntKind.wrap .i64 ((x2).tdiv (2 : Int))))
                (.ite (decide (IntKind.wrap .i64 ((x2).tdiv (2 : Int)) < (r195.length : Int)))
                  (.opt Int (r195[(IntKind.wrap .i64 ((x2).tdiv (2 : Int))).toNat]?) fun y202 =>
                    .ite (decide (0 ≤ (0 : Int)))
                      (.ite (decide (0 ≤ (0 : Int)))
                        (.ite (decide (0 ≤ IntKind.wrap .i64 ((x2).tdiv (2 : Int))))
                          (.ite (decide (IntKind.wrap .i64 ((x2).tdiv (2 : Int)) < (r195.length : Int)))
                            (.opt Int (r195[(IntKind.wrap .i64 ((x2).tdiv (2 : Int))).toNat]?) fun y203 =>
                              .opt (List Int) (cloneF 8 x1) fun r204 =>
                                .opt (((List Int) × Int) ⊕ ((Nat × Nat) × (List Int) × Int)) (slices_DeleteFunc_int_int q r204 x2) fun r205 =>
                                  .ite (r205.isLeft)
                                    (.opt ((List Int) × Int) (r205.getLeft?) fun a206 =>
                                      .leaf ((r195.set ((IntKind.wrap .i64 ((x2).tdiv (2 : Int))).toNat) (IntKind.wrap .i64 (((BitVec.ofInt 64 (IntKind.wrap .i64 (((BitVec.ofInt 64 y202 &&& ~~~BitVec.ofInt 64 (IntKind.wrap .i64 ((65535 : Int) * 2 ^ (min ((0 : Int)).toNat 64)))).toNat : Int))) ||| BitVec.ofInt 64 (IntKind.wrap .i64 ((IntKind.wrap .i64 (((BitVec.ofInt 64 x4 &&& BitVec.ofInt 64 (65535 : Int)).toNat : Int))) * 2 ^ (min ((0 : Int)).toNat 64)))).toNat : Int))), a206.1, (0 : Int))))
                                    (.opt ((Nat × Nat) × (List Int) × Int) (r205.getRight?) fun b207 =>
                                      .leaf ((r195.set ((IntKind.wrap .i64 ((x2).tdiv (2 : Int))).toNat) (IntKind.wrap .i64 (((BitVec.ofInt 64 (IntKind.wrap .i64 (((BitVec.ofInt 64 y202 &&& ~~~BitVec.ofInt 64 (IntKind.wrap .i64 ((65535 : Int) * 2 ^ (min ((0 : Int)).toNat 64)))).toNat : Int))) ||| BitVec.ofInt 64 (IntKind.wrap .i64 ((IntKind.wrap .i64 (((BitVec.ofInt 64 x4 &&& BitVec.ofInt 64 (65535 : Int)).toNat : Int))) * 2 ^ (min ((0 : Int)).toNat 64)))).toNat : Int))), (b207.2.1.drop (b207.1.1)).take (b207.1.2), (0 : Int)))))
                            .fail)
                          .fail)
                        .fail)
                      .fail)
                  .fail)
                .fail))))
noncomputable def memory_Write (q : Option Nat) (x0 : (List Int)) (x1 : (List Int)) (x2 : Int) (x3 : Bool) (x4 : Int) : Option ((List Int) × (List Int) × Int) := (Tmemory_Write q x0 x1 x2 x3 x4).run
theorem lememory_Write (k : Nat) (x0 : (List Int)) (x1 : (List Int)) (x2 : Int) (x3 : Bool) (x4 : Int) : Le (memory_Write (some k) x0 x1 x2 x3 x4) (memory_Write none x0 x1 x2 x3 x4) := (TLe.opt Le.rfl fun _ => (TLe.ite TLe.rfl (TLe.opt Le.rfl fun _ => (TLe.ite (TLe.ite TLe.rfl (TLe.ite TLe.rfl (TLe.ite TLe.rfl (TLe.ite (TLe.ite (TLe.opt Le.rfl fun _ => (TLe.ite (TLe.ite (TLe.ite (TLe.ite (TLe.opt Le.rfl fun _ => (TLe.opt Le.rfl fun _ => (TLe.opt (leslices_DeleteFunc_int_int k _ _) fun _ => TLe.rfl))) TLe.rfl) TLe.rfl) TLe.rfl) TLe.rfl)) TLe.rfl) TLe.rfl)))) (TLe.ite TLe.rfl (TLe.ite TLe.rfl (TLe.ite (TLe.ite (TLe.opt Le.rfl fun _ => (TLe.ite (TLe.ite (TLe.ite (TLe.ite (TLe.opt Le.rfl fun _ => (TLe.opt Le.rfl fun _ => (TLe.opt (leslices_DeleteFunc_int_int k _ _) fun _ => TLe.rfl))) TLe.rfl) TLe.rfl) TLe.rfl) TLe.rfl)) TLe.rfl) TLe.rfl)))))))
noncomputable def Amemory_Write : Arg U ((List Int) × (List Int) × Int × Bool × Int × Unit) := aO (cSl 3) (aO (cSl 3) (aO (cInt .i64) (aO cBool (aO (cInt .i64) (aNil)))))
noncomputable def Rmemory_Write (r : ((List Int) × (List Int) × Int)) : List (V U) × List (Blk U) := ([vO (cSl 3) r.1, vO (cSl 3) r.2.1, vO (cInt .i64) r.2.2], [])
noncomputable def Smemory_Write : List (V U) → List (Blk U) → Option (FnOut U) := mkSpec Amemory_Write bNil (fun x _ => memory_Write none x.1 x.2.1 x.2.2.1 x.2.2.2.1 x.2.2.2.2.1) Rmemory_Write
noncomputable def Ememory_Write : Env U := { P := Try.prog, cd := cd, fns := (addF 44 false (Smemory_copied) (addF 24 false (cloneSpec 3 8) (addF 23 false (Sslices_DeleteFunc_int_int) fns38))), lps := noL, frz := fun _r => false, nt := 52, n0 := 0 }
theorem runmemory_Write (x : (List Int) × (List Int) × Int × Bool × Int × Unit) (g : Unit) : execF Ememory_Write Try.f40 (Amemory_Write.enc x) (bNil.enc g) = (Tmemory_Write none x.1 x.2.1 x.2.2.1 x.2.2.2.1 x.2.2.2.2.1).map Rmemory_Write := by kernel_rfl
theorem okmemory_Write : FnOk Try.prog cd 40 Smemory_Write := mk_ok (E := Ememory_Write) cd_ok (addF_ok okmemory_copied (addF_ok okslices_Clone_int_int (addF_ok okslices_DeleteFunc_int_int fns38_ok))) Try.func40 (by kernel_rfl) (noLoops_body (by kernel_rfl)) (aO_ok (cSl_ok 3) (aO_ok (cSl_ok 3) (aO_ok (cInt_ok .i64) (aO_ok cBool_ok (aO_ok (cInt_ok .i64) (aNil_ok)))))) bNil_ok (T := fun x _ => Tmemory_Write none x.1 x.2.1 x.2.2.1 x.2.2.2.1 x.2.2.2.2.1) (fun _ _ => rfl) runmemory_Write
noncomputable def fns40 := addF 40 true Smemory_Write fns38
theorem fns40_ok : ∀ f q t, fns40 f = some (q, t) → FnOk Try.prog cd f t := addF_ok okmemory_Write fns38_ok
/-- slices.IndexFunc[[]int,int] -/
structure Sslices_IndexFunc_int_int_V2_0 where
  t0 : (List Int)
  t7 : Int
  t8 : Int
noncomputable def Wslices_IndexFunc_int_int_V2_0 (s : Sslices_IndexFunc_int_int_V2_0) : Tree (Sslices_IndexFunc_int_int_V2_0 ⊕ (Int ⊕ Unit)) :=
  .ite (decide (s.t8 < s.t7))
    (.ite (decide (0 ≤ s.t8))
      (.opt Int (s.t0[(s.t8).toNat]?) fun y209 =>
        .opt Bool (monitor_Deposit_1 y209) fun r210 =>
          .ite (r210)
            (.leaf (.inr (.inl s.t8)))
            (.leaf (.inl (Sslices_IndexFunc_int_int_V2_0.mk s.t0 s.t7 (IntKind.wrap .i64 (s.t8 + (1 : Int)))))))
      .fail)
    (.leaf (.inr (.inr ())))
noncomputable def Lslices_IndexFunc_int_int_V2_0 (q : Option Nat) (s : Sslices_IndexFunc_int_int_V2_0) : Option (Int ⊕ Unit) := limQ q (fun s => (Wslices_IndexFunc_int_int_V2_0 s).run) s
theorem leLslices_IndexFunc_int_int_V2_0 (k : Nat) (s : Sslices_IndexFunc_int_int_V2_0) : Le (Lslices_IndexFunc_int_int_V2_0 (some k) s) (Lslices_IndexFunc_int_int_V2_0 none s) := limQ_le (fun _ => Le.rfl) s
noncomputable def Tslices_IndexFunc_int_int_V2 (q : Option Nat) (x0 : (List Int)) : Tree Int :=
  .opt (Int ⊕ Unit) (Lslices_IndexFunc_int_int_V2_0 q (Sslices_IndexFunc_int_int_V2_0.mk x0 (x0.length : Int) (0 : Int))) fun l211 =>
    .ite (l211.isLeft)
      (.opt Int (l211.getLeft?) fun a212 =>
        .leaf (a212))
      (.opt Unit (l211.getRight?) fun b213 =>
        .leaf ((-1 : Int)))
noncomputable def slices_IndexFunc_int_int_V2 (q : Option Nat) (x0 : (List Int)) : Option Int := (Tslices_IndexFunc_int_int_V2 q x0).run
theorem leslices_IndexFunc_int_int_V2 (k : Nat) (x0 : (List Int)) : Le (slices_IndexFunc_int_int_V2 (some k) x0) (slices_IndexFunc_int_int_V2 none x0) := (TLe.opt (leLslices_IndexFunc_int_int_V2_0 k _) fun _ => TLe.rfl)
noncomputable def Aslices_IndexFunc_int_int_V2 : Arg U ((List Int) × Unit) := aO (cSl 3) (aF 38 [] (aNil))
noncomputable def Gslices_IndexFunc_int_int_V2 : Bls U (Unit) := bNil
noncomputable def Rslices_IndexFunc_int_int_V2 (_x : (List Int) × Unit) (_g : Unit) (r : Int) : List (V U) × List (Blk U) := ([vO (cPair (cInt .i64) (cUnit)) (r, ())], [])
noncomputable def Sslices_IndexFunc_int_int_V2 : List (V U) → List (Blk U) → Option (FnOut U) := mkSpecG Aslices_IndexFunc_int_int_V2 Gslices_IndexFunc_int_int_V2 (fun x _ => slices_IndexFunc_int_int_V2 none x.1) Rslices_IndexFunc_int_int_V2
noncomputable def Pslices_IndexFunc_int_int_V2_0 (x : ((List Int) × Unit) × (Unit) × (Int × Unit) × (Int × Unit) × Unit) (_g : Unit) : Sslices_IndexFunc_int_int_V2_0 := Sslices_IndexFunc_int_int_V2_0.mk x.1.1 x.2.2.1.1 x.2.2.2.1.1
noncomputable def tAslices_IndexFunc_int_int_V2_0 : Tms U (((List Int) × Unit) × (Unit) × (Int × Unit) × (Int × Unit) × Unit) := tO 0 (cPair (cSl 3) (cUnit)) (tO 1 (cK2 (.fn 38 [] []) (cUnit)) (tO 7 (cPair (cInt .i64) (cUnit)) (tO 8 (cPair (cInt .i64) (cUnit)) (tNil))))
noncomputable def tBslices_IndexFunc_int_int_V2_0 : Bls U (Unit) := bNil
noncomputable def eSslices_IndexFunc_int_int_V2_0 (s : Sslices_IndexFunc_int_int_V2_0) : St U := { tm := [(0, .v (vO (cPair (cSl 3) (cUnit)) (s.t0, ()))), (1, .v (vO (cK2 (.fn 38 [] []) (cUnit)) (()))), (7, .v (vO (cPair (cInt .i64) (cUnit)) (s.t7, ()))), (8, .v (vO (cPair (cInt .i64) (cUnit)) (s.t8, ())))], hp := [] }
noncomputable def xSslices_IndexFunc_int_int_V2_0 : (Int ⊕ Unit) → Ex × St U
  | .inl r => (.ret, { tm := [(4, .v (vO (cPair (cInt .i64) (cUnit)) (r, ())))], hp := [] })
  | .inr r => (.exit 0, { tm := [], hp := [] })
noncomputable def xTslices_IndexFunc_int_int_V2_0 (y : (Int ⊕ Unit)) : Tree (Ex × St U) := .ite y.isLeft (.opt Int y.getLeft? fun r => .leaf (.ret, { tm := [(4, .v (vO (cPair (cInt .i64) (cUnit)) (r, ())))], hp := [] })) (.opt Unit y.getRight? fun r => .leaf (.exit 0, { tm := [], hp := [] }))
noncomputable def hslices_IndexFunc_int_int_V2_0 : Hd := { keep := [0, 1, 7, 8], xkeep := [4], own := false }
noncomputable def Eslices_IndexFunc_int_int_V2 : Env U := { P := Try.prog, cd := cd, fns := fns40, lps := (addL 0 hslices_IndexFunc_int_int_V2_0 (mkLoop tAslices_IndexFunc_int_int_V2_0 tBslices_IndexFunc_int_int_V2_0 Pslices_IndexFunc_int_int_V2_0 (Lslices_IndexFunc_int_int_V2_0 none) xTslices_IndexFunc_int_int_V2_0) noL), frz := fun _r => false, nt := 19, n0 := 0 }
noncomputable def Bslices_IndexFunc_int_int_V2_0 : Code := (loopAt (Try.f51.body.getD .skip) 0 0).getD .skip
theorem roundslices_IndexFunc_int_int_V2_0 (s : Sslices_IndexFunc_int_int_V2_0) : round Eslices_IndexFunc_int_int_V2 hslices_IndexFunc_int_int_V2_0 Bslices_IndexFunc_int_int_V2_0 0 (eSslices_IndexFunc_int_int_V2_0 s) = (Wslices_IndexFunc_int_int_V2_0 s).map (sumE eSslices_IndexFunc_int_int_V2_0 xSslices_IndexFunc_int_int_V2_0) := by kernel_rfl
theorem lpslices_IndexFunc_int_int_V2_0 : LpOk Eslices_IndexFunc_int_int_V2 Bslices_IndexFunc_int_int_V2_0 0 := mkLoop_ok (A := tAslices_IndexFunc_int_int_V2_0) (B := tBslices_IndexFunc_int_int_V2_0) (f := Pslices_IndexFunc_int_int_V2_0) (L := Lslices_IndexFunc_int_int_V2_0 none) (tO_ok (cPair_ok (cSl_ok 3) cUnit_ok) (tO_ok (cK2_ok cUnit_ok) (tO_ok (cPair_ok (cInt_ok .i64) cUnit_ok) (tO_ok (cPair_ok (cInt_ok .i64) cUnit_ok) tNil_ok)))) bNil_ok (enc := eSslices_IndexFunc_int_int_V2_0) (out := xTslices_IndexFunc_int_int_V2_0) (outS := xSslices_IndexFunc_int_int_V2_0) (step := Wslices_IndexFunc_int_int_V2_0) (fun _ => rfl) (fun _ _ => by kernel_rfl) (by kernel_rfl) (fun b => by cases b <;> rfl) roundslices_IndexFunc_int_int_V2_0
theorem rnslices_IndexFunc_int_int_V2 (x0 : (List Int)) : execX false Eslices_IndexFunc_int_int_V2 Try.f51 (Aslices_IndexFunc_int_int_V2.enc (x0, ())) (Gslices_IndexFunc_int_int_V2.enc ()) = (Tslices_IndexFunc_int_int_V2 none x0).map (Rslices_IndexFunc_int_int_V2 (x0, ()) ()) := by kernel_rfl
theorem runslices_IndexFunc_int_int_V2 : ∀ (x : (List Int) × Unit) (g : Unit), execX false Eslices_IndexFunc_int_int_V2 Try.f51 (Aslices_IndexFunc_int_int_V2.enc x) (Gslices_IndexFunc_int_int_V2.enc g) = (Tslices_IndexFunc_int_int_V2 none x.1).map (Rslices_IndexFunc_int_int_V2 x g)
  | (x0, ()), () => rnslices_IndexFunc_int_int_V2 x0
theorem okslices_IndexFunc_int_int_V2 : FnOk Try.prog cd 51 Sslices_IndexFunc_int_int_V2 := mk_okG (E := Eslices_IndexFunc_int_int_V2) (A := Aslices_IndexFunc_int_int_V2) (B := Gslices_IndexFunc_int_int_V2) false cd_ok fns40_ok Try.func51 (by kernel_rfl) (loops_of (addL_ok lpslices_IndexFunc_int_int_V2_0 noL_ok)) (aO_ok (cSl_ok 3) (aF_ok (aNil_ok))) bNil_ok (T := fun (x : (List Int) × Unit) (_ : Unit) => Tslices_IndexFunc_int_int_V2 none x.1) (fun _ _ => rfl) runslices_IndexFunc_int_int_V2
/-- slices.ContainsFunc[[]int,int] -/
noncomputable def Tslices_ContainsFunc_int_int (q : Option Nat) (x0 : (List Int)) : Tree Bool :=
  .opt Int (slices_IndexFunc_int_int_V2 q x0) fun r214 =>
    .leaf (decide ((0 : Int) ≤ r214))
noncomputable def slices_ContainsFunc_int_int (q : Option Nat) (x0 : (List Int)) : Option Bool := (Tslices_ContainsFunc_int_int q x0).run
theorem leslices_ContainsFunc_int_int (k : Nat) (x0 : (List Int)) : Le (slices_ContainsFunc_int_int (some k) x0) (slices_ContainsFunc_int_int none x0) := (TLe.opt (leslices_IndexFunc_int_int_V2 k _) fun _ => TLe.rfl)
noncomputable def Aslices_ContainsFunc_int_int : Arg U ((List Int) × Unit) := aO (cSl 3) (aF 38 [] (aNil))
noncomputable def Gslices_ContainsFunc_int_int : Bls U (Unit) := bNil
noncomputable def Rslices_ContainsFunc_int_int (_x : (List Int) × Unit) (_g : Unit) (r : Bool) : List (V U) × List (Blk U) := ([vO (cPair cBool (cUnit)) (r, ())], [])
noncomputable def Sslices_ContainsFunc_int_int : List (V U) → List (Blk U) → Option (FnOut U) := mkSpecG Aslices_ContainsFunc_int_int Gslices_ContainsFunc_int_int (fun x _ => slices_ContainsFunc_int_int none x.1) Rslices_ContainsFunc_int_int
noncomputable def Eslices_ContainsFunc_int_int : Env U := { P := Try.prog, cd := cd, fns := (addF 51 false (Sslices_IndexFunc_int_int_V2) fns40), lps := noL, frz := fun _r => false, nt := 9, n0 := 0 }
theorem rnslices_ContainsFunc_int_int (x0 : (List Int)) : execX false Eslices_ContainsFunc_int_int Try.f37 (Aslices_ContainsFunc_int_int.enc (x0, ())) (Gslices_ContainsFunc_int_int.enc ()) = (Tslices_ContainsFunc_int_int none x0).map (Rslices_ContainsFunc_int_int (x0, ()) ()) := by kernel_rfl
theorem runslices_ContainsFunc_int_int : ∀ (x : (List Int) × Unit) (g : Unit), execX false Eslices_ContainsFunc_int_int Try.f37 (Aslices_ContainsFunc_int_int.enc x) (Gslices_ContainsFunc_int_int.enc g) = (Tslices_ContainsFunc_int_int none x.1).map (Rslices_ContainsFunc_int_int x g)
  | (x0, ()), () => rnslices_ContainsFunc_int_int x0
theorem okslices_ContainsFunc_int_int : FnOk Try.prog cd 37 Sslices_ContainsFunc_int_int := mk_okG (E := Eslices_ContainsFunc_int_int) (A := Aslices_ContainsFunc_int_int) (B := Gslices_ContainsFunc_int_int) false cd_ok (addF_ok okslices_IndexFunc_int_int_V2 fns40_ok) Try.func37 (by kernel_rfl) (noLoops_body (by kernel_rfl)) (aO_ok (cSl_ok 3) (aF_ok (aNil_ok))) bNil_ok (T := fun (x : (List Int) × Unit) (_ : Unit) => Tslices_ContainsFunc_int_int none x.1) (fun _ _ => rfl) runslices_ContainsFunc_int_int
/-- emulator/monitor.Deposit -/
structure Smonitor_Deposit_0 where
  t1 : Int
  t21 : (List Int)
  t22 : Int
  t23 : Int
  b0 : Machine
  b1 : Machine
noncomputable def Wmonitor_Deposit_0 (q : Option Nat) (s : Smonitor_Deposit_0) : Tree (Smonitor_Deposit_0 ⊕ (Machine × Machine)) :=
  .ite (decide (s.t23 < s.t22))
    (.ite (decide (0 ≤ s.t23))
      (.opt Int (s.t21[(s.t23).toNat]?) fun y217 =>
        .opt ((List Int) × (List Int) × Int) (memory_Write q s.b0.mem s.b0.bad (IntKind.wrap .i64 (s.t1 + (IntKind.wrap .i64 ((2 : Int) * s.t23)))) false y217) fun r218 =>
          .leaf (.inl (Smonitor_Deposit_0.mk s.t1 s.t21 s.t22 (IntKind.wrap .i64 (s.t23 + (1 : Int))) (Machine.mk s.b0.cpu r218.1 r218.2.1 s.b0.mmu s.b0.clock s.b0.lines s.b0.disk s.b0.tape s.b0.now s.b0.halted s.b0.waiting s.b0.power s.b0.powerTrap) s.b1)))
      .fail)
    (.leaf (.inr (s.b0, s.b1)))
noncomputable def Lmonitor_Deposit_0 (q : Option Nat) (s : Smonitor_Deposit_0) : Option (Machine × Machine) := limQ q (fun s => (Wmonitor_Deposit_0 q s).run) s
theorem leLmonitor_Deposit_0 (k : Nat) (s : Smonitor_Deposit_0) : Le (Lmonitor_Deposit_0 (some k) s) (Lmonitor_Deposit_0 none s) := limQ_le (fun s => (TLe.ite (TLe.ite (TLe.opt Le.rfl fun _ => (TLe.opt (lememory_Write k _ _ _ _ _) fun _ => TLe.rfl)) TLe.rfl) TLe.rfl)) s
noncomputable def Tmonitor_Deposit (q : Option Nat) (x0 : Machine) (x1 : Int) (x2 : (List Int)) : Tree (Machine × Int) :=
  .opt Bool (monitor_within x0 x1 (x2.length : Int)) fun r215 =>
    .ite (!r215)
      (.leaf ((Machine.mk (Cpu.mk (List.replicate 6 (0 : Int)) (List.replicate 2 (0 : Int)) 0 0) ([]) ([]) (Mmu.mk false (List.replicate 16 (Page.mk (0 : Int) (0 : Int) (0 : Int) false)) 0 0) (Clock.mk false false 0 0) ([]) (Disk.mk (Drive.mk ([]) ([])) false false false 0 0 0 0 0) (Tape.mk ([]) 0 false false false false false 0 0 0 0) 0 false false 0 false, (2 : Int))))
      (.opt Bool (slices_ContainsFunc_int_int q x2) fun r216 =>
        .ite (r216)
          (.leaf ((Machine.mk (Cpu.mk (List.replicate 6 (0 : Int)) (List.replicate 2 (0 : Int)) 0 0) ([]) ([]) (Mmu.mk false (List.replicate 16 (Page.mk (0 : Int) (0 : Int) (0 : Int) false)) 0 0) (Clock.mk false false 0 0) ([]) (Disk.mk (Drive.mk ([]) ([])) false false false 0 0 0 0 0) (Tape.mk ([]) 0 false false false false false 0 0 0 0) 0 false false 0 false, (2 : Int))))
          (.opt (Machine × Machine) (Lmonitor_Deposit_0 q (Smonitor_Deposit_0.mk x1 x2 (x2.length : Int) (0 : Int) x0 (Machine.mk (Cpu.mk (List.replicate 6 (0 : Int)) (List.replicate 2 (0 : Int)) 0 0) ([]) ([]) (Mmu.mk false (List.replicate 16 (Page.mk (0 : Int) (0 : Int) (0 : Int) false)) 0 0) (Clock.mk false false 0 0) ([]) (Disk.mk (Drive.mk ([]) ([])) false false false 0 0 0 0 0) (Tape.mk ([]) 0 false false false false false 0 0 0 0) 0 false false 0 false))) fun l219 =>
            .leaf ((l219.1, (0 : Int)))))
noncomputable def monitor_Deposit (q : Option Nat) (x0 : Machine) (x1 : Int) (x2 : (List Int)) : Option (Machine × Int) := (Tmonitor_Deposit q x0 x1 x2).run
theorem lemonitor_Deposit (k : Nat) (x0 : Machine) (x1 : Int) (x2 : (List Int)) : Le (monitor_Deposit (some k) x0 x1 x2) (monitor_Deposit none x0 x1 x2) := (TLe.opt Le.rfl fun _ => (TLe.ite TLe.rfl (TLe.opt (leslices_ContainsFunc_int_int k _) fun _ => (TLe.ite TLe.rfl (TLe.opt (leLmonitor_Deposit_0 k _) fun _ => TLe.rfl)))))
noncomputable def Amonitor_Deposit : Arg U (Machine × Int × (List Int) × Unit) := aA cMachine (aO (cInt .i64) (aO (cSl 3) (aNil)))
noncomputable def Rmonitor_Deposit (r : (Machine × Int)) : List (V U) × List (Blk U) := ([vA cMachine r.1, vO (cInt .i64) r.2], [])
noncomputable def Smonitor_Deposit : List (V U) → List (Blk U) → Option (FnOut U) := mkSpec Amonitor_Deposit bNil (fun x _ => monitor_Deposit none x.1 x.2.1 x.2.2.1) Rmonitor_Deposit
noncomputable def Pmonitor_Deposit_0 (x : (Int × Unit) × (Unit) × (Unit) × ((List Int) × Unit) × (Int × Unit) × (Int × Unit) × Unit) (g : (Machine × Unit) × (Machine × Unit) × Unit) : Smonitor_Deposit_0 := Smonitor_Deposit_0.mk x.1.1 x.2.2.2.1.1 x.2.2.2.2.1.1 x.2.2.2.2.2.1.1 g.1.1 g.2.1.1
noncomputable def tAmonitor_Deposit_0 : Tms U ((Int × Unit) × (Unit) × (Unit) × ((List Int) × Unit) × (Int × Unit) × (Int × Unit) × Unit) := tO 1 (cPair (cInt .i64) (cUnit)) (tO 3 (cK (.ptr 0 0) (cUnit)) (tO 6 (cK (.ptr 1 0) (cUnit)) (tO 21 (cPair (cSl 3) (cUnit)) (tO 22 (cPair (cInt .i64) (cUnit)) (tO 23 (cPair (cInt .i64) (cUnit)) (tNil))))))
noncomputable def tBmonitor_Deposit_0 : Bls U ((Machine × Unit) × (Machine × Unit) × Unit) := bC (cPair cMachine (cUnit)) (bC (cPair cMachine (cUnit)) (bNil))
noncomputable def eSmonitor_Deposit_0 (s : Smonitor_Deposit_0) : St U := { tm := [(1, .v (vO (cPair (cInt .i64) (cUnit)) (s.t1, ()))), (3, .v (vO (cK (.ptr 0 0) (cUnit)) (()))), (6, .v (vO (cK (.ptr 1 0) (cUnit)) (()))), (21, .v (vO (cPair (cSl 3) (cUnit)) (s.t21, ()))), (22, .v (vO (cPair (cInt .i64) (cUnit)) (s.t22, ()))), (23, .v (vO (cPair (cInt .i64) (cUnit)) (s.t23, ())))], hp := [.cells ((cPair cMachine (cUnit) : Cdc U (Machine × Unit)).enc (s.b0, ())), .cells ((cPair cMachine (cUnit) : Cdc U (Machine × Unit)).enc (s.b1, ()))] }
noncomputable def xSmonitor_Deposit_0 (r : (Machine × Machine)) : Ex × St U := (.exit 0, { tm := [(3, .v (vO (cK (.ptr 0 0) (cUnit)) (()))), (6, .v (vO (cK (.ptr 1 0) (cUnit)) (())))], hp := [.cells ((cPair cMachine (cUnit) : Cdc U (Machine × Unit)).enc (r.1, ())), .cells ((cPair cMachine (cUnit) : Cdc U (Machine × Unit)).enc (r.2, ()))] })
noncomputable def xTmonitor_Deposit_0 (r : (Machine × Machine)) : Tree (Ex × St U) := .leaf (xSmonitor_Deposit_0 r)
noncomputable def hmonitor_Deposit_0 : Hd := { keep := [1, 3, 6, 21, 22, 23], xkeep := [3, 6, 7], own := false }
noncomputable def Emonitor_Deposit : Env U := { P := Try.prog, cd := cd, fns := (addF 37 false (Sslices_ContainsFunc_int_int) fns40), lps := (addL 0 hmonitor_Deposit_0 (mkLoop tAmonitor_Deposit_0 tBmonitor_Deposit_0 Pmonitor_Deposit_0 (Lmonitor_Deposit_0 none) xTmonitor_Deposit_0) noL), frz := fun _r => false, nt := 46, n0 := 0 }
noncomputable def Bmonitor_Deposit_0 : Code := (loopAt (Try.f15.body.getD .skip) 0 0).getD .skip
theorem roundmonitor_Deposit_0 (s : Smonitor_Deposit_0) : round Emonitor_Deposit hmonitor_Deposit_0 Bmonitor_Deposit_0 0 (eSmonitor_Deposit_0 s) = (Wmonitor_Deposit_0 none s).map (sumE eSmonitor_Deposit_0 xSmonitor_Deposit_0) := by kernel_rfl
theorem lpmonitor_Deposit_0 : LpOk Emonitor_Deposit Bmonitor_Deposit_0 0 := mkLoop_ok (A := tAmonitor_Deposit_0) (B := tBmonitor_Deposit_0) (f := Pmonitor_Deposit_0) (L := Lmonitor_Deposit_0 none) (tO_ok (cPair_ok (cInt_ok .i64) cUnit_ok) (tO_ok (cK_ok cUnit_ok) (tO_ok (cK_ok cUnit_ok) (tO_ok (cPair_ok (cSl_ok 3) cUnit_ok) (tO_ok (cPair_ok (cInt_ok .i64) cUnit_ok) (tO_ok (cPair_ok (cInt_ok .i64) cUnit_ok) tNil_ok)))))) (bC_ok (cPair_ok cMachine_ok cUnit_ok) (bC_ok (cPair_ok cMachine_ok cUnit_ok) bNil_ok)) (enc := eSmonitor_Deposit_0) (out := xTmonitor_Deposit_0) (outS := xSmonitor_Deposit_0) (step := Wmonitor_Deposit_0 none) (fun _ => rfl) (fun _ _ => by kernel_rfl) (by kernel_rfl) (fun _ => rfl) roundmonitor_Deposit_0
theorem runmonitor_Deposit (x : Machine × Int × (List Int) × Unit) (g : Unit) : execF Emonitor_Deposit Try.f15 (Amonitor_Deposit.enc x) (bNil.enc g) = (Tmonitor_Deposit none x.1 x.2.1 x.2.2.1).map Rmonitor_Deposit := by kernel_rfl
theorem okmonitor_Deposit : FnOk Try.prog cd 15 Smonitor_Deposit := mk_ok (E := Emonitor_Deposit) cd_ok (addF_ok okslices_ContainsFunc_int_int fns40_ok) Try.func15 (by kernel_rfl) (loops_of (addL_ok lpmonitor_Deposit_0 noL_ok)) (aA_ok cMachine_ok (aO_ok (cInt_ok .i64) (aO_ok (cSl_ok 3) (aNil_ok)))) bNil_ok (T := fun x _ => Tmonitor_Deposit none x.1 x.2.1 x.2.2.1) (fun _ _ => rfl) runmonitor_Deposit
noncomputable def fns15 := addF 15 true Smonitor_Deposit fns40
theorem fns15_ok : ∀ f q t, fns15 f = some (q, t) → FnOk Try.prog cd f t := addF_ok okmonitor_Deposit fns40_ok
end Go.Proofs.Ytlaabdpccdnalaa
