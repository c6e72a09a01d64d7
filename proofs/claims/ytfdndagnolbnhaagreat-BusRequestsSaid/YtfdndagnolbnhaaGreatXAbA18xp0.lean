/- The types of the program, and how they are told in cells. -/
import Derived.Test.YtfdndagnolbnhaaGreatXAbMore
import Derived.Test.YtfdndagnolbnhaaGreatXAbClone
import Derived.Shelf.SlGeneric
import Derived.Ground.SlgnProg
import Derived.Test.YtfdndagnolbnhaaGreatProg
import Derived.KernelRfl
set_option linter.unusedSimpArgs false
namespace Go.Proofs.YtfdndagnolbnhaaGreat
open Go Go.Ab
structure Cpu where
  r : (List Int)
  sP : (List Int)
  pC : Int
  pSW : Int
  deriving DecidableEq
structure Page where
  base : Int
  length : Int
  access : Int
  written : Bool
  deriving DecidableEq
structure Mmu where
  on : Bool
  pages : (List Page)
  status : Int
  addr : Int
  deriving DecidableEq
structure Clock where
  enable : Bool
  ready : Bool
  period : Int
  left : Int
  deriving DecidableEq
structure Line where
  rxEnable : Bool
  rxReady : Bool
  overrun : Bool
  rxData : Int
  txEnable : Bool
  txReady : Bool
  txData : Int
  txLeft : Int
  out : (List UInt8)
  deriving DecidableEq
structure Drive where
  sectors : (List (List UInt8))
  bad : (List Int)
  deriving DecidableEq
structure Disk where
  drive : Drive
  enable : Bool
  ready : Bool
  error : Bool
  command : Int
  words : Int
  addr : Int
  start : Int
  left : Int
  deriving DecidableEq
structure Tape where
  records : (List (List UInt8))
  pos : Int
  enable : Bool
  ready : Bool
  error : Bool
  mark : Bool
  end_ : Bool
  command : Int
  count : Int
  addr : Int
  left : Int
  deriving DecidableEq
structure Machine where
  cpu : Cpu
  mem : (List Int)
  bad : (List Int)
  mmu : Mmu
  clock : Clock
  lines : (List Line)
  disk : Disk
  tape : Tape
  now : Int
  halted : Bool
  waiting : Bool
  power : Int
  powerTrap : Bool
  deriving DecidableEq
structure Request where
  priority : Int
  vector : Int
  deriving DecidableEq
abbrev tys : List (Nat × Type) := [(3, Int), (4, Bool), (5, Int), (9, (List UInt8)), (28, Page), (55, Line), (84, Request)]
abbrev U : Nat → Type := findT tys
noncomputable def cCpu : Cdc U Cpu := cMap (fun x => Cpu.mk x.1 x.2.1 x.2.2.1 x.2.2.2.1) (fun x => (x.r, x.sP, x.pC, x.pSW, ())) (cPair (cArr 3 6) (cPair (cArr 3 2) (cPair (cInt .i64) (cPair (cInt .i64) (cUnit)))))
theorem cCpu_ok : cCpu.Ok := cMap_ok (cPair_ok (cArr_ok 3 6) (cPair_ok (cArr_ok 3 2) (cPair_ok (cInt_ok .i64) (cPair_ok (cInt_ok .i64) cUnit_ok)))) fun _ => rfl
noncomputable def cPage : Cdc U Page := cMap (fun x => Page.mk x.1 x.2.1 x.2.2.1 x.2.2.2.1) (fun x => (x.base, x.length, x.access, x.written, ())) (cPair (cInt .i64) (cPair (cInt .i64) (cPair (cInt .i64) (cPair cBool (cUnit)))))
theorem cPage_ok : cPage.Ok := cMap_ok (cPair_ok (cInt_ok .i64) (cPair_ok (cInt_ok .i64) (cPair_ok (cInt_ok .i64) (cPair_ok cBool_ok cUnit_ok)))) fun _ => rfl
noncomputable def cMmu : Cdc U Mmu := cMap (fun x => Mmu.mk x.1 x.2.1 x.2.2.1 x.2.2.2.1) (fun x => (x.on, x.pages, x.status, x.addr, ())) (cPair cBool (cPair (cArr 28 16) (cPair (cInt .i64) (cPair (cInt .i64) (cUnit)))))
theorem cMmu_ok : cMmu.Ok := cMap_ok (cPair_ok cBool_ok (cPair_ok (cArr_ok 28 16) (cPair_ok (cInt_ok .i64) (cPair_ok (cInt_ok .i64) cUnit_ok)))) fun _ => rfl
noncomputable def cClock : Cdc U Clock := cMap (fun x => Clock.mk x.1 x.2.1 x.2.2.1 x.2.2.2.1) (fun x => (x.enable, x.ready, x.period, x.left, ())) (cPair cBool (cPair cBool (cPair (cInt .i64) (cPair (cInt .i64) (cUnit)))))
theorem cClock_ok : cClock.Ok := cMap_ok (cPair_ok cBool_ok (cPair_ok cBool_ok (cPair_ok (cInt_ok .i64) (cPair_ok (cInt_ok .i64) cUnit_ok)))) fun _ => rfl
noncomputable def cLine : Cdc U Line := cMap (fun x => Line.mk x.1 x.2.1 x.2.2.1 x.2.2.2.1 x.2.2.2.2.1 x.2.2.2.2.2.1 x.2.2.2.2.2.2.1 x.2.2.2.2.2.2.2.1 x.2.2.2.2.2.2.2.2.1) (fun x => (x.rxEnable, x.rxReady, x.overrun, x.rxData, x.txEnable, x.txReady, x.txData, x.txLeft, x.out, ())) (cPair cBool (cPair cBool (cPair cBool (cPair (cInt .i64) (cPair cBool (cPair cBool (cPair (cInt .i64) (cPair (cInt .i64) (cPair cStr (cUnit))))))))))
theorem cLine_ok : cLine.Ok := cMap_ok (cPair_ok cBool_ok (cPair_ok cBool_ok (cPair_ok cBool_ok (cPair_ok (cInt_ok .i64) (cPair_ok cBool_ok (cPair_ok cBool_ok (cPair_ok (cInt_ok .i64) (cPair_ok (cInt_ok .i64) (cPair_ok cStr_ok cUnit_ok))))))))) fun _ => rfl
noncomputable def cDrive : Cdc U Drive := cMap (fun x => Drive.mk x.1 x.2.1) (fun x => (x.sectors, x.bad, ())) (cPair (cSl 9) (cPair (cSl 3) (cUnit)))
theorem cDrive_ok : cDrive.Ok := cMap_ok (cPair_ok (cSl_ok 9) (cPair_ok (cSl_ok 3) cUnit_ok)) fun _ => rfl
noncomputable def cDisk : Cdc U Disk := cMap (fun x => Disk.mk x.1 x.2.1 x.2.2.1 x.2.2.2.1 x.2.2.2.2.1 x.2.2.2.2.2.1 x.2.2.2.2.2.2.1 x.2.2.2.2.2.2.2.1 x.2.2.2.2.2.2.2.2.1) (fun x => (x.drive, x.enable, x.ready, x.error, x.command, x.words, x.addr, x.start, x.left, ())) (cPair cDrive (cPair cBool (cPair cBool (cPair cBool (cPair (cInt .i64) (cPair (cInt .i64) (cPair (cInt .i64) (cPair (cInt .i64) (cPair (cInt .i64) (cUnit))))))))))
theorem cDisk_ok : cDisk.Ok := cMap_ok (cPair_ok cDrive_ok (cPair_ok cBool_ok (cPair_ok cBool_ok (cPair_ok cBool_ok (cPair_ok (cInt_ok .i64) (cPair_ok (cInt_ok .i64) (cPair_ok (cInt_ok .i64) (cPair_ok (cInt_ok .i64) (cPair_ok (cInt_ok .i64) cUnit_ok))))))))) fun _ => rfl
noncomputable def cTape : Cdc U Tape := cMap (fun x => Tape.mk x.1 x.2.1 x.2.2.1 x.2.2.2.1 x.2.2.2.2.1 x.2.2.2.2.2.1 x.2.2.2.2.2.2.1 x.2.2.2.2.2.2.2.1 x.2.2.2.2.2.2.2.2.1 x.2.2.2.2.2.2.2.2.2.1 x.2.2.2.2.2.2.2.2.2.2.1) (fun x => (x.records, x.pos, x.enable, x.ready, x.error, x.mark, x.end_, x.command, x.count, x.addr, x.left, ())) (cPair (cSl 9) (cPair (cInt .i64) (cPair cBool (cPair cBool (cPair cBool (cPair cBool (cPair cBool (cPair (cInt .i64) (cPair (cInt .i64) (cPair (cInt .i64) (cPair (cInt .i64) (cUnit))))))))))))
theorem cTape_ok : cTape.Ok := cMap_ok (cPair_ok (cSl_ok 9) (cPair_ok (cInt_ok .i64) (cPair_ok cBool_ok (cPair_ok cBool_ok (cPair_ok cBool_ok (cPair_ok cBool_ok (cPair_ok cBool_ok (cPair_ok (cInt_ok .i64) (cPair_ok (cInt_ok .i64) (cPair_ok (cInt_ok .i64) (cPair_ok (cInt_ok .i64) cUnit_ok))))))))))) fun _ => rfl
noncomputable def cMachine : Cdc U Machine := cMap (fun x => Machine.mk x.1 x.2.1 x.2.2.1 x.2.2.2.1 x.2.2.2.2.1 x.2.2.2.2.2.1 x.2.2.2.2.2.2.1 x.2.2.2.2.2.2.2.1 x.2.2.2.2.2.2.2.2.1 x.2.2.2.2.2.2.2.2.2.1 x.2.2.2.2.2.2.2.2.2.2.1 x.2.2.2.2.2.2.2.2.2.2.2.1 x.2.2.2.2.2.2.2.2.2.2.2.2.1) (fun x => (x.cpu, x.mem, x.bad, x.mmu, x.clock, x.lines, x.disk, x.tape, x.now, x.halted, x.waiting, x.power, x.powerTrap, ())) (cPair cCpu (cPair (cSl 3) (cPair (cSl 3) (cPair cMmu (cPair cClock (cPair (cSl 55) (cPair cDisk (cPair cTape (cPair (cInt .i64) (cPair cBool (cPair cBool (cPair (cInt .i64) (cPair cBool (cUnit))))))))))))))
theorem cMachine_ok : cMachine.Ok := cMap_ok (cPair_ok cCpu_ok (cPair_ok (cSl_ok 3) (cPair_ok (cSl_ok 3) (cPair_ok cMmu_ok (cPair_ok cClock_ok (cPair_ok (cSl_ok 55) (cPair_ok cDisk_ok (cPair_ok cTape_ok (cPair_ok (cInt_ok .i64) (cPair_ok cBool_ok (cPair_ok cBool_ok (cPair_ok (cInt_ok .i64) (cPair_ok cBool_ok cUnit_ok))))))))))))) fun _ => rfl
noncomputable def cRequest : Cdc U Request := cMap (fun x => Request.mk x.1 x.2.1) (fun x => (x.priority, x.vector, ())) (cPair (cInt .i64) (cPair (cInt .i64) (cUnit)))
theorem cRequest_ok : cRequest.Ok := cMap_ok (cPair_ok (cInt_ok .i64) (cPair_ok (cInt_ok .i64) cUnit_ok)) fun _ => rfl
noncomputable def ents : Ents U tys := .cons ⟨(cInt .i64), some (0 : Int), none, some inferInstance⟩ (.cons ⟨cBool, some false, none, some inferInstance⟩ (.cons ⟨(cInt .u8), some (0 : Int), some (fun x => x, fun x => x), some inferInstance⟩ (.cons ⟨cStr, some ([] : List UInt8), none, some inferInstance⟩ (.cons ⟨cPage, some (Page.mk (0 : Int) (0 : Int) (0 : Int) false), none, some inferInstance⟩ (.cons ⟨cLine, some (Line.mk false false false (0 : Int) false false (0 : Int) (0 : Int) ([] : List UInt8)), none, some inferInstance⟩ (.cons ⟨cRequest, some (Request.mk (0 : Int) (0 : Int)), none, some inferInstance⟩ (.nil)))))))
noncomputable def cd : Cd U := cdOf ents
theorem eqSPage (cd : Cd U) (x y : Page) : eqT Tryz.prog cd false 4 28 (cPage.enc x) (cPage.enc y) = some (decide (x = y)) := by
  have h : eqT Tryz.prog cd false 4 28 (cPage.enc x) (cPage.enc y) = some (decide (x.base = y.base) && (decide (x.length = y.length) && (decide (x.access = y.access) && (x.written == y.written)))) := by kernel_rfl
  rw [h]
  cases x; cases y; rw [Option.some.injEq, Bool.eq_iff_iff]; simp
theorem eqSLine (cd : Cd U) (x y : Line) : eqT Tryz.prog cd false 4 55 (cLine.enc x) (cLine.enc y) = some (decide (x = y)) := by
  have h : eqT Tryz.prog cd false 4 55 (cLine.enc x) (cLine.enc y) = some ((x.rxEnable == y.rxEnable) && ((x.rxReady == y.rxReady) && ((x.overrun == y.overrun) && (decide (x.rxData = y.rxData) && ((x.txEnable == y.txEnable) && ((x.txReady == y.txReady) && (decide (x.txData = y.txData) && (decide (x.txLeft = y.txLeft) && decide (x.out = y.out))))))))) := by kernel_rfl
  rw [h]
  cases x; cases y; rw [Option.some.injEq, Bool.eq_iff_iff]; simp
theorem eqSRequest (cd : Cd U) (x y : Request) : eqT Tryz.prog cd false 4 84 (cRequest.enc x) (cRequest.enc y) = some (decide (x = y)) := by
  have h : eqT Tryz.prog cd false 4 84 (cRequest.enc x) (cRequest.enc y) = some (decide (x.priority = y.priority) && decide (x.vector = y.vector)) := by kernel_rfl
  rw [h]
  cases x; cases y; rw [Option.some.injEq, Bool.eq_iff_iff]; simp
theorem ents_ok : EntsOk Tryz.prog ents := ⟨⟨(cInt_ok .i64), (fun x => by kernel_rfl), (fun x => List.all_eq_true.1 (show (((cInt .i64) : Cdc U _).enc x).all plainC = true by kernel_rfl)), (fun f g h => by cases h), (fun d h cd x y => by cases h; exact eqT_int cd (by kernel_rfl) x y)⟩, ⟨cBool_ok, (fun x => by kernel_rfl), (fun x => List.all_eq_true.1 (show ((cBool : Cdc U _).enc x).all plainC = true by kernel_rfl)), (fun f g h => by cases h), (fun d h cd x y => by cases h; exact eqT_bool cd (by kernel_rfl) x y)⟩, ⟨(cInt_ok .u8), (fun x => by kernel_rfl), (fun x => List.all_eq_true.1 (show (((cInt .u8) : Cdc U _).enc x).all plainC = true by kernel_rfl)), (fun f g h => by simp only [Option.some.injEq, Prod.mk.injEq] at h; obtain ⟨rfl, rfl⟩ := h; exact ⟨by kernel_rfl, fun _ => rfl, fun _ => rfl⟩), (fun d h cd x y => by cases h; exact eqT_int cd (by kernel_rfl) x y)⟩, ⟨cStr_ok, (fun x => by kernel_rfl), (fun x => List.all_eq_true.1 (show ((cStr : Cdc U _).enc x).all plainC = true by kernel_rfl)), (fun f g h => by cases h), (fun d h cd x y => by cases h; exact eqT_string cd (by kernel_rfl) x y)⟩, ⟨cPage_ok, (fun x => by kernel_rfl), (fun x => List.all_eq_true.1 (show ((cPage : Cdc U _).enc x).all plainC = true by kernel_rfl)), (fun f g h => by cases h), (fun d h cd x y => by cases h; exact eqSPage cd x y)⟩, ⟨cLine_ok, (fun x => by kernel_rfl), (fun x => List.all_eq_true.1 (show ((cLine : Cdc U _).enc x).all plainC = true by kernel_rfl)), (fun f g h => by cases h), (fun d h cd x y => by cases h; exact eqSLine cd x y)⟩, ⟨cRequest_ok, (fun x => by kernel_rfl), (fun x => List.all_eq_true.1 (show ((cRequest : Cdc U _).enc x).all plainC = true by kernel_rfl)), (fun f g h => by cases h), (fun d h cd x y => by cases h; exact eqSRequest cd x y)⟩, trivial⟩
theorem cd_ok : CdOk Tryz.prog cd := cdOf_ok ents ents_ok
/-- emulator/emulatorlaw18.Small -/
structure Slaw18_Small_0 where
  t3 : Int
  t4 : Int
  b0 : Machine
noncomputable def Wlaw18_Small_0 (s : Slaw18_Small_0) : Tree (Slaw18_Small_0 ⊕ (Int × Machine)) :=
  .ite (decide (s.t4 < (s.b0.disk.drive.sectors.length : Int)))
    (.ite (decide (s.t4 < (300 : Int)))
      (.ite (decide (0 ≤ s.t4))
        (.opt (List UInt8) (s.b0.disk.drive.sectors[(s.t4).toNat]?) fun y1 =>
          .leaf (.inl (Slaw18_Small_0.mk (IntKind.wrap .i64 (s.t3 + (if (100000 : Int) < (y1.length : Int) then (100000 : Int) else (y1.length : Int)))) (IntKind.wrap .i64 (s.t4 + (1 : Int))) s.b0)))
        .fail)
      (.leaf (.inr (s.t3, s.b0))))
    (.leaf (.inr (s.t3, s.b0)))
noncomputable def Llaw18_Small_0 (q : Option Nat) (s : Slaw18_Small_0) : Option (Int × Machine) := limQ q (fun s => (Wlaw18_Small_0 s).run) s
structure Slaw18_Small_1 where
  t3 : Int
  t5 : Int
  b0 : Machine
noncomputable def Wlaw18_Small_1 (s : Slaw18_Small_1) : Tree (Slaw18_Small_1 ⊕ (Int × Machine)) :=
  .ite (decide (s.t5 < (s.b0.tape.records.length : Int)))
    (.ite (decide (s.t5 < (300 : Int)))
      (.ite (decide (0 ≤ s.t5))
        (.opt (List UInt8) (s.b0.tape.records[(s.t5).toNat]?) fun y3 =>
          .leaf (.inl (Slaw18_Small_1.mk (IntKind.wrap .i64 (s.t3 + (if (100000 : Int) < (y3.length : Int) then (100000 : Int) else (y3.length : Int)))) (IntKind.wrap .i64 (s.t5 + (1 : Int))) s.b0)))
        .fail)
      (.leaf (.inr (s.t3, s.b0))))
    (.leaf (.inr (s.t3, s.b0)))
noncomputable def Llaw18_Small_1 (q : Option Nat) (s : Slaw18_Small_1) : Option (Int × Machine) := limQ q (fun s => (Wlaw18_Small_1 s).run) s
structure Slaw18_Small_2 where
  t3 : Int
  t6 : Int
  b0 : Machine
noncomputable def Wlaw18_Small_2 (s : Slaw18_Small_2) : Tree (Slaw18_Small_2 ⊕ (Int × Machine)) :=
  .ite (decide (s.t6 < (s.b0.lines.length : Int)))
    (.ite (decide (s.t6 < (9 : Int)))
      (.ite (decide (0 ≤ s.t6))
        (.opt Line (s.b0.lines[(s.t6).toNat]?) fun y5 =>
          .leaf (.inl (Slaw18_Small_2.mk (IntKind.wrap .i64 (s.t3 + (if (100000 : Int) < (y5.out.length : Int) then (100000 : Int) else (y5.out.length : Int)))) (IntKind.wrap .i64 (s.t6 + (1 : Int))) s.b0)))
        .fail)
      (.leaf (.inr (s.t3, s.b0))))
    (.leaf (.inr (s.t3, s.b0)))
noncomputable def Llaw18_Small_2 (q : Option Nat) (s : Slaw18_Small_2) : Option (Int × Machine) := limQ q (fun s => (Wlaw18_Small_2 s).run) s
noncomputable def Tlaw18_Small (q : Option Nat) (x0 : Machine) : Tree Bool :=
  .opt (Int × Machine) (Llaw18_Small_0 q (Slaw18_Small_0.mk (0 : Int) (0 : Int) x0)) fun l2 =>
    .opt (Int × Machine) (Llaw18_Small_1 q (Slaw18_Small_1.mk l2.1 (0 : Int) l2.2)) fun l4 =>
      .opt (Int × Machine) (Llaw18_Small_2 q (Slaw18_Small_2.mk l4.1 (0 : Int) l4.2)) fun l6 =>
        .ite (decide (l6.1 ≤ (60000 : Int)))
          (.ite (decide ((l6.2.mem.length : Int) ≤ (2048 : Int)))
            (.ite (decide ((l6.2.bad.length : Int) ≤ (64 : Int)))
              (.ite (decide ((l6.2.lines.length : Int) ≤ (8 : Int)))
                (.ite (decide ((l6.2.disk.drive.sectors.length : Int) ≤ (256 : Int)))
                  (.ite (decide ((l6.2.disk.drive.bad.length : Int) ≤ (256 : Int)))
                    (.leaf (decide ((l6.2.tape.records.length : Int) ≤ (70 : Int))))
                    (.leaf (false)))
                  (.leaf (false)))
                (.leaf (false)))
              (.leaf (false)))
            (.leaf (false)))
          (.leaf (false))
noncomputable def law18_Small (q : Option Nat) (x0 : Machine) : Option Bool := (Tlaw18_Small q x0).run
noncomputable def Alaw18_Small : Arg U (Machine × Unit) := aA cMachine (aNil)
noncomputable def Rlaw18_Small (r : Bool) : List (V U) × List (Blk U) := ([vO cBool r], [])
noncomputable def Slaw18_Small : List (V U) → List (Blk U) → Option (FnOut U) := mkSpec Alaw18_Small bNil (fun x _ => law18_Small none x.1) Rlaw18_Small
noncomputable def Plaw18_Small_0 (x : (Unit) × (Int × Unit) × (Int × Unit) × Unit) (g : (Machine × Unit) × Unit) : Slaw18_Small_0 := Slaw18_Small_0.mk x.2.1.1 x.2.2.1.1 g.1.1
noncomputable def tAlaw18_Small_0 : Tms U ((Unit) × (Int × Unit) × (Int × Unit) × Unit) := tO 1 (cK (.ptr 0 0) (cUnit)) (tO 3 (cPair (cInt .i64) (cUnit)) (tO 4 (cPair (cInt .i64) (cUnit)) (tNil)))
noncomputable def tBlaw18_Small_0 : Bls U ((Machine × Unit) × Unit) := bC (cPair cMachine (cUnit)) (bNil)
noncomputable def eSlaw18_Small_0 (s : Slaw18_Small_0) : St U := { tm := [(1, .v (vO (cK (.ptr 0 0) (cUnit)) (()))), (3, .v (vO (cPair (cInt .i64) (cUnit)) (s.t3, ()))), (4, .v (vO (cPair (cInt .i64) (cUnit)) (s.t4, ())))], hp := [.cells ((cPair cMachine (cUnit) : Cdc U (Machine × Unit)).enc (s.b0, ())) none] }
noncomputable def xSlaw18_Small_0 (r : (Int × Machine)) : Ex × St U := (.exit 0, { tm := [(1, .v (vO (cK (.ptr 0 0) (cUnit)) (()))), (3, .v (vO (cPair (cInt .i64) (cUnit)) (r.1, ())))], hp := [.cells ((cPair cMachine (cUnit) : Cdc U (Machine × Unit)).enc (r.2, ())) none] })
noncomputable def xTlaw18_Small_0 (r : (Int × Machine)) : Tree (Ex × St U) := .leaf (xSlaw18_Small_0 r)
noncomputable def hlaw18_Small_0 : Hd := { keep := [1, 3, 4], xkeep := [1, 2, 3], own := false }
noncomputable def Plaw18_Small_1 (x : (Unit) × (Int × Unit) × (Int × Unit) × Unit) (g : (Machine × Unit) × Unit) : Slaw18_Small_1 := Slaw18_Small_1.mk x.2.1.1 x.2.2.1.1 g.1.1
noncomputable def tAlaw18_Small_1 : Tms U ((Unit) × (Int × Unit) × (Int × Unit) × Unit) := tO 1 (cK (.ptr 0 0) (cUnit)) (tO 3 (cPair (cInt .i64) (cUnit)) (tO 5 (cPair (cInt .i64) (cUnit)) (tNil)))
noncomputable def tBlaw18_Small_1 : Bls U ((Machine × Unit) × Unit) := bC (cPair cMachine (cUnit)) (bNil)
noncomputable def eSlaw18_Small_1 (s : Slaw18_Small_1) : St U := { tm := [(1, .v (vO (cK (.ptr 0 0) (cUnit)) (()))), (3, .v (vO (cPair (cInt .i64) (cUnit)) (s.t3, ()))), (5, .v (vO (cPair (cInt .i64) (cUnit)) (s.t5, ())))], hp := [.cells ((cPair cMachine (cUnit) : Cdc U (Machine × Unit)).enc (s.b0, ())) none] }
noncomputable def xSlaw18_Small_1 (r : (Int × Machine)) : Ex × St U := (.exit 2, { tm := [(1, .v (vO (cK (.ptr 0 0) (cUnit)) (()))), (3, .v (vO (cPair (cInt .i64) (cUnit)) (r.1, ())))], hp := [.cells ((cPair cMachine (cUnit) : Cdc U (Machine × Unit)).enc (r.2, ())) none] })
noncomputable def xTlaw18_Small_1 (r : (Int × Machine)) : Tree (Ex × St U) := .leaf (xSlaw18_Small_1 r)
noncomputable def hlaw18_Small_1 : Hd := { keep := [1, 3, 5], xkeep := [1, 2, 3], own := false }
noncomputable def Plaw18_Small_2 (x : (Unit) × (Int × Unit) × (Int × Unit) × Unit) (g : (Machine × Unit) × Unit) : Slaw18_Small_2 := Slaw18_Small_2.mk x.2.1.1 x.2.2.1.1 g.1.1
noncomputable def tAlaw18_Small_2 : Tms U ((Unit) × (Int × Unit) × (Int × Unit) × Unit) := tO 1 (cK (.ptr 0 0) (cUnit)) (tO 3 (cPair (cInt .i64) (cUnit)) (tO 6 (cPair (cInt .i64) (cUnit)) (tNil)))
noncomputable def tBlaw18_Small_2 : Bls U ((Machine × Unit) × Unit) := bC (cPair cMachine (cUnit)) (bNil)
noncomputable def eSlaw18_Small_2 (s : Slaw18_Small_2) : St U := { tm := [(1, .v (vO (cK (.ptr 0 0) (cUnit)) (()))), (3, .v (vO (cPair (cInt .i64) (cUnit)) (s.t3, ()))), (6, .v (vO (cPair (cInt .i64) (cUnit)) (s.t6, ())))], hp := [.cells ((cPair cMachine (cUnit) : Cdc U (Machine × Unit)).enc (s.b0, ())) none] }
noncomputable def xSlaw18_Small_2 (r : (Int × Machine)) : Ex × St U := (.exit 4, { tm := [(1, .v (vO (cK (.ptr 0 0) (cUnit)) (()))), (3, .v (vO (cPair (cInt .i64) (cUnit)) (r.1, ())))], hp := [.cells ((cPair cMachine (cUnit) : Cdc U (Machine × Unit)).enc (r.2, ())) none] })
noncomputable def xTlaw18_Small_2 (r : (Int × Machine)) : Tree (Ex × St U) := .leaf (xSlaw18_Small_2 r)
noncomputable def hlaw18_Small_2 : Hd := { keep := [1, 3, 6], xkeep := [1, 2, 3], own := false }
noncomputable def Elaw18_Small : Env U := { P := Tryz.prog, cd := cd, fns := noF, lps := (addL 0 hlaw18_Small_0 (mkLoop tAlaw18_Small_0 tBlaw18_Small_0 Plaw18_Small_0 (Llaw18_Small_0 none) xTlaw18_Small_0) (addL 1 hlaw18_Small_1 (mkLoop tAlaw18_Small_1 tBlaw18_Small_1 Plaw18_Small_1 (Llaw18_Small_1 none) xTlaw18_Small_1) (addL 2 hlaw18_Small_2 (mkLoop tAlaw18_Small_2 tBlaw18_Small_2 Plaw18_Small_2 (Llaw18_Small_2 none) xTlaw18_Small_2) noL))), frz := fun _r => false, nt := 117, n0 := 0 }
noncomputable def Blaw18_Small_0 : Code := (loopAt (Tryz.f5.body.getD .skip) 0 0).getD .skip
theorem roundlaw18_Small_0 (s : Slaw18_Small_0) : round Elaw18_Small hlaw18_Small_0 Blaw18_Small_0 0 (eSlaw18_Small_0 s) = (Wlaw18_Small_0 s).map (sumE eSlaw18_Small_0 xSlaw18_Small_0) := by kernel_rfl
theorem lplaw18_Small_0 : LpOk Elaw18_Small Blaw18_Small_0 0 := mkLoop_ok (A := tAlaw18_Small_0) (B := tBlaw18_Small_0) (f := Plaw18_Small_0) (L := Llaw18_Small_0 none) (tO_ok (cK_ok cUnit_ok) (tO_ok (cPair_ok (cInt_ok .i64) cUnit_ok) (tO_ok (cPair_ok (cInt_ok .i64) cUnit_ok) tNil_ok))) (bC_ok (cPair_ok cMachine_ok cUnit_ok) bNil_ok) (enc := eSlaw18_Small_0) (out := xTlaw18_Small_0) (outS := xSlaw18_Small_0) (step := Wlaw18_Small_0) (fun _ => rfl) (fun _ _ => by kernel_rfl) (by kernel_rfl) (fun _ => rfl) roundlaw18_Small_0
noncomputable def Blaw18_Small_1 : Code := (loopAt (Tryz.f5.body.getD .skip) 0 1).getD .skip
theorem roundlaw18_Small_1 (s : Slaw18_Small_1) : round Elaw18_Small hlaw18_Small_1 Blaw18_Small_1 1 (eSlaw18_Small_1 s) = (Wlaw18_Small_1 s).map (sumE eSlaw18_Small_1 xSlaw18_Small_1) := by kernel_rfl
theorem lplaw18_Small_1 : LpOk Elaw18_Small Blaw18_Small_1 1 := mkLoop_ok (A := tAlaw18_Small_1) (B := tBlaw18_Small_1) (f := Plaw18_Small_1) (L := Llaw18_Small_1 none) (tO_ok (cK_ok cUnit_ok) (tO_ok (cPair_ok (cInt_ok .i64) cUnit_ok) (tO_ok (cPair_ok (cInt_ok .i64) cUnit_ok) tNil_ok))) (bC_ok (cPair_ok cMachine_ok cUnit_ok) bNil_ok) (enc := eSlaw18_Small_1) (out := xTlaw18_Small_1) (outS := xSlaw18_Small_1) (step := Wlaw18_Small_1) (fun _ => rfl) (fun _ _ => by kernel_rfl) (by kernel_rfl) (fun _ => rfl) roundlaw18_Small_1
noncomputable def Blaw18_Small_2 : Code := (loopAt (Tryz.f5.body.getD .skip) 0 2).getD .skip
theorem roundlaw18_Small_2 (s : Slaw18_Small_2) : round Elaw18_Small hlaw18_Small_2 Blaw18_Small_2 2 (eSlaw18_Small_2 s) = (Wlaw18_Small_2 s).map (sumE eSlaw18_Small_2 xSlaw18_Small_2) := by kernel_rfl
theorem lplaw18_Small_2 : LpOk Elaw18_Small Blaw18_Small_2 2 := mkLoop_ok (A := tAlaw18_Small_2) (B := tBlaw18_Small_2) (f := Plaw18_Small_2) (L := Llaw18_Small_2 none) (tO_ok (cK_ok cUnit_ok) (tO_ok (cPair_ok (cInt_ok .i64) cUnit_ok) (tO_ok (cPair_ok (cInt_ok .i64) cUnit_ok) tNil_ok))) (bC_ok (cPair_ok cMachine_ok cUnit_ok) bNil_ok) (enc := eSlaw18_Small_2) (out := xTlaw18_Small_2) (outS := xSlaw18_Small_2) (step := Wlaw18_Small_2) (fun _ => rfl) (fun _ _ => by kernel_rfl) (by kernel_rfl) (fun _ => rfl) roundlaw18_Small_2
theorem runlaw18_Small (x : Machine × Unit) (g : Unit) : execF Elaw18_Small Tryz.f5 (Alaw18_Small.enc x) (bNil.enc g) = (Tlaw18_Small none x.1).map Rlaw18_Small := by kernel_rfl
theorem oklaw18_Small : FnOk Tryz.prog cd 5 Slaw18_Small := mk_ok (E := Elaw18_Small) cd_ok noF_ok Tryz.func5 (by kernel_rfl) (loops_of (addL_ok lplaw18_Small_0 (addL_ok lplaw18_Small_1 (addL_ok lplaw18_Small_2 noL_ok)))) (aA_ok cMachine_ok (aNil_ok)) bNil_ok (T := fun x _ => Tlaw18_Small none x.1) (fun _ _ => rfl) runlaw18_Small
noncomputable def fns5 := addF 5 true Slaw18_Small noF
theorem fns5_ok : ∀ f q t, fns5 f = some (q, t) → FnOk Tryz.prog cd f t := addF_ok oklaw18_Small noF_ok
/-- emulator/emulatorref14.Right -/
noncomputable def Tref14_Right (x0 : Line) : Tree Bool :=
  .ite (decide (x0.rxData < (0 : Int)))
    (.leaf (false))
    (.ite (decide ((255 : Int) < x0.rxData))
      (.leaf (false))
      (.ite (decide (x0.txData < (0 : Int)))
        (.leaf (false))
        (.ite (decide ((255 : Int) < x0.txData))
          (.leaf (false))
          (.ite (decide ((4096 : Int) < (x0.out.length : Int)))
            (.leaf (false))
            (.ite (decide ((0 : Int) ≤ x0.txLeft))
              (.ite (decide (x0.txLeft ≤ (4 : Int)))
                (.leaf ((x0.txReady == (decide (x0.txLeft = (0 : Int))))))
                (.leaf (false)))
              (.leaf (false)))))))
noncomputable def ref14_Right (x0 : Line) : Option Bool := (Tref14_Right x0).run
noncomputable def Aref14_Right : Arg U (Line × Unit) := aA cLine (aNil)
noncomputable def Rref14_Right (r : Bool) : List (V U) × List (Blk U) := ([vO cBool r], [])
noncomputable def Sref14_Right : List (V U) → List (Blk U) → Option (FnOut U) := mkSpec Aref14_Right bNil (fun x _ => ref14_Right x.1) Rref14_Right
noncomputable def Eref14_Right : Env U := { P := Tryz.prog, cd := cd, fns := fns5, lps := noL, frz := fun _r => false, nt := 43, n0 := 0 }
theorem runref14_Right (x : Line × Unit) (g : Unit) : execF Eref14_Right Tryz.f19 (Aref14_Right.enc x) (bNil.enc g) = (Tref14_Right x.1).map Rref14_Right := by kernel_rfl
theorem okref14_Right : FnOk Tryz.prog cd 19 Sref14_Right := mk_ok (E := Eref14_Right) cd_ok fns5_ok Tryz.func19 (by kernel_rfl) (noLoops_body (by kernel_rfl)) (aA_ok cLine_ok (aNil_ok)) bNil_ok (T := fun x _ => Tref14_Right x.1) (fun _ _ => rfl) runref14_Right
noncomputable def fns19 := addF 19 true Sref14_Right fns5
theorem fns19_ok : ∀ f q t, fns19 f = some (q, t) → FnOk Tryz.prog cd f t := addF_ok okref14_Right fns5_ok
/-- emulator/emulatorref08.Size -/
noncomputable def Tref08_Size (x0 : Int) : Tree Bool :=
  .ite (decide ((256 : Int) ≤ x0))
    (.ite (decide (x0 ≤ (32768 : Int)))
      (.ite (decide ((64 : Int) = 0))
        .fail
        (.leaf (decide (((x0).tmod (64 : Int)) = (0 : Int)))))
      (.leaf (false)))
    (.leaf (false))
noncomputable def ref08_Size (x0 : Int) : Option Bool := (Tref08_Size x0).run
noncomputable def Aref08_Size : Arg U (Int × Unit) := aO (cInt .i64) (aNil)
noncomputable def Rref08_Size (r : Bool) : List (V U) × List (Blk U) := ([vO cBool r], [])
noncomputable def Sref08_Size : List (V U) → List (Blk U) → Option (FnOut U) := mkSpec Aref08_Size bNil (fun x _ => ref08_Size x.1) Rref08_Size
noncomputable def Eref08_Size : Env U := { P := Tryz.prog, cd := cd, fns := fns19, lps := noL, frz := fun _r => false, nt := 14, n0 := 0 }
theorem runref08_Size (x : Int × Unit) (g : Unit) : execF Eref08_Size Tryz.f54 (Aref08_Size.enc x) (bNil.enc g) = (Tref08_Size x.1).map Rref08_Size := by kernel_rfl
theorem okref08_Size : FnOk Tryz.prog cd 54 Sref08_Size := mk_ok (E := Eref08_Size) cd_ok fns19_ok Tryz.func54 (by kernel_rfl) (noLoops_body (by kernel_rfl)) (aO_ok (cInt_ok .i64) (aNil_ok)) bNil_ok (T := fun x _ => Tref08_Size x.1) (fun _ _ => rfl) runref08_Size
noncomputable def fns54 := addF 54 true Sref08_Size fns19
theorem fns54_ok : ∀ f q t, fns54 f = some (q, t) → FnOk Tryz.prog cd f t := addF_ok okref08_Size fns19_ok
/-- emulator/emulatorref08.Right -/
structure Sref08_Right_0 where
  t0 : (List Int)
  t1 : (List Int)
  t5 : Int
noncomputable def Wref08_Right_0 (s : Sref08_Right_0) : Tree (Sref08_Right_0 ⊕ (((List Int) × (List Int) × Bool) ⊕ ((List Int) × (List Int)))) :=
  .ite (decide (s.t5 < (s.t0.length : Int)))
    (.ite (decide (0 ≤ s.t5))
      (.opt Int (s.t0[(s.t5).toNat]?) fun y8 =>
        .ite (decide (y8 < (0 : Int)))
          (.leaf (.inr (.inl (s.t0, s.t1, false))))
          (.ite (decide (0 ≤ s.t5))
            (.opt Int (s.t0[(s.t5).toNat]?) fun y9 =>
              .ite (decide ((65535 : Int) < y9))
                (.leaf (.inr (.inl (s.t0, s.t1, false))))
                (.leaf (.inl (Sref08_Right_0.mk s.t0 s.t1 (IntKind.wrap .i64 (s.t5 + (1 : Int)))))))
            .fail))
      .fail)
    (.leaf (.inr (.inr (s.t0, s.t1))))
noncomputable def Lref08_Right_0 (q : Option Nat) (s : Sref08_Right_0) : Option (((List Int) × (List Int) × Bool) ⊕ ((List Int) × (List Int))) := limQ q (fun s => (Wref08_Right_0 s).run) s
structure Sref08_Right_1 where
  t0 : (List Int)
  t1 : (List Int)
  t6 : Int
noncomputable def Wref08_Right_1 (s : Sref08_Right_1) : Tree (Sref08_Right_1 ⊕ (Bool ⊕ Unit)) :=
  .ite (decide (s.t6 < (s.t1.length : Int)))
    (.ite (decide (0 ≤ s.t6))
      (.opt Int (s.t1[(s.t6).toNat]?) fun y13 =>
        .ite (decide (y13 < (0 : Int)))
          (.leaf (.inr (.inl false)))
          (.ite (decide (0 ≤ s.t6))
            (.opt Int (s.t1[(s.t6).toNat]?) fun y14 =>
              .ite (decide ((IntKind.wrap .i64 ((2 : Int) * (s.t0.length : Int))) ≤ y14))
                (.leaf (.inr (.inl false)))
                (.ite (decide (0 ≤ s.t6))
                  (.opt Int (s.t1[(s.t6).toNat]?) fun y15 =>
                    .ite (decide ((2 : Int) = 0))
                      .fail
                      (.ite (!decide (((y15).tmod (2 : Int)) = (0 : Int)))
                        (.leaf (.inr (.inl false)))
                        (.ite (decide ((0 : Int) < s.t6))
                          (.ite (decide (0 ≤ s.t6))
                            (.opt Int (s.t1[(s.t6).toNat]?) fun y16 =>
                              .ite (decide (0 ≤ IntKind.wrap .i64 (s.t6 - (1 : Int))))
                                (.opt Int (s.t1[(IntKind.wrap .i64 (s.t6 - (1 : Int))).toNat]?) fun y17 =>
                                  .ite (decide (y16 ≤ y17))
                                    (.leaf (.inr (.inl false)))
                                    (.leaf (.inl (Sref08_Right_1.mk s.t0 s.t1 (IntKind.wrap .i64 (s.t6 + (1 : Int)))))))
                                .fail)
                            .fail)
                          (.leaf (.inl (Sref08_Right_1.mk s.t0 s.t1 (IntKind.wrap .i64 (s.t6 + (1 : Int)))))))))
                  .fail))
            .fail))
      .fail)
    (.leaf (.inr (.inr ())))
noncomputable def Lref08_Right_1 (q : Option Nat) (s : Sref08_Right_1) : Option (Bool ⊕ Unit) := limQ q (fun s => (Wref08_Right_1 s).run) s
noncomputable def Tref08_Right (q : Option Nat) (x0 : (List Int)) (x1 : (List Int)) : Tree Bool :=
  .opt Bool (ref08_Size (IntKind.wrap .i64 ((2 : Int) * (x0.length : Int)))) fun r7 =>
    .ite (!r7)
      (.leaf (false))
      (.opt (((List Int) × (List Int) × Bool) ⊕ ((List Int) × (List Int))) (Lref08_Right_0 q (Sref08_Right_0.mk x0 x1 (0 : Int))) fun l10 =>
        .ite (l10.isLeft)
          (.opt ((List Int) × (List Int) × Bool) (l10.getLeft?) fun a11 =>
            .leaf (a11.2.2))
          (.opt ((List Int) × (List Int)) (l10.getRight?) fun b12 =>
            .opt (Bool ⊕ Unit) (Lref08_Right_1 q (Sref08_Right_1.mk b12.1 b12.2 (0 : Int))) fun l18 =>
              .ite (l18.isLeft)
                (.opt Bool (l18.getLeft?) fun a19 =>
                  .leaf (a19))
                (.opt Unit (l18.getRight?) fun b20 =>
                  .leaf (true))))
noncomputable def ref08_Right (q : Option Nat) (x0 : (List Int)) (x1 : (List Int)) : Option Bool := (Tref08_Right q x0 x1).run
noncomputable def Aref08_Right : Arg U ((List Int) × (List Int) × Unit) := aO (cSl 3) (aO (cSl 3) (aNil))
noncomputable def Rref08_Right (r : Bool) : List (V U) × List (Blk U) := ([vO cBool r], [])
noncomputable def Sref08_Right : List (V U) → List (Blk U) → Option (FnOut U) := mkSpec Aref08_Right bNil (fun x _ => ref08_Right none x.1 x.2.1) Rref08_Right
noncomputable def Pref08_Right_0 (x : ((List Int) × Unit) × ((List Int) × Unit) × (Int × Unit) × Unit) (_g : Unit) : Sref08_Right_0 := Sref08_Right_0.mk x.1.1 x.2.1.1 x.2.2.1.1
noncomputable def tAref08_Right_0 : Tms U (((List Int) × Unit) × ((List Int) × Unit) × (Int × Unit) × Unit) := tO 0 (cPair (cSl 3) (cUnit)) (tO 1 (cPair (cSl 3) (cUnit)) (tO 5 (cPair (cInt .i64) (cUnit)) (tNil)))
noncomputable def tBref08_Right_0 : Bls U (Unit) := bNil
noncomputable def eSref08_Right_0 (s : Sref08_Right_0) : St U := { tm := [(0, .v (vO (cPair (cSl 3) (cUnit)) (s.t0, ()))), (1, .v (vO (cPair (cSl 3) (cUnit)) (s.t1, ()))), (5, .v (vO (cPair (cInt .i64) (cUnit)) (s.t5, ())))], hp := [] }
noncomputable def xSref08_Right_0 : (((List Int) × (List Int) × Bool) ⊕ ((List Int) × (List Int))) → Ex × St U
  | .inl r => (.ret, { tm := [(0, .v (vO (cPair (cSl 3) (cUnit)) (r.1, ()))), (1, .v (vO (cPair (cSl 3) (cUnit)) (r.2.1, ()))), (4, .v (vO (cPair cBool (cUnit)) (r.2.2, ())))], hp := [] })
  | .inr r => (.exit 0, { tm := [(0, .v (vO (cPair (cSl 3) (cUnit)) (r.1, ()))), (1, .v (vO (cPair (cSl 3) (cUnit)) (r.2, ())))], hp := [] })
noncomputable def xTref08_Right_0 (y : (((List Int) × (List Int) × Bool) ⊕ ((List Int) × (List Int)))) : Tree (Ex × St U) := .ite y.isLeft (.opt ((List Int) × (List Int) × Bool) y.getLeft? fun r => .leaf (.ret, { tm := [(0, .v (vO (cPair (cSl 3) (cUnit)) (r.1, ()))), (1, .v (vO (cPair (cSl 3) (cUnit)) (r.2.1, ()))), (4, .v (vO (cPair cBool (cUnit)) (r.2.2, ())))], hp := [] })) (.opt ((List Int) × (List Int)) y.getRight? fun r => .leaf (.exit 0, { tm := [(0, .v (vO (cPair (cSl 3) (cUnit)) (r.1, ()))), (1, .v (vO (cPair (cSl 3) (cUnit)) (r.2, ())))], hp := [] }))
noncomputable def href08_Right_0 : Hd := { keep := [0, 1, 5], xkeep := [0, 1, 4], own := false }
noncomputable def Pref08_Right_1 (x : ((List Int) × Unit) × ((List Int) × Unit) × (Int × Unit) × Unit) (_g : Unit) : Sref08_Right_1 := Sref08_Right_1.mk x.1.1 x.2.1.1 x.2.2.1.1
noncomputable def tAref08_Right_1 : Tms U (((List Int) × Unit) × ((List Int) × Unit) × (Int × Unit) × Unit) := tO 0 (cPair (cSl 3) (cUnit)) (tO 1 (cPair (cSl 3) (cUnit)) (tO 6 (cPair (cInt .i64) (cUnit)) (tNil)))
noncomputable def tBref08_Right_1 : Bls U (Unit) := bNil
noncomputable def eSref08_Right_1 (s : Sref08_Right_1) : St U := { tm := [(0, .v (vO (cPair (cSl 3) (cUnit)) (s.t0, ()))), (1, .v (vO (cPair (cSl 3) (cUnit)) (s.t1, ()))), (6, .v (vO (cPair (cInt .i64) (cUnit)) (s.t6, ())))], hp := [] }
noncomputable def xSref08_Right_1 : (Bool ⊕ Unit) → Ex × St U
  | .inl r => (.ret, { tm := [(4, .v (vO (cPair cBool (cUnit)) (r, ())))], hp := [] })
  | .inr r => (.exit 2, { tm := [], hp := [] })
noncomputable def xTref08_Right_1 (y : (Bool ⊕ Unit)) : Tree (Ex × St U) := .ite y.isLeft (.opt Bool y.getLeft? fun r => .leaf (.ret, { tm := [(4, .v (vO (cPair cBool (cUnit)) (r, ())))], hp := [] })) (.opt Unit y.getRight? fun r => .leaf (.exit 2, { tm := [], hp := [] }))
noncomputable def href08_Right_1 : Hd := { keep := [0, 1, 6], xkeep := [4], own := false }
noncomputable def Eref08_Right : Env U := { P := Tryz.prog, cd := cd, fns := fns54, lps := (addL 0 href08_Right_0 (mkLoop tAref08_Right_0 tBref08_Right_0 Pref08_Right_0 (Lref08_Right_0 none) xTref08_Right_0) (addL 1 href08_Right_1 (mkLoop tAref08_Right_1 tBref08_Right_1 Pref08_Right_1 (Lref08_Right_1 none) xTref08_Right_1) noL)), frz := fun _r => false, nt := 75, n0 := 0 }
noncomputable def Bref08_Right_0 : Code := (loopAt (Tryz.f20.body.getD .skip) 0 0).getD .skip
theorem roundref08_Right_0 (s : Sref08_Right_0) : round Eref08_Right href08_Right_0 Bref08_Right_0 0 (eSref08_Right_0 s) = (Wref08_Right_0 s).map (sumE eSref08_Right_0 xSref08_Right_0) := by kernel_rfl
theorem lpref08_Right_0 : LpOk Eref08_Right Bref08_Right_0 0 := mkLoop_ok (A := tAref08_Right_0) (B := tBref08_Right_0) (f := Pref08_Right_0) (L := Lref08_Right_0 none) (tO_ok (cPair_ok (cSl_ok 3) cUnit_ok) (tO_ok (cPair_ok (cSl_ok 3) cUnit_ok) (tO_ok (cPair_ok (cInt_ok .i64) cUnit_ok) tNil_ok))) bNil_ok (enc := eSref08_Right_0) (out := xTref08_Right_0) (outS := xSref08_Right_0) (step := Wref08_Right_0) (fun _ => rfl) (fun _ _ => by kernel_rfl) (by kernel_rfl) (fun b => by cases b <;> rfl) roundref08_Right_0
noncomputable def Bref08_Right_1 : Code := (loopAt (Tryz.f20.body.getD .skip) 0 1).getD .skip
theorem roundref08_Right_1 (s : Sref08_Right_1) : round Eref08_Right href08_Right_1 Bref08_Right_1 1 (eSref08_Right_1 s) = (Wref08_Right_1 s).map (sumE eSref08_Right_1 xSref08_Right_1) := by kernel_rfl
theorem lpref08_Right_1 : LpOk Eref08_Right Bref08_Right_1 1 := mkLoop_ok (A := tAref08_Right_1) (B := tBref08_Right_1) (f := Pref08_Right_1) (L := Lref08_Right_1 none) (tO_ok (cPair_ok (cSl_ok 3) cUnit_ok) (tO_ok (cPair_ok (cSl_ok 3) cUnit_ok) (tO_ok (cPair_ok (cInt_ok .i64) cUnit_ok) tNil_ok))) bNil_ok (enc := eSref08_Right_1) (out := xTref08_Right_1) (outS := xSref08_Right_1) (step := Wref08_Right_1) (fun _ => rfl) (fun _ _ => by kernel_rfl) (by kernel_rfl) (fun b => by cases b <;> rfl) roundref08_Right_1
theorem runref08_Right (x : (List Int) × (List Int) × Unit) (g : Unit) : execF Eref08_Right Tryz.f20 (Aref08_Right.enc x) (bNil.enc g) = (Tref08_Right none x.1 x.2.1).map Rref08_Right := by kernel_rfl
theorem okref08_Right : FnOk Tryz.prog cd 20 Sref08_Right := mk_ok (E := Eref08_Right) cd_ok fns54_ok Tryz.func20 (by kernel_rfl) (loops_of (addL_ok lpref08_Right_0 (addL_ok lpref08_Right_1 noL_ok))) (aO_ok (cSl_ok 3) (aO_ok (cSl_ok 3) (aNil_ok))) bNil_ok (T := fun x _ => Tref08_Right none x.1 x.2.1) (fun _ _ => rfl) runref08_Right
noncomputable def fns20 := addF 20 true Sref08_Right fns54
theorem fns20_ok : ∀ f q t, fns20 f = some (q, t) → FnOk Tryz.prog cd f t := addF_ok okref08_Right fns54_ok
/-- emulator/emulatorref09.Right -/
structure Sref09_Right_1 where
  t3 : Int
  t4 : Int
  b0 : Mmu
noncomputable def Wref09_Right_1 (s : Sref09_Right_1) : Tree (Sref09_Right_1 ⊕ ((Bool × Int × Mmu) ⊕ (Int × Mmu))) :=
  .ite (decide (s.t4 < (8 : Int)))
    (.ite (decide (0 ≤ s.t3))
      (.ite (decide (s.t3 < (2 : Int)))
        (.ite (decide (0 ≤ s.t4))
          (.ite (decide (s.t4 < (8 : Int)))
            (.opt Page (s.b0.pages[(s.t3).toNat * 8 + (s.t4).toNat * 1]?) fun y21 =>
              .ite (decide (y21.base < (0 : Int)))
                (.leaf (.inr (.inl (false, s.t3, s.b0))))
                (.ite (decide ((4095 : Int) < y21.base))
                  (.leaf (.inr (.inl (false, s.t3, s.b0))))
                  (.ite (decide (y21.length < (0 : Int)))
                    (.leaf (.inr (.inl (false, s.t3, s.b0))))
                    (.ite (decide ((128 : Int) < y21.length))
                      (.leaf (.inr (.inl (false, s.t3, s.b0))))
                      (.ite (decide (y21.access < (0 : Int)))
                        (.leaf (.inr (.inl (false, s.t3, s.b0))))
                        (.ite (decide ((2 : Int) < y21.access))
                          (.leaf (.inr (.inl (false, s.t3, s.b0))))
                          (.leaf (.inl (Sref09_Right_1.mk s.t3 (IntKind.wrap .i64 (s.t4 + (1 : Int))) s.b0)))))))))
            .fail)
          .fail)
        .fail)
      .fail)
    (.leaf (.inr (.inr (s.t3, s.b0))))
noncomputable def Lref09_Right_1 (q : Option Nat) (s : Sref09_Right_1) : Option ((Bool × Int × Mmu) ⊕ (Int × Mmu)) := limQ q (fun s => (Wref09_Right_1 s).run) s
structure Sref09_Right_0 where
  t3 : Int
  b0 : Mmu
noncomputable def Wref09_Right_0 (q : Option Nat) (s : Sref09_Right_0) : Tree (Sref09_Right_0 ⊕ ((Bool × Mmu) ⊕ Mmu)) :=
  .ite (decide (s.t3 < (2 : Int)))
    (.opt ((Bool × Int × Mmu) ⊕ (Int × Mmu)) (Lref09_Right_1 q (Sref09_Right_1.mk s.t3 (0 : Int) s.b0)) fun l22 =>
      .ite (l22.isLeft)
        (.opt (Bool × Int × Mmu) (l22.getLeft?) fun a23 =>
          .leaf (.inr (.inl (a23.1, a23.2.2))))
        (.opt (Int × Mmu) (l22.getRight?) fun b24 =>
          .leaf (.inl (Sref09_Right_0.mk (IntKind.wrap .i64 (b24.1 + (1 : Int))) b24.2))))
    (.leaf (.inr (.inr s.b0)))
noncomputable def Lref09_Right_0 (q : Option Nat) (s : Sref09_Right_0) : Option ((Bool × Mmu) ⊕ Mmu) := limQ q (fun s => (Wref09_Right_0 q s).run) s
noncomputable def Tref09_Right (q : Option Nat) (x0 : Mmu) : Tree Bool :=
  .opt ((Bool × Mmu) ⊕ Mmu) (Lref09_Right_0 q (Sref09_Right_0.mk (0 : Int) x0)) fun l25 =>
    .ite (l25.isLeft)
      (.opt (Bool × Mmu) (l25.getLeft?) fun a26 =>
        .leaf (a26.1))
      (.opt Mmu (l25.getRight?) fun b27 =>
        .ite (decide ((0 : Int) ≤ b27.status))
          (.ite (decide (b27.status ≤ (3 : Int)))
            (.ite (decide ((0 : Int) ≤ b27.addr))
              (.leaf (decide (b27.addr < (65536 : Int))))
              (.leaf (false)))
            (.leaf (false)))
          (.leaf (false)))
noncomputable def ref09_Right (q : Option Nat) (x0 : Mmu) : Option Bool := (Tref09_Right q x0).run
noncomputable def Aref09_Right : Arg U (Mmu × Unit) := aA cMmu (aNil)
noncomputable def Rref09_Right (r : Bool) : List (V U) × List (Blk U) := ([vO cBool r], [])
noncomputable def Sref09_Right : List (V U) → List (Blk U) → Option (FnOut U) := mkSpec Aref09_Right bNil (fun x _ => ref09_Right none x.1) Rref09_Right
noncomputable def Pref09_Right_0 (x : (Unit) × (Int × Unit) × Unit) (g : (Mmu × Unit) × Unit) : Sref09_Right_0 := Sref09_Right_0.mk x.2.1.1 g.1.1
noncomputable def tAref09_Right_0 : Tms U ((Unit) × (Int × Unit) × Unit) := tO 1 (cK (.ptr 0 0) (cUnit)) (tO 3 (cPair (cInt .i64) (cUnit)) (tNil))
noncomputable def tBref09_Right_0 : Bls U ((Mmu × Unit) × Unit) := bC (cPair cMmu (cUnit)) (bNil)
noncomputable def eSref09_Right_0 (s : Sref09_Right_0) : St U := { tm := [(1, .v (vO (cK (.ptr 0 0) (cUnit)) (()))), (3, .v (vO (cPair (cInt .i64) (cUnit)) (s.t3, ())))], hp := [.cells ((cPair cMmu (cUnit) : Cdc U (Mmu × Unit)).enc (s.b0, ())) none] }
noncomputable def xSref09_Right_0 : ((Bool × Mmu) ⊕ Mmu) → Ex × St U
  | .inl r => (.ret, { tm := [(1, .v (vO (cK (.ptr 0 0) (cUnit)) (()))), (2, .v (vO (cPair cBool (cUnit)) (r.1, ())))], hp := [.cells ((cPair cMmu (cUnit) : Cdc U (Mmu × Unit)).enc (r.2, ())) none] })
  | .inr r => (.exit 0, { tm := [(1, .v (vO (cK (.ptr 0 0) (cUnit)) (())))], hp := [.cells ((cPair cMmu (cUnit) : Cdc U (Mmu × Unit)).enc (r, ())) none] })
noncomputable def xTref09_Right_0 (y : ((Bool × Mmu) ⊕ Mmu)) : Tree (Ex × St U) := .ite y.isLeft (.opt (Bool × Mmu) y.getLeft? fun r => .leaf (.ret, { tm := [(1, .v (vO (cK (.ptr 0 0) (cUnit)) (()))), (2, .v (vO (cPair cBool (cUnit)) (r.1, ())))], hp := [.cells ((cPair cMmu (cUnit) : Cdc U (Mmu × Unit)).enc (r.2, ())) none] })) (.opt Mmu y.getRight? fun r => .leaf (.exit 0, { tm := [(1, .v (vO (cK (.ptr 0 0) (cUnit)) (())))], hp := [.cells ((cPair cMmu (cUnit) : Cdc U (Mmu × Unit)).enc (r, ())) none] }))
noncomputable def href09_Right_0 : Hd := { keep := [1, 3], xkeep := [1, 2], own := false }
noncomputable def Pref09_Right_1 (x : (Unit) × (Int × Unit) × (Int × Unit) × Unit) (g : (Mmu × Unit) × Unit) : Sref09_Right_1 := Sref09_Right_1.mk x.2.1.1 x.2.2.1.1 g.1.1
noncomputable def tAref09_Right_1 : Tms U ((Unit) × (Int × Unit) × (Int × Unit) × Unit) := tO 1 (cK (.ptr 0 0) (cUnit)) (tO 3 (cPair (cInt .i64) (cUnit)) (tO 4 (cPair (cInt .i64) (cUnit)) (tNil)))
noncomputable def tBref09_Right_1 : Bls U ((Mmu × Unit) × Unit) := bC (cPair cMmu (cUnit)) (bNil)
noncomputable def eSref09_Right_1 (s : Sref09_Right_1) : St U := { tm := [(1, .v (vO (cK (.ptr 0 0) (cUnit)) (()))), (3, .v (vO (cPair (cInt .i64) (cUnit)) (s.t3, ()))), (4, .v (vO (cPair (cInt .i64) (cUnit)) (s.t4, ())))], hp := [.cells ((cPair cMmu (cUnit) : Cdc U (Mmu × Unit)).enc (s.b0, ())) none] }
noncomputable def xSref09_Right_1 : ((Bool × Int × Mmu) ⊕ (Int × Mmu)) → Ex × St U
  | .inl r => (.ret, { tm := [(1, .v (vO (cK (.ptr 0 0) (cUnit)) (()))), (2, .v (vO (cPair cBool (cUnit)) (r.1, ()))), (3, .v (vO (cPair (cInt .i64) (cUnit)) (r.2.1, ())))], hp := [.cells ((cPair cMmu (cUnit) : Cdc U (Mmu × Unit)).enc (r.2.2, ())) none] })
  | .inr r => (.exit 2, { tm := [(1, .v (vO (cK (.ptr 0 0) (cUnit)) (()))), (3, .v (vO (cPair (cInt .i64) (cUnit)) (r.1, ())))], hp := [.cells ((cPair cMmu (cUnit) : Cdc U (Mmu × Unit)).enc (r.2, ())) none] })
noncomputable def xTref09_Right_1 (y : ((Bool × Int × Mmu) ⊕ (Int × Mmu))) : Tree (Ex × St U) := .ite y.isLeft (.opt (Bool × Int × Mmu) y.getLeft? fun r => .leaf (.ret, { tm := [(1, .v (vO (cK (.ptr 0 0) (cUnit)) (()))), (2, .v (vO (cPair cBool (cUnit)) (r.1, ()))), (3, .v (vO (cPair (cInt .i64) (cUnit)) (r.2.1, ())))], hp := [.cells ((cPair cMmu (cUnit) : Cdc U (Mmu × Unit)).enc (r.2.2, ())) none] })) (.opt (Int × Mmu) y.getRight? fun r => .leaf (.exit 2, { tm := [(1, .v (vO (cK (.ptr 0 0) (cUnit)) (()))), (3, .v (vO (cPair (cInt .i64) (cUnit)) (r.1, ())))], hp := [.cells ((cPair cMmu (cUnit) : Cdc U (Mmu × Unit)).enc (r.2, ())) none] }))
noncomputable def href09_Right_1 : Hd := { keep := [1, 3, 4], xkeep := [1, 2, 3], own := false }
noncomputable def Eref09_Right : Env U := { P := Tryz.prog, cd := cd, fns := fns20, lps := (addL 0 href09_Right_0 (mkLoop tAref09_Right_0 tBref09_Right_0 Pref09_Right_0 (Lref09_Right_0 none) xTref09_Right_0) (addL 1 href09_Right_1 (mkLoop tAref09_Right_1 tBref09_Right_1 Pref09_Right_1 (Lref09_Right_1 none) xTref09_Right_1) noL)), frz := fun _r => false, nt := 66, n0 := 0 }
noncomputable def Bref09_Right_0 : Code := (loopAt (Tryz.f21.body.getD .skip) 0 0).getD .skip
theorem roundref09_Right_0 (s : Sref09_Right_0) : round Eref09_Right href09_Right_0 Bref09_Right_0 0 (eSref09_Right_0 s) = (Wref09_Right_0 none s).map (sumE eSref09_Right_0 xSref09_Right_0) := by kernel_rfl
theorem lpref09_Right_0 : LpOk Eref09_Right Bref09_Right_0 0 := mkLoop_ok (A := tAref09_Right_0) (B := tBref09_Right_0) (f := Pref09_Right_0) (L := Lref09_Right_0 none) (tO_ok (cK_ok cUnit_ok) (tO_ok (cPair_ok (cInt_ok .i64) cUnit_ok) tNil_ok)) (bC_ok (cPair_ok cMmu_ok cUnit_ok) bNil_ok) (enc := eSref09_Right_0) (out := xTref09_Right_0) (outS := xSref09_Right_0) (step := Wref09_Right_0 none) (fun _ => rfl) (fun _ _ => by kernel_rfl) (by kernel_rfl) (fun b => by cases b <;> rfl) roundref09_Right_0
noncomputable def Bref09_Right_1 : Code := (loopAt (Tryz.f21.body.getD .skip) 0 1).getD .skip
theorem roundref09_Right_1 (s : Sref09_Right_1) : round Eref09_Right href09_Right_1 Bref09_Right_1 1 (eSref09_Right_1 s) = (Wref09_Right_1 s).map (sumE eSref09_Right_1 xSref09_Right_1) := by kernel_rfl
theorem lpref09_Right_1 : LpOk Eref09_Right Bref09_Right_1 1 := mkLoop_ok (A := tAref09_Right_1) (B := tBref09_Right_1) (f := Pref09_Right_1) (L := Lref09_Right_1 none) (tO_ok (cK_ok cUnit_ok) (tO_ok (cPair_ok (cInt_ok .i64) cUnit_ok) (tO_ok (cPair_ok (cInt_ok .i64) cUnit_ok) tNil_ok))) (bC_ok (cPair_ok cMmu_ok cUnit_ok) bNil_ok) (enc := eSref09_Right_1) (out := xTref09_Right_1) (outS := xSref09_Right_1) (step := Wref09_Right_1) (fun _ => rfl) (fun _ _ => by kernel_rfl) (by kernel_rfl) (fun b => by cases b <;> rfl) roundref09_Right_1
theorem runref09_Right (x : Mmu × Unit) (g : Unit) : execF Eref09_Right Tryz.f21 (Aref09_Right.enc x) (bNil.enc g) = (Tref09_Right none x.1).map Rref09_Right := by kernel_rfl
theorem okref09_Right : FnOk Tryz.prog cd 21 Sref09_Right := mk_ok (E := Eref09_Right) cd_ok fns20_ok Tryz.func21 (by kernel_rfl) (loops_of (addL_ok lpref09_Right_0 (addL_ok lpref09_Right_1 noL_ok))) (aA_ok cMmu_ok (aNil_ok)) bNil_ok (T := fun x _ => Tref09_Right none x.1) (fun _ _ => rfl) runref09_Right
noncomputable def fns21 := addF 21 true Sref09_Right fns20
theorem fns21_ok : ∀ f q t, fns21 f = some (q, t) → FnOk Tryz.prog cd f t := addF_ok okref09_Right fns20_ok
/-- emulator/emulatorref13.Right -/
noncomputable def Tref13_Right (x0 : Clock) : Tree Bool :=
  .ite (decide ((1 : Int) ≤ x0.period))
    (.ite (decide (x0.period ≤ (65535 : Int)))
      (.ite (decide ((1 : Int) ≤ x0.left))
        (.leaf (decide (x0.left ≤ x0.period)))
        (.leaf (false)))
      (.leaf (false)))
    (.leaf (false))
noncomputable def ref13_Right (x0 : Clock) : Option Bool := (Tref13_Right x0).run
noncomputable def Aref13_Right : Arg U (Clock × Unit) := aA cClock (aNil)
noncomputable def Rref13_Right (r : Bool) : List (V U) × List (Blk U) := ([vO cBool r], [])
noncomputable def Sref13_Right : List (V U) → List (Blk U) → Option (FnOut U) := mkSpec Aref13_Right bNil (fun x _ => ref13_Right x.1) Rref13_Right
noncomputable def Eref13_Right : Env U := { P := Tryz.prog, cd := cd, fns := fns21, lps := noL, frz := fun _r => false, nt := 23, n0 := 0 }
theorem runref13_Right (x : Clock × Unit) (g : Unit) : execF Eref13_Right Tryz.f22 (Aref13_Right.enc x) (bNil.enc g) = (Tref13_Right x.1).map Rref13_Right := by kernel_rfl
theorem okref13_Right : FnOk Tryz.prog cd 22 Sref13_Right := mk_ok (E := Eref13_Right) cd_ok fns21_ok Tryz.func22 (by kernel_rfl) (noLoops_body (by kernel_rfl)) (aA_ok cClock_ok (aNil_ok)) bNil_ok (T := fun x _ => Tref13_Right x.1) (fun _ _ => rfl) runref13_Right
noncomputable def fns22 := addF 22 true Sref13_Right fns21
theorem fns22_ok : ∀ f q t, fns22 f = some (q, t) → FnOk Tryz.prog cd f t := addF_ok okref13_Right fns21_ok
/-- emulator/emulatorref16.word -/
noncomputable def Tref16_word (x0 : Int) : Tree Bool :=
  .ite (decide ((0 : Int) ≤ x0))
    (.leaf (decide (x0 ≤ (65535 : Int))))
    (.leaf (false))
noncomputable def ref16_word (x0 : Int) : Option Bool := (Tref16_word x0).run
noncomputable def Aref16_word : Arg U (Int × Unit) := aO (cInt .i64) (aNil)
noncomputable def Rref16_word (r : Bool) : List (V U) × List (Blk U) := ([vO cBool r], [])
noncomputable def Sref16_word : List (V U) → List (Blk U) → Option (FnOut U) := mkSpec Aref16_word bNil (fun x _ => ref16_word x.1) Rref16_word
noncomputable def Eref16_word : Env U := { P := Tryz.prog, cd := cd, fns := fns22, lps := noL, frz := fun _r => false, nt := 9, n0 := 0 }
theorem runref16_word (x : Int × Unit) (g : Unit) : execF Eref16_word Tryz.f55 (Aref16_word.enc x) (bNil.enc g) = (Tref16_word x.1).map Rref16_word := by kernel_rfl
theorem okref16_word : FnOk Tryz.prog cd 55 Sref16_word := mk_ok (E := Eref16_word) cd_ok fns22_ok Tryz.func55 (by kernel_rfl) (noLoops_body (by kernel_rfl)) (aO_ok (cInt_ok .i64) (aNil_ok)) bNil_ok (T := fun x _ => Tref16_word x.1) (fun _ _ => rfl) runref16_word
noncomputable def fns55 := addF 55 true Sref16_word fns22
theorem fns55_ok : ∀ f q t, fns55 f = some (q, t) → FnOk Tryz.prog cd f t := addF_ok okref16_word fns22_ok
/-- emulator/emulatorref15.Right -/
structure Sref15_Right_0 where
  t3 : Int
  b0 : Drive
noncomputable def Wref15_Right_0 (s : Sref15_Right_0) : Tree (Sref15_Right_0 ⊕ ((Bool × Drive) ⊕ Drive)) :=
  .ite (decide (s.t3 < (s.b0.sectors.length : Int)))
    (.ite (decide (0 ≤ s.t3))
      (.opt (List UInt8) (s.b0.sectors[(s.t3).toNat]?) fun y28 =>
        .ite (!decide ((y28.length : Int) = (128 : Int)))
          (.leaf (.inr (.inl (false, s.b0))))
          (.leaf (.inl (Sref15_Right_0.mk (IntKind.wrap .i64 (s.t3 + (1 : Int))) s.b0))))
      .fail)
    (.leaf (.inr (.inr s.b0)))
noncomputable def Lref15_Right_0 (q : Option Nat) (s : Sref15_Right_0) : Option ((Bool × Drive) ⊕ Drive) := limQ q (fun s => (Wref15_Right_0 s).run) s
structure Sref15_Right_1 where
  t4 : Int
  b0 : Drive
noncomputable def Wref15_Right_1 (s : Sref15_Right_1) : Tree (Sref15_Right_1 ⊕ (Bool ⊕ Unit)) :=
  .ite (decide (s.t4 < (s.b0.bad.length : Int)))
    (.ite (decide (0 ≤ s.t4))
      (.opt Int (s.b0.bad[(s.t4).toNat]?) fun y32 =>
        .ite (decide (y32 < (0 : Int)))
          (.leaf (.inr (.inl false)))
          (.ite (decide (0 ≤ s.t4))
            (.opt Int (s.b0.bad[(s.t4).toNat]?) fun y33 =>
              .ite (decide ((s.b0.sectors.length : Int) ≤ y33))
                (.leaf (.inr (.inl false)))
                (.ite (decide ((0 : Int) < s.t4))
                  (.ite (decide (0 ≤ IntKind.wrap .i64 (s.t4 - (1 : Int))))
                    (.opt Int (s.b0.bad[(IntKind.wrap .i64 (s.t4 - (1 : Int))).toNat]?) fun y34 =>
                      .ite (decide (0 ≤ s.t4))
                        (.opt Int (s.b0.bad[(s.t4).toNat]?) fun y35 =>
                          .ite (decide (y35 ≤ y34))
                            (.leaf (.inr (.inl false)))
                            (.leaf (.inl (Sref15_Right_1.mk (IntKind.wrap .i64 (s.t4 + (1 : Int))) s.b0))))
                        .fail)
                    .fail)
                  (.leaf (.inl (Sref15_Right_1.mk (IntKind.wrap .i64 (s.t4 + (1 : Int))) s.b0)))))
            .fail))
      .fail)
    (.leaf (.inr (.inr ())))
noncomputable def Lref15_Right_1 (q : Option Nat) (s : Sref15_Right_1) : Option (Bool ⊕ Unit) := limQ q (fun s => (Wref15_Right_1 s).run) s
noncomputable def Tref15_Right (q : Option Nat) (x0 : Drive) : Tree Bool :=
  .ite (decide ((x0.sectors.length : Int) < (1 : Int)))
    (.leaf (false))
    (.ite (decide ((256 : Int) < (x0.sectors.length : Int)))
      (.leaf (false))
      (.opt ((Bool × Drive) ⊕ Drive) (Lref15_Right_0 q (Sref15_Right_0.mk (0 : Int) x0)) fun l29 =>
        .ite (l29.isLeft)
          (.opt (Bool × Drive) (l29.getLeft?) fun a30 =>
            .leaf (a30.1))
          (.opt Drive (l29.getRight?) fun b31 =>
            .opt (Bool ⊕ Unit) (Lref15_Right_1 q (Sref15_Right_1.mk (0 : Int) b31)) fun l36 =>
              .ite (l36.isLeft)
                (.opt Bool (l36.getLeft?) fun a37 =>
                  .leaf (a37))
                (.opt Unit (l36.getRight?) fun b38 =>
                  .leaf (true)))))
noncomputable def ref15_Right (q : Option Nat) (x0 : Drive) : Option Bool := (Tref15_Right q x0).run
noncomputable def Aref15_Right : Arg U (Drive × Unit) := aA cDrive (aNil)
noncomputable def Rref15_Right (r : Bool) : List (V U) × List (Blk U) := ([vO cBool r], [])
noncomputable def Sref15_Right : List (V U) → List (Blk U) → Option (FnOut U) := mkSpec Aref15_Right bNil (fun x _ => ref15_Right none x.1) Rref15_Right
noncomputable def Pref15_Right_0 (x : (Unit) × (Int × Unit) × Unit) (g : (Drive × Unit) × Unit) : Sref15_Right_0 := Sref15_Right_0.mk x.2.1.1 g.1.1
noncomputable def tAref15_Right_0 : Tms U ((Unit) × (Int × Unit) × Unit) := tO 1 (cK (.ptr 0 0) (cUnit)) (tO 3 (cPair (cInt .i64) (cUnit)) (tNil))
noncomputable def tBref15_Right_0 : Bls U ((Drive × Unit) × Unit) := bC (cPair cDrive (cUnit)) (bNil)
noncomputable def eSref15_Right_0 (s : Sref15_Right_0) : St U := { tm := [(1, .v (vO (cK (.ptr 0 0) (cUnit)) (()))), (3, .v (vO (cPair (cInt .i64) (cUnit)) (s.t3, ())))], hp := [.cells ((cPair cDrive (cUnit) : Cdc U (Drive × Unit)).enc (s.b0, ())) none] }
noncomputable def xSref15_Right_0 : ((Bool × Drive) ⊕ Drive) → Ex × St U
  | .inl r => (.ret, { tm := [(1, .v (vO (cK (.ptr 0 0) (cUnit)) (()))), (2, .v (vO (cPair cBool (cUnit)) (r.1, ())))], hp := [.cells ((cPair cDrive (cUnit) : Cdc U (Drive × Unit)).enc (r.2, ())) none] })
  | .inr r => (.exit 0, { tm := [(1, .v (vO (cK (.ptr 0 0) (cUnit)) (())))], hp := [.cells ((cPair cDrive (cUnit) : Cdc U (Drive × Unit)).enc (r, ())) none] })
noncomputable def xTref15_Right_0 (y : ((Bool × Drive) ⊕ Drive)) : Tree (Ex × St U) := .ite y.isLeft (.opt (Bool × Drive) y.getLeft? fun r => .leaf (.ret, { tm := [(1, .v (vO (cK (.ptr 0 0) (cUnit)) (()))), (2, .v (vO (cPair cBool (cUnit)) (r.1, ())))], hp := [.cells ((cPair cDrive (cUnit) : Cdc U (Drive × Unit)).enc (r.2, ())) none] })) (.opt Drive y.getRight? fun r => .leaf (.exit 0, { tm := [(1, .v (vO (cK (.ptr 0 0) (cUnit)) (())))], hp := [.cells ((cPair cDrive (cUnit) : Cdc U (Drive × Unit)).enc (r, ())) none] }))
noncomputable def href15_Right_0 : Hd := { keep := [1, 3], xkeep := [1, 2], own := false }
noncomputable def Pref15_Right_1 (x : (Unit) × (Int × Unit) × Unit) (g : (Drive × Unit) × Unit) : Sref15_Right_1 := Sref15_Right_1.mk x.2.1.1 g.1.1
noncomputable def tAref15_Right_1 : Tms U ((Unit) × (Int × Unit) × Unit) := tO 1 (cK (.ptr 0 0) (cUnit)) (tO 4 (cPair (cInt .i64) (cUnit)) (tNil))
noncomputable def tBref15_Right_1 : Bls U ((Drive × Unit) × Unit) := bC (cPair cDrive (cUnit)) (bNil)
noncomputable def eSref15_Right_1 (s : Sref15_Right_1) : St U := { tm := [(1, .v (vO (cK (.ptr 0 0) (cUnit)) (()))), (4, .v (vO (cPair (cInt .i64) (cUnit)) (s.t4, ())))], hp := [.cells ((cPair cDrive (cUnit) : Cdc U (Drive × Unit)).enc (s.b0, ())) none] }
noncomputable def xSref15_Right_1 : (Bool ⊕ Unit) → Ex × St U
  | .inl r => (.ret, { tm := [(2, .v (vO (cPair cBool (cUnit)) (r, ())))], hp := [] })
  | .inr r => (.exit 2, { tm := [], hp := [] })
noncomputable def xTref15_Right_1 (y : (Bool ⊕ Unit)) : Tree (Ex × St U) := .ite y.isLeft (.opt Bool y.getLeft? fun r => .leaf (.ret, { tm := [(2, .v (vO (cPair cBool (cUnit)) (r, ())))], hp := [] })) (.opt Unit y.getRight? fun r => .leaf (.exit 2, { tm := [], hp := [] }))
noncomputable def href15_Right_1 : Hd := { keep := [1, 4], xkeep := [2], own := false }
noncomputable def Eref15_Right : Env U := { P := Tryz.prog, cd := cd, fns := fns55, lps := (addL 0 href15_Right_0 (mkLoop tAref15_Right_0 tBref15_Right_0 Pref15_Right_0 (Lref15_Right_0 none) xTref15_Right_0) (addL 1 href15_Right_1 (mkLoop tAref15_Right_1 tBref15_Right_1 Pref15_Right_1 (Lref15_Right_1 none) xTref15_Right_1) noL)), frz := fun _r => false, nt := 71, n0 := 0 }
noncomputable def Bref15_Right_0 : Code := (loopAt (Tryz.f56.body.getD .skip) 0 0).getD .skip
theorem roundref15_Right_0 (s : Sref15_Right_0) : round Eref15_Right href15_Right_0 Bref15_Right_0 0 (eSref15_Right_0 s) = (Wref15_Right_0 s).map (sumE eSref15_Right_0 xSref15_Right_0) := by kernel_rfl
theorem lpref15_Right_0 : LpOk Eref15_Right Bref15_Right_0 0 := mkLoop_ok (A := tAref15_Right_0) (B := tBref15_Right_0) (f := Pref15_Right_0) (L := Lref15_Right_0 none) (tO_ok (cK_ok cUnit_ok) (tO_ok (cPair_ok (cInt_ok .i64) cUnit_ok) tNil_ok)) (bC_ok (cPair_ok cDrive_ok cUnit_ok) bNil_ok) (enc := eSref15_Right_0) (out := xTref15_Right_0) (outS := xSref15_Right_0) (step := Wref15_Right_0) (fun _ => rfl) (fun _ _ => by kernel_rfl) (by kernel_rfl) (fun b => by cases b <;> rfl) roundref15_Right_0
noncomputable def Bref15_Right_1 : Code := (loopAt (Tryz.f56.body.getD .skip) 0 1).getD .skip
theorem roundref15_Right_1 (s : Sref15_Right_1) : round Eref15_Right href15_Right_1 Bref15_Right_1 1 (eSref15_Right_1 s) = (Wref15_Right_1 s).map (sumE eSref15_Right_1 xSref15_Right_1) := by kernel_rfl
theorem lpref15_Right_1 : LpOk Eref15_Right Bref15_Right_1 1 := mkLoop_ok (A := tAref15_Right_1) (B := tBref15_Right_1) (f := Pref15_Right_1) (L := Lref15_Right_1 none) (tO_ok (cK_ok cUnit_ok) (tO_ok (cPair_ok (cInt_ok .i64) cUnit_ok) tNil_ok)) (bC_ok (cPair_ok cDrive_ok cUnit_ok) bNil_ok) (enc := eSref15_Right_1) (out := xTref15_Right_1) (outS := xSref15_Right_1) (step := Wref15_Right_1) (fun _ => rfl) (fun _ _ => by kernel_rfl) (by kernel_rfl) (fun b => by cases b <;> rfl) roundref15_Right_1
theorem runref15_Right (x : Drive × Unit) (g : Unit) : execF Eref15_Right Tryz.f56 (Aref15_Right.enc x) (bNil.enc g) = (Tref15_Right none x.1).map Rref15_Right := by kernel_rfl
theorem okref15_Right : FnOk Tryz.prog cd 56 Sref15_Right := mk_ok (E := Eref15_Right) cd_ok fns55_ok Tryz.func56 (by kernel_rfl) (loops_of (addL_ok lpref15_Right_0 (addL_ok lpref15_Right_1 noL_ok))) (aA_ok cDrive_ok (aNil_ok)) bNil_ok (T := fun x _ => Tref15_Right none x.1) (fun _ _ => rfl) runref15_Right
noncomputable def fns56 := addF 56 true Sref15_Right fns55
theorem fns56_ok : ∀ f q t, fns56 f = some (q, t) → FnOk Tryz.prog cd f t := addF_ok okref15_Right fns55_ok
/-- emulator/emulatorref16.Right -/
noncomputable def Tref16_Right (q : Option Nat) (x0 : Disk) : Tree Bool :=
  .ite (decide (x0.command < (0 : Int)))
    (.leaf (false))
    (.ite (decide ((3 : Int) < x0.command))
      (.leaf (false))
      (.opt Bool (ref16_word x0.words) fun r39 =>
        .ite (!r39)
          (.leaf (false))
          (.opt Bool (ref16_word x0.addr) fun r40 =>
            .ite (!r40)
              (.leaf (false))
              (.opt Bool (ref16_word x0.start) fun r41 =>
                .ite (!r41)
                  (.leaf (false))
                  (.ite (decide ((2 : Int) = 0))
                    .fail
                    (.ite (!decide (((x0.addr).tmod (2 : Int)) = (0 : Int)))
                      (.leaf (false))
                      (.ite (decide (x0.left < (0 : Int)))
                        (.leaf (false))
                        (.ite (decide ((8 : Int) < x0.left))
                          (.leaf (false))
                          (.ite (!(x0.ready == (decide (x0.left = (0 : Int)))))
                            (.leaf (false))
                            (.ite (!decide (x0.left = (0 : Int)))
                              (.ite (decide (x0.command = (0 : Int)))
                                (.leaf (false))
                                (.ite (decide (x0.words = (0 : Int)))
                                  (.leaf (false))
                                  (.opt Bool (ref15_Right q x0.drive) fun r42 =>
                                    .leaf (r42))))
                              (.opt Bool (ref15_Right q x0.drive) fun r43 =>
                                .leaf (r43))))))))))))
noncomputable def ref16_Right (q : Option Nat) (x0 : Disk) : Option Bool := (Tref16_Right q x0).run
noncomputable def Aref16_Right : Arg U (Disk × Unit) := aA cDisk (aNil)
noncomputable def Rref16_Right (r : Bool) : List (V U) × List (Blk U) := ([vO cBool r], [])
noncomputable def Sref16_Right : List (V U) → List (Blk U) → Option (FnOut U) := mkSpec Aref16_Right bNil (fun x _ => ref16_Right none x.1) Rref16_Right
noncomputable def Eref16_Right : Env U := { P := Tryz.prog, cd := cd, fns := fns56, lps := noL, frz := fun _r => false, nt := 69, n0 := 0 }
theorem runref16_Right (x : Disk × Unit) (g : Unit) : execF Eref16_Right Tryz.f23 (Aref16_Right.enc x) (bNil.enc g) = (Tref16_Right none x.1).map Rref16_Right := by kernel_rfl
theorem okref16_Right : FnOk Tryz.prog cd 23 Sref16_Right := mk_ok (E := Eref16_Right) cd_ok fns56_ok Tryz.func23 (by kernel_rfl) (noLoops_body (by kernel_rfl)) (aA_ok cDisk_ok (aNil_ok)) bNil_ok (T := fun x _ => Tref16_Right none x.1) (fun _ _ => rfl) runref16_Right
noncomputable def fns23 := addF 23 true Sref16_Right fns56
theorem fns23_ok : ∀ f q t, fns23 f = some (q, t) → FnOk Tryz.prog cd f t := addF_ok okref16_Right fns56_ok
/-- emulator/emulatorref17.word -/
noncomputable def Tref17_word (x0 : Int) : Tree Bool :=
  .ite (decide ((0 : Int) ≤ x0))
    (.leaf (decide (x0 ≤ (65535 : Int))))
    (.leaf (false))
noncomputable def ref17_word (x0 : Int) : Option Bool := (Tref17_word x0).run
noncomputable def Aref17_word : Arg U (Int × Unit) := aO (cInt .i64) (aNil)
noncomputable def Rref17_word (r : Bool) : List (V U) × List (Blk U) := ([vO cBool r], [])
noncomputable def Sref17_word : List (V U) → List (Blk U) → Option (FnOut U) := mkSpec Aref17_word bNil (fun x _ => ref17_word x.1) Rref17_word
noncomputable def Eref17_word : Env U := { P := Tryz.prog, cd := cd, fns := fns23, lps := noL, frz := fun _r => false, nt := 9, n0 := 0 }
theorem runref17_word (x : Int × Unit) (g : Unit) : execF Eref17_word Tryz.f57 (Aref17_word.enc x) (bNil.enc g) = (Tref17_word x.1).map Rref17_word := by kernel_rfl
theorem okref17_word : FnOk Tryz.prog cd 57 Sref17_word := mk_ok (E := Eref17_word) cd_ok fns23_ok Tryz.func57 (by kernel_rfl) (noLoops_body (by kernel_rfl)) (aO_ok (cInt_ok .i64) (aNil_ok)) bNil_ok (T := fun x _ => Tref17_word x.1) (fun _ _ => rfl) runref17_word
noncomputable def fns57 := addF 57 true Sref17_word fns23
theorem fns57_ok : ∀ f q t, fns57 f = some (q, t) → FnOk Tryz.prog cd f t := addF_ok okref17_word fns23_ok
/-- emulator/emulatorref17.Right -/
structure Sref17_Right_0 where
  t3 : Int
  b0 : Tape
noncomputable def Wref17_Right_0 (s : Sref17_Right_0) : Tree (Sref17_Right_0 ⊕ ((Bool × Tape) ⊕ Tape)) :=
  .ite (decide (s.t3 < (s.b0.records.length : Int)))
    (.ite (decide (0 ≤ s.t3))
      (.opt (List UInt8) (s.b0.records[(s.t3).toNat]?) fun y46 =>
        .ite (decide ((512 : Int) < (y46.length : Int)))
          (.leaf (.inr (.inl (false, s.b0))))
          (.leaf (.inl (Sref17_Right_0.mk (IntKind.wrap .i64 (s.t3 + (1 : Int))) s.b0))))
      .fail)
    (.leaf (.inr (.inr s.b0)))
noncomputable def Lref17_Right_0 (q : Option Nat) (s : Sref17_Right_0) : Option ((Bool × Tape) ⊕ Tape) := limQ q (fun s => (Wref17_Right_0 s).run) s
noncomputable def Tref17_Right (q : Option Nat) (x0 : Tape) : Tree Bool :=
  .ite (decide ((64 : Int) < (x0.records.length : Int)))
    (.leaf (false))
    (.ite (decide (x0.pos < (0 : Int)))
      (.leaf (false))
      (.ite (decide ((x0.records.length : Int) < x0.pos))
        (.leaf (false))
        (.ite (decide (x0.command < (0 : Int)))
          (.leaf (false))
          (.ite (decide ((6 : Int) < x0.command))
            (.leaf (false))
            (.opt Bool (ref17_word x0.count) fun r44 =>
              .ite (!r44)
                (.leaf (false))
                (.opt Bool (ref17_word x0.addr) fun r45 =>
                  .ite (!r45)
                    (.leaf (false))
                    (.opt ((Bool × Tape) ⊕ Tape) (Lref17_Right_0 q (Sref17_Right_0.mk (0 : Int) x0)) fun l47 =>
                      .ite (l47.isLeft)
                        (.opt (Bool × Tape) (l47.getLeft?) fun a48 =>
                          .leaf (a48.1))
                        (.opt Tape (l47.getRight?) fun b49 =>
                          .ite (decide ((0 : Int) ≤ b49.left))
                            (.ite (decide (b49.left ≤ (16 : Int)))
                              (.leaf ((b49.ready == (decide (b49.left = (0 : Int))))))
                              (.leaf (false)))
                            (.leaf (false))))))))))
noncomputable def ref17_Right (q : Option Nat) (x0 : Tape) : Option Bool := (Tref17_Right q x0).run
noncomputable def Aref17_Right : Arg U (Tape × Unit) := aA cTape (aNil)
noncomputable def Rref17_Right (r : Bool) : List (V U) × List (Blk U) := ([vO cBool r], [])
noncomputable def Sref17_Right : List (V U) → List (Blk U) → Option (FnOut U) := mkSpec Aref17_Right bNil (fun x _ => ref17_Right none x.1) Rref17_Right
noncomputable def Pref17_Right_0 (x : (Unit) × (Int × Unit) × Unit) (g : (Tape × Unit) × Unit) : Sref17_Right_0 := Sref17_Right_0.mk x.2.1.1 g.1.1
noncomputable def tAref17_Right_0 : Tms U ((Unit) × (Int × Unit) × Unit) := tO 1 (cK (.ptr 0 0) (cUnit)) (tO 3 (cPair (cInt .i64) (cUnit)) (tNil))
noncomputable def tBref17_Right_0 : Bls U ((Tape × Unit) × Unit) := bC (cPair cTape (cUnit)) (bNil)
noncomputable def eSref17_Right_0 (s : Sref17_Right_0) : St U := { tm := [(1, .v (vO (cK (.ptr 0 0) (cUnit)) (()))), (3, .v (vO (cPair (cInt .i64) (cUnit)) (s.t3, ())))], hp := [.cells ((cPair cTape (cUnit) : Cdc U (Tape × Unit)).enc (s.b0, ())) none] }
noncomputable def xSref17_Right_0 : ((Bool × Tape) ⊕ Tape) → Ex × St U
  | .inl r => (.ret, { tm := [(1, .v (vO (cK (.ptr 0 0) (cUnit)) (()))), (2, .v (vO (cPair cBool (cUnit)) (r.1, ())))], hp := [.cells ((cPair cTape (cUnit) : Cdc U (Tape × Unit)).enc (r.2, ())) none] })
  | .inr r => (.exit 0, { tm := [(1, .v (vO (cK (.ptr 0 0) (cUnit)) (())))], hp := [.cells ((cPair cTape (cUnit) : Cdc U (Tape × Unit)).enc (r, ())) none] })
noncomputable def xTref17_Right_0 (y : ((Bool × Tape) ⊕ Tape)) : Tree (Ex × St U) := .ite y.isLeft (.opt (Bool × Tape) y.getLeft? fun r => .leaf (.ret, { tm := [(1, .v (vO (cK (.ptr 0 0) (cUnit)) (()))), (2, .v (vO (cPair cBool (cUnit)) (r.1, ())))], hp := [.cells ((cPair cTape (cUnit) : Cdc U (Tape × Unit)).enc (r.2, ())) none] })) (.opt Tape y.getRight? fun r => .leaf (.exit 0, { tm := [(1, .v (vO (cK (.ptr 0 0) (cUnit)) (())))], hp := [.cells ((cPair cTape (cUnit) : Cdc U (Tape × Unit)).enc (r, ())) none] }))
noncomputable def href17_Right_0 : Hd := { keep := [1, 3], xkeep := [1, 2], own := false }
noncomputable def Eref17_Right : Env U := { P := Tryz.prog, cd := cd, fns := fns57, lps := (addL 0 href17_Right_0 (mkLoop tAref17_Right_0 tBref17_Right_0 Pref17_Right_0 (Lref17_Right_0 none) xTref17_Right_0) noL), frz := fun _r => false, nt := 73, n0 := 0 }
noncomputable def Bref17_Right_0 : Code := (loopAt (Tryz.f24.body.getD .skip) 0 0).getD .skip
theorem roundref17_Right_0 (s : Sref17_Right_0) : round Eref17_Right href17_Right_0 Bref17_Right_0 0 (eSref17_Right_0 s) = (Wref17_Right_0 s).map (sumE eSref17_Right_0 xSref17_Right_0) := by kernel_rfl
theorem lpref17_Right_0 : LpOk Eref17_Right Bref17_Right_0 0 := mkLoop_ok (A := tAref17_Right_0) (B := tBref17_Right_0) (f := Pref17_Right_0) (L := Lref17_Right_0 none) (tO_ok (cK_ok cUnit_ok) (tO_ok (cPair_ok (cInt_ok .i64) cUnit_ok) tNil_ok)) (bC_ok (cPair_ok cTape_ok cUnit_ok) bNil_ok) (enc := eSref17_Right_0) (out := xTref17_Right_0) (outS := xSref17_Right_0) (step := Wref17_Right_0) (fun _ => rfl) (fun _ _ => by kernel_rfl) (by kernel_rfl) (fun b => by cases b <;> rfl) roundref17_Right_0
theorem runref17_Right (x : Tape × Unit) (g : Unit) : execF Eref17_Right Tryz.f24 (Aref17_Right.enc x) (bNil.enc g) = (Tref17_Right none x.1).map Rref17_Right := by kernel_rfl
theorem okref17_Right : FnOk Tryz.prog cd 24 Sref17_Right := mk_ok (E := Eref17_Right) cd_ok fns57_ok Tryz.func24 (by kernel_rfl) (loops_of (addL_ok lpref17_Right_0 noL_ok)) (aA_ok cTape_ok (aNil_ok)) bNil_ok (T := fun x _ => Tref17_Right none x.1) (fun _ _ => rfl) runref17_Right
noncomputable def fns24 := addF 24 true Sref17_Right fns57
theorem fns24_ok : ∀ f q t, fns24 f = some (q, t) → FnOk Tryz.prog cd f t := addF_ok okref17_Right fns57_ok
/-- emulator/emulatorref18.Right -/
structure Sref18_Right_0 where
  t3 : Int
  b0 : Machine
noncomputable def Wref18_Right_0 (s : Sref18_Right_0) : Tree (Sref18_Right_0 ⊕ ((Bool × Machine) ⊕ Machine)) :=
  .ite (decide (s.t3 < (s.b0.lines.length : Int)))
    (.ite (decide (0 ≤ s.t3))
      (.opt Line (s.b0.lines[(s.t3).toNat]?) fun y50 =>
        .opt Bool (ref14_Right y50) fun r51 =>
          .ite (!r51)
            (.leaf (.inr (.inl (false, s.b0))))
            (.leaf (.inl (Sref18_Right_0.mk (IntKind.wrap .i64 (s.t3 + (1 : Int))) s.b0))))
      .fail)
    (.leaf (.inr (.inr s.b0)))
noncomputable def Lref18_Right_0 (q : Option Nat) (s : Sref18_Right_0) : Option ((Bool × Machine) ⊕ Machine) := limQ q (fun s => (Wref18_Right_0 s).run) s
noncomputable def Tref18_Right (q : Option Nat) (x0 : Machine) : Tree Bool :=
  .ite (decide ((4 : Int) < (x0.lines.length : Int)))
    (.leaf (false))
    (.opt ((Bool × Machine) ⊕ Machine) (Lref18_Right_0 q (Sref18_Right_0.mk (0 : Int) x0)) fun l52 =>
      .ite (l52.isLeft)
        (.opt (Bool × Machine) (l52.getLeft?) fun a53 =>
          .leaf (a53.1))
        (.opt Machine (l52.getRight?) fun b54 =>
          .opt Bool (ref08_Right q b54.mem b54.bad) fun r55 =>
            .ite (r55)
              (.opt Bool (ref09_Right q b54.mmu) fun r56 =>
                .ite (r56)
                  (.opt Bool (ref13_Right b54.clock) fun r57 =>
                    .ite (r57)
                      (.opt Bool (ref16_Right q b54.disk) fun r58 =>
                        .ite (r58)
                          (.opt Bool (ref17_Right q b54.tape) fun r59 =>
                            .leaf (r59))
                          (.leaf (false)))
                      (.leaf (false)))
                  (.leaf (false)))
              (.leaf (false))))
noncomputable def ref18_Right (q : Option Nat) (x0 : Machine) : Option Bool := (Tref18_Right q x0).run
noncomputable def Aref18_Right : Arg U (Machine × Unit) := aA cMachine (aNil)
noncomputable def Rref18_Right (r : Bool) : List (V U) × List (Blk U) := ([vO cBool r], [])
noncomputable def Sref18_Right : List (V U) → List (Blk U) → Option (FnOut U) := mkSpec Aref18_Right bNil (fun x _ => ref18_Right none x.1) Rref18_Right
noncomputable def Pref18_Right_0 (x : (Unit) × (Int × Unit) × Unit) (g : (Machine × Unit) × Unit) : Sref18_Right_0 := Sref18_Right_0.mk x.2.1.1 g.1.1
noncomputable def tAref18_Right_0 : Tms U ((Unit) × (Int × Unit) × Unit) := tO 1 (cK (.ptr 0 0) (cUnit)) (tO 3 (cPair (cInt .i64) (cUnit)) (tNil))
noncomputable def tBref18_Right_0 : Bls U ((Machine × Unit) × Unit) := bC (cPair cMachine (cUnit)) (bNil)
noncomputable def eSref18_Right_0 (s : Sref18_Right_0) : St U := { tm := [(1, .v (vO (cK (.ptr 0 0) (cUnit)) (()))), (3, .v (vO (cPair (cInt .i64) (cUnit)) (s.t3, ())))], hp := [.cells ((cPair cMachine (cUnit) : Cdc U (Machine × Unit)).enc (s.b0, ())) none] }
noncomputable def xSref18_Right_0 : ((Bool × Machine) ⊕ Machine) → Ex × St U
  | .inl r => (.ret, { tm := [(1, .v (vO (cK (.ptr 0 0) (cUnit)) (()))), (2, .v (vO (cPair cBool (cUnit)) (r.1, ())))], hp := [.cells ((cPair cMachine (cUnit) : Cdc U (Machine × Unit)).enc (r.2, ())) none] })
  | .inr r => (.exit 0, { tm := [(1, .v (vO (cK (.ptr 0 0) (cUnit)) (())))], hp := [.cells ((cPair cMachine (cUnit) : Cdc U (Machine × Unit)).enc (r, ())) none] })
noncomputable def xTref18_Right_0 (y : ((Bool × Machine) ⊕ Machine)) : Tree (Ex × St U) := .ite y.isLeft (.opt (Bool × Machine) y.getLeft? fun r => .leaf (.ret, { tm := [(1, .v (vO (cK (.ptr 0 0) (cUnit)) (()))), (2, .v (vO (cPair cBool (cUnit)) (r.1, ())))], hp := [.cells ((cPair cMachine (cUnit) : Cdc U (Machine × Unit)).enc (r.2, ())) none] })) (.opt Machine y.getRight? fun r => .leaf (.exit 0, { tm := [(1, .v (vO (cK (.ptr 0 0) (cUnit)) (())))], hp := [.cells ((cPair cMachine (cUnit) : Cdc U (Machine × Unit)).enc (r, ())) none] }))
noncomputable def href18_Right_0 : Hd := { keep := [1, 3], xkeep := [1, 2], own := false }
noncomputable def Eref18_Right : Env U := { P := Tryz.prog, cd := cd, fns := fns24, lps := (addL 0 href18_Right_0 (mkLoop tAref18_Right_0 tBref18_Right_0 Pref18_Right_0 (Lref18_Right_0 none) xTref18_Right_0) noL), frz := fun _r => false, nt := 47, n0 := 0 }
noncomputable def Bref18_Right_0 : Code := (loopAt (Tryz.f6.body.getD .skip) 0 0).getD .skip
theorem roundref18_Right_0 (s : Sref18_Right_0) : round Eref18_Right href18_Right_0 Bref18_Right_0 0 (eSref18_Right_0 s) = (Wref18_Right_0 s).map (sumE eSref18_Right_0 xSref18_Right_0) := by kernel_rfl
theorem lpref18_Right_0 : LpOk Eref18_Right Bref18_Right_0 0 := mkLoop_ok (A := tAref18_Right_0) (B := tBref18_Right_0) (f := Pref18_Right_0) (L := Lref18_Right_0 none) (tO_ok (cK_ok cUnit_ok) (tO_ok (cPair_ok (cInt_ok .i64) cUnit_ok) tNil_ok)) (bC_ok (cPair_ok cMachine_ok cUnit_ok) bNil_ok) (enc := eSref18_Right_0) (out := xTref18_Right_0) (outS := xSref18_Right_0) (step := Wref18_Right_0) (fun _ => rfl) (fun _ _ => by kernel_rfl) (by kernel_rfl) (fun b => by cases b <;> rfl) roundref18_Right_0
theorem runref18_Right (x : Machine × Unit) (g : Unit) : execF Eref18_Right Tryz.f6 (Aref18_Right.enc x) (bNil.enc g) = (Tref18_Right none x.1).map Rref18_Right := by kernel_rfl
theorem okref18_Right : FnOk Tryz.prog cd 6 Sref18_Right := mk_ok (E := Eref18_Right) cd_ok fns24_ok Tryz.func6 (by kernel_rfl) (loops_of (addL_ok lpref18_Right_0 noL_ok)) (aA_ok cMachine_ok (aNil_ok)) bNil_ok (T := fun x _ => Tref18_Right none x.1) (fun _ _ => rfl) runref18_Right
noncomputable def fns6 := addF 6 true Sref18_Right fns24
theorem fns6_ok : ∀ f q t, fns6 f = some (q, t) → FnOk Tryz.prog cd f t := addF_ok okref18_Right fns24_ok
/-- emulator/emulatorref08.New -/
noncomputable def Tref08_New (x0 : Int) : Tree ((List Int) × Int) :=
  .opt Bool (ref08_Size x0) fun r60 =>
    .ite (!r60)
      (.leaf (([], (1 : Int))))
      (.ite (decide ((2 : Int) = 0))
        .fail
        (.ite (decide (IntKind.wrap .i64 ((x0).tdiv (2 : Int)) = IntKind.wrap .i64 ((x0).tdiv (2 : Int))))
          (.ite (decide (0 ≤ IntKind.wrap .i64 ((x0).tdiv (2 : Int))))
            (.ite (decide ((8 : Int) * (IntKind.wrap .i64 ((x0).tdiv (2 : Int))) ≤ 281474976710656))
              (.leaf ((List.replicate (IntKind.wrap .i64 ((x0).tdiv (2 : Int))).toNat (0 : Int), (0 : Int))))
              .fail)
            .fail)
          .fail))
noncomputable def ref08_New (x0 : Int) : Option ((List Int) × Int) := (Tref08_New x0).run
noncomputable def Aref08_New : Arg U (Int × Unit) := aO (cInt .i64) (aNil)
noncomputable def Rref08_New (r : ((List Int) × Int)) : List (V U) × List (Blk U) := ([vO (cSl 3) r.1, vO (cInt .i64) r.2], [])
noncomputable def Sref08_New : List (V U) → List (Blk U) → Option (FnOut U) := mkSpec Aref08_New bNil (fun x _ => ref08_New x.1) Rref08_New
noncomputable def Eref08_New : Env U := { P := Tryz.prog, cd := cd, fns := fns6, lps := noL, frz := fun _r => false, nt := 10, n0 := 0 }
theorem runref08_New (x : Int × Unit) (g : Unit) : execF Eref08_New Tryz.f58 (Aref08_New.enc x) (bNil.enc g) = (Tref08_New x.1).map Rref08_New := by kernel_rfl
theorem okref08_New : FnOk Tryz.prog cd 58 Sref08_New := mk_ok (E := Eref08_New) cd_ok fns6_ok Tryz.func58 (by kernel_rfl) (noLoops_body (by kernel_rfl)) (aO_ok (cInt_ok .i64) (aNil_ok)) bNil_ok (T := fun x _ => Tref08_New x.1) (fun _ _ => rfl) runref08_New
noncomputable def fns58 := addF 58 true Sref08_New fns6
theorem fns58_ok : ∀ f q t, fns58 f = some (q, t) → FnOk Tryz.prog cd f t := addF_ok okref08_New fns6_ok
/-- emulator/emulatorref15.zeros -/
structure Sref15_zeros_0 where
  t0 : Int
  t4 : Int
  b0 : (List Int)
noncomputable def Wref15_zeros_0 (s : Sref15_zeros_0) : Tree (Sref15_zeros_0 ⊕ (List Int)) :=
  .ite (decide (s.t4 < s.t0))
    (.ite (decide ((s.b0.length + ([(0 : Int)]).length) * 1 ≤ 140737488355328))
      (.leaf (.inl (Sref15_zeros_0.mk s.t0 (IntKind.wrap .i64 (s.t4 + (1 : Int))) (s.b0 ++ ([(0 : Int)])))))
      .fail)
    (.leaf (.inr s.b0))
noncomputable def Lref15_zeros_0 (q : Option Nat) (s : Sref15_zeros_0) : Option (List Int) := limQ q (fun s => (Wref15_zeros_0 s).run) s
theorem leLref15_zeros_0 (k : Nat) (s : Sref15_zeros_0) : Le (Lref15_zeros_0 (some k) s) (Lref15_zeros_0 none s) := limQ_le (fun _ => Le.rfl) s
noncomputable def Tref15_zeros (q : Option Nat) (x0 : Int) : Tree (List UInt8) :=
  .opt (List Int) (Lref15_zeros_0 q (Sref15_zeros_0.mk x0 (0 : Int) ([]))) fun l61 =>
    .leaf (l61.map fun x => UInt8.ofNat x.toNat)
noncomputable def ref15_zeros (q : Option Nat) (x0 : Int) : Option (List UInt8) := (Tref15_zeros q x0).run
theorem leref15_zeros (k : Nat) (x0 : Int) : Le (ref15_zeros (some k) x0) (ref15_zeros none x0) := (TLe.opt (leLref15_zeros_0 k _) fun _ => TLe.rfl)
noncomputable def Aref15_zeros : Arg U (Int × Unit) := aO (cInt .i64) (aNil)
noncomputable def Rref15_zeros (r : (List UInt8)) : List (V U) × List (Blk U) := ([vO cStr r], [])
noncomputable def Sref15_zeros : List (V U) → List (Blk U) → Option (FnOut U) := mkSpec Aref15_zeros bNil (fun x _ => ref15_zeros none x.1) Rref15_zeros
noncomputable def Pref15_zeros_0 (x : (Int × Unit) × (Unit) × (Int × Unit) × Unit) (g : (List Int) × Unit) : Sref15_zeros_0 := Sref15_zeros_0.mk x.1.1 x.2.2.1.1 g.1
noncomputable def tAref15_zeros_0 : Tms U ((Int × Unit) × (Unit) × (Int × Unit) × Unit) := tO 0 (cPair (cInt .i64) (cUnit)) (tO 3 (cK (.row 0 0) (cUnit)) (tO 4 (cPair (cInt .i64) (cUnit)) (tNil)))
noncomputable def tBref15_zeros_0 : Bls U ((List Int) × Unit) := bRv 5 0 (bNil)
noncomputable def eSref15_zeros_0 (s : Sref15_zeros_0) : St U := { tm := [(0, .v (vO (cPair (cInt .i64) (cUnit)) (s.t0, ()))), (3, .v (vO (cK (.row 0 0) (cUnit)) (()))), (4, .v (vO (cPair (cInt .i64) (cUnit)) (s.t4, ())))], hp := [.row 5 0 s.b0] }
noncomputable def xSref15_zeros_0 (r : (List Int)) : Ex × St U := (.exit 0, { tm := [(3, .v (vO (cK (.row 0 0) (cUnit)) (())))], hp := [.row 5 0 r] })
noncomputable def xTref15_zeros_0 (r : (List Int)) : Tree (Ex × St U) := .leaf (xSref15_zeros_0 r)
noncomputable def href15_zeros_0 : Hd := { keep := [0, 3, 4], xkeep := [2, 3], own := true }
noncomputable def Eref15_zeros : Env U := { P := Tryz.prog, cd := cd, fns := fns58, lps := (addL 0 href15_zeros_0 (mkLoop tAref15_zeros_0 tBref15_zeros_0 Pref15_zeros_0 (Lref15_zeros_0 none) xTref15_zeros_0) noL), frz := fun _r => false, nt := 15, n0 := 0 }
noncomputable def Bref15_zeros_0 : Code := (loopAt (Tryz.f97.body.getD .skip) 0 0).getD .skip
theorem roundref15_zeros_0 (s : Sref15_zeros_0) : round Eref15_zeros href15_zeros_0 Bref15_zeros_0 0 (eSref15_zeros_0 s) = (Wref15_zeros_0 s).map (sumE eSref15_zeros_0 xSref15_zeros_0) := by kernel_rfl
theorem lpref15_zeros_0 : LpOk Eref15_zeros Bref15_zeros_0 0 := mkLoop_ok (A := tAref15_zeros_0) (B := tBref15_zeros_0) (f := Pref15_zeros_0) (L := Lref15_zeros_0 none) (tO_ok (cPair_ok (cInt_ok .i64) cUnit_ok) (tO_ok (cK_ok cUnit_ok) (tO_ok (cPair_ok (cInt_ok .i64) cUnit_ok) tNil_ok))) (bRv_ok bNil_ok) (enc := eSref15_zeros_0) (out := xTref15_zeros_0) (outS := xSref15_zeros_0) (step := Wref15_zeros_0) (fun _ => rfl) (fun _ _ => by kernel_rfl) (by kernel_rfl) (fun _ => rfl) roundref15_zeros_0
theorem runref15_zeros (x : Int × Unit) (g : Unit) : execF Eref15_zeros Tryz.f97 (Aref15_zeros.enc x) (bNil.enc g) = (Tref15_zeros none x.1).map Rref15_zeros := by kernel_rfl
theorem okref15_zeros : FnOk Tryz.prog cd 97 Sref15_zeros := mk_ok (E := Eref15_zeros) cd_ok fns58_ok Tryz.func97 (by kernel_rfl) (loops_of (addL_ok lpref15_zeros_0 noL_ok)) (aO_ok (cInt_ok .i64) (aNil_ok)) bNil_ok (T := fun x _ => Tref15_zeros none x.1) (fun _ _ => rfl) runref15_zeros
noncomputable def fns97 := addF 97 true Sref15_zeros fns58
theorem fns97_ok : ∀ f q t, fns97 f = some (q, t) → FnOk Tryz.prog cd f t := addF_ok okref15_zeros fns58_ok
/-- emulator/emulatorref15.New -/
structure Sref15_New_0 where
  t0 : Int
  t5 : Int
  b2 : (List (List UInt8))
  b3 : (List Int)
  b4 : (List (List UInt8))
  b5 : (List Int)
noncomputable def Wref15_New_0 (q : Option Nat) (s : Sref15_New_0) : Tree (Sref15_New_0 ⊕ ((List (List UInt8)) × (List Int) × (List (List UInt8)) × (List Int))) :=
  .ite (decide (s.t5 < s.t0))
    (.opt (List UInt8) (ref15_zeros q (128 : Int)) fun r62 =>
      .ite (decide ((s.b4.length + ([r62]).length) * 16 ≤ 140737488355328))
        (.leaf (.inl (Sref15_New_0.mk s.t0 (IntKind.wrap .i64 (s.t5 + (1 : Int))) s.b2 s.b3 (s.b4 ++ ([r62])) s.b5)))
        .fail)
    (.leaf (.inr (s.b2, s.b3, s.b4, s.b5)))
noncomputable def Lref15_New_0 (q : Option Nat) (s : Sref15_New_0) : Option ((List (List UInt8)) × (List Int) × (List (List UInt8)) × (List Int)) := limQ q (fun s => (Wref15_New_0 q s).run) s
theorem leLref15_New_0 (k : Nat) (s : Sref15_New_0) : Le (Lref15_New_0 (some k) s) (Lref15_New_0 none s) := limQ_le (fun s => (TLe.ite (TLe.opt (leref15_zeros k _) fun _ => TLe.rfl) TLe.rfl)) s
noncomputable def Tref15_New (q : Option Nat) (x0 : Int) : Tree (Drive × Int) :=
  .ite (decide (x0 < (1 : Int)))
    (.leaf ((Drive.mk ([]) ([]), (2 : Int))))
    (.ite (decide ((256 : Int) < x0))
      (.leaf ((Drive.mk ([]) ([]), (2 : Int))))
      (.opt ((List (List UInt8)) × (List Int) × (List (List UInt8)) × (List Int)) (Lref15_New_0 q (Sref15_New_0.mk x0 (0 : Int) ([]) ([]) ([]) ([]))) fun l63 =>
        .leaf ((Drive.mk l63.2.2.1 l63.2.2.2, (0 : Int)))))
noncomputable def ref15_New (q : Option Nat) (x0 : Int) : Option (Drive × Int) := (Tref15_New q x0).run
theorem leref15_New (k : Nat) (x0 : Int) : Le (ref15_New (some k) x0) (ref15_New none x0) := (TLe.ite TLe.rfl (TLe.ite TLe.rfl (TLe.opt (leLref15_New_0 k _) fun _ => TLe.rfl)))
noncomputable def Aref15_New : Arg U (Int × Unit) := aO (cInt .i64) (aNil)
noncomputable def Rref15_New (r : (Drive × Int)) : List (V U) × List (Blk U) := ([vA cDrive r.1, vO (cInt .i64) r.2], [])
noncomputable def Sref15_New : List (V U) → List (Blk U) → Option (FnOut U) := mkSpec Aref15_New bNil (fun x _ => ref15_New none x.1) Rref15_New
noncomputable def Pref15_New_0 (x : (Int × Unit) × (Unit) × (Unit) × (Int × Unit) × Unit) (g : (Unit) × (Unit) × (List (List UInt8)) × (List Int) × (List (List UInt8)) × (List Int) × Unit) : Sref15_New_0 := Sref15_New_0.mk x.1.1 x.2.2.2.1.1 g.2.2.1 g.2.2.2.1 g.2.2.2.2.1 g.2.2.2.2.2.1
noncomputable def tAref15_New_0 : Tms U ((Int × Unit) × (Unit) × (Unit) × (Int × Unit) × Unit) := tO 0 (cPair (cInt .i64) (cUnit)) (tO 2 (cK (.ptr 0 0) (cUnit)) (tO 4 (cK (.ptr 1 0) (cUnit)) (tO 5 (cPair (cInt .i64) (cUnit)) (tNil))))
noncomputable def tBref15_New_0 : Bls U ((Unit) × (Unit) × (List (List UInt8)) × (List Int) × (List (List UInt8)) × (List Int) × Unit) := bC (cK (.row 2 0) (cK (.row 3 0) (cUnit))) (bC (cK (.row 4 0) (cK (.row 5 0) (cUnit))) (bRv 9 0 (bRv 3 0 (bRv 9 0 (bRv 3 0 (bNil))))))
noncomputable def eSref15_New_0 (s : Sref15_New_0) : St U := { tm := [(0, .v (vO (cPair (cInt .i64) (cUnit)) (s.t0, ()))), (2, .v (vO (cK (.ptr 0 0) (cUnit)) (()))), (4, .v (vO (cK (.ptr 1 0) (cUnit)) (()))), (5, .v (vO (cPair (cInt .i64) (cUnit)) (s.t5, ())))], hp := [.cells ((cK (.row 2 0) (cK (.row 3 0) (cUnit)) : Cdc U (Unit)).enc (())) none, .cells ((cK (.row 4 0) (cK (.row 5 0) (cUnit)) : Cdc U (Unit)).enc (())) none, .row 9 0 s.b2, .row 3 0 s.b3, .row 9 0 s.b4, .row 3 0 s.b5] }
noncomputable def xSref15_New_0 (r : ((List (List UInt8)) × (List Int) × (List (List UInt8)) × (List Int))) : Ex × St U := (.exit 0, { tm := [(2, .v (vO (cK (.ptr 0 0) (cUnit)) (()))), (4, .v (vO (cK (.ptr 1 0) (cUnit)) (())))], hp := [.cells ((cK (.row 2 0) (cK (.row 3 0) (cUnit)) : Cdc U (Unit)).enc (())) none, .cells ((cK (.row 4 0) (cK (.row 5 0) (cUnit)) : Cdc U (Unit)).enc (())) none, .row 9 0 r.1, .row 3 0 r.2.1, .row 9 0 r.2.2.1, .row 3 0 r.2.2.2] })
noncomputable def xTref15_New_0 (r : ((List (List UInt8)) × (List Int) × (List (List UInt8)) × (List Int))) : Tree (Ex × St U) := .leaf (xSref15_New_0 r)
noncomputable def href15_New_0 : Hd := { keep := [0, 2, 4, 5], xkeep := [2, 3, 4], own := true }
noncomputable def Eref15_New : Env U := { P := Tryz.prog, cd := cd, fns := fns97, lps := (addL 0 href15_New_0 (mkLoop tAref15_New_0 tBref15_New_0 Pref15_New_0 (Lref15_New_0 none) xTref15_New_0) noL), frz := fun _r => false, nt := 25, n0 := 0 }
noncomputable def Bref15_New_0 : Code := (loopAt (Tryz.f59.body.getD .skip) 0 0).getD .skip
theorem roundref15_New_0 (s : Sref15_New_0) : round Eref15_New href15_New_0 Bref15_New_0 0 (eSref15_New_0 s) = (Wref15_New_0 none s).map (sumE eSref15_New_0 xSref15_New_0) := by kernel_rfl
theorem lpref15_New_0 : LpOk Eref15_New Bref15_New_0 0 := mkLoop_ok (A := tAref15_New_0) (B := tBref15_New_0) (f := Pref15_New_0) (L := Lref15_New_0 none) (tO_ok (cPair_ok (cInt_ok .i64) cUnit_ok) (tO_ok (cK_ok cUnit_ok) (tO_ok (cK_ok cUnit_ok) (tO_ok (cPair_ok (cInt_ok .i64) cUnit_ok) tNil_ok)))) (bC_ok (cK_ok (cK_ok cUnit_ok)) (bC_ok (cK_ok (cK_ok cUnit_ok)) (bRv_ok (bRv_ok (bRv_ok (bRv_ok bNil_ok)))))) (enc := eSref15_New_0) (out := xTref15_New_0) (outS := xSref15_New_0) (step := Wref15_New_0 none) (fun _ => rfl) (fun _ _ => by kernel_rfl) (by kernel_rfl) (fun _ => rfl) roundref15_New_0
theorem runref15_New (x : Int × Unit) (g : Unit) : execF Eref15_New Tryz.f59 (Aref15_New.enc x) (bNil.enc g) = (Tref15_New none x.1).map Rref15_New := by kernel_rfl
theorem okref15_New : FnOk Tryz.prog cd 59 Sref15_New := mk_ok (E := Eref15_New) cd_ok fns97_ok Tryz.func59 (by kernel_rfl) (loops_of (addL_ok lpref15_New_0 noL_ok)) (aO_ok (cInt_ok .i64) (aNil_ok)) bNil_ok (T := fun x _ => Tref15_New none x.1) (fun _ _ => rfl) runref15_New
noncomputable def fns59 := addF 59 true Sref15_New fns97
theorem fns59_ok : ∀ f q t, fns59 f = some (q, t) → FnOk Tryz.prog cd f t := addF_ok okref15_New fns97_ok
/-- emulator/emulatorref16.New -/
noncomputable def Tref16_New (x0 : Drive) : Tree Disk :=
  .ite (decide ((([] : List (List UInt8)).length + x0.sectors.length) * 16 ≤ 140737488355328))
    (.ite (decide ((([] : List Int).length + x0.bad.length) * 8 ≤ 140737488355328))
      (.leaf (Disk.mk (Drive.mk (([] : List (List UInt8)) ++ x0.sectors) (([] : List Int) ++ x0.bad)) false true false 0 0 0 0 0))
      .fail)
    .fail
noncomputable def ref16_New (x0 : Drive) : Option Disk := (Tref16_New x0).run
noncomputable def Aref16_New : Arg U (Drive × Unit) := aA cDrive (aNil)
noncomputable def Rref16_New (r : Disk) : List (V U) × List (Blk U) := ([vA cDisk r], [])
noncomputable def Sref16_New : List (V U) → List (Blk U) → Option (FnOut U) := mkSpec Aref16_New bNil (fun x _ => ref16_New x.1) Rref16_New
noncomputable def Eref16_New : Env U := { P := Tryz.prog, cd := cd, fns := fns59, lps := noL, frz := fun _r => false, nt := 15, n0 := 0 }
theorem runref16_New (x : Drive × Unit) (g : Unit) : execF Eref16_New Tryz.f60 (Aref16_New.enc x) (bNil.enc g) = (Tref16_New x.1).map Rref16_New := by kernel_rfl
theorem okref16_New : FnOk Tryz.prog cd 60 Sref16_New := mk_ok (E := Eref16_New) cd_ok fns59_ok Tryz.func60 (by kernel_rfl) (noLoops_body (by kernel_rfl)) (aA_ok cDrive_ok (aNil_ok)) bNil_ok (T := fun x _ => Tref16_New x.1) (fun _ _ => rfl) runref16_New
noncomputable def fns60 := addF 60 true Sref16_New fns59
theorem fns60_ok : ∀ f q t, fns60 f = some (q, t) → FnOk Tryz.prog cd f t := addF_ok okref16_New fns59_ok
/-- emulator/emulatorref13.New -/
noncomputable def Tref13_New (x0 : Int) : Tree (Clock × Int) :=
  .ite (decide (x0 < (1 : Int)))
    (.leaf ((Clock.mk false false 0 0, (2 : Int))))
    (.ite (decide ((65535 : Int) < x0))
      (.leaf ((Clock.mk false false 0 0, (2 : Int))))
      (.leaf ((Clock.mk false false x0 x0, (0 : Int)))))
noncomputable def ref13_New (x0 : Int) : Option (Clock × Int) := (Tref13_New x0).run
noncomputable def Aref13_New : Arg U (Int × Unit) := aO (cInt .i64) (aNil)
noncomputable def Rref13_New (r : (Clock × Int)) : List (V U) × List (Blk U) := ([vA cClock r.1, vO (cInt .i64) r.2], [])
noncomputable def Sref13_New : List (V U) → List (Blk U) → Option (FnOut U) := mkSpec Aref13_New bNil (fun x _ => ref13_New x.1) Rref13_New
noncomputable def Eref13_New : Env U := { P := Tryz.prog, cd := cd, fns := fns60, lps := noL, frz := fun _r => false, nt := 14, n0 := 0 }
theorem runref13_New (x : Int × Unit) (g : Unit) : execF Eref13_New Tryz.f61 (Aref13_New.enc x) (bNil.enc g) = (Tref13_New x.1).map Rref13_New := by kernel_rfl
theorem okref13_New : FnOk Tryz.prog cd 61 Sref13_New := mk_ok (E := Eref13_New) cd_ok fns60_ok Tryz.func61 (by kernel_rfl) (noLoops_body (by kernel_rfl)) (aO_ok (cInt_ok .i64) (aNil_ok)) bNil_ok (T := fun x _ => Tref13_New x.1) (fun _ _ => rfl) runref13_New
noncomputable def fns61 := addF 61 true Sref13_New fns60
theorem fns61_ok : ∀ f q t, fns61 f = some (q, t) → FnOk Tryz.prog cd f t := addF_ok okref13_New fns60_ok
/-- emulator/emulatorref17.New -/
structure Sref17_New_0 where
  t0 : (List (List UInt8))
  t4 : Int
  b0 : Tape
noncomputable def Wref17_New_0 (s : Sref17_New_0) : Tree (Sref17_New_0 ⊕ (((List (List UInt8)) × Int × Tape) ⊕ ((List (List UInt8)) × Tape))) :=
  .ite (decide (s.t4 < (s.t0.length : Int)))
    (.ite (decide (0 ≤ s.t4))
      (.opt (List UInt8) (s.t0[(s.t4).toNat]?) fun y64 =>
        .ite (decide ((512 : Int) < (y64.length : Int)))
          (.leaf (.inr (.inl (s.t0, (7 : Int), Tape.mk ([]) 0 false false false false false 0 0 0 0))))
          (.leaf (.inl (Sref17_New_0.mk s.t0 (IntKind.wrap .i64 (s.t4 + (1 : Int))) s.b0))))
      .fail)
    (.leaf (.inr (.inr (s.t0, s.b0))))
noncomputable def Lref17_New_0 (q : Option Nat) (s : Sref17_New_0) : Option (((List (List UInt8)) × Int × Tape) ⊕ ((List (List UInt8)) × Tape)) := limQ q (fun s => (Wref17_New_0 s).run) s
theorem leLref17_New_0 (k : Nat) (s : Sref17_New_0) : Le (Lref17_New_0 (some k) s) (Lref17_New_0 none s) := limQ_le (fun _ => Le.rfl) s
noncomputable def Tref17_New (q : Option Nat) (x0 : (List (List UInt8))) : Tree (Tape × Int) :=
  .ite (decide ((64 : Int) < (x0.length : Int)))
    (.leaf ((Tape.mk ([]) 0 false false false false false 0 0 0 0, (12 : Int))))
    (.opt (((List (List UInt8)) × Int × Tape) ⊕ ((List (List UInt8)) × Tape)) (Lref17_New_0 q (Sref17_New_0.mk x0 (0 : Int) (Tape.mk ([]) 0 false false false false false 0 0 0 0))) fun l65 =>
      .ite (l65.isLeft)
        (.opt ((List (List UInt8)) × Int × Tape) (l65.getLeft?) fun a66 =>
          .leaf ((a66.2.2, a66.2.1)))
        (.opt ((List (List UInt8)) × Tape) (l65.getRight?) fun b67 =>
          .ite (decide ((([] : List (List UInt8)).length + b67.1.length) * 16 ≤ 140737488355328))
            (.leaf ((Tape.mk (([] : List (List UInt8)) ++ b67.1) 0 false true false false false 0 0 0 0, (0 : Int))))
            .fail))
noncomputable def ref17_New (q : Option Nat) (x0 : (List (List UInt8))) : Option (Tape × Int) := (Tref17_New q x0).run
theorem leref17_New (k : Nat) (x0 : (List (List UInt8))) : Le (ref17_New (some k) x0) (ref17_New none x0) := (TLe.ite TLe.rfl (TLe.opt (leLref17_New_0 k _) fun _ => TLe.rfl))
noncomputable def Aref17_New : Arg U ((List (List UInt8)) × Unit) := aO (cSl 9) (aNil)
noncomputable def Rref17_New (r : (Tape × Int)) : List (V U) × List (Blk U) := ([vA cTape r.1, vO (cInt .i64) r.2], [])
noncomputable def Sref17_New : List (V U) → List (Blk U) → Option (FnOut U) := mkSpec Aref17_New bNil (fun x _ => ref17_New none x.1) Rref17_New
noncomputable def Pref17_New_0 (x : ((List (List UInt8)) × Unit) × (Unit) × (Int × Unit) × Unit) (g : (Tape × Unit) × Unit) : Sref17_New_0 := Sref17_New_0.mk x.1.1 x.2.2.1.1 g.1.1
noncomputable def tAref17_New_0 : Tms U (((List (List UInt8)) × Unit) × (Unit) × (Int × Unit) × Unit) := tO 0 (cPair (cSl 9) (cUnit)) (tO 2 (cK (.ptr 0 0) (cUnit)) (tO 4 (cPair (cInt .i64) (cUnit)) (tNil)))
noncomputable def tBref17_New_0 : Bls U ((Tape × Unit) × Unit) := bC (cPair cTape (cUnit)) (bNil)
noncomputable def eSref17_New_0 (s : Sref17_New_0) : St U := { tm := [(0, .v (vO (cPair (cSl 9) (cUnit)) (s.t0, ()))), (2, .v (vO (cK (.ptr 0 0) (cUnit)) (()))), (4, .v (vO (cPair (cInt .i64) (cUnit)) (s.t4, ())))], hp := [.cells ((cPair cTape (cUnit) : Cdc U (Tape × Unit)).enc (s.b0, ())) none] }
noncomputable def xSref17_New_0 : (((List (List UInt8)) × Int × Tape) ⊕ ((List (List UInt8)) × Tape)) → Ex × St U
  | .inl r => (.ret, { tm := [(0, .v (vO (cPair (cSl 9) (cUnit)) (r.1, ()))), (2, .v (vO (cK (.ptr 0 0) (cUnit)) (()))), (3, .v (vO (cPair (cInt .i64) (cUnit)) (r.2.1, ())))], hp := [.cells ((cPair cTape (cUnit) : Cdc U (Tape × Unit)).enc (r.2.2, ())) none] })
  | .inr r => (.exit 0, { tm := [(0, .v (vO (cPair (cSl 9) (cUnit)) (r.1, ()))), (2, .v (vO (cK (.ptr 0 0) (cUnit)) (())))], hp := [.cells ((cPair cTape (cUnit) : Cdc U (Tape × Unit)).enc (r.2, ())) none] })
noncomputable def xTref17_New_0 (y : (((List (List UInt8)) × Int × Tape) ⊕ ((List (List UInt8)) × Tape))) : Tree (Ex × St U) := .ite y.isLeft (.opt ((List (List UInt8)) × Int × Tape) y.getLeft? fun r => .leaf (.ret, { tm := [(0, .v (vO (cPair (cSl 9) (cUnit)) (r.1, ()))), (2, .v (vO (cK (.ptr 0 0) (cUnit)) (()))), (3, .v (vO (cPair (cInt .i64) (cUnit)) (r.2.1, ())))], hp := [.cells ((cPair cTape (cUnit) : Cdc U (Tape × Unit)).enc (r.2.2, ())) none] })) (.opt ((List (List UInt8)) × Tape) y.getRight? fun r => .leaf (.exit 0, { tm := [(0, .v (vO (cPair (cSl 9) (cUnit)) (r.1, ()))), (2, .v (vO (cK (.ptr 0 0) (cUnit)) (())))], hp := [.cells ((cPair cTape (cUnit) : Cdc U (Tape × Unit)).enc (r.2, ())) none] }))
noncomputable def href17_New_0 : Hd := { keep := [0, 2, 4], xkeep := [0, 2, 3], own := false }
noncomputable def Eref17_New : Env U := { P := Tryz.prog, cd := cd, fns := fns61, lps := (addL 0 href17_New_0 (mkLoop tAref17_New_0 tBref17_New_0 Pref17_New_0 (Lref17_New_0 none) xTref17_New_0) noL), frz := fun _r => false, nt := 26, n0 := 0 }
noncomputable def Bref17_New_0 : Code := (loopAt (Tryz.f62.body.getD .skip) 0 0).getD .skip
theorem roundref17_New_0 (s : Sref17_New_0) : round Eref17_New href17_New_0 Bref17_New_0 0 (eSref17_New_0 s) = (Wref17_New_0 s).map (sumE eSref17_New_0 xSref17_New_0) := by kernel_rfl
theorem lpref17_New_0 : LpOk Eref17_New Bref17_New_0 0 := mkLoop_ok (A := tAref17_New_0) (B := tBref17_New_0) (f := Pref17_New_0) (L := Lref17_New_0 none) (tO_ok (cPair_ok (cSl_ok 9) cUnit_ok) (tO_ok (cK_ok cUnit_ok) (tO_ok (cPair_ok (cInt_ok .i64) cUnit_ok) tNil_ok))) (bC_ok (cPair_ok cTape_ok cUnit_ok) bNil_ok) (enc := eSref17_New_0) (out := xTref17_New_0) (outS := xSref17_New_0) (step := Wref17_New_0) (fun _ => rfl) (fun _ _ => by kernel_rfl) (by kernel_rfl) (fun b => by cases b <;> rfl) roundref17_New_0
theorem runref17_New (x : (List (List UInt8)) × Unit) (g : Unit) : execF Eref17_New Tryz.f62 (Aref17_New.enc x) (bNil.enc g) = (Tref17_New none x.1).map Rref17_New := by kernel_rfl
theorem okref17_New : FnOk Tryz.prog cd 62 Sref17_New := mk_ok (E := Eref17_New) cd_ok fns61_ok Tryz.func62 (by kernel_rfl) (loops_of (addL_ok lpref17_New_0 noL_ok)) (aO_ok (cSl_ok 9) (aNil_ok)) bNil_ok (T := fun x _ => Tref17_New none x.1) (fun _ _ => rfl) runref17_New
noncomputable def fns62 := addF 62 true Sref17_New fns61
theorem fns62_ok : ∀ f q t, fns62 f = some (q, t) → FnOk Tryz.prog cd f t := addF_ok okref17_New fns61_ok
/-- emulator/emulatorref14.New -/
noncomputable def Tref14_New  : Tree Line :=
  .leaf (Line.mk false false false 0 false true 0 0 ([]))
noncomputable def ref14_New  : Option Line := (Tref14_New ).run
noncomputable def Aref14_New : Arg U (Unit) := aNil
noncomputable def Rref14_New (r : Line) : List (V U) × List (Blk U) := ([vA cLine r], [])
noncomputable def Sref14_New : List (V U) → List (Blk U) → Option (FnOut U) := mkSpec Aref14_New bNil (fun x _ => ref14_New ) Rref14_New
noncomputable def Eref14_New : Env U := { P := Tryz.prog, cd := cd, fns := fns62, lps := noL, frz := fun _r => false, nt := 2, n0 := 0 }
theorem runref14_New (x : Unit) (g : Unit) : execF Eref14_New Tryz.f63 (Aref14_New.enc x) (bNil.enc g) = (Tref14_New ).map Rref14_New := by kernel_rfl
theorem okref14_New : FnOk Tryz.prog cd 63 Sref14_New := mk_ok (E := Eref14_New) cd_ok fns62_ok Tryz.func63 (by kernel_rfl) (noLoops_body (by kernel_rfl)) (aNil_ok) bNil_ok (T := fun x _ => Tref14_New ) (fun _ _ => rfl) runref14_New
noncomputable def fns63 := addF 63 true Sref14_New fns62
theorem fns63_ok : ∀ f q t, fns63 f = some (q, t) → FnOk Tryz.prog cd f t := addF_ok okref14_New fns62_ok
/-- emulator/emulatorref20.New -/
structure Sref20_New_0 where
  t1 : Int
  t12 : Int
  b0_0 : (List Int)
  b0_1 : (List Int)
  b0_2 : Int
  b0_3 : Int
  b0_6 : Bool
  b0_7 : (List Page)
  b0_8 : Int
  b0_9 : Int
  b0_10 : Bool
  b0_11 : Bool
  b0_12 : Int
  b0_13 : Int
  b0_17 : Bool
  b0_18 : Bool
  b0_19 : Bool
  b0_20 : Int
  b0_21 : Int
  b0_22 : Int
  b0_23 : Int
  b0_24 : Int
  b0_26 : Int
  b0_27 : Bool
  b0_28 : Bool
  b0_29 : Bool
  b0_30 : Bool
  b0_31 : Bool
  b0_32 : Int
  b0_33 : Int
  b0_34 : Int
  b0_35 : Int
  b0_36 : Int
  b0_37 : Bool
  b0_38 : Bool
  b0_39 : Int
  b0_40 : Bool
  b1_0 : (List Int)
  b1_1 : (List Int)
  b1_2 : Int
  b1_3 : Int
  b1_4 : (List Int)
  b1_6 : Bool
  b1_7 : (List Page)
  b1_8 : Int
  b1_9 : Int
  b1_10 : Bool
  b1_11 : Bool
  b1_12 : Int
  b1_13 : Int
  b1_15 : (List (List UInt8))
  b1_16 : (List Int)
  b1_17 : Bool
  b1_18 : Bool
  b1_19 : Bool
  b1_20 : Int
  b1_21 : Int
  b1_22 : Int
  b1_23 : Int
  b1_24 : Int
  b1_25 : (List (List UInt8))
  b1_26 : Int
  b1_27 : Bool
  b1_28 : Bool
  b1_29 : Bool
  b1_30 : Bool
  b1_31 : Bool
  b1_32 : Int
  b1_33 : Int
  b1_34 : Int
  b1_35 : Int
  b1_36 : Int
  b1_37 : Bool
  b1_38 : Bool
  b1_39 : Int
  b1_40 : Bool
  b2 : (List Int)
  b3 : (List Int)
  b4 : (List Line)
  b5 : (List (List UInt8))
  b6 : (List Int)
  b7 : (List (List UInt8))
  b8 : (List Int)
  b9 : (List Line)
noncomputable def Wref20_New_0 (s : Sref20_New_0) : Tree (Sref20_New_0 ⊕ ((List Int) × (List Int) × Int × Int × Bool × (List Page) × Int × Int × Bool × Bool × Int × Int × Bool × Bool × Bool × Int × Int × Int × Int × Int × Int × Bool × Bool × Bool × Bool × Bool × Int × Int × Int × Int × Int × Bool × Bool × Int × Bool × (List Int) × (List Int) × Int × Int × (List Int) × Bool × (List Page) × Int × Int × Bool × Bool × Int × Int × (List (List UInt8)) × (List Int) × Bool × Bool × Bool × Int × Int × Int × Int × Int × (List (List UInt8)) × Int × Bool × Bool × Bool × Bool × Bool × Int × Int × Int × Int × Int × Bool × Bool × Int × Bool × (List Int) × (List Int) × (List Line) × (List (List UInt8)) × (List Int) × (List (List UInt8)) × (List Int) × (List Line))) :=
  .ite (decide (s.t12 < s.t1))
    (.opt Line (ref14_New) fun r73 =>
      .ite (decide ((s.b9.length + ([r73]).length) * 56 ≤ 140737488355328))
        (.leaf (.inl (Sref20_New_0.mk s.t1 (IntKind.wrap .i64 (s.t12 + (1 : Int))) s.b0_0 s.b0_1 s.b0_2 s.b0_3 s.b0_6 s.b0_7 s.b0_8 s.b0_9 s.b0_10 s.b0_11 s.b0_12 s.b0_13 s.b0_17 s.b0_18 s.b0_19 s.b0_20 s.b0_21 s.b0_22 s.b0_23 s.b0_24 s.b0_26 s.b0_27 s.b0_28 s.b0_29 s.b0_30 s.b0_31 s.b0_32 s.b0_33 s.b0_34 s.b0_35 s.b0_36 s.b0_37 s.b0_38 s.b0_39 s.b0_40 s.b1_0 s.b1_1 s.b1_2 s.b1_3 s.b1_4 s.b1_6 s.b1_7 s.b1_8 s.b1_9 s.b1_10 s.b1_11 s.b1_12 s.b1_13 s.b1_15 s.b1_16 s.b1_17 s.b1_18 s.b1_19 s.b1_20 s.b1_21 s.b1_22 s.b1_23 s.b1_24 s.b1_25 s.b1_26 s.b1_27 s.b1_28 s.b1_29 s.b1_30 s.b1_31 s.b1_32 s.b1_33 s.b1_34 s.b1_35 s.b1_36 s.b1_37 s.b1_38 s.b1_39 s.b1_40 s.b2 s.b3 s.b4 s.b5 s.b6 s.b7 s.b8 (s.b9 ++ ([r73])))))
        .fail)
    (.leaf (.inr (s.b0_0, s.b0_1, s.b0_2, s.b0_3, s.b0_6, s.b0_7, s.b0_8, s.b0_9, s.b0_10, s.b0_11, s.b0_12, s.b0_13, s.b0_17, s.b0_18, s.b0_19, s.b0_20, s.b0_21, s.b0_22, s.b0_23, s.b0_24, s.b0_26, s.b0_27, s.b0_28, s.b0_29, s.b0_30, s.b0_31, s.b0_32, s.b0_33, s.b0_34, s.b0_35, s.b0_36, s.b0_37, s.b0_38, s.b0_39, s.b0_40, s.b1_0, s.b1_1, s.b1_2, s.b1_3, s.b1_4, s.b1_6, s.b1_7, s.b1_8, s.b1_9, s.b1_10, s.b1_11, s.b1_12, s.b1_13, s.b1_15, s.b1_16, s.b1_17, s.b1_18, s.b1_19, s.b1_20, s.b1_21, s.b1_22, s.b1_23, s.b1_24, s.b1_25, s.b1_26, s.b1_27, s.b1_28, s.b1_29, s.b1_30, s.b1_31, s.b1_32, s.b1_33, s.b1_34, s.b1_35, s.b1_36, s.b1_37, s.b1_38, s.b1_39, s.b1_40, s.b2, s.b3, s.b4, s.b5, s.b6, s.b7, s.b8, s.b9)))
noncomputable def Lref20_New_0 (q : Option Nat) (s : Sref20_New_0) : Option ((List Int) × (List Int) × Int × Int × Bool × (List Page) × Int × Int × Bool × Bool × Int × Int × Bool × Bool × Bool × Int × Int × Int × Int × Int × Int × Bool × Bool × Bool × Bool × Bool × Int × Int × Int × Int × Int × Bool × Bool × Int × Bool × (List Int) × (List Int) × Int × Int × (List Int) × Bool × (List Page) × Int × Int × Bool × Bool × Int × Int × (List (List UInt8)) × (List Int) × Bool × Bool × Bool × Int × Int × Int × Int × Int × (List (List UInt8)) × Int × Bool × Bool × Bool × Bool × Bool × Int × Int × Int × Int × Int × Bool × Bool × Int × Bool × (List Int) × (List Int) × (List Line) × (List (List UInt8)) × (List Int) × (List (List UInt8)) × (List Int) × (List Line)) := limQ q (fun s => (Wref20_New_0 s).run) s
theorem leLref20_New_0 (k : Nat) (s : Sref20_New_0) : Le (Lref20_New_0 (some k) s) (Lref20_New_0 none s) := limQ_le (fun _ => Le.rfl) s
noncomputable def Tref20_New (q : Option Nat) (x0 : Int) (x1 : Int) (x2 : Int) : Tree (Machine × Int) :=
  .opt ((List Int) × Int) (ref08_New x0) fun r68 =>
    .ite (!decide (r68.2 = (0 : Int)))
      (.leaf ((Machine.mk (Cpu.mk (List.replicate 6 (0 : Int)) (List.replicate 2 (0 : Int)) 0 0) ([]) ([]) (Mmu.mk false (List.replicate 16 (Page.mk (0 : Int) (0 : Int) (0 : Int) false)) 0 0) (Clock.mk false false 0 0) ([]) (Disk.mk (Drive.mk ([]) ([])) false false false 0 0 0 0 0) (Tape.mk ([]) 0 false false false false false 0 0 0 0) 0 false false 0 false, r68.2)))
      (.ite (decide (x1 < (0 : Int)))
        (.leaf ((Machine.mk (Cpu.mk (List.replicate 6 (0 : Int)) (List.replicate 2 (0 : Int)) 0 0) ([]) ([]) (Mmu.mk false (List.replicate 16 (Page.mk (0 : Int) (0 : Int) (0 : Int) false)) 0 0) (Clock.mk false false 0 0) ([]) (Disk.mk (Drive.mk ([]) ([])) false false false 0 0 0 0 0) (Tape.mk ([]) 0 false false false false false 0 0 0 0) 0 false false 0 false, (2 : Int))))
        (.ite (decide ((4 : Int) < x1))
          (.leaf ((Machine.mk (Cpu.mk (List.replicate 6 (0 : Int)) (List.replicate 2 (0 : Int)) 0 0) ([]) ([]) (Mmu.mk false (List.replicate 16 (Page.mk (0 : Int) (0 : Int) (0 : Int) false)) 0 0) (Clock.mk false false 0 0) ([]) (Disk.mk (Drive.mk ([]) ([])) false false false 0 0 0 0 0) (Tape.mk ([]) 0 false false false false false 0 0 0 0) 0 false false 0 false, (2 : Int))))
          (.opt (Drive × Int) (ref15_New q x2) fun r69 =>
            .ite (!decide (r69.2 = (0 : Int)))
              (.leaf ((Machine.mk (Cpu.mk (List.replicate 6 (0 : Int)) (List.replicate 2 (0 : Int)) 0 0) ([]) ([]) (Mmu.mk false (List.replicate 16 (Page.mk (0 : Int) (0 : Int) (0 : Int) false)) 0 0) (Clock.mk false false 0 0) ([]) (Disk.mk (Drive.mk ([]) ([])) false false false 0 0 0 0 0) (Tape.mk ([]) 0 false false false false false 0 0 0 0) 0 false false 0 false, r69.2)))
              (.opt Disk (ref16_New r69.1) fun r70 =>
                .opt (Clock × Int) (ref13_New (100 : Int)) fun r71 =>
                  .opt (Tape × Int) (ref17_New q ([])) fun r72 =>
                    .opt ((List Int) × (List Int) × Int × Int × Bool × (List Page) × Int × Int × Bool × Bool × Int × Int × Bool × Bool × Bool × Int × Int × Int × Int × Int × Int × Bool × Bool × Bool × Bool × Bool × Int × Int × Int × Int × Int × Bool × Bool × Int × Bool × (List Int) × (List Int) × Int × Int × (List Int) × Bool × (List Page) × Int × Int × Bool × Bool × Int × Int × (List (List UInt8)) × (List Int) × Bool × Bool × Bool × Int × Int × Int × Int × Int × (List (List UInt8)) × Int × Bool × Bool × Bool × Bool × Bool × Int × Int × Int × Int × Int × Bool × Bool × Int × Bool × (List Int) × (List Int) × (List Line) × (List (List UInt8)) × (List Int) × (List (List UInt8)) × (List Int) × (List Line)) (Lref20_New_0 q (Sref20_New_0.mk x1 (0 : Int) (List.replicate 6 (0 : Int)) (List.replicate 2 (0 : Int)) 0 0 false (List.replicate 16 (Page.mk (0 : Int) (0 : Int) (0 : Int) false)) 0 0 false false 0 0 false false false 0 0 0 0 0 0 false false false false false 0 0 0 0 0 false false 0 false (List.replicate 6 (0 : Int)) (List.replicate 2 (0 : Int)) 0 0 r68.1 false (List.replicate 16 (Page.mk (0 : Int) (0 : Int) (0 : Int) false)) 0 0 r71.1.enable r71.1.ready r71.1.period r71.1.left r70.drive.sectors r70.drive.bad r70.enable r70.ready r70.error r70.command r70.words r70.addr r70.start r70.left r72.1.records r72.1.pos r72.1.enable r72.1.ready r72.1.error r72.1.mark r72.1.end_ r72.1.command r72.1.count r72.1.addr r72.1.left 0 false false 0 false ([]) ([]) ([]) ([]) ([]) ([]) ([]) ([]))) fun l74 =>
                      .leaf ((Machine.mk (Cpu.mk l74.2.2.2.2.2.2.2.2.2.2.2.2.2.2.2.2.2.2.2.2.2.2.2.2.2.2.2.2.2.2.2.2.2.2.2.1 l74.2.2.2.2.2.2.2.2.2.2.2.2.2.2.2.2.2.2.2.2.2.2.2.2.2.2.2.2.2.2.2.2.2.2.2.2.1 l74.2.2.2.2.2.2.2.2.2.2.2.2.2.2.2.2.2.2.2.2.2.2.2.2.2.2.2.2.2.2.2.2.2.2.2.2.2.1 l74.2.2.2.2.2.2.2.2.2.2.2.2.2.2.2.2.2.2.2.2.2.2.2.2.2.2.2.2.2.2.2.2.2.2.2.2.2.2.1) l74.2.2.2.2.2.2.2.2.2.2.2.2.2.2.2.2.2.2.2.2.2.2.2.2.2.2.2.2.2.2.2.2.2.2.2.2.2.2.2.1 l74.2.2.2.2.2.2.2.2.2.2.2.2.2.2.2.2.2.2.2.2.2.2.2.2.2.2.2.2.2.2.2.2.2.2.2.2.2.2.2.2.2.2.2.2.2.2.2.2.2.2.2.2.2.2.2.2.2.2.2.2.2.2.2.2.2.2.2.2.2.2.2.2.2.2.2.2.2.2.2.2.1 (Mmu.mk l74.2.2.2.2.2.2.2.2.2.2.2.2.2.2.2.2.2.2.2.2.2.2.2.2.2.2.2.2.2.2.2.2.2.2.2.2.2.2.2.2.1 l74.2.2.2.2.2.2.2.2.2.2.2.2.2.2.2.2.2.2.2.2.2.2.2.2.2.2.2.2.2.2.2.2.2.2.2.2.2.2.2.2.2.1 l74.2.2.2.2.2.2.2.2.2.2.2.2.2.2.2.2.2.2.2.2.2.2.2.2.2.2.2.2.2.2.2.2.2.2.2.2.2.2.2.2.2.2.1 l74.2.2.2.2.2.2.2.2.2.2.2.2.2.2.2.2.2.2.2.2.2.2.2.2.2.2.2.2.2.2.2.2.2.2.2.2.2.2.2.2.2.2.2.1) (Clock.mk l74.2.2.2.2.2.2.2.2.2.2.2.2.2.2.2.2.2.2.2.2.2.2.2.2.2.2.2.2.2.2.2.2.2.2.2.2.2.2.2.2.2.2.2.2.1 l74.2.2.2.2.2.2.2.2.2.2.2.2.2.2.2.2.2.2.2.2.2.2.2.2.2.2.2.2.2.2.2.2.2.2.2.2.2.2.2.2.2.2.2.2.2.1 l74.2.2.2.2.2.2.2.2.2.2.2.2.2.2.2.2.2.2.2.2.2.2.2.2.2.2.2.2.2.2.2.2.2.2.2.2.2.2.2.2.2.2.2.2.2.2.1 l74.2.2.2.2.2.2.2.2.2.2.2.2.2.2.2.2.2.2.2.2.2.2.2.2.2.2.2.2.2.2.2.2.2.2.2.2.2.2.2.2.2.2.2.2.2.2.2.1) l74.2.2.2.2.2.2.2.2.2.2.2.2.2.2.2.2.2.2.2.2.2.2.2.2.2.2.2.2.2.2.2.2.2.2.2.2.2.2.2.2.2.2.2.2.2.2.2.2.2.2.2.2.2.2.2.2.2.2.2.2.2.2.2.2.2.2.2.2.2.2.2.2.2.2.2.2.2.2.2.2.2 (Disk.mk (Drive.mk l74.2.2.2.2.2.2.2.2.2.2.2.2.2.2.2.2.2.2.2.2.2.2.2.2.2.2.2.2.2.2.2.2.2.2.2.2.2.2.2.2.2.2.2.2.2.2.2.2.1 l74.2.2.2.2.2.2.2.2.2.2.2.2.2.2.2.2.2.2.2.2.2.2.2.2.2.2.2.2.2.2.2.2.2.2.2.2.2.2.2.2.2.2.2.2.2.2.2.2.2.1) l74.2.2.2.2.2.2.2.2.2.2.2.2.2.2.2.2.2.2.2.2.2.2.2.2.2.2.2.2.2.2.2.2.2.2.2.2.2.2.2.2.2.2.2.2.2.2.2.2.2.2.1 l74.2.2.2.2.2.2.2.2.2.2.2.2.2.2.2.2.2.2.2.2.2.2.2.2.2.2.2.2.2.2.2.2.2.2.2.2.2.2.2.2.2.2.2.2.2.2.2.2.2.2.2.1 l74.2.2.2.2.2.2.2.2.2.2.2.2.2.2.2.2.2.2.2.2.2.2.2.2.2.2.2.2.2.2.2.2.2.2.2.2.2.2.2.2.2.2.2.2.2.2.2.2.2.2.2.2.1 l74.2.2.2.2.2.2.2.2.2.2.2.2.2.2.2.2.2.2.2.2.2.2.2.2.2.2.2.2.2.2.2.2.2.2.2.2.2.2.2.2.2.2.2.2.2.2.2.2.2.2.2.2.2.1 l74.2.2.2.2.2.2.2.2.2.2.2.2.2.2.2.2.2.2.2.2.2.2.2.2.2.2.2.2.2.2.2.2.2.2.2.2.2.2.2.2.2.2.2.2.2.2.2.2.2.2.2.2.2.2.1 l74.2.2.2.2.2.2.2.2.2.2.2.2.2.2.2.2.2.2.2.2.2.2.2.2.2.2.2.2.2.2.2.2.2.2.2.2.2.2.2.2.2.2.2.2.2.2.2.2.2.2.2.2.2.2.2.1 l74.2.2.2.2.2.2.2.2.2.2.2.2.2.2.2.2.2.2.2.2.2.2.2.2.2.2.2.2.2.2.2.2.2.2.2.2.2.2.2.2.2.2.2.2.2.2.2.2.2.2.2.2.2.2.2.2.1 l74.2.2.2.2.2.2.2.2.2.2.2.2.2.2.2.2.2.2.2.2.2.2.2.2.2.2.2.2.2.2.2.2.2.2.2.2.2.2.2.2.2.2.2.2.2.2.2.2.2.2.2.2.2.2.2.2.2.1) (Tape.mk l74.2.2.2.2.2.2.2.2.2.2.2.2.2.2.2.2.2.2.2.2.2.2.2.2.2.2.2.2.2.2.2.2.2.2.2.2.2.2.2.2.2.2.2.2.2.2.2.2.2.2.2.2.2.2.2.2.2.2.1 l74.2.2.2.2.2.2.2.2.2.2.2.2.2.2.2.2.2.2.2.2.2.2.2.2.2.2.2.2.2.2.2.2.2.2.2.2.2.2.2.2.2.2.2.2.2.2.2.2.2.2.2.2.2.2.2.2.2.2.2.1 l74.2.2.2.2.2.2.2.2.2.2.2.2.2.2.2.2.2.2.2.2.2.2.2.2.2.2.2.2.2.2.2.2.2.2.2.2.2.2.2.2.2.2.2.2.2.2.2.2.2.2.2.2.2.2.2.2.2.2.2.2.1 l74.2.2.2.2.2.2.2.2.2.2.2.2.2.2.2.2.2.2.2.2.2.2.2.2.2.2.2.2.2.2.2.2.2.2.2.2.2.2.2.2.2.2.2.2.2.2.2.2.2.2.2.2.2.2.2.2.2.2.2.2.2.1 l74.2.2.2.2.2.2.2.2.2.2.2.2.2.2.2.2.2.2.2.2.2.2.2.2.2.2.2.2.2.2.2.2.2.2.2.2.2.2.2.2.2.2.2.2.2.2.2.2.2.2.2.2.2.2.2.2.2.2.2.2.2.2.1 l74.2.2.2.2.2.2.2.2.2.2.2.2.2.2.2.2.2.2.2.2.2.2.2.2.2.2.2.2.2.2.2.2.2.2.2.2.2.2.2.2.2.2.2.2.2.2.2.2.2.2.2.2.2.2.2.2.2.2.2.2.2.2.2.1 l74.2.2.2.2.2.2.2.2.2.2.2.2.2.2.2.2.2.2.2.2.2.2.2.2.2.2.2.2.2.2.2.2.2.2.2.2.2.2.2.2.2.2.2.2.2.2.2.2.2.2.2.2.2.2.2.2.2.2.2.2.2.2.2.2.1 l74.2.2.2.2.2.2.2.2.2.2.2.2.2.2.2.2.2.2.2.2.2.2.2.2.2.2.2.2.2.2.2.2.2.2.2.2.2.2.2.2.2.2.2.2.2.2.2.2.2.2.2.2.2.2.2.2.2.2.2.2.2.2.2.2.2.1 l74.2.2.2.2.2.2.2.2.2.2.2.2.2.2.2.2.2.2.2.2.2.2.2.2.2.2.2.2.2.2.2.2.2.2.2.2.2.2.2.2.2.2.2.2.2.2.2.2.2.2.2.2.2.2.2.2.2.2.2.2.2.2.2.2.2.2.1 l74.2.2.2.2.2.2.2.2.2.2.2.2.2.2.2.2.2.2.2.2.2.2.2.2.2.2.2.2.2.2.2.2.2.2.2.2.2.2.2.2.2.2.2.2.2.2.2.2.2.2.2.2.2.2.2.2.2.2.2.2.2.2.2.2.2.2.2.1 l74.2.2.2.2.2.2.2.2.2.2.2.2.2.2.2.2.2.2.2.2.2.2.2.2.2.2.2.2.2.2.2.2.2.2.2.2.2.2.2.2.2.2.2.2.2.2.2.2.2.2.2.2.2.2.2.2.2.2.2.2.2.2.2.2.2.2.2.2.1) l74.2.2.2.2.2.2.2.2.2.2.2.2.2.2.2.2.2.2.2.2.2.2.2.2.2.2.2.2.2.2.2.2.2.2.2.2.2.2.2.2.2.2.2.2.2.2.2.2.2.2.2.2.2.2.2.2.2.2.2.2.2.2.2.2.2.2.2.2.2.1 l74.2.2.2.2.2.2.2.2.2.2.2.2.2.2.2.2.2.2.2.2.2.2.2.2.2.2.2.2.2.2.2.2.2.2.2.2.2.2.2.2.2.2.2.2.2.2.2.2.2.2.2.2.2.2.2.2.2.2.2.2.2.2.2.2.2.2.2.2.2.2.1 l74.2.2.2.2.2.2.2.2.2.2.2.2.2.2.2.2.2.2.2.2.2.2.2.2.2.2.2.2.2.2.2.2.2.2.2.2.2.2.2.2.2.2.2.2.2.2.2.2.2.2.2.2.2.2.2.2.2.2.2.2.2.2.2.2.2.2.2.2.2.2.2.1 l74.2.2.2.2.2.2.2.2.2.2.2.2.2.2.2.2.2.2.2.2.2.2.2.2.2.2.2.2.2.2.2.2.2.2.2.2.2.2.2.2.2.2.2.2.2.2.2.2.2.2.2.2.2.2.2.2.2.2.2.2.2.2.2.2.2.2.2.2.2.2.2.2.1 l74.2.2.2.2.2.2.2.2.2.2.2.2.2.2.2.2.2.2.2.2.2.2.2.2.2.2.2.2.2.2.2.2.2.2.2.2.2.2.2.2.2.2.2.2.2.2.2.2.2.2.2.2.2.2.2.2.2.2.2.2.2.2.2.2.2.2.2.2.2.2.2.2.2.1, (0 : Int)))))))
noncomputable def ref20_New (q : Option Nat) (x0 : Int) (x1 : Int) (x2 : Int) : Option (Machine × Int) := (Tref20_New q x0 x1 x2).run
theorem leref20_New (k : Nat) (x0 : Int) (x1 : Int) (x2 : Int) : Le (ref20_New (some k) x0 x1 x2) (ref20_New none x0 x1 x2) := (TLe.opt Le.rfl fun _ => (TLe.ite TLe.rfl (TLe.ite TLe.rfl (TLe.ite TLe.rfl (TLe.opt (leref15_New k _) fun _ => (TLe.ite TLe.rfl (TLe.opt Le.rfl fun _ => (TLe.opt Le.rfl fun _ => (TLe.opt (leref17_New k _) fun _ => (TLe.opt (leLref20_New_0 k _) fun _ => TLe.rfl))))))))))
noncomputable def Aref20_New : Arg U (Int × Int × Int × Unit) := aO (cInt .i64) (aO (cInt .i64) (aO (cInt .i64) (aNil)))
noncomputable def Rref20_New (r : (Machine × Int)) : List (V U) × List (Blk U) := ([vA cMachine r.1, vO (cInt .i64) r.2], [])
noncomputable def Sref20_New : List (V U) → List (Blk U) → Option (FnOut U) := mkSpec Aref20_New bNil (fun x _ => ref20_New none x.1 x.2.1 x.2.2.1) Rref20_New
noncomputable def Pref20_New_0 (x : (Int × Unit) × (Unit) × (Unit) × (Int × Unit) × Unit) (g : ((List Int) × (List Int) × Int × Int × Bool × (List Page) × Int × Int × Bool × Bool × Int × Int × Bool × Bool × Bool × Int × Int × Int × Int × Int × Int × Bool × Bool × Bool × Bool × Bool × Int × Int × Int × Int × Int × Bool × Bool × Int × Bool × Unit) × ((List Int) × (List Int) × Int × Int × (List Int) × Bool × (List Page) × Int × Int × Bool × Bool × Int × Int × (List (List UInt8)) × (List Int) × Bool × Bool × Bool × Int × Int × Int × Int × Int × (List (List UInt8)) × Int × Bool × Bool × Bool × Bool × Bool × Int × Int × Int × Int × Int × Bool × Bool × Int × Bool × Unit) × (List Int) × (List Int) × (List Line) × (List (List UInt8)) × (List Int) × (List (List UInt8)) × (List Int) × (List Line) × Unit) : Sref20_New_0 := Sref20_New_0.mk x.1.1 x.2.2.2.1.1 g.1.1 g.1.2.1 g.1.2.2.1 g.1.2.2.2.1 g.1.2.2.2.2.1 g.1.2.2.2.2.2.1 g.1.2.2.2.2.2.2.1 g.1.2.2.2.2.2.2.2.1 g.1.2.2.2.2.2.2.2.2.1 g.1.2.2.2.2.2.2.2.2.2.1 g.1.2.2.2.2.2.2.2.2.2.2.1 g.1.2.2.2.2.2.2.2.2.2.2.2.1 g.1.2.2.2.2.2.2.2.2.2.2.2.2.1 g.1.2.2.2.2.2.2.2.2.2.2.2.2.2.1 g.1.2.2.2.2.2.2.2.2.2.2.2.2.2.2.1 g.1.2.2.2.2.2.2.2.2.2.2.2.2.2.2.2.1 g.1.2.2.2.2.2.2.2.2.2.2.2.2.2.2.2.2.1 g.1.2.2.2.2.2.2.2.2.2.2.2.2.2.2.2.2.2.1 g.1.2.2.2.2.2.2.2.2.2.2.2.2.2.2.2.2.2.2.1 g.1.2.2.2.2.2.2.2.2.2.2.2.2.2.2.2.2.2.2.2.1 g.1.2.2.2.2.2.2.2.2.2.2.2.2.2.2.2.2.2.2.2.2.1 g.1.2.2.2.2.2.2.2.2.2.2.2.2.2.2.2.2.2.2.2.2.2.1 g.1.2.2.2.2.2.2.2.2.2.2.2.2.2.2.2.2.2.2.2.2.2.2.1 g.1.2.2.2.2.2.2.2.2.2.2.2.2.2.2.2.2.2.2.2.2.2.2.2.1 g.1.2.2.2.2.2.2.2.2.2.2.2.2.2.2.2.2.2.2.2.2.2.2.2.2.1 g.1.2.2.2.2.2.2.2.2.2.2.2.2.2.2.2.2.2.2.2.2.2.2.2.2.2.1 g.1.2.2.2.2.2.2.2.2.2.2.2.2.2.2.2.2.2.2.2.2.2.2.2.2.2.2.1 g.1.2.2.2.2.2.2.2.2.2.2.2.2.2.2.2.2.2.2.2.2.2.2.2.2.2.2.2.1 g.1.2.2.2.2.2.2.2.2.2.2.2.2.2.2.2.2.2.2.2.2.2.2.2.2.2.2.2.2.1 g.1.2.2.2.2.2.2.2.2.2.2.2.2.2.2.2.2.2.2.2.2.2.2.2.2.2.2.2.2.2.1 g.1.2.2.2.2.2.2.2.2.2.2.2.2.2.2.2.2.2.2.2.2.2.2.2.2.2.2.2.2.2.2.1 g.1.2.2.2.2.2.2.2.2.2.2.2.2.2.2.2.2.2.2.2.2.2.2.2.2.2.2.2.2.2.2.2.1 g.1.2.2.2.2.2.2.2.2.2.2.2.2.2.2.2.2.2.2.2.2.2.2.2.2.2.2.2.2.2.2.2.2.1 g.1.2.2.2.2.2.2.2.2.2.2.2.2.2.2.2.2.2.2.2.2.2.2.2.2.2.2.2.2.2.2.2.2.2.1 g.1.2.2.2.2.2.2.2.2.2.2.2.2.2.2.2.2.2.2.2.2.2.2.2.2.2.2.2.2.2.2.2.2.2.2.1 g.2.1.1 g.2.1.2.1 g.2.1.2.2.1 g.2.1.2.2.2.1 g.2.1.2.2.2.2.1 g.2.1.2.2.2.2.2.1 g.2.1.2.2.2.2.2.2.1 g.2.1.2.2.2.2.2.2.2.1 g.2.1.2.2.2.2.2.2.2.2.1 g.2.1.2.2.2.2.2.2.2.2.2.1 g.2.1.2.2.2.2.2.2.2.2.2.2.1 g.2.1.2.2.2.2.2.2.2.2.2.2.2.1 g.2.1.2.2.2.2.2.2.2.2.2.2.2.2.1 g.2.1.2.2.2.2.2.2.2.2.2.2.2.2.2.1 g.2.1.2.2.2.2.2.2.2.2.2.2.2.2.2.2.1 g.2.1.2.2.2.2.2.2.2.2.2.2.2.2.2.2.2.1 g.2.1.2.2.2.2.2.2.2.2.2.2.2.2.2.2.2.2.1 g.2.1.2.2.2.2.2.2.2.2.2.2.2.2.2.2.2.2.2.1 g.2.1.2.2.2.2.2.2.2.2.2.2.2.2.2.2.2.2.2.2.1 g.2.1.2.2.2.2.2.2.2.2.2.2.2.2.2.2.2.2.2.2.2.1 g.2.1.2.2.2.2.2.2.2.2.2.2.2.2.2.2.2.2.2.2.2.2.1 g.2.1.2.2.2.2.2.2.2.2.2.2.2.2.2.2.2.2.2.2.2.2.2.1 g.2.1.2.2.2.2.2.2.2.2.2.2.2.2.2.2.2.2.2.2.2.2.2.2.1 g.2.1.2.2.2.2.2.2.2.2.2.2.2.2.2.2.2.2.2.2.2.2.2.2.2.1 g.2.1.2.2.2.2.2.2.2.2.2.2.2.2.2.2.2.2.2.2.2.2.2.2.2.2.1 g.2.1.2.2.2.2.2.2.2.2.2.2.2.2.2.2.2.2.2.2.2.2.2.2.2.2.2.1 g.2.1.2.2.2.2.2.2.2.2.2.2.2.2.2.2.2.2.2.2.2.2.2.2.2.2.2.2.1 g.2.1.2.2.2.2.2.2.2.2.2.2.2.2.2.2.2.2.2.2.2.2.2.2.2.2.2.2.2.1 g.2.1.2.2.2.2.2.2.2.2.2.2.2.2.2.2.2.2.2.2.2.2.2.2.2.2.2.2.2.2.1 g.2.1.2.2.2.2.2.2.2.2.2.2.2.2.2.2.2.2.2.2.2.2.2.2.2.2.2.2.2.2.2.1 g.2.1.2.2.2.2.2.2.2.2.2.2.2.2.2.2.2.2.2.2.2.2.2.2.2.2.2.2.2.2.2.2.1 g.2.1.2.2.2.2.2.2.2.2.2.2.2.2.2.2.2.2.2.2.2.2.2.2.2.2.2.2.2.2.2.2.2.1 g.2.1.2.2.2.2.2.2.2.2.2.2.2.2.2.2.2.2.2.2.2.2.2.2.2.2.2.2.2.2.2.2.2.2.1 g.2.1.2.2.2.2.2.2.2.2.2.2.2.2.2.2.2.2.2.2.2.2.2.2.2.2.2.2.2.2.2.2.2.2.2.1 g.2.1.2.2.2.2.2.2.2.2.2.2.2.2.2.2.2.2.2.2.2.2.2.2.2.2.2.2.2.2.2.2.2.2.2.2.1 g.2.1.2.2.2.2.2.2.2.2.2.2.2.2.2.2.2.2.2.2.2.2.2.2.2.2.2.2.2.2.2.2.2.2.2.2.2.1 g.2.1.2.2.2.2.2.2.2.2.2.2.2.2.2.2.2.2.2.2.2.2.2.2.2.2.2.2.2.2.2.2.2.2.2.2.2.2.1 g.2.1.2.2.2.2.2.2.2.2.2.2.2.2.2.2.2.2.2.2.2.2.2.2.2.2.2.2.2.2.2.2.2.2.2.2.2.2.2.1 g.2.1.2.2.2.2.2.2.2.2.2.2.2.2.2.2.2.2.2.2.2.2.2.2.2.2.2.2.2.2.2.2.2.2.2.2.2.2.2.2.1 g.2.2.1 g.2.2.2.1 g.2.2.2.2.1 g.2.2.2.2.2.1 g.2.2.2.2.2.2.1 g.2.2.2.2.2.2.2.1 g.2.2.2.2.2.2.2.2.1 g.2.2.2.2.2.2.2.2.2.1
noncomputable def tAref20_New_0 : Tms U ((Int × Unit) × (Unit) × (Unit) × (Int × Unit) × Unit) := tO 1 (cPair (cInt .i64) (cUnit)) (tO 6 (cK (.ptr 0 0) (cUnit)) (tO 11 (cK (.ptr 1 0) (cUnit)) (tO 12 (cPair (cInt .i64) (cUnit)) (tNil))))
noncomputable def tBref20_New_0 : Bls U (((List Int) × (List Int) × Int × Int × Bool × (List Page) × Int × Int × Bool × Bool × Int × Int × Bool × Bool × Bool × Int × Int × Int × Int × Int × Int × Bool × Bool × Bool × Bool × Bool × Int × Int × Int × Int × Int × Bool × Bool × Int × Bool × Unit) × ((List Int) × (List Int) × Int × Int × (List Int) × Bool × (List Page) × Int × Int × Bool × Bool × Int × Int × (List (List UInt8)) × (List Int) × Bool × Bool × Bool × Int × Int × Int × Int × Int × (List (List UInt8)) × Int × Bool × Bool × Bool × Bool × Bool × Int × Int × Int × Int × Int × Bool × Bool × Int × Bool × Unit) × (List Int) × (List Int) × (List Line) × (List (List UInt8)) × (List Int) × (List (List UInt8)) × (List Int) × (List Line) × Unit) := bC (cPair (cArr 3 6) (cPair (cArr 3 2) (cPair (cInt .i64) (cPair (cInt .i64) (cK (.row 2 0) (cK (.row 3 0) (cPair cBool (cPair (cArr 28 16) (cPair (cInt .i64) (cPair (cInt .i64) (cPair cBool (cPair cBool (cPair (cInt .i64) (cPair (cInt .i64) (cK (.row 4 0) (cK (.row 5 0) (cK (.row 6 0) (cPair cBool (cPair cBool (cPair cBool (cPair (cInt .i64) (cPair (cInt .i64) (cPair (cInt .i64) (cPair (cInt .i64) (cPair (cInt .i64) (cK (.row 7 0) (cPair (cInt .i64) (cPair cBool (cPair cBool (cPair cBool (cPair cBool (cPair cBool (cPair (cInt .i64) (cPair (cInt .i64) (cPair (cInt .i64) (cPair (cInt .i64) (cPair (cInt .i64) (cPair cBool (cPair cBool (cPair (cInt .i64) (cPair cBool (cUnit)))))))))))))))))))))))))))))))))))))))))) (bC (cPair (cArr 3 6) (cPair (cArr 3 2) (cPair (cInt .i64) (cPair (cInt .i64) (cPair (cSl 3) (cK (.row 8 0) (cPair cBool (cPair (cArr 28 16) (cPair (cInt .i64) (cPair (cInt .i64) (cPair cBool (cPair cBool (cPair (cInt .i64) (cPair (cInt .i64) (cK (.row 9 0) (cPair (cSl 9) (cPair (cSl 3) (cPair cBool (cPair cBool (cPair cBool (cPair (cInt .i64) (cPair (cInt .i64) (cPair (cInt .i64) (cPair (cInt .i64) (cPair (cInt .i64) (cPair (cSl 9) (cPair (cInt .i64) (cPair cBool (cPair cBool (cPair cBool (cPair cBool (cPair cBool (cPair (cInt .i64) (cPair (cInt .i64) (cPair (cInt .i64) (cPair (cInt .i64) (cPair (cInt .i64) (cPair cBool (cPair cBool (cPair (cInt .i64) (cPair cBool (cUnit)))))))))))))))))))))))))))))))))))))))))) (bRv 3 0 (bRv 3 0 (bRv 55 0 (bRv 9 0 (bRv 3 0 (bRv 9 0 (bRv 3 0 (bRv 55 0 (bNil))))))))))
noncomputable def eSref20_New_0 (s : Sref20_New_0) : St U := { tm := [(1, .v (vO (cPair (cInt .i64) (cUnit)) (s.t1, ()))), (6, .v (vO (cK (.ptr 0 0) (cUnit)) (()))), (11, .v (vO (cK (.ptr 1 0) (cUnit)) (()))), (12, .v (vO (cPair (cInt .i64) (cUnit)) (s.t12, ())))], hp := [.cells ((cPair (cArr 3 6) (cPair (cArr 3 2) (cPair (cInt .i64) (cPair (cInt .i64) (cK (.row 2 0) (cK (.row 3 0) (cPair cBool (cPair (cArr 28 16) (cPair (cInt .i64) (cPair (cInt .i64) (cPair cBool (cPair cBool (cPair (cInt .i64) (cPair (cInt .i64) (cK (.row 4 0) (cK (.row 5 0) (cK (.row 6 0) (cPair cBool (cPair cBool (cPair cBool (cPair (cInt .i64) (cPair (cInt .i64) (cPair (cInt .i64) (cPair (cInt .i64) (cPair (cInt .i64) (cK (.row 7 0) (cPair (cInt .i64) (cPair cBool (cPair cBool (cPair cBool (cPair cBool (cPair cBool (cPair (cInt .i64) (cPair (cInt .i64) (cPair (cInt .i64) (cPair (cInt .i64) (cPair (cInt .i64) (cPair cBool (cPair cBool (cPair (cInt .i64) (cPair cBool (cUnit))))))))))))))))))))))))))))))))))))))))) : Cdc U ((List Int) × (List Int) × Int × Int × Bool × (List Page) × Int × Int × Bool × Bool × Int × Int × Bool × Bool × Bool × Int × Int × Int × Int × Int × Int × Bool × Bool × Bool × Bool × Bool × Int × Int × Int × Int × Int × Bool × Bool × Int × Bool × Unit)).enc (s.b0_0, s.b0_1, s.b0_2, s.b0_3, s.b0_6, s.b0_7, s.b0_8, s.b0_9, s.b0_10, s.b0_11, s.b0_12, s.b0_13, s.b0_17, s.b0_18, s.b0_19, s.b0_20, s.b0_21, s.b0_22, s.b0_23, s.b0_24, s.b0_26, s.b0_27, s.b0_28, s.b0_29, s.b0_30, s.b0_31, s.b0_32, s.b0_33, s.b0_34, s.b0_35, s.b0_36, s.b0_37, s.b0_38, s.b0_39, s.b0_40, ())) none, .cells ((cPair (cArr 3 6) (cPair (cArr 3 2) (cPair (cInt .i64) (cPair (cInt .i64) (cPair (cSl 3) (cK (.row 8 0) (cPair cBool (cPair (cArr 28 16) (cPair (cInt .i64) (cPair (cInt .i64) (cPair cBool (cPair cBool (cPair (cInt .i64) (cPair (cInt .i64) (cK (.row 9 0) (cPair (cSl 9) (cPair (cSl 3) (cPair cBool (cPair cBool (cPair cBool (cPair (cInt .i64) (cPair (cInt .i64) (cPair (cInt .i64) (cPair (cInt .i64) (cPair (cInt .i64) (cPair (cSl 9) (cPair (cInt .i64) (cPair cBool (cPair cBool (cPair cBool (cPair cBool (cPair cBool (cPair (cInt .i64) (cPair (cInt .i64) (cPair (cInt .i64) (cPair (cInt .i64) (cPair (cInt .i64) (cPair cBool (cPair cBool (cPair (cInt .i64) (cPair cBool (cUnit))))))))))))))))))))))))))))))))))))))))) : Cdc U ((List Int) × (List Int) × Int × Int × (List Int) × Bool × (List Page) × Int × Int × Bool × Bool × Int × Int × (List (List UInt8)) × (List Int) × Bool × Bool × Bool × Int × Int × Int × Int × Int × (List (List UInt8)) × Int × Bool × Bool × Bool × Bool × Bool × Int × Int × Int × Int × Int × Bool × Bool × Int × Bool × Unit)).enc (s.b1_0, s.b1_1, s.b1_2, s.b1_3, s.b1_4, s.b1_6, s.b1_7, s.b1_8, s.b1_9, s.b1_10, s.b1_11, s.b1_12, s.b1_13, s.b1_15, s.b1_16, s.b1_17, s.b1_18, s.b1_19, s.b1_20, s.b1_21, s.b1_22, s.b1_23, s.b1_24, s.b1_25, s.b1_26, s.b1_27, s.b1_28, s.b1_29, s.b1_30, s.b1_31, s.b1_32, s.b1_33, s.b1_34, s.b1_35, s.b1_36, s.b1_37, s.b1_38, s.b1_39, s.b1_40, ())) none, .row 3 0 s.b2, .row 3 0 s.b3, .row 55 0 s.b4, .row 9 0 s.b5, .row 3 0 s.b6, .row 9 0 s.b7, .row 3 0 s.b8, .row 55 0 s.b9] }
noncomputable def xSref20_New_0 (r : ((List Int) × (List Int) × Int × Int × Bool × (List Page) × Int × Int × Bool × Bool × Int × Int × Bool × Bool × Bool × Int × Int × Int × Int × Int × Int × Bool × Bool × Bool × Bool × Bool × Int × Int × Int × Int × Int × Bool × Bool × Int × Bool × (List Int) × (List Int) × Int × Int × (List Int) × Bool × (List Page) × Int × Int × Bool × Bool × Int × Int × (List (List UInt8)) × (List Int) × Bool × Bool × Bool × Int × Int × Int × Int × Int × (List (List UInt8)) × Int × Bool × Bool × Bool × Bool × Bool × Int × Int × Int × Int × Int × Bool × Bool × Int × Bool × (List Int) × (List Int) × (List Line) × (List (List UInt8)) × (List Int) × (List (List UInt8)) × (List Int) × (List Line))) : Ex × St U := (.exit 0, { tm := [(6, .v (vO (cK (.ptr 0 0) (cUnit)) (()))), (11, .v (vO (cK (.ptr 1 0) (cUnit)) (())))], hp := [.cells ((cPair (cArr 3 6) (cPair (cArr 3 2) (cPair (cInt .i64) (cPair (cInt .i64) (cK (.row 2 0) (cK (.row 3 0) (cPair cBool (cPair (cArr 28 16) (cPair (cInt .i64) (cPair (cInt .i64) (cPair cBool (cPair cBool (cPair (cInt .i64) (cPair (cInt .i64) (cK (.row 4 0) (cK (.row 5 0) (cK (.row 6 0) (cPair cBool (cPair cBool (cPair cBool (cPair (cInt .i64) (cPair (cInt .i64) (cPair (cInt .i64) (cPair (cInt .i64) (cPair (cInt .i64) (cK (.row 7 0) (cPair (cInt .i64) (cPair cBool (cPair cBool (cPair cBool (cPair cBool (cPair cBool (cPair (cInt .i64) (cPair (cInt .i64) (cPair (cInt .i64) (cPair (cInt .i64) (cPair (cInt .i64) (cPair cBool (cPair cBool (cPair (cInt .i64) (cPair cBool (cUnit))))))))))))))))))))))))))))))))))))))))) : Cdc U ((List Int) × (List Int) × Int × Int × Bool × (List Page) × Int × Int × Bool × Bool × Int × Int × Bool × Bool × Bool × Int × Int × Int × Int × Int × Int × Bool × Bool × Bool × Bool × Bool × Int × Int × Int × Int × Int × Bool × Bool × Int × Bool × Unit)).enc (r.1, r.2.1, r.2.2.1, r.2.2.2.1, r.2.2.2.2.1, r.2.2.2.2.2.1, r.2.2.2.2.2.2.1, r.2.2.2.2.2.2.2.1, r.2.2.2.2.2.2.2.2.1, r.2.2.2.2.2.2.2.2.2.1, r.2.2.2.2.2.2.2.2.2.2.1, r.2.2.2.2.2.2.2.2.2.2.2.1, r.2.2.2.2.2.2.2.2.2.2.2.2.1, r.2.2.2.2.2.2.2.2.2.2.2.2.2.1, r.2.2.2.2.2.2.2.2.2.2.2.2.2.2.1, r.2.2.2.2.2.2.2.2.2.2.2.2.2.2.2.1, r.2.2.2.2.2.2.2.2.2.2.2.2.2.2.2.2.1, r.2.2.2.2.2.2.2.2.2.2.2.2.2.2.2.2.2.1, r.2.2.2.2.2.2.2.2.2.2.2.2.2.2.2.2.2.2.1, r.2.2.2.2.2.2.2.2.2.2.2.2.2.2.2.2.2.2.2.1, r.2.2.2.2.2.2.2.2.2.2.2.2.2.2.2.2.2.2.2.2.1, r.2.2.2.2.2.2.2.2.2.2.2.2.2.2.2.2.2.2.2.2.2.1, r.2.2.2.2.2.2.2.2.2.2.2.2.2.2.2.2.2.2.2.2.2.2.1, r.2.2.2.2.2.2.2.2.2.2.2.2.2.2.2.2.2.2.2.2.2.2.2.1, r.2.2.2.2.2.2.2.2.2.2.2.2.2.2.2.2.2.2.2.2.2.2.2.2.1, r.2.2.2.2.2.2.2.2.2.2.2.2.2.2.2.2.2.2.2.2.2.2.2.2.2.1, r.2.2.2.2.2.2.2.2.2.2.2.2.2.2.2.2.2.2.2.2.2.2.2.2.2.2.1, r.2.2.2.2.2.2.2.2.2.2.2.2.2.2.2.2.2.2.2.2.2.2.2.2.2.2.2.1, r.2.2.2.2.2.2.2.2.2.2.2.2.2.2.2.2.2.2.2.2.2.2.2.2.2.2.2.2.1, r.2.2.2.2.2.2.2.2.2.2.2.2.2.2.2.2.2.2.2.2.2.2.2.2.2.2.2.2.2.1, r.2.2.2.2.2.2.2.2.2.2.2.2.2.2.2.2.2.2.2.2.2.2.2.2.2.2.2.2.2.2.1, r.2.2.2.2.2.2.2.2.2.2.2.2.2.2.2.2.2.2.2.2.2.2.2.2.2.2.2.2.2.2.2.1, r.2.2.2.2.2.2.2.2.2.2.2.2.2.2.2.2.2.2.2.2.2.2.2.2.2.2.2.2.2.2.2.2.1, r.2.2.2.2.2.2.2.2.2.2.2.2.2.2.2.2.2.2.2.2.2.2.2.2.2.2.2.2.2.2.2.2.2.1, r.2.2.2.2.2.2.2.2.2.2.2.2.2.2.2.2.2.2.2.2.2.2.2.2.2.2.2.2.2.2.2.2.2.2.1, ())) none, .cells ((cPair (cArr 3 6) (cPair (cArr 3 2) (cPair (cInt .i64) (cPair (cInt .i64) (cPair (cSl 3) (cK (.row 8 0) (cPair cBool (cPair (cArr 28 16) (cPair (cInt .i64) (cPair (cInt .i64) (cPair cBool (cPair cBool (cPair (cInt .i64) (cPair (cInt .i64) (cK (.row 9 0) (cPair (cSl 9) (cPair (cSl 3) (cPair cBool (cPair cBool (cPair cBool (cPair (cInt .i64) (cPair (cInt .i64) (cPair (cInt .i64) (cPair (cInt .i64) (cPair (cInt .i64) (cPair (cSl 9) (cPair (cInt .i64) (cPair cBool (cPair cBool (cPair cBool (cPair cBool (cPair cBool (cPair (cInt .i64) (cPair (cInt .i64) (cPair (cInt .i64) (cPair (cInt .i64) (cPair (cInt .i64) (cPair cBool (cPair cBool (cPair (cInt .i64) (cPair cBool (cUnit))))))))))))))))))))))))))))))))))))))))) : Cdc U ((List Int) × (List Int) × Int × Int × (List Int) × Bool × (List Page) × Int × Int × Bool × Bool × Int × Int × (List (List UInt8)) × (List Int) × Bool × Bool × Bool × Int × Int × Int × Int × Int × (List (List UInt8)) × Int × Bool × Bool × Bool × Bool × Bool × Int × Int × Int × Int × Int × Bool × Bool × Int × Bool × Unit)).enc (r.2.2.2.2.2.2.2.2.2.2.2.2.2.2.2.2.2.2.2.2.2.2.2.2.2.2.2.2.2.2.2.2.2.2.2.1, r.2.2.2.2.2.2.2.2.2.2.2.2.2.2.2.2.2.2.2.2.2.2.2.2.2.2.2.2.2.2.2.2.2.2.2.2.1, r.2.2.2.2.2.2.2.2.2.2.2.2.2.2.2.2.2.2.2.2.2.2.2.2.2.2.2.2.2.2.2.2.2.2.2.2.2.1, r.2.2.2.2.2.2.2.2.2.2.2.2.2.2.2.2.2.2.2.2.2.2.2.2.2.2.2.2.2.2.2.2.2.2.2.2.2.2.1, r.2.2.2.2.2.2.2.2.2.2.2.2.2.2.2.2.2.2.2.2.2.2.2.2.2.2.2.2.2.2.2.2.2.2.2.2.2.2.2.1, r.2.2.2.2.2.2.2.2.2.2.2.2.2.2.2.2.2.2.2.2.2.2.2.2.2.2.2.2.2.2.2.2.2.2.2.2.2.2.2.2.1, r.2.2.2.2.2.2.2.2.2.2.2.2.2.2.2.2.2.2.2.2.2.2.2.2.2.2.2.2.2.2.2.2.2.2.2.2.2.2.2.2.2.1, r.2.2.2.2.2.2.2.2.2.2.2.2.2.2.2.2.2.2.2.2.2.2.2.2.2.2.2.2.2.2.2.2.2.2.2.2.2.2.2.2.2.2.1, r.2.2.2.2.2.2.2.2.2.2.2.2.2.2.2.2.2.2.2.2.2.2.2.2.2.2.2.2.2.2.2.2.2.2.2.2.2.2.2.2.2.2.2.1, r.2.2.2.2.2.2.2.2.2.2.2.2.2.2.2.2.2.2.2.2.2.2.2.2.2.2.2.2.2.2.2.2.2.2.2.2.2.2.2.2.2.2.2.2.1, r.2.2.2.2.2.2.2.2.2.2.2.2.2.2.2.2.2.2.2.2.2.2.2.2.2.2.2.2.2.2.2.2.2.2.2.2.2.2.2.2.2.2.2.2.2.1, r.2.2.2.2.2.2.2.2.2.2.2.2.2.2.2.2.2.2.2.2.2.2.2.2.2.2.2.2.2.2.2.2.2.2.2.2.2.2.2.2.2.2.2.2.2.2.1, r.2.2.2.2.2.2.2.2.2.2.2.2.2.2.2.2.2.2.2.2.2.2.2.2.2.2.2.2.2.2.2.2.2.2.2.2.2.2.2.2.2.2.2.2.2.2.2.1, r.2.2.2.2.2.2.2.2.2.2.2.2.2.2.2.2.2.2.2.2.2.2.2.2.2.2.2.2.2.2.2.2.2.2.2.2.2.2.2.2.2.2.2.2.2.2.2.2.1, r.2.2.2.2.2.2.2.2.2.2.2.2.2.2.2.2.2.2.2.2.2.2.2.2.2.2.2.2.2.2.2.2.2.2.2.2.2.2.2.2.2.2.2.2.2.2.2.2.2.1, r.2.2.2.2.2.2.2.2.2.2.2.2.2.2.2.2.2.2.2.2.2.2.2.2.2.2.2.2.2.2.2.2.2.2.2.2.2.2.2.2.2.2.2.2.2.2.2.2.2.2.1, r.2.2.2.2.2.2.2.2.2.2.2.2.2.2.2.2.2.2.2.2.2.2.2.2.2.2.2.2.2.2.2.2.2.2.2.2.2.2.2.2.2.2.2.2.2.2.2.2.2.2.2.1, r.2.2.2.2.2.2.2.2.2.2.2.2.2.2.2.2.2.2.2.2.2.2.2.2.2.2.2.2.2.2.2.2.2.2.2.2.2.2.2.2.2.2.2.2.2.2.2.2.2.2.2.2.1, r.2.2.2.2.2.2.2.2.2.2.2.2.2.2.2.2.2.2.2.2.2.2.2.2.2.2.2.2.2.2.2.2.2.2.2.2.2.2.2.2.2.2.2.2.2.2.2.2.2.2.2.2.2.1, r.2.2.2.2.2.2.2.2.2.2.2.2.2.2.2.2.2.2.2.2.2.2.2.2.2.2.2.2.2.2.2.2.2.2.2.2.2.2.2.2.2.2.2.2.2.2.2.2.2.2.2.2.2.2.1, r.2.2.2.2.2.2.2.2.2.2.2.2.2.2.2.2.2.2.2.2.2.2.2.2.2.2.2.2.2.2.2.2.2.2.2.2.2.2.2.2.2.2.2.2.2.2.2.2.2.2.2.2.2.2.2.1, r.2.2.2.2.2.2.2.2.2.2.2.2.2.2.2.2.2.2.2.2.2.2.2.2.2.2.2.2.2.2.2.2.2.2.2.2.2.2.2.2.2.2.2.2.2.2.2.2.2.2.2.2.2.2.2.2.1, r.2.2.2.2.2.2.2.2.2.2.2.2.2.2.2.2.2.2.2.2.2.2.2.2.2.2.2.2.2.2.2.2.2.2.2.2.2.2.2.2.2.2.2.2.2.2.2.2.2.2.2.2.2.2.2.2.2.1, r.2.2.2.2.2.2.2.2.2.2.2.2.2.2.2.2.2.2.2.2.2.2.2.2.2.2.2.2.2.2.2.2.2.2.2.2.2.2.2.2.2.2.2.2.2.2.2.2.2.2.2.2.2.2.2.2.2.2.1, r.2.2.2.2.2.2.2.2.2.2.2.2.2.2.2.2.2.2.2.2.2.2.2.2.2.2.2.2.2.2.2.2.2.2.2.2.2.2.2.2.2.2.2.2.2.2.2.2.2.2.2.2.2.2.2.2.2.2.2.1, r.2.2.2.2.2.2.2.2.2.2.2.2.2.2.2.2.2.2.2.2.2.2.2.2.2.2.2.2.2.2.2.2.2.2.2.2.2.2.2.2.2.2.2.2.2.2.2.2.2.2.2.2.2.2.2.2.2.2.2.2.1, r.2.2.2.2.2.2.2.2.2.2.2.2.2.2.2.2.2.2.2.2.2.2.2.2.2.2.2.2.2.2.2.2.2.2.2.2.2.2.2.2.2.2.2.2.2.2.2.2.2.2.2.2.2.2.2.2.2.2.2.2.2.1, r.2.2.2.2.2.2.2.2.2.2.2.2.2.2.2.2.2.2.2.2.2.2.2.2.2.2.2.2.2.2.2.2.2.2.2.2.2.2.2.2.2.2.2.2.2.2.2.2.2.2.2.2.2.2.2.2.2.2.2.2.2.2.1, r.2.2.2.2.2.2.2.2.2.2.2.2.2.2.2.2.2.2.2.2.2.2.2.2.2.2.2.2.2.2.2.2.2.2.2.2.2.2.2.2.2.2.2.2.2.2.2.2.2.2.2.2.2.2.2.2.2.2.2.2.2.2.2.1, r.2.2.2.2.2.2.2.2.2.2.2.2.2.2.2.2.2.2.2.2.2.2.2.2.2.2.2.2.2.2.2.2.2.2.2.2.2.2.2.2.2.2.2.2.2.2.2.2.2.2.2.2.2.2.2.2.2.2.2.2.2.2.2.2.1, r.2.2.2.2.2.2.2.2.2.2.2.2.2.2.2.2.2.2.2.2.2.2.2.2.2.2.2.2.2.2.2.2.2.2.2.2.2.2.2.2.2.2.2.2.2.2.2.2.2.2.2.2.2.2.2.2.2.2.2.2.2.2.2.2.2.1, r.2.2.2.2.2.2.2.2.2.2.2.2.2.2.2.2.2.2.2.2.2.2.2.2.2.2.2.2.2.2.2.2.2.2.2.2.2.2.2.2.2.2.2.2.2.2.2.2.2.2.2.2.2.2.2.2.2.2.2.2.2.2.2.2.2.2.1, r.2.2.2.2.2.2.2.2.2.2.2.2.2.2.2.2.2.2.2.2.2.2.2.2.2.2.2.2.2.2.2.2.2.2.2.2.2.2.2.2.2.2.2.2.2.2.2.2.2.2.2.2.2.2.2.2.2.2.2.2.2.2.2.2.2.2.2.1, r.2.2.2.2.2.2.2.2.2.2.2.2.2.2.2.2.2.2.2.2.2.2.2.2.2.2.2.2.2.2.2.2.2.2.2.2.2.2.2.2.2.2.2.2.2.2.2.2.2.2.2.2.2.2.2.2.2.2.2.2.2.2.2.2.2.2.2.2.1, r.2.2.2.2.2.2.2.2.2.2.2.2.2.2.2.2.2.2.2.2.2.2.2.2.2.2.2.2.2.2.2.2.2.2.2.2.2.2.2.2.2.2.2.2.2.2.2.2.2.2.2.2.2.2.2.2.2.2.2.2.2.2.2.2.2.2.2.2.2.1, r.2.2.2.2.2.2.2.2.2.2.2.2.2.2.2.2.2.2.2.2.2.2.2.2.2.2.2.2.2.2.2.2.2.2.2.2.2.2.2.2.2.2.2.2.2.2.2.2.2.2.2.2.2.2.2.2.2.2.2.2.2.2.2.2.2.2.2.2.2.2.1, r.2.2.2.2.2.2.2.2.2.2.2.2.2.2.2.2.2.2.2.2.2.2.2.2.2.2.2.2.2.2.2.2.2.2.2.2.2.2.2.2.2.2.2.2.2.2.2.2.2.2.2.2.2.2.2.2.2.2.2.2.2.2.2.2.2.2.2.2.2.2.2.1, r.2.2.2.2.2.2.2.2.2.2.2.2.2.2.2.2.2.2.2.2.2.2.2.2.2.2.2.2.2.2.2.2.2.2.2.2.2.2.2.2.2.2.2.2.2.2.2.2.2.2.2.2.2.2.2.2.2.2.2.2.2.2.2.2.2.2.2.2.2.2.2.2.1, r.2.2.2.2.2.2.2.2.2.2.2.2.2.2.2.2.2.2.2.2.2.2.2.2.2.2.2.2.2.2.2.2.2.2.2.2.2.2.2.2.2.2.2.2.2.2.2.2.2.2.2.2.2.2.2.2.2.2.2.2.2.2.2.2.2.2.2.2.2.2.2.2.2.1, ())) none, .row 3 0 r.2.2.2.2.2.2.2.2.2.2.2.2.2.2.2.2.2.2.2.2.2.2.2.2.2.2.2.2.2.2.2.2.2.2.2.2.2.2.2.2.2.2.2.2.2.2.2.2.2.2.2.2.2.2.2.2.2.2.2.2.2.2.2.2.2.2.2.2.2.2.2.2.2.2.1, .row 3 0 r.2.2.2.2.2.2.2.2.2.2.2.2.2.2.2.2.2.2.2.2.2.2.2.2.2.2.2.2.2.2.2.2.2.2.2.2.2.2.2.2.2.2.2.2.2.2.2.2.2.2.2.2.2.2.2.2.2.2.2.2.2.2.2.2.2.2.2.2.2.2.2.2.2.2.2.1, .row 55 0 r.2.2.2.2.2.2.2.2.2.2.2.2.2.2.2.2.2.2.2.2.2.2.2.2.2.2.2.2.2.2.2.2.2.2.2.2.2.2.2.2.2.2.2.2.2.2.2.2.2.2.2.2.2.2.2.2.2.2.2.2.2.2.2.2.2.2.2.2.2.2.2.2.2.2.2.2.1, .row 9 0 r.2.2.2.2.2.2.2.2.2.2.2.2.2.2.2.2.2.2.2.2.2.2.2.2.2.2.2.2.2.2.2.2.2.2.2.2.2.2.2.2.2.2.2.2.2.2.2.2.2.2.2.2.2.2.2.2.2.2.2.2.2.2.2.2.2.2.2.2.2.2.2.2.2.2.2.2.2.1, .row 3 0 r.2.2.2.2.2.2.2.2.2.2.2.2.2.2.2.2.2.2.2.2.2.2.2.2.2.2.2.2.2.2.2.2.2.2.2.2.2.2.2.2.2.2.2.2.2.2.2.2.2.2.2.2.2.2.2.2.2.2.2.2.2.2.2.2.2.2.2.2.2.2.2.2.2.2.2.2.2.2.1, .row 9 0 r.2.2.2.2.2.2.2.2.2.2.2.2.2.2.2.2.2.2.2.2.2.2.2.2.2.2.2.2.2.2.2.2.2.2.2.2.2.2.2.2.2.2.2.2.2.2.2.2.2.2.2.2.2.2.2.2.2.2.2.2.2.2.2.2.2.2.2.2.2.2.2.2.2.2.2.2.2.2.2.1, .row 3 0 r.2.2.2.2.2.2.2.2.2.2.2.2.2.2.2.2.2.2.2.2.2.2.2.2.2.2.2.2.2.2.2.2.2.2.2.2.2.2.2.2.2.2.2.2.2.2.2.2.2.2.2.2.2.2.2.2.2.2.2.2.2.2.2.2.2.2.2.2.2.2.2.2.2.2.2.2.2.2.2.2.1, .row 55 0 r.2.2.2.2.2.2.2.2.2.2.2.2.2.2.2.2.2.2.2.2.2.2.2.2.2.2.2.2.2.2.2.2.2.2.2.2.2.2.2.2.2.2.2.2.2.2.2.2.2.2.2.2.2.2.2.2.2.2.2.2.2.2.2.2.2.2.2.2.2.2.2.2.2.2.2.2.2.2.2.2.2] })
noncomputable def xTref20_New_0 (r : ((List Int) × (List Int) × Int × Int × Bool × (List Page) × Int × Int × Bool × Bool × Int × Int × Bool × Bool × Bool × Int × Int × Int × Int × Int × Int × Bool × Bool × Bool × Bool × Bool × Int × Int × Int × Int × Int × Bool × Bool × Int × Bool × (List Int) × (List Int) × Int × Int × (List Int) × Bool × (List Page) × Int × Int × Bool × Bool × Int × Int × (List (List UInt8)) × (List Int) × Bool × Bool × Bool × Int × Int × Int × Int × Int × (List (List UInt8)) × Int × Bool × Bool × Bool × Bool × Bool × Int × Int × Int × Int × Int × Bool × Bool × Int × Bool × (List Int) × (List Int) × (List Line) × (List (List UInt8)) × (List Int) × (List (List UInt8)) × (List Int) × (List Line))) : Tree (Ex × St U) := .leaf (xSref20_New_0 r)
noncomputable def href20_New_0 : Hd := { keep := [1, 6, 11, 12], xkeep := [6, 7, 11], own := true }
noncomputable def Eref20_New : Env U := { P := Tryz.prog, cd := cd, fns := fns63, lps := (addL 0 href20_New_0 (mkLoop tAref20_New_0 tBref20_New_0 Pref20_New_0 (Lref20_New_0 none) xTref20_New_0) noL), frz := fun _r => false, nt := 64, n0 := 0 }
noncomputable def Bref20_New_0 : Code := (loopAt (Tryz.f25.body.getD .skip) 0 0).getD .skip
theorem roundref20_New_0 (s : Sref20_New_0) : round Eref20_New href20_New_0 Bref20_New_0 0 (eSref20_New_0 s) = (Wref20_New_0 s).map (sumE eSref20_New_0 xSref20_New_0) := by kernel_rfl
theorem lpref20_New_0 : LpOk Eref20_New Bref20_New_0 0 := mkLoop_ok (A := tAref20_New_0) (B := tBref20_New_0) (f := Pref20_New_0) (L := Lref20_New_0 none) (tO_ok (cPair_ok (cInt_ok .i64) cUnit_ok) (tO_ok (cK_ok cUnit_ok) (tO_ok (cK_ok cUnit_ok) (tO_ok (cPair_ok (cInt_ok .i64) cUnit_ok) tNil_ok)))) (bC_ok (cPair_ok (cArr_ok 3 6) (cPair_ok (cArr_ok 3 2) (cPair_ok (cInt_ok .i64) (cPair_ok (cInt_ok .i64) (cK_ok (cK_ok (cPair_ok cBool_ok (cPair_ok (cArr_ok 28 16) (cPair_ok (cInt_ok .i64) (cPair_ok (cInt_ok .i64) (cPair_ok cBool_ok (cPair_ok cBool_ok (cPair_ok (cInt_ok .i64) (cPair_ok (cInt_ok .i64) (cK_ok (cK_ok (cK_ok (cPair_ok cBool_ok (cPair_ok cBool_ok (cPair_ok cBool_ok (cPair_ok (cInt_ok .i64) (cPair_ok (cInt_ok .i64) (cPair_ok (cInt_ok .i64) (cPair_ok (cInt_ok .i64) (cPair_ok (cInt_ok .i64) (cK_ok (cPair_ok (cInt_ok .i64) (cPair_ok cBool_ok (cPair_ok cBool_ok (cPair_ok cBool_ok (cPair_ok cBool_ok (cPair_ok cBool_ok (cPair_ok (cInt_ok .i64) (cPair_ok (cInt_ok .i64) (cPair_ok (cInt_ok .i64) (cPair_ok (cInt_ok .i64) (cPair_ok (cInt_ok .i64) (cPair_ok cBool_ok (cPair_ok cBool_ok (cPair_ok (cInt_ok .i64) (cPair_ok cBool_ok cUnit_ok))))))))))))))))))))))))))))))))))))))))) (bC_ok (cPair_ok (cArr_ok 3 6) (cPair_ok (cArr_ok 3 2) (cPair_ok (cInt_ok .i64) (cPair_ok (cInt_ok .i64) (cPair_ok (cSl_ok 3) (cK_ok (cPair_ok cBool_ok (cPair_ok (cArr_ok 28 16) (cPair_ok (cInt_ok .i64) (cPair_ok (cInt_ok .i64) (cPair_ok cBool_ok (cPair_ok cBool_ok (cPair_ok (cInt_ok .i64) (cPair_ok (cInt_ok .i64) (cK_ok (cPair_ok (cSl_ok 9) (cPair_ok (cSl_ok 3) (cPair_ok cBool_ok (cPair_ok cBool_ok (cPair_ok cBool_ok (cPair_ok (cInt_ok .i64) (cPair_ok (cInt_ok .i64) (cPair_ok (cInt_ok .i64) (cPair_ok (cInt_ok .i64) (cPair_ok (cInt_ok .i64) (cPair_ok (cSl_ok 9) (cPair_ok (cInt_ok .i64) (cPair_ok cBool_ok (cPair_ok cBool_ok (cPair_ok cBool_ok (cPair_ok cBool_ok (cPair_ok cBool_ok (cPair_ok (cInt_ok .i64) (cPair_ok (cInt_ok .i64) (cPair_ok (cInt_ok .i64) (cPair_ok (cInt_ok .i64) (cPair_ok (cInt_ok .i64) (cPair_ok cBool_ok (cPair_ok cBool_ok (cPair_ok (cInt_ok .i64) (cPair_ok cBool_ok cUnit_ok))))))))))))))))))))))))))))))))))))))))) (bRv_ok (bRv_ok (bRv_ok (bRv_ok (bRv_ok (bRv_ok (bRv_ok (bRv_ok bNil_ok)))))))))) (enc := eSref20_New_0) (out := xTref20_New_0) (outS := xSref20_New_0) (step := Wref20_New_0) (fun _ => rfl) (fun _ _ => by kernel_rfl) (by kernel_rfl) (fun _ => rfl) roundref20_New_0
theorem runref20_New (x : Int × Int × Int × Unit) (g : Unit) : execF Eref20_New Tryz.f25 (Aref20_New.enc x) (bNil.enc g) = (Tref20_New none x.1 x.2.1 x.2.2.1).map Rref20_New := by kernel_rfl
theorem okref20_New : FnOk Tryz.prog cd 25 Sref20_New := mk_ok (E := Eref20_New) cd_ok fns63_ok Tryz.func25 (by kernel_rfl) (loops_of (addL_ok lpref20_New_0 noL_ok)) (aO_ok (cInt_ok .i64) (aO_ok (cInt_ok .i64) (aO_ok (cInt_ok .i64) (aNil_ok)))) bNil_ok (T := fun x _ => Tref20_New none x.1 x.2.1 x.2.2.1) (fun _ _ => rfl) runref20_New
noncomputable def fns25 := addF 25 true Sref20_New fns63
theorem fns25_ok : ∀ f q t, fns25 f = some (q, t) → FnOk Tryz.prog cd f t := addF_ok okref20_New fns63_ok
/-- emulator/memory.misses -/
noncomputable def Tmemory_misses (x0 : (List Int)) (x1 : Int) (x2 : Bool) : Tree Bool :=
  .ite (!x2)
    (.ite (decide ((2 : Int) = 0))
      .fail
      (.ite (!decide (((x1).tmod (2 : Int)) = (0 : Int)))
        (.leaf (true))
        (.ite (decide (x1 < (0 : Int)))
          (.leaf (true))
          (.leaf (decide ((IntKind.wrap .i64 ((2 : Int) * (x0.length : Int))) ≤ x1))))))
    (.ite (decide (x1 < (0 : Int)))
      (.leaf (true))
      (.leaf (decide ((IntKind.wrap .i64 ((2 : Int) * (x0.length : Int))) ≤ x1))))
noncomputable def memory_misses (x0 : (List Int)) (x1 : Int) (x2 : Bool) : Option Bool := (Tmemory_misses x0 x1 x2).run
noncomputable def Amemory_misses : Arg U ((List Int) × Int × Bool × Unit) := aO (cSl 3) (aO (cInt .i64) (aO cBool (aNil)))
noncomputable def Rmemory_misses (r : Bool) : List (V U) × List (Blk U) := ([vO cBool r], [])
noncomputable def Smemory_misses : List (V U) → List (Blk U) → Option (FnOut U) := mkSpec Amemory_misses bNil (fun x _ => memory_misses x.1 x.2.1 x.2.2.1) Rmemory_misses
noncomputable def Ememory_misses : Env U := { P := Tryz.prog, cd := cd, fns := fns25, lps := noL, frz := fun _r => false, nt := 25, n0 := 0 }
theorem runmemory_misses (x : (List Int) × Int × Bool × Unit) (g : Unit) : execF Ememory_misses Tryz.f98 (Amemory_misses.enc x) (bNil.enc g) = (Tmemory_misses x.1 x.2.1 x.2.2.1).map Rmemory_misses := by kernel_rfl
theorem okmemory_misses : FnOk Tryz.prog cd 98 Smemory_misses := mk_ok (E := Ememory_misses) cd_ok fns25_ok Tryz.func98 (by kernel_rfl) (noLoops_body (by kernel_rfl)) (aO_ok (cSl_ok 3) (aO_ok (cInt_ok .i64) (aO_ok cBool_ok (aNil_ok)))) bNil_ok (T := fun x _ => Tmemory_misses x.1 x.2.1 x.2.2.1) (fun _ _ => rfl) runmemory_misses
noncomputable def fns98 := addF 98 true Smemory_misses fns25
theorem fns98_ok : ∀ f q t, fns98 f = some (q, t) → FnOk Tryz.prog cd f t := addF_ok okmemory_misses fns25_ok
/-- emulator/memory.copied -/
noncomputable def Tmemory_copied (x0 : (List Int)) : Tree (List Int) :=
  .ite (decide ((x0.length : Int) = (x0.length : Int)))
    (.ite (decide (0 ≤ (x0.length : Int)))
      (.ite (decide ((8 : Int) * (x0.length : Int) ≤ 281474976710656))
        (.leaf (x0.take (List.replicate ((x0.length : Int)).toNat (0 : Int)).length ++ (List.replicate ((x0.length : Int)).toNat (0 : Int)).drop x0.length))
        .fail)
      .fail)
    .fail
noncomputable def memory_copied (x0 : (List Int)) : Option (List Int) := (Tmemory_copied x0).run
noncomputable def Amemory_copied : Arg U ((List Int) × Unit) := aO (cSl 3) (aNil)
noncomputable def Gmemory_copied : Bls U (Unit) := bNil
noncomputable def Rmemory_copied (_x : (List Int) × Unit) (_g : Unit) (r : (List Int)) : List (V U) × List (Blk U) := ([vO (cK (.row 0 0) (cUnit)) (())], [.row 3 0 r])
noncomputable def Smemory_copied : List (V U) → List (Blk U) → Option (FnOut U) := mkSpecG Amemory_copied Gmemory_copied (fun x _ => memory_copied x.1) Rmemory_copied
noncomputable def Ememory_copied : Env U := { P := Tryz.prog, cd := cd, fns := fns98, lps := noL, frz := fun _r => false, nt := 11, n0 := 0 }
theorem rnmemory_copied (x0 : (List Int)) : execX true Ememory_copied Tryz.f99 (Amemory_copied.enc (x0, ())) (Gmemory_copied.enc ()) = (Tmemory_copied x0).map (Rmemory_copied (x0, ()) ()) := by kernel_rfl
theorem runmemory_copied : ∀ (x : (List Int) × Unit) (g : Unit), execX true Ememory_copied Tryz.f99 (Amemory_copied.enc x) (Gmemory_copied.enc g) = (Tmemory_copied x.1).map (Rmemory_copied x g)
  | (x0, ()), () => rnmemory_copied x0
theorem okmemory_copied : FnOk Tryz.prog cd 99 Smemory_copied := mk_okG (E := Ememory_copied) (A := Amemory_copied) (B := Gmemory_copied) true cd_ok fns98_ok Tryz.func99 (by kernel_rfl) (noLoops_body (by kernel_rfl)) (aO_ok (cSl_ok 3) (aNil_ok)) bNil_ok (T := fun (x : (List Int) × Unit) (_ : Unit) => Tmemory_copied x.1) (fun _ _ => rfl) runmemory_copied
end Go.Proofs.YtfdndagnolbnhaaGreat
namespace Go.Proofs
shelf_lay_g SlLaysE0.n41 Slgn 41 at Tryz 101 as Tryz.lays101
end Go.Proofs
namespace Go.Proofs.YtfdndagnolbnhaaGreat
open Go Go.Ab
theorem okslices_Clone_int_int : FnOk Tryz.prog cd 101 (cloneSpec 3 8) := clone_ok2 cd_ok Tryz.lays101 Tryz.func101 (by kernel_rfl) (by kernel_rfl) rfl rfl (by kernel_rfl)
/-- emulator/memory.Write$1 -/
noncomputable def Tmemory_Write_1 (x0 : Int) (g0 : Int) : Tree Bool :=
  .leaf (decide (x0 = (IntKind.wrap .i64 (((BitVec.ofInt 64 g0 &&& ~~~BitVec.ofInt 64 (1 : Int)).toNat : Int)))))
noncomputable def memory_Write_1 (x0 : Int) (g0 : Int) : Option Bool := (Tmemory_Write_1 x0 g0).run
noncomputable def Amemory_Write_1 : Arg U (Int × Unit) := aO (cInt .i64) (aP 0 0 (aNil))
noncomputable def Gmemory_Write_1 : Bls U (Int × Unit) := bC (cInt .i64) (bNil)
noncomputable def Rmemory_Write_1 (_x : Int × Unit) (g : Int × Unit) (r : Bool) : List (V U) × List (Blk U) := ([vO (cPair cBool (cUnit)) (r, ())], [.cells (((cInt .i64) : Cdc U Int).enc g.1) none])
noncomputable def Smemory_Write_1 : List (V U) → List (Blk U) → Option (FnOut U) := mkSpecG Amemory_Write_1 Gmemory_Write_1 (fun x g => memory_Write_1 x.1 g.1) Rmemory_Write_1
noncomputable def Ememory_Write_1 : Env U := { P := Tryz.prog, cd := cd, fns := fns98, lps := noL, frz := fun _r => false, nt := 8, n0 := 1 }
theorem rnmemory_Write_1 (x0 : Int) (g0 : Int) : execX false Ememory_Write_1 Tryz.f102 (Amemory_Write_1.enc (x0, ())) (Gmemory_Write_1.enc (g0, ())) = (Tmemory_Write_1 x0 g0).map (Rmemory_Write_1 (x0, ()) (g0, ())) := by kernel_rfl
theorem runmemory_Write_1 : ∀ (x : Int × Unit) (g : Int × Unit), execX false Ememory_Write_1 Tryz.f102 (Amemory_Write_1.enc x) (Gmemory_Write_1.enc g) = (Tmemory_Write_1 x.1 g.1).map (Rmemory_Write_1 x g)
  | (x0, ()), (g0, ()) => rnmemory_Write_1 x0 g0
theorem okmemory_Write_1 : FnOk Tryz.prog cd 102 Smemory_Write_1 := mk_okG (E := Ememory_Write_1) (A := Amemory_Write_1) (B := Gmemory_Write_1) false cd_ok fns98_ok Tryz.func102 (by kernel_rfl) (noLoops_body (by kernel_rfl)) (aO_ok (cInt_ok .i64) (aP_ok (aNil_ok))) (bC_ok (cInt_ok .i64) bNil_ok) (T := fun (x : Int × Unit) (g : Int × Unit) => Tmemory_Write_1 x.1 g.1) (fun _ _ => rfl) runmemory_Write_1
/-- slices.IndexFunc[[]int,int] -/
structure Sslices_IndexFunc_int_int_0 where
  t7 : Int
  t8 : Int
noncomputable def Wslices_IndexFunc_int_int_0 (kk : ((List Int) × Int)) (s : Sslices_IndexFunc_int_int_0) : Tree (Sslices_IndexFunc_int_int_0 ⊕ (Int ⊕ Unit)) :=
  .ite (decide (s.t8 < s.t7))
    (.ite (decide (0 ≤ s.t8))
      (.ite (decide (s.t8 < (kk.1.length : Int)))
        (.opt Int (kk.1[(s.t8).toNat]?) fun y87 =>
          .opt Bool (memory_Write_1 y87 kk.2) fun r88 =>
            .ite (r88)
              (.leaf (.inr (.inl s.t8)))
              (.leaf (.inl (Sslices_IndexFunc_int_int_0.mk s.t7 (IntKind.wrap .i64 (s.t8 + (1 : Int)))))))
        .fail)
      .fail)
    (.leaf (.inr (.inr ())))
noncomputable def Lslices_IndexFunc_int_int_0 (q : Option Nat) (kk : ((List Int) × Int)) (s : Sslices_IndexFunc_int_int_0) : Option (Int ⊕ Unit) := limQ q (fun s => (Wslices_IndexFunc_int_int_0 kk s).run) s
theorem leLslices_IndexFunc_int_int_0 (k : Nat) (kk : ((List Int) × Int)) (s : Sslices_IndexFunc_int_int_0) : Le (Lslices_IndexFunc_int_int_0 (some k) kk s) (Lslices_IndexFunc_int_int_0 none kk s) := limQ_le (fun _ => Le.rfl) s
noncomputable def Tslices_IndexFunc_int_int (q : Option Nat) (g0 : (List Int)) (g1 : Int) : Tree Int :=
  .opt (Int ⊕ Unit) (Lslices_IndexFunc_int_int_0 q (g0, g1) (Sslices_IndexFunc_int_int_0.mk (g0.length : Int) (0 : Int))) fun l89 =>
    .ite (l89.isLeft)
      (.opt Int (l89.getLeft?) fun a90 =>
        .leaf (a90))
      (.opt Unit (l89.getRight?) fun b91 =>
        .leaf ((-1 : Int)))
noncomputable def slices_IndexFunc_int_int (q : Option Nat) (g0 : (List Int)) (g1 : Int) : Option Int := (Tslices_IndexFunc_int_int q g0 g1).run
theorem leslices_IndexFunc_int_int (k : Nat) (g0 : (List Int)) (g1 : Int) : Le (slices_IndexFunc_int_int (some k) g0 g1) (slices_IndexFunc_int_int none g0 g1) := (TLe.opt (leLslices_IndexFunc_int_int_0 k _ _) fun _ => TLe.rfl)
noncomputable def Aslices_IndexFunc_int_int : Arg U (Unit) := aR 0 (aF 102 [(.ptr 1 0)] (aNil))
noncomputable def Gslices_IndexFunc_int_int : Bls U ((List Int) × Int × Unit) := bR 3 (bC (cInt .i64) (bNil))
noncomputable def Rslices_IndexFunc_int_int (_x : Unit) (g : (List Int) × Int × Unit) (r : Int) : List (V U) × List (Blk U) := ([vO (cPair (cInt .i64) (cUnit)) (r, ())], [.row 3 0 g.1, .cells (((cInt .i64) : Cdc U Int).enc g.2.1) none])
noncomputable def Sslices_IndexFunc_int_int : List (V U) → List (Blk U) → Option (FnOut U) := mkSpecG Aslices_IndexFunc_int_int Gslices_IndexFunc_int_int (fun x g => slices_IndexFunc_int_int none g.1 g.2.1) Rslices_IndexFunc_int_int
noncomputable def Pslices_IndexFunc_int_int_0 (x : (Unit) × (Unit) × (Int × Unit) × (Int × Unit) × Unit) (g : (List Int) × (Int × Unit) × Unit) : ((List Int) × Int) × Sslices_IndexFunc_int_int_0 := ((g.1, g.2.1.1), Sslices_IndexFunc_int_int_0.mk x.2.2.1.1 x.2.2.2.1.1)
noncomputable def tAslices_IndexFunc_int_int_0 : Tms U ((Unit) × (Unit) × (Int × Unit) × (Int × Unit) × Unit) := tO 0 (cK (.row 0 0) (cUnit)) (tO 1 (cK2 (.fn 102 [] [(.ptr 1 0)]) (cUnit)) (tO 7 (cPair (cInt .i64) (cUnit)) (tO 8 (cPair (cInt .i64) (cUnit)) (tNil))))
noncomputable def tBslices_IndexFunc_int_int_0 : Bls U ((List Int) × (Int × Unit) × Unit) := bRv 3 0 (bC (cPair (cInt .i64) (cUnit)) (bNil))
noncomputable def eSslices_IndexFunc_int_int_0 (kk : ((List Int) × Int)) (s : Sslices_IndexFunc_int_int_0) : St U := { tm := [(0, .v (vO (cK (.row 0 0) (cUnit)) (()))), (1, .v (vO (cK2 (.fn 102 [] [(.ptr 1 0)]) (cUnit)) (()))), (7, .v (vO (cPair (cInt .i64) (cUnit)) (s.t7, ()))), (8, .v (vO (cPair (cInt .i64) (cUnit)) (s.t8, ())))], hp := [.row 3 0 kk.1, .cells ((cPair (cInt .i64) (cUnit) : Cdc U (Int × Unit)).enc (kk.2, ())) none] }
noncomputable def xSslices_IndexFunc_int_int_0 (kk : ((List Int) × Int)) : (Int ⊕ Unit) → Ex × St U
  | .inl r => (.ret, { tm := [(4, .v (vO (cPair (cInt .i64) (cUnit)) (r, ())))], hp := [.row 3 0 kk.1, .cells ((cPair (cInt .i64) (cUnit) : Cdc U (Int × Unit)).enc (kk.2, ())) none] })
  | .inr r => (.exit 0, { tm := [], hp := [.row 3 0 kk.1, .cells ((cPair (cInt .i64) (cUnit) : Cdc U (Int × Unit)).enc (kk.2, ())) none] })
noncomputable def xTslices_IndexFunc_int_int_0 (kk : ((List Int) × Int)) (y : (Int ⊕ Unit)) : Tree (Ex × St U) := .ite y.isLeft (.opt Int y.getLeft? fun r => .leaf (.ret, { tm := [(4, .v (vO (cPair (cInt .i64) (cUnit)) (r, ())))], hp := [.row 3 0 kk.1, .cells ((cPair (cInt .i64) (cUnit) : Cdc U (Int × Unit)).enc (kk.2, ())) none] })) (.opt Unit y.getRight? fun r => .leaf (.exit 0, { tm := [], hp := [.row 3 0 kk.1, .cells ((cPair (cInt .i64) (cUnit) : Cdc U (Int × Unit)).enc (kk.2, ())) none] }))
noncomputable def hslices_IndexFunc_int_int_0 : Hd := { keep := [0, 1, 7, 8], xkeep := [4], own := false }
noncomputable def Eslices_IndexFunc_int_int : Env U := { P := Tryz.prog, cd := cd, fns := (addF 102 false (Smemory_Write_1) fns98), lps := (addL 0 hslices_IndexFunc_int_int_0 (mkLoopK tAslices_IndexFunc_int_int_0 tBslices_IndexFunc_int_int_0 Pslices_IndexFunc_int_int_0 (Lslices_IndexFunc_int_int_0 none) xTslices_IndexFunc_int_int_0) noL), frz := fun _r => false, nt := 19, n0 := 2 }
noncomputable def Bslices_IndexFunc_int_int_0 : Code := (loopAt (Tryz.f160.body.getD .skip) 0 0).getD .skip
theorem roundslices_IndexFunc_int_int_0 (kk : ((List Int) × Int)) (s : Sslices_IndexFunc_int_int_0) : round Eslices_IndexFunc_int_int hslices_IndexFunc_int_int_0 Bslices_IndexFunc_int_int_0 0 (eSslices_IndexFunc_int_int_0 kk s) = (Wslices_IndexFunc_int_int_0 kk s).map (sumE (eSslices_IndexFunc_int_int_0 kk) (xSslices_IndexFunc_int_int_0 kk)) := by kernel_rfl
theorem lpslices_IndexFunc_int_int_0 : LpOk Eslices_IndexFunc_int_int Bslices_IndexFunc_int_int_0 0 := mkLoopK_ok (A := tAslices_IndexFunc_int_int_0) (B := tBslices_IndexFunc_int_int_0) (f := Pslices_IndexFunc_int_int_0) (L := Lslices_IndexFunc_int_int_0 none) (tO_ok (cK_ok cUnit_ok) (tO_ok (cK2_ok cUnit_ok) (tO_ok (cPair_ok (cInt_ok .i64) cUnit_ok) (tO_ok (cPair_ok (cInt_ok .i64) cUnit_ok) tNil_ok)))) (bRv_ok (bC_ok (cPair_ok (cInt_ok .i64) cUnit_ok) bNil_ok)) (enc := eSslices_IndexFunc_int_int_0) (out := xTslices_IndexFunc_int_int_0) (outS := xSslices_IndexFunc_int_int_0) (step := Wslices_IndexFunc_int_int_0) (fun _ _ => rfl) (fun _ _ => by kernel_rfl) (by kernel_rfl) (fun _ b => by cases b <;> rfl) roundslices_IndexFunc_int_int_0
theorem rnslices_IndexFunc_int_int (g0 : (List Int)) (g1 : Int) : execX false Eslices_IndexFunc_int_int Tryz.f160 (Aslices_IndexFunc_int_int.enc ()) (Gslices_IndexFunc_int_int.enc (g0, g1, ())) = (Tslices_IndexFunc_int_int none g0 g1).map (Rslices_IndexFunc_int_int () (g0, g1, ())) := by kernel_rfl
theorem runslices_IndexFunc_int_int : ∀ (x : Unit) (g : (List Int) × Int × Unit), execX false Eslices_IndexFunc_int_int Tryz.f160 (Aslices_IndexFunc_int_int.enc x) (Gslices_IndexFunc_int_int.enc g) = (Tslices_IndexFunc_int_int none g.1 g.2.1).map (Rslices_IndexFunc_int_int x g)
  | (), (g0, g1, ()) => rnslices_IndexFunc_int_int g0 g1
theorem okslices_IndexFunc_int_int : FnOk Tryz.prog cd 160 Sslices_IndexFunc_int_int := mk_okG (E := Eslices_IndexFunc_int_int) (A := Aslices_IndexFunc_int_int) (B := Gslices_IndexFunc_int_int) false cd_ok (addF_ok okmemory_Write_1 fns98_ok) Tryz.func160 (by kernel_rfl) (loops_of (addL_ok lpslices_IndexFunc_int_int_0 noL_ok)) (aR_ok (aF_ok (aNil_ok))) (bR_ok (bC_ok (cInt_ok .i64) bNil_ok)) (T := fun (x : Unit) (g : (List Int) × Int × Unit) => Tslices_IndexFunc_int_int none g.1 g.2.1) (fun _ _ => rfl) runslices_IndexFunc_int_int
/-- slices.DeleteFunc[[]int,int] -/
structure Sslices_DeleteFunc_int_int_0 where
  t5 : Int
  t6 : Int
  b0 : (List Int)
noncomputable def Wslices_DeleteFunc_int_int_0 (kk : Int) (s : Sslices_DeleteFunc_int_int_0) : Tree (Sslices_DeleteFunc_int_int_0 ⊕ (Int × (List Int))) :=
  .ite (decide (s.t6 < (s.b0.length : Int)))
    (.ite (decide (0 ≤ s.t6))
      (.ite (decide (s.t6 < (s.b0.length : Int)))
        (.opt Int (s.b0[(s.t6).toNat]?) fun y93 =>
          .opt Bool (memory_Write_1 y93 kk) fun r94 =>
            .ite (!r94)
              (.ite (decide (0 ≤ s.t5))
                (.ite (decide (s.t5 < (s.b0.length : Int)))
                  (.opt Int (s.b0[(s.t5).toNat]?) fun y95 =>
                    .leaf (.inl (Sslices_DeleteFunc_int_int_0.mk (IntKind.wrap .i64 (s.t5 + (1 : Int))) (IntKind.wrap .i64 (s.t6 + (1 : Int))) (s.b0.set ((s.t5).toNat) y93))))
                  .fail)
                .fail)
              (.leaf (.inl (Sslices_DeleteFunc_int_int_0.mk s.t5 (IntKind.wrap .i64 (s.t6 + (1 : Int))) s.b0))))
        .fail)
      .fail)
    (.leaf (.inr (s.t5, s.b0)))
noncomputable def Lslices_DeleteFunc_int_int_0 (q : Option Nat) (kk : Int) (s : Sslices_DeleteFunc_int_int_0) : Option (Int × (List Int)) := limQ q (fun s => (Wslices_DeleteFunc_int_int_0 kk s).run) s
theorem leLslices_DeleteFunc_int_int_0 (k : Nat) (kk : Int) (s : Sslices_DeleteFunc_int_int_0) : Le (Lslices_DeleteFunc_int_int_0 (some k) kk s) (Lslices_DeleteFunc_int_int_0 none kk s) := limQ_le (fun _ => Le.rfl) s
noncomputable def Tslices_DeleteFunc_int_int (q : Option Nat) (g0 : (List Int)) (g1 : Int) : Tree (Unit ⊕ ((Nat × Nat) × (List Int))) :=
  .opt Int (slices_IndexFunc_int_int q g0 g1) fun r92 =>
    .ite (decide (r92 = (-1 : Int)))
      (.leaf (.inl ()))
      (.opt (Int × (List Int)) (Lslices_DeleteFunc_int_int_0 q g1 (Sslices_DeleteFunc_int_int_0.mk r92 (IntKind.wrap .i64 (r92 + (1 : Int))) g0)) fun l96 =>
        .ite (decide (0 ≤ l96.1))
          (.ite (decide (l96.1 ≤ ((l96.2.length : Nat) : Int)))
            (.ite (decide (0 ≤ l96.1))
              (.ite (decide (l96.1 ≤ (((l96.2.take ((l96.1).toNat) ++ List.replicate (l96.2.length - (l96.1).toNat) (0 : Int) ++ l96.2.drop ((l96.1).toNat + (l96.2.length - (l96.1).toNat))).length : Nat) : Int)))
                (.leaf (.inr ((0, (l96.1).toNat - 0), l96.2.take ((l96.1).toNat) ++ List.replicate (l96.2.length - (l96.1).toNat) (0 : Int) ++ l96.2.drop ((l96.1).toNat + (l96.2.length - (l96.1).toNat)))))
                .fail)
              .fail)
            .fail)
          .fail)
noncomputable def slices_DeleteFunc_int_int (q : Option Nat) (g0 : (List Int)) (g1 : Int) : Option (Unit ⊕ ((Nat × Nat) × (List Int))) := (Tslices_DeleteFunc_int_int q g0 g1).run
theorem leslices_DeleteFunc_int_int (k : Nat) (g0 : (List Int)) (g1 : Int) : Le (slices_DeleteFunc_int_int (some k) g0 g1) (slices_DeleteFunc_int_int none g0 g1) := (TLe.opt (leslices_IndexFunc_int_int k _ _) fun _ => (TLe.ite TLe.rfl (TLe.opt (leLslices_DeleteFunc_int_int_0 k _ _) fun _ => TLe.rfl)))
noncomputable def Aslices_DeleteFunc_int_int : Arg U (Unit) := aR 0 (aF 102 [(.ptr 1 0)] (aNil))
noncomputable def Gslices_DeleteFunc_int_int : Bls U ((List Int) × Int × Unit) := bR 3 (bC (cInt .i64) (bNil))
noncomputable def Rslices_DeleteFunc_int_int (_x : Unit) (g : (List Int) × Int × Unit) (_r : Unit) : List (V U) × List (Blk U) := ([vO (cK (.row 0 0) (cUnit)) (())], [.row 3 0 g.1, .cells (((cInt .i64) : Cdc U Int).enc g.2.1) none])
noncomputable def Rslices_DeleteFunc_int_intb (_x : Unit) (g : (List Int) × Int × Unit) (r : ((Nat × Nat) × (List Int))) : List (V U) × List (Blk U) := ([vO (cPair (cOwn 0 0) (cUnit)) (r.1, ())], [.row 3 0 r.2, .cells (((cInt .i64) : Cdc U Int).enc g.2.1) none])
noncomputable def Sslices_DeleteFunc_int_int : List (V U) → List (Blk U) → Option (FnOut U) := mkSpecG2 Aslices_DeleteFunc_int_int Gslices_DeleteFunc_int_int (fun x g => slices_DeleteFunc_int_int none g.1 g.2.1) Rslices_DeleteFunc_int_int Rslices_DeleteFunc_int_intb
noncomputable def Pslices_DeleteFunc_int_int_0 (x : (Unit) × (Unit) × (Int × Unit) × (Int × Unit) × Unit) (g : (List Int) × (Int × Unit) × Unit) : Int × Sslices_DeleteFunc_int_int_0 := (g.2.1.1, Sslices_DeleteFunc_int_int_0.mk x.2.2.1.1 x.2.2.2.1.1 g.1)
noncomputable def tAslices_DeleteFunc_int_int_0 : Tms U ((Unit) × (Unit) × (Int × Unit) × (Int × Unit) × Unit) := tO 0 (cK (.row 0 0) (cUnit)) (tO 1 (cK2 (.fn 102 [] [(.ptr 1 0)]) (cUnit)) (tO 5 (cPair (cInt .i64) (cUnit)) (tO 6 (cPair (cInt .i64) (cUnit)) (tNil))))
noncomputable def tBslices_DeleteFunc_int_int_0 : Bls U ((List Int) × (Int × Unit) × Unit) := bRv 3 0 (bC (cPair (cInt .i64) (cUnit)) (bNil))
noncomputable def eSslices_DeleteFunc_int_int_0 (kk : Int) (s : Sslices_DeleteFunc_int_int_0) : St U := { tm := [(0, .v (vO (cK (.row 0 0) (cUnit)) (()))), (1, .v (vO (cK2 (.fn 102 [] [(.ptr 1 0)]) (cUnit)) (()))), (5, .v (vO (cPair (cInt .i64) (cUnit)) (s.t5, ()))), (6, .v (vO (cPair (cInt .i64) (cUnit)) (s.t6, ())))], hp := [.row 3 0 s.b0, .cells ((cPair (cInt .i64) (cUnit) : Cdc U (Int × Unit)).enc (kk, ())) none] }
noncomputable def xSslices_DeleteFunc_int_int_0 (kk : Int) (r : (Int × (List Int))) : Ex × St U := (.exit 0, { tm := [(0, .v (vO (cK (.row 0 0) (cUnit)) (()))), (5, .v (vO (cPair (cInt .i64) (cUnit)) (r.1, ())))], hp := [.row 3 0 r.2, .cells ((cPair (cInt .i64) (cUnit) : Cdc U (Int × Unit)).enc (kk, ())) none] })
noncomputable def xTslices_DeleteFunc_int_int_0 (kk : Int) (r : (Int × (List Int))) : Tree (Ex × St U) := .leaf (xSslices_DeleteFunc_int_int_0 kk r)
noncomputable def hslices_DeleteFunc_int_int_0 : Hd := { keep := [0, 1, 5, 6], xkeep := [0, 4, 5], own := false }
noncomputable def Eslices_DeleteFunc_int_int : Env U := { P := Tryz.prog, cd := cd, fns := (addF 160 false (Sslices_IndexFunc_int_int) (addF 102 false (Smemory_Write_1) fns98)), lps := (addL 0 hslices_DeleteFunc_int_int_0 (mkLoopK tAslices_DeleteFunc_int_int_0 tBslices_DeleteFunc_int_int_0 Pslices_DeleteFunc_int_int_0 (Lslices_DeleteFunc_int_int_0 none) xTslices_DeleteFunc_int_int_0) noL), frz := fun _r => false, nt := 42, n0 := 2 }
noncomputable def Bslices_DeleteFunc_int_int_0 : Code := (loopAt (Tryz.f100.body.getD .skip) 0 0).getD .skip
theorem roundslices_DeleteFunc_int_int_0 (kk : Int) (s : Sslices_DeleteFunc_int_int_0) : round Eslices_DeleteFunc_int_int hslices_DeleteFunc_int_int_0 Bslices_DeleteFunc_int_int_0 0 (eSslices_DeleteFunc_int_int_0 kk s) = (Wslices_DeleteFunc_int_int_0 kk s).map (sumE (eSslices_DeleteFunc_int_int_0 kk) (xSslices_DeleteFunc_int_int_0 kk)) := by kernel_rfl
theorem lpslices_DeleteFunc_int_int_0 : LpOk Eslices_DeleteFunc_int_int Bslices_DeleteFunc_int_int_0 0 := mkLoopK_ok (A := tAslices_DeleteFunc_int_int_0) (B := tBslices_DeleteFunc_int_int_0) (f := Pslices_DeleteFunc_int_int_0) (L := Lslices_DeleteFunc_int_int_0 none) (tO_ok (cK_ok cUnit_ok) (tO_ok (cK2_ok cUnit_ok) (tO_ok (cPair_ok (cInt_ok .i64) cUnit_ok) (tO_ok (cPair_ok (cInt_ok .i64) cUnit_ok) tNil_ok)))) (bRv_ok (bC_ok (cPair_ok (cInt_ok .i64) cUnit_ok) bNil_ok)) (enc := eSslices_DeleteFunc_int_int_0) (out := xTslices_DeleteFunc_int_int_0) (outS := xSslices_DeleteFunc_int_int_0) (step := Wslices_DeleteFunc_int_int_0) (fun _ _ => rfl) (fun _ _ => by kernel_rfl) (by kernel_rfl) (fun _ _ => rfl) roundslices_DeleteFunc_int_int_0
theorem rnslices_DeleteFunc_int_int (g0 : (List Int)) (g1 : Int) : execX false Eslices_DeleteFunc_int_int Tryz.f100 (Aslices_DeleteFunc_int_int.enc ()) (Gslices_DeleteFunc_int_int.enc (g0, g1, ())) = (Tslices_DeleteFunc_int_int none g0 g1).map ((Sum.elim (Rslices_DeleteFunc_int_int () (g0, g1, ())) (Rslices_DeleteFunc_int_intb () (g0, g1, ())))) := by kernel_rfl
theorem runslices_DeleteFunc_int_int : ∀ (x : Unit) (g : (List Int) × Int × Unit), execX false Eslices_DeleteFunc_int_int Tryz.f100 (Aslices_DeleteFunc_int_int.enc x) (Gslices_DeleteFunc_int_int.enc g) = (Tslices_DeleteFunc_int_int none g.1 g.2.1).map ((Sum.elim (Rslices_DeleteFunc_int_int x g) (Rslices_DeleteFunc_int_intb x g)))
  | (), (g0, g1, ()) => rnslices_DeleteFunc_int_int g0 g1
theorem okslices_DeleteFunc_int_int : FnOk Tryz.prog cd 100 Sslices_DeleteFunc_int_int := mk_okG2 (E := Eslices_DeleteFunc_int_int) (A := Aslices_DeleteFunc_int_int) (B := Gslices_DeleteFunc_int_int) false cd_ok (addF_ok okslices_IndexFunc_int_int (addF_ok okmemory_Write_1 fns98_ok)) Tryz.func100 (by kernel_rfl) (loops_of (addL_ok lpslices_DeleteFunc_int_int_0 noL_ok)) (aR_ok (aF_ok (aNil_ok))) (bR_ok (bC_ok (cInt_ok .i64) bNil_ok)) (T := fun (x : Unit) (g : (List Int) × Int × Unit) => Tslices_DeleteFunc_int_int none g.1 g.2.1) (fun _ _ => rfl) runslices_DeleteFunc_int_int
/-- emulator/memory.Write -/
noncomputable def Tmemory_Write (q : Option Nat) (x0 : (List Int)) (x1 : (List Int)) (x2 : Int) (x3 : Bool) (x4 : Int) : Tree ((List Int) × (List Int) × Int) :=
  .opt Bool (memory_misses x0 x2 x3) fun r97 =>
    .ite (r97)
      (.leaf (([], [], (1 : Int))))
      (.opt (List Int) (memory_copied x0) fun r98 =>
        .ite (x3)
          (.ite (decide ((2 : Int) = 0))
            .fail
            (.ite (decide ((2 : Int) = 0))
              .fail
              (.ite (decide ((2 : Int) = 0))
                .fail
                (.ite (decide (0 ≤ IntKind.wrap .i64 ((x2).tdiv (2 : Int))))
                  (.ite (decide (IntKind.wrap .i64 ((x2).tdiv (2 : Int)) < (r98.length : Int)))
                    (.opt Int (r98[(IntKind.wrap .i64 ((x2).tdiv (2 : Int))).toNat]?) fun y99 =>
                      .ite (decide (0 ≤ (IntKind.wrap .i64 (((x2).tmod (2 : Int)) * (8 : Int)))))
                        (.ite (decide (0 ≤ (IntKind.wrap .i64 (((x2).tmod (2 : Int)) * (8 : Int)))))
                          (.ite (decide (0 ≤ IntKind.wrap .i64 ((x2).tdiv (2 : Int))))
                            (.ite (decide (IntKind.wrap .i64 ((x2).tdiv (2 : Int)) < (r98.length : Int)))
                              (.opt Int (r98[(IntKind.wrap .i64 ((x2).tdiv (2 : Int))).toNat]?) fun y100 =>
                                .opt (List Int) (cloneF 8 x1) fun r101 =>
                                  .opt (Unit ⊕ ((Nat × Nat) × (List Int))) (slices_DeleteFunc_int_int q r101 x2) fun r102 =>
                                    .ite (r102.isLeft)
                                      (.opt Unit (r102.getLeft?) fun a103 =>
                                        .leaf ((r98.set ((IntKind.wrap .i64 ((x2).tdiv (2 : Int))).toNat) (IntKind.wrap .i64 (((BitVec.ofInt 64 (IntKind.wrap .i64 (((BitVec.ofInt 64 y99 &&& ~~~BitVec.ofInt 64 (IntKind.wrap .i64 ((255 : Int) * 2 ^ (min ((IntKind.wrap .i64 (((x2).tmod (2 : Int)) * (8 : Int)))).toNat 64)))).toNat : Int))) ||| BitVec.ofInt 64 (IntKind.wrap .i64 ((IntKind.wrap .i64 (((BitVec.ofInt 64 x4 &&& BitVec.ofInt 64 (255 : Int)).toNat : Int))) * 2 ^ (min ((IntKind.wrap .i64 (((x2).tmod (2 : Int)) * (8 : Int)))).toNat 64)))).toNat : Int))), r101, (0 : Int))))
                                      (.opt ((Nat × Nat) × (List Int)) (r102.getRight?) fun b104 =>
                                        .leaf ((r98.set ((IntKind.wrap .i64 ((x2).tdiv (2 : Int))).toNat) (IntKind.wrap .i64 (((BitVec.ofInt 64 (IntKind.wrap .i64 (((BitVec.ofInt 64 y99 &&& ~~~BitVec.ofInt 64 (IntKind.wrap .i64 ((255 : Int) * 2 ^ (min ((IntKind.wrap .i64 (((x2).tmod (2 : Int)) * (8 : Int)))).toNat 64)))).toNat : Int))) ||| BitVec.ofInt 64 (IntKind.wrap .i64 ((IntKind.wrap .i64 (((BitVec.ofInt 64 x4 &&& BitVec.ofInt 64 (255 : Int)).toNat : Int))) * 2 ^ (min ((IntKind.wrap .i64 (((x2).tmod (2 : Int)) * (8 : Int)))).toNat 64)))).toNat : Int))), (b104.2.drop (b104.1.1)).take (b104.1.2), (0 : Int)))))
                              .fail)
                            .fail)
                          .fail)
                        .fail)
                    .fail)
                  .fail))))
          (.ite (decide ((2 : Int) = 0))
            .fail
            (.ite (decide ((2 : Int) = 0))
              .fail
              (.ite (decide (0 ≤ IntKind.wrap .i64 ((x2).tdiv (2 : Int))))
                (.ite (decide (IntKind.wrap .i64 ((x2).tdiv (2 : Int)) < (r98.length : Int)))
                  (.opt Int (r98[(IntKind.wrap .i64 ((x2).tdiv (2 : Int))).toNat]?) fun y105 =>
                    .ite (decide (0 ≤ (0 : Int)))
                      (.ite (decide (0 ≤ (0 : Int)))
                        (.ite (decide (0 ≤ IntKind.wrap .i64 ((x2).tdiv (2 : Int))))
                          (.ite (decide (IntKind.wrap .i64 ((x2).tdiv (2 : Int)) < (r98.length : Int)))
                            (.opt Int (r98[(IntKind.wrap .i64 ((x2).tdiv (2 : Int))).toNat]?) fun y106 =>
                              .opt (List Int) (cloneF 8 x1) fun r107 =>
                                .opt (Unit ⊕ ((Nat × Nat) × (List Int))) (slices_DeleteFunc_int_int q r107 x2) fun r108 =>
                                  .ite (r108.isLeft)
                                    (.opt Unit (r108.getLeft?) fun a109 =>
                                      .leaf ((r98.set ((IntKind.wrap .i64 ((x2).tdiv (2 : Int))).toNat) (IntKind.wrap .i64 (((BitVec.ofInt 64 (IntKind.wrap .i64 (((BitVec.ofInt 64 y105 &&& ~~~BitVec.ofInt 64 (IntKind.wrap .i64 ((65535 : Int) * 2 ^ (min ((0 : Int)).toNat 64)))).toNat : Int))) ||| BitVec.ofInt 64 (IntKind.wrap .i64 ((IntKind.wrap .i64 (((BitVec.ofInt 64 x4 &&& BitVec.ofInt 64 (65535 : Int)).toNat : Int))) * 2 ^ (min ((0 : Int)).toNat 64)))).toNat : Int))), r107, (0 : Int))))
                                    (.opt ((Nat × Nat) × (List Int)) (r108.getRight?) fun b110 =>
                                      .leaf ((r98.set ((IntKind.wrap .i64 ((x2).tdiv (2 : Int))).toNat) (IntKind.wrap .i64 (((BitVec.ofInt 64 (IntKind.wrap .i64 (((BitVec.ofInt 64 y105 &&& ~~~BitVec.ofInt 64 (IntKind.wrap .i64 ((65535 : Int) * 2 ^ (min ((0 : Int)).toNat 64)))).toNat : Int))) ||| BitVec.ofInt 64 (IntKind.wrap .i64 ((IntKind.wrap .i64 (((BitVec.ofInt 64 x4 &&& BitVec.ofInt 64 (65535 : Int)).toNat : Int))) * 2 ^ (min ((0 : Int)).toNat 64)))).toNat : Int))), (b110.2.drop (b110.1.1)).take (b110.1.2), (0 : Int)))))
                            .fail)
                          .fail)
                        .fail)
                      .fail)
                  .fail)
                .fail))))
noncomputable def memory_Write (q : Option Nat) (x0 : (List Int)) (x1 : (List Int)) (x2 : Int) (x3 : Bool) (x4 : Int) : Option ((List Int) × (List Int) × Int) := (Tmemory_Write q x0 x1 x2 x3 x4).run
theorem lememory_Write (k : Nat) (x0 : (List Int)) (x1 : (List Int)) (x2 : Int) (x3 : Bool) (x4 : Int) : Le (memory_Write (some k) x0 x1 x2 x3 x4) (memory_Write none x0 x1 x2 x3 x4) := (TLe.opt Le.rfl fun _ => (TLe.ite TLe.rfl (TLe.opt Le.rfl fun _ => (TLe.ite (TLe.ite TLe.rfl (TLe.ite TLe.rfl (TLe.ite TLe.rfl (TLe.ite (TLe.ite (TLe.opt Le.rfl fun _ => (TLe.ite (TLe.ite (TLe.ite (TLe.ite (TLe.opt Le.rfl fun _ => (TLe.opt Le.rfl fun _ => (TLe.opt (leslices_DeleteFunc_int_int k _ _) fun _ => TLe.rfl))) TLe.rfl) TLe.rfl) TLe.rfl) TLe.rfl)) TLe.rfl) TLe.rfl)))) (TLe.ite TLe.rfl (TLe.ite TLe.rfl (TLe.ite (TLe.ite (TLe.opt Le.rfl fun _ => (TLe.ite (TLe.ite (TLe.ite (TLe.ite (TLe.opt Le.rfl fun _ => (TLe.opt Le.rfl fun _ => (TLe.opt (leslices_DeleteFunc_int_int k _ _) fun _ => TLe.rfl))) TLe.rfl) TLe.rfl) TLe.rfl) TLe.rfl)) TLe.rfl) TLe.rfl)))))))
noncomputable def Amemory_Write : Arg U ((List Int) × (List Int) × Int × Bool × Int × Unit) := aO (cSl 3) (aO (cSl 3) (aO (cInt .i64) (aO cBool (aO (cInt .i64) (aNil)))))
noncomputable def Rmemory_Write (r : ((List Int) × (List Int) × Int)) : List (V U) × List (Blk U) := ([vO (cSl 3) r.1, vO (cSl 3) r.2.1, vO (cInt .i64) r.2.2], [])
noncomputable def Smemory_Write : List (V U) → List (Blk U) → Option (FnOut U) := mkSpec Amemory_Write bNil (fun x _ => memory_Write none x.1 x.2.1 x.2.2.1 x.2.2.2.1 x.2.2.2.2.1) Rmemory_Write
noncomputable def Ememory_Write : Env U := { P := Tryz.prog, cd := cd, fns := (addF 101 false (cloneSpec 3 8) (addF 100 false (Sslices_DeleteFunc_int_int) (addF 99 false (Smemory_copied) fns98))), lps := noL, frz := fun _r => false, nt := 52, n0 := 0 }
theorem runmemory_Write (x : (List Int) × (List Int) × Int × Bool × Int × Unit) (g : Unit) : execF Ememory_Write Tryz.f64 (Amemory_Write.enc x) (bNil.enc g) = (Tmemory_Write none x.1 x.2.1 x.2.2.1 x.2.2.2.1 x.2.2.2.2.1).map Rmemory_Write := by kernel_rfl
theorem okmemory_Write : FnOk Tryz.prog cd 64 Smemory_Write := mk_ok (E := Ememory_Write) cd_ok (addF_ok okslices_Clone_int_int (addF_ok okslices_DeleteFunc_int_int (addF_ok okmemory_copied fns98_ok))) Tryz.func64 (by kernel_rfl) (noLoops_body (by kernel_rfl)) (aO_ok (cSl_ok 3) (aO_ok (cSl_ok 3) (aO_ok (cInt_ok .i64) (aO_ok cBool_ok (aO_ok (cInt_ok .i64) (aNil_ok)))))) bNil_ok (T := fun x _ => Tmemory_Write none x.1 x.2.1 x.2.2.1 x.2.2.2.1 x.2.2.2.2.1) (fun _ _ => rfl) runmemory_Write
noncomputable def fns64 := addF 64 true Smemory_Write fns98
theorem fns64_ok : ∀ f q t, fns64 f = some (q, t) → FnOk Tryz.prog cd f t := addF_ok okmemory_Write fns98_ok
/-- emulator/bus.lineOf -/
noncomputable def Tbus_lineOf (x0 : Machine) (x1 : Int) : Tree (Int × Int × Bool) :=
  .ite (decide ((8 : Int) = 0))
    .fail
    (.ite (decide ((8 : Int) = 0))
      .fail
      (.ite (decide ((512 : Int) ≤ x1))
        (.ite (decide (x1 < (768 : Int)))
          (.leaf ((IntKind.wrap .i64 (((IntKind.wrap .i64 (x1 - (512 : Int)))).tdiv (8 : Int)), (x1).tmod (8 : Int), decide ((IntKind.wrap .i64 (((IntKind.wrap .i64 (x1 - (512 : Int)))).tdiv (8 : Int))) < (x0.lines.length : Int)))))
          (.leaf ((IntKind.wrap .i64 (((IntKind.wrap .i64 (x1 - (512 : Int)))).tdiv (8 : Int)), (x1).tmod (8 : Int), false))))
        (.leaf ((IntKind.wrap .i64 (((IntKind.wrap .i64 (x1 - (512 : Int)))).tdiv (8 : Int)), (x1).tmod (8 : Int), false)))))
noncomputable def bus_lineOf (x0 : Machine) (x1 : Int) : Option (Int × Int × Bool) := (Tbus_lineOf x0 x1).run
noncomputable def Abus_lineOf : Arg U (Machine × Int × Unit) := aA cMachine (aO (cInt .i64) (aNil))
noncomputable def Rbus_lineOf (r : (Int × Int × Bool)) : List (V U) × List (Blk U) := ([vO (cInt .i64) r.1, vO (cInt .i64) r.2.1, vO cBool r.2.2], [])
noncomputable def Sbus_lineOf : List (V U) → List (Blk U) → Option (FnOut U) := mkSpec Abus_lineOf bNil (fun x _ => bus_lineOf x.1 x.2.1) Rbus_lineOf
noncomputable def Ebus_lineOf : Env U := { P := Tryz.prog, cd := cd, fns := fns64, lps := noL, frz := fun _r => false, nt := 27, n0 := 0 }
theorem runbus_lineOf (x : Machine × Int × Unit) (g : Unit) : execF Ebus_lineOf Tryz.f103 (Abus_lineOf.enc x) (bNil.enc g) = (Tbus_lineOf x.1 x.2.1).map Rbus_lineOf := by kernel_rfl
theorem okbus_lineOf : FnOk Tryz.prog cd 103 Sbus_lineOf := mk_ok (E := Ebus_lineOf) cd_ok fns64_ok Tryz.func103 (by kernel_rfl) (noLoops_body (by kernel_rfl)) (aA_ok cMachine_ok (aO_ok (cInt_ok .i64) (aNil_ok))) bNil_ok (T := fun x _ => Tbus_lineOf x.1 x.2.1) (fun _ _ => rfl) runbus_lineOf
noncomputable def fns103 := addF 103 true Sbus_lineOf fns64
theorem fns103_ok : ∀ f q t, fns103 f = some (q, t) → FnOk Tryz.prog cd f t := addF_ok okbus_lineOf fns64_ok
/-- emulator/line.Write -/
noncomputable def Tline_Write (x0 : Line) (x1 : Int) (x2 : Int) : Tree Line :=
  .ite (decide (x1 = (0 : Int)))
    (.leaf (Line.mk (!decide ((IntKind.wrap .i64 (((BitVec.ofInt 64 x2 &&& BitVec.ofInt 64 (64 : Int)).toNat : Int))) = (0 : Int))) x0.rxReady x0.overrun x0.rxData x0.txEnable x0.txReady x0.txData x0.txLeft x0.out))
    (.ite (decide (x1 = (4 : Int)))
      (.leaf (Line.mk x0.rxEnable x0.rxReady x0.overrun x0.rxData (!decide ((IntKind.wrap .i64 (((BitVec.ofInt 64 x2 &&& BitVec.ofInt 64 (64 : Int)).toNat : Int))) = (0 : Int))) x0.txReady x0.txData x0.txLeft x0.out))
      (.ite (decide (x1 = (6 : Int)))
        (.ite (x0.txReady)
          (.leaf (Line.mk x0.rxEnable x0.rxReady x0.overrun x0.rxData x0.txEnable false (IntKind.wrap .i64 (((BitVec.ofInt 64 x2 &&& BitVec.ofInt 64 (255 : Int)).toNat : Int))) (4 : Int) x0.out))
          (.leaf (x0)))
        (.leaf (x0))))
noncomputable def line_Write (x0 : Line) (x1 : Int) (x2 : Int) : Option Line := (Tline_Write x0 x1 x2).run
noncomputable def Aline_Write : Arg U (Line × Int × Int × Unit) := aA cLine (aO (cInt .i64) (aO (cInt .i64) (aNil)))
noncomputable def Rline_Write (r : Line) : List (V U) × List (Blk U) := ([vA cLine r], [])
noncomputable def Sline_Write : List (V U) → List (Blk U) → Option (FnOut U) := mkSpec Aline_Write bNil (fun x _ => line_Write x.1 x.2.1 x.2.2.1) Rline_Write
noncomputable def Eline_Write : Env U := { P := Tryz.prog, cd := cd, fns := fns103, lps := noL, frz := fun _r => false, nt := 30, n0 := 0 }
theorem runline_Write (x : Line × Int × Int × Unit) (g : Unit) : execF Eline_Write Tryz.f105 (Aline_Write.enc x) (bNil.enc g) = (Tline_Write x.1 x.2.1 x.2.2.1).map Rline_Write := by kernel_rfl
theorem okline_Write : FnOk Tryz.prog cd 105 Sline_Write := mk_ok (E := Eline_Write) cd_ok fns103_ok Tryz.func105 (by kernel_rfl) (noLoops_body (by kernel_rfl)) (aA_ok cLine_ok (aO_ok (cInt_ok .i64) (aO_ok (cInt_ok .i64) (aNil_ok)))) bNil_ok (T := fun x _ => Tline_Write x.1 x.2.1 x.2.2.1) (fun _ _ => rfl) runline_Write
noncomputable def fns105 := addF 105 true Sline_Write fns103
theorem fns105_ok : ∀ f q t, fns105 f = some (q, t) → FnOk Tryz.prog cd f t := addF_ok okline_Write fns103_ok
/-- emulator/mmu.from -/
noncomputable def Tmmu_from (x0 : Int) (x1 : Int) : Tree Bool :=
  .ite (decide ((0 : Int) ≤ x0))
    (.leaf (decide (x0 ≤ x1)))
    (.leaf (false))
noncomputable def mmu_from (x0 : Int) (x1 : Int) : Option Bool := (Tmmu_from x0 x1).run
noncomputable def Ammu_from : Arg U (Int × Int × Unit) := aO (cInt .i64) (aO (cInt .i64) (aNil))
noncomputable def Rmmu_from (r : Bool) : List (V U) × List (Blk U) := ([vO cBool r], [])
noncomputable def Smmu_from : List (V U) → List (Blk U) → Option (FnOut U) := mkSpec Ammu_from bNil (fun x _ => mmu_from x.1 x.2.1) Rmmu_from
noncomputable def Emmu_from : Env U := { P := Tryz.prog, cd := cd, fns := fns105, lps := noL, frz := fun _r => false, nt := 12, n0 := 0 }
theorem runmmu_from (x : Int × Int × Unit) (g : Unit) : execF Emmu_from Tryz.f90 (Ammu_from.enc x) (bNil.enc g) = (Tmmu_from x.1 x.2.1).map Rmmu_from := by kernel_rfl
theorem okmmu_from : FnOk Tryz.prog cd 90 Smmu_from := mk_ok (E := Emmu_from) cd_ok fns105_ok Tryz.func90 (by kernel_rfl) (noLoops_body (by kernel_rfl)) (aO_ok (cInt_ok .i64) (aO_ok (cInt_ok .i64) (aNil_ok))) bNil_ok (T := fun x _ => Tmmu_from x.1 x.2.1) (fun _ _ => rfl) runmmu_from
noncomputable def fns90 := addF 90 true Smmu_from fns105
theorem fns90_ok : ∀ f q t, fns90 f = some (q, t) → FnOk Tryz.prog cd f t := addF_ok okmmu_from fns105_ok
/-- emulator/mmu.register -/
noncomputable def Tmmu_register (x0 : Int) : Tree (Int × Int × Bool × Bool) :=
  .opt Bool (mmu_from (IntKind.wrap .i64 (x0 - (16 : Int))) (63 : Int)) fun r111 =>
    .ite (!r111)
      (.leaf (((0 : Int), (0 : Int), false, false)))
      (.ite (decide ((2 : Int) = 0))
        .fail
        (.ite (!decide ((((IntKind.wrap .i64 (x0 - (16 : Int)))).tmod (2 : Int)) = (0 : Int)))
          (.leaf (((0 : Int), (0 : Int), false, false)))
          (.ite (decide ((32 : Int) = 0))
            .fail
            (.ite (decide ((4 : Int) = 0))
              .fail
              (.ite (decide ((8 : Int) = 0))
                .fail
                (.ite (decide ((4 : Int) = 0))
                  .fail
                  (.leaf ((IntKind.wrap .i64 (((IntKind.wrap .i64 (x0 - (16 : Int)))).tdiv (32 : Int)), ((IntKind.wrap .i64 (((IntKind.wrap .i64 (x0 - (16 : Int)))).tdiv (4 : Int)))).tmod (8 : Int), decide ((((IntKind.wrap .i64 (x0 - (16 : Int)))).tmod (4 : Int)) = (2 : Int)), true)))))))))
noncomputable def mmu_register (x0 : Int) : Option (Int × Int × Bool × Bool) := (Tmmu_register x0).run
noncomputable def Ammu_register : Arg U (Int × Unit) := aO (cInt .i64) (aNil)
noncomputable def Rmmu_register (r : (Int × Int × Bool × Bool)) : List (V U) × List (Blk U) := ([vO (cInt .i64) r.1, vO (cInt .i64) r.2.1, vO cBool r.2.2.1, vO cBool r.2.2.2], [])
noncomputable def Smmu_register : List (V U) → List (Blk U) → Option (FnOut U) := mkSpec Ammu_register bNil (fun x _ => mmu_register x.1) Rmmu_register
noncomputable def Emmu_register : Env U := { P := Tryz.prog, cd := cd, fns := fns90, lps := noL, frz := fun _r => false, nt := 25, n0 := 0 }
theorem runmmu_register (x : Int × Unit) (g : Unit) : execF Emmu_register Tryz.f161 (Ammu_register.enc x) (bNil.enc g) = (Tmmu_register x.1).map Rmmu_register := by kernel_rfl
theorem okmmu_register : FnOk Tryz.prog cd 161 Smmu_register := mk_ok (E := Emmu_register) cd_ok fns90_ok Tryz.func161 (by kernel_rfl) (noLoops_body (by kernel_rfl)) (aO_ok (cInt_ok .i64) (aNil_ok)) bNil_ok (T := fun x _ => Tmmu_register x.1) (fun _ _ => rfl) runmmu_register
noncomputable def fns161 := addF 161 true Smmu_register fns90
theorem fns161_ok : ∀ f q t, fns161 f = some (q, t) → FnOk Tryz.prog cd f t := addF_ok okmmu_register fns90_ok
/-- emulator/mmu.Write -/
noncomputable def Tmmu_Write (x0 : Mmu) (x1 : Int) (x2 : Int) : Tree (Mmu × Bool) :=
  .ite (decide (x1 = (0 : Int)))
    (.ite (decide (0 ≤ (1 : Int)))
      (.leaf ((Mmu.mk (decide ((IntKind.wrap .i64 (((BitVec.ofInt 64 x2 &&& BitVec.ofInt 64 (1 : Int)).toNat : Int))) = (1 : Int))) x0.pages (IntKind.wrap .i64 (((BitVec.ofInt 64 ((x2).fdiv (2 ^ (min ((1 : Int)).toNat 64))) &&& BitVec.ofInt 64 (3 : Int)).toNat : Int))) x0.addr, true)))
      .fail)
    (.ite (decide (x1 = (2 : Int)))
      (.leaf ((x0, true)))
      (.opt (Int × Int × Bool × Bool) (mmu_register x1) fun r112 =>
        .ite (!r112.2.2.2)
          (.leaf ((x0, false)))
          (.ite (decide (0 ≤ r112.1))
            (.ite (decide (r112.1 < (2 : Int)))
              (.ite (decide (0 ≤ r112.2.1))
                (.ite (decide (r112.2.1 < (8 : Int)))
                  (.ite (r112.2.2.1)
                    (.ite (decide (0 ≤ (8 : Int)))
                      (.opt Page (x0.pages[(r112.1).toNat * 8 + (r112.2.1).toNat * 1]?) fun y113 =>
                        .opt Page ((x0.pages.set ((r112.1).toNat * 8 + (r112.2.1).toNat * 1) (Page.mk y113.base (if (128 : Int) < IntKind.wrap .i64 (((BitVec.ofInt 64 x2 &&& BitVec.ofInt 64 (255 : Int)).toNat : Int)) then (128 : Int) else IntKind.wrap .i64 (((BitVec.ofInt 64 x2 &&& BitVec.ofInt 64 (255 : Int)).toNat : Int))) y113.access y113.written))[(r112.1).toNat * 8 + (r112.2.1).toNat * 1]?) fun y114 =>
                          .opt Page (((x0.pages.set ((r112.1).toNat * 8 + (r112.2.1).toNat * 1) (Page.mk y113.base (if (128 : Int) < IntKind.wrap .i64 (((BitVec.ofInt 64 x2 &&& BitVec.ofInt 64 (255 : Int)).toNat : Int)) then (128 : Int) else IntKind.wrap .i64 (((BitVec.ofInt 64 x2 &&& BitVec.ofInt 64 (255 : Int)).toNat : Int))) y113.access y113.written)).set ((r112.1).toNat * 8 + (r112.2.1).toNat * 1) (Page.mk y114.base y114.length (if (2 : Int) < IntKind.wrap .i64 (((BitVec.ofInt 64 ((x2).fdiv (2 ^ (min ((8 : Int)).toNat 64))) &&& BitVec.ofInt 64 (3 : Int)).toNat : Int)) then (2 : Int) else IntKind.wrap .i64 (((BitVec.ofInt 64 ((x2).fdiv (2 ^ (min ((8 : Int)).toNat 64))) &&& BitVec.ofInt 64 (3 : Int)).toNat : Int))) y114.written))[(r112.1).toNat * 8 + (r112.2.1).toNat * 1]?) fun y115 =>
                            .leaf ((Mmu.mk x0.on (((x0.pages.set ((r112.1).toNat * 8 + (r112.2.1).toNat * 1) (Page.mk y113.base (if (128 : Int) < IntKind.wrap .i64 (((BitVec.ofInt 64 x2 &&& BitVec.ofInt 64 (255 : Int)).toNat : Int)) then (128 : Int) else IntKind.wrap .i64 (((BitVec.ofInt 64 x2 &&& BitVec.ofInt 64 (255 : Int)).toNat : Int))) y113.access y113.written)).set ((r112.1).toNat * 8 + (r112.2.1).toNat * 1) (Page.mk y114.base y114.length (if (2 : Int) < IntKind.wrap .i64 (((BitVec.ofInt 64 ((x2).fdiv (2 ^ (min ((8 : Int)).toNat 64))) &&& BitVec.ofInt 64 (3 : Int)).toNat : Int)) then (2 : Int) else IntKind.wrap .i64 (((BitVec.ofInt 64 ((x2).fdiv (2 ^ (min ((8 : Int)).toNat 64))) &&& BitVec.ofInt 64 (3 : Int)).toNat : Int))) y114.written)).set ((r112.1).toNat * 8 + (r112.2.1).toNat * 1) (Page.mk y115.base y115.length y115.access false)) x0.status x0.addr, true)))
                      .fail)
                    (.opt Page (x0.pages[(r112.1).toNat * 8 + (r112.2.1).toNat * 1]?) fun y116 =>
                      .leaf ((Mmu.mk x0.on (x0.pages.set ((r112.1).toNat * 8 + (r112.2.1).toNat * 1) (Page.mk (IntKind.wrap .i64 (((BitVec.ofInt 64 x2 &&& BitVec.ofInt 64 (4095 : Int)).toNat : Int))) y116.length y116.access y116.written)) x0.status x0.addr, true))))
                  .fail)
                .fail)
              .fail)
            .fail)))
noncomputable def mmu_Write (x0 : Mmu) (x1 : Int) (x2 : Int) : Option (Mmu × Bool) := (Tmmu_Write x0 x1 x2).run
noncomputable def Ammu_Write : Arg U (Mmu × Int × Int × Unit) := aA cMmu (aO (cInt .i64) (aO (cInt .i64) (aNil)))
noncomputable def Rmmu_Write (r : (Mmu × Bool)) : List (V U) × List (Blk U) := ([vA cMmu r.1, vO cBool r.2], [])
noncomputable def Smmu_Write : List (V U) → List (Blk U) → Option (FnOut U) := mkSpec Ammu_Write bNil (fun x _ => mmu_Write x.1 x.2.1 x.2.2.1) Rmmu_Write
noncomputable def Emmu_Write : Env U := { P := Tryz.prog, cd := cd, fns := fns161, lps := noL, frz := fun _r => false, nt := 66, n0 := 0 }
theorem runmmu_Write (x : Mmu × Int × Int × Unit) (g : Unit) : execF Emmu_Write Tryz.f106 (Ammu_Write.enc x) (bNil.enc g) = (Tmmu_Write x.1 x.2.1 x.2.2.1).map Rmmu_Write := by kernel_rfl
theorem okmmu_Write : FnOk Tryz.prog cd 106 Smmu_Write := mk_ok (E := Emmu_Write) cd_ok fns161_ok Tryz.func106 (by kernel_rfl) (noLoops_body (by kernel_rfl)) (aA_ok cMmu_ok (aO_ok (cInt_ok .i64) (aO_ok (cInt_ok .i64) (aNil_ok)))) bNil_ok (T := fun x _ => Tmmu_Write x.1 x.2.1 x.2.2.1) (fun _ _ => rfl) runmmu_Write
noncomputable def fns106 := addF 106 true Smmu_Write fns161
theorem fns106_ok : ∀ f q t, fns106 f = some (q, t) → FnOk Tryz.prog cd f t := addF_ok okmmu_Write fns161_ok
/-- emulator/clock.Write -/
noncomputable def Tclock_Write (x0 : Clock) (x1 : Int) : Tree Clock :=
  .ite (x0.ready)
    (.leaf (Clock.mk (!decide ((IntKind.wrap .i64 (((BitVec.ofInt 64 x1 &&& BitVec.ofInt 64 (64 : Int)).toNat : Int))) = (0 : Int))) (!decide ((IntKind.wrap .i64 (((BitVec.ofInt 64 x1 &&& BitVec.ofInt 64 (128 : Int)).toNat : Int))) = (0 : Int))) x0.period x0.left))
    (.leaf (Clock.mk (!decide ((IntKind.wrap .i64 (((BitVec.ofInt 64 x1 &&& BitVec.ofInt 64 (64 : Int)).toNat : Int))) = (0 : Int))) false x0.period x0.left))
noncomputable def clock_Write (x0 : Clock) (x1 : Int) : Option Clock := (Tclock_Write x0 x1).run
noncomputable def Aclock_Write : Arg U (Clock × Int × Unit) := aA cClock (aO (cInt .i64) (aNil))
noncomputable def Rclock_Write (r : Clock) : List (V U) × List (Blk U) := ([vA cClock r], [])
noncomputable def Sclock_Write : List (V U) → List (Blk U) → Option (FnOut U) := mkSpec Aclock_Write bNil (fun x _ => clock_Write x.1 x.2.1) Rclock_Write
noncomputable def Eclock_Write : Env U := { P := Tryz.prog, cd := cd, fns := fns106, lps := noL, frz := fun _r => false, nt := 18, n0 := 0 }
theorem runclock_Write (x : Clock × Int × Unit) (g : Unit) : execF Eclock_Write Tryz.f107 (Aclock_Write.enc x) (bNil.enc g) = (Tclock_Write x.1 x.2.1).map Rclock_Write := by kernel_rfl
theorem okclock_Write : FnOk Tryz.prog cd 107 Sclock_Write := mk_ok (E := Eclock_Write) cd_ok fns106_ok Tryz.func107 (by kernel_rfl) (noLoops_body (by kernel_rfl)) (aA_ok cClock_ok (aO_ok (cInt_ok .i64) (aNil_ok))) bNil_ok (T := fun x _ => Tclock_Write x.1 x.2.1) (fun _ _ => rfl) runclock_Write
noncomputable def fns107 := addF 107 true Sclock_Write fns106
theorem fns107_ok : ∀ f q t, fns107 f = some (q, t) → FnOk Tryz.prog cd f t := addF_ok okclock_Write fns106_ok
/-- emulator/diskctl.command -/
noncomputable def Tdiskctl_command (x0 : Disk) (x1 : Int) : Tree Disk :=
  .ite (!x0.ready)
    (.leaf (Disk.mk x0.drive (!decide ((IntKind.wrap .i64 (((BitVec.ofInt 64 x1 &&& BitVec.ofInt 64 (64 : Int)).toNat : Int))) = (0 : Int))) x0.ready x0.error x0.command x0.words x0.addr x0.start x0.left))
    (.ite (decide ((IntKind.wrap .i64 (((BitVec.ofInt 64 x1 &&& BitVec.ofInt 64 (1 : Int)).toNat : Int))) = (0 : Int)))
      (.leaf (Disk.mk x0.drive (!decide ((IntKind.wrap .i64 (((BitVec.ofInt 64 x1 &&& BitVec.ofInt 64 (64 : Int)).toNat : Int))) = (0 : Int))) x0.ready x0.error x0.command x0.words x0.addr x0.start x0.left))
      (.ite (decide (0 ≤ (1 : Int)))
        (.ite (!decide ((IntKind.wrap .i64 (((BitVec.ofInt 64 ((x1).fdiv (2 ^ (min ((1 : Int)).toNat 64))) &&& BitVec.ofInt 64 (3 : Int)).toNat : Int))) = (0 : Int)))
          (.ite (!decide (x0.words = (0 : Int)))
            (.leaf (Disk.mk x0.drive (!decide ((IntKind.wrap .i64 (((BitVec.ofInt 64 x1 &&& BitVec.ofInt 64 (64 : Int)).toNat : Int))) = (0 : Int))) false false (IntKind.wrap .i64 (((BitVec.ofInt 64 ((x1).fdiv (2 ^ (min ((1 : Int)).toNat 64))) &&& BitVec.ofInt 64 (3 : Int)).toNat : Int))) x0.words x0.addr x0.start (8 : Int)))
            (.leaf (Disk.mk x0.drive (!decide ((IntKind.wrap .i64 (((BitVec.ofInt 64 x1 &&& BitVec.ofInt 64 (64 : Int)).toNat : Int))) = (0 : Int))) x0.ready false (IntKind.wrap .i64 (((BitVec.ofInt 64 ((x1).fdiv (2 ^ (min ((1 : Int)).toNat 64))) &&& BitVec.ofInt 64 (3 : Int)).toNat : Int))) x0.words x0.addr x0.start x0.left)))
          (.leaf (Disk.mk x0.drive (!decide ((IntKind.wrap .i64 (((BitVec.ofInt 64 x1 &&& BitVec.ofInt 64 (64 : Int)).toNat : Int))) = (0 : Int))) x0.ready false (IntKind.wrap .i64 (((BitVec.ofInt 64 ((x1).fdiv (2 ^ (min ((1 : Int)).toNat 64))) &&& BitVec.ofInt 64 (3 : Int)).toNat : Int))) x0.words x0.addr x0.start x0.left)))
        .fail))
noncomputable def diskctl_command (x0 : Disk) (x1 : Int) : Option Disk := (Tdiskctl_command x0 x1).run
noncomputable def Adiskctl_command : Arg U (Disk × Int × Unit) := aA cDisk (aO (cInt .i64) (aNil))
noncomputable def Rdiskctl_command (r : Disk) : List (V U) × List (Blk U) := ([vA cDisk r], [])
noncomputable def Sdiskctl_command : List (V U) → List (Blk U) → Option (FnOut U) := mkSpec Adiskctl_command bNil (fun x _ => diskctl_command x.1 x.2.1) Rdiskctl_command
noncomputable def Ediskctl_command : Env U := { P := Tryz.prog, cd := cd, fns := fns107, lps := noL, frz := fun _r => false, nt := 34, n0 := 0 }
theorem rundiskctl_command (x : Disk × Int × Unit) (g : Unit) : execF Ediskctl_command Tryz.f162 (Adiskctl_command.enc x) (bNil.enc g) = (Tdiskctl_command x.1 x.2.1).map Rdiskctl_command := by kernel_rfl
theorem okdiskctl_command : FnOk Tryz.prog cd 162 Sdiskctl_command := mk_ok (E := Ediskctl_command) cd_ok fns107_ok Tryz.func162 (by kernel_rfl) (noLoops_body (by kernel_rfl)) (aA_ok cDisk_ok (aO_ok (cInt_ok .i64) (aNil_ok))) bNil_ok (T := fun x _ => Tdiskctl_command x.1 x.2.1) (fun _ _ => rfl) rundiskctl_command
noncomputable def fns162 := addF 162 true Sdiskctl_command fns107
theorem fns162_ok : ∀ f q t, fns162 f = some (q, t) → FnOk Tryz.prog cd f t := addF_ok okdiskctl_command fns107_ok
/-- emulator/diskctl.Write -/
noncomputable def Tdiskctl_Write (x0 : Disk) (x1 : Int) (x2 : Int) : Tree (Disk × Bool) :=
  .ite (decide (x1 = (0 : Int)))
    (.opt Disk (diskctl_command x0 (IntKind.wrap .i64 (((BitVec.ofInt 64 x2 &&& BitVec.ofInt 64 (65535 : Int)).toNat : Int)))) fun r117 =>
      .leaf ((r117, true)))
    (.ite (decide (x1 = (2 : Int)))
      (.ite (x0.ready)
        (.leaf ((Disk.mk x0.drive x0.enable x0.ready x0.error x0.command (IntKind.wrap .i64 (((BitVec.ofInt 64 x2 &&& BitVec.ofInt 64 (65535 : Int)).toNat : Int))) x0.addr x0.start x0.left, true)))
        (.leaf ((x0, true))))
      (.ite (decide (x1 = (4 : Int)))
        (.ite (x0.ready)
          (.leaf ((Disk.mk x0.drive x0.enable x0.ready x0.error x0.command x0.words (IntKind.wrap .i64 (((BitVec.ofInt 64 (IntKind.wrap .i64 (((BitVec.ofInt 64 x2 &&& BitVec.ofInt 64 (65535 : Int)).toNat : Int))) &&& ~~~BitVec.ofInt 64 (1 : Int)).toNat : Int))) x0.start x0.left, true)))
          (.leaf ((x0, true))))
        (.ite (decide (x1 = (6 : Int)))
          (.ite (x0.ready)
            (.leaf ((Disk.mk x0.drive x0.enable x0.ready x0.error x0.command x0.words x0.addr (IntKind.wrap .i64 (((BitVec.ofInt 64 x2 &&& BitVec.ofInt 64 (65535 : Int)).toNat : Int))) x0.left, true)))
            (.leaf ((x0, true))))
          (.leaf ((Disk.mk (Drive.mk ([]) ([])) false false false 0 0 0 0 0, false))))))
noncomputable def diskctl_Write (x0 : Disk) (x1 : Int) (x2 : Int) : Option (Disk × Bool) := (Tdiskctl_Write x0 x1 x2).run
noncomputable def Adiskctl_Write : Arg U (Disk × Int × Int × Unit) := aA cDisk (aO (cInt .i64) (aO (cInt .i64) (aNil)))
noncomputable def Rdiskctl_Write (r : (Disk × Bool)) : List (V U) × List (Blk U) := ([vA cDisk r.1, vO cBool r.2], [])
noncomputable def Sdiskctl_Write : List (V U) → List (Blk U) → Option (FnOut U) := mkSpec Adiskctl_Write bNil (fun x _ => diskctl_Write x.1 x.2.1 x.2.2.1) Rdiskctl_Write
noncomputable def Ediskctl_Write : Env U := { P := Tryz.prog, cd := cd, fns := fns162, lps := noL, frz := fun _r => false, nt := 35, n0 := 0 }
theorem rundiskctl_Write (x : Disk × Int × Int × Unit) (g : Unit) : execF Ediskctl_Write Tryz.f108 (Adiskctl_Write.enc x) (bNil.enc g) = (Tdiskctl_Write x.1 x.2.1 x.2.2.1).map Rdiskctl_Write := by kernel_rfl
theorem okdiskctl_Write : FnOk Tryz.prog cd 108 Sdiskctl_Write := mk_ok (E := Ediskctl_Write) cd_ok fns162_ok Tryz.func108 (by kernel_rfl) (noLoops_body (by kernel_rfl)) (aA_ok cDisk_ok (aO_ok (cInt_ok .i64) (aO_ok (cInt_ok .i64) (aNil_ok)))) bNil_ok (T := fun x _ => Tdiskctl_Write x.1 x.2.1 x.2.2.1) (fun _ _ => rfl) rundiskctl_Write
noncomputable def fns108 := addF 108 true Sdiskctl_Write fns162
theorem fns108_ok : ∀ f q t, fns108 f = some (q, t) → FnOk Tryz.prog cd f t := addF_ok okdiskctl_Write fns162_ok
/-- emulator/tape.command -/
noncomputable def Ttape_command (x0 : Tape) (x1 : Int) : Tree Tape :=
  .ite (!x0.ready)
    (.leaf (Tape.mk x0.records x0.pos (!decide ((IntKind.wrap .i64 (((BitVec.ofInt 64 x1 &&& BitVec.ofInt 64 (64 : Int)).toNat : Int))) = (0 : Int))) x0.ready x0.error x0.mark x0.end_ x0.command x0.count x0.addr x0.left))
    (.ite (decide ((IntKind.wrap .i64 (((BitVec.ofInt 64 x1 &&& BitVec.ofInt 64 (1 : Int)).toNat : Int))) = (0 : Int)))
      (.leaf (Tape.mk x0.records x0.pos (!decide ((IntKind.wrap .i64 (((BitVec.ofInt 64 x1 &&& BitVec.ofInt 64 (64 : Int)).toNat : Int))) = (0 : Int))) x0.ready x0.error x0.mark x0.end_ x0.command x0.count x0.addr x0.left))
      (.ite (decide (0 ≤ (1 : Int)))
        (.ite (decide ((6 : Int) < (IntKind.wrap .i64 (((BitVec.ofInt 64 ((x1).fdiv (2 ^ (min ((1 : Int)).toNat 64))) &&& BitVec.ofInt 64 (7 : Int)).toNat : Int)))))
          (.ite (!decide ((0 : Int) = (0 : Int)))
            (.leaf (Tape.mk x0.records x0.pos (!decide ((IntKind.wrap .i64 (((BitVec.ofInt 64 x1 &&& BitVec.ofInt 64 (64 : Int)).toNat : Int))) = (0 : Int))) false false false false (0 : Int) x0.count x0.addr (16 : Int)))
            (.leaf (Tape.mk x0.records x0.pos (!decide ((IntKind.wrap .i64 (((BitVec.ofInt 64 x1 &&& BitVec.ofInt 64 (64 : Int)).toNat : Int))) = (0 : Int))) x0.ready false false false (0 : Int) x0.count x0.addr x0.left)))
          (.ite (!decide ((IntKind.wrap .i64 (((BitVec.ofInt 64 ((x1).fdiv (2 ^ (min ((1 : Int)).toNat 64))) &&& BitVec.ofInt 64 (7 : Int)).toNat : Int))) = (0 : Int)))
            (.leaf (Tape.mk x0.records x0.pos (!decide ((IntKind.wrap .i64 (((BitVec.ofInt 64 x1 &&& BitVec.ofInt 64 (64 : Int)).toNat : Int))) = (0 : Int))) false false false false (IntKind.wrap .i64 (((BitVec.ofInt 64 ((x1).fdiv (2 ^ (min ((1 : Int)).toNat 64))) &&& BitVec.ofInt 64 (7 : Int)).toNat : Int))) x0.count x0.addr (16 : Int)))
            (.leaf (Tape.mk x0.records x0.pos (!decide ((IntKind.wrap .i64 (((BitVec.ofInt 64 x1 &&& BitVec.ofInt 64 (64 : Int)).toNat : Int))) = (0 : Int))) x0.ready false false false (IntKind.wrap .i64 (((BitVec.ofInt 64 ((x1).fdiv (2 ^ (min ((1 : Int)).toNat 64))) &&& BitVec.ofInt 64 (7 : Int)).toNat : Int))) x0.count x0.addr x0.left))))
        .fail))
noncomputable def tape_command (x0 : Tape) (x1 : Int) : Option Tape := (Ttape_command x0 x1).run
noncomputable def Atape_command : Arg U (Tape × Int × Unit) := aA cTape (aO (cInt .i64) (aNil))
noncomputable def Rtape_command (r : Tape) : List (V U) × List (Blk U) := ([vA cTape r], [])
noncomputable def Stape_command : List (V U) → List (Blk U) → Option (FnOut U) := mkSpec Atape_command bNil (fun x _ => tape_command x.1 x.2.1) Rtape_command
noncomputable def Etape_command : Env U := { P := Tryz.prog, cd := cd, fns := fns108, lps := noL, frz := fun _r => false, nt := 35, n0 := 0 }
theorem runtape_command (x : Tape × Int × Unit) (g : Unit) : execF Etape_command Tryz.f163 (Atape_command.enc x) (bNil.enc g) = (Ttape_command x.1 x.2.1).map Rtape_command := by kernel_rfl
theorem oktape_command : FnOk Tryz.prog cd 163 Stape_command := mk_ok (E := Etape_command) cd_ok fns108_ok Tryz.func163 (by kernel_rfl) (noLoops_body (by kernel_rfl)) (aA_ok cTape_ok (aO_ok (cInt_ok .i64) (aNil_ok))) bNil_ok (T := fun x _ => Ttape_command x.1 x.2.1) (fun _ _ => rfl) runtape_command
noncomputable def fns163 := addF 163 true Stape_command fns108
theorem fns163_ok : ∀ f q t, fns163 f = some (q, t) → FnOk Tryz.prog cd f t := addF_ok oktape_command fns108_ok
/-- emulator/tape.Write -/
noncomputable def Ttape_Write (x0 : Tape) (x1 : Int) (x2 : Int) : Tree (Tape × Bool) :=
  .ite (decide (x1 = (0 : Int)))
    (.opt Tape (tape_command x0 x2) fun r118 =>
      .leaf ((r118, true)))
    (.ite (decide (x1 = (2 : Int)))
      (.ite (x0.ready)
        (.leaf ((Tape.mk x0.records x0.pos x0.enable x0.ready x0.error x0.mark x0.end_ x0.command (IntKind.wrap .i64 (((BitVec.ofInt 64 x2 &&& BitVec.ofInt 64 (65535 : Int)).toNat : Int))) x0.addr x0.left, true)))
        (.leaf ((x0, true))))
      (.ite (decide (x1 = (4 : Int)))
        (.ite (x0.ready)
          (.leaf ((Tape.mk x0.records x0.pos x0.enable x0.ready x0.error x0.mark x0.end_ x0.command x0.count (IntKind.wrap .i64 (((BitVec.ofInt 64 x2 &&& BitVec.ofInt 64 (65535 : Int)).toNat : Int))) x0.left, true)))
          (.leaf ((x0, true))))
        (.leaf ((x0, false)))))
noncomputable def tape_Write (x0 : Tape) (x1 : Int) (x2 : Int) : Option (Tape × Bool) := (Ttape_Write x0 x1 x2).run
noncomputable def Atape_Write : Arg U (Tape × Int × Int × Unit) := aA cTape (aO (cInt .i64) (aO (cInt .i64) (aNil)))
noncomputable def Rtape_Write (r : (Tape × Bool)) : List (V U) × List (Blk U) := ([vA cTape r.1, vO cBool r.2], [])
noncomputable def Stape_Write : List (V U) → List (Blk U) → Option (FnOut U) := mkSpec Atape_Write bNil (fun x _ => tape_Write x.1 x.2.1 x.2.2.1) Rtape_Write
noncomputable def Etape_Write : Env U := { P := Tryz.prog, cd := cd, fns := fns163, lps := noL, frz := fun _r => false, nt := 31, n0 := 0 }
theorem runtape_Write (x : Tape × Int × Int × Unit) (g : Unit) : execF Etape_Write Tryz.f109 (Atape_Write.enc x) (bNil.enc g) = (Ttape_Write x.1 x.2.1 x.2.2.1).map Rtape_Write := by kernel_rfl
theorem oktape_Write : FnOk Tryz.prog cd 109 Stape_Write := mk_ok (E := Etape_Write) cd_ok fns163_ok Tryz.func109 (by kernel_rfl) (noLoops_body (by kernel_rfl)) (aA_ok cTape_ok (aO_ok (cInt_ok .i64) (aO_ok (cInt_ok .i64) (aNil_ok)))) bNil_ok (T := fun x _ => Ttape_Write x.1 x.2.1 x.2.2.1) (fun _ _ => rfl) runtape_Write
noncomputable def fns109 := addF 109 true Stape_Write fns163
theorem fns109_ok : ∀ f q t, fns109 f = some (q, t) → FnOk Tryz.prog cd f t := addF_ok oktape_Write fns163_ok
end Go.Proofs.YtfdndagnolbnhaaGreat
namespace Go.Proofs
shelf_lay_g SlLaysE0.n41 Slgn 41 at Tryz 104 as Tryz.lays104
end Go.Proofs
namespace Go.Proofs.YtfdndagnolbnhaaGreat
open Go Go.Ab
theorem okslices_Clone_api_Line_api_Line : FnOk Tryz.prog cd 104 (cloneSpec 55 56) := clone_ok2 cd_ok Tryz.lays104 Tryz.func104 (by kernel_rfl) (by kernel_rfl) rfl rfl (by kernel_rfl)
/-- emulator/bus.set -/
noncomputable def Tbus_set (x0 : Machine) (x1 : Int) (x2 : Int) : Tree (Machine × Bool) :=
  .opt (Int × Int × Bool) (bus_lineOf x0 x1) fun r121 =>
    .ite (r121.2.2)
      (.opt (List Line) (cloneF 56 x0.lines) fun r122 =>
        .ite (decide (0 ≤ r121.1))
          (.ite (decide (r121.1 < (r122.length : Int)))
            (.opt Line (r122[(r121.1).toNat]?) fun y123 =>
              .opt Line (line_Write y123 r121.2.1 x2) fun r124 =>
                .ite (decide (0 ≤ r121.1))
                  (.ite (decide (r121.1 < (r122.length : Int)))
                    (.opt Line (r122[(r121.1).toNat]?) fun y125 =>
                      .leaf ((Machine.mk x0.cpu x0.mem x0.bad x0.mmu x0.clock (r122.set ((r121.1).toNat) r124) x0.disk x0.tape x0.now x0.halted x0.waiting x0.power x0.powerTrap, true)))
                    .fail)
                  .fail)
            .fail)
          .fail)
      (.ite (decide (x1 < (256 : Int)))
        (.opt (Mmu × Bool) (mmu_Write x0.mmu x1 x2) fun r126 =>
          .leaf ((Machine.mk x0.cpu x0.mem x0.bad r126.1 x0.clock x0.lines x0.disk x0.tape x0.now x0.halted x0.waiting x0.power x0.powerTrap, r126.2)))
        (.ite (decide (x1 = (256 : Int)))
          (.opt Clock (clock_Write x0.clock x2) fun r127 =>
            .leaf ((Machine.mk x0.cpu x0.mem x0.bad x0.mmu r127 x0.lines x0.disk x0.tape x0.now x0.halted x0.waiting x0.power x0.powerTrap, true)))
          (.ite (decide ((768 : Int) ≤ x1))
            (.ite (decide (x1 < (800 : Int)))
              (.opt (Disk × Bool) (diskctl_Write x0.disk (IntKind.wrap .i64 (x1 - (768 : Int))) x2) fun r128 =>
                .leaf ((Machine.mk x0.cpu x0.mem x0.bad x0.mmu x0.clock x0.lines r128.1 x0.tape x0.now x0.halted x0.waiting x0.power x0.powerTrap, r128.2)))
              (.ite (decide ((800 : Int) ≤ x1))
                (.opt (Tape × Bool) (tape_Write x0.tape (IntKind.wrap .i64 (x1 - (800 : Int))) x2) fun r129 =>
                  .leaf ((Machine.mk x0.cpu x0.mem x0.bad x0.mmu x0.clock x0.lines x0.disk r129.1 x0.now x0.halted x0.waiting x0.power x0.powerTrap, r129.2)))
                (.leaf ((x0, false)))))
            (.ite (decide ((800 : Int) ≤ x1))
              (.opt (Tape × Bool) (tape_Write x0.tape (IntKind.wrap .i64 (x1 - (800 : Int))) x2) fun r130 =>
                .leaf ((Machine.mk x0.cpu x0.mem x0.bad x0.mmu x0.clock x0.lines x0.disk r130.1 x0.now x0.halted x0.waiting x0.power x0.powerTrap, r130.2)))
              (.leaf ((x0, false)))))))
noncomputable def bus_set (x0 : Machine) (x1 : Int) (x2 : Int) : Option (Machine × Bool) := (Tbus_set x0 x1 x2).run
noncomputable def Abus_set : Arg U (Machine × Int × Int × Unit) := aA cMachine (aO (cInt .i64) (aO (cInt .i64) (aNil)))
noncomputable def Rbus_set (r : (Machine × Bool)) : List (V U) × List (Blk U) := ([vA cMachine r.1, vO cBool r.2], [])
noncomputable def Sbus_set : List (V U) → List (Blk U) → Option (FnOut U) := mkSpec Abus_set bNil (fun x _ => bus_set x.1 x.2.1 x.2.2.1) Rbus_set
noncomputable def Ebus_set : Env U := { P := Tryz.prog, cd := cd, fns := (addF 104 false (cloneSpec 55 56) fns109), lps := noL, frz := fun _r => false, nt := 89, n0 := 0 }
theorem runbus_set (x : Machine × Int × Int × Unit) (g : Unit) : execF Ebus_set Tryz.f65 (Abus_set.enc x) (bNil.enc g) = (Tbus_set x.1 x.2.1 x.2.2.1).map Rbus_set := by kernel_rfl
theorem okbus_set : FnOk Tryz.prog cd 65 Sbus_set := mk_ok (E := Ebus_set) cd_ok (addF_ok okslices_Clone_api_Line_api_Line fns109_ok) Tryz.func65 (by kernel_rfl) (noLoops_body (by kernel_rfl)) (aA_ok cMachine_ok (aO_ok (cInt_ok .i64) (aO_ok (cInt_ok .i64) (aNil_ok)))) bNil_ok (T := fun x _ => Tbus_set x.1 x.2.1 x.2.2.1) (fun _ _ => rfl) runbus_set
noncomputable def fns65 := addF 65 true Sbus_set fns109
theorem fns65_ok : ∀ f q t, fns65 f = some (q, t) → FnOk Tryz.prog cd f t := addF_ok okbus_set fns109_ok
/-- emulator/bus.Write -/
noncomputable def Tbus_Write (q : Option Nat) (x0 : Machine) (x1 : Int) (x2 : Bool) (x3 : Int) : Tree (Machine × Int) :=
  .ite (x2)
    (.ite (decide ((IntKind.wrap .i64 (((BitVec.ofInt 64 x1 &&& BitVec.ofInt 64 (262143 : Int)).toNat : Int))) < (253952 : Int)))
      (.opt ((List Int) × (List Int) × Int) (memory_Write q x0.mem x0.bad (IntKind.wrap .i64 (((BitVec.ofInt 64 x1 &&& BitVec.ofInt 64 (262143 : Int)).toNat : Int))) x2 (IntKind.wrap .i64 (((BitVec.ofInt 64 (IntKind.wrap .i64 (((BitVec.ofInt 64 x3 &&& BitVec.ofInt 64 (65535 : Int)).toNat : Int))) &&& BitVec.ofInt 64 (255 : Int)).toNat : Int)))) fun r131 =>
        .ite (decide (r131.2.2 = (0 : Int)))
          (.leaf ((Machine.mk x0.cpu r131.1 r131.2.1 x0.mmu x0.clock x0.lines x0.disk x0.tape x0.now x0.halted x0.waiting x0.power x0.powerTrap, r131.2.2)))
          (.leaf ((x0, r131.2.2))))
      (.ite (decide ((2 : Int) = 0))
        .fail
        (.ite (!decide ((((IntKind.wrap .i64 (((BitVec.ofInt 64 x1 &&& BitVec.ofInt 64 (262143 : Int)).toNat : Int)))).tmod (2 : Int)) = (0 : Int)))
          (.leaf ((x0, (1 : Int))))
          (.opt (Machine × Bool) (bus_set x0 (IntKind.wrap .i64 ((IntKind.wrap .i64 (((BitVec.ofInt 64 x1 &&& BitVec.ofInt 64 (262143 : Int)).toNat : Int))) - (253952 : Int))) (IntKind.wrap .i64 (((BitVec.ofInt 64 (IntKind.wrap .i64 (((BitVec.ofInt 64 x3 &&& BitVec.ofInt 64 (65535 : Int)).toNat : Int))) &&& BitVec.ofInt 64 (255 : Int)).toNat : Int)))) fun r132 =>
            .ite (!r132.2)
              (.leaf ((x0, (1 : Int))))
              (.leaf ((r132.1, (0 : Int))))))))
    (.ite (decide ((IntKind.wrap .i64 (((BitVec.ofInt 64 x1 &&& BitVec.ofInt 64 (262143 : Int)).toNat : Int))) < (253952 : Int)))
      (.opt ((List Int) × (List Int) × Int) (memory_Write q x0.mem x0.bad (IntKind.wrap .i64 (((BitVec.ofInt 64 x1 &&& BitVec.ofInt 64 (262143 : Int)).toNat : Int))) x2 (IntKind.wrap .i64 (((BitVec.ofInt 64 x3 &&& BitVec.ofInt 64 (65535 : Int)).toNat : Int)))) fun r133 =>
        .ite (decide (r133.2.2 = (0 : Int)))
          (.leaf ((Machine.mk x0.cpu r133.1 r133.2.1 x0.mmu x0.clock x0.lines x0.disk x0.tape x0.now x0.halted x0.waiting x0.power x0.powerTrap, r133.2.2)))
          (.leaf ((x0, r133.2.2))))
      (.ite (decide ((2 : Int) = 0))
        .fail
        (.ite (!decide ((((IntKind.wrap .i64 (((BitVec.ofInt 64 x1 &&& BitVec.ofInt 64 (262143 : Int)).toNat : Int)))).tmod (2 : Int)) = (0 : Int)))
          (.leaf ((x0, (1 : Int))))
          (.opt (Machine × Bool) (bus_set x0 (IntKind.wrap .i64 ((IntKind.wrap .i64 (((BitVec.ofInt 64 x1 &&& BitVec.ofInt 64 (262143 : Int)).toNat : Int))) - (253952 : Int))) (IntKind.wrap .i64 (((BitVec.ofInt 64 x3 &&& BitVec.ofInt 64 (65535 : Int)).toNat : Int)))) fun r134 =>
            .ite (!r134.2)
              (.leaf ((x0, (1 : Int))))
              (.leaf ((r134.1, (0 : Int))))))))
noncomputable def bus_Write (q : Option Nat) (x0 : Machine) (x1 : Int) (x2 : Bool) (x3 : Int) : Option (Machine × Int) := (Tbus_Write q x0 x1 x2 x3).run
theorem lebus_Write (k : Nat) (x0 : Machine) (x1 : Int) (x2 : Bool) (x3 : Int) : Le (bus_Write (some k) x0 x1 x2 x3) (bus_Write none x0 x1 x2 x3) := (TLe.ite (TLe.ite (TLe.opt (lememory_Write k _ _ _ _ _) fun _ => TLe.rfl) TLe.rfl) (TLe.ite (TLe.opt (lememory_Write k _ _ _ _ _) fun _ => TLe.rfl) TLe.rfl))
noncomputable def Abus_Write : Arg U (Machine × Int × Bool × Int × Unit) := aA cMachine (aO (cInt .i64) (aO cBool (aO (cInt .i64) (aNil))))
noncomputable def Rbus_Write (r : (Machine × Int)) : List (V U) × List (Blk U) := ([vA cMachine r.1, vO (cInt .i64) r.2], [])
noncomputable def Sbus_Write : List (V U) → List (Blk U) → Option (FnOut U) := mkSpec Abus_Write bNil (fun x _ => bus_Write none x.1 x.2.1 x.2.2.1 x.2.2.2.1) Rbus_Write
noncomputable def Ebus_Write : Env U := { P := Tryz.prog, cd := cd, fns := fns65, lps := noL, frz := fun _r => false, nt := 61, n0 := 0 }
theorem runbus_Write (x : Machine × Int × Bool × Int × Unit) (g : Unit) : execF Ebus_Write Tryz.f26 (Abus_Write.enc x) (bNil.enc g) = (Tbus_Write none x.1 x.2.1 x.2.2.1 x.2.2.2.1).map Rbus_Write := by kernel_rfl
theorem okbus_Write : FnOk Tryz.prog cd 26 Sbus_Write := mk_ok (E := Ebus_Write) cd_ok fns65_ok Tryz.func26 (by kernel_rfl) (noLoops_body (by kernel_rfl)) (aA_ok cMachine_ok (aO_ok (cInt_ok .i64) (aO_ok cBool_ok (aO_ok (cInt_ok .i64) (aNil_ok))))) bNil_ok (T := fun x _ => Tbus_Write none x.1 x.2.1 x.2.2.1 x.2.2.2.1) (fun _ _ => rfl) runbus_Write
noncomputable def fns26 := addF 26 true Sbus_Write fns65
theorem fns26_ok : ∀ f q t, fns26 f = some (q, t) → FnOk Tryz.prog cd f t := addF_ok okbus_Write fns65_ok
/-- slices.Index[[]int,int] -/
structure Sslices_Index_int_int_0 where
  t0 : (List Int)
  t1 : Int
  t7 : Int
  t8 : Int
noncomputable def Wslices_Index_int_int_0 (s : Sslices_Index_int_int_0) : Tree (Sslices_Index_int_int_0 ⊕ (Int ⊕ Unit)) :=
  .ite (decide (s.t8 < s.t7))
    (.ite (decide (0 ≤ s.t8))
      (.opt Int (s.t0[(s.t8).toNat]?) fun y135 =>
        .ite (decide (s.t1 = y135))
          (.leaf (.inr (.inl s.t8)))
          (.leaf (.inl (Sslices_Index_int_int_0.mk s.t0 s.t1 s.t7 (IntKind.wrap .i64 (s.t8 + (1 : Int)))))))
      .fail)
    (.leaf (.inr (.inr ())))
noncomputable def Lslices_Index_int_int_0 (q : Option Nat) (s : Sslices_Index_int_int_0) : Option (Int ⊕ Unit) := limQ q (fun s => (Wslices_Index_int_int_0 s).run) s
theorem leLslices_Index_int_int_0 (k : Nat) (s : Sslices_Index_int_int_0) : Le (Lslices_Index_int_int_0 (some k) s) (Lslices_Index_int_int_0 none s) := limQ_le (fun _ => Le.rfl) s
noncomputable def Tslices_Index_int_int (q : Option Nat) (x0 : (List Int)) (x1 : Int) : Tree Int :=
  .opt (Int ⊕ Unit) (Lslices_Index_int_int_0 q (Sslices_Index_int_int_0.mk x0 x1 (x0.length : Int) (0 : Int))) fun l136 =>
    .ite (l136.isLeft)
      (.opt Int (l136.getLeft?) fun a137 =>
        .leaf (a137))
      (.opt Unit (l136.getRight?) fun b138 =>
        .leaf ((-1 : Int)))
noncomputable def slices_Index_int_int (q : Option Nat) (x0 : (List Int)) (x1 : Int) : Option Int := (Tslices_Index_int_int q x0 x1).run
theorem leslices_Index_int_int (k : Nat) (x0 : (List Int)) (x1 : Int) : Le (slices_Index_int_int (some k) x0 x1) (slices_Index_int_int none x0 x1) := (TLe.opt (leLslices_Index_int_int_0 k _) fun _ => TLe.rfl)
noncomputable def Aslices_Index_int_int : Arg U ((List Int) × Int × Unit) := aO (cSl 3) (aO (cInt .i64) (aNil))
noncomputable def Rslices_Index_int_int (r : Int) : List (V U) × List (Blk U) := ([vO (cInt .i64) r], [])
noncomputable def Sslices_Index_int_int : List (V U) → List (Blk U) → Option (FnOut U) := mkSpec Aslices_Index_int_int bNil (fun x _ => slices_Index_int_int none x.1 x.2.1) Rslices_Index_int_int
noncomputable def Pslices_Index_int_int_0 (x : ((List Int) × Unit) × (Int × Unit) × (Int × Unit) × (Int × Unit) × Unit) (_g : Unit) : Sslices_Index_int_int_0 := Sslices_Index_int_int_0.mk x.1.1 x.2.1.1 x.2.2.1.1 x.2.2.2.1.1
noncomputable def tAslices_Index_int_int_0 : Tms U (((List Int) × Unit) × (Int × Unit) × (Int × Unit) × (Int × Unit) × Unit) := tO 0 (cPair (cSl 3) (cUnit)) (tO 1 (cPair (cInt .i64) (cUnit)) (tO 7 (cPair (cInt .i64) (cUnit)) (tO 8 (cPair (cInt .i64) (cUnit)) (tNil))))
noncomputable def tBslices_Index_int_int_0 : Bls U (Unit) := bNil
noncomputable def eSslices_Index_int_int_0 (s : Sslices_Index_int_int_0) : St U := { tm := [(0, .v (vO (cPair (cSl 3) (cUnit)) (s.t0, ()))), (1, .v (vO (cPair (cInt .i64) (cUnit)) (s.t1, ()))), (7, .v (vO (cPair (cInt .i64) (cUnit)) (s.t7, ()))), (8, .v (vO (cPair (cInt .i64) (cUnit)) (s.t8, ())))], hp := [] }
noncomputable def xSslices_Index_int_int_0 : (Int ⊕ Unit) → Ex × St U
  | .inl r => (.ret, { tm := [(4, .v (vO (cPair (cInt .i64) (cUnit)) (r, ())))], hp := [] })
  | .inr r => (.exit 0, { tm := [], hp := [] })
noncomputable def xTslices_Index_int_int_0 (y : (Int ⊕ Unit)) : Tree (Ex × St U) := .ite y.isLeft (.opt Int y.getLeft? fun r => .leaf (.ret, { tm := [(4, .v (vO (cPair (cInt .i64) (cUnit)) (r, ())))], hp := [] })) (.opt Unit y.getRight? fun r => .leaf (.exit 0, { tm := [], hp := [] }))
noncomputable def hslices_Index_int_int_0 : Hd := { keep := [0, 1, 7, 8], xkeep := [4], own := false }
noncomputable def Eslices_Index_int_int : Env U := { P := Tryz.prog, cd := cd, fns := fns26, lps := (addL 0 hslices_Index_int_int_0 (mkLoop tAslices_Index_int_int_0 tBslices_Index_int_int_0 Pslices_Index_int_int_0 (Lslices_Index_int_int_0 none) xTslices_Index_int_int_0) noL), frz := fun _r => false, nt := 19, n0 := 0 }
noncomputable def Bslices_Index_int_int_0 : Code := (loopAt (Tryz.f164.body.getD .skip) 0 0).getD .skip
theorem roundslices_Index_int_int_0 (s : Sslices_Index_int_int_0) : round Eslices_Index_int_int hslices_Index_int_int_0 Bslices_Index_int_int_0 0 (eSslices_Index_int_int_0 s) = (Wslices_Index_int_int_0 s).map (sumE eSslices_Index_int_int_0 xSslices_Index_int_int_0) := by kernel_rfl
theorem lpslices_Index_int_int_0 : LpOk Eslices_Index_int_int Bslices_Index_int_int_0 0 := mkLoop_ok (A := tAslices_Index_int_int_0) (B := tBslices_Index_int_int_0) (f := Pslices_Index_int_int_0) (L := Lslices_Index_int_int_0 none) (tO_ok (cPair_ok (cSl_ok 3) cUnit_ok) (tO_ok (cPair_ok (cInt_ok .i64) cUnit_ok) (tO_ok (cPair_ok (cInt_ok .i64) cUnit_ok) (tO_ok (cPair_ok (cInt_ok .i64) cUnit_ok) tNil_ok)))) bNil_ok (enc := eSslices_Index_int_int_0) (out := xTslices_Index_int_int_0) (outS := xSslices_Index_int_int_0) (step := Wslices_Index_int_int_0) (fun _ => rfl) (fun _ _ => by kernel_rfl) (by kernel_rfl) (fun b => by cases b <;> rfl) roundslices_Index_int_int_0
theorem runslices_Index_int_int (x : (List Int) × Int × Unit) (g : Unit) : execF Eslices_Index_int_int Tryz.f164 (Aslices_Index_int_int.enc x) (bNil.enc g) = (Tslices_Index_int_int none x.1 x.2.1).map Rslices_Index_int_int := by kernel_rfl
theorem okslices_Index_int_int : FnOk Tryz.prog cd 164 Sslices_Index_int_int := mk_ok (E := Eslices_Index_int_int) cd_ok fns26_ok Tryz.func164 (by kernel_rfl) (loops_of (addL_ok lpslices_Index_int_int_0 noL_ok)) (aO_ok (cSl_ok 3) (aO_ok (cInt_ok .i64) (aNil_ok))) bNil_ok (T := fun x _ => Tslices_Index_int_int none x.1 x.2.1) (fun _ _ => rfl) runslices_Index_int_int
noncomputable def fns164 := addF 164 true Sslices_Index_int_int fns26
theorem fns164_ok : ∀ f q t, fns164 f = some (q, t) → FnOk Tryz.prog cd f t := addF_ok okslices_Index_int_int fns26_ok
/-- slices.Contains[[]int,int] -/
noncomputable def Tslices_Contains_int_int (q : Option Nat) (x0 : (List Int)) (x1 : Int) : Tree Bool :=
  .opt Int (slices_Index_int_int q x0 x1) fun r139 =>
    .leaf (decide ((0 : Int) ≤ r139))
noncomputable def slices_Contains_int_int (q : Option Nat) (x0 : (List Int)) (x1 : Int) : Option Bool := (Tslices_Contains_int_int q x0 x1).run
theorem leslices_Contains_int_int (k : Nat) (x0 : (List Int)) (x1 : Int) : Le (slices_Contains_int_int (some k) x0 x1) (slices_Contains_int_int none x0 x1) := (TLe.opt (leslices_Index_int_int k _ _) fun _ => TLe.rfl)
noncomputable def Aslices_Contains_int_int : Arg U ((List Int) × Int × Unit) := aO (cSl 3) (aO (cInt .i64) (aNil))
noncomputable def Rslices_Contains_int_int (r : Bool) : List (V U) × List (Blk U) := ([vO cBool r], [])
noncomputable def Sslices_Contains_int_int : List (V U) → List (Blk U) → Option (FnOut U) := mkSpec Aslices_Contains_int_int bNil (fun x _ => slices_Contains_int_int none x.1 x.2.1) Rslices_Contains_int_int
noncomputable def Eslices_Contains_int_int : Env U := { P := Tryz.prog, cd := cd, fns := fns164, lps := noL, frz := fun _r => false, nt := 9, n0 := 0 }
theorem runslices_Contains_int_int (x : (List Int) × Int × Unit) (g : Unit) : execF Eslices_Contains_int_int Tryz.f110 (Aslices_Contains_int_int.enc x) (bNil.enc g) = (Tslices_Contains_int_int none x.1 x.2.1).map Rslices_Contains_int_int := by kernel_rfl
theorem okslices_Contains_int_int : FnOk Tryz.prog cd 110 Sslices_Contains_int_int := mk_ok (E := Eslices_Contains_int_int) cd_ok fns164_ok Tryz.func110 (by kernel_rfl) (noLoops_body (by kernel_rfl)) (aO_ok (cSl_ok 3) (aO_ok (cInt_ok .i64) (aNil_ok))) bNil_ok (T := fun x _ => Tslices_Contains_int_int none x.1 x.2.1) (fun _ _ => rfl) runslices_Contains_int_int
noncomputable def fns110 := addF 110 true Sslices_Contains_int_int fns164
theorem fns110_ok : ∀ f q t, fns110 f = some (q, t) → FnOk Tryz.prog cd f t := addF_ok okslices_Contains_int_int fns164_ok
/-- emulator/memory.Read -/
noncomputable def Tmemory_Read (q : Option Nat) (x0 : (List Int)) (x1 : (List Int)) (x2 : Int) (x3 : Bool) : Tree (Int × Int) :=
  .opt Bool (memory_misses x0 x2 x3) fun r140 =>
    .ite (r140)
      (.leaf (((0 : Int), (1 : Int))))
      (.opt Bool (slices_Contains_int_int q x1 (IntKind.wrap .i64 (((BitVec.ofInt 64 x2 &&& ~~~BitVec.ofInt 64 (1 : Int)).toNat : Int)))) fun r141 =>
        .ite (r141)
          (.leaf (((0 : Int), (9 : Int))))
          (.ite (decide ((2 : Int) = 0))
            .fail
            (.ite (decide (0 ≤ IntKind.wrap .i64 ((x2).tdiv (2 : Int))))
              (.opt Int (x0[(IntKind.wrap .i64 ((x2).tdiv (2 : Int))).toNat]?) fun y142 =>
                .ite (x3)
                  (.ite (decide ((2 : Int) = 0))
                    .fail
                    (.ite (decide (0 ≤ (IntKind.wrap .i64 (((x2).tmod (2 : Int)) * (8 : Int)))))
                      (.leaf ((IntKind.wrap .i64 (((BitVec.ofInt 64 ((y142).fdiv (2 ^ (min ((IntKind.wrap .i64 (((x2).tmod (2 : Int)) * (8 : Int)))).toNat 64))) &&& BitVec.ofInt 64 (255 : Int)).toNat : Int)), (0 : Int))))
                      .fail))
                  (.leaf ((y142, (0 : Int)))))
              .fail)))
noncomputable def memory_Read (q : Option Nat) (x0 : (List Int)) (x1 : (List Int)) (x2 : Int) (x3 : Bool) : Option (Int × Int) := (Tmemory_Read q x0 x1 x2 x3).run
theorem lememory_Read (k : Nat) (x0 : (List Int)) (x1 : (List Int)) (x2 : Int) (x3 : Bool) : Le (memory_Read (some k) x0 x1 x2 x3) (memory_Read none x0 x1 x2 x3) := (TLe.opt Le.rfl fun _ => (TLe.ite TLe.rfl (TLe.opt (leslices_Contains_int_int k _ _) fun _ => TLe.rfl)))
noncomputable def Amemory_Read : Arg U ((List Int) × (List Int) × Int × Bool × Unit) := aO (cSl 3) (aO (cSl 3) (aO (cInt .i64) (aO cBool (aNil))))
noncomputable def Rmemory_Read (r : (Int × Int)) : List (V U) × List (Blk U) := ([vO (cInt .i64) r.1, vO (cInt .i64) r.2], [])
noncomputable def Smemory_Read : List (V U) → List (Blk U) → Option (FnOut U) := mkSpec Amemory_Read bNil (fun x _ => memory_Read none x.1 x.2.1 x.2.2.1 x.2.2.2.1) Rmemory_Read
noncomputable def Ememory_Read : Env U := { P := Tryz.prog, cd := cd, fns := fns110, lps := noL, frz := fun _r => false, nt := 32, n0 := 0 }
theorem runmemory_Read (x : (List Int) × (List Int) × Int × Bool × Unit) (g : Unit) : execF Ememory_Read Tryz.f66 (Amemory_Read.enc x) (bNil.enc g) = (Tmemory_Read none x.1 x.2.1 x.2.2.1 x.2.2.2.1).map Rmemory_Read := by kernel_rfl
theorem okmemory_Read : FnOk Tryz.prog cd 66 Smemory_Read := mk_ok (E := Ememory_Read) cd_ok fns110_ok Tryz.func66 (by kernel_rfl) (noLoops_body (by kernel_rfl)) (aO_ok (cSl_ok 3) (aO_ok (cSl_ok 3) (aO_ok (cInt_ok .i64) (aO_ok cBool_ok (aNil_ok))))) bNil_ok (T := fun x _ => Tmemory_Read none x.1 x.2.1 x.2.2.1 x.2.2.2.1) (fun _ _ => rfl) runmemory_Read
noncomputable def fns66 := addF 66 true Smemory_Read fns110
theorem fns66_ok : ∀ f q t, fns66 f = some (q, t) → FnOk Tryz.prog cd f t := addF_ok okmemory_Read fns110_ok
/-- emulator/line.status -/
noncomputable def Tline_status (x0 : Bool) (x1 : Bool) : Tree Int :=
  .ite (x0)
    (.ite (x1)
      (.leaf (IntKind.wrap .i64 ((64 : Int) + (128 : Int))))
      (.leaf ((64 : Int))))
    (.ite (x1)
      (.leaf (IntKind.wrap .i64 ((0 : Int) + (128 : Int))))
      (.leaf ((0 : Int))))
noncomputable def line_status (x0 : Bool) (x1 : Bool) : Option Int := (Tline_status x0 x1).run
noncomputable def Aline_status : Arg U (Bool × Bool × Unit) := aO cBool (aO cBool (aNil))
noncomputable def Rline_status (r : Int) : List (V U) × List (Blk U) := ([vO (cInt .i64) r], [])
noncomputable def Sline_status : List (V U) → List (Blk U) → Option (FnOut U) := mkSpec Aline_status bNil (fun x _ => line_status x.1 x.2.1) Rline_status
noncomputable def Eline_status : Env U := { P := Tryz.prog, cd := cd, fns := fns66, lps := noL, frz := fun _r => false, nt := 11, n0 := 0 }
theorem runline_status (x : Bool × Bool × Unit) (g : Unit) : execF Eline_status Tryz.f165 (Aline_status.enc x) (bNil.enc g) = (Tline_status x.1 x.2.1).map Rline_status := by kernel_rfl
theorem okline_status : FnOk Tryz.prog cd 165 Sline_status := mk_ok (E := Eline_status) cd_ok fns66_ok Tryz.func165 (by kernel_rfl) (noLoops_body (by kernel_rfl)) (aO_ok cBool_ok (aO_ok cBool_ok (aNil_ok))) bNil_ok (T := fun x _ => Tline_status x.1 x.2.1) (fun _ _ => rfl) runline_status
noncomputable def fns165 := addF 165 true Sline_status fns66
theorem fns165_ok : ∀ f q t, fns165 f = some (q, t) → FnOk Tryz.prog cd f t := addF_ok okline_status fns66_ok
/-- emulator/line.Read -/
noncomputable def Tline_Read (x0 : Line) (x1 : Int) : Tree (Line × Int) :=
  .ite (decide (x1 = (0 : Int)))
    (.opt Int (line_status x0.rxEnable x0.rxReady) fun r143 =>
      .leaf ((x0, r143)))
    (.ite (decide (x1 = (4 : Int)))
      (.opt Int (line_status x0.txEnable x0.txReady) fun r144 =>
        .leaf ((x0, r144)))
      (.ite (decide (x1 = (2 : Int)))
        (.ite (x0.overrun)
          (.leaf ((Line.mk x0.rxEnable false false x0.rxData x0.txEnable x0.txReady x0.txData x0.txLeft x0.out, IntKind.wrap .i64 (x0.rxData + (32768 : Int)))))
          (.leaf ((Line.mk x0.rxEnable false false x0.rxData x0.txEnable x0.txReady x0.txData x0.txLeft x0.out, x0.rxData))))
        (.leaf ((x0, (0 : Int))))))
noncomputable def line_Read (x0 : Line) (x1 : Int) : Option (Line × Int) := (Tline_Read x0 x1).run
noncomputable def Aline_Read : Arg U (Line × Int × Unit) := aA cLine (aO (cInt .i64) (aNil))
noncomputable def Rline_Read (r : (Line × Int)) : List (V U) × List (Blk U) := ([vA cLine r.1, vO (cInt .i64) r.2], [])
noncomputable def Sline_Read : List (V U) → List (Blk U) → Option (FnOut U) := mkSpec Aline_Read bNil (fun x _ => line_Read x.1 x.2.1) Rline_Read
noncomputable def Eline_Read : Env U := { P := Tryz.prog, cd := cd, fns := fns165, lps := noL, frz := fun _r => false, nt := 37, n0 := 0 }
theorem runline_Read (x : Line × Int × Unit) (g : Unit) : execF Eline_Read Tryz.f111 (Aline_Read.enc x) (bNil.enc g) = (Tline_Read x.1 x.2.1).map Rline_Read := by kernel_rfl
theorem okline_Read : FnOk Tryz.prog cd 111 Sline_Read := mk_ok (E := Eline_Read) cd_ok fns165_ok Tryz.func111 (by kernel_rfl) (noLoops_body (by kernel_rfl)) (aA_ok cLine_ok (aO_ok (cInt_ok .i64) (aNil_ok))) bNil_ok (T := fun x _ => Tline_Read x.1 x.2.1) (fun _ _ => rfl) runline_Read
noncomputable def fns111 := addF 111 true Sline_Read fns165
theorem fns111_ok : ∀ f q t, fns111 f = some (q, t) → FnOk Tryz.prog cd f t := addF_ok okline_Read fns165_ok
/-- emulator/mmu.bit -/
noncomputable def Tmmu_bit (x0 : Bool) (x1 : Int) : Tree Int :=
  .ite (x0)
    (.leaf (x1))
    (.leaf ((0 : Int)))
noncomputable def mmu_bit (x0 : Bool) (x1 : Int) : Option Int := (Tmmu_bit x0 x1).run
noncomputable def Ammu_bit : Arg U (Bool × Int × Unit) := aO cBool (aO (cInt .i64) (aNil))
noncomputable def Rmmu_bit (r : Int) : List (V U) × List (Blk U) := ([vO (cInt .i64) r], [])
noncomputable def Smmu_bit : List (V U) → List (Blk U) → Option (FnOut U) := mkSpec Ammu_bit bNil (fun x _ => mmu_bit x.1 x.2.1) Rmmu_bit
noncomputable def Emmu_bit : Env U := { P := Tryz.prog, cd := cd, fns := fns111, lps := noL, frz := fun _r => false, nt := 7, n0 := 0 }
theorem runmmu_bit (x : Bool × Int × Unit) (g : Unit) : execF Emmu_bit Tryz.f166 (Ammu_bit.enc x) (bNil.enc g) = (Tmmu_bit x.1 x.2.1).map Rmmu_bit := by kernel_rfl
theorem okmmu_bit : FnOk Tryz.prog cd 166 Smmu_bit := mk_ok (E := Emmu_bit) cd_ok fns111_ok Tryz.func166 (by kernel_rfl) (noLoops_body (by kernel_rfl)) (aO_ok cBool_ok (aO_ok (cInt_ok .i64) (aNil_ok))) bNil_ok (T := fun x _ => Tmmu_bit x.1 x.2.1) (fun _ _ => rfl) runmmu_bit
noncomputable def fns166 := addF 166 true Smmu_bit fns111
theorem fns166_ok : ∀ f q t, fns166 f = some (q, t) → FnOk Tryz.prog cd f t := addF_ok okmmu_bit fns111_ok
/-- emulator/mmu.Read -/
noncomputable def Tmmu_Read (x0 : Mmu) (x1 : Int) : Tree (Int × Bool) :=
  .ite (decide (x1 = (0 : Int)))
    (.opt Int (mmu_bit x0.on (1 : Int)) fun r145 =>
      .ite (decide (0 ≤ (1 : Int)))
        (.leaf ((IntKind.wrap .i64 (((BitVec.ofInt 64 r145 ||| BitVec.ofInt 64 (IntKind.wrap .i64 (x0.status * 2 ^ (min ((1 : Int)).toNat 64)))).toNat : Int)), true)))
        .fail)
    (.ite (decide (x1 = (2 : Int)))
      (.leaf ((x0.addr, true)))
      (.opt (Int × Int × Bool × Bool) (mmu_register x1) fun r146 =>
        .ite (!r146.2.2.2)
          (.leaf (((0 : Int), false)))
          (.ite (decide (0 ≤ r146.1))
            (.ite (decide (r146.1 < (2 : Int)))
              (.ite (decide (0 ≤ r146.2.1))
                (.ite (decide (r146.2.1 < (8 : Int)))
                  (.opt Page (x0.pages[(r146.1).toNat * 8 + (r146.2.1).toNat * 1]?) fun y147 =>
                    .ite (r146.2.2.1)
                      (.ite (decide (0 ≤ (8 : Int)))
                        (.opt Int (mmu_bit y147.written (32768 : Int)) fun r148 =>
                          .leaf ((IntKind.wrap .i64 (((BitVec.ofInt 64 (IntKind.wrap .i64 (((BitVec.ofInt 64 y147.length ||| BitVec.ofInt 64 (IntKind.wrap .i64 (y147.access * 2 ^ (min ((8 : Int)).toNat 64)))).toNat : Int))) ||| BitVec.ofInt 64 r148).toNat : Int)), true)))
                        .fail)
                      (.leaf ((y147.base, true))))
                  .fail)
                .fail)
              .fail)
            .fail)))
noncomputable def mmu_Read (x0 : Mmu) (x1 : Int) : Option (Int × Bool) := (Tmmu_Read x0 x1).run
noncomputable def Ammu_Read : Arg U (Mmu × Int × Unit) := aA cMmu (aO (cInt .i64) (aNil))
noncomputable def Rmmu_Read (r : (Int × Bool)) : List (V U) × List (Blk U) := ([vO (cInt .i64) r.1, vO cBool r.2], [])
noncomputable def Smmu_Read : List (V U) → List (Blk U) → Option (FnOut U) := mkSpec Ammu_Read bNil (fun x _ => mmu_Read x.1 x.2.1) Rmmu_Read
noncomputable def Emmu_Read : Env U := { P := Tryz.prog, cd := cd, fns := fns166, lps := noL, frz := fun _r => false, nt := 53, n0 := 0 }
theorem runmmu_Read (x : Mmu × Int × Unit) (g : Unit) : execF Emmu_Read Tryz.f112 (Ammu_Read.enc x) (bNil.enc g) = (Tmmu_Read x.1 x.2.1).map Rmmu_Read := by kernel_rfl
theorem okmmu_Read : FnOk Tryz.prog cd 112 Smmu_Read := mk_ok (E := Emmu_Read) cd_ok fns166_ok Tryz.func112 (by kernel_rfl) (noLoops_body (by kernel_rfl)) (aA_ok cMmu_ok (aO_ok (cInt_ok .i64) (aNil_ok))) bNil_ok (T := fun x _ => Tmmu_Read x.1 x.2.1) (fun _ _ => rfl) runmmu_Read
noncomputable def fns112 := addF 112 true Smmu_Read fns166
theorem fns112_ok : ∀ f q t, fns112 f = some (q, t) → FnOk Tryz.prog cd f t := addF_ok okmmu_Read fns166_ok
/-- emulator/clock.Read -/
noncomputable def Tclock_Read (x0 : Clock) : Tree Int :=
  .ite (x0.enable)
    (.ite (x0.ready)
      (.leaf (IntKind.wrap .i64 ((IntKind.wrap .i64 ((0 : Int) + (64 : Int))) + (128 : Int))))
      (.leaf (IntKind.wrap .i64 ((0 : Int) + (64 : Int)))))
    (.ite (x0.ready)
      (.leaf (IntKind.wrap .i64 ((0 : Int) + (128 : Int))))
      (.leaf ((0 : Int))))
noncomputable def clock_Read (x0 : Clock) : Option Int := (Tclock_Read x0).run
noncomputable def Aclock_Read : Arg U (Clock × Unit) := aA cClock (aNil)
noncomputable def Rclock_Read (r : Int) : List (V U) × List (Blk U) := ([vO (cInt .i64) r], [])
noncomputable def Sclock_Read : List (V U) → List (Blk U) → Option (FnOut U) := mkSpec Aclock_Read bNil (fun x _ => clock_Read x.1) Rclock_Read
noncomputable def Eclock_Read : Env U := { P := Tryz.prog, cd := cd, fns := fns112, lps := noL, frz := fun _r => false, nt := 13, n0 := 0 }
theorem runclock_Read (x : Clock × Unit) (g : Unit) : execF Eclock_Read Tryz.f113 (Aclock_Read.enc x) (bNil.enc g) = (Tclock_Read x.1).map Rclock_Read := by kernel_rfl
theorem okclock_Read : FnOk Tryz.prog cd 113 Sclock_Read := mk_ok (E := Eclock_Read) cd_ok fns112_ok Tryz.func113 (by kernel_rfl) (noLoops_body (by kernel_rfl)) (aA_ok cClock_ok (aNil_ok)) bNil_ok (T := fun x _ => Tclock_Read x.1) (fun _ _ => rfl) runclock_Read
noncomputable def fns113 := addF 113 true Sclock_Read fns112
theorem fns113_ok : ∀ f q t, fns113 f = some (q, t) → FnOk Tryz.prog cd f t := addF_ok okclock_Read fns112_ok
/-- emulator/diskctl.bit -/
noncomputable def Tdiskctl_bit (x0 : Bool) (x1 : Int) : Tree Int :=
  .ite (x0)
    (.leaf (x1))
    (.leaf ((0 : Int)))
noncomputable def diskctl_bit (x0 : Bool) (x1 : Int) : Option Int := (Tdiskctl_bit x0 x1).run
noncomputable def Adiskctl_bit : Arg U (Bool × Int × Unit) := aO cBool (aO (cInt .i64) (aNil))
noncomputable def Rdiskctl_bit (r : Int) : List (V U) × List (Blk U) := ([vO (cInt .i64) r], [])
noncomputable def Sdiskctl_bit : List (V U) → List (Blk U) → Option (FnOut U) := mkSpec Adiskctl_bit bNil (fun x _ => diskctl_bit x.1 x.2.1) Rdiskctl_bit
noncomputable def Ediskctl_bit : Env U := { P := Tryz.prog, cd := cd, fns := fns113, lps := noL, frz := fun _r => false, nt := 7, n0 := 0 }
theorem rundiskctl_bit (x : Bool × Int × Unit) (g : Unit) : execF Ediskctl_bit Tryz.f167 (Adiskctl_bit.enc x) (bNil.enc g) = (Tdiskctl_bit x.1 x.2.1).map Rdiskctl_bit := by kernel_rfl
theorem okdiskctl_bit : FnOk Tryz.prog cd 167 Sdiskctl_bit := mk_ok (E := Ediskctl_bit) cd_ok fns113_ok Tryz.func167 (by kernel_rfl) (noLoops_body (by kernel_rfl)) (aO_ok cBool_ok (aO_ok (cInt_ok .i64) (aNil_ok))) bNil_ok (T := fun x _ => Tdiskctl_bit x.1 x.2.1) (fun _ _ => rfl) rundiskctl_bit
noncomputable def fns167 := addF 167 true Sdiskctl_bit fns113
theorem fns167_ok : ∀ f q t, fns167 f = some (q, t) → FnOk Tryz.prog cd f t := addF_ok okdiskctl_bit fns113_ok
/-- emulator/diskctl.Read -/
noncomputable def Tdiskctl_Read (x0 : Disk) (x1 : Int) : Tree (Int × Bool) :=
  .ite (decide (x1 = (0 : Int)))
    (.ite (decide (0 ≤ (1 : Int)))
      (.opt Int (diskctl_bit x0.enable (64 : Int)) fun r149 =>
        .opt Int (diskctl_bit x0.ready (128 : Int)) fun r150 =>
          .opt Int (diskctl_bit x0.error (32768 : Int)) fun r151 =>
            .leaf ((IntKind.wrap .i64 (((BitVec.ofInt 64 (IntKind.wrap .i64 (((BitVec.ofInt 64 (IntKind.wrap .i64 (((BitVec.ofInt 64 (IntKind.wrap .i64 (x0.command * 2 ^ (min ((1 : Int)).toNat 64))) ||| BitVec.ofInt 64 r149).toNat : Int))) ||| BitVec.ofInt 64 r150).toNat : Int))) ||| BitVec.ofInt 64 r151).toNat : Int)), true)))
      .fail)
    (.ite (decide (x1 = (2 : Int)))
      (.leaf ((x0.words, true)))
      (.ite (decide (x1 = (4 : Int)))
        (.leaf ((x0.addr, true)))
        (.ite (decide (x1 = (6 : Int)))
          (.leaf ((x0.start, true)))
          (.leaf (((0 : Int), false))))))
noncomputable def diskctl_Read (x0 : Disk) (x1 : Int) : Option (Int × Bool) := (Tdiskctl_Read x0 x1).run
noncomputable def Adiskctl_Read : Arg U (Disk × Int × Unit) := aA cDisk (aO (cInt .i64) (aNil))
noncomputable def Rdiskctl_Read (r : (Int × Bool)) : List (V U) × List (Blk U) := ([vO (cInt .i64) r.1, vO cBool r.2], [])
noncomputable def Sdiskctl_Read : List (V U) → List (Blk U) → Option (FnOut U) := mkSpec Adiskctl_Read bNil (fun x _ => diskctl_Read x.1 x.2.1) Rdiskctl_Read
noncomputable def Ediskctl_Read : Env U := { P := Tryz.prog, cd := cd, fns := fns167, lps := noL, frz := fun _r => false, nt := 36, n0 := 0 }
theorem rundiskctl_Read (x : Disk × Int × Unit) (g : Unit) : execF Ediskctl_Read Tryz.f114 (Adiskctl_Read.enc x) (bNil.enc g) = (Tdiskctl_Read x.1 x.2.1).map Rdiskctl_Read := by kernel_rfl
theorem okdiskctl_Read : FnOk Tryz.prog cd 114 Sdiskctl_Read := mk_ok (E := Ediskctl_Read) cd_ok fns167_ok Tryz.func114 (by kernel_rfl) (noLoops_body (by kernel_rfl)) (aA_ok cDisk_ok (aO_ok (cInt_ok .i64) (aNil_ok))) bNil_ok (T := fun x _ => Tdiskctl_Read x.1 x.2.1) (fun _ _ => rfl) rundiskctl_Read
noncomputable def fns114 := addF 114 true Sdiskctl_Read fns167
theorem fns114_ok : ∀ f q t, fns114 f = some (q, t) → FnOk Tryz.prog cd f t := addF_ok okdiskctl_Read fns167_ok
/-- emulator/tape.bit -/
noncomputable def Ttape_bit (x0 : Bool) (x1 : Int) : Tree Int :=
  .ite (x0)
    (.leaf (x1))
    (.leaf ((0 : Int)))
noncomputable def tape_bit (x0 : Bool) (x1 : Int) : Option Int := (Ttape_bit x0 x1).run
noncomputable def Atape_bit : Arg U (Bool × Int × Unit) := aO cBool (aO (cInt .i64) (aNil))
noncomputable def Rtape_bit (r : Int) : List (V U) × List (Blk U) := ([vO (cInt .i64) r], [])
noncomputable def Stape_bit : List (V U) → List (Blk U) → Option (FnOut U) := mkSpec Atape_bit bNil (fun x _ => tape_bit x.1 x.2.1) Rtape_bit
noncomputable def Etape_bit : Env U := { P := Tryz.prog, cd := cd, fns := fns114, lps := noL, frz := fun _r => false, nt := 7, n0 := 0 }
theorem runtape_bit (x : Bool × Int × Unit) (g : Unit) : execF Etape_bit Tryz.f168 (Atape_bit.enc x) (bNil.enc g) = (Ttape_bit x.1 x.2.1).map Rtape_bit := by kernel_rfl
theorem oktape_bit : FnOk Tryz.prog cd 168 Stape_bit := mk_ok (E := Etape_bit) cd_ok fns114_ok Tryz.func168 (by kernel_rfl) (noLoops_body (by kernel_rfl)) (aO_ok cBool_ok (aO_ok (cInt_ok .i64) (aNil_ok))) bNil_ok (T := fun x _ => Ttape_bit x.1 x.2.1) (fun _ _ => rfl) runtape_bit
noncomputable def fns168 := addF 168 true Stape_bit fns114
theorem fns168_ok : ∀ f q t, fns168 f = some (q, t) → FnOk Tryz.prog cd f t := addF_ok oktape_bit fns114_ok
/-- emulator/tape.Read -/
noncomputable def Ttape_Read (x0 : Tape) (x1 : Int) : Tree (Int × Bool) :=
  .ite (decide (x1 = (0 : Int)))
    (.ite (decide (0 ≤ (1 : Int)))
      (.opt Int (tape_bit x0.enable (64 : Int)) fun r152 =>
        .opt Int (tape_bit x0.ready (128 : Int)) fun r153 =>
          .opt Int (tape_bit x0.mark (256 : Int)) fun r154 =>
            .opt Int (tape_bit x0.end_ (512 : Int)) fun r155 =>
              .opt Int (tape_bit x0.error (32768 : Int)) fun r156 =>
                .leaf ((IntKind.wrap .i64 (((BitVec.ofInt 64 (IntKind.wrap .i64 (((BitVec.ofInt 64 (IntKind.wrap .i64 (((BitVec.ofInt 64 (IntKind.wrap .i64 (((BitVec.ofInt 64 (IntKind.wrap .i64 (((BitVec.ofInt 64 (IntKind.wrap .i64 (x0.command * 2 ^ (min ((1 : Int)).toNat 64))) ||| BitVec.ofInt 64 r152).toNat : Int))) ||| BitVec.ofInt 64 r153).toNat : Int))) ||| BitVec.ofInt 64 r154).toNat : Int))) ||| BitVec.ofInt 64 r155).toNat : Int))) ||| BitVec.ofInt 64 r156).toNat : Int)), true)))
      .fail)
    (.ite (decide (x1 = (2 : Int)))
      (.leaf ((x0.count, true)))
      (.ite (decide (x1 = (4 : Int)))
        (.leaf ((x0.addr, true)))
        (.leaf (((0 : Int), false)))))
noncomputable def tape_Read (x0 : Tape) (x1 : Int) : Option (Int × Bool) := (Ttape_Read x0 x1).run
noncomputable def Atape_Read : Arg U (Tape × Int × Unit) := aA cTape (aO (cInt .i64) (aNil))
noncomputable def Rtape_Read (r : (Int × Bool)) : List (V U) × List (Blk U) := ([vO (cInt .i64) r.1, vO cBool r.2], [])
noncomputable def Stape_Read : List (V U) → List (Blk U) → Option (FnOut U) := mkSpec Atape_Read bNil (fun x _ => tape_Read x.1 x.2.1) Rtape_Read
noncomputable def Etape_Read : Env U := { P := Tryz.prog, cd := cd, fns := fns168, lps := noL, frz := fun _r => false, nt := 40, n0 := 0 }
theorem runtape_Read (x : Tape × Int × Unit) (g : Unit) : execF Etape_Read Tryz.f115 (Atape_Read.enc x) (bNil.enc g) = (Ttape_Read x.1 x.2.1).map Rtape_Read := by kernel_rfl
theorem oktape_Read : FnOk Tryz.prog cd 115 Stape_Read := mk_ok (E := Etape_Read) cd_ok fns168_ok Tryz.func115 (by kernel_rfl) (noLoops_body (by kernel_rfl)) (aA_ok cTape_ok (aO_ok (cInt_ok .i64) (aNil_ok))) bNil_ok (T := fun x _ => Ttape_Read x.1 x.2.1) (fun _ _ => rfl) runtape_Read
noncomputable def fns115 := addF 115 true Stape_Read fns168
theorem fns115_ok : ∀ f q t, fns115 f = some (q, t) → FnOk Tryz.prog cd f t := addF_ok oktape_Read fns168_ok
/-- emulator/bus.get -/
noncomputable def Tbus_get (x0 : Machine) (x1 : Int) : Tree (Machine × Int × Bool) :=
  .opt (Int × Int × Bool) (bus_lineOf x0 x1) fun r157 =>
    .ite (r157.2.2)
      (.ite (decide (0 ≤ r157.1))
        (.opt Line (x0.lines[(r157.1).toNat]?) fun y158 =>
          .opt (Line × Int) (line_Read y158 r157.2.1) fun r159 =>
            .opt (List Line) (cloneF 56 x0.lines) fun r160 =>
              .ite (decide (0 ≤ r157.1))
                (.ite (decide (r157.1 < (r160.length : Int)))
                  (.opt Line (r160[(r157.1).toNat]?) fun y161 =>
                    .leaf ((Machine.mk x0.cpu x0.mem x0.bad x0.mmu x0.clock (r160.set ((r157.1).toNat) r159.1) x0.disk x0.tape x0.now x0.halted x0.waiting x0.power x0.powerTrap, r159.2, true)))
                  .fail)
                .fail)
        .fail)
      (.ite (decide (x1 < (256 : Int)))
        (.opt (Int × Bool) (mmu_Read x0.mmu x1) fun r162 =>
          .leaf ((x0, r162.1, r162.2)))
        (.ite (decide (x1 = (256 : Int)))
          (.opt Int (clock_Read x0.clock) fun r163 =>
            .leaf ((x0, r163, true)))
          (.ite (decide ((768 : Int) ≤ x1))
            (.ite (decide (x1 < (800 : Int)))
              (.opt (Int × Bool) (diskctl_Read x0.disk (IntKind.wrap .i64 (x1 - (768 : Int)))) fun r164 =>
                .leaf ((x0, r164.1, r164.2)))
              (.ite (decide ((800 : Int) ≤ x1))
                (.opt (Int × Bool) (tape_Read x0.tape (IntKind.wrap .i64 (x1 - (800 : Int)))) fun r165 =>
                  .leaf ((x0, r165.1, r165.2)))
                (.leaf ((x0, (0 : Int), false)))))
            (.ite (decide ((800 : Int) ≤ x1))
              (.opt (Int × Bool) (tape_Read x0.tape (IntKind.wrap .i64 (x1 - (800 : Int)))) fun r166 =>
                .leaf ((x0, r166.1, r166.2)))
              (.leaf ((x0, (0 : Int), false)))))))
noncomputable def bus_get (x0 : Machine) (x1 : Int) : Option (Machine × Int × Bool) := (Tbus_get x0 x1).run
noncomputable def Abus_get : Arg U (Machine × Int × Unit) := aA cMachine (aO (cInt .i64) (aNil))
noncomputable def Rbus_get (r : (Machine × Int × Bool)) : List (V U) × List (Blk U) := ([vA cMachine r.1, vO (cInt .i64) r.2.1, vO cBool r.2.2], [])
noncomputable def Sbus_get : List (V U) → List (Blk U) → Option (FnOut U) := mkSpec Abus_get bNil (fun x _ => bus_get x.1 x.2.1) Rbus_get
noncomputable def Ebus_get : Env U := { P := Tryz.prog, cd := cd, fns := (addF 104 false (cloneSpec 55 56) fns115), lps := noL, frz := fun _r => false, nt := 88, n0 := 0 }
theorem runbus_get (x : Machine × Int × Unit) (g : Unit) : execF Ebus_get Tryz.f67 (Abus_get.enc x) (bNil.enc g) = (Tbus_get x.1 x.2.1).map Rbus_get := by kernel_rfl
theorem okbus_get : FnOk Tryz.prog cd 67 Sbus_get := mk_ok (E := Ebus_get) cd_ok (addF_ok okslices_Clone_api_Line_api_Line fns115_ok) Tryz.func67 (by kernel_rfl) (noLoops_body (by kernel_rfl)) (aA_ok cMachine_ok (aO_ok (cInt_ok .i64) (aNil_ok))) bNil_ok (T := fun x _ => Tbus_get x.1 x.2.1) (fun _ _ => rfl) runbus_get
noncomputable def fns67 := addF 67 true Sbus_get fns115
theorem fns67_ok : ∀ f q t, fns67 f = some (q, t) → FnOk Tryz.prog cd f t := addF_ok okbus_get fns115_ok
/-- emulator/bus.Read -/
noncomputable def Tbus_Read (q : Option Nat) (x0 : Machine) (x1 : Int) (x2 : Bool) : Tree (Machine × Int × Int) :=
  .ite (decide ((IntKind.wrap .i64 (((BitVec.ofInt 64 x1 &&& BitVec.ofInt 64 (262143 : Int)).toNat : Int))) < (253952 : Int)))
    (.opt (Int × Int) (memory_Read q x0.mem x0.bad (IntKind.wrap .i64 (((BitVec.ofInt 64 x1 &&& BitVec.ofInt 64 (262143 : Int)).toNat : Int))) x2) fun r167 =>
      .leaf ((x0, r167.1, r167.2)))
    (.ite (!x2)
      (.ite (decide ((2 : Int) = 0))
        .fail
        (.ite (!decide ((((IntKind.wrap .i64 (((BitVec.ofInt 64 x1 &&& BitVec.ofInt 64 (262143 : Int)).toNat : Int)))).tmod (2 : Int)) = (0 : Int)))
          (.leaf ((x0, (0 : Int), (1 : Int))))
          (.opt (Machine × Int × Bool) (bus_get x0 (IntKind.wrap .i64 (((BitVec.ofInt 64 (IntKind.wrap .i64 ((IntKind.wrap .i64 (((BitVec.ofInt 64 x1 &&& BitVec.ofInt 64 (262143 : Int)).toNat : Int))) - (253952 : Int))) &&& ~~~BitVec.ofInt 64 (1 : Int)).toNat : Int)))) fun r168 =>
            .ite (!r168.2.2)
              (.leaf ((x0, (0 : Int), (1 : Int))))
              (.ite (x2)
                (.ite (decide ((2 : Int) = 0))
                  .fail
                  (.ite (!decide ((((IntKind.wrap .i64 (((BitVec.ofInt 64 x1 &&& BitVec.ofInt 64 (262143 : Int)).toNat : Int)))).tmod (2 : Int)) = (0 : Int)))
                    (.ite (decide (0 ≤ (8 : Int)))
                      (.leaf ((r168.1, (r168.2.1).fdiv (2 ^ (min ((8 : Int)).toNat 64)), (0 : Int))))
                      .fail)
                    (.ite (x2)
                      (.leaf ((r168.1, IntKind.wrap .i64 (((BitVec.ofInt 64 r168.2.1 &&& BitVec.ofInt 64 (255 : Int)).toNat : Int)), (0 : Int))))
                      (.leaf ((r168.1, r168.2.1, (0 : Int)))))))
                (.ite (x2)
                  (.leaf ((r168.1, IntKind.wrap .i64 (((BitVec.ofInt 64 r168.2.1 &&& BitVec.ofInt 64 (255 : Int)).toNat : Int)), (0 : Int))))
                  (.leaf ((r168.1, r168.2.1, (0 : Int)))))))))
      (.opt (Machine × Int × Bool) (bus_get x0 (IntKind.wrap .i64 (((BitVec.ofInt 64 (IntKind.wrap .i64 ((IntKind.wrap .i64 (((BitVec.ofInt 64 x1 &&& BitVec.ofInt 64 (262143 : Int)).toNat : Int))) - (253952 : Int))) &&& ~~~BitVec.ofInt 64 (1 : Int)).toNat : Int)))) fun r169 =>
        .ite (!r169.2.2)
          (.leaf ((x0, (0 : Int), (1 : Int))))
          (.ite (x2)
            (.ite (decide ((2 : Int) = 0))
              .fail
              (.ite (!decide ((((IntKind.wrap .i64 (((BitVec.ofInt 64 x1 &&& BitVec.ofInt 64 (262143 : Int)).toNat : Int)))).tmod (2 : Int)) = (0 : Int)))
                (.ite (decide (0 ≤ (8 : Int)))
                  (.leaf ((r169.1, (r169.2.1).fdiv (2 ^ (min ((8 : Int)).toNat 64)), (0 : Int))))
                  .fail)
                (.ite (x2)
                  (.leaf ((r169.1, IntKind.wrap .i64 (((BitVec.ofInt 64 r169.2.1 &&& BitVec.ofInt 64 (255 : Int)).toNat : Int)), (0 : Int))))
                  (.leaf ((r169.1, r169.2.1, (0 : Int)))))))
            (.ite (x2)
              (.leaf ((r169.1, IntKind.wrap .i64 (((BitVec.ofInt 64 r169.2.1 &&& BitVec.ofInt 64 (255 : Int)).toNat : Int)), (0 : Int))))
              (.leaf ((r169.1, r169.2.1, (0 : Int))))))))
noncomputable def bus_Read (q : Option Nat) (x0 : Machine) (x1 : Int) (x2 : Bool) : Option (Machine × Int × Int) := (Tbus_Read q x0 x1 x2).run
theorem lebus_Read (k : Nat) (x0 : Machine) (x1 : Int) (x2 : Bool) : Le (bus_Read (some k) x0 x1 x2) (bus_Read none x0 x1 x2) := (TLe.ite (TLe.opt (lememory_Read k _ _ _ _) fun _ => TLe.rfl) TLe.rfl)
noncomputable def Abus_Read : Arg U (Machine × Int × Bool × Unit) := aA cMachine (aO (cInt .i64) (aO cBool (aNil)))
noncomputable def Rbus_Read (r : (Machine × Int × Int)) : List (V U) × List (Blk U) := ([vA cMachine r.1, vO (cInt .i64) r.2.1, vO (cInt .i64) r.2.2], [])
noncomputable def Sbus_Read : List (V U) → List (Blk U) → Option (FnOut U) := mkSpec Abus_Read bNil (fun x _ => bus_Read none x.1 x.2.1 x.2.2.1) Rbus_Read
noncomputable def Ebus_Read : Env U := { P := Tryz.prog, cd := cd, fns := fns67, lps := noL, frz := fun _r => false, nt := 68, n0 := 0 }
theorem runbus_Read (x : Machine × Int × Bool × Unit) (g : Unit) : execF Ebus_Read Tryz.f27 (Abus_Read.enc x) (bNil.enc g) = (Tbus_Read none x.1 x.2.1 x.2.2.1).map Rbus_Read := by kernel_rfl
theorem okbus_Read : FnOk Tryz.prog cd 27 Sbus_Read := mk_ok (E := Ebus_Read) cd_ok fns67_ok Tryz.func27 (by kernel_rfl) (noLoops_body (by kernel_rfl)) (aA_ok cMachine_ok (aO_ok (cInt_ok .i64) (aO_ok cBool_ok (aNil_ok)))) bNil_ok (T := fun x _ => Tbus_Read none x.1 x.2.1 x.2.2.1) (fun _ _ => rfl) runbus_Read
noncomputable def fns27 := addF 27 true Sbus_Read fns67
theorem fns27_ok : ∀ f q t, fns27 f = some (q, t) → FnOk Tryz.prog cd f t := addF_ok okbus_Read fns67_ok
/-- emulator/emulatorlaw18.alive -/
noncomputable def Tlaw18_alive (q : Option Nat)  : Tree Bool :=
  .opt (Machine × Int) (ref20_New q (256 : Int) (1 : Int) (1 : Int)) fun r170 =>
    .opt (Machine × Int) (bus_Write q r170.1 (10 : Int) false (4660 : Int)) fun r171 =>
      .opt (Machine × Int × Int) (bus_Read q r171.1 (11 : Int) true) fun r172 =>
        .opt (Machine × Int × Int) (bus_Read q r170.1 (256 : Int) false) fun r173 =>
          .opt (Machine × Int × Int) (bus_Read q r170.1 (11 : Int) false) fun r174 =>
            .opt (Machine × Int × Int) (bus_Read q (Machine.mk r170.1.cpu r170.1.mem r170.1.bad r170.1.mmu (Clock.mk true true r170.1.clock.period r170.1.clock.left) r170.1.lines r170.1.disk r170.1.tape r170.1.now r170.1.halted r170.1.waiting r170.1.power r170.1.powerTrap) (254208 : Int) false) fun r175 =>
              .opt (Machine × Int × Int) (bus_Read q (Machine.mk r170.1.cpu r170.1.mem r170.1.bad r170.1.mmu (Clock.mk true true r170.1.clock.period r170.1.clock.left) r170.1.lines r170.1.disk r170.1.tape r170.1.now r170.1.halted r170.1.waiting r170.1.power r170.1.powerTrap) (254209 : Int) true) fun r176 =>
                .opt (Machine × Int) (bus_Write q r170.1 (254208 : Int) true (64 : Int)) fun r177 =>
                  .opt (Machine × Int) (bus_Write q r170.1 (254209 : Int) true (64 : Int)) fun r178 =>
                    .ite (decide (r170.2 = (0 : Int)))
                      (.ite (decide (r171.2 = (0 : Int)))
                        (.ite (decide (r172.2.2 = (0 : Int)))
                          (.ite (decide (r172.2.1 = (18 : Int)))
                            (.ite (decide (r173.2.2 = (1 : Int)))
                              (.ite (decide (r174.2.2 = (1 : Int)))
                                (.ite (decide (r175.2.2 = (0 : Int)))
                                  (.ite (decide (r175.2.1 = (192 : Int)))
                                    (.ite (decide (r176.2.2 = (0 : Int)))
                                      (.ite (decide (r176.2.1 = (0 : Int)))
                                        (.ite (decide (r177.2 = (0 : Int)))
                                          (.ite (r177.1.clock.enable)
                                            (.leaf (decide (r178.2 = (1 : Int))))
                                            (.leaf (false)))
                                          (.leaf (false)))
                                        (.leaf (false)))
                                      (.leaf (false)))
                                    (.leaf (false)))
                                  (.leaf (false)))
                                (.leaf (false)))
                              (.leaf (false)))
                            (.leaf (false)))
                          (.leaf (false)))
                        (.leaf (false)))
                      (.leaf (false))
noncomputable def law18_alive (q : Option Nat)  : Option Bool := (Tlaw18_alive q ).run
theorem lelaw18_alive (k : Nat)  : Le (law18_alive (some k) ) (law18_alive none ) := (TLe.opt (leref20_New k _ _ _) fun _ => (TLe.opt (lebus_Write k _ _ _ _) fun _ => (TLe.opt (lebus_Read k _ _ _) fun _ => (TLe.opt (lebus_Read k _ _ _) fun _ => (TLe.opt (lebus_Read k _ _ _) fun _ => (TLe.opt (lebus_Read k _ _ _) fun _ => (TLe.opt (lebus_Read k _ _ _) fun _ => (TLe.opt (lebus_Write k _ _ _ _) fun _ => (TLe.opt (lebus_Write k _ _ _ _) fun _ => TLe.rfl)))))))))
noncomputable def Alaw18_alive : Arg U (Unit) := aNil
noncomputable def Rlaw18_alive (r : Bool) : List (V U) × List (Blk U) := ([vO cBool r], [])
noncomputable def Slaw18_alive : List (V U) → List (Blk U) → Option (FnOut U) := mkSpec Alaw18_alive bNil (fun x _ => law18_alive none ) Rlaw18_alive
noncomputable def Elaw18_alive : Env U := { P := Tryz.prog, cd := cd, fns := fns27, lps := noL, frz := fun _r => false, nt := 130, n0 := 0 }
theorem runlaw18_alive (x : Unit) (g : Unit) : execF Elaw18_alive Tryz.f7 (Alaw18_alive.enc x) (bNil.enc g) = (Tlaw18_alive none ).map Rlaw18_alive := by kernel_rfl
theorem oklaw18_alive : FnOk Tryz.prog cd 7 Slaw18_alive := mk_ok (E := Elaw18_alive) cd_ok fns27_ok Tryz.func7 (by kernel_rfl) (noLoops_body (by kernel_rfl)) (aNil_ok) bNil_ok (T := fun x _ => Tlaw18_alive none ) (fun _ _ => rfl) runlaw18_alive
noncomputable def fns7 := addF 7 true Slaw18_alive fns27
theorem fns7_ok : ∀ f q t, fns7 f = some (q, t) → FnOk Tryz.prog cd f t := addF_ok oklaw18_alive fns27_ok
end Go.Proofs.YtfdndagnolbnhaaGreat
