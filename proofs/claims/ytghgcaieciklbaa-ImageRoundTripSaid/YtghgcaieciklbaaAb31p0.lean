/- The types of the program, and how they are told in cells. -/
import Derived.Test.YtghgcaieciklbaaAbMore
import Derived.Test.YtghgcaieciklbaaAbClone
import Derived.Ground.NamesProg
import Derived.Shelf.Lay
import Derived.Shelf.SlGeneric
import Derived.Ground.SlgnProg
import Derived.Test.YtghgcaieciklbaaProg
import Derived.KernelRfl
set_option linter.unusedSimpArgs false
namespace Go.Proofs.Ytghgcaieciklbaa
open Go Go.Ab
structure Symbol where
  name : (List UInt8)
  section_ : Int
  value : Int
  global : Bool
  deriving DecidableEq
structure Image where
  text : (List UInt8)
  data : (List UInt8)
  bss : Int
  entry : Int
  symbols : (List Symbol)
  deriving DecidableEq
structure Cpu where
  r : (List Int)
  sP : (List Int)
  pC : Int
  pSW : Int
  deriving DecidableEq
structure Page where
  base : Int
  length : Int
  access : Int
  written : Bool
  deriving DecidableEq
structure Mmu where
  on : Bool
  pages : (List Page)
  status : Int
  addr : Int
  deriving DecidableEq
structure Clock where
  enable : Bool
  ready : Bool
  period : Int
  left : Int
  deriving DecidableEq
structure Line where
  rxEnable : Bool
  rxReady : Bool
  overrun : Bool
  rxData : Int
  txEnable : Bool
  txReady : Bool
  txData : Int
  txLeft : Int
  out : (List UInt8)
  deriving DecidableEq
structure Drive where
  sectors : (List (List UInt8))
  bad : (List Int)
  deriving DecidableEq
structure Disk where
  drive : Drive
  enable : Bool
  ready : Bool
  error : Bool
  command : Int
  words : Int
  addr : Int
  start : Int
  left : Int
  deriving DecidableEq
structure Tape where
  records : (List (List UInt8))
  pos : Int
  enable : Bool
  ready : Bool
  error : Bool
  mark : Bool
  end_ : Bool
  command : Int
  count : Int
  addr : Int
  left : Int
  deriving DecidableEq
structure Machine where
  cpu : Cpu
  mem : (List Int)
  bad : (List Int)
  mmu : Mmu
  clock : Clock
  lines : (List Line)
  disk : Disk
  tape : Tape
  now : Int
  halted : Bool
  waiting : Bool
  power : Int
  powerTrap : Bool
  deriving DecidableEq
structure Reader where
  s : (List UInt8)
  at_ : Int
  bad : Bool
  deriving DecidableEq
abbrev tys : List (Nat × Type) := [(3, Int), (5, Int), (9, (List UInt8)), (44, Page), (75, Symbol), (144, Line)]
abbrev U : Nat → Type := findT tys
noncomputable def cSymbol : Cdc U Symbol := cMap (fun x => Symbol.mk x.1 x.2.1 x.2.2.1 x.2.2.2.1) (fun x => (x.name, x.section_, x.value, x.global, ())) (cPair cStr (cPair (cInt .i64) (cPair (cInt .i64) (cPair cBool (cUnit)))))
theorem cSymbol_ok : cSymbol.Ok := cMap_ok (cPair_ok cStr_ok (cPair_ok (cInt_ok .i64) (cPair_ok (cInt_ok .i64) (cPair_ok cBool_ok cUnit_ok)))) fun _ => rfl
noncomputable def cImage : Cdc U Image := cMap (fun x => Image.mk x.1 x.2.1 x.2.2.1 x.2.2.2.1 x.2.2.2.2.1) (fun x => (x.text, x.data, x.bss, x.entry, x.symbols, ())) (cPair cStr (cPair cStr (cPair (cInt .i64) (cPair (cInt .i64) (cPair (cSl 75) (cUnit))))))
theorem cImage_ok : cImage.Ok := cMap_ok (cPair_ok cStr_ok (cPair_ok cStr_ok (cPair_ok (cInt_ok .i64) (cPair_ok (cInt_ok .i64) (cPair_ok (cSl_ok 75) cUnit_ok))))) fun _ => rfl
noncomputable def cCpu : Cdc U Cpu := cMap (fun x => Cpu.mk x.1 x.2.1 x.2.2.1 x.2.2.2.1) (fun x => (x.r, x.sP, x.pC, x.pSW, ())) (cPair (cArr 3 6) (cPair (cArr 3 2) (cPair (cInt .i64) (cPair (cInt .i64) (cUnit)))))
theorem cCpu_ok : cCpu.Ok := cMap_ok (cPair_ok (cArr_ok 3 6) (cPair_ok (cArr_ok 3 2) (cPair_ok (cInt_ok .i64) (cPair_ok (cInt_ok .i64) cUnit_ok)))) fun _ => rfl
noncomputable def cPage : Cdc U Page := cMap (fun x => Page.mk x.1 x.2.1 x.2.2.1 x.2.2.2.1) (fun x => (x.base, x.length, x.access, x.written, ())) (cPair (cInt .i64) (cPair (cInt .i64) (cPair (cInt .i64) (cPair cBool (cUnit)))))
theorem cPage_ok : cPage.Ok := cMap_ok (cPair_ok (cInt_ok .i64) (cPair_ok (cInt_ok .i64) (cPair_ok (cInt_ok .i64) (cPair_ok cBool_ok cUnit_ok)))) fun _ => rfl
noncomputable def cMmu : Cdc U Mmu := cMap (fun x => Mmu.mk x.1 x.2.1 x.2.2.1 x.2.2.2.1) (fun x => (x.on, x.pages, x.status, x.addr, ())) (cPair cBool (cPair (cArr 44 16) (cPair (cInt .i64) (cPair (cInt .i64) (cUnit)))))
theorem cMmu_ok : cMmu.Ok := cMap_ok (cPair_ok cBool_ok (cPair_ok (cArr_ok 44 16) (cPair_ok (cInt_ok .i64) (cPair_ok (cInt_ok .i64) cUnit_ok)))) fun _ => rfl
noncomputable def cClock : Cdc U Clock := cMap (fun x => Clock.mk x.1 x.2.1 x.2.2.1 x.2.2.2.1) (fun x => (x.enable, x.ready, x.period, x.left, ())) (cPair cBool (cPair cBool (cPair (cInt .i64) (cPair (cInt .i64) (cUnit)))))
theorem cClock_ok : cClock.Ok := cMap_ok (cPair_ok cBool_ok (cPair_ok cBool_ok (cPair_ok (cInt_ok .i64) (cPair_ok (cInt_ok .i64) cUnit_ok)))) fun _ => rfl
noncomputable def cLine : Cdc U Line := cMap (fun x => Line.mk x.1 x.2.1 x.2.2.1 x.2.2.2.1 x.2.2.2.2.1 x.2.2.2.2.2.1 x.2.2.2.2.2.2.1 x.2.2.2.2.2.2.2.1 x.2.2.2.2.2.2.2.2.1) (fun x => (x.rxEnable, x.rxReady, x.overrun, x.rxData, x.txEnable, x.txReady, x.txData, x.txLeft, x.out, ())) (cPair cBool (cPair cBool (cPair cBool (cPair (cInt .i64) (cPair cBool (cPair cBool (cPair (cInt .i64) (cPair (cInt .i64) (cPair cStr (cUnit))))))))))
theorem cLine_ok : cLine.Ok := cMap_ok (cPair_ok cBool_ok (cPair_ok cBool_ok (cPair_ok cBool_ok (cPair_ok (cInt_ok .i64) (cPair_ok cBool_ok (cPair_ok cBool_ok (cPair_ok (cInt_ok .i64) (cPair_ok (cInt_ok .i64) (cPair_ok cStr_ok cUnit_ok))))))))) fun _ => rfl
noncomputable def cDrive : Cdc U Drive := cMap (fun x => Drive.mk x.1 x.2.1) (fun x => (x.sectors, x.bad, ())) (cPair (cSl 9) (cPair (cSl 3) (cUnit)))
theorem cDrive_ok : cDrive.Ok := cMap_ok (cPair_ok (cSl_ok 9) (cPair_ok (cSl_ok 3) cUnit_ok)) fun _ => rfl
noncomputable def cDisk : Cdc U Disk := cMap (fun x => Disk.mk x.1 x.2.1 x.2.2.1 x.2.2.2.1 x.2.2.2.2.1 x.2.2.2.2.2.1 x.2.2.2.2.2.2.1 x.2.2.2.2.2.2.2.1 x.2.2.2.2.2.2.2.2.1) (fun x => (x.drive, x.enable, x.ready, x.error, x.command, x.words, x.addr, x.start, x.left, ())) (cPair cDrive (cPair cBool (cPair cBool (cPair cBool (cPair (cInt .i64) (cPair (cInt .i64) (cPair (cInt .i64) (cPair (cInt .i64) (cPair (cInt .i64) (cUnit))))))))))
theorem cDisk_ok : cDisk.Ok := cMap_ok (cPair_ok cDrive_ok (cPair_ok cBool_ok (cPair_ok cBool_ok (cPair_ok cBool_ok (cPair_ok (cInt_ok .i64) (cPair_ok (cInt_ok .i64) (cPair_ok (cInt_ok .i64) (cPair_ok (cInt_ok .i64) (cPair_ok (cInt_ok .i64) cUnit_ok))))))))) fun _ => rfl
noncomputable def cTape : Cdc U Tape := cMap (fun x => Tape.mk x.1 x.2.1 x.2.2.1 x.2.2.2.1 x.2.2.2.2.1 x.2.2.2.2.2.1 x.2.2.2.2.2.2.1 x.2.2.2.2.2.2.2.1 x.2.2.2.2.2.2.2.2.1 x.2.2.2.2.2.2.2.2.2.1 x.2.2.2.2.2.2.2.2.2.2.1) (fun x => (x.records, x.pos, x.enable, x.ready, x.error, x.mark, x.end_, x.command, x.count, x.addr, x.left, ())) (cPair (cSl 9) (cPair (cInt .i64) (cPair cBool (cPair cBool (cPair cBool (cPair cBool (cPair cBool (cPair (cInt .i64) (cPair (cInt .i64) (cPair (cInt .i64) (cPair (cInt .i64) (cUnit))))))))))))
theorem cTape_ok : cTape.Ok := cMap_ok (cPair_ok (cSl_ok 9) (cPair_ok (cInt_ok .i64) (cPair_ok cBool_ok (cPair_ok cBool_ok (cPair_ok cBool_ok (cPair_ok cBool_ok (cPair_ok cBool_ok (cPair_ok (cInt_ok .i64) (cPair_ok (cInt_ok .i64) (cPair_ok (cInt_ok .i64) (cPair_ok (cInt_ok .i64) cUnit_ok))))))))))) fun _ => rfl
noncomputable def cMachine : Cdc U Machine := cMap (fun x => Machine.mk x.1 x.2.1 x.2.2.1 x.2.2.2.1 x.2.2.2.2.1 x.2.2.2.2.2.1 x.2.2.2.2.2.2.1 x.2.2.2.2.2.2.2.1 x.2.2.2.2.2.2.2.2.1 x.2.2.2.2.2.2.2.2.2.1 x.2.2.2.2.2.2.2.2.2.2.1 x.2.2.2.2.2.2.2.2.2.2.2.1 x.2.2.2.2.2.2.2.2.2.2.2.2.1) (fun x => (x.cpu, x.mem, x.bad, x.mmu, x.clock, x.lines, x.disk, x.tape, x.now, x.halted, x.waiting, x.power, x.powerTrap, ())) (cPair cCpu (cPair (cSl 3) (cPair (cSl 3) (cPair cMmu (cPair cClock (cPair (cSl 144) (cPair cDisk (cPair cTape (cPair (cInt .i64) (cPair cBool (cPair cBool (cPair (cInt .i64) (cPair cBool (cUnit))))))))))))))
theorem cMachine_ok : cMachine.Ok := cMap_ok (cPair_ok cCpu_ok (cPair_ok (cSl_ok 3) (cPair_ok (cSl_ok 3) (cPair_ok cMmu_ok (cPair_ok cClock_ok (cPair_ok (cSl_ok 144) (cPair_ok cDisk_ok (cPair_ok cTape_ok (cPair_ok (cInt_ok .i64) (cPair_ok cBool_ok (cPair_ok cBool_ok (cPair_ok (cInt_ok .i64) (cPair_ok cBool_ok cUnit_ok))))))))))))) fun _ => rfl
noncomputable def cReader : Cdc U Reader := cMap (fun x => Reader.mk x.1 x.2.1 x.2.2.1) (fun x => (x.s, x.at_, x.bad, ())) (cPair cStr (cPair (cInt .i64) (cPair cBool (cUnit))))
theorem cReader_ok : cReader.Ok := cMap_ok (cPair_ok cStr_ok (cPair_ok (cInt_ok .i64) (cPair_ok cBool_ok cUnit_ok))) fun _ => rfl
noncomputable def ents : Ents U tys := .cons ⟨(cInt .i64), some (0 : Int), none, some inferInstance⟩ (.cons ⟨(cInt .u8), some (0 : Int), some (fun x => x, fun x => x), some inferInstance⟩ (.cons ⟨cStr, some ([] : List UInt8), none, some inferInstance⟩ (.cons ⟨cPage, some (Page.mk (0 : Int) (0 : Int) (0 : Int) false), none, some inferInstance⟩ (.cons ⟨cSymbol, some (Symbol.mk ([] : List UInt8) (0 : Int) (0 : Int) false), none, some inferInstance⟩ (.cons ⟨cLine, some (Line.mk false false false (0 : Int) false false (0 : Int) (0 : Int) ([] : List UInt8)), none, some inferInstance⟩ (.nil))))))
noncomputable def cd : Cd U := cdOf ents
theorem eqSPage (cd : Cd U) (x y : Page) : eqT Try.prog cd false 4 44 (cPage.enc x) (cPage.enc y) = some (decide (x = y)) := by
  have h : eqT Try.prog cd false 4 44 (cPage.enc x) (cPage.enc y) = some (decide (x.base = y.base) && (decide (x.length = y.length) && (decide (x.access = y.access) && (x.written == y.written)))) := by kernel_rfl
  rw [h]
  cases x; cases y; rw [Option.some.injEq, Bool.eq_iff_iff]; simp
theorem eqSSymbol (cd : Cd U) (x y : Symbol) : eqT Try.prog cd false 4 75 (cSymbol.enc x) (cSymbol.enc y) = some (decide (x = y)) := by
  have h : eqT Try.prog cd false 4 75 (cSymbol.enc x) (cSymbol.enc y) = some (decide (x.name = y.name) && (decide (x.section_ = y.section_) && (decide (x.value = y.value) && (x.global == y.global)))) := by kernel_rfl
  rw [h]
  cases x; cases y; rw [Option.some.injEq, Bool.eq_iff_iff]; simp
theorem eqSLine (cd : Cd U) (x y : Line) : eqT Try.prog cd false 4 144 (cLine.enc x) (cLine.enc y) = some (decide (x = y)) := by
  have h : eqT Try.prog cd false 4 144 (cLine.enc x) (cLine.enc y) = some ((x.rxEnable == y.rxEnable) && ((x.rxReady == y.rxReady) && ((x.overrun == y.overrun) && (decide (x.rxData = y.rxData) && ((x.txEnable == y.txEnable) && ((x.txReady == y.txReady) && (decide (x.txData = y.txData) && (decide (x.txLeft = y.txLeft) && decide (x.out = y.out))))))))) := by kernel_rfl
  rw [h]
  cases x; cases y; rw [Option.some.injEq, Bool.eq_iff_iff]; simp
theorem ents_ok : EntsOk Try.prog ents := ⟨⟨(cInt_ok .i64), (fun x => by kernel_rfl), (fun x => List.all_eq_true.1 (show (((cInt .i64) : Cdc U _).enc x).all plainC = true by kernel_rfl)), (fun f g h => by cases h), (fun d h cd x y => by cases h; exact eqT_int cd (by kernel_rfl) x y)⟩, ⟨(cInt_ok .u8), (fun x => by kernel_rfl), (fun x => List.all_eq_true.1 (show (((cInt .u8) : Cdc U _).enc x).all plainC = true by kernel_rfl)), (fun f g h => by simp only [Option.some.injEq, Prod.mk.injEq] at h; obtain ⟨rfl, rfl⟩ := h; exact ⟨by kernel_rfl, fun _ => rfl, fun _ => rfl⟩), (fun d h cd x y => by cases h; exact eqT_int cd (by kernel_rfl) x y)⟩, ⟨cStr_ok, (fun x => by kernel_rfl), (fun x => List.all_eq_true.1 (show ((cStr : Cdc U _).enc x).all plainC = true by kernel_rfl)), (fun f g h => by cases h), (fun d h cd x y => by cases h; exact eqT_string cd (by kernel_rfl) x y)⟩, ⟨cPage_ok, (fun x => by kernel_rfl), (fun x => List.all_eq_true.1 (show ((cPage : Cdc U _).enc x).all plainC = true by kernel_rfl)), (fun f g h => by cases h), (fun d h cd x y => by cases h; exact eqSPage cd x y)⟩, ⟨cSymbol_ok, (fun x => by kernel_rfl), (fun x => List.all_eq_true.1 (show ((cSymbol : Cdc U _).enc x).all plainC = true by kernel_rfl)), (fun f g h => by cases h), (fun d h cd x y => by cases h; exact eqSSymbol cd x y)⟩, ⟨cLine_ok, (fun x => by kernel_rfl), (fun x => List.all_eq_true.1 (show ((cLine : Cdc U _).enc x).all plainC = true by kernel_rfl)), (fun f g h => by cases h), (fun d h cd x y => by cases h; exact eqSLine cd x y)⟩, trivial⟩
theorem cd_ok : CdOk Try.prog cd := cdOf_ok ents ents_ok
/-- emulator/emulatorlaw31.small -/
structure Slaw31_small_0 where
  t22 : (List Symbol)
  t23 : Int
  t24 : Int
noncomputable def Wlaw31_small_0 (s : Slaw31_small_0) : Tree (Slaw31_small_0 ⊕ (Bool ⊕ Unit)) :=
  .ite (decide (s.t24 < s.t23))
    (.ite (decide (0 ≤ s.t24))
      (.opt Symbol (s.t22[(s.t24).toNat]?) fun y1 =>
        .ite (decide ((100 : Int) < (y1.name.length : Int)))
          (.leaf (.inr (.inl false)))
          (.leaf (.inl (Slaw31_small_0.mk s.t22 s.t23 (IntKind.wrap .i64 (s.t24 + (1 : Int)))))))
      .fail)
    (.leaf (.inr (.inr ())))
noncomputable def Llaw31_small_0 (q : Option Nat) (s : Slaw31_small_0) : Option (Bool ⊕ Unit) := limQ q (fun s => (Wlaw31_small_0 s).run) s
theorem leLlaw31_small_0 (k : Nat) (s : Slaw31_small_0) : Le (Llaw31_small_0 (some k) s) (Llaw31_small_0 none s) := limQ_le (fun _ => Le.rfl) s
noncomputable def Tlaw31_small (q : Option Nat) (x0 : Image) : Tree Bool :=
  .ite (decide ((34000 : Int) < (x0.text.length : Int)))
    (.leaf (false))
    (.ite (decide ((34000 : Int) < (x0.data.length : Int)))
      (.leaf (false))
      (.ite (decide ((300 : Int) < (x0.symbols.length : Int)))
        (.leaf (false))
        (.opt (Bool ⊕ Unit) (Llaw31_small_0 q (Slaw31_small_0.mk x0.symbols (x0.symbols.length : Int) (0 : Int))) fun l2 =>
          .ite (l2.isLeft)
            (.opt Bool (l2.getLeft?) fun a3 =>
              .leaf (a3))
            (.opt Unit (l2.getRight?) fun b4 =>
              .leaf (true)))))
noncomputable def law31_small (q : Option Nat) (x0 : Image) : Option Bool := (Tlaw31_small q x0).run
theorem lelaw31_small (k : Nat) (x0 : Image) : Le (law31_small (some k) x0) (law31_small none x0) := (TLe.ite TLe.rfl (TLe.ite TLe.rfl (TLe.ite TLe.rfl (TLe.opt (leLlaw31_small_0 k _) fun _ => TLe.rfl))))
noncomputable def Alaw31_small : Arg U (Image × Unit) := aA cImage (aNil)
noncomputable def Rlaw31_small (r : Bool) : List (V U) × List (Blk U) := ([vO cBool r], [])
noncomputable def Slaw31_small : List (V U) → List (Blk U) → Option (FnOut U) := mkSpec Alaw31_small bNil (fun x _ => law31_small none x.1) Rlaw31_small
noncomputable def Plaw31_small_0 (x : ((List Symbol) × Unit) × (Int × Unit) × (Int × Unit) × Unit) (_g : Unit) : Slaw31_small_0 := Slaw31_small_0.mk x.1.1 x.2.1.1 x.2.2.1.1
noncomputable def tAlaw31_small_0 : Tms U (((List Symbol) × Unit) × (Int × Unit) × (Int × Unit) × Unit) := tO 22 (cPair (cSl 75) (cUnit)) (tO 23 (cPair (cInt .i64) (cUnit)) (tO 24 (cPair (cInt .i64) (cUnit)) (tNil)))
noncomputable def tBlaw31_small_0 : Bls U (Unit) := bNil
noncomputable def eSlaw31_small_0 (s : Slaw31_small_0) : St U := { tm := [(22, .v (vO (cPair (cSl 75) (cUnit)) (s.t22, ()))), (23, .v (vO (cPair (cInt .i64) (cUnit)) (s.t23, ()))), (24, .v (vO (cPair (cInt .i64) (cUnit)) (s.t24, ())))], hp := [] }
noncomputable def xSlaw31_small_0 : (Bool ⊕ Unit) → Ex × St U
  | .inl r => (.ret, { tm := [(2, .v (vO (cPair cBool (cUnit)) (r, ())))], hp := [] })
  | .inr r => (.exit 0, { tm := [], hp := [] })
noncomputable def xTlaw31_small_0 (y : (Bool ⊕ Unit)) : Tree (Ex × St U) := .ite y.isLeft (.opt Bool y.getLeft? fun r => .leaf (.ret, { tm := [(2, .v (vO (cPair cBool (cUnit)) (r, ())))], hp := [] })) (.opt Unit y.getRight? fun r => .leaf (.exit 0, { tm := [], hp := [] }))
noncomputable def hlaw31_small_0 : Hd := { keep := [22, 23, 24], xkeep := [2], own := false }
noncomputable def Elaw31_small : Env U := { P := Try.prog, cd := cd, fns := noF, lps := (addL 0 hlaw31_small_0 (mkLoop tAlaw31_small_0 tBlaw31_small_0 Plaw31_small_0 (Llaw31_small_0 none) xTlaw31_small_0) noL), frz := fun _r => false, nt := 33, n0 := 0 }
noncomputable def Blaw31_small_0 : Code := (loopAt (Try.f10.body.getD .skip) 0 0).getD .skip
theorem roundlaw31_small_0 (s : Slaw31_small_0) : round Elaw31_small hlaw31_small_0 Blaw31_small_0 0 (eSlaw31_small_0 s) = (Wlaw31_small_0 s).map (sumE eSlaw31_small_0 xSlaw31_small_0) := by kernel_rfl
theorem lplaw31_small_0 : LpOk Elaw31_small Blaw31_small_0 0 := mkLoop_ok (A := tAlaw31_small_0) (B := tBlaw31_small_0) (f := Plaw31_small_0) (L := Llaw31_small_0 none) (tO_ok (cPair_ok (cSl_ok 75) cUnit_ok) (tO_ok (cPair_ok (cInt_ok .i64) cUnit_ok) (tO_ok (cPair_ok (cInt_ok .i64) cUnit_ok) tNil_ok))) bNil_ok (enc := eSlaw31_small_0) (out := xTlaw31_small_0) (outS := xSlaw31_small_0) (step := Wlaw31_small_0) (fun _ => rfl) (fun _ _ => by kernel_rfl) (by kernel_rfl) (fun b => by cases b <;> rfl) roundlaw31_small_0
theorem runlaw31_small (x : Image × Unit) (g : Unit) : execF Elaw31_small Try.f10 (Alaw31_small.enc x) (bNil.enc g) = (Tlaw31_small none x.1).map Rlaw31_small := by kernel_rfl
theorem oklaw31_small : FnOk Try.prog cd 10 Slaw31_small := mk_ok (E := Elaw31_small) cd_ok noF_ok Try.func10 (by kernel_rfl) (loops_of (addL_ok lplaw31_small_0 noL_ok)) (aA_ok cImage_ok (aNil_ok)) bNil_ok (T := fun x _ => Tlaw31_small none x.1) (fun _ _ => rfl) runlaw31_small
noncomputable def fns10 := addF 10 true Slaw31_small noF
theorem fns10_ok : ∀ f q t, fns10 f = some (q, t) → FnOk Try.prog cd f t := addF_ok oklaw31_small noF_ok
/-- emulator/image.even -/
noncomputable def Timage_even (x0 : Int) : Tree Int :=
  .leaf (IntKind.wrap .i64 (x0 + (IntKind.wrap .i64 (((BitVec.ofInt 64 x0 &&& BitVec.ofInt 64 (1 : Int)).toNat : Int)))))
noncomputable def image_even (x0 : Int) : Option Int := (Timage_even x0).run
noncomputable def Aimage_even : Arg U (Int × Unit) := aO (cInt .i64) (aNil)
noncomputable def Rimage_even (r : Int) : List (V U) × List (Blk U) := ([vO (cInt .i64) r], [])
noncomputable def Simage_even : List (V U) → List (Blk U) → Option (FnOut U) := mkSpec Aimage_even bNil (fun x _ => image_even x.1) Rimage_even
noncomputable def Eimage_even : Env U := { P := Try.prog, cd := cd, fns := fns10, lps := noL, frz := fun _r => false, nt := 7, n0 := 0 }
theorem runimage_even (x : Int × Unit) (g : Unit) : execF Eimage_even Try.f33 (Aimage_even.enc x) (bNil.enc g) = (Timage_even x.1).map Rimage_even := by kernel_rfl
theorem okimage_even : FnOk Try.prog cd 33 Simage_even := mk_ok (E := Eimage_even) cd_ok fns10_ok Try.func33 (by kernel_rfl) (noLoops_body (by kernel_rfl)) (aO_ok (cInt_ok .i64) (aNil_ok)) bNil_ok (T := fun x _ => Timage_even x.1) (fun _ _ => rfl) runimage_even
noncomputable def fns33 := addF 33 true Simage_even fns10
theorem fns33_ok : ∀ f q t, fns33 f = some (q, t) → FnOk Try.prog cd f t := addF_ok okimage_even fns10_ok
/-- emulator/image.Size -/
noncomputable def Timage_Size (x0 : Image) : Tree Int :=
  .opt Int (image_even (x0.data.length : Int)) fun r5 =>
    .opt Int (image_even (if (32768 : Int) < (if (0 : Int) > x0.bss then (0 : Int) else x0.bss) then (32768 : Int) else (if (0 : Int) > x0.bss then (0 : Int) else x0.bss))) fun r6 =>
      .leaf (IntKind.wrap .i64 ((IntKind.wrap .i64 ((x0.text.length : Int) + r5)) + r6))
noncomputable def image_Size (x0 : Image) : Option Int := (Timage_Size x0).run
noncomputable def Aimage_Size : Arg U (Image × Unit) := aA cImage (aNil)
noncomputable def Rimage_Size (r : Int) : List (V U) × List (Blk U) := ([vO (cInt .i64) r], [])
noncomputable def Simage_Size : List (V U) → List (Blk U) → Option (FnOut U) := mkSpec Aimage_Size bNil (fun x _ => image_Size x.1) Rimage_Size
noncomputable def Eimage_Size : Env U := { P := Try.prog, cd := cd, fns := fns33, lps := noL, frz := fun _r => false, nt := 17, n0 := 0 }
theorem runimage_Size (x : Image × Unit) (g : Unit) : execF Eimage_Size Try.f13 (Aimage_Size.enc x) (bNil.enc g) = (Timage_Size x.1).map Rimage_Size := by kernel_rfl
theorem okimage_Size : FnOk Try.prog cd 13 Simage_Size := mk_ok (E := Eimage_Size) cd_ok fns33_ok Try.func13 (by kernel_rfl) (noLoops_body (by kernel_rfl)) (aA_ok cImage_ok (aNil_ok)) bNil_ok (T := fun x _ => Timage_Size x.1) (fun _ _ => rfl) runimage_Size
noncomputable def fns13 := addF 13 true Simage_Size fns33
theorem fns13_ok : ∀ f q t, fns13 f = some (q, t) → FnOk Try.prog cd f t := addF_ok okimage_Size fns33_ok
/-- strings.IndexByte -/
noncomputable def strings_IndexByte (x0 : (List UInt8)) (x1 : Int) : Option Int := idxF x0 x1
noncomputable def Sstrings_IndexByte : List (V U) → List (Blk U) → Option (FnOut U) := mkSpec (aO cStr (aO (cInt .u8) aNil) : Arg U (List UInt8 × Int × Unit)) bNil (fun x _ => strings_IndexByte x.1 x.2.1) fun r => ([vO (cInt .i64) r], [])
end Go.Proofs.Ytghgcaieciklbaa
namespace Go.Proofs
open Go.Shelf
shelf_lay Lays.n137 Nm 137 at Try as Try.lays58
end Go.Proofs
namespace Go.Proofs.Ytghgcaieciklbaa
open Go Go.Ab
theorem okstrings_IndexByte : FnOk Try.prog cd 58 Sstrings_IndexByte := idx_ok Try.lays58 Try.func58 (by kernel_rfl) (by kernel_rfl) rfl
noncomputable def fns58 := addF 58 true Sstrings_IndexByte fns13
theorem fns58_ok : ∀ f q t, fns58 f = some (q, t) → FnOk Try.prog cd f t := addF_ok okstrings_IndexByte fns13_ok
/-- emulator/image.isName -/
structure Simage_isName_0 where
  t23 : (List Int)
  t24 : Int
  t25 : Int
noncomputable def Wimage_isName_0 (s : Simage_isName_0) : Tree (Simage_isName_0 ⊕ (Bool ⊕ Unit)) :=
  .ite (decide (s.t25 < s.t24))
    (.ite (decide (0 ≤ s.t25))
      (.opt Int (s.t23[(s.t25).toNat]?) fun y9 =>
        .ite (decide ((97 : Int) ≤ y9))
          (.ite (decide (y9 ≤ (122 : Int)))
            (.leaf (.inl (Simage_isName_0.mk s.t23 s.t24 (IntKind.wrap .i64 (s.t25 + (1 : Int))))))
            (.ite (decide ((65 : Int) ≤ y9))
              (.ite (decide (y9 ≤ (90 : Int)))
                (.leaf (.inl (Simage_isName_0.mk s.t23 s.t24 (IntKind.wrap .i64 (s.t25 + (1 : Int))))))
                (.ite (decide ((48 : Int) ≤ y9))
                  (.ite (decide (y9 ≤ (57 : Int)))
                    (.leaf (.inl (Simage_isName_0.mk s.t23 s.t24 (IntKind.wrap .i64 (s.t25 + (1 : Int))))))
                    (.opt Int (strings_IndexByte ([95, 46, 36] : List UInt8) y9) fun r10 =>
                      .ite (!(decide ((0 : Int) ≤ r10)))
                        (.leaf (.inr (.inl false)))
                        (.leaf (.inl (Simage_isName_0.mk s.t23 s.t24 (IntKind.wrap .i64 (s.t25 + (1 : Int))))))))
                  (.opt Int (strings_IndexByte ([95, 46, 36] : List UInt8) y9) fun r11 =>
                    .ite (!(decide ((0 : Int) ≤ r11)))
                      (.leaf (.inr (.inl false)))
                      (.leaf (.inl (Simage_isName_0.mk s.t23 s.t24 (IntKind.wrap .i64 (s.t25 + (1 : Int)))))))))
              (.ite (decide ((48 : Int) ≤ y9))
                (.ite (decide (y9 ≤ (57 : Int)))
                  (.leaf (.inl (Simage_isName_0.mk s.t23 s.t24 (IntKind.wrap .i64 (s.t25 + (1 : Int))))))
                  (.opt Int (strings_IndexByte ([95, 46, 36] : List UInt8) y9) fun r12 =>
                    .ite (!(decide ((0 : Int) ≤ r12)))
                      (.leaf (.inr (.inl false)))
                      (.leaf (.inl (Simage_isName_0.mk s.t23 s.t24 (IntKind.wrap .i64 (s.t25 + (1 : Int))))))))
                (.opt Int (strings_IndexByte ([95, 46, 36] : List UInt8) y9) fun r13 =>
                  .ite (!(decide ((0 : Int) ≤ r13)))
                    (.leaf (.inr (.inl false)))
                    (.leaf (.inl (Simage_isName_0.mk s.t23 s.t24 (IntKind.wrap .i64 (s.t25 + (1 : Int))))))))))
          (.ite (decide ((65 : Int) ≤ y9))
            (.ite (decide (y9 ≤ (90 : Int)))
              (.leaf (.inl (Simage_isName_0.mk s.t23 s.t24 (IntKind.wrap .i64 (s.t25 + (1 : Int))))))
              (.ite (decide ((48 : Int) ≤ y9))
                (.ite (decide (y9 ≤ (57 : Int)))
                  (.leaf (.inl (Simage_isName_0.mk s.t23 s.t24 (IntKind.wrap .i64 (s.t25 + (1 : Int))))))
                  (.opt Int (strings_IndexByte ([95, 46, 36] : List UInt8) y9) fun r14 =>
                    .ite (!(decide ((0 : Int) ≤ r14)))
                      (.leaf (.inr (.inl false)))
                      (.leaf (.inl (Simage_isName_0.mk s.t23 s.t24 (IntKind.wrap .i64 (s.t25 + (1 : Int))))))))
                (.opt Int (strings_IndexByte ([95, 46, 36] : List UInt8) y9) fun r15 =>
                  .ite (!(decide ((0 : Int) ≤ r15)))
                    (.leaf (.inr (.inl false)))
                    (.leaf (.inl (Simage_isName_0.mk s.t23 s.t24 (IntKind.wrap .i64 (s.t25 + (1 : Int)))))))))
            (.ite (decide ((48 : Int) ≤ y9))
              (.ite (decide (y9 ≤ (57 : Int)))
                (.leaf (.inl (Simage_isName_0.mk s.t23 s.t24 (IntKind.wrap .i64 (s.t25 + (1 : Int))))))
                (.opt Int (strings_IndexByte ([95, 46, 36] : List UInt8) y9) fun r16 =>
                  .ite (!(decide ((0 : Int) ≤ r16)))
                    (.leaf (.inr (.inl false)))
                    (.leaf (.inl (Simage_isName_0.mk s.t23 s.t24 (IntKind.wrap .i64 (s.t25 + (1 : Int))))))))
              (.opt Int (strings_IndexByte ([95, 46, 36] : List UInt8) y9) fun r17 =>
                .ite (!(decide ((0 : Int) ≤ r17)))
                  (.leaf (.inr (.inl false)))
                  (.leaf (.inl (Simage_isName_0.mk s.t23 s.t24 (IntKind.wrap .i64 (s.t25 + (1 : Int))))))))))
      .fail)
    (.leaf (.inr (.inr ())))
noncomputable def Limage_isName_0 (q : Option Nat) (s : Simage_isName_0) : Option (Bool ⊕ Unit) := limQ q (fun s => (Wimage_isName_0 s).run) s
theorem leLimage_isName_0 (k : Nat) (s : Simage_isName_0) : Le (Limage_isName_0 (some k) s) (Limage_isName_0 none s) := limQ_le (fun _ => Le.rfl) s
noncomputable def Timage_isName (q : Option Nat) (x0 : (List UInt8)) : Tree Bool :=
  .ite (decide (x0 = ([] : List UInt8)))
    (.leaf (false))
    (.ite (decide ((14 : Int) < (x0.length : Int)))
      (.leaf (false))
      (.ite (decide (0 ≤ (0 : Int)))
        (.opt UInt8 (x0[((0 : Int)).toNat]?) fun y7 =>
          .ite (decide ((48 : Int) ≤ (y7.toNat : Int)))
            (.ite (decide (0 ≤ (0 : Int)))
              (.opt UInt8 (x0[((0 : Int)).toNat]?) fun y8 =>
                .ite (decide ((y8.toNat : Int) ≤ (57 : Int)))
                  (.leaf (false))
                  (.opt (Bool ⊕ Unit) (Limage_isName_0 q (Simage_isName_0.mk (x0.map fun b => (b.toNat : Int)) ((x0.map fun b => (b.toNat : Int)).length : Int) (0 : Int))) fun l18 =>
                    .ite (l18.isLeft)
                      (.opt Bool (l18.getLeft?) fun a19 =>
                        .leaf (a19))
                      (.opt Unit (l18.getRight?) fun b20 =>
                        .leaf (true))))
              .fail)
            (.opt (Bool ⊕ Unit) (Limage_isName_0 q (Simage_isName_0.mk (x0.map fun b => (b.toNat : Int)) ((x0.map fun b => (b.toNat : Int)).length : Int) (0 : Int))) fun l21 =>
              .ite (l21.isLeft)
                (.opt Bool (l21.getLeft?) fun a22 =>
                  .leaf (a22))
                (.opt Unit (l21.getRight?) fun b23 =>
                  .leaf (true))))
        .fail))
noncomputable def image_isName (q : Option Nat) (x0 : (List UInt8)) : Option Bool := (Timage_isName q x0).run
theorem leimage_isName (k : Nat) (x0 : (List UInt8)) : Le (image_isName (some k) x0) (image_isName none x0) := (TLe.ite TLe.rfl (TLe.ite TLe.rfl (TLe.ite (TLe.opt Le.rfl fun _ => (TLe.ite (TLe.ite (TLe.opt Le.rfl fun _ => (TLe.ite TLe.rfl (TLe.opt (leLimage_isName_0 k _) fun _ => TLe.rfl))) TLe.rfl) (TLe.opt (leLimage_isName_0 k _) fun _ => TLe.rfl))) TLe.rfl)))
noncomputable def Aimage_isName : Arg U ((List UInt8) × Unit) := aO cStr (aNil)
noncomputable def Rimage_isName (r : Bool) : List (V U) × List (Blk U) := ([vO cBool r], [])
noncomputable def Simage_isName : List (V U) → List (Blk U) → Option (FnOut U) := mkSpec Aimage_isName bNil (fun x _ => image_isName none x.1) Rimage_isName
noncomputable def Pimage_isName_0 (x : ((List Int) × Unit) × (Int × Unit) × (Int × Unit) × Unit) (_g : Unit) : Simage_isName_0 := Simage_isName_0.mk x.1.1 x.2.1.1 x.2.2.1.1
noncomputable def tAimage_isName_0 : Tms U (((List Int) × Unit) × (Int × Unit) × (Int × Unit) × Unit) := tO 23 (cPair (cSl 5) (cUnit)) (tO 24 (cPair (cInt .i64) (cUnit)) (tO 25 (cPair (cInt .i64) (cUnit)) (tNil)))
noncomputable def tBimage_isName_0 : Bls U (Unit) := bNil
noncomputable def eSimage_isName_0 (s : Simage_isName_0) : St U := { tm := [(23, .v (vO (cPair (cSl 5) (cUnit)) (s.t23, ()))), (24, .v (vO (cPair (cInt .i64) (cUnit)) (s.t24, ()))), (25, .v (vO (cPair (cInt .i64) (cUnit)) (s.t25, ())))], hp := [] }
noncomputable def xSimage_isName_0 : (Bool ⊕ Unit) → Ex × St U
  | .inl r => (.ret, { tm := [(2, .v (vO (cPair cBool (cUnit)) (r, ())))], hp := [] })
  | .inr r => (.exit 0, { tm := [], hp := [] })
noncomputable def xTimage_isName_0 (y : (Bool ⊕ Unit)) : Tree (Ex × St U) := .ite y.isLeft (.opt Bool y.getLeft? fun r => .leaf (.ret, { tm := [(2, .v (vO (cPair cBool (cUnit)) (r, ())))], hp := [] })) (.opt Unit y.getRight? fun r => .leaf (.exit 0, { tm := [], hp := [] }))
noncomputable def himage_isName_0 : Hd := { keep := [23, 24, 25], xkeep := [2], own := false }
noncomputable def Eimage_isName : Env U := { P := Try.prog, cd := cd, fns := fns58, lps := (addL 0 himage_isName_0 (mkLoop tAimage_isName_0 tBimage_isName_0 Pimage_isName_0 (Limage_isName_0 none) xTimage_isName_0) noL), frz := fun _r => false, nt := 58, n0 := 0 }
noncomputable def Bimage_isName_0 : Code := (loopAt (Try.f31.body.getD .skip) 0 0).getD .skip
theorem roundimage_isName_0 (s : Simage_isName_0) : round Eimage_isName himage_isName_0 Bimage_isName_0 0 (eSimage_isName_0 s) = (Wimage_isName_0 s).map (sumE eSimage_isName_0 xSimage_isName_0) := by kernel_rfl
theorem lpimage_isName_0 : LpOk Eimage_isName Bimage_isName_0 0 := mkLoop_ok (A := tAimage_isName_0) (B := tBimage_isName_0) (f := Pimage_isName_0) (L := Limage_isName_0 none) (tO_ok (cPair_ok (cSl_ok 5) cUnit_ok) (tO_ok (cPair_ok (cInt_ok .i64) cUnit_ok) (tO_ok (cPair_ok (cInt_ok .i64) cUnit_ok) tNil_ok))) bNil_ok (enc := eSimage_isName_0) (out := xTimage_isName_0) (outS := xSimage_isName_0) (step := Wimage_isName_0) (fun _ => rfl) (fun _ _ => by kernel_rfl) (by kernel_rfl) (fun b => by cases b <;> rfl) roundimage_isName_0
theorem runimage_isName (x : (List UInt8) × Unit) (g : Unit) : execF Eimage_isName Try.f31 (Aimage_isName.enc x) (bNil.enc g) = (Timage_isName none x.1).map Rimage_isName := by kernel_rfl
theorem okimage_isName : FnOk Try.prog cd 31 Simage_isName := mk_ok (E := Eimage_isName) cd_ok fns58_ok Try.func31 (by kernel_rfl) (loops_of (addL_ok lpimage_isName_0 noL_ok)) (aO_ok cStr_ok (aNil_ok)) bNil_ok (T := fun x _ => Timage_isName none x.1) (fun _ _ => rfl) runimage_isName
noncomputable def fns31 := addF 31 true Simage_isName fns58
theorem fns31_ok : ∀ f q t, fns31 f = some (q, t) → FnOk Try.prog cd f t := addF_ok okimage_isName fns58_ok
/-- emulator/image.Check -/
structure Simage_Check_0 where
  t46 : (List Symbol)
  t47 : Int
  t48 : Int
noncomputable def Wimage_Check_0 (q : Option Nat) (s : Simage_Check_0) : Tree (Simage_Check_0 ⊕ (Int ⊕ Unit)) :=
  .ite (decide (s.t48 < s.t47))
    (.ite (decide (0 ≤ s.t48))
      (.opt Symbol (s.t46[(s.t48).toNat]?) fun y25 =>
        .opt Bool (image_isName q y25.name) fun r26 =>
          .ite (!r26)
            (.leaf (.inr (.inl (4 : Int))))
            (.ite (decide (y25.section_ < (0 : Int)))
              (.leaf (.inr (.inl (2 : Int))))
              (.ite (decide ((3 : Int) < y25.section_))
                (.leaf (.inr (.inl (2 : Int))))
                (.ite (!decide ((IntKind.wrap .i64 (((BitVec.ofInt 64 y25.value &&& BitVec.ofInt 64 (65535 : Int)).toNat : Int))) = y25.value))
                  (.leaf (.inr (.inl (2 : Int))))
                  (.leaf (.inl (Simage_Check_0.mk s.t46 s.t47 (IntKind.wrap .i64 (s.t48 + (1 : Int))))))))))
      .fail)
    (.leaf (.inr (.inr ())))
noncomputable def Limage_Check_0 (q : Option Nat) (s : Simage_Check_0) : Option (Int ⊕ Unit) := limQ q (fun s => (Wimage_Check_0 q s).run) s
theorem leLimage_Check_0 (k : Nat) (s : Simage_Check_0) : Le (Limage_Check_0 (some k) s) (Limage_Check_0 none s) := limQ_le (fun s => (TLe.ite (TLe.ite (TLe.opt Le.rfl fun _ => (TLe.opt (leimage_isName k _) fun _ => TLe.rfl)) TLe.rfl) TLe.rfl)) s
noncomputable def Timage_Check (q : Option Nat) (x0 : Image) : Tree Int :=
  .ite (decide ((2 : Int) = 0))
    .fail
    (.ite (!decide ((((x0.text.length : Int)).tmod (2 : Int)) = (0 : Int)))
      (.leaf ((1 : Int)))
      (.opt Int (image_Size x0) fun r24 =>
        .ite (decide ((32512 : Int) < r24))
          (.leaf ((7 : Int)))
          (.ite (decide ((256 : Int) < (x0.symbols.length : Int)))
            (.leaf ((7 : Int)))
            (.ite (decide (x0.bss < (0 : Int)))
              (.leaf ((2 : Int)))
              (.ite (decide (x0.entry < (0 : Int)))
                (.leaf ((2 : Int)))
                (.ite (decide ((2 : Int) = 0))
                  .fail
                  (.ite (!decide (((x0.entry).tmod (2 : Int)) = (0 : Int)))
                    (.leaf ((2 : Int)))
                    (.ite (decide ((if (1 : Int) > (x0.text.length : Int) then (1 : Int) else (x0.text.length : Int)) ≤ x0.entry))
                      (.leaf ((2 : Int)))
                      (.opt (Int ⊕ Unit) (Limage_Check_0 q (Simage_Check_0.mk x0.symbols (x0.symbols.length : Int) (0 : Int))) fun l27 =>
                        .ite (l27.isLeft)
                          (.opt Int (l27.getLeft?) fun a28 =>
                            .leaf (a28))
                          (.opt Unit (l27.getRight?) fun b29 =>
                            .leaf ((0 : Int))))))))))))
noncomputable def image_Check (q : Option Nat) (x0 : Image) : Option Int := (Timage_Check q x0).run
theorem leimage_Check (k : Nat) (x0 : Image) : Le (image_Check (some k) x0) (image_Check none x0) := (TLe.ite TLe.rfl (TLe.ite TLe.rfl (TLe.opt Le.rfl fun _ => (TLe.ite TLe.rfl (TLe.ite TLe.rfl (TLe.ite TLe.rfl (TLe.ite TLe.rfl (TLe.ite TLe.rfl (TLe.ite TLe.rfl (TLe.ite TLe.rfl (TLe.opt (leLimage_Check_0 k _) fun _ => TLe.rfl)))))))))))
noncomputable def Aimage_Check : Arg U (Image × Unit) := aA cImage (aNil)
noncomputable def Rimage_Check (r : Int) : List (V U) × List (Blk U) := ([vO (cInt .i64) r], [])
noncomputable def Simage_Check : List (V U) → List (Blk U) → Option (FnOut U) := mkSpec Aimage_Check bNil (fun x _ => image_Check none x.1) Rimage_Check
noncomputable def Pimage_Check_0 (x : ((List Symbol) × Unit) × (Int × Unit) × (Int × Unit) × Unit) (_g : Unit) : Simage_Check_0 := Simage_Check_0.mk x.1.1 x.2.1.1 x.2.2.1.1
noncomputable def tAimage_Check_0 : Tms U (((List Symbol) × Unit) × (Int × Unit) × (Int × Unit) × Unit) := tO 46 (cPair (cSl 75) (cUnit)) (tO 47 (cPair (cInt .i64) (cUnit)) (tO 48 (cPair (cInt .i64) (cUnit)) (tNil)))
noncomputable def tBimage_Check_0 : Bls U (Unit) := bNil
noncomputable def eSimage_Check_0 (s : Simage_Check_0) : St U := { tm := [(46, .v (vO (cPair (cSl 75) (cUnit)) (s.t46, ()))), (47, .v (vO (cPair (cInt .i64) (cUnit)) (s.t47, ()))), (48, .v (vO (cPair (cInt .i64) (cUnit)) (s.t48, ())))], hp := [] }
noncomputable def xSimage_Check_0 : (Int ⊕ Unit) → Ex × St U
  | .inl r => (.ret, { tm := [(2, .v (vO (cPair (cInt .i64) (cUnit)) (r, ())))], hp := [] })
  | .inr r => (.exit 1, { tm := [], hp := [] })
noncomputable def xTimage_Check_0 (y : (Int ⊕ Unit)) : Tree (Ex × St U) := .ite y.isLeft (.opt Int y.getLeft? fun r => .leaf (.ret, { tm := [(2, .v (vO (cPair (cInt .i64) (cUnit)) (r, ())))], hp := [] })) (.opt Unit y.getRight? fun r => .leaf (.exit 1, { tm := [], hp := [] }))
noncomputable def himage_Check_0 : Hd := { keep := [46, 47, 48], xkeep := [2], own := false }
noncomputable def Eimage_Check : Env U := { P := Try.prog, cd := cd, fns := fns31, lps := (addL 0 himage_Check_0 (mkLoop tAimage_Check_0 tBimage_Check_0 Pimage_Check_0 (Limage_Check_0 none) xTimage_Check_0) noL), frz := fun _r => false, nt := 75, n0 := 0 }
noncomputable def Bimage_Check_0 : Code := (loopAt (Try.f11.body.getD .skip) 0 0).getD .skip
theorem roundimage_Check_0 (s : Simage_Check_0) : round Eimage_Check himage_Check_0 Bimage_Check_0 0 (eSimage_Check_0 s) = (Wimage_Check_0 none s).map (sumE eSimage_Check_0 xSimage_Check_0) := by kernel_rfl
theorem lpimage_Check_0 : LpOk Eimage_Check Bimage_Check_0 0 := mkLoop_ok (A := tAimage_Check_0) (B := tBimage_Check_0) (f := Pimage_Check_0) (L := Limage_Check_0 none) (tO_ok (cPair_ok (cSl_ok 75) cUnit_ok) (tO_ok (cPair_ok (cInt_ok .i64) cUnit_ok) (tO_ok (cPair_ok (cInt_ok .i64) cUnit_ok) tNil_ok))) bNil_ok (enc := eSimage_Check_0) (out := xTimage_Check_0) (outS := xSimage_Check_0) (step := Wimage_Check_0 none) (fun _ => rfl) (fun _ _ => by kernel_rfl) (by kernel_rfl) (fun b => by cases b <;> rfl) roundimage_Check_0
theorem runimage_Check (x : Image × Unit) (g : Unit) : execF Eimage_Check Try.f11 (Aimage_Check.enc x) (bNil.enc g) = (Timage_Check none x.1).map Rimage_Check := by kernel_rfl
theorem okimage_Check : FnOk Try.prog cd 11 Simage_Check := mk_ok (E := Eimage_Check) cd_ok fns31_ok Try.func11 (by kernel_rfl) (loops_of (addL_ok lpimage_Check_0 noL_ok)) (aA_ok cImage_ok (aNil_ok)) bNil_ok (T := fun x _ => Timage_Check none x.1) (fun _ _ => rfl) runimage_Check
noncomputable def fns11 := addF 11 true Simage_Check fns31
theorem fns11_ok : ∀ f q t, fns11 f = some (q, t) → FnOk Try.prog cd f t := addF_ok okimage_Check fns31_ok
/-- emulator/emulatorref31.even -/
noncomputable def Tref31_even (x0 : Int) : Tree Int :=
  .ite (decide ((2 : Int) = 0))
    .fail
    (.leaf (IntKind.wrap .i64 (x0 + ((x0).tmod (2 : Int)))))
noncomputable def ref31_even (x0 : Int) : Option Int := (Tref31_even x0).run
noncomputable def Aref31_even : Arg U (Int × Unit) := aO (cInt .i64) (aNil)
noncomputable def Rref31_even (r : Int) : List (V U) × List (Blk U) := ([vO (cInt .i64) r], [])
noncomputable def Sref31_even : List (V U) → List (Blk U) → Option (FnOut U) := mkSpec Aref31_even bNil (fun x _ => ref31_even x.1) Rref31_even
noncomputable def Eref31_even : Env U := { P := Try.prog, cd := cd, fns := fns11, lps := noL, frz := fun _r => false, nt := 7, n0 := 0 }
theorem runref31_even (x : Int × Unit) (g : Unit) : execF Eref31_even Try.f34 (Aref31_even.enc x) (bNil.enc g) = (Tref31_even x.1).map Rref31_even := by kernel_rfl
theorem okref31_even : FnOk Try.prog cd 34 Sref31_even := mk_ok (E := Eref31_even) cd_ok fns11_ok Try.func34 (by kernel_rfl) (noLoops_body (by kernel_rfl)) (aO_ok (cInt_ok .i64) (aNil_ok)) bNil_ok (T := fun x _ => Tref31_even x.1) (fun _ _ => rfl) runref31_even
noncomputable def fns34 := addF 34 true Sref31_even fns11
theorem fns34_ok : ∀ f q t, fns34 f = some (q, t) → FnOk Try.prog cd f t := addF_ok okref31_even fns11_ok
/-- emulator/emulatorref31.Size -/
noncomputable def Tref31_Size (x0 : Image) : Tree Int :=
  .ite (decide (x0.bss < (0 : Int)))
    (.ite (decide ((32768 : Int) < (0 : Int)))
      (.opt Int (ref31_even (x0.data.length : Int)) fun r30 =>
        .opt Int (ref31_even (32768 : Int)) fun r31 =>
          .leaf (IntKind.wrap .i64 ((IntKind.wrap .i64 ((x0.text.length : Int) + r30)) + r31)))
      (.opt Int (ref31_even (x0.data.length : Int)) fun r32 =>
        .opt Int (ref31_even (0 : Int)) fun r33 =>
          .leaf (IntKind.wrap .i64 ((IntKind.wrap .i64 ((x0.text.length : Int) + r32)) + r33))))
    (.ite (decide ((32768 : Int) < x0.bss))
      (.opt Int (ref31_even (x0.data.length : Int)) fun r34 =>
        .opt Int (ref31_even (32768 : Int)) fun r35 =>
          .leaf (IntKind.wrap .i64 ((IntKind.wrap .i64 ((x0.text.length : Int) + r34)) + r35)))
      (.opt Int (ref31_even (x0.data.length : Int)) fun r36 =>
        .opt Int (ref31_even x0.bss) fun r37 =>
          .leaf (IntKind.wrap .i64 ((IntKind.wrap .i64 ((x0.text.length : Int) + r36)) + r37))))
noncomputable def ref31_Size (x0 : Image) : Option Int := (Tref31_Size x0).run
noncomputable def Aref31_Size : Arg U (Image × Unit) := aA cImage (aNil)
noncomputable def Rref31_Size (r : Int) : List (V U) × List (Blk U) := ([vO (cInt .i64) r], [])
noncomputable def Sref31_Size : List (V U) → List (Blk U) → Option (FnOut U) := mkSpec Aref31_Size bNil (fun x _ => ref31_Size x.1) Rref31_Size
noncomputable def Eref31_Size : Env U := { P := Try.prog, cd := cd, fns := fns34, lps := noL, frz := fun _r => false, nt := 21, n0 := 0 }
theorem runref31_Size (x : Image × Unit) (g : Unit) : execF Eref31_Size Try.f14 (Aref31_Size.enc x) (bNil.enc g) = (Tref31_Size x.1).map Rref31_Size := by kernel_rfl
theorem okref31_Size : FnOk Try.prog cd 14 Sref31_Size := mk_ok (E := Eref31_Size) cd_ok fns34_ok Try.func14 (by kernel_rfl) (noLoops_body (by kernel_rfl)) (aA_ok cImage_ok (aNil_ok)) bNil_ok (T := fun x _ => Tref31_Size x.1) (fun _ _ => rfl) runref31_Size
noncomputable def fns14 := addF 14 true Sref31_Size fns34
theorem fns14_ok : ∀ f q t, fns14 f = some (q, t) → FnOk Try.prog cd f t := addF_ok okref31_Size fns34_ok
/-- emulator/emulatorref28.IsName -/
structure Sref28_IsName_0 where
  t0 : (List UInt8)
  t3 : Int
noncomputable def Wref28_IsName_0 (s : Sref28_IsName_0) : Tree (Sref28_IsName_0 ⊕ (Bool ⊕ Unit)) :=
  .ite (decide (s.t3 < (s.t0.length : Int)))
    (.ite (decide (0 ≤ s.t3))
      (.opt UInt8 (s.t0[(s.t3).toNat]?) fun y40 =>
        .ite (decide ((97 : Int) ≤ (y40.toNat : Int)))
          (.ite (decide ((y40.toNat : Int) ≤ (122 : Int)))
            (.leaf (.inl (Sref28_IsName_0.mk s.t0 (IntKind.wrap .i64 (s.t3 + (1 : Int))))))
            (.ite (decide ((65 : Int) ≤ (y40.toNat : Int)))
              (.ite (decide ((y40.toNat : Int) ≤ (90 : Int)))
                (.leaf (.inl (Sref28_IsName_0.mk s.t0 (IntKind.wrap .i64 (s.t3 + (1 : Int))))))
                (.ite (decide ((48 : Int) ≤ (y40.toNat : Int)))
                  (.ite (decide ((y40.toNat : Int) ≤ (57 : Int)))
                    (.leaf (.inl (Sref28_IsName_0.mk s.t0 (IntKind.wrap .i64 (s.t3 + (1 : Int))))))
                    (.ite (decide ((y40.toNat : Int) = (95 : Int)))
                      (.leaf (.inl (Sref28_IsName_0.mk s.t0 (IntKind.wrap .i64 (s.t3 + (1 : Int))))))
                      (.ite (decide ((y40.toNat : Int) = (46 : Int)))
                        (.leaf (.inl (Sref28_IsName_0.mk s.t0 (IntKind.wrap .i64 (s.t3 + (1 : Int))))))
                        (.ite (!(decide ((y40.toNat : Int) = (36 : Int))))
                          (.leaf (.inr (.inl false)))
                          (.leaf (.inl (Sref28_IsName_0.mk s.t0 (IntKind.wrap .i64 (s.t3 + (1 : Int))))))))))
                  (.ite (decide ((y40.toNat : Int) = (95 : Int)))
                    (.leaf (.inl (Sref28_IsName_0.mk s.t0 (IntKind.wrap .i64 (s.t3 + (1 : Int))))))
                    (.ite (decide ((y40.toNat : Int) = (46 : Int)))
                      (.leaf (.inl (Sref28_IsName_0.mk s.t0 (IntKind.wrap .i64 (s.t3 + (1 : Int))))))
                      (.ite (!(decide ((y40.toNat : Int) = (36 : Int))))
                        (.leaf (.inr (.inl false)))
                        (.leaf (.inl (Sref28_IsName_0.mk s.t0 (IntKind.wrap .i64 (s.t3 + (1 : Int)))))))))))
              (.ite (decide ((48 : Int) ≤ (y40.toNat : Int)))
                (.ite (decide ((y40.toNat : Int) ≤ (57 : Int)))
                  (.leaf (.inl (Sref28_IsName_0.mk s.t0 (IntKind.wrap .i64 (s.t3 + (1 : Int))))))
                  (.ite (decide ((y40.toNat : Int) = (95 : Int)))
                    (.leaf (.inl (Sref28_IsName_0.mk s.t0 (IntKind.wrap .i64 (s.t3 + (1 : Int))))))
                    (.ite (decide ((y40.toNat : Int) = (46 : Int)))
                      (.leaf (.inl (Sref28_IsName_0.mk s.t0 (IntKind.wrap .i64 (s.t3 + (1 : Int))))))
                      (.ite (!(decide ((y40.toNat : Int) = (36 : Int))))
                        (.leaf (.inr (.inl false)))
                        (.leaf (.inl (Sref28_IsName_0.mk s.t0 (IntKind.wrap .i64 (s.t3 + (1 : Int))))))))))
                (.ite (decide ((y40.toNat : Int) = (95 : Int)))
                  (.leaf (.inl (Sref28_IsName_0.mk s.t0 (IntKind.wrap .i64 (s.t3 + (1 : Int))))))
                  (.ite (decide ((y40.toNat : Int) = (46 : Int)))
                    (.leaf (.inl (Sref28_IsName_0.mk s.t0 (IntKind.wrap .i64 (s.t3 + (1 : Int))))))
                    (.ite (!(decide ((y40.toNat : Int) = (36 : Int))))
                      (.leaf (.inr (.inl false)))
                      (.leaf (.inl (Sref28_IsName_0.mk s.t0 (IntKind.wrap .i64 (s.t3 + (1 : Int))))))))))))
          (.ite (decide ((65 : Int) ≤ (y40.toNat : Int)))
            (.ite (decide ((y40.toNat : Int) ≤ (90 : Int)))
              (.leaf (.inl (Sref28_IsName_0.mk s.t0 (IntKind.wrap .i64 (s.t3 + (1 : Int))))))
              (.ite (decide ((48 : Int) ≤ (y40.toNat : Int)))
                (.ite (decide ((y40.toNat : Int) ≤ (57 : Int)))
                  (.leaf (.inl (Sref28_IsName_0.mk s.t0 (IntKind.wrap .i64 (s.t3 + (1 : Int))))))
                  (.ite (decide ((y40.toNat : Int) = (95 : Int)))
                    (.leaf (.inl (Sref28_IsName_0.mk s.t0 (IntKind.wrap .i64 (s.t3 + (1 : Int))))))
                    (.ite (decide ((y40.toNat : Int) = (46 : Int)))
                      (.leaf (.inl (Sref28_IsName_0.mk s.t0 (IntKind.wrap .i64 (s.t3 + (1 : Int))))))
                      (.ite (!(decide ((y40.toNat : Int) = (36 : Int))))
                        (.leaf (.inr (.inl false)))
                        (.leaf (.inl (Sref28_IsName_0.mk s.t0 (IntKind.wrap .i64 (s.t3 + (1 : Int))))))))))
                (.ite (decide ((y40.toNat : Int) = (95 : Int)))
                  (.leaf (.inl (Sref28_IsName_0.mk s.t0 (IntKind.wrap .i64 (s.t3 + (1 : Int))))))
                  (.ite (decide ((y40.toNat : Int) = (46 : Int)))
                    (.leaf (.inl (Sref28_IsName_0.mk s.t0 (IntKind.wrap .i64 (s.t3 + (1 : Int))))))
                    (.ite (!(decide ((y40.toNat : Int) = (36 : Int))))
                      (.leaf (.inr (.inl false)))
                      (.leaf (.inl (Sref28_IsName_0.mk s.t0 (IntKind.wrap .i64 (s.t3 + (1 : Int)))))))))))
            (.ite (decide ((48 : Int) ≤ (y40.toNat : Int)))
              (.ite (decide ((y40.toNat : Int) ≤ (57 : Int)))
                (.leaf (.inl (Sref28_IsName_0.mk s.t0 (IntKind.wrap .i64 (s.t3 + (1 : Int))))))
                (.ite (decide ((y40.toNat : Int) = (95 : Int)))
                  (.leaf (.inl (Sref28_IsName_0.mk s.t0 (IntKind.wrap .i64 (s.t3 + (1 : Int))))))
                  (.ite (decide ((y40.toNat : Int) = (46 : Int)))
                    (.leaf (.inl (Sref28_IsName_0.mk s.t0 (IntKind.wrap .i64 (s.t3 + (1 : Int))))))
                    (.ite (!(decide ((y40.toNat : Int) = (36 : Int))))
                      (.leaf (.inr (.inl false)))
                      (.leaf (.inl (Sref28_IsName_0.mk s.t0 (IntKind.wrap .i64 (s.t3 + (1 : Int))))))))))
              (.ite (decide ((y40.toNat : Int) = (95 : Int)))
                (.leaf (.inl (Sref28_IsName_0.mk s.t0 (IntKind.wrap .i64 (s.t3 + (1 : Int))))))
                (.ite (decide ((y40.toNat : Int) = (46 : Int)))
                  (.leaf (.inl (Sref28_IsName_0.mk s.t0 (IntKind.wrap .i64 (s.t3 + (1 : Int))))))
                  (.ite (!(decide ((y40.toNat : Int) = (36 : Int))))
                    (.leaf (.inr (.inl false)))
                    (.leaf (.inl (Sref28_IsName_0.mk s.t0 (IntKind.wrap .i64 (s.t3 + (1 : Int))))))))))))
      .fail)
    (.leaf (.inr (.inr ())))
noncomputable def Lref28_IsName_0 (q : Option Nat) (s : Sref28_IsName_0) : Option (Bool ⊕ Unit) := limQ q (fun s => (Wref28_IsName_0 s).run) s
theorem leLref28_IsName_0 (k : Nat) (s : Sref28_IsName_0) : Le (Lref28_IsName_0 (some k) s) (Lref28_IsName_0 none s) := limQ_le (fun _ => Le.rfl) s
noncomputable def Tref28_IsName (q : Option Nat) (x0 : (List UInt8)) : Tree Bool :=
  .ite (decide (x0 = ([] : List UInt8)))
    (.leaf (false))
    (.ite (decide ((14 : Int) < (x0.length : Int)))
      (.leaf (false))
      (.ite (decide (0 ≤ (0 : Int)))
        (.opt UInt8 (x0[((0 : Int)).toNat]?) fun y38 =>
          .ite (decide ((48 : Int) ≤ (y38.toNat : Int)))
            (.ite (decide (0 ≤ (0 : Int)))
              (.opt UInt8 (x0[((0 : Int)).toNat]?) fun y39 =>
                .ite (decide ((y39.toNat : Int) ≤ (57 : Int)))
                  (.leaf (false))
                  (.opt (Bool ⊕ Unit) (Lref28_IsName_0 q (Sref28_IsName_0.mk x0 (0 : Int))) fun l41 =>
                    .ite (l41.isLeft)
                      (.opt Bool (l41.getLeft?) fun a42 =>
                        .leaf (a42))
                      (.opt Unit (l41.getRight?) fun b43 =>
                        .leaf (true))))
              .fail)
            (.opt (Bool ⊕ Unit) (Lref28_IsName_0 q (Sref28_IsName_0.mk x0 (0 : Int))) fun l44 =>
              .ite (l44.isLeft)
                (.opt Bool (l44.getLeft?) fun a45 =>
                  .leaf (a45))
                (.opt Unit (l44.getRight?) fun b46 =>
                  .leaf (true))))
        .fail))
noncomputable def ref28_IsName (q : Option Nat) (x0 : (List UInt8)) : Option Bool := (Tref28_IsName q x0).run
theorem leref28_IsName (k : Nat) (x0 : (List UInt8)) : Le (ref28_IsName (some k) x0) (ref28_IsName none x0) := (TLe.ite TLe.rfl (TLe.ite TLe.rfl (TLe.ite (TLe.opt Le.rfl fun _ => (TLe.ite (TLe.ite (TLe.opt Le.rfl fun _ => (TLe.ite TLe.rfl (TLe.opt (leLref28_IsName_0 k _) fun _ => TLe.rfl))) TLe.rfl) (TLe.opt (leLref28_IsName_0 k _) fun _ => TLe.rfl))) TLe.rfl)))
noncomputable def Aref28_IsName : Arg U ((List UInt8) × Unit) := aO cStr (aNil)
noncomputable def Rref28_IsName (r : Bool) : List (V U) × List (Blk U) := ([vO cBool r], [])
noncomputable def Sref28_IsName : List (V U) → List (Blk U) → Option (FnOut U) := mkSpec Aref28_IsName bNil (fun x _ => ref28_IsName none x.1) Rref28_IsName
noncomputable def Pref28_IsName_0 (x : ((List UInt8) × Unit) × (Int × Unit) × Unit) (_g : Unit) : Sref28_IsName_0 := Sref28_IsName_0.mk x.1.1 x.2.1.1
noncomputable def tAref28_IsName_0 : Tms U (((List UInt8) × Unit) × (Int × Unit) × Unit) := tO 0 (cPair cStr (cUnit)) (tO 3 (cPair (cInt .i64) (cUnit)) (tNil))
noncomputable def tBref28_IsName_0 : Bls U (Unit) := bNil
noncomputable def eSref28_IsName_0 (s : Sref28_IsName_0) : St U := { tm := [(0, .v (vO (cPair cStr (cUnit)) (s.t0, ()))), (3, .v (vO (cPair (cInt .i64) (cUnit)) (s.t3, ())))], hp := [] }
noncomputable def xSref28_IsName_0 : (Bool ⊕ Unit) → Ex × St U
  | .inl r => (.ret, { tm := [(2, .v (vO (cPair cBool (cUnit)) (r, ())))], hp := [] })
  | .inr r => (.exit 0, { tm := [], hp := [] })
noncomputable def xTref28_IsName_0 (y : (Bool ⊕ Unit)) : Tree (Ex × St U) := .ite y.isLeft (.opt Bool y.getLeft? fun r => .leaf (.ret, { tm := [(2, .v (vO (cPair cBool (cUnit)) (r, ())))], hp := [] })) (.opt Unit y.getRight? fun r => .leaf (.exit 0, { tm := [], hp := [] }))
noncomputable def href28_IsName_0 : Hd := { keep := [0, 3], xkeep := [2], own := false }
noncomputable def Eref28_IsName : Env U := { P := Try.prog, cd := cd, fns := fns14, lps := (addL 0 href28_IsName_0 (mkLoop tAref28_IsName_0 tBref28_IsName_0 Pref28_IsName_0 (Lref28_IsName_0 none) xTref28_IsName_0) noL), frz := fun _r => false, nt := 66, n0 := 0 }
noncomputable def Bref28_IsName_0 : Code := (loopAt (Try.f32.body.getD .skip) 0 0).getD .skip
theorem roundref28_IsName_0 (s : Sref28_IsName_0) : round Eref28_IsName href28_IsName_0 Bref28_IsName_0 0 (eSref28_IsName_0 s) = (Wref28_IsName_0 s).map (sumE eSref28_IsName_0 xSref28_IsName_0) := by kernel_rfl
theorem lpref28_IsName_0 : LpOk Eref28_IsName Bref28_IsName_0 0 := mkLoop_ok (A := tAref28_IsName_0) (B := tBref28_IsName_0) (f := Pref28_IsName_0) (L := Lref28_IsName_0 none) (tO_ok (cPair_ok cStr_ok cUnit_ok) (tO_ok (cPair_ok (cInt_ok .i64) cUnit_ok) tNil_ok)) bNil_ok (enc := eSref28_IsName_0) (out := xTref28_IsName_0) (outS := xSref28_IsName_0) (step := Wref28_IsName_0) (fun _ => rfl) (fun _ _ => by kernel_rfl) (by kernel_rfl) (fun b => by cases b <;> rfl) roundref28_IsName_0
theorem runref28_IsName (x : (List UInt8) × Unit) (g : Unit) : execF Eref28_IsName Try.f32 (Aref28_IsName.enc x) (bNil.enc g) = (Tref28_IsName none x.1).map Rref28_IsName := by kernel_rfl
theorem okref28_IsName : FnOk Try.prog cd 32 Sref28_IsName := mk_ok (E := Eref28_IsName) cd_ok fns14_ok Try.func32 (by kernel_rfl) (loops_of (addL_ok lpref28_IsName_0 noL_ok)) (aO_ok cStr_ok (aNil_ok)) bNil_ok (T := fun x _ => Tref28_IsName none x.1) (fun _ _ => rfl) runref28_IsName
noncomputable def fns32 := addF 32 true Sref28_IsName fns14
theorem fns32_ok : ∀ f q t, fns32 f = some (q, t) → FnOk Try.prog cd f t := addF_ok okref28_IsName fns14_ok
/-- emulator/emulatorref31.Check -/
structure Sref31_Check_0 where
  t3 : Int
  b0 : Image
noncomputable def Wref31_Check_0 (q : Option Nat) (s : Sref31_Check_0) : Tree (Sref31_Check_0 ⊕ (Int ⊕ Unit)) :=
  .ite (decide (s.t3 < (s.b0.symbols.length : Int)))
    (.ite (decide (0 ≤ s.t3))
      (.opt Symbol (s.b0.symbols[(s.t3).toNat]?) fun y48 =>
        .opt Bool (ref28_IsName q y48.name) fun r49 =>
          .ite (!r49)
            (.leaf (.inr (.inl (4 : Int))))
            (.ite (decide (y48.section_ < (0 : Int)))
              (.leaf (.inr (.inl (2 : Int))))
              (.ite (decide ((3 : Int) < y48.section_))
                (.leaf (.inr (.inl (2 : Int))))
                (.ite (decide (y48.value < (0 : Int)))
                  (.leaf (.inr (.inl (2 : Int))))
                  (.ite (decide ((65535 : Int) < y48.value))
                    (.leaf (.inr (.inl (2 : Int))))
                    (.leaf (.inl (Sref31_Check_0.mk (IntKind.wrap .i64 (s.t3 + (1 : Int))) s.b0))))))))
      .fail)
    (.leaf (.inr (.inr ())))
noncomputable def Lref31_Check_0 (q : Option Nat) (s : Sref31_Check_0) : Option (Int ⊕ Unit) := limQ q (fun s => (Wref31_Check_0 q s).run) s
theorem leLref31_Check_0 (k : Nat) (s : Sref31_Check_0) : Le (Lref31_Check_0 (some k) s) (Lref31_Check_0 none s) := limQ_le (fun s => (TLe.ite (TLe.ite (TLe.opt Le.rfl fun _ => (TLe.opt (leref28_IsName k _) fun _ => TLe.rfl)) TLe.rfl) TLe.rfl)) s
noncomputable def Tref31_Check (q : Option Nat) (x0 : Image) : Tree Int :=
  .ite (decide ((2 : Int) = 0))
    .fail
    (.ite (!decide ((((x0.text.length : Int)).tmod (2 : Int)) = (0 : Int)))
      (.leaf ((1 : Int)))
      (.opt Int (ref31_Size x0) fun r47 =>
        .ite (decide ((32512 : Int) < r47))
          (.leaf ((7 : Int)))
          (.ite (decide ((256 : Int) < (x0.symbols.length : Int)))
            (.leaf ((7 : Int)))
            (.ite (decide (x0.bss < (0 : Int)))
              (.leaf ((2 : Int)))
              (.ite (decide (x0.entry < (0 : Int)))
                (.leaf ((2 : Int)))
                (.ite (decide ((2 : Int) = 0))
                  .fail
                  (.ite (!decide (((x0.entry).tmod (2 : Int)) = (0 : Int)))
                    (.leaf ((2 : Int)))
                    (.ite (decide ((x0.text.length : Int) ≤ x0.entry))
                      (.ite (!decide (x0.entry = (0 : Int)))
                        (.leaf ((2 : Int)))
                        (.ite (!decide (x0.text = ([] : List UInt8)))
                          (.leaf ((2 : Int)))
                          (.opt (Int ⊕ Unit) (Lref31_Check_0 q (Sref31_Check_0.mk (0 : Int) x0)) fun l50 =>
                            .ite (l50.isLeft)
                              (.opt Int (l50.getLeft?) fun a51 =>
                                .leaf (a51))
                              (.opt Unit (l50.getRight?) fun b52 =>
                                .leaf ((0 : Int))))))
                      (.opt (Int ⊕ Unit) (Lref31_Check_0 q (Sref31_Check_0.mk (0 : Int) x0)) fun l53 =>
                        .ite (l53.isLeft)
                          (.opt Int (l53.getLeft?) fun a54 =>
                            .leaf (a54))
                          (.opt Unit (l53.getRight?) fun b55 =>
                            .leaf ((0 : Int))))))))))))
noncomputable def ref31_Check (q : Option Nat) (x0 : Image) : Option Int := (Tref31_Check q x0).run
theorem leref31_Check (k : Nat) (x0 : Image) : Le (ref31_Check (some k) x0) (ref31_Check none x0) := (TLe.ite TLe.rfl (TLe.ite TLe.rfl (TLe.opt Le.rfl fun _ => (TLe.ite TLe.rfl (TLe.ite TLe.rfl (TLe.ite TLe.rfl (TLe.ite TLe.rfl (TLe.ite TLe.rfl (TLe.ite TLe.rfl (TLe.ite (TLe.ite TLe.rfl (TLe.ite TLe.rfl (TLe.opt (leLref31_Check_0 k _) fun _ => TLe.rfl))) (TLe.opt (leLref31_Check_0 k _) fun _ => TLe.rfl)))))))))))
noncomputable def Aref31_Check : Arg U (Image × Unit) := aA cImage (aNil)
noncomputable def Rref31_Check (r : Int) : List (V U) × List (Blk U) := ([vO (cInt .i64) r], [])
noncomputable def Sref31_Check : List (V U) → List (Blk U) → Option (FnOut U) := mkSpec Aref31_Check bNil (fun x _ => ref31_Check none x.1) Rref31_Check
noncomputable def Pref31_Check_0 (x : (Unit) × (Int × Unit) × Unit) (g : (Image × Unit) × Unit) : Sref31_Check_0 := Sref31_Check_0.mk x.2.1.1 g.1.1
noncomputable def tAref31_Check_0 : Tms U ((Unit) × (Int × Unit) × Unit) := tO 1 (cK (.ptr 0 0) (cUnit)) (tO 3 (cPair (cInt .i64) (cUnit)) (tNil))
noncomputable def tBref31_Check_0 : Bls U ((Image × Unit) × Unit) := bC (cPair cImage (cUnit)) (bNil)
noncomputable def eSref31_Check_0 (s : Sref31_Check_0) : St U := { tm := [(1, .v (vO (cK (.ptr 0 0) (cUnit)) (()))), (3, .v (vO (cPair (cInt .i64) (cUnit)) (s.t3, ())))], hp := [.cells ((cPair cImage (cUnit) : Cdc U (Image × Unit)).enc (s.b0, ())) none] }
noncomputable def xSref31_Check_0 : (Int ⊕ Unit) → Ex × St U
  | .inl r => (.ret, { tm := [(2, .v (vO (cPair (cInt .i64) (cUnit)) (r, ())))], hp := [] })
  | .inr r => (.exit 0, { tm := [], hp := [] })
noncomputable def xTref31_Check_0 (y : (Int ⊕ Unit)) : Tree (Ex × St U) := .ite y.isLeft (.opt Int y.getLeft? fun r => .leaf (.ret, { tm := [(2, .v (vO (cPair (cInt .i64) (cUnit)) (r, ())))], hp := [] })) (.opt Unit y.getRight? fun r => .leaf (.exit 0, { tm := [], hp := [] }))
noncomputable def href31_Check_0 : Hd := { keep := [1, 3], xkeep := [2], own := false }
noncomputable def Eref31_Check : Env U := { P := Try.prog, cd := cd, fns := fns32, lps := (addL 0 href31_Check_0 (mkLoop tAref31_Check_0 tBref31_Check_0 Pref31_Check_0 (Lref31_Check_0 none) xTref31_Check_0) noL), frz := fun _r => false, nt := 85, n0 := 0 }
noncomputable def Bref31_Check_0 : Code := (loopAt (Try.f12.body.getD .skip) 0 0).getD .skip
theorem roundref31_Check_0 (s : Sref31_Check_0) : round Eref31_Check href31_Check_0 Bref31_Check_0 0 (eSref31_Check_0 s) = (Wref31_Check_0 none s).map (sumE eSref31_Check_0 xSref31_Check_0) := by kernel_rfl
theorem lpref31_Check_0 : LpOk Eref31_Check Bref31_Check_0 0 := mkLoop_ok (A := tAref31_Check_0) (B := tBref31_Check_0) (f := Pref31_Check_0) (L := Lref31_Check_0 none) (tO_ok (cK_ok cUnit_ok) (tO_ok (cPair_ok (cInt_ok .i64) cUnit_ok) tNil_ok)) (bC_ok (cPair_ok cImage_ok cUnit_ok) bNil_ok) (enc := eSref31_Check_0) (out := xTref31_Check_0) (outS := xSref31_Check_0) (step := Wref31_Check_0 none) (fun _ => rfl) (fun _ _ => by kernel_rfl) (by kernel_rfl) (fun b => by cases b <;> rfl) roundref31_Check_0
theorem runref31_Check (x : Image × Unit) (g : Unit) : execF Eref31_Check Try.f12 (Aref31_Check.enc x) (bNil.enc g) = (Tref31_Check none x.1).map Rref31_Check := by kernel_rfl
theorem okref31_Check : FnOk Try.prog cd 12 Sref31_Check := mk_ok (E := Eref31_Check) cd_ok fns32_ok Try.func12 (by kernel_rfl) (loops_of (addL_ok lpref31_Check_0 noL_ok)) (aA_ok cImage_ok (aNil_ok)) bNil_ok (T := fun x _ => Tref31_Check none x.1) (fun _ _ => rfl) runref31_Check
noncomputable def fns12 := addF 12 true Sref31_Check fns32
theorem fns12_ok : ∀ f q t, fns12 f = some (q, t) → FnOk Try.prog cd f t := addF_ok okref31_Check fns32_ok
/-- emulator/octet.joined -/
structure Soctet_joined_0 where
  t6 : (List (List UInt8))
  t7 : Int
  t8 : Int
  b0 : (List Int)
noncomputable def Woctet_joined_0 (s : Soctet_joined_0) : Tree (Soctet_joined_0 ⊕ (List Int)) :=
  .ite (decide (s.t8 < s.t7))
    (.ite (decide (0 ≤ s.t8))
      (.opt (List UInt8) (s.t6[(s.t8).toNat]?) fun y56 =>
        .ite (decide ((s.b0.length + (y56.map fun b => (b.toNat : Int)).length) * 1 ≤ 140737488355328))
          (.leaf (.inl (Soctet_joined_0.mk s.t6 s.t7 (IntKind.wrap .i64 (s.t8 + (1 : Int))) (s.b0 ++ (y56.map fun b => (b.toNat : Int))))))
          .fail)
      .fail)
    (.leaf (.inr s.b0))
noncomputable def Loctet_joined_0 (q : Option Nat) (s : Soctet_joined_0) : Option (List Int) := limQ q (fun s => (Woctet_joined_0 s).run) s
theorem leLoctet_joined_0 (k : Nat) (s : Soctet_joined_0) : Le (Loctet_joined_0 (some k) s) (Loctet_joined_0 none s) := limQ_le (fun _ => Le.rfl) s
noncomputable def Toctet_joined (q : Option Nat) (x0 : (List (List UInt8))) : Tree (List UInt8) :=
  .opt (List Int) (Loctet_joined_0 q (Soctet_joined_0.mk x0 (x0.length : Int) (0 : Int) ([]))) fun l57 =>
    .leaf (l57.map fun x => UInt8.ofNat x.toNat)
noncomputable def octet_joined (q : Option Nat) (x0 : (List (List UInt8))) : Option (List UInt8) := (Toctet_joined q x0).run
theorem leoctet_joined (k : Nat) (x0 : (List (List UInt8))) : Le (octet_joined (some k) x0) (octet_joined none x0) := (TLe.opt (leLoctet_joined_0 k _) fun _ => TLe.rfl)
noncomputable def Aoctet_joined : Arg U ((List (List UInt8)) × Unit) := aO (cSl 9) (aNil)
noncomputable def Roctet_joined (r : (List UInt8)) : List (V U) × List (Blk U) := ([vO cStr r], [])
noncomputable def Soctet_joined : List (V U) → List (Blk U) → Option (FnOut U) := mkSpec Aoctet_joined bNil (fun x _ => octet_joined none x.1) Roctet_joined
noncomputable def Poctet_joined_0 (x : (Unit) × ((List (List UInt8)) × Unit) × (Int × Unit) × (Int × Unit) × Unit) (g : (List Int) × Unit) : Soctet_joined_0 := Soctet_joined_0.mk x.2.1.1 x.2.2.1.1 x.2.2.2.1.1 g.1
noncomputable def tAoctet_joined_0 : Tms U ((Unit) × ((List (List UInt8)) × Unit) × (Int × Unit) × (Int × Unit) × Unit) := tO 3 (cK (.row 0 0) (cUnit)) (tO 6 (cPair (cSl 9) (cUnit)) (tO 7 (cPair (cInt .i64) (cUnit)) (tO 8 (cPair (cInt .i64) (cUnit)) (tNil))))
noncomputable def tBoctet_joined_0 : Bls U ((List Int) × Unit) := bRv 5 0 (bNil)
noncomputable def eSoctet_joined_0 (s : Soctet_joined_0) : St U := { tm := [(3, .v (vO (cK (.row 0 0) (cUnit)) (()))), (6, .v (vO (cPair (cSl 9) (cUnit)) (s.t6, ()))), (7, .v (vO (cPair (cInt .i64) (cUnit)) (s.t7, ()))), (8, .v (vO (cPair (cInt .i64) (cUnit)) (s.t8, ())))], hp := [.row 5 0 s.b0] }
noncomputable def xSoctet_joined_0 (r : (List Int)) : Ex × St U := (.exit 0, { tm := [(3, .v (vO (cK (.row 0 0) (cUnit)) (())))], hp := [.row 5 0 r] })
noncomputable def xToctet_joined_0 (r : (List Int)) : Tree (Ex × St U) := .leaf (xSoctet_joined_0 r)
noncomputable def hoctet_joined_0 : Hd := { keep := [3, 6, 7, 8], xkeep := [2, 3], own := true }
noncomputable def Eoctet_joined : Env U := { P := Try.prog, cd := cd, fns := fns12, lps := (addL 0 hoctet_joined_0 (mkLoop tAoctet_joined_0 tBoctet_joined_0 Poctet_joined_0 (Loctet_joined_0 none) xToctet_joined_0) noL), frz := fun _r => false, nt := 18, n0 := 0 }
noncomputable def Boctet_joined_0 : Code := (loopAt (Try.f59.body.getD .skip) 0 0).getD .skip
theorem roundoctet_joined_0 (s : Soctet_joined_0) : round Eoctet_joined hoctet_joined_0 Boctet_joined_0 0 (eSoctet_joined_0 s) = (Woctet_joined_0 s).map (sumE eSoctet_joined_0 xSoctet_joined_0) := by kernel_rfl
theorem lpoctet_joined_0 : LpOk Eoctet_joined Boctet_joined_0 0 := mkLoop_ok (A := tAoctet_joined_0) (B := tBoctet_joined_0) (f := Poctet_joined_0) (L := Loctet_joined_0 none) (tO_ok (cK_ok cUnit_ok) (tO_ok (cPair_ok (cSl_ok 9) cUnit_ok) (tO_ok (cPair_ok (cInt_ok .i64) cUnit_ok) (tO_ok (cPair_ok (cInt_ok .i64) cUnit_ok) tNil_ok)))) (bRv_ok bNil_ok) (enc := eSoctet_joined_0) (out := xToctet_joined_0) (outS := xSoctet_joined_0) (step := Woctet_joined_0) (fun _ => rfl) (fun _ _ => by kernel_rfl) (by kernel_rfl) (fun _ => rfl) roundoctet_joined_0
theorem runoctet_joined (x : (List (List UInt8)) × Unit) (g : Unit) : execF Eoctet_joined Try.f59 (Aoctet_joined.enc x) (bNil.enc g) = (Toctet_joined none x.1).map Roctet_joined := by kernel_rfl
theorem okoctet_joined : FnOk Try.prog cd 59 Soctet_joined := mk_ok (E := Eoctet_joined) cd_ok fns12_ok Try.func59 (by kernel_rfl) (loops_of (addL_ok lpoctet_joined_0 noL_ok)) (aO_ok (cSl_ok 9) (aNil_ok)) bNil_ok (T := fun x _ => Toctet_joined none x.1) (fun _ _ => rfl) runoctet_joined
noncomputable def fns59 := addF 59 true Soctet_joined fns12
theorem fns59_ok : ∀ f q t, fns59 f = some (q, t) → FnOk Try.prog cd f t := addF_ok okoctet_joined fns12_ok
/-- emulator/octet.Put -/
structure Soctet_Put_0 where
  t0 : Int
  t12 : Int
  t13 : Int
  b0 : (List Int)
noncomputable def Woctet_Put_0 (s : Soctet_Put_0) : Tree (Soctet_Put_0 ⊕ (List Int)) :=
  .ite (decide (s.t13 < s.t12))
    (.ite (decide (0 ≤ (IntKind.wrap .i64 ((8 : Int) * s.t13))))
      (.ite (decide (0 ≤ s.t13))
        (.ite (decide (s.t13 < (s.b0.length : Int)))
          (.opt Int (s.b0[(s.t13).toNat]?) fun y58 =>
            .leaf (.inl (Soctet_Put_0.mk s.t0 s.t12 (IntKind.wrap .i64 (s.t13 + (1 : Int))) (s.b0.set ((s.t13).toNat) (IntKind.wrap .u8 (((if (0 : Int) > s.t0 then (0 : Int) else s.t0)).fdiv (2 ^ (min ((IntKind.wrap .i64 ((8 : Int) * s.t13))).toNat 64))))))))
          .fail)
        .fail)
      .fail)
    (.leaf (.inr s.b0))
noncomputable def Loctet_Put_0 (q : Option Nat) (s : Soctet_Put_0) : Option (List Int) := limQ q (fun s => (Woctet_Put_0 s).run) s
theorem leLoctet_Put_0 (k : Nat) (s : Soctet_Put_0) : Le (Loctet_Put_0 (some k) s) (Loctet_Put_0 none s) := limQ_le (fun _ => Le.rfl) s
noncomputable def Toctet_Put (q : Option Nat) (x0 : Int) (x1 : Int) : Tree (List UInt8) :=
  .ite (decide ((if (if (8 : Int) < x1 then (8 : Int) else x1) > (0 : Int) then (if (8 : Int) < x1 then (8 : Int) else x1) else (0 : Int)) = (if (if (8 : Int) < x1 then (8 : Int) else x1) > (0 : Int) then (if (8 : Int) < x1 then (8 : Int) else x1) else (0 : Int))))
    (.ite (decide (0 ≤ (if (if (8 : Int) < x1 then (8 : Int) else x1) > (0 : Int) then (if (8 : Int) < x1 then (8 : Int) else x1) else (0 : Int))))
      (.ite (decide ((1 : Int) * (if (if (8 : Int) < x1 then (8 : Int) else x1) > (0 : Int) then (if (8 : Int) < x1 then (8 : Int) else x1) else (0 : Int)) ≤ 281474976710656))
        (.opt (List Int) (Loctet_Put_0 q (Soctet_Put_0.mk x0 ((List.replicate ((if (if (8 : Int) < x1 then (8 : Int) else x1) > (0 : Int) then (if (8 : Int) < x1 then (8 : Int) else x1) else (0 : Int))).toNat (0 : Int)).length : Int) (0 : Int) (List.replicate ((if (if (8 : Int) < x1 then (8 : Int) else x1) > (0 : Int) then (if (8 : Int) < x1 then (8 : Int) else x1) else (0 : Int))).toNat (0 : Int)))) fun l59 =>
          .leaf (l59.map fun x => UInt8.ofNat x.toNat))
        .fail)
      .fail)
    .fail
noncomputable def octet_Put (q : Option Nat) (x0 : Int) (x1 : Int) : Option (List UInt8) := (Toctet_Put q x0 x1).run
theorem leoctet_Put (k : Nat) (x0 : Int) (x1 : Int) : Le (octet_Put (some k) x0 x1) (octet_Put none x0 x1) := (TLe.ite (TLe.ite (TLe.ite (TLe.opt (leLoctet_Put_0 k _) fun _ => TLe.rfl) TLe.rfl) TLe.rfl) TLe.rfl)
noncomputable def Aoctet_Put : Arg U (Int × Int × Unit) := aO (cInt .i64) (aO (cInt .i64) (aNil))
noncomputable def Roctet_Put (r : (List UInt8)) : List (V U) × List (Blk U) := ([vO cStr r], [])
noncomputable def Soctet_Put : List (V U) → List (Blk U) → Option (FnOut U) := mkSpec Aoctet_Put bNil (fun x _ => octet_Put none x.1 x.2.1) Roctet_Put
noncomputable def Poctet_Put_0 (x : (Int × Unit) × (Unit) × (Int × Unit) × (Int × Unit) × Unit) (g : (List Int) × Unit) : Soctet_Put_0 := Soctet_Put_0.mk x.1.1 x.2.2.1.1 x.2.2.2.1.1 g.1
noncomputable def tAoctet_Put_0 : Tms U ((Int × Unit) × (Unit) × (Int × Unit) × (Int × Unit) × Unit) := tO 0 (cPair (cInt .i64) (cUnit)) (tO 5 (cK (.row 0 0) (cUnit)) (tO 12 (cPair (cInt .i64) (cUnit)) (tO 13 (cPair (cInt .i64) (cUnit)) (tNil))))
noncomputable def tBoctet_Put_0 : Bls U ((List Int) × Unit) := bRv 5 0 (bNil)
noncomputable def eSoctet_Put_0 (s : Soctet_Put_0) : St U := { tm := [(0, .v (vO (cPair (cInt .i64) (cUnit)) (s.t0, ()))), (5, .v (vO (cK (.row 0 0) (cUnit)) (()))), (12, .v (vO (cPair (cInt .i64) (cUnit)) (s.t12, ()))), (13, .v (vO (cPair (cInt .i64) (cUnit)) (s.t13, ())))], hp := [.row 5 0 s.b0] }
noncomputable def xSoctet_Put_0 (r : (List Int)) : Ex × St U := (.exit 0, { tm := [(5, .v (vO (cK (.row 0 0) (cUnit)) (())))], hp := [.row 5 0 r] })
noncomputable def xToctet_Put_0 (r : (List Int)) : Tree (Ex × St U) := .leaf (xSoctet_Put_0 r)
noncomputable def hoctet_Put_0 : Hd := { keep := [0, 5, 12, 13], xkeep := [4, 5], own := false }
noncomputable def Eoctet_Put : Env U := { P := Try.prog, cd := cd, fns := fns59, lps := (addL 0 hoctet_Put_0 (mkLoop tAoctet_Put_0 tBoctet_Put_0 Poctet_Put_0 (Loctet_Put_0 none) xToctet_Put_0) noL), frz := fun _r => false, nt := 28, n0 := 0 }
noncomputable def Boctet_Put_0 : Code := (loopAt (Try.f60.body.getD .skip) 0 0).getD .skip
theorem roundoctet_Put_0 (s : Soctet_Put_0) : round Eoctet_Put hoctet_Put_0 Boctet_Put_0 0 (eSoctet_Put_0 s) = (Woctet_Put_0 s).map (sumE eSoctet_Put_0 xSoctet_Put_0) := by kernel_rfl
theorem lpoctet_Put_0 : LpOk Eoctet_Put Boctet_Put_0 0 := mkLoop_ok (A := tAoctet_Put_0) (B := tBoctet_Put_0) (f := Poctet_Put_0) (L := Loctet_Put_0 none) (tO_ok (cPair_ok (cInt_ok .i64) cUnit_ok) (tO_ok (cK_ok cUnit_ok) (tO_ok (cPair_ok (cInt_ok .i64) cUnit_ok) (tO_ok (cPair_ok (cInt_ok .i64) cUnit_ok) tNil_ok)))) (bRv_ok bNil_ok) (enc := eSoctet_Put_0) (out := xToctet_Put_0) (outS := xSoctet_Put_0) (step := Woctet_Put_0) (fun _ => rfl) (fun _ _ => by kernel_rfl) (by kernel_rfl) (fun _ => rfl) roundoctet_Put_0
theorem runoctet_Put (x : Int × Int × Unit) (g : Unit) : execF Eoctet_Put Try.f60 (Aoctet_Put.enc x) (bNil.enc g) = (Toctet_Put none x.1 x.2.1).map Roctet_Put := by kernel_rfl
theorem okoctet_Put : FnOk Try.prog cd 60 Soctet_Put := mk_ok (E := Eoctet_Put) cd_ok fns59_ok Try.func60 (by kernel_rfl) (loops_of (addL_ok lpoctet_Put_0 noL_ok)) (aO_ok (cInt_ok .i64) (aO_ok (cInt_ok .i64) (aNil_ok))) bNil_ok (T := fun x _ => Toctet_Put none x.1 x.2.1) (fun _ _ => rfl) runoctet_Put
noncomputable def fns60 := addF 60 true Soctet_Put fns59
theorem fns60_ok : ∀ f q t, fns60 f = some (q, t) → FnOk Try.prog cd f t := addF_ok okoctet_Put fns59_ok
/-- emulator/octet.sum -/
structure Soctet_sum_2 where
  t3 : Int
  t5 : (List UInt8)
  t8 : (List (List UInt8))
  t9 : Int
  t10 : Int
  t15 : Int
  t16 : Int
  t25 : Int
noncomputable def Woctet_sum_2 (s : Soctet_sum_2) : Tree (Soctet_sum_2 ⊕ (Int × (List UInt8) × (List (List UInt8)) × Int × Int × Int × Int)) :=
  .ite (decide (s.t25 < (8 : Int)))
    (.ite (decide (0 ≤ (1 : Int)))
      (.leaf (.inl (Soctet_sum_2.mk (IntKind.wrap .u32 (((BitVec.ofInt 32 ((s.t3).fdiv (2 ^ (min ((1 : Int)).toNat 32))) ^^^ BitVec.ofInt 32 (IntKind.wrap .u32 ((IntKind.wrap .u32 (((BitVec.ofInt 32 s.t3 &&& BitVec.ofInt 32 (1 : Int)).toNat : Int))) * (3988292384 : Int)))).toNat : Int))) s.t5 s.t8 s.t9 s.t10 s.t15 s.t16 (IntKind.wrap .i64 (s.t25 + (1 : Int))))))
      .fail)
    (.leaf (.inr (s.t3, s.t5, s.t8, s.t9, s.t10, s.t15, s.t16)))
noncomputable def Loctet_sum_2 (q : Option Nat) (s : Soctet_sum_2) : Option (Int × (List UInt8) × (List (List UInt8)) × Int × Int × Int × Int) := limQ q (fun s => (Woctet_sum_2 s).run) s
theorem leLoctet_sum_2 (k : Nat) (s : Soctet_sum_2) : Le (Loctet_sum_2 (some k) s) (Loctet_sum_2 none s) := limQ_le (fun _ => Le.rfl) s
structure Soctet_sum_1 where
  t3 : Int
  t5 : (List UInt8)
  t8 : (List (List UInt8))
  t9 : Int
  t10 : Int
  t15 : Int
  t16 : Int
noncomputable def Woctet_sum_1 (q : Option Nat) (s : Soctet_sum_1) : Tree (Soctet_sum_1 ⊕ (Int × (List (List UInt8)) × Int × Int)) :=
  .ite (decide (s.t16 < s.t15))
    (.ite (decide (0 ≤ s.t16))
      (.opt UInt8 (s.t5[(s.t16).toNat]?) fun y61 =>
        .opt (Int × (List UInt8) × (List (List UInt8)) × Int × Int × Int × Int) (Loctet_sum_2 q (Soctet_sum_2.mk (IntKind.wrap .u32 (((BitVec.ofInt 32 s.t3 ^^^ BitVec.ofInt 32 (IntKind.wrap .u32 (y61.toNat : Int))).toNat : Int))) s.t5 s.t8 s.t9 s.t10 s.t15 s.t16 (0 : Int))) fun l62 =>
          .leaf (.inl (Soctet_sum_1.mk l62.1 l62.2.1 l62.2.2.1 l62.2.2.2.1 l62.2.2.2.2.1 l62.2.2.2.2.2.1 (IntKind.wrap .i64 (l62.2.2.2.2.2.2 + (1 : Int))))))
      .fail)
    (.leaf (.inr (s.t3, s.t8, s.t9, s.t10)))
noncomputable def Loctet_sum_1 (q : Option Nat) (s : Soctet_sum_1) : Option (Int × (List (List UInt8)) × Int × Int) := limQ q (fun s => (Woctet_sum_1 q s).run) s
theorem leLoctet_sum_1 (k : Nat) (s : Soctet_sum_1) : Le (Loctet_sum_1 (some k) s) (Loctet_sum_1 none s) := limQ_le (fun s => (TLe.ite (TLe.ite (TLe.opt Le.rfl fun _ => (TLe.opt (leLoctet_sum_2 k _) fun _ => TLe.rfl)) TLe.rfl) TLe.rfl)) s
structure Soctet_sum_0 where
  t3 : Int
  t8 : (List (List UInt8))
  t9 : Int
  t10 : Int
noncomputable def Woctet_sum_0 (q : Option Nat) (s : Soctet_sum_0) : Tree (Soctet_sum_0 ⊕ Int) :=
  .ite (decide (s.t10 < s.t9))
    (.ite (decide (0 ≤ s.t10))
      (.opt (List UInt8) (s.t8[(s.t10).toNat]?) fun y60 =>
        .opt (Int × (List (List UInt8)) × Int × Int) (Loctet_sum_1 q (Soctet_sum_1.mk s.t3 y60 s.t8 s.t9 s.t10 (y60.length : Int) (0 : Int))) fun l63 =>
          .leaf (.inl (Soctet_sum_0.mk l63.1 l63.2.1 l63.2.2.1 (IntKind.wrap .i64 (l63.2.2.2 + (1 : Int))))))
      .fail)
    (.leaf (.inr s.t3))
noncomputable def Loctet_sum_0 (q : Option Nat) (s : Soctet_sum_0) : Option Int := limQ q (fun s => (Woctet_sum_0 q s).run) s
theorem leLoctet_sum_0 (k : Nat) (s : Soctet_sum_0) : Le (Loctet_sum_0 (some k) s) (Loctet_sum_0 none s) := limQ_le (fun s => (TLe.ite (TLe.ite (TLe.opt Le.rfl fun _ => (TLe.opt (leLoctet_sum_1 k _) fun _ => TLe.rfl)) TLe.rfl) TLe.rfl)) s
noncomputable def Toctet_sum (q : Option Nat) (x0 : (List (List UInt8))) : Tree Int :=
  .opt Int (Loctet_sum_0 q (Soctet_sum_0.mk (4294967295 : Int) x0 (x0.length : Int) (0 : Int))) fun l64 =>
    .leaf (IntKind.wrap .i64 (IntKind.wrap .u32 ((BitVec.ofInt 32 4294967295 ^^^ BitVec.ofInt 32 l64).toNat : Int)))
noncomputable def octet_sum (q : Option Nat) (x0 : (List (List UInt8))) : Option Int := (Toctet_sum q x0).run
theorem leoctet_sum (k : Nat) (x0 : (List (List UInt8))) : Le (octet_sum (some k) x0) (octet_sum none x0) := (TLe.opt (leLoctet_sum_0 k _) fun _ => TLe.rfl)
noncomputable def Aoctet_sum : Arg U ((List (List UInt8)) × Unit) := aO (cSl 9) (aNil)
noncomputable def Roctet_sum (r : Int) : List (V U) × List (Blk U) := ([vO (cInt .i64) r], [])
noncomputable def Soctet_sum : List (V U) → List (Blk U) → Option (FnOut U) := mkSpec Aoctet_sum bNil (fun x _ => octet_sum none x.1) Roctet_sum
noncomputable def Poctet_sum_0 (x : (Int × Unit) × ((List (List UInt8)) × Unit) × (Int × Unit) × (Int × Unit) × Unit) (_g : Unit) : Soctet_sum_0 := Soctet_sum_0.mk x.1.1 x.2.1.1 x.2.2.1.1 x.2.2.2.1.1
noncomputable def tAoctet_sum_0 : Tms U ((Int × Unit) × ((List (List UInt8)) × Unit) × (Int × Unit) × (Int × Unit) × Unit) := tO 3 (cPair (cInt .u32) (cUnit)) (tO 8 (cPair (cSl 9) (cUnit)) (tO 9 (cPair (cInt .i64) (cUnit)) (tO 10 (cPair (cInt .i64) (cUnit)) (tNil))))
noncomputable def tBoctet_sum_0 : Bls U (Unit) := bNil
noncomputable def eSoctet_sum_0 (s : Soctet_sum_0) : St U := { tm := [(3, .v (vO (cPair (cInt .u32) (cUnit)) (s.t3, ()))), (8, .v (vO (cPair (cSl 9) (cUnit)) (s.t8, ()))), (9, .v (vO (cPair (cInt .i64) (cUnit)) (s.t9, ()))), (10, .v (vO (cPair (cInt .i64) (cUnit)) (s.t10, ())))], hp := [] }
noncomputable def xSoctet_sum_0 (r : Int) : Ex × St U := (.exit 0, { tm := [(3, .v (vO (cPair (cInt .u32) (cUnit)) (r, ())))], hp := [] })
noncomputable def xToctet_sum_0 (r : Int) : Tree (Ex × St U) := .leaf (xSoctet_sum_0 r)
noncomputable def hoctet_sum_0 : Hd := { keep := [3, 8, 9, 10], xkeep := [2, 3], own := false }
noncomputable def Poctet_sum_1 (x : (Int × Unit) × ((List UInt8) × Unit) × ((List (List UInt8)) × Unit) × (Int × Unit) × (Int × Unit) × (Int × Unit) × (Int × Unit) × Unit) (_g : Unit) : Soctet_sum_1 := Soctet_sum_1.mk x.1.1 x.2.1.1 x.2.2.1.1 x.2.2.2.1.1 x.2.2.2.2.1.1 x.2.2.2.2.2.1.1 x.2.2.2.2.2.2.1.1
noncomputable def tAoctet_sum_1 : Tms U ((Int × Unit) × ((List UInt8) × Unit) × ((List (List UInt8)) × Unit) × (Int × Unit) × (Int × Unit) × (Int × Unit) × (Int × Unit) × Unit) := tO 3 (cPair (cInt .u32) (cUnit)) (tO 5 (cPair cStr (cUnit)) (tO 8 (cPair (cSl 9) (cUnit)) (tO 9 (cPair (cInt .i64) (cUnit)) (tO 10 (cPair (cInt .i64) (cUnit)) (tO 15 (cPair (cInt .i64) (cUnit)) (tO 16 (cPair (cInt .i64) (cUnit)) (tNil)))))))
noncomputable def tBoctet_sum_1 : Bls U (Unit) := bNil
noncomputable def eSoctet_sum_1 (s : Soctet_sum_1) : St U := { tm := [(3, .v (vO (cPair (cInt .u32) (cUnit)) (s.t3, ()))), (5, .v (vO (cPair cStr (cUnit)) (s.t5, ()))), (8, .v (vO (cPair (cSl 9) (cUnit)) (s.t8, ()))), (9, .v (vO (cPair (cInt .i64) (cUnit)) (s.t9, ()))), (10, .v (vO (cPair (cInt .i64) (cUnit)) (s.t10, ()))), (15, .v (vO (cPair (cInt .i64) (cUnit)) (s.t15, ()))), (16, .v (vO (cPair (cInt .i64) (cUnit)) (s.t16, ())))], hp := [] }
noncomputable def xSoctet_sum_1 (r : (Int × (List (List UInt8)) × Int × Int)) : Ex × St U := (.exit 2, { tm := [(3, .v (vO (cPair (cInt .u32) (cUnit)) (r.1, ()))), (8, .v (vO (cPair (cSl 9) (cUnit)) (r.2.1, ()))), (9, .v (vO (cPair (cInt .i64) (cUnit)) (r.2.2.1, ()))), (10, .v (vO (cPair (cInt .i64) (cUnit)) (r.2.2.2, ())))], hp := [] })
noncomputable def xToctet_sum_1 (r : (Int × (List (List UInt8)) × Int × Int)) : Tree (Ex × St U) := .leaf (xSoctet_sum_1 r)
noncomputable def hoctet_sum_1 : Hd := { keep := [3, 5, 8, 9, 10, 15, 16], xkeep := [2, 3, 8, 9, 10], own := false }
noncomputable def Poctet_sum_2 (x : (Int × Unit) × ((List UInt8) × Unit) × ((List (List UInt8)) × Unit) × (Int × Unit) × (Int × Unit) × (Int × Unit) × (Int × Unit) × (Int × Unit) × Unit) (_g : Unit) : Soctet_sum_2 := Soctet_sum_2.mk x.1.1 x.2.1.1 x.2.2.1.1 x.2.2.2.1.1 x.2.2.2.2.1.1 x.2.2.2.2.2.1.1 x.2.2.2.2.2.2.1.1 x.2.2.2.2.2.2.2.1.1
noncomputable def tAoctet_sum_2 : Tms U ((Int × Unit) × ((List UInt8) × Unit) × ((List (List UInt8)) × Unit) × (Int × Unit) × (Int × Unit) × (Int × Unit) × (Int × Unit) × (Int × Unit) × Unit) := tO 3 (cPair (cInt .u32) (cUnit)) (tO 5 (cPair cStr (cUnit)) (tO 8 (cPair (cSl 9) (cUnit)) (tO 9 (cPair (cInt .i64) (cUnit)) (tO 10 (cPair (cInt .i64) (cUnit)) (tO 15 (cPair (cInt .i64) (cUnit)) (tO 16 (cPair (cInt .i64) (cUnit)) (tO 25 (cPair (cInt .i64) (cUnit)) (tNil))))))))
noncomputable def tBoctet_sum_2 : Bls U (Unit) := bNil
noncomputable def eSoctet_sum_2 (s : Soctet_sum_2) : St U := { tm := [(3, .v (vO (cPair (cInt .u32) (cUnit)) (s.t3, ()))), (5, .v (vO (cPair cStr (cUnit)) (s.t5, ()))), (8, .v (vO (cPair (cSl 9) (cUnit)) (s.t8, ()))), (9, .v (vO (cPair (cInt .i64) (cUnit)) (s.t9, ()))), (10, .v (vO (cPair (cInt .i64) (cUnit)) (s.t10, ()))), (15, .v (vO (cPair (cInt .i64) (cUnit)) (s.t15, ()))), (16, .v (vO (cPair (cInt .i64) (cUnit)) (s.t16, ()))), (25, .v (vO (cPair (cInt .i64) (cUnit)) (s.t25, ())))], hp := [] }
noncomputable def xSoctet_sum_2 (r : (Int × (List UInt8) × (List (List UInt8)) × Int × Int × Int × Int)) : Ex × St U := (.exit 4, { tm := [(3, .v (vO (cPair (cInt .u32) (cUnit)) (r.1, ()))), (5, .v (vO (cPair cStr (cUnit)) (r.2.1, ()))), (8, .v (vO (cPair (cSl 9) (cUnit)) (r.2.2.1, ()))), (9, .v (vO (cPair (cInt .i64) (cUnit)) (r.2.2.2.1, ()))), (10, .v (vO (cPair (cInt .i64) (cUnit)) (r.2.2.2.2.1, ()))), (15, .v (vO (cPair (cInt .i64) (cUnit)) (r.2.2.2.2.2.1, ()))), (16, .v (vO (cPair (cInt .i64) (cUnit)) (r.2.2.2.2.2.2, ())))], hp := [] })
noncomputable def xToctet_sum_2 (r : (Int × (List UInt8) × (List (List UInt8)) × Int × Int × Int × Int)) : Tree (Ex × St U) := .leaf (xSoctet_sum_2 r)
noncomputable def hoctet_sum_2 : Hd := { keep := [3, 5, 8, 9, 10, 15, 16, 25], xkeep := [2, 3, 5, 8, 9, 10, 15, 16], own := false }
noncomputable def Eoctet_sum : Env U := { P := Try.prog, cd := cd, fns := fns60, lps := (addL 0 hoctet_sum_0 (mkLoop tAoctet_sum_0 tBoctet_sum_0 Poctet_sum_0 (Loctet_sum_0 none) xToctet_sum_0) (addL 1 hoctet_sum_1 (mkLoop tAoctet_sum_1 tBoctet_sum_1 Poctet_sum_1 (Loctet_sum_1 none) xToctet_sum_1) (addL 2 hoctet_sum_2 (mkLoop tAoctet_sum_2 tBoctet_sum_2 Poctet_sum_2 (Loctet_sum_2 none) xToctet_sum_2) noL))), frz := fun _r => false, nt := 41, n0 := 0 }
noncomputable def Boctet_sum_0 : Code := (loopAt (Try.f61.body.getD .skip) 0 0).getD .skip
theorem roundoctet_sum_0 (s : Soctet_sum_0) : round Eoctet_sum hoctet_sum_0 Boctet_sum_0 0 (eSoctet_sum_0 s) = (Woctet_sum_0 none s).map (sumE eSoctet_sum_0 xSoctet_sum_0) := by kernel_rfl
theorem lpoctet_sum_0 : LpOk Eoctet_sum Boctet_sum_0 0 := mkLoop_ok (A := tAoctet_sum_0) (B := tBoctet_sum_0) (f := Poctet_sum_0) (L := Loctet_sum_0 none) (tO_ok (cPair_ok (cInt_ok .u32) cUnit_ok) (tO_ok (cPair_ok (cSl_ok 9) cUnit_ok) (tO_ok (cPair_ok (cInt_ok .i64) cUnit_ok) (tO_ok (cPair_ok (cInt_ok .i64) cUnit_ok) tNil_ok)))) bNil_ok (enc := eSoctet_sum_0) (out := xToctet_sum_0) (outS := xSoctet_sum_0) (step := Woctet_sum_0 none) (fun _ => rfl) (fun _ _ => by kernel_rfl) (by kernel_rfl) (fun _ => rfl) roundoctet_sum_0
noncomputable def Boctet_sum_1 : Code := (loopAt (Try.f61.body.getD .skip) 0 1).getD .skip
theorem roundoctet_sum_1 (s : Soctet_sum_1) : round Eoctet_sum hoctet_sum_1 Boctet_sum_1 1 (eSoctet_sum_1 s) = (Woctet_sum_1 none s).map (sumE eSoctet_sum_1 xSoctet_sum_1) := by kernel_rfl
theorem lpoctet_sum_1 : LpOk Eoctet_sum Boctet_sum_1 1 := mkLoop_ok (A := tAoctet_sum_1) (B := tBoctet_sum_1) (f := Poctet_sum_1) (L := Loctet_sum_1 none) (tO_ok (cPair_ok (cInt_ok .u32) cUnit_ok) (tO_ok (cPair_ok cStr_ok cUnit_ok) (tO_ok (cPair_ok (cSl_ok 9) cUnit_ok) (tO_ok (cPair_ok (cInt_ok .i64) cUnit_ok) (tO_ok (cPair_ok (cInt_ok .i64) cUnit_ok) (tO_ok (cPair_ok (cInt_ok .i64) cUnit_ok) (tO_ok (cPair_ok (cInt_ok .i64) cUnit_ok) tNil_ok))))))) bNil_ok (enc := eSoctet_sum_1) (out := xToctet_sum_1) (outS := xSoctet_sum_1) (step := Woctet_sum_1 none) (fun _ => rfl) (fun _ _ => by kernel_rfl) (by kernel_rfl) (fun _ => rfl) roundoctet_sum_1
noncomputable def Boctet_sum_2 : Code := (loopAt (Try.f61.body.getD .skip) 0 2).getD .skip
theorem roundoctet_sum_2 (s : Soctet_sum_2) : round Eoctet_sum hoctet_sum_2 Boctet_sum_2 2 (eSoctet_sum_2 s) = (Woctet_sum_2 s).map (sumE eSoctet_sum_2 xSoctet_sum_2) := by kernel_rfl
theorem lpoctet_sum_2 : LpOk Eoctet_sum Boctet_sum_2 2 := mkLoop_ok (A := tAoctet_sum_2) (B := tBoctet_sum_2) (f := Poctet_sum_2) (L := Loctet_sum_2 none) (tO_ok (cPair_ok (cInt_ok .u32) cUnit_ok) (tO_ok (cPair_ok cStr_ok cUnit_ok) (tO_ok (cPair_ok (cSl_ok 9) cUnit_ok) (tO_ok (cPair_ok (cInt_ok .i64) cUnit_ok) (tO_ok (cPair_ok (cInt_ok .i64) cUnit_ok) (tO_ok (cPair_ok (cInt_ok .i64) cUnit_ok) (tO_ok (cPair_ok (cInt_ok .i64) cUnit_ok) (tO_ok (cPair_ok (cInt_ok .i64) cUnit_ok) tNil_ok)))))))) bNil_ok (enc := eSoctet_sum_2) (out := xToctet_sum_2) (outS := xSoctet_sum_2) (step := Woctet_sum_2) (fun _ => rfl) (fun _ _ => by kernel_rfl) (by kernel_rfl) (fun _ => rfl) roundoctet_sum_2
theorem runoctet_sum (x : (List (List UInt8)) × Unit) (g : Unit) : execF Eoctet_sum Try.f61 (Aoctet_sum.enc x) (bNil.enc g) = (Toctet_sum none x.1).map Roctet_sum := by kernel_rfl
theorem okoctet_sum : FnOk Try.prog cd 61 Soctet_sum := mk_ok (E := Eoctet_sum) cd_ok fns60_ok Try.func61 (by kernel_rfl) (loops_of (addL_ok lpoctet_sum_0 (addL_ok lpoctet_sum_1 (addL_ok lpoctet_sum_2 noL_ok)))) (aO_ok (cSl_ok 9) (aNil_ok)) bNil_ok (T := fun x _ => Toctet_sum none x.1) (fun _ _ => rfl) runoctet_sum
noncomputable def fns61 := addF 61 true Soctet_sum fns60
theorem fns61_ok : ∀ f q t, fns61 f = some (q, t) → FnOk Try.prog cd f t := addF_ok okoctet_sum fns60_ok
/-- emulator/octet.Seal -/
noncomputable def Toctet_Seal (q : Option Nat) (x0 : (List UInt8)) : Tree (List UInt8) :=
  .opt Int (octet_sum q ([x0])) fun r67 =>
    .opt (List UInt8) (octet_Put q r67 (4 : Int)) fun r68 =>
      .opt (List UInt8) (octet_joined q ([x0, r68])) fun r69 =>
        .leaf (r69)
noncomputable def octet_Seal (q : Option Nat) (x0 : (List UInt8)) : Option (List UInt8) := (Toctet_Seal q x0).run
theorem leoctet_Seal (k : Nat) (x0 : (List UInt8)) : Le (octet_Seal (some k) x0) (octet_Seal none x0) := (TLe.opt (leoctet_sum k _) fun _ => (TLe.opt (leoctet_Put k _ _) fun _ => (TLe.opt (leoctet_joined k _) fun _ => TLe.rfl)))
noncomputable def Aoctet_Seal : Arg U ((List UInt8) × Unit) := aO cStr (aNil)
noncomputable def Roctet_Seal (r : (List UInt8)) : List (V U) × List (Blk U) := ([vO cStr r], [])
noncomputable def Soctet_Seal : List (V U) → List (Blk U) → Option (FnOut U) := mkSpec Aoctet_Seal bNil (fun x _ => octet_Seal none x.1) Roctet_Seal
noncomputable def Eoctet_Seal : Env U := { P := Try.prog, cd := cd, fns := (addF 61 false (frzSpec Soctet_sum) (addF 59 false (frzSpec Soctet_joined) fns61)), lps := noL, frz := fun _r => false, nt := 10, n0 := 0 }
theorem runoctet_Seal (x : (List UInt8) × Unit) (g : Unit) : execF Eoctet_Seal Try.f36 (Aoctet_Seal.enc x) (bNil.enc g) = (Toctet_Seal none x.1).map Roctet_Seal := by kernel_rfl
theorem okoctet_Seal : FnOk Try.prog cd 36 Soctet_Seal := mk_ok (E := Eoctet_Seal) cd_ok (addF_ok (fnOk_frz cd_ok (mkSpec_out fun _ => rfl) okoctet_sum) (addF_ok (fnOk_frz cd_ok (mkSpec_out fun _ => rfl) okoctet_joined) fns61_ok)) Try.func36 (by kernel_rfl) (noLoops_body (by kernel_rfl)) (aO_ok cStr_ok (aNil_ok)) bNil_ok (T := fun x _ => Toctet_Seal none x.1) (fun _ _ => rfl) runoctet_Seal
noncomputable def fns36 := addF 36 true Soctet_Seal fns61
theorem fns36_ok : ∀ f q t, fns36 f = some (q, t) → FnOk Try.prog cd f t := addF_ok okoctet_Seal fns61_ok
/-- emulator/octet.PutText -/
noncomputable def Toctet_PutText (q : Option Nat) (x0 : (List UInt8)) : Tree (List UInt8) :=
  .ite (decide (0 ≤ (if (65535 : Int) < (x0.length : Int) then (65535 : Int) else (x0.length : Int))))
    (.ite (decide ((if (65535 : Int) < (x0.length : Int) then (65535 : Int) else (x0.length : Int)) ≤ ((x0.length : Nat) : Int)))
      (.opt (List UInt8) (octet_Put q (((x0.drop (0)).take (((if (65535 : Int) < (x0.length : Int) then (65535 : Int) else (x0.length : Int))).toNat - 0)).length : Int) (2 : Int)) fun r71 =>
        .opt (List UInt8) (octet_joined q ([r71, (x0.drop (0)).take (((if (65535 : Int) < (x0.length : Int) then (65535 : Int) else (x0.length : Int))).toNat - 0)])) fun r72 =>
          .leaf (r72))
      .fail)
    .fail
noncomputable def octet_PutText (q : Option Nat) (x0 : (List UInt8)) : Option (List UInt8) := (Toctet_PutText q x0).run
theorem leoctet_PutText (k : Nat) (x0 : (List UInt8)) : Le (octet_PutText (some k) x0) (octet_PutText none x0) := (TLe.ite (TLe.ite (TLe.opt (leoctet_Put k _ _) fun _ => (TLe.opt (leoctet_joined k _) fun _ => TLe.rfl)) TLe.rfl) TLe.rfl)
noncomputable def Aoctet_PutText : Arg U ((List UInt8) × Unit) := aO cStr (aNil)
noncomputable def Roctet_PutText (r : (List UInt8)) : List (V U) × List (Blk U) := ([vO cStr r], [])
noncomputable def Soctet_PutText : List (V U) → List (Blk U) → Option (FnOut U) := mkSpec Aoctet_PutText bNil (fun x _ => octet_PutText none x.1) Roctet_PutText
noncomputable def Eoctet_PutText : Env U := { P := Try.prog, cd := cd, fns := (addF 59 false (frzSpec Soctet_joined) fns36), lps := noL, frz := fun _r => false, nt := 14, n0 := 0 }
theorem runoctet_PutText (x : (List UInt8) × Unit) (g : Unit) : execF Eoctet_PutText Try.f63 (Aoctet_PutText.enc x) (bNil.enc g) = (Toctet_PutText none x.1).map Roctet_PutText := by kernel_rfl
theorem okoctet_PutText : FnOk Try.prog cd 63 Soctet_PutText := mk_ok (E := Eoctet_PutText) cd_ok (addF_ok (fnOk_frz cd_ok (mkSpec_out fun _ => rfl) okoctet_joined) fns36_ok) Try.func63 (by kernel_rfl) (noLoops_body (by kernel_rfl)) (aO_ok cStr_ok (aNil_ok)) bNil_ok (T := fun x _ => Toctet_PutText none x.1) (fun _ _ => rfl) runoctet_PutText
noncomputable def fns63 := addF 63 true Soctet_PutText fns36
theorem fns63_ok : ∀ f q t, fns63 f = some (q, t) → FnOk Try.prog cd f t := addF_ok okoctet_PutText fns36_ok
end Go.Proofs.Ytghgcaieciklbaa
namespace Go.Proofs
open Go.Shelf
shelf_lay Lays.n105 Nm 105 at Try as Try.lays78
theorem Try.extra78 : Builder.X72 Try.prog Try.lays78_ren where
  sizeBuilder := by kernel_rfl
  liesBuilder := by kernel_rfl
end Go.Proofs
namespace Go.Proofs.Ytghgcaieciklbaa
open Go Go.Ab
theorem okstrings_Builder_copyCheck : FnOk Try.prog cd 78 (ccSpec 104) := cc_ok { Try.lays78 with } Try.extra78 Try.func78 (by kernel_rfl) (by kernel_rfl) rfl rfl
/-- (*strings.Builder).WriteString -/
noncomputable def Tstrings_Builder_WriteString (x1 : (List UInt8)) (g0 : Unit) : Tree (Int × (List Int)) :=
  .opt Unit (ccF) fun r78 =>
    .ite (decide ((x1.map fun b => (b.toNat : Int)).length * 1 ≤ 140737488355328))
      (.leaf (((x1.length : Int), x1.map fun b => (b.toNat : Int))))
      .fail
noncomputable def strings_Builder_WriteString (x1 : (List UInt8)) (g0 : Unit) : Option (Int × (List Int)) := (Tstrings_Builder_WriteString x1 g0).run
noncomputable def Astrings_Builder_WriteString : Arg U ((List UInt8) × Unit) := aP 0 0 (aO cStr (aNil))
noncomputable def Gstrings_Builder_WriteString : Bls U (Unit × Unit) := bT (some 104) (cK .nilp (cNs 5)) (bNil)
noncomputable def Rstrings_Builder_WriteString (_x : (List UInt8) × Unit) (_g : Unit × Unit) (r : (Int × (List Int))) : List (V U) × List (Blk U) := ([vO (cPair (cInt .i64) (cUnit)) (r.1, ()), vO (cK .unk (cUnit)) (())], [.cells ((cK (.ptr 0 0) (cK (.row 1 0) (cUnit)) : Cdc U (Unit)).enc (())) (some 104), .row 5 0 r.2])
noncomputable def Sstrings_Builder_WriteString : List (V U) → List (Blk U) → Option (FnOut U) := mkSpecG Astrings_Builder_WriteString Gstrings_Builder_WriteString (fun x g => strings_Builder_WriteString x.1 g.1) Rstrings_Builder_WriteString
noncomputable def Estrings_Builder_WriteString : Env U := { P := Try.prog, cd := cd, fns := (addF 78 false (ccSpec 104) fns63), lps := noL, frz := fun _r => false, nt := 19, n0 := 1 }
theorem rnstrings_Builder_WriteString (x1 : (List UInt8)) (g0 : Unit) : execX true Estrings_Builder_WriteString Try.f62 (Astrings_Builder_WriteString.enc (x1, ())) (Gstrings_Builder_WriteString.enc (g0, ())) = (Tstrings_Builder_WriteString x1 g0).map (Rstrings_Builder_WriteString (x1, ()) (g0, ())) := by kernel_rfl
theorem runstrings_Builder_WriteString : ∀ (x : (List UInt8) × Unit) (g : Unit × Unit), execX true Estrings_Builder_WriteString Try.f62 (Astrings_Builder_WriteString.enc x) (Gstrings_Builder_WriteString.enc g) = (Tstrings_Builder_WriteString x.1 g.1).map (Rstrings_Builder_WriteString x g)
  | (x1, ()), (g0, ()) => rnstrings_Builder_WriteString x1 g0
theorem okstrings_Builder_WriteString : FnOk Try.prog cd 62 Sstrings_Builder_WriteString := mk_okG (E := Estrings_Builder_WriteString) (A := Astrings_Builder_WriteString) (B := Gstrings_Builder_WriteString) true cd_ok (addF_ok okstrings_Builder_copyCheck fns63_ok) Try.func62 (by kernel_rfl) (noLoops_body (by kernel_rfl)) (aP_ok (aO_ok cStr_ok (aNil_ok))) (bT_ok (cK_ok (cNs_ok 5)) bNil_ok) (T := fun (x : (List UInt8) × Unit) (g : Unit × Unit) => Tstrings_Builder_WriteString x.1 g.1) (fun _ _ => rfl) runstrings_Builder_WriteString
/-- (*strings.Builder).WriteString -/
noncomputable def Tstrings_Builder_WriteString_V2 (x1 : (List UInt8)) (g0 : Unit) (g1 : (List Int)) : Tree (Int × (List Int)) :=
  .opt Unit (ccF) fun r90 =>
    .ite (decide ((g1.length + (x1.map fun b => (b.toNat : Int)).length) * 1 ≤ 140737488355328))
      (.leaf (((x1.length : Int), g1 ++ (x1.map fun b => (b.toNat : Int)))))
      .fail
noncomputable def strings_Builder_WriteString_V2 (x1 : (List UInt8)) (g0 : Unit) (g1 : (List Int)) : Option (Int × (List Int)) := (Tstrings_Builder_WriteString_V2 x1 g0 g1).run
noncomputable def Astrings_Builder_WriteString_V2 : Arg U ((List UInt8) × Unit) := aP 0 0 (aO cStr (aNil))
noncomputable def Gstrings_Builder_WriteString_V2 : Bls U (Unit × (List Int) × Unit) := bT (some 104) (cK (.ptr 0 0) (cK (.row 1 0) (cUnit))) (bR 5 (bNil))
noncomputable def Rstrings_Builder_WriteString_V2 (_x : (List UInt8) × Unit) (_g : Unit × (List Int) × Unit) (r : (Int × (List Int))) : List (V U) × List (Blk U) := ([vO (cPair (cInt .i64) (cUnit)) (r.1, ()), vO (cK .unk (cUnit)) (())], [.cells ((cK (.ptr 0 0) (cK (.row 1 1) (cUnit)) : Cdc U (Unit)).enc (())) (some 104), .row 5 1 r.2])
noncomputable def Sstrings_Builder_WriteString_V2 : List (V U) → List (Blk U) → Option (FnOut U) := mkSpecG Astrings_Builder_WriteString_V2 Gstrings_Builder_WriteString_V2 (fun x g => strings_Builder_WriteString_V2 x.1 g.1 g.2.1) Rstrings_Builder_WriteString_V2
noncomputable def Estrings_Builder_WriteString_V2 : Env U := { P := Try.prog, cd := cd, fns := (addF 78 false (ccSpec 104) fns63), lps := noL, frz := fun _r => false, nt := 19, n0 := 2 }
theorem rnstrings_Builder_WriteString_V2 (x1 : (List UInt8)) (g0 : Unit) (g1 : (List Int)) : execX true Estrings_Builder_WriteString_V2 Try.f62 (Astrings_Builder_WriteString_V2.enc (x1, ())) (Gstrings_Builder_WriteString_V2.enc (g0, g1, ())) = (Tstrings_Builder_WriteString_V2 x1 g0 g1).map (Rstrings_Builder_WriteString_V2 (x1, ()) (g0, g1, ())) := by kernel_rfl
theorem runstrings_Builder_WriteString_V2 : ∀ (x : (List UInt8) × Unit) (g : Unit × (List Int) × Unit), execX true Estrings_Builder_WriteString_V2 Try.f62 (Astrings_Builder_WriteString_V2.enc x) (Gstrings_Builder_WriteString_V2.enc g) = (Tstrings_Builder_WriteString_V2 x.1 g.1 g.2.1).map (Rstrings_Builder_WriteString_V2 x g)
  | (x1, ()), (g0, g1, ()) => rnstrings_Builder_WriteString_V2 x1 g0 g1
theorem okstrings_Builder_WriteString_V2 : FnOk Try.prog cd 62 Sstrings_Builder_WriteString_V2 := mk_okG (E := Estrings_Builder_WriteString_V2) (A := Astrings_Builder_WriteString_V2) (B := Gstrings_Builder_WriteString_V2) true cd_ok (addF_ok okstrings_Builder_copyCheck fns63_ok) Try.func62 (by kernel_rfl) (noLoops_body (by kernel_rfl)) (aP_ok (aO_ok cStr_ok (aNil_ok))) (bT_ok (cK_ok (cK_ok cUnit_ok)) (bR_ok bNil_ok)) (T := fun (x : (List UInt8) × Unit) (g : Unit × (List Int) × Unit) => Tstrings_Builder_WriteString_V2 x.1 g.1 g.2.1) (fun _ _ => rfl) runstrings_Builder_WriteString_V2
end Go.Proofs.Ytghgcaieciklbaa
namespace Go.Proofs
open Go.Shelf
shelf_lay Lays.n169 Nm 169 at Try as Try.lays64
theorem Try.extra64 : Builder.Extra Try.prog Try.lays64_ren where
  sizeBuilder := by kernel_rfl
  liesBuilder := by kernel_rfl
  t5 := Try.underlying5
  a5 := Try.isAgg5
  z5 := Try.sizeOf5
  v5 := Try.zeroValue5
  infoByte := by kernel_rfl
  cellsByte := by kernel_rfl
  sizeByte := by kernel_rfl
  neB5 := by decide
end Go.Proofs
namespace Go.Proofs.Ytghgcaieciklbaa
open Go Go.Ab
theorem okstrings_Builder_String : FnOk Try.prog cd 64 (strSpec cd 5) := str_ok cd_ok Try.lays64 Try.extra64 Try.func64 (by kernel_rfl) (by kernel_rfl) rfl rfl
/-- emulator/image.body -/
structure Simage_body_0 where
  t30 : (List Symbol)
  t31 : Int
  t32 : Int
  b1 : (List Int)
noncomputable def Wimage_body_0 (q : Option Nat) (s : Simage_body_0) : Tree (Simage_body_0 ⊕ (List Int)) :=
  .ite (decide (s.t32 < s.t31))
    (.ite (decide (0 ≤ s.t32))
      (.opt Symbol (s.t30[(s.t32).toNat]?) fun y115 =>
        .ite (y115.global)
          (.opt (List UInt8) (octet_PutText q y115.name) fun r116 =>
            .opt (List UInt8) (octet_Put q y115.section_ (1 : Int)) fun r117 =>
              .ite (decide (r116.length + r117.length ≤ 9223372036854775807))
                (.opt (List UInt8) (octet_Put q y115.value (2 : Int)) fun r118 =>
                  .ite (decide ((r116 ++ r117).length + r118.length ≤ 9223372036854775807))
                    (.opt (List UInt8) (octet_Put q (1 : Int) (1 : Int)) fun r119 =>
                      .ite (decide (((r116 ++ r117) ++ r118).length + r119.length ≤ 9223372036854775807))
                        (.opt (Int × (List Int)) (strings_Builder_WriteString_V2 (((r116 ++ r117) ++ r118) ++ r119) () s.b1) fun r120 =>
                          .leaf (.inl (Simage_body_0.mk s.t30 s.t31 (IntKind.wrap .i64 (s.t32 + (1 : Int))) r120.2)))
                        .fail)
                    .fail)
                .fail)
          (.opt (List UInt8) (octet_PutText q y115.name) fun r121 =>
            .opt (List UInt8) (octet_Put q y115.section_ (1 : Int)) fun r122 =>
              .ite (decide (r121.length + r122.length ≤ 9223372036854775807))
                (.opt (List UInt8) (octet_Put q y115.value (2 : Int)) fun r123 =>
                  .ite (decide ((r121 ++ r122).length + r123.length ≤ 9223372036854775807))
                    (.opt (List UInt8) (octet_Put q (0 : Int) (1 : Int)) fun r124 =>
                      .ite (decide (((r121 ++ r122) ++ r123).length + r124.length ≤ 9223372036854775807))
                        (.opt (Int × (List Int)) (strings_Builder_WriteString_V2 (((r121 ++ r122) ++ r123) ++ r124) () s.b1) fun r125 =>
                          .leaf (.inl (Simage_body_0.mk s.t30 s.t31 (IntKind.wrap .i64 (s.t32 + (1 : Int))) r125.2)))
                        .fail)
                    .fail)
                .fail))
      .fail)
    (.leaf (.inr s.b1))
noncomputable def Limage_body_0 (q : Option Nat) (s : Simage_body_0) : Option (List Int) := limQ q (fun s => (Wimage_body_0 q s).run) s
theorem leLimage_body_0 (k : Nat) (s : Simage_body_0) : Le (Limage_body_0 (some k) s) (Limage_body_0 none s) := limQ_le (fun s => (TLe.ite (TLe.ite (TLe.opt Le.rfl fun _ => (TLe.ite (TLe.opt (leoctet_PutText k _) fun _ => (TLe.opt (leoctet_Put k _ _) fun _ => (TLe.ite (TLe.opt (leoctet_Put k _ _) fun _ => (TLe.ite (TLe.opt (leoctet_Put k _ _) fun _ => TLe.rfl) TLe.rfl)) TLe.rfl))) (TLe.opt (leoctet_PutText k _) fun _ => (TLe.opt (leoctet_Put k _ _) fun _ => (TLe.ite (TLe.opt (leoctet_Put k _ _) fun _ => (TLe.ite (TLe.opt (leoctet_Put k _ _) fun _ => TLe.rfl) TLe.rfl)) TLe.rfl))))) TLe.rfl) TLe.rfl)) s
noncomputable def Timage_body (q : Option Nat) (x0 : Image) : Tree (List UInt8) :=
  .opt (List UInt8) (octet_PutText q x0.text) fun r109 =>
    .ite (decide (([73, 77, 71, 49] : List UInt8).length + r109.length ≤ 9223372036854775807))
      (.opt (List UInt8) (octet_PutText q x0.data) fun r110 =>
        .ite (decide ((([73, 77, 71, 49] : List UInt8) ++ r109).length + r110.length ≤ 9223372036854775807))
          (.opt (List UInt8) (octet_Put q x0.bss (2 : Int)) fun r111 =>
            .ite (decide (((([73, 77, 71, 49] : List UInt8) ++ r109) ++ r110).length + r111.length ≤ 9223372036854775807))
              (.opt (List UInt8) (octet_Put q x0.entry (2 : Int)) fun r112 =>
                .ite (decide ((((([73, 77, 71, 49] : List UInt8) ++ r109) ++ r110) ++ r111).length + r112.length ≤ 9223372036854775807))
                  (.opt (List UInt8) (octet_Put q (x0.symbols.length : Int) (2 : Int)) fun r113 =>
                    .ite (decide (((((([73, 77, 71, 49] : List UInt8) ++ r109) ++ r110) ++ r111) ++ r112).length + r113.length ≤ 9223372036854775807))
                      (.opt (Int × (List Int)) (strings_Builder_WriteString (((((([73, 77, 71, 49] : List UInt8) ++ r109) ++ r110) ++ r111) ++ r112) ++ r113) ()) fun r114 =>
                        .opt (List Int) (Limage_body_0 q (Simage_body_0.mk x0.symbols (x0.symbols.length : Int) (0 : Int) r114.2)) fun l126 =>
                          .opt (List UInt8) (strF (l126.map fun x => UInt8.ofNat x.toNat)) fun r127 =>
                            .leaf (r127))
                      .fail)
                  .fail)
              .fail)
          .fail)
      .fail
noncomputable def image_body (q : Option Nat) (x0 : Image) : Option (List UInt8) := (Timage_body q x0).run
theorem leimage_body (k : Nat) (x0 : Image) : Le (image_body (some k) x0) (image_body none x0) := (TLe.opt (leoctet_PutText k _) fun _ => (TLe.ite (TLe.opt (leoctet_PutText k _) fun _ => (TLe.ite (TLe.opt (leoctet_Put k _ _) fun _ => (TLe.ite (TLe.opt (leoctet_Put k _ _) fun _ => (TLe.ite (TLe.opt (leoctet_Put k _ _) fun _ => (TLe.ite (TLe.opt Le.rfl fun _ => (TLe.opt (leLimage_body_0 k _) fun _ => TLe.rfl)) TLe.rfl)) TLe.rfl)) TLe.rfl)) TLe.rfl)) TLe.rfl))
noncomputable def Aimage_body : Arg U (Image × Unit) := aA cImage (aNil)
noncomputable def Rimage_body (r : (List UInt8)) : List (V U) × List (Blk U) := ([vO cStr r], [])
noncomputable def Simage_body : List (V U) → List (Blk U) → Option (FnOut U) := mkSpec Aimage_body bNil (fun x _ => image_body none x.1) Rimage_body
noncomputable def Pimage_body_0 (x : (Unit) × ((List Symbol) × Unit) × (Int × Unit) × (Int × Unit) × Unit) (g : (Unit) × (List Int) × Unit) : Simage_body_0 := Simage_body_0.mk x.2.1.1 x.2.2.1.1 x.2.2.2.1.1 g.2.1
noncomputable def tAimage_body_0 : Tms U ((Unit) × ((List Symbol) × Unit) × (Int × Unit) × (Int × Unit) × Unit) := tO 3 (cK (.ptr 0 0) (cUnit)) (tO 30 (cPair (cSl 75) (cUnit)) (tO 31 (cPair (cInt .i64) (cUnit)) (tO 32 (cPair (cInt .i64) (cUnit)) (tNil))))
noncomputable def tBimage_body_0 : Bls U ((Unit) × (List Int) × Unit) := bT (some 104) (cK (.ptr 0 0) (cK (.row 1 0) (cUnit))) (bRv 5 0 (bNil))
noncomputable def eSimage_body_0 (s : Simage_body_0) : St U := { tm := [(3, .v (vO (cK (.ptr 0 0) (cUnit)) (()))), (30, .v (vO (cPair (cSl 75) (cUnit)) (s.t30, ()))), (31, .v (vO (cPair (cInt .i64) (cUnit)) (s.t31, ()))), (32, .v (vO (cPair (cInt .i64) (cUnit)) (s.t32, ())))], hp := [.cells ((cK (.ptr 0 0) (cK (.row 1 0) (cUnit)) : Cdc U (Unit)).enc (())) (some 104), .row 5 0 s.b1] }
noncomputable def xSimage_body_0 (r : (List Int)) : Ex × St U := (.exit 0, { tm := [(3, .v (vO (cK (.ptr 0 0) (cUnit)) (())))], hp := [.cells ((cK (.ptr 0 0) (cK (.row 1 0) (cUnit)) : Cdc U (Unit)).enc (())) (some 104), .row 5 0 r] })
noncomputable def xTimage_body_0 (r : (List Int)) : Tree (Ex × St U) := .leaf (xSimage_body_0 r)
noncomputable def himage_body_0 : Hd := { keep := [3, 30, 31, 32], xkeep := [2, 3], own := false }
noncomputable def Eimage_body : Env U := { P := Try.prog, cd := cd, fns := (addF 64 false (strSpec cd 5) (addF 62 false (orSpec (Sstrings_Builder_WriteString) (Sstrings_Builder_WriteString_V2)) fns63)), lps := (addL 0 himage_body_0 (mkLoop tAimage_body_0 tBimage_body_0 Pimage_body_0 (Limage_body_0 none) xTimage_body_0) noL), frz := fun _r => false, nt := 55, n0 := 0 }
noncomputable def Bimage_body_0 : Code := (loopAt (Try.f37.body.getD .skip) 0 0).getD .skip
theorem roundimage_body_0 (s : Simage_body_0) : round Eimage_body himage_body_0 Bimage_body_0 0 (eSimage_body_0 s) = (Wimage_body_0 none s).map (sumE eSimage_body_0 xSimage_body_0) := by kernel_rfl
theorem lpimage_body_0 : LpOk Eimage_body Bimage_body_0 0 := mkLoop_ok (A := tAimage_body_0) (B := tBimage_body_0) (f := Pimage_body_0) (L := Limage_body_0 none) (tO_ok (cK_ok cUnit_ok) (tO_ok (cPair_ok (cSl_ok 75) cUnit_ok) (tO_ok (cPair_ok (cInt_ok .i64) cUnit_ok) (tO_ok (cPair_ok (cInt_ok .i64) cUnit_ok) tNil_ok)))) (bT_ok (cK_ok (cK_ok cUnit_ok)) (bRv_ok bNil_ok)) (enc := eSimage_body_0) (out := xTimage_body_0) (outS := xSimage_body_0) (step := Wimage_body_0 none) (fun _ => rfl) (fun _ _ => by kernel_rfl) (by kernel_rfl) (fun _ => rfl) roundimage_body_0
theorem runimage_body (x : Image × Unit) (g : Unit) : execF Eimage_body Try.f37 (Aimage_body.enc x) (bNil.enc g) = (Timage_body none x.1).map Rimage_body := by kernel_rfl
theorem okimage_body : FnOk Try.prog cd 37 Simage_body := mk_ok (E := Eimage_body) cd_ok (addF_ok okstrings_Builder_String (addF_ok (orSpec_ok okstrings_Builder_WriteString okstrings_Builder_WriteString_V2) fns63_ok)) Try.func37 (by kernel_rfl) (loops_of (addL_ok lpimage_body_0 noL_ok)) (aA_ok cImage_ok (aNil_ok)) bNil_ok (T := fun x _ => Timage_body none x.1) (fun _ _ => rfl) runimage_body
noncomputable def fns37 := addF 37 true Simage_body fns63
theorem fns37_ok : ∀ f q t, fns37 f = some (q, t) → FnOk Try.prog cd f t := addF_ok okimage_body fns63_ok
/-- emulator/image.Encode -/
noncomputable def Timage_Encode (q : Option Nat) (x0 : Image) : Tree ((List UInt8) × Int) :=
  .opt Int (image_Check q x0) fun r128 =>
    .ite (!decide (r128 = (0 : Int)))
      (.leaf ((([] : List UInt8), r128)))
      (.opt (List UInt8) (image_body q x0) fun r129 =>
        .opt (List UInt8) (octet_Seal q r129) fun r130 =>
          .leaf ((r130, (0 : Int))))
noncomputable def image_Encode (q : Option Nat) (x0 : Image) : Option ((List UInt8) × Int) := (Timage_Encode q x0).run
theorem leimage_Encode (k : Nat) (x0 : Image) : Le (image_Encode (some k) x0) (image_Encode none x0) := (TLe.opt (leimage_Check k _) fun _ => (TLe.ite TLe.rfl (TLe.opt (leimage_body k _) fun _ => (TLe.opt (leoctet_Seal k _) fun _ => TLe.rfl))))
noncomputable def Aimage_Encode : Arg U (Image × Unit) := aA cImage (aNil)
noncomputable def Rimage_Encode (r : ((List UInt8) × Int)) : List (V U) × List (Blk U) := ([vO cStr r.1, vO (cInt .i64) r.2], [])
noncomputable def Simage_Encode : List (V U) → List (Blk U) → Option (FnOut U) := mkSpec Aimage_Encode bNil (fun x _ => image_Encode none x.1) Rimage_Encode
noncomputable def Eimage_Encode : Env U := { P := Try.prog, cd := cd, fns := fns37, lps := noL, frz := fun _r => false, nt := 13, n0 := 0 }
theorem runimage_Encode (x : Image × Unit) (g : Unit) : execF Eimage_Encode Try.f16 (Aimage_Encode.enc x) (bNil.enc g) = (Timage_Encode none x.1).map Rimage_Encode := by kernel_rfl
theorem okimage_Encode : FnOk Try.prog cd 16 Simage_Encode := mk_ok (E := Eimage_Encode) cd_ok fns37_ok Try.func16 (by kernel_rfl) (noLoops_body (by kernel_rfl)) (aA_ok cImage_ok (aNil_ok)) bNil_ok (T := fun x _ => Timage_Encode none x.1) (fun _ _ => rfl) runimage_Encode
noncomputable def fns16 := addF 16 true Simage_Encode fns37
theorem fns16_ok : ∀ f q t, fns16 f = some (q, t) → FnOk Try.prog cd f t := addF_ok okimage_Encode fns37_ok
/-- emulator/octet.Open -/
noncomputable def Toctet_Open (q : Option Nat) (x0 : (List UInt8)) : Tree ((List UInt8) × Int) :=
  .ite (decide ((IntKind.wrap .i64 ((x0.length : Int) - (4 : Int))) < (0 : Int)))
    (.leaf ((([] : List UInt8), (8 : Int))))
    (.ite (decide (0 ≤ IntKind.wrap .i64 ((x0.length : Int) - (4 : Int))))
      (.ite (decide (IntKind.wrap .i64 ((x0.length : Int) - (4 : Int)) ≤ ((x0.length : Nat) : Int)))
        (.ite (decide (0 ≤ IntKind.wrap .i64 ((x0.length : Int) - (4 : Int))))
          (.ite (decide (IntKind.wrap .i64 ((x0.length : Int) - (4 : Int)) ≤ ((x0.length : Nat) : Int)))
            (.opt Int (octet_sum q ([(x0.drop (0)).take ((IntKind.wrap .i64 ((x0.length : Int) - (4 : Int))).toNat - 0)])) fun r131 =>
              .opt (List UInt8) (octet_Put q r131 (4 : Int)) fun r132 =>
                .ite (!decide (((x0.drop ((IntKind.wrap .i64 ((x0.length : Int) - (4 : Int))).toNat)).take (x0.length - (IntKind.wrap .i64 ((x0.length : Int) - (4 : Int))).toNat)) = r132))
                  (.leaf ((([] : List UInt8), (10 : Int))))
                  (.ite (decide (0 ≤ IntKind.wrap .i64 ((x0.length : Int) - (4 : Int))))
                    (.ite (decide (IntKind.wrap .i64 ((x0.length : Int) - (4 : Int)) ≤ ((x0.length : Nat) : Int)))
                      (.leaf (((x0.drop (0)).take ((IntKind.wrap .i64 ((x0.length : Int) - (4 : Int))).toNat - 0), (0 : Int))))
                      .fail)
                    .fail))
            .fail)
          .fail)
        .fail)
      .fail)
noncomputable def octet_Open (q : Option Nat) (x0 : (List UInt8)) : Option ((List UInt8) × Int) := (Toctet_Open q x0).run
theorem leoctet_Open (k : Nat) (x0 : (List UInt8)) : Le (octet_Open (some k) x0) (octet_Open none x0) := (TLe.ite TLe.rfl (TLe.ite (TLe.ite (TLe.ite (TLe.ite (TLe.opt (leoctet_sum k _) fun _ => (TLe.opt (leoctet_Put k _ _) fun _ => TLe.rfl)) TLe.rfl) TLe.rfl) TLe.rfl) TLe.rfl))
noncomputable def Aoctet_Open : Arg U ((List UInt8) × Unit) := aO cStr (aNil)
noncomputable def Roctet_Open (r : ((List UInt8) × Int)) : List (V U) × List (Blk U) := ([vO cStr r.1, vO (cInt .i64) r.2], [])
noncomputable def Soctet_Open : List (V U) → List (Blk U) → Option (FnOut U) := mkSpec Aoctet_Open bNil (fun x _ => octet_Open none x.1) Roctet_Open
noncomputable def Eoctet_Open : Env U := { P := Try.prog, cd := cd, fns := (addF 61 false (frzSpec Soctet_sum) fns16), lps := noL, frz := fun _r => false, nt := 23, n0 := 0, fps := fun _r _i => bif Nat.beq _r 4 && Nat.beq _i 2 then .rd [] else bif Nat.beq _r 4 && Nat.beq _i 7 then .wr [0] 1 else .none }
theorem runoctet_Open (x : (List UInt8) × Unit) (g : Unit) : execF Eoctet_Open Try.f42 (Aoctet_Open.enc x) (bNil.enc g) = (Toctet_Open none x.1).map Roctet_Open := by kernel_rfl
theorem okoctet_Open : FnOk Try.prog cd 42 Soctet_Open := mk_ok (E := Eoctet_Open) cd_ok (addF_ok (fnOk_frz cd_ok (mkSpec_out fun _ => rfl) okoctet_sum) fns16_ok) Try.func42 (by kernel_rfl) (noLoops_body (by kernel_rfl)) (aO_ok cStr_ok (aNil_ok)) bNil_ok (T := fun x _ => Toctet_Open none x.1) (fun _ _ => rfl) runoctet_Open
noncomputable def fns42 := addF 42 true Soctet_Open fns16
theorem fns42_ok : ∀ f q t, fns42 f = some (q, t) → FnOk Try.prog cd f t := addF_ok okoctet_Open fns16_ok
/-- internal/stringslite.HasPrefix -/
noncomputable def Tinternal_stringslite_HasPrefix (x0 : (List UInt8)) (x1 : (List UInt8)) : Tree Bool :=
  .ite (decide ((x1.length : Int) ≤ (x0.length : Int)))
    (.ite (decide (0 ≤ (x1.length : Int)))
      (.ite (decide ((x1.length : Int) ≤ ((x0.length : Nat) : Int)))
        (.leaf (decide (((x0.drop (0)).take (((x1.length : Int)).toNat - 0)) = x1)))
        .fail)
      .fail)
    (.leaf (false))
noncomputable def internal_stringslite_HasPrefix (x0 : (List UInt8)) (x1 : (List UInt8)) : Option Bool := (Tinternal_stringslite_HasPrefix x0 x1).run
noncomputable def Ainternal_stringslite_HasPrefix : Arg U ((List UInt8) × (List UInt8) × Unit) := aO cStr (aO cStr (aNil))
noncomputable def Rinternal_stringslite_HasPrefix (r : Bool) : List (V U) × List (Blk U) := ([vO cBool r], [])
noncomputable def Sinternal_stringslite_HasPrefix : List (V U) → List (Blk U) → Option (FnOut U) := mkSpec Ainternal_stringslite_HasPrefix bNil (fun x _ => internal_stringslite_HasPrefix x.1 x.2.1) Rinternal_stringslite_HasPrefix
noncomputable def Einternal_stringslite_HasPrefix : Env U := { P := Try.prog, cd := cd, fns := fns42, lps := noL, frz := fun _r => false, nt := 18, n0 := 0 }
theorem runinternal_stringslite_HasPrefix (x : (List UInt8) × (List UInt8) × Unit) (g : Unit) : execF Einternal_stringslite_HasPrefix Try.f66 (Ainternal_stringslite_HasPrefix.enc x) (bNil.enc g) = (Tinternal_stringslite_HasPrefix x.1 x.2.1).map Rinternal_stringslite_HasPrefix := by kernel_rfl
theorem okinternal_stringslite_HasPrefix : FnOk Try.prog cd 66 Sinternal_stringslite_HasPrefix := mk_ok (E := Einternal_stringslite_HasPrefix) cd_ok fns42_ok Try.func66 (by kernel_rfl) (noLoops_body (by kernel_rfl)) (aO_ok cStr_ok (aO_ok cStr_ok (aNil_ok))) bNil_ok (T := fun x _ => Tinternal_stringslite_HasPrefix x.1 x.2.1) (fun _ _ => rfl) runinternal_stringslite_HasPrefix
noncomputable def fns66 := addF 66 true Sinternal_stringslite_HasPrefix fns42
theorem fns66_ok : ∀ f q t, fns66 f = some (q, t) → FnOk Try.prog cd f t := addF_ok okinternal_stringslite_HasPrefix fns42_ok
/-- strings.HasPrefix -/
noncomputable def Tstrings_HasPrefix (x0 : (List UInt8)) (x1 : (List UInt8)) : Tree Bool :=
  .opt Bool (internal_stringslite_HasPrefix x0 x1) fun r133 =>
    .leaf (r133)
noncomputable def strings_HasPrefix (x0 : (List UInt8)) (x1 : (List UInt8)) : Option Bool := (Tstrings_HasPrefix x0 x1).run
noncomputable def Astrings_HasPrefix : Arg U ((List UInt8) × (List UInt8) × Unit) := aO cStr (aO cStr (aNil))
noncomputable def Rstrings_HasPrefix (r : Bool) : List (V U) × List (Blk U) := ([vO cBool r], [])
noncomputable def Sstrings_HasPrefix : List (V U) → List (Blk U) → Option (FnOut U) := mkSpec Astrings_HasPrefix bNil (fun x _ => strings_HasPrefix x.1 x.2.1) Rstrings_HasPrefix
noncomputable def Estrings_HasPrefix : Env U := { P := Try.prog, cd := cd, fns := fns66, lps := noL, frz := fun _r => false, nt := 8, n0 := 0 }
theorem runstrings_HasPrefix (x : (List UInt8) × (List UInt8) × Unit) (g : Unit) : execF Estrings_HasPrefix Try.f43 (Astrings_HasPrefix.enc x) (bNil.enc g) = (Tstrings_HasPrefix x.1 x.2.1).map Rstrings_HasPrefix := by kernel_rfl
theorem okstrings_HasPrefix : FnOk Try.prog cd 43 Sstrings_HasPrefix := mk_ok (E := Estrings_HasPrefix) cd_ok fns66_ok Try.func43 (by kernel_rfl) (noLoops_body (by kernel_rfl)) (aO_ok cStr_ok (aO_ok cStr_ok (aNil_ok))) bNil_ok (T := fun x _ => Tstrings_HasPrefix x.1 x.2.1) (fun _ _ => rfl) runstrings_HasPrefix
noncomputable def fns43 := addF 43 true Sstrings_HasPrefix fns66
theorem fns43_ok : ∀ f q t, fns43 f = some (q, t) → FnOk Try.prog cd f t := addF_ok okstrings_HasPrefix fns66_ok
/-- emulator/octet.Get -/
structure Soctet_Get_0 where
  t0 : (List UInt8)
  t1 : Int
  t2 : Int
  t9 : Int
  t10 : Int
noncomputable def Woctet_Get_0 (s : Soctet_Get_0) : Tree (Soctet_Get_0 ⊕ (Int × Int × Int)) :=
  .ite (decide ((0 : Int) ≤ s.t10))
    (.ite (decide (0 ≤ (8 : Int)))
      (.ite (decide (0 ≤ IntKind.wrap .i64 (s.t1 + s.t10)))
        (.opt UInt8 (s.t0[(IntKind.wrap .i64 (s.t1 + s.t10)).toNat]?) fun y134 =>
          .leaf (.inl (Soctet_Get_0.mk s.t0 s.t1 s.t2 (IntKind.wrap .i64 (((BitVec.ofInt 64 (IntKind.wrap .i64 (s.t9 * 2 ^ (min ((8 : Int)).toNat 64))) ||| BitVec.ofInt 64 (IntKind.wrap .i64 (y134.toNat : Int))).toNat : Int))) (IntKind.wrap .i64 (s.t10 - (1 : Int))))))
        .fail)
      .fail)
    (.leaf (.inr (s.t1, s.t2, s.t9)))
noncomputable def Loctet_Get_0 (q : Option Nat) (s : Soctet_Get_0) : Option (Int × Int × Int) := limQ q (fun s => (Woctet_Get_0 s).run) s
theorem leLoctet_Get_0 (k : Nat) (s : Soctet_Get_0) : Le (Loctet_Get_0 (some k) s) (Loctet_Get_0 none s) := limQ_le (fun _ => Le.rfl) s
noncomputable def Toctet_Get (q : Option Nat) (x0 : (List UInt8)) (x1 : Int) (x2 : Int) : Tree (Int × Int × Int) :=
  .ite (decide (x2 < (1 : Int)))
    (.leaf (((0 : Int), (0 : Int), (1 : Int))))
    (.ite (decide ((7 : Int) < x2))
      (.leaf (((0 : Int), (0 : Int), (1 : Int))))
      (.ite (decide (x1 < (0 : Int)))
        (.leaf (((0 : Int), (0 : Int), (1 : Int))))
        (.ite (decide ((x0.length : Int) < x1))
          (.leaf (((0 : Int), (0 : Int), (1 : Int))))
          (.ite (decide ((IntKind.wrap .i64 ((x0.length : Int) - x1)) < x2))
            (.leaf (((0 : Int), (0 : Int), (8 : Int))))
            (.opt (Int × Int × Int) (Loctet_Get_0 q (Soctet_Get_0.mk x0 x1 x2 (0 : Int) (IntKind.wrap .i64 (x2 - (1 : Int))))) fun l135 =>
              .leaf ((l135.2.2, IntKind.wrap .i64 (l135.1 + l135.2.1), (0 : Int))))))))
noncomputable def octet_Get (q : Option Nat) (x0 : (List UInt8)) (x1 : Int) (x2 : Int) : Option (Int × Int × Int) := (Toctet_Get q x0 x1 x2).run
theorem leoctet_Get (k : Nat) (x0 : (List UInt8)) (x1 : Int) (x2 : Int) : Le (octet_Get (some k) x0 x1 x2) (octet_Get none x0 x1 x2) := (TLe.ite TLe.rfl (TLe.ite TLe.rfl (TLe.ite TLe.rfl (TLe.ite TLe.rfl (TLe.ite TLe.rfl (TLe.opt (leLoctet_Get_0 k _) fun _ => TLe.rfl))))))
noncomputable def Aoctet_Get : Arg U ((List UInt8) × Int × Int × Unit) := aO cStr (aO (cInt .i64) (aO (cInt .i64) (aNil)))
noncomputable def Roctet_Get (r : (Int × Int × Int)) : List (V U) × List (Blk U) := ([vO (cInt .i64) r.1, vO (cInt .i64) r.2.1, vO (cInt .i64) r.2.2], [])
noncomputable def Soctet_Get : List (V U) → List (Blk U) → Option (FnOut U) := mkSpec Aoctet_Get bNil (fun x _ => octet_Get none x.1 x.2.1 x.2.2.1) Roctet_Get
noncomputable def Poctet_Get_0 (x : ((List UInt8) × Unit) × (Int × Unit) × (Int × Unit) × (Int × Unit) × (Int × Unit) × Unit) (_g : Unit) : Soctet_Get_0 := Soctet_Get_0.mk x.1.1 x.2.1.1 x.2.2.1.1 x.2.2.2.1.1 x.2.2.2.2.1.1
noncomputable def tAoctet_Get_0 : Tms U (((List UInt8) × Unit) × (Int × Unit) × (Int × Unit) × (Int × Unit) × (Int × Unit) × Unit) := tO 0 (cPair cStr (cUnit)) (tO 1 (cPair (cInt .i64) (cUnit)) (tO 2 (cPair (cInt .i64) (cUnit)) (tO 9 (cPair (cInt .i64) (cUnit)) (tO 10 (cPair (cInt .i64) (cUnit)) (tNil)))))
noncomputable def tBoctet_Get_0 : Bls U (Unit) := bNil
noncomputable def eSoctet_Get_0 (s : Soctet_Get_0) : St U := { tm := [(0, .v (vO (cPair cStr (cUnit)) (s.t0, ()))), (1, .v (vO (cPair (cInt .i64) (cUnit)) (s.t1, ()))), (2, .v (vO (cPair (cInt .i64) (cUnit)) (s.t2, ()))), (9, .v (vO (cPair (cInt .i64) (cUnit)) (s.t9, ()))), (10, .v (vO (cPair (cInt .i64) (cUnit)) (s.t10, ())))], hp := [] }
noncomputable def xSoctet_Get_0 (r : (Int × Int × Int)) : Ex × St U := (.exit 0, { tm := [(1, .v (vO (cPair (cInt .i64) (cUnit)) (r.1, ()))), (2, .v (vO (cPair (cInt .i64) (cUnit)) (r.2.1, ()))), (9, .v (vO (cPair (cInt .i64) (cUnit)) (r.2.2, ())))], hp := [] })
noncomputable def xToctet_Get_0 (r : (Int × Int × Int)) : Tree (Ex × St U) := .leaf (xSoctet_Get_0 r)
noncomputable def hoctet_Get_0 : Hd := { keep := [0, 1, 2, 9, 10], xkeep := [1, 2, 6, 7, 8, 9], own := false }
noncomputable def Eoctet_Get : Env U := { P := Try.prog, cd := cd, fns := fns43, lps := (addL 0 hoctet_Get_0 (mkLoop tAoctet_Get_0 tBoctet_Get_0 Poctet_Get_0 (Loctet_Get_0 none) xToctet_Get_0) noL), frz := fun _r => false, nt := 52, n0 := 0 }
noncomputable def Boctet_Get_0 : Code := (loopAt (Try.f68.body.getD .skip) 0 0).getD .skip
theorem roundoctet_Get_0 (s : Soctet_Get_0) : round Eoctet_Get hoctet_Get_0 Boctet_Get_0 0 (eSoctet_Get_0 s) = (Woctet_Get_0 s).map (sumE eSoctet_Get_0 xSoctet_Get_0) := by kernel_rfl
theorem lpoctet_Get_0 : LpOk Eoctet_Get Boctet_Get_0 0 := mkLoop_ok (A := tAoctet_Get_0) (B := tBoctet_Get_0) (f := Poctet_Get_0) (L := Loctet_Get_0 none) (tO_ok (cPair_ok cStr_ok cUnit_ok) (tO_ok (cPair_ok (cInt_ok .i64) cUnit_ok) (tO_ok (cPair_ok (cInt_ok .i64) cUnit_ok) (tO_ok (cPair_ok (cInt_ok .i64) cUnit_ok) (tO_ok (cPair_ok (cInt_ok .i64) cUnit_ok) tNil_ok))))) bNil_ok (enc := eSoctet_Get_0) (out := xToctet_Get_0) (outS := xSoctet_Get_0) (step := Woctet_Get_0) (fun _ => rfl) (fun _ _ => by kernel_rfl) (by kernel_rfl) (fun _ => rfl) roundoctet_Get_0
theorem runoctet_Get (x : (List UInt8) × Int × Int × Unit) (g : Unit) : execF Eoctet_Get Try.f68 (Aoctet_Get.enc x) (bNil.enc g) = (Toctet_Get none x.1 x.2.1 x.2.2.1).map Roctet_Get := by kernel_rfl
theorem okoctet_Get : FnOk Try.prog cd 68 Soctet_Get := mk_ok (E := Eoctet_Get) cd_ok fns43_ok Try.func68 (by kernel_rfl) (loops_of (addL_ok lpoctet_Get_0 noL_ok)) (aO_ok cStr_ok (aO_ok (cInt_ok .i64) (aO_ok (cInt_ok .i64) (aNil_ok)))) bNil_ok (T := fun x _ => Toctet_Get none x.1 x.2.1 x.2.2.1) (fun _ _ => rfl) runoctet_Get
noncomputable def fns68 := addF 68 true Soctet_Get fns43
theorem fns68_ok : ∀ f q t, fns68 f = some (q, t) → FnOk Try.prog cd f t := addF_ok okoctet_Get fns43_ok
/-- emulator/octet.GetText -/
noncomputable def Toctet_GetText (q : Option Nat) (x0 : (List UInt8)) (x1 : Int) : Tree ((List UInt8) × Int × Int) :=
  .opt (Int × Int × Int) (octet_Get q x0 x1 (2 : Int)) fun r136 =>
    .ite (!decide (r136.2.2 = (0 : Int)))
      (.leaf ((([] : List UInt8), (0 : Int), r136.2.2)))
      (.ite (decide ((IntKind.wrap .i64 ((x0.length : Int) - r136.2.1)) < r136.1))
        (.leaf ((([] : List UInt8), (0 : Int), (8 : Int))))
        (.ite (decide (0 ≤ r136.2.1))
          (.ite (decide (r136.2.1 ≤ ((x0.length : Nat) : Int)))
            (.ite (decide (0 ≤ r136.1))
              (.ite (decide (r136.1 ≤ ((((x0.drop ((r136.2.1).toNat)).take (x0.length - (r136.2.1).toNat)).length : Nat) : Int)))
                (.leaf (((((x0.drop ((r136.2.1).toNat)).take (x0.length - (r136.2.1).toNat)).drop (0)).take ((r136.1).toNat - 0), IntKind.wrap .i64 (r136.2.1 + r136.1), (0 : Int))))
                .fail)
              .fail)
            .fail)
          .fail))
noncomputable def octet_GetText (q : Option Nat) (x0 : (List UInt8)) (x1 : Int) : Option ((List UInt8) × Int × Int) := (Toctet_GetText q x0 x1).run
theorem leoctet_GetText (k : Nat) (x0 : (List UInt8)) (x1 : Int) : Le (octet_GetText (some k) x0 x1) (octet_GetText none x0 x1) := (TLe.opt (leoctet_Get k _ _ _) fun _ => TLe.rfl)
noncomputable def Aoctet_GetText : Arg U ((List UInt8) × Int × Unit) := aO cStr (aO (cInt .i64) (aNil))
noncomputable def Roctet_GetText (r : ((List UInt8) × Int × Int)) : List (V U) × List (Blk U) := ([vO cStr r.1, vO (cInt .i64) r.2.1, vO (cInt .i64) r.2.2], [])
noncomputable def Soctet_GetText : List (V U) → List (Blk U) → Option (FnOut U) := mkSpec Aoctet_GetText bNil (fun x _ => octet_GetText none x.1 x.2.1) Roctet_GetText
noncomputable def Eoctet_GetText : Env U := { P := Try.prog, cd := cd, fns := fns68, lps := noL, frz := fun _r => false, nt := 34, n0 := 0 }
theorem runoctet_GetText (x : (List UInt8) × Int × Unit) (g : Unit) : execF Eoctet_GetText Try.f67 (Aoctet_GetText.enc x) (bNil.enc g) = (Toctet_GetText none x.1 x.2.1).map Roctet_GetText := by kernel_rfl
theorem okoctet_GetText : FnOk Try.prog cd 67 Soctet_GetText := mk_ok (E := Eoctet_GetText) cd_ok fns68_ok Try.func67 (by kernel_rfl) (noLoops_body (by kernel_rfl)) (aO_ok cStr_ok (aO_ok (cInt_ok .i64) (aNil_ok))) bNil_ok (T := fun x _ => Toctet_GetText none x.1 x.2.1) (fun _ _ => rfl) runoctet_GetText
noncomputable def fns67 := addF 67 true Soctet_GetText fns68
theorem fns67_ok : ∀ f q t, fns67 f = some (q, t) → FnOk Try.prog cd f t := addF_ok okoctet_GetText fns68_ok
/-- (*emulator/image.reader).text -/
noncomputable def Timage_reader_text (q : Option Nat) (g0 : Reader) : Tree ((List UInt8) × Reader) :=
  .opt ((List UInt8) × Int × Int) (octet_GetText q g0.s g0.at_) fun r139 =>
    .ite (!decide (r139.2.2 = (0 : Int)))
      (.leaf ((([] : List UInt8), Reader.mk g0.s g0.at_ true)))
      (.leaf ((r139.1, Reader.mk g0.s r139.2.1 g0.bad)))
noncomputable def image_reader_text (q : Option Nat) (g0 : Reader) : Option ((List UInt8) × Reader) := (Timage_reader_text q g0).run
theorem leimage_reader_text (k : Nat) (g0 : Reader) : Le (image_reader_text (some k) g0) (image_reader_text none g0) := (TLe.opt (leoctet_GetText k _ _) fun _ => TLe.rfl)
noncomputable def Aimage_reader_text : Arg U (Unit) := aP 0 0 (aNil)
noncomputable def Gimage_reader_text : Bls U (Reader × Unit) := bC cReader (bNil)
noncomputable def Rimage_reader_text (_x : Unit) (_g : Reader × Unit) (r : ((List UInt8) × Reader)) : List (V U) × List (Blk U) := ([vO (cPair cStr (cUnit)) (r.1, ())], [.cells ((cPair cReader (cUnit) : Cdc U (Reader × Unit)).enc (r.2, ())) none])
noncomputable def Simage_reader_text : List (V U) → List (Blk U) → Option (FnOut U) := mkSpecG Aimage_reader_text Gimage_reader_text (fun x g => image_reader_text none g.1) Rimage_reader_text
noncomputable def Eimage_reader_text : Env U := { P := Try.prog, cd := cd, fns := fns67, lps := noL, frz := fun _r => false, nt := 29, n0 := 1 }
theorem rnimage_reader_text (g0 : Reader) : execX false Eimage_reader_text Try.f44 (Aimage_reader_text.enc ()) (Gimage_reader_text.enc (g0, ())) = (Timage_reader_text none g0).map (Rimage_reader_text () (g0, ())) := by kernel_rfl
theorem runimage_reader_text : ∀ (x : Unit) (g : Reader × Unit), execX false Eimage_reader_text Try.f44 (Aimage_reader_text.enc x) (Gimage_reader_text.enc g) = (Timage_reader_text none g.1).map (Rimage_reader_text x g)
  | (), (g0, ()) => rnimage_reader_text g0
theorem okimage_reader_text : FnOk Try.prog cd 44 Simage_reader_text := mk_okG (E := Eimage_reader_text) (A := Aimage_reader_text) (B := Gimage_reader_text) false cd_ok fns67_ok Try.func44 (by kernel_rfl) (noLoops_body (by kernel_rfl)) (aP_ok (aNil_ok)) (bC_ok cReader_ok bNil_ok) (T := fun (x : Unit) (g : Reader × Unit) => Timage_reader_text none g.1) (fun _ _ => rfl) runimage_reader_text
/-- (*emulator/image.reader).num -/
noncomputable def Timage_reader_num (q : Option Nat) (x1 : Int) (g0 : Reader) : Tree (Int × Reader) :=
  .opt (Int × Int × Int) (octet_Get q g0.s g0.at_ x1) fun r144 =>
    .ite (!decide (r144.2.2 = (0 : Int)))
      (.leaf (((0 : Int), Reader.mk g0.s g0.at_ true)))
      (.leaf ((r144.1, Reader.mk g0.s r144.2.1 g0.bad)))
noncomputable def image_reader_num (q : Option Nat) (x1 : Int) (g0 : Reader) : Option (Int × Reader) := (Timage_reader_num q x1 g0).run
theorem leimage_reader_num (k : Nat) (x1 : Int) (g0 : Reader) : Le (image_reader_num (some k) x1 g0) (image_reader_num none x1 g0) := (TLe.opt (leoctet_Get k _ _ _) fun _ => TLe.rfl)
noncomputable def Aimage_reader_num : Arg U (Int × Unit) := aP 0 0 (aO (cInt .i64) (aNil))
noncomputable def Gimage_reader_num : Bls U (Reader × Unit) := bC cReader (bNil)
noncomputable def Rimage_reader_num (_x : Int × Unit) (_g : Reader × Unit) (r : (Int × Reader)) : List (V U) × List (Blk U) := ([vO (cPair (cInt .i64) (cUnit)) (r.1, ())], [.cells ((cPair cReader (cUnit) : Cdc U (Reader × Unit)).enc (r.2, ())) none])
noncomputable def Simage_reader_num : List (V U) → List (Blk U) → Option (FnOut U) := mkSpecG Aimage_reader_num Gimage_reader_num (fun x g => image_reader_num none x.1 g.1) Rimage_reader_num
noncomputable def Eimage_reader_num : Env U := { P := Try.prog, cd := cd, fns := fns67, lps := noL, frz := fun _r => false, nt := 32, n0 := 1 }
theorem rnimage_reader_num (x1 : Int) (g0 : Reader) : execX false Eimage_reader_num Try.f45 (Aimage_reader_num.enc (x1, ())) (Gimage_reader_num.enc (g0, ())) = (Timage_reader_num none x1 g0).map (Rimage_reader_num (x1, ()) (g0, ())) := by kernel_rfl
theorem runimage_reader_num : ∀ (x : Int × Unit) (g : Reader × Unit), execX false Eimage_reader_num Try.f45 (Aimage_reader_num.enc x) (Gimage_reader_num.enc g) = (Timage_reader_num none x.1 g.1).map (Rimage_reader_num x g)
  | (x1, ()), (g0, ()) => rnimage_reader_num x1 g0
theorem okimage_reader_num : FnOk Try.prog cd 45 Simage_reader_num := mk_okG (E := Eimage_reader_num) (A := Aimage_reader_num) (B := Gimage_reader_num) false cd_ok fns67_ok Try.func45 (by kernel_rfl) (noLoops_body (by kernel_rfl)) (aP_ok (aO_ok (cInt_ok .i64) (aNil_ok))) (bC_ok cReader_ok bNil_ok) (T := fun (x : Int × Unit) (g : Reader × Unit) => Timage_reader_num none x.1 g.1) (fun _ _ => rfl) runimage_reader_num
/-- emulator/image.Decode -/
structure Simage_Decode_0 where
  t4 : (List UInt8)
  t8 : Int
  b0_0 : (List UInt8)
  b0_1 : (List UInt8)
  b0_2 : Int
  b0_3 : Int
  b1 : Reader
  b2_0 : (List UInt8)
  b2_1 : (List UInt8)
  b2_2 : Int
  b2_3 : Int
  b3 : (List Symbol)
  b4 : (List Symbol)
noncomputable def Wimage_Decode_0 (q : Option Nat) (s : Simage_Decode_0) : Tree (Simage_Decode_0 ⊕ ((List UInt8) × (List UInt8) × (List UInt8) × Int × Int × Reader × (List UInt8) × (List UInt8) × Int × Int × (List Symbol) × (List Symbol))) :=
  .ite (decide ((0 : Int) < s.t8))
    (.ite (!s.b1.bad)
      (.opt ((List UInt8) × Reader) (image_reader_text q s.b1) fun r164 =>
        .opt (Int × Reader) (image_reader_num q (1 : Int) r164.2) fun r165 =>
          .opt (Int × Reader) (image_reader_num q (2 : Int) r165.2) fun r166 =>
            .opt (Int × Reader) (image_reader_num q (1 : Int) r166.2) fun r167 =>
              .ite (decide ((s.b4.length + ([Symbol.mk r164.1 r165.1 r166.1 (decide (r167.1 = (1 : Int)))]).length) * 40 ≤ 140737488355328))
                (.leaf (.inl (Simage_Decode_0.mk s.t4 (IntKind.wrap .i64 (s.t8 - (1 : Int))) s.b0_0 s.b0_1 s.b0_2 s.b0_3 r167.2 s.b2_0 s.b2_1 s.b2_2 s.b2_3 s.b3 (s.b4 ++ ([Symbol.mk r164.1 r165.1 r166.1 (decide (r167.1 = (1 : Int)))])))))
                .fail)
      (.leaf (.inr (s.t4, s.b0_0, s.b0_1, s.b0_2, s.b0_3, s.b1, s.b2_0, s.b2_1, s.b2_2, s.b2_3, s.b3, s.b4))))
    (.leaf (.inr (s.t4, s.b0_0, s.b0_1, s.b0_2, s.b0_3, s.b1, s.b2_0, s.b2_1, s.b2_2, s.b2_3, s.b3, s.b4)))
noncomputable def Limage_Decode_0 (q : Option Nat) (s : Simage_Decode_0) : Option ((List UInt8) × (List UInt8) × (List UInt8) × Int × Int × Reader × (List UInt8) × (List UInt8) × Int × Int × (List Symbol) × (List Symbol)) := limQ q (fun s => (Wimage_Decode_0 q s).run) s
theorem leLimage_Decode_0 (k : Nat) (s : Simage_Decode_0) : Le (Limage_Decode_0 (some k) s) (Limage_Decode_0 none s) := limQ_le (fun s => (TLe.ite (TLe.ite (TLe.opt (leimage_reader_text k _) fun _ => (TLe.opt (leimage_reader_num k _ _) fun _ => (TLe.opt (leimage_reader_num k _ _) fun _ => (TLe.opt (leimage_reader_num k _ _) fun _ => TLe.rfl)))) TLe.rfl) TLe.rfl)) s
noncomputable def Timage_Decode (q : Option Nat) (x0 : (List UInt8)) : Tree (Image × Int) :=
  .opt ((List UInt8) × Int) (octet_Open q x0) fun r157 =>
    .ite (!decide (r157.2 = (0 : Int)))
      (.leaf ((Image.mk ([]) ([]) 0 0 ([]), r157.2)))
      (.opt Bool (strings_HasPrefix r157.1 ([73, 77, 71, 49] : List UInt8)) fun r158 =>
        .ite (!r158)
          (.leaf ((Image.mk ([]) ([]) 0 0 ([]), (9 : Int))))
          (.opt ((List UInt8) × Reader) (image_reader_text q (Reader.mk r157.1 (4 : Int) false)) fun r159 =>
            .opt ((List UInt8) × Reader) (image_reader_text q r159.2) fun r160 =>
              .opt (Int × Reader) (image_reader_num q (2 : Int) r160.2) fun r161 =>
                .opt (Int × Reader) (image_reader_num q (2 : Int) r161.2) fun r162 =>
                  .opt (Int × Reader) (image_reader_num q (2 : Int) r162.2) fun r163 =>
                    .opt ((List UInt8) × (List UInt8) × (List UInt8) × Int × Int × Reader × (List UInt8) × (List UInt8) × Int × Int × (List Symbol) × (List Symbol)) (Limage_Decode_0 q (Simage_Decode_0.mk r157.1 r163.1 ([]) ([]) 0 0 r163.2 r159.1 r160.1 r161.1 r162.1 ([]) ([]))) fun l168 =>
                      .ite (l168.2.2.2.2.2.1.bad)
                        (.leaf ((Image.mk ([]) ([]) 0 0 ([]), (9 : Int))))
                        (.opt Int (image_Check q (Image.mk l168.2.2.2.2.2.2.1 l168.2.2.2.2.2.2.2.1 l168.2.2.2.2.2.2.2.2.1 l168.2.2.2.2.2.2.2.2.2.1 l168.2.2.2.2.2.2.2.2.2.2.2)) fun r169 =>
                          .ite (!decide (r169 = (0 : Int)))
                            (.leaf ((Image.mk ([]) ([]) 0 0 ([]), (9 : Int))))
                            (.opt (List UInt8) (image_body q (Image.mk l168.2.2.2.2.2.2.1 l168.2.2.2.2.2.2.2.1 l168.2.2.2.2.2.2.2.2.1 l168.2.2.2.2.2.2.2.2.2.1 l168.2.2.2.2.2.2.2.2.2.2.2)) fun r170 =>
                              .ite (!decide (r170 = l168.1))
                                (.leaf ((Image.mk ([]) ([]) 0 0 ([]), (9 : Int))))
                                (.leaf ((Image.mk l168.2.2.2.2.2.2.1 l168.2.2.2.2.2.2.2.1 l168.2.2.2.2.2.2.2.2.1 l168.2.2.2.2.2.2.2.2.2.1 l168.2.2.2.2.2.2.2.2.2.2.2, (0 : Int))))))))
noncomputable def image_Decode (q : Option Nat) (x0 : (List UInt8)) : Option (Image × Int) := (Timage_Decode q x0).run
theorem leimage_Decode (k : Nat) (x0 : (List UInt8)) : Le (image_Decode (some k) x0) (image_Decode none x0) := (TLe.opt (leoctet_Open k _) fun _ => (TLe.ite TLe.rfl (TLe.opt Le.rfl fun _ => (TLe.ite TLe.rfl (TLe.opt (leimage_reader_text k _) fun _ => (TLe.opt (leimage_reader_text k _) fun _ => (TLe.opt (leimage_reader_num k _ _) fun _ => (TLe.opt (leimage_reader_num k _ _) fun _ => (TLe.opt (leimage_reader_num k _ _) fun _ => (TLe.opt (leLimage_Decode_0 k _) fun _ => (TLe.ite TLe.rfl (TLe.opt (leimage_Check k _) fun _ => (TLe.ite TLe.rfl (TLe.opt (leimage_body k _) fun _ => TLe.rfl))))))))))))))
noncomputable def Aimage_Decode : Arg U ((List UInt8) × Unit) := aO cStr (aNil)
noncomputable def Rimage_Decode (r : (Image × Int)) : List (V U) × List (Blk U) := ([vA cImage r.1, vO (cInt .i64) r.2], [])
noncomputable def Simage_Decode : List (V U) → List (Blk U) → Option (FnOut U) := mkSpec Aimage_Decode bNil (fun x _ => image_Decode none x.1) Rimage_Decode
noncomputable def Pimage_Decode_0 (x : (Unit) × ((List UInt8) × Unit) × (Unit) × (Unit) × (Int × Unit) × Unit) (g : ((List UInt8) × (List UInt8) × Int × Int × Unit) × (Reader × Unit) × ((List UInt8) × (List UInt8) × Int × Int × Unit) × (List Symbol) × (List Symbol) × Unit) : Simage_Decode_0 := Simage_Decode_0.mk x.2.1.1 x.2.2.2.2.1.1 g.1.1 g.1.2.1 g.1.2.2.1 g.1.2.2.2.1 g.2.1.1 g.2.2.1.1 g.2.2.1.2.1 g.2.2.1.2.2.1 g.2.2.1.2.2.2.1 g.2.2.2.1 g.2.2.2.2.1
noncomputable def tAimage_Decode_0 : Tms U ((Unit) × ((List UInt8) × Unit) × (Unit) × (Unit) × (Int × Unit) × Unit) := tO 2 (cK (.ptr 0 0) (cUnit)) (tO 4 (cPair cStr (cUnit)) (tO 6 (cK (.ptr 1 0) (cUnit)) (tO 7 (cK (.ptr 2 0) (cUnit)) (tO 8 (cPair (cInt .i64) (cUnit)) (tNil)))))
noncomputable def tBimage_Decode_0 : Bls U (((List UInt8) × (List UInt8) × Int × Int × Unit) × (Reader × Unit) × ((List UInt8) × (List UInt8) × Int × Int × Unit) × (List Symbol) × (List Symbol) × Unit) := bC (cPair cStr (cPair cStr (cPair (cInt .i64) (cPair (cInt .i64) (cK (.row 3 0) (cUnit)))))) (bC (cPair cReader (cUnit)) (bC (cPair cStr (cPair cStr (cPair (cInt .i64) (cPair (cInt .i64) (cK (.row 4 0) (cUnit)))))) (bRv 75 0 (bRv 75 0 (bNil)))))
noncomputable def eSimage_Decode_0 (s : Simage_Decode_0) : St U := { tm := [(2, .v (vO (cK (.ptr 0 0) (cUnit)) (()))), (4, .v (vO (cPair cStr (cUnit)) (s.t4, ()))), (6, .v (vO (cK (.ptr 1 0) (cUnit)) (()))), (7, .v (vO (cK (.ptr 2 0) (cUnit)) (()))), (8, .v (vO (cPair (cInt .i64) (cUnit)) (s.t8, ())))], hp := [.cells ((cPair cStr (cPair cStr (cPair (cInt .i64) (cPair (cInt .i64) (cK (.row 3 0) (cUnit))))) : Cdc U ((List UInt8) × (List UInt8) × Int × Int × Unit)).enc (s.b0_0, s.b0_1, s.b0_2, s.b0_3, ())) none, .cells ((cPair cReader (cUnit) : Cdc U (Reader × Unit)).enc (s.b1, ())) none, .cells ((cPair cStr (cPair cStr (cPair (cInt .i64) (cPair (cInt .i64) (cK (.row 4 0) (cUnit))))) : Cdc U ((List UInt8) × (List UInt8) × Int × Int × Unit)).enc (s.b2_0, s.b2_1, s.b2_2, s.b2_3, ())) none, .row 75 0 s.b3, .row 75 0 s.b4] }
noncomputable def xSimage_Decode_0 (r : ((List UInt8) × (List UInt8) × (List UInt8) × Int × Int × Reader × (List UInt8) × (List UInt8) × Int × Int × (List Symbol) × (List Symbol))) : Ex × St U := (.exit 0, { tm := [(2, .v (vO (cK (.ptr 0 0) (cUnit)) (()))), (4, .v (vO (cPair cStr (cUnit)) (r.1, ()))), (6, .v (vO (cK (.ptr 1 0) (cUnit)) (()))), (7, .v (vO (cK (.ptr 2 0) (cUnit)) (())))], hp := [.cells ((cPair cStr (cPair cStr (cPair (cInt .i64) (cPair (cInt .i64) (cK (.row 3 0) (cUnit))))) : Cdc U ((List UInt8) × (List UInt8) × Int × Int × Unit)).enc (r.2.1, r.2.2.1, r.2.2.2.1, r.2.2.2.2.1, ())) none, .cells ((cPair cReader (cUnit) : Cdc U (Reader × Unit)).enc (r.2.2.2.2.2.1, ())) none, .cells ((cPair cStr (cPair cStr (cPair (cInt .i64) (cPair (cInt .i64) (cK (.row 4 0) (cUnit))))) : Cdc U ((List UInt8) × (List UInt8) × Int × Int × Unit)).enc (r.2.2.2.2.2.2.1, r.2.2.2.2.2.2.2.1, r.2.2.2.2.2.2.2.2.1, r.2.2.2.2.2.2.2.2.2.1, ())) none, .row 75 0 r.2.2.2.2.2.2.2.2.2.2.1, .row 75 0 r.2.2.2.2.2.2.2.2.2.2.2] })
noncomputable def xTimage_Decode_0 (r : ((List UInt8) × (List UInt8) × (List UInt8) × Int × Int × Reader × (List UInt8) × (List UInt8) × Int × Int × (List Symbol) × (List Symbol))) : Tree (Ex × St U) := .leaf (xSimage_Decode_0 r)
noncomputable def himage_Decode_0 : Hd := { keep := [2, 4, 6, 7, 8], xkeep := [2, 3, 4, 6, 7], own := true }
noncomputable def Eimage_Decode : Env U := { P := Try.prog, cd := cd, fns := (addF 45 false (Simage_reader_num) (addF 44 false (Simage_reader_text) fns67)), lps := (addL 0 himage_Decode_0 (mkLoop tAimage_Decode_0 tBimage_Decode_0 Pimage_Decode_0 (Limage_Decode_0 none) xTimage_Decode_0) noL), frz := fun _r => bif Nat.beq _r 12 then true else false, nt := 79, n0 := 0, fps := fun _r _i => bif Nat.beq _r 11 && Nat.beq _i 0 then .rd [] else bif Nat.beq _r 11 && Nat.beq _i 1 then .rd [2] else bif Nat.beq _r 11 && Nat.beq _i 3 then .wr [1] 7 else bif Nat.beq _r 11 && Nat.beq _i 5 then .wr [1] 7 else bif Nat.beq _r 11 && Nat.beq _i 7 then .wr [1] 7 else bif Nat.beq _r 11 && Nat.beq _i 9 then .wr [1] 7 else .none }
noncomputable def Bimage_Decode_0 : Code := (loopAt (Try.f19.body.getD .skip) 0 0).getD .skip
theorem roundimage_Decode_0 (s : Simage_Decode_0) : round Eimage_Decode himage_Decode_0 Bimage_Decode_0 0 (eSimage_Decode_0 s) = (Wimage_Decode_0 none s).map (sumE eSimage_Decode_0 xSimage_Decode_0) := by kernel_rfl
theorem lpimage_Decode_0 : LpOk Eimage_Decode Bimage_Decode_0 0 := mkLoop_ok (A := tAimage_Decode_0) (B := tBimage_Decode_0) (f := Pimage_Decode_0) (L := Limage_Decode_0 none) (tO_ok (cK_ok cUnit_ok) (tO_ok (cPair_ok cStr_ok cUnit_ok) (tO_ok (cK_ok cUnit_ok) (tO_ok (cK_ok cUnit_ok) (tO_ok (cPair_ok (cInt_ok .i64) cUnit_ok) tNil_ok))))) (bC_ok (cPair_ok cStr_ok (cPair_ok cStr_ok (cPair_ok (cInt_ok .i64) (cPair_ok (cInt_ok .i64) (cK_ok cUnit_ok))))) (bC_ok (cPair_ok cReader_ok cUnit_ok) (bC_ok (cPair_ok cStr_ok (cPair_ok cStr_ok (cPair_ok (cInt_ok .i64) (cPair_ok (cInt_ok .i64) (cK_ok cUnit_ok))))) (bRv_ok (bRv_ok bNil_ok))))) (enc := eSimage_Decode_0) (out := xTimage_Decode_0) (outS := xSimage_Decode_0) (step := Wimage_Decode_0 none) (fun _ => rfl) (fun _ _ => by kernel_rfl) (by kernel_rfl) (fun _ => rfl) roundimage_Decode_0
theorem runimage_Decode (x : (List UInt8) × Unit) (g : Unit) : execF Eimage_Decode Try.f19 (Aimage_Decode.enc x) (bNil.enc g) = (Timage_Decode none x.1).map Rimage_Decode := by kernel_rfl
theorem okimage_Decode : FnOk Try.prog cd 19 Simage_Decode := mk_ok (E := Eimage_Decode) cd_ok (addF_ok okimage_reader_num (addF_ok okimage_reader_text fns67_ok)) Try.func19 (by kernel_rfl) (loops_of (addL_ok lpimage_Decode_0 noL_ok)) (aO_ok cStr_ok (aNil_ok)) bNil_ok (T := fun x _ => Timage_Decode none x.1) (fun _ _ => rfl) runimage_Decode
noncomputable def fns19 := addF 19 true Simage_Decode fns67
theorem fns19_ok : ∀ f q t, fns19 f = some (q, t) → FnOk Try.prog cd f t := addF_ok okimage_Decode fns67_ok
/-- emulator/emulatorref28.SameSymbols -/
structure Sref28_SameSymbols_0 where
  t0 : (List Symbol)
  t1 : (List Symbol)
  t5 : Int
noncomputable def Wref28_SameSymbols_0 (s : Sref28_SameSymbols_0) : Tree (Sref28_SameSymbols_0 ⊕ (Bool ⊕ Unit)) :=
  .ite (decide (s.t5 < (s.t0.length : Int)))
    (.ite (decide (0 ≤ s.t5))
      (.opt Symbol (s.t0[(s.t5).toNat]?) fun y171 =>
        .ite (decide (0 ≤ s.t5))
          (.opt Symbol (s.t1[(s.t5).toNat]?) fun y172 =>
            .ite (!((decide (y171.name = y172.name)) && ((decide (y171.section_ = y172.section_)) && ((decide (y171.value = y172.value)) && (y171.global == y172.global)))))
              (.leaf (.inr (.inl false)))
              (.leaf (.inl (Sref28_SameSymbols_0.mk s.t0 s.t1 (IntKind.wrap .i64 (s.t5 + (1 : Int)))))))
          .fail)
      .fail)
    (.leaf (.inr (.inr ())))
noncomputable def Lref28_SameSymbols_0 (q : Option Nat) (s : Sref28_SameSymbols_0) : Option (Bool ⊕ Unit) := limQ q (fun s => (Wref28_SameSymbols_0 s).run) s
theorem leLref28_SameSymbols_0 (k : Nat) (s : Sref28_SameSymbols_0) : Le (Lref28_SameSymbols_0 (some k) s) (Lref28_SameSymbols_0 none s) := limQ_le (fun _ => Le.rfl) s
noncomputable def Tref28_SameSymbols (q : Option Nat) (x0 : (List Symbol)) (x1 : (List Symbol)) : Tree Bool :=
  .ite (!decide ((x0.length : Int) = (x1.length : Int)))
    (.leaf (false))
    (.opt (Bool ⊕ Unit) (Lref28_SameSymbols_0 q (Sref28_SameSymbols_0.mk x0 x1 (0 : Int))) fun l173 =>
      .ite (l173.isLeft)
        (.opt Bool (l173.getLeft?) fun a174 =>
          .leaf (a174))
        (.opt Unit (l173.getRight?) fun b175 =>
          .leaf (true)))
noncomputable def ref28_SameSymbols (q : Option Nat) (x0 : (List Symbol)) (x1 : (List Symbol)) : Option Bool := (Tref28_SameSymbols q x0 x1).run
theorem leref28_SameSymbols (k : Nat) (x0 : (List Symbol)) (x1 : (List Symbol)) : Le (ref28_SameSymbols (some k) x0 x1) (ref28_SameSymbols none x0 x1) := (TLe.ite TLe.rfl (TLe.opt (leLref28_SameSymbols_0 k _) fun _ => TLe.rfl))
noncomputable def Aref28_SameSymbols : Arg U ((List Symbol) × (List Symbol) × Unit) := aO (cSl 75) (aO (cSl 75) (aNil))
noncomputable def Rref28_SameSymbols (r : Bool) : List (V U) × List (Blk U) := ([vO cBool r], [])
noncomputable def Sref28_SameSymbols : List (V U) → List (Blk U) → Option (FnOut U) := mkSpec Aref28_SameSymbols bNil (fun x _ => ref28_SameSymbols none x.1 x.2.1) Rref28_SameSymbols
noncomputable def Pref28_SameSymbols_0 (x : ((List Symbol) × Unit) × ((List Symbol) × Unit) × (Int × Unit) × Unit) (_g : Unit) : Sref28_SameSymbols_0 := Sref28_SameSymbols_0.mk x.1.1 x.2.1.1 x.2.2.1.1
noncomputable def tAref28_SameSymbols_0 : Tms U (((List Symbol) × Unit) × ((List Symbol) × Unit) × (Int × Unit) × Unit) := tO 0 (cPair (cSl 75) (cUnit)) (tO 1 (cPair (cSl 75) (cUnit)) (tO 5 (cPair (cInt .i64) (cUnit)) (tNil)))
noncomputable def tBref28_SameSymbols_0 : Bls U (Unit) := bNil
noncomputable def eSref28_SameSymbols_0 (s : Sref28_SameSymbols_0) : St U := { tm := [(0, .v (vO (cPair (cSl 75) (cUnit)) (s.t0, ()))), (1, .v (vO (cPair (cSl 75) (cUnit)) (s.t1, ()))), (5, .v (vO (cPair (cInt .i64) (cUnit)) (s.t5, ())))], hp := [] }
noncomputable def xSref28_SameSymbols_0 : (Bool ⊕ Unit) → Ex × St U
  | .inl r => (.ret, { tm := [(4, .v (vO (cPair cBool (cUnit)) (r, ())))], hp := [] })
  | .inr r => (.exit 0, { tm := [], hp := [] })
noncomputable def xTref28_SameSymbols_0 (y : (Bool ⊕ Unit)) : Tree (Ex × St U) := .ite y.isLeft (.opt Bool y.getLeft? fun r => .leaf (.ret, { tm := [(4, .v (vO (cPair cBool (cUnit)) (r, ())))], hp := [] })) (.opt Unit y.getRight? fun r => .leaf (.exit 0, { tm := [], hp := [] }))
noncomputable def href28_SameSymbols_0 : Hd := { keep := [0, 1, 5], xkeep := [4], own := false }
noncomputable def Eref28_SameSymbols : Env U := { P := Try.prog, cd := cd, fns := fns19, lps := (addL 0 href28_SameSymbols_0 (mkLoop tAref28_SameSymbols_0 tBref28_SameSymbols_0 Pref28_SameSymbols_0 (Lref28_SameSymbols_0 none) xTref28_SameSymbols_0) noL), frz := fun _r => false, nt := 26, n0 := 0 }
noncomputable def Bref28_SameSymbols_0 : Code := (loopAt (Try.f50.body.getD .skip) 0 0).getD .skip
theorem roundref28_SameSymbols_0 (s : Sref28_SameSymbols_0) : round Eref28_SameSymbols href28_SameSymbols_0 Bref28_SameSymbols_0 0 (eSref28_SameSymbols_0 s) = (Wref28_SameSymbols_0 s).map (sumE eSref28_SameSymbols_0 xSref28_SameSymbols_0) := by kernel_rfl
theorem lpref28_SameSymbols_0 : LpOk Eref28_SameSymbols Bref28_SameSymbols_0 0 := mkLoop_ok (A := tAref28_SameSymbols_0) (B := tBref28_SameSymbols_0) (f := Pref28_SameSymbols_0) (L := Lref28_SameSymbols_0 none) (tO_ok (cPair_ok (cSl_ok 75) cUnit_ok) (tO_ok (cPair_ok (cSl_ok 75) cUnit_ok) (tO_ok (cPair_ok (cInt_ok .i64) cUnit_ok) tNil_ok))) bNil_ok (enc := eSref28_SameSymbols_0) (out := xTref28_SameSymbols_0) (outS := xSref28_SameSymbols_0) (step := Wref28_SameSymbols_0) (fun _ => rfl) (fun _ _ => by kernel_rfl) (by kernel_rfl) (fun b => by cases b <;> rfl) roundref28_SameSymbols_0
theorem runref28_SameSymbols (x : (List Symbol) × (List Symbol) × Unit) (g : Unit) : execF Eref28_SameSymbols Try.f50 (Aref28_SameSymbols.enc x) (bNil.enc g) = (Tref28_SameSymbols none x.1 x.2.1).map Rref28_SameSymbols := by kernel_rfl
theorem okref28_SameSymbols : FnOk Try.prog cd 50 Sref28_SameSymbols := mk_ok (E := Eref28_SameSymbols) cd_ok fns19_ok Try.func50 (by kernel_rfl) (loops_of (addL_ok lpref28_SameSymbols_0 noL_ok)) (aO_ok (cSl_ok 75) (aO_ok (cSl_ok 75) (aNil_ok))) bNil_ok (T := fun x _ => Tref28_SameSymbols none x.1 x.2.1) (fun _ _ => rfl) runref28_SameSymbols
noncomputable def fns50 := addF 50 true Sref28_SameSymbols fns19
theorem fns50_ok : ∀ f q t, fns50 f = some (q, t) → FnOk Try.prog cd f t := addF_ok okref28_SameSymbols fns19_ok
/-- emulator/emulatorref31.SameImage -/
noncomputable def Tref31_SameImage (q : Option Nat) (x0 : Image) (x1 : Image) : Tree Bool :=
  .ite (decide (x0.text = x1.text))
    (.ite (decide (x0.data = x1.data))
      (.ite (decide (x0.bss = x1.bss))
        (.ite (decide (x0.entry = x1.entry))
          (.opt Bool (ref28_SameSymbols q x0.symbols x1.symbols) fun r176 =>
            .leaf (r176))
          (.leaf (false)))
        (.leaf (false)))
      (.leaf (false)))
    (.leaf (false))
noncomputable def ref31_SameImage (q : Option Nat) (x0 : Image) (x1 : Image) : Option Bool := (Tref31_SameImage q x0 x1).run
theorem leref31_SameImage (k : Nat) (x0 : Image) (x1 : Image) : Le (ref31_SameImage (some k) x0 x1) (ref31_SameImage none x0 x1) := (TLe.ite (TLe.ite (TLe.ite (TLe.ite (TLe.opt (leref28_SameSymbols k _ _) fun _ => TLe.rfl) TLe.rfl) TLe.rfl) TLe.rfl) TLe.rfl)
noncomputable def Aref31_SameImage : Arg U (Image × Image × Unit) := aA cImage (aA cImage (aNil))
noncomputable def Rref31_SameImage (r : Bool) : List (V U) × List (Blk U) := ([vO cBool r], [])
noncomputable def Sref31_SameImage : List (V U) → List (Blk U) → Option (FnOut U) := mkSpec Aref31_SameImage bNil (fun x _ => ref31_SameImage none x.1 x.2.1) Rref31_SameImage
noncomputable def Eref31_SameImage : Env U := { P := Try.prog, cd := cd, fns := fns50, lps := noL, frz := fun _r => false, nt := 38, n0 := 0 }
theorem runref31_SameImage (x : Image × Image × Unit) (g : Unit) : execF Eref31_SameImage Try.f21 (Aref31_SameImage.enc x) (bNil.enc g) = (Tref31_SameImage none x.1 x.2.1).map Rref31_SameImage := by kernel_rfl
theorem okref31_SameImage : FnOk Try.prog cd 21 Sref31_SameImage := mk_ok (E := Eref31_SameImage) cd_ok fns50_ok Try.func21 (by kernel_rfl) (noLoops_body (by kernel_rfl)) (aA_ok cImage_ok (aA_ok cImage_ok (aNil_ok))) bNil_ok (T := fun x _ => Tref31_SameImage none x.1 x.2.1) (fun _ _ => rfl) runref31_SameImage
noncomputable def fns21 := addF 21 true Sref31_SameImage fns50
theorem fns21_ok : ∀ f q t, fns21 f = some (q, t) → FnOk Try.prog cd f t := addF_ok okref31_SameImage fns50_ok
/-- emulator/memory.within -/
noncomputable def Tmemory_within (x0 : (List Int)) (x1 : Int) (x2 : Int) : Tree Bool :=
  .ite (decide ((0 : Int) ≤ x1))
    (.ite (decide ((0 : Int) ≤ x2))
      (.ite (decide (x1 ≤ (IntKind.wrap .i64 ((2 : Int) * (x0.length : Int)))))
        (.leaf (decide (x2 ≤ (IntKind.wrap .i64 ((IntKind.wrap .i64 ((2 : Int) * (x0.length : Int))) - x1)))))
        (.leaf (false)))
      (.leaf (false)))
    (.leaf (false))
noncomputable def memory_within (x0 : (List Int)) (x1 : Int) (x2 : Int) : Option Bool := (Tmemory_within x0 x1 x2).run
noncomputable def Amemory_within : Arg U ((List Int) × Int × Int × Unit) := aO (cSl 3) (aO (cInt .i64) (aO (cInt .i64) (aNil)))
noncomputable def Rmemory_within (r : Bool) : List (V U) × List (Blk U) := ([vO cBool r], [])
noncomputable def Smemory_within : List (V U) → List (Blk U) → Option (FnOut U) := mkSpec Amemory_within bNil (fun x _ => memory_within x.1 x.2.1 x.2.2.1) Rmemory_within
noncomputable def Ememory_within : Env U := { P := Try.prog, cd := cd, fns := fns21, lps := noL, frz := fun _r => false, nt := 29, n0 := 0 }
theorem runmemory_within (x : (List Int) × Int × Int × Unit) (g : Unit) : execF Ememory_within Try.f71 (Amemory_within.enc x) (bNil.enc g) = (Tmemory_within x.1 x.2.1 x.2.2.1).map Rmemory_within := by kernel_rfl
theorem okmemory_within : FnOk Try.prog cd 71 Smemory_within := mk_ok (E := Ememory_within) cd_ok fns21_ok Try.func71 (by kernel_rfl) (noLoops_body (by kernel_rfl)) (aO_ok (cSl_ok 3) (aO_ok (cInt_ok .i64) (aO_ok (cInt_ok .i64) (aNil_ok)))) bNil_ok (T := fun x _ => Tmemory_within x.1 x.2.1 x.2.2.1) (fun _ _ => rfl) runmemory_within
noncomputable def fns71 := addF 71 true Smemory_within fns21
theorem fns71_ok : ∀ f q t, fns71 f = some (q, t) → FnOk Try.prog cd f t := addF_ok okmemory_within fns21_ok
/-- emulator/memory.copied -/
noncomputable def Tmemory_copied (x0 : (List Int)) : Tree (List Int) :=
  .ite (decide ((x0.length : Int) = (x0.length : Int)))
    (.ite (decide (0 ≤ (x0.length : Int)))
      (.ite (decide ((8 : Int) * (x0.length : Int) ≤ 281474976710656))
        (.leaf (x0.take (List.replicate ((x0.length : Int)).toNat (0 : Int)).length ++ (List.replicate ((x0.length : Int)).toNat (0 : Int)).drop x0.length))
        .fail)
      .fail)
    .fail
noncomputable def memory_copied (x0 : (List Int)) : Option (List Int) := (Tmemory_copied x0).run
noncomputable def Amemory_copied : Arg U ((List Int) × Unit) := aO (cSl 3) (aNil)
noncomputable def Gmemory_copied : Bls U (Unit) := bNil
noncomputable def Rmemory_copied (_x : (List Int) × Unit) (_g : Unit) (r : (List Int)) : List (V U) × List (Blk U) := ([vO (cK (.row 0 0) (cUnit)) (())], [.row 3 0 r])
noncomputable def Smemory_copied : List (V U) → List (Blk U) → Option (FnOut U) := mkSpecG Amemory_copied Gmemory_copied (fun x _ => memory_copied x.1) Rmemory_copied
noncomputable def Ememory_copied : Env U := { P := Try.prog, cd := cd, fns := fns71, lps := noL, frz := fun _r => false, nt := 11, n0 := 0 }
theorem rnmemory_copied (x0 : (List Int)) : execX true Ememory_copied Try.f72 (Amemory_copied.enc (x0, ())) (Gmemory_copied.enc ()) = (Tmemory_copied x0).map (Rmemory_copied (x0, ()) ()) := by kernel_rfl
theorem runmemory_copied : ∀ (x : (List Int) × Unit) (g : Unit), execX true Ememory_copied Try.f72 (Amemory_copied.enc x) (Gmemory_copied.enc g) = (Tmemory_copied x.1).map (Rmemory_copied x g)
  | (x0, ()), () => rnmemory_copied x0
theorem okmemory_copied : FnOk Try.prog cd 72 Smemory_copied := mk_okG (E := Ememory_copied) (A := Amemory_copied) (B := Gmemory_copied) true cd_ok fns71_ok Try.func72 (by kernel_rfl) (noLoops_body (by kernel_rfl)) (aO_ok (cSl_ok 3) (aNil_ok)) bNil_ok (T := fun (x : (List Int) × Unit) (_ : Unit) => Tmemory_copied x.1) (fun _ _ => rfl) runmemory_copied
/-- emulator/memory.Store -/
structure Smemory_Store_0 where
  t1 : Int
  t2 : (List UInt8)
  t21 : Int
  t22 : Int
  b0 : (List Int)
noncomputable def Wmemory_Store_0 (s : Smemory_Store_0) : Tree (Smemory_Store_0 ⊕ (List Int)) :=
  .ite (decide (s.t22 < s.t21))
    (.ite (decide ((2 : Int) = 0))
      .fail
      (.ite (decide ((2 : Int) = 0))
        .fail
        (.ite (decide ((2 : Int) = 0))
          .fail
          (.ite (decide (0 ≤ IntKind.wrap .i64 (((IntKind.wrap .i64 (s.t1 + s.t22))).tdiv (2 : Int))))
            (.ite (decide (IntKind.wrap .i64 (((IntKind.wrap .i64 (s.t1 + s.t22))).tdiv (2 : Int)) < (s.b0.length : Int)))
              (.opt Int (s.b0[(IntKind.wrap .i64 (((IntKind.wrap .i64 (s.t1 + s.t22))).tdiv (2 : Int))).toNat]?) fun y180 =>
                .ite (decide (0 ≤ (IntKind.wrap .i64 ((((IntKind.wrap .i64 (s.t1 + s.t22))).tmod (2 : Int)) * (8 : Int)))))
                  (.ite (decide (0 ≤ s.t22))
                    (.opt UInt8 (s.t2[(s.t22).toNat]?) fun y181 =>
                      .ite (decide (0 ≤ (IntKind.wrap .i64 ((((IntKind.wrap .i64 (s.t1 + s.t22))).tmod (2 : Int)) * (8 : Int)))))
                        (.ite (decide (0 ≤ IntKind.wrap .i64 (((IntKind.wrap .i64 (s.t1 + s.t22))).tdiv (2 : Int))))
                          (.ite (decide (IntKind.wrap .i64 (((IntKind.wrap .i64 (s.t1 + s.t22))).tdiv (2 : Int)) < (s.b0.length : Int)))
                            (.opt Int (s.b0[(IntKind.wrap .i64 (((IntKind.wrap .i64 (s.t1 + s.t22))).tdiv (2 : Int))).toNat]?) fun y182 =>
                              .leaf (.inl (Smemory_Store_0.mk s.t1 s.t2 s.t21 (IntKind.wrap .i64 (s.t22 + (1 : Int))) (s.b0.set ((IntKind.wrap .i64 (((IntKind.wrap .i64 (s.t1 + s.t22))).tdiv (2 : Int))).toNat) (IntKind.wrap .i64 (((BitVec.ofInt 64 (IntKind.wrap .i64 (((BitVec.ofInt 64 y180 &&& ~~~BitVec.ofInt 64 (IntKind.wrap .i64 ((255 : Int) * 2 ^ (min ((IntKind.wrap .i64 ((((IntKind.wrap .i64 (s.t1 + s.t22))).tmod (2 : Int)) * (8 : Int)))).toNat 64)))).toNat : Int))) ||| BitVec.ofInt 64 (IntKind.wrap .i64 ((IntKind.wrap .i64 (y181.toNat : Int)) * 2 ^ (min ((IntKind.wrap .i64 ((((IntKind.wrap .i64 (s.t1 + s.t22))).tmod (2 : Int)) * (8 : Int)))).toNat 64)))).toNat : Int)))))))
                            .fail)
                          .fail)
                        .fail)
                    .fail)
                  .fail)
              .fail)
            .fail))))
    (.leaf (.inr s.b0))
noncomputable def Lmemory_Store_0 (q : Option Nat) (s : Smemory_Store_0) : Option (List Int) := limQ q (fun s => (Wmemory_Store_0 s).run) s
theorem leLmemory_Store_0 (k : Nat) (s : Smemory_Store_0) : Le (Lmemory_Store_0 (some k) s) (Lmemory_Store_0 none s) := limQ_le (fun _ => Le.rfl) s
noncomputable def Tmemory_Store (q : Option Nat) (x0 : (List Int)) (x1 : Int) (x2 : (List UInt8)) : Tree ((List Int) × Int) :=
  .opt Bool (memory_within x0 x1 (x2.length : Int)) fun r178 =>
    .ite (!r178)
      (.leaf (([], (2 : Int))))
      (.opt (List Int) (memory_copied x0) fun r179 =>
        .opt (List Int) (Lmemory_Store_0 q (Smemory_Store_0.mk x1 x2 (x2.length : Int) (0 : Int) r179)) fun l183 =>
          .leaf ((l183, (0 : Int))))
noncomputable def memory_Store (q : Option Nat) (x0 : (List Int)) (x1 : Int) (x2 : (List UInt8)) : Option ((List Int) × Int) := (Tmemory_Store q x0 x1 x2).run
theorem lememory_Store (k : Nat) (x0 : (List Int)) (x1 : Int) (x2 : (List UInt8)) : Le (memory_Store (some k) x0 x1 x2) (memory_Store none x0 x1 x2) := (TLe.opt Le.rfl fun _ => (TLe.ite TLe.rfl (TLe.opt Le.rfl fun _ => (TLe.opt (leLmemory_Store_0 k _) fun _ => TLe.rfl))))
noncomputable def Amemory_Store : Arg U ((List Int) × Int × (List UInt8) × Unit) := aO (cSl 3) (aO (cInt .i64) (aO cStr (aNil)))
noncomputable def Rmemory_Store (r : ((List Int) × Int)) : List (V U) × List (Blk U) := ([vO (cSl 3) r.1, vO (cInt .i64) r.2], [])
noncomputable def Smemory_Store : List (V U) → List (Blk U) → Option (FnOut U) := mkSpec Amemory_Store bNil (fun x _ => memory_Store none x.1 x.2.1 x.2.2.1) Rmemory_Store
noncomputable def Pmemory_Store_0 (x : (Int × Unit) × ((List UInt8) × Unit) × (Unit) × (Int × Unit) × (Int × Unit) × Unit) (g : (List Int) × Unit) : Smemory_Store_0 := Smemory_Store_0.mk x.1.1 x.2.1.1 x.2.2.2.1.1 x.2.2.2.2.1.1 g.1
noncomputable def tAmemory_Store_0 : Tms U ((Int × Unit) × ((List UInt8) × Unit) × (Unit) × (Int × Unit) × (Int × Unit) × Unit) := tO 1 (cPair (cInt .i64) (cUnit)) (tO 2 (cPair cStr (cUnit)) (tO 8 (cK (.row 0 0) (cUnit)) (tO 21 (cPair (cInt .i64) (cUnit)) (tO 22 (cPair (cInt .i64) (cUnit)) (tNil)))))
noncomputable def tBmemory_Store_0 : Bls U ((List Int) × Unit) := bRv 3 0 (bNil)
noncomputable def eSmemory_Store_0 (s : Smemory_Store_0) : St U := { tm := [(1, .v (vO (cPair (cInt .i64) (cUnit)) (s.t1, ()))), (2, .v (vO (cPair cStr (cUnit)) (s.t2, ()))), (8, .v (vO (cK (.row 0 0) (cUnit)) (()))), (21, .v (vO (cPair (cInt .i64) (cUnit)) (s.t21, ()))), (22, .v (vO (cPair (cInt .i64) (cUnit)) (s.t22, ())))], hp := [.row 3 0 s.b0] }
noncomputable def xSmemory_Store_0 (r : (List Int)) : Ex × St U := (.exit 0, { tm := [(8, .v (vO (cK (.row 0 0) (cUnit)) (())))], hp := [.row 3 0 r] })
noncomputable def xTmemory_Store_0 (r : (List Int)) : Tree (Ex × St U) := .leaf (xSmemory_Store_0 r)
noncomputable def hmemory_Store_0 : Hd := { keep := [1, 2, 8, 21, 22], xkeep := [6, 7, 8], own := false }
noncomputable def Ememory_Store : Env U := { P := Try.prog, cd := cd, fns := (addF 72 false (Smemory_copied) fns71), lps := (addL 0 hmemory_Store_0 (mkLoop tAmemory_Store_0 tBmemory_Store_0 Pmemory_Store_0 (Lmemory_Store_0 none) xTmemory_Store_0) noL), frz := fun _r => false, nt := 52, n0 := 0 }
noncomputable def Bmemory_Store_0 : Code := (loopAt (Try.f52.body.getD .skip) 0 0).getD .skip
theorem roundmemory_Store_0 (s : Smemory_Store_0) : round Ememory_Store hmemory_Store_0 Bmemory_Store_0 0 (eSmemory_Store_0 s) = (Wmemory_Store_0 s).map (sumE eSmemory_Store_0 xSmemory_Store_0) := by kernel_rfl
theorem lpmemory_Store_0 : LpOk Ememory_Store Bmemory_Store_0 0 := mkLoop_ok (A := tAmemory_Store_0) (B := tBmemory_Store_0) (f := Pmemory_Store_0) (L := Lmemory_Store_0 none) (tO_ok (cPair_ok (cInt_ok .i64) cUnit_ok) (tO_ok (cPair_ok cStr_ok cUnit_ok) (tO_ok (cK_ok cUnit_ok) (tO_ok (cPair_ok (cInt_ok .i64) cUnit_ok) (tO_ok (cPair_ok (cInt_ok .i64) cUnit_ok) tNil_ok))))) (bRv_ok bNil_ok) (enc := eSmemory_Store_0) (out := xTmemory_Store_0) (outS := xSmemory_Store_0) (step := Wmemory_Store_0) (fun _ => rfl) (fun _ _ => by kernel_rfl) (by kernel_rfl) (fun _ => rfl) roundmemory_Store_0
theorem runmemory_Store (x : (List Int) × Int × (List UInt8) × Unit) (g : Unit) : execF Ememory_Store Try.f52 (Amemory_Store.enc x) (bNil.enc g) = (Tmemory_Store none x.1 x.2.1 x.2.2.1).map Rmemory_Store := by kernel_rfl
theorem okmemory_Store : FnOk Try.prog cd 52 Smemory_Store := mk_ok (E := Ememory_Store) cd_ok (addF_ok okmemory_copied fns71_ok) Try.func52 (by kernel_rfl) (loops_of (addL_ok lpmemory_Store_0 noL_ok)) (aO_ok (cSl_ok 3) (aO_ok (cInt_ok .i64) (aO_ok cStr_ok (aNil_ok)))) bNil_ok (T := fun x _ => Tmemory_Store none x.1 x.2.1 x.2.2.1) (fun _ _ => rfl) runmemory_Store
noncomputable def fns52 := addF 52 true Smemory_Store fns71
theorem fns52_ok : ∀ f q t, fns52 f = some (q, t) → FnOk Try.prog cd f t := addF_ok okmemory_Store fns71_ok
/-- strings.Repeat -/
noncomputable def strings_Repeat (x0 : (List UInt8)) (x1 : Int) : Option (List UInt8) := repF x0 x1
noncomputable def Sstrings_Repeat : List (V U) → List (Blk U) → Option (FnOut U) := mkSpec (aO cStr (aO (cInt .i64) aNil) : Arg U (List UInt8 × Int × Unit)) bNil (fun x _ => strings_Repeat x.1 x.2.1) fun r => ([vO cStr r], [])
end Go.Proofs.Ytghgcaieciklbaa
namespace Go.Proofs
open Go.Shelf
shelf_lay Lays.n105 Nm 105 at Try as Try.lays53
theorem Try.extra53 : Builder.Extra Try.prog Try.lays53_ren where
  sizeBuilder := by kernel_rfl
  liesBuilder := by kernel_rfl
  t5 := Try.underlying5
  a5 := Try.isAgg5
  z5 := Try.sizeOf5
  v5 := Try.zeroValue5
  infoByte := by kernel_rfl
  cellsByte := by kernel_rfl
  sizeByte := by kernel_rfl
  neB5 := by decide
end Go.Proofs
namespace Go.Proofs.Ytghgcaieciklbaa
open Go Go.Ab
theorem okstrings_Repeat : FnOk Try.prog cd 53 Sstrings_Repeat := rep_ok Try.lays53 Try.extra53 Try.func53 (by kernel_rfl) (by kernel_rfl) rfl
noncomputable def fns53 := addF 53 true Sstrings_Repeat fns52
theorem fns53_ok : ∀ f q t, fns53 f = some (q, t) → FnOk Try.prog cd f t := addF_ok okstrings_Repeat fns52_ok
end Go.Proofs.Ytghgcaieciklbaa
namespace Go.Proofs
shelf_lay_g SlLaysE0.n41 Slgn 41 at Try 55 as Try.lays55
end Go.Proofs
namespace Go.Proofs.Ytghgcaieciklbaa
open Go Go.Ab
theorem okslices_Clone_int_int : FnOk Try.prog cd 55 (cloneSpec 3 8) := clone_ok2 cd_ok Try.lays55 Try.func55 (by kernel_rfl) (by kernel_rfl) rfl rfl (by kernel_rfl)
/-- emulator/image.Load$1 -/
noncomputable def Timage_Load_1 (x0 : Int) (g0 : Int) (g1 : Int) : Tree Bool :=
  .ite (decide (g0 ≤ x0))
    (.leaf (decide (x0 < (IntKind.wrap .i64 (g0 + g1)))))
    (.leaf (false))
noncomputable def image_Load_1 (x0 : Int) (g0 : Int) (g1 : Int) : Option Bool := (Timage_Load_1 x0 g0 g1).run
noncomputable def Aimage_Load_1 : Arg U (Int × Unit) := aO (cInt .i64) (aP 0 0 (aP 1 0 (aNil)))
noncomputable def Gimage_Load_1 : Bls U (Int × Int × Unit) := bC (cInt .i64) (bC (cInt .i64) (bNil))
noncomputable def Rimage_Load_1 (_x : Int × Unit) (g : Int × Int × Unit) (r : Bool) : List (V U) × List (Blk U) := ([vO (cPair cBool (cUnit)) (r, ())], [.cells (((cInt .i64) : Cdc U Int).enc g.1) none, .cells (((cInt .i64) : Cdc U Int).enc g.2.1) none])
noncomputable def Simage_Load_1 : List (V U) → List (Blk U) → Option (FnOut U) := mkSpecG Aimage_Load_1 Gimage_Load_1 (fun x g => image_Load_1 x.1 g.1 g.2.1) Rimage_Load_1
noncomputable def Eimage_Load_1 : Env U := { P := Try.prog, cd := cd, fns := fns53, lps := noL, frz := fun _r => false, nt := 15, n0 := 2 }
theorem rnimage_Load_1 (x0 : Int) (g0 : Int) (g1 : Int) : execX false Eimage_Load_1 Try.f56 (Aimage_Load_1.enc (x0, ())) (Gimage_Load_1.enc (g0, g1, ())) = (Timage_Load_1 x0 g0 g1).map (Rimage_Load_1 (x0, ()) (g0, g1, ())) := by kernel_rfl
theorem runimage_Load_1 : ∀ (x : Int × Unit) (g : Int × Int × Unit), execX false Eimage_Load_1 Try.f56 (Aimage_Load_1.enc x) (Gimage_Load_1.enc g) = (Timage_Load_1 x.1 g.1 g.2.1).map (Rimage_Load_1 x g)
  | (x0, ()), (g0, g1, ()) => rnimage_Load_1 x0 g0 g1
theorem okimage_Load_1 : FnOk Try.prog cd 56 Simage_Load_1 := mk_okG (E := Eimage_Load_1) (A := Aimage_Load_1) (B := Gimage_Load_1) false cd_ok fns53_ok Try.func56 (by kernel_rfl) (noLoops_body (by kernel_rfl)) (aO_ok (cInt_ok .i64) (aP_ok (aP_ok (aNil_ok)))) (bC_ok (cInt_ok .i64) (bC_ok (cInt_ok .i64) bNil_ok)) (T := fun (x : Int × Unit) (g : Int × Int × Unit) => Timage_Load_1 x.1 g.1 g.2.1) (fun _ _ => rfl) runimage_Load_1
theorem kpimage_Load_1 : Keeps Simage_Load_1 [0, 1] := mkSpecG_keeps (bC_ok (cInt_ok .i64) (bC_ok (cInt_ok .i64) bNil_ok)) (fun x g y => by kernel_rfl)
/-- slices.IndexFunc[[]int,int] -/
structure Sslices_IndexFunc_int_int_0 where
  t7 : Int
  t8 : Int
noncomputable def Wslices_IndexFunc_int_int_0 (kk : ((List Int) × Int × Int)) (s : Sslices_IndexFunc_int_int_0) : Tree (Sslices_IndexFunc_int_int_0 ⊕ (Int ⊕ Unit)) :=
  .ite (decide (s.t8 < s.t7))
    (.ite (decide (0 ≤ s.t8))
      (.ite (decide (s.t8 < (kk.1.length : Int)))
        (.opt Int (kk.1[(s.t8).toNat]?) fun y195 =>
          .opt Bool (image_Load_1 y195 kk.2.1 kk.2.2) fun r196 =>
            .ite (r196)
              (.leaf (.inr (.inl s.t8)))
              (.leaf (.inl (Sslices_IndexFunc_int_int_0.mk s.t7 (IntKind.wrap .i64 (s.t8 + (1 : Int)))))))
        .fail)
      .fail)
    (.leaf (.inr (.inr ())))
noncomputable def Lslices_IndexFunc_int_int_0 (q : Option Nat) (kk : ((List Int) × Int × Int)) (s : Sslices_IndexFunc_int_int_0) : Option (Int ⊕ Unit) := limQ q (fun s => (Wslices_IndexFunc_int_int_0 kk s).run) s
theorem leLslices_IndexFunc_int_int_0 (k : Nat) (kk : ((List Int) × Int × Int)) (s : Sslices_IndexFunc_int_int_0) : Le (Lslices_IndexFunc_int_int_0 (some k) kk s) (Lslices_IndexFunc_int_int_0 none kk s) := limQ_le (fun _ => Le.rfl) s
noncomputable def Tslices_IndexFunc_int_int (q : Option Nat) (g0 : (List Int)) (g1 : Int) (g2 : Int) : Tree Int :=
  .opt (Int ⊕ Unit) (Lslices_IndexFunc_int_int_0 q (g0, g1, g2) (Sslices_IndexFunc_int_int_0.mk (g0.length : Int) (0 : Int))) fun l197 =>
    .ite (l197.isLeft)
      (.opt Int (l197.getLeft?) fun a198 =>
        .leaf (a198))
      (.opt Unit (l197.getRight?) fun b199 =>
        .leaf ((-1 : Int)))
noncomputable def slices_IndexFunc_int_int (q : Option Nat) (g0 : (List Int)) (g1 : Int) (g2 : Int) : Option Int := (Tslices_IndexFunc_int_int q g0 g1 g2).run
theorem leslices_IndexFunc_int_int (k : Nat) (g0 : (List Int)) (g1 : Int) (g2 : Int) : Le (slices_IndexFunc_int_int (some k) g0 g1 g2) (slices_IndexFunc_int_int none g0 g1 g2) := (TLe.opt (leLslices_IndexFunc_int_int_0 k _ _) fun _ => TLe.rfl)
noncomputable def Aslices_IndexFunc_int_int : Arg U (Unit) := aR 0 (aF 56 [(.ptr 1 0), (.ptr 2 0)] (aNil))
noncomputable def Gslices_IndexFunc_int_int : Bls U ((List Int) × Int × Int × Unit) := bR 3 (bC (cInt .i64) (bC (cInt .i64) (bNil)))
noncomputable def Rslices_IndexFunc_int_int (_x : Unit) (g : (List Int) × Int × Int × Unit) (r : Int) : List (V U) × List (Blk U) := ([vO (cPair (cInt .i64) (cUnit)) (r, ())], [.row 3 0 g.1, .cells (((cInt .i64) : Cdc U Int).enc g.2.1) none, .cells (((cInt .i64) : Cdc U Int).enc g.2.2.1) none])
noncomputable def Sslices_IndexFunc_int_int : List (V U) → List (Blk U) → Option (FnOut U) := mkSpecG Aslices_IndexFunc_int_int Gslices_IndexFunc_int_int (fun x g => slices_IndexFunc_int_int none g.1 g.2.1 g.2.2.1) Rslices_IndexFunc_int_int
noncomputable def Pslices_IndexFunc_int_int_0 (x : (Unit) × (Unit) × (Int × Unit) × (Int × Unit) × Unit) (g : (List Int) × (Int × Unit) × (Int × Unit) × Unit) : ((List Int) × Int × Int) × Sslices_IndexFunc_int_int_0 := ((g.1, g.2.1.1, g.2.2.1.1), Sslices_IndexFunc_int_int_0.mk x.2.2.1.1 x.2.2.2.1.1)
noncomputable def tAslices_IndexFunc_int_int_0 : Tms U ((Unit) × (Unit) × (Int × Unit) × (Int × Unit) × Unit) := tO 0 (cK (.row 0 0) (cUnit)) (tO 1 (cK2 (.fn 56 [] [(.ptr 1 0), (.ptr 2 0)]) (cUnit)) (tO 7 (cPair (cInt .i64) (cUnit)) (tO 8 (cPair (cInt .i64) (cUnit)) (tNil))))
noncomputable def tBslices_IndexFunc_int_int_0 : Bls U ((List Int) × (Int × Unit) × (Int × Unit) × Unit) := bRv 3 0 (bC (cPair (cInt .i64) (cUnit)) (bC (cPair (cInt .i64) (cUnit)) (bNil)))
noncomputable def eSslices_IndexFunc_int_int_0 (kk : ((List Int) × Int × Int)) (s : Sslices_IndexFunc_int_int_0) : St U := { tm := [(0, .v (vO (cK (.row 0 0) (cUnit)) (()))), (1, .v (vO (cK2 (.fn 56 [] [(.ptr 1 0), (.ptr 2 0)]) (cUnit)) (()))), (7, .v (vO (cPair (cInt .i64) (cUnit)) (s.t7, ()))), (8, .v (vO (cPair (cInt .i64) (cUnit)) (s.t8, ())))], hp := [.row 3 0 kk.1, .cells ((cPair (cInt .i64) (cUnit) : Cdc U (Int × Unit)).enc (kk.2.1, ())) none, .cells ((cPair (cInt .i64) (cUnit) : Cdc U (Int × Unit)).enc (kk.2.2, ())) none] }
noncomputable def xSslices_IndexFunc_int_int_0 (kk : ((List Int) × Int × Int)) : (Int ⊕ Unit) → Ex × St U
  | .inl r => (.ret, { tm := [(4, .v (vO (cPair (cInt .i64) (cUnit)) (r, ())))], hp := [.row 3 0 kk.1, .cells ((cPair (cInt .i64) (cUnit) : Cdc U (Int × Unit)).enc (kk.2.1, ())) none, .cells ((cPair (cInt .i64) (cUnit) : Cdc U (Int × Unit)).enc (kk.2.2, ())) none] })
  | .inr r => (.exit 0, { tm := [], hp := [.row 3 0 kk.1, .cells ((cPair (cInt .i64) (cUnit) : Cdc U (Int × Unit)).enc (kk.2.1, ())) none, .cells ((cPair (cInt .i64) (cUnit) : Cdc U (Int × Unit)).enc (kk.2.2, ())) none] })
noncomputable def xTslices_IndexFunc_int_int_0 (kk : ((List Int) × Int × Int)) (y : (Int ⊕ Unit)) : Tree (Ex × St U) := .ite y.isLeft (.opt Int y.getLeft? fun r => .leaf (.ret, { tm := [(4, .v (vO (cPair (cInt .i64) (cUnit)) (r, ())))], hp := [.row 3 0 kk.1, .cells ((cPair (cInt .i64) (cUnit) : Cdc U (Int × Unit)).enc (kk.2.1, ())) none, .cells ((cPair (cInt .i64) (cUnit) : Cdc U (Int × Unit)).enc (kk.2.2, ())) none] })) (.opt Unit y.getRight? fun r => .leaf (.exit 0, { tm := [], hp := [.row 3 0 kk.1, .cells ((cPair (cInt .i64) (cUnit) : Cdc U (Int × Unit)).enc (kk.2.1, ())) none, .cells ((cPair (cInt .i64) (cUnit) : Cdc U (Int × Unit)).enc (kk.2.2, ())) none] }))
noncomputable def hslices_IndexFunc_int_int_0 : Hd := { keep := [0, 1, 7, 8], xkeep := [4], own := false }
noncomputable def Eslices_IndexFunc_int_int : Env U := { P := Try.prog, cd := cd, fns := (addF 56 false (Simage_Load_1) fns53), lps := (addL 0 hslices_IndexFunc_int_int_0 (mkLoopK tAslices_IndexFunc_int_int_0 tBslices_IndexFunc_int_int_0 Pslices_IndexFunc_int_int_0 (Lslices_IndexFunc_int_int_0 none) xTslices_IndexFunc_int_int_0) noL), frz := fun _r => false, nt := 19, n0 := 3 }
noncomputable def Bslices_IndexFunc_int_int_0 : Code := (loopAt (Try.f76.body.getD .skip) 0 0).getD .skip
theorem roundslices_IndexFunc_int_int_0 (kk : ((List Int) × Int × Int)) (s : Sslices_IndexFunc_int_int_0) : round Eslices_IndexFunc_int_int hslices_IndexFunc_int_int_0 Bslices_IndexFunc_int_int_0 0 (eSslices_IndexFunc_int_int_0 kk s) = (Wslices_IndexFunc_int_int_0 kk s).map (sumE (eSslices_IndexFunc_int_int_0 kk) (xSslices_IndexFunc_int_int_0 kk)) := by kernel_rfl
theorem lpslices_IndexFunc_int_int_0 : LpOk Eslices_IndexFunc_int_int Bslices_IndexFunc_int_int_0 0 := mkLoopK_ok (A := tAslices_IndexFunc_int_int_0) (B := tBslices_IndexFunc_int_int_0) (f := Pslices_IndexFunc_int_int_0) (L := Lslices_IndexFunc_int_int_0 none) (tO_ok (cK_ok cUnit_ok) (tO_ok (cK2_ok cUnit_ok) (tO_ok (cPair_ok (cInt_ok .i64) cUnit_ok) (tO_ok (cPair_ok (cInt_ok .i64) cUnit_ok) tNil_ok)))) (bRv_ok (bC_ok (cPair_ok (cInt_ok .i64) cUnit_ok) (bC_ok (cPair_ok (cInt_ok .i64) cUnit_ok) bNil_ok))) (enc := eSslices_IndexFunc_int_int_0) (out := xTslices_IndexFunc_int_int_0) (outS := xSslices_IndexFunc_int_int_0) (step := Wslices_IndexFunc_int_int_0) (fun _ _ => rfl) (fun _ _ => by kernel_rfl) (by kernel_rfl) (fun _ b => by cases b <;> rfl) roundslices_IndexFunc_int_int_0
theorem rnslices_IndexFunc_int_int (g0 : (List Int)) (g1 : Int) (g2 : Int) : execX false Eslices_IndexFunc_int_int Try.f76 (Aslices_IndexFunc_int_int.enc ()) (Gslices_IndexFunc_int_int.enc (g0, g1, g2, ())) = (Tslices_IndexFunc_int_int none g0 g1 g2).map (Rslices_IndexFunc_int_int () (g0, g1, g2, ())) := by kernel_rfl
theorem runslices_IndexFunc_int_int : ∀ (x : Unit) (g : (List Int) × Int × Int × Unit), execX false Eslices_IndexFunc_int_int Try.f76 (Aslices_IndexFunc_int_int.enc x) (Gslices_IndexFunc_int_int.enc g) = (Tslices_IndexFunc_int_int none g.1 g.2.1 g.2.2.1).map (Rslices_IndexFunc_int_int x g)
  | (), (g0, g1, g2, ()) => rnslices_IndexFunc_int_int g0 g1 g2
theorem okslices_IndexFunc_int_int : FnOk Try.prog cd 76 Sslices_IndexFunc_int_int := mk_okG (E := Eslices_IndexFunc_int_int) (A := Aslices_IndexFunc_int_int) (B := Gslices_IndexFunc_int_int) false cd_ok (addF_ok okimage_Load_1 fns53_ok) Try.func76 (by kernel_rfl) (loops_of (addL_ok lpslices_IndexFunc_int_int_0 noL_ok)) (aR_ok (aF_ok (aNil_ok))) (bR_ok (bC_ok (cInt_ok .i64) (bC_ok (cInt_ok .i64) bNil_ok))) (T := fun (x : Unit) (g : (List Int) × Int × Int × Unit) => Tslices_IndexFunc_int_int none g.1 g.2.1 g.2.2.1) (fun _ _ => rfl) runslices_IndexFunc_int_int
theorem kpslices_IndexFunc_int_int : Keeps Sslices_IndexFunc_int_int [0, 1, 2] := mkSpecG_keeps (bR_ok (bC_ok (cInt_ok .i64) (bC_ok (cInt_ok .i64) bNil_ok))) (fun x g y => by kernel_rfl)
/-- slices.DeleteFunc[[]int,int] -/
structure Sslices_DeleteFunc_int_int_0 where
  t5 : Int
  t6 : Int
  b0 : (List Int)
noncomputable def Wslices_DeleteFunc_int_int_0 (kk : (Int × Int)) (s : Sslices_DeleteFunc_int_int_0) : Tree (Sslices_DeleteFunc_int_int_0 ⊕ (Int × (List Int))) :=
  .ite (decide (s.t6 < (s.b0.length : Int)))
    (.ite (decide (0 ≤ s.t6))
      (.ite (decide (s.t6 < (s.b0.length : Int)))
        (.opt Int (s.b0[(s.t6).toNat]?) fun y201 =>
          .opt Bool (image_Load_1 y201 kk.1 kk.2) fun r202 =>
            .ite (!r202)
              (.ite (decide (0 ≤ s.t5))
                (.ite (decide (s.t5 < (s.b0.length : Int)))
                  (.opt Int (s.b0[(s.t5).toNat]?) fun y203 =>
                    .leaf (.inl (Sslices_DeleteFunc_int_int_0.mk (IntKind.wrap .i64 (s.t5 + (1 : Int))) (IntKind.wrap .i64 (s.t6 + (1 : Int))) (s.b0.set ((s.t5).toNat) y201))))
                  .fail)
                .fail)
              (.leaf (.inl (Sslices_DeleteFunc_int_int_0.mk s.t5 (IntKind.wrap .i64 (s.t6 + (1 : Int))) s.b0))))
        .fail)
      .fail)
    (.leaf (.inr (s.t5, s.b0)))
noncomputable def Lslices_DeleteFunc_int_int_0 (q : Option Nat) (kk : (Int × Int)) (s : Sslices_DeleteFunc_int_int_0) : Option (Int × (List Int)) := limQ q (fun s => (Wslices_DeleteFunc_int_int_0 kk s).run) s
theorem leLslices_DeleteFunc_int_int_0 (k : Nat) (kk : (Int × Int)) (s : Sslices_DeleteFunc_int_int_0) : Le (Lslices_DeleteFunc_int_int_0 (some k) kk s) (Lslices_DeleteFunc_int_int_0 none kk s) := limQ_le (fun _ => Le.rfl) s
noncomputable def Tslices_DeleteFunc_int_int (q : Option Nat) (g0 : (List Int)) (g1 : Int) (g2 : Int) : Tree (Unit ⊕ ((Nat × Nat) × (List Int))) :=
  .opt Int (slices_IndexFunc_int_int q g0 g1 g2) fun r200 =>
    .ite (decide (r200 = (-1 : Int)))
      (.leaf (.inl ()))
      (.opt (Int × (List Int)) (Lslices_DeleteFunc_int_int_0 q (g1, g2) (Sslices_DeleteFunc_int_int_0.mk r200 (IntKind.wrap .i64 (r200 + (1 : Int))) g0)) fun l204 =>
        .ite (decide (0 ≤ l204.1))
          (.ite (decide (l204.1 ≤ ((l204.2.length : Nat) : Int)))
            (.ite (decide (0 ≤ l204.1))
              (.ite (decide (l204.1 ≤ (((l204.2.take ((l204.1).toNat) ++ List.replicate (l204.2.length - (l204.1).toNat) (0 : Int) ++ l204.2.drop ((l204.1).toNat + (l204.2.length - (l204.1).toNat))).length : Nat) : Int)))
                (.leaf (.inr ((0, (l204.1).toNat - 0), l204.2.take ((l204.1).toNat) ++ List.replicate (l204.2.length - (l204.1).toNat) (0 : Int) ++ l204.2.drop ((l204.1).toNat + (l204.2.length - (l204.1).toNat)))))
                .fail)
              .fail)
            .fail)
          .fail)
noncomputable def slices_DeleteFunc_int_int (q : Option Nat) (g0 : (List Int)) (g1 : Int) (g2 : Int) : Option (Unit ⊕ ((Nat × Nat) × (List Int))) := (Tslices_DeleteFunc_int_int q g0 g1 g2).run
theorem leslices_DeleteFunc_int_int (k : Nat) (g0 : (List Int)) (g1 : Int) (g2 : Int) : Le (slices_DeleteFunc_int_int (some k) g0 g1 g2) (slices_DeleteFunc_int_int none g0 g1 g2) := (TLe.opt (leslices_IndexFunc_int_int k _ _ _) fun _ => (TLe.ite TLe.rfl (TLe.opt (leLslices_DeleteFunc_int_int_0 k _ _) fun _ => TLe.rfl)))
noncomputable def Aslices_DeleteFunc_int_int : Arg U (Unit) := aR 0 (aF 56 [(.ptr 1 0), (.ptr 2 0)] (aNil))
noncomputable def Gslices_DeleteFunc_int_int : Bls U ((List Int) × Int × Int × Unit) := bR 3 (bC (cInt .i64) (bC (cInt .i64) (bNil)))
noncomputable def Rslices_DeleteFunc_int_int (_x : Unit) (g : (List Int) × Int × Int × Unit) (_r : Unit) : List (V U) × List (Blk U) := ([vO (cK (.row 0 0) (cUnit)) (())], [.row 3 0 g.1, .cells (((cInt .i64) : Cdc U Int).enc g.2.1) none, .cells (((cInt .i64) : Cdc U Int).enc g.2.2.1) none])
noncomputable def Rslices_DeleteFunc_int_intb (_x : Unit) (g : (List Int) × Int × Int × Unit) (r : ((Nat × Nat) × (List Int))) : List (V U) × List (Blk U) := ([vO (cPair (cOwn 0 0) (cUnit)) (r.1, ())], [.row 3 0 r.2, .cells (((cInt .i64) : Cdc U Int).enc g.2.1) none, .cells (((cInt .i64) : Cdc U Int).enc g.2.2.1) none])
noncomputable def Sslices_DeleteFunc_int_int : List (V U) → List (Blk U) → Option (FnOut U) := mkSpecG2 Aslices_DeleteFunc_int_int Gslices_DeleteFunc_int_int (fun x g => slices_DeleteFunc_int_int none g.1 g.2.1 g.2.2.1) Rslices_DeleteFunc_int_int Rslices_DeleteFunc_int_intb
noncomputable def Pslices_DeleteFunc_int_int_0 (x : (Unit) × (Unit) × (Int × Unit) × (Int × Unit) × Unit) (g : (List Int) × (Int × Unit) × (Int × Unit) × Unit) : (Int × Int) × Sslices_DeleteFunc_int_int_0 := ((g.2.1.1, g.2.2.1.1), Sslices_DeleteFunc_int_int_0.mk x.2.2.1.1 x.2.2.2.1.1 g.1)
noncomputable def tAslices_DeleteFunc_int_int_0 : Tms U ((Unit) × (Unit) × (Int × Unit) × (Int × Unit) × Unit) := tO 0 (cK (.row 0 0) (cUnit)) (tO 1 (cK2 (.fn 56 [] [(.ptr 1 0), (.ptr 2 0)]) (cUnit)) (tO 5 (cPair (cInt .i64) (cUnit)) (tO 6 (cPair (cInt .i64) (cUnit)) (tNil))))
noncomputable def tBslices_DeleteFunc_int_int_0 : Bls U ((List Int) × (Int × Unit) × (Int × Unit) × Unit) := bRv 3 0 (bC (cPair (cInt .i64) (cUnit)) (bC (cPair (cInt .i64) (cUnit)) (bNil)))
noncomputable def eSslices_DeleteFunc_int_int_0 (kk : (Int × Int)) (s : Sslices_DeleteFunc_int_int_0) : St U := { tm := [(0, .v (vO (cK (.row 0 0) (cUnit)) (()))), (1, .v (vO (cK2 (.fn 56 [] [(.ptr 1 0), (.ptr 2 0)]) (cUnit)) (()))), (5, .v (vO (cPair (cInt .i64) (cUnit)) (s.t5, ()))), (6, .v (vO (cPair (cInt .i64) (cUnit)) (s.t6, ())))], hp := [.row 3 0 s.b0, .cells ((cPair (cInt .i64) (cUnit) : Cdc U (Int × Unit)).enc (kk.1, ())) none, .cells ((cPair (cInt .i64) (cUnit) : Cdc U (Int × Unit)).enc (kk.2, ())) none] }
noncomputable def xSslices_DeleteFunc_int_int_0 (kk : (Int × Int)) (r : (Int × (List Int))) : Ex × St U := (.exit 0, { tm := [(0, .v (vO (cK (.row 0 0) (cUnit)) (()))), (5, .v (vO (cPair (cInt .i64) (cUnit)) (r.1, ())))], hp := [.row 3 0 r.2, .cells ((cPair (cInt .i64) (cUnit) : Cdc U (Int × Unit)).enc (kk.1, ())) none, .cells ((cPair (cInt .i64) (cUnit) : Cdc U (Int × Unit)).enc (kk.2, ())) none] })
noncomputable def xTslices_DeleteFunc_int_int_0 (kk : (Int × Int)) (r : (Int × (List Int))) : Tree (Ex × St U) := .leaf (xSslices_DeleteFunc_int_int_0 kk r)
noncomputable def hslices_DeleteFunc_int_int_0 : Hd := { keep := [0, 1, 5, 6], xkeep := [0, 4, 5], own := false }
noncomputable def Eslices_DeleteFunc_int_int : Env U := { P := Try.prog, cd := cd, fns := (addF 76 false (Sslices_IndexFunc_int_int) (addF 56 false (Simage_Load_1) fns53)), lps := (addL 0 hslices_DeleteFunc_int_int_0 (mkLoopK tAslices_DeleteFunc_int_int_0 tBslices_DeleteFunc_int_int_0 Pslices_DeleteFunc_int_int_0 (Lslices_DeleteFunc_int_int_0 none) xTslices_DeleteFunc_int_int_0) noL), frz := fun _r => false, nt := 42, n0 := 3 }
noncomputable def Bslices_DeleteFunc_int_int_0 : Code := (loopAt (Try.f54.body.getD .skip) 0 0).getD .skip
theorem roundslices_DeleteFunc_int_int_0 (kk : (Int × Int)) (s : Sslices_DeleteFunc_int_int_0) : round Eslices_DeleteFunc_int_int hslices_DeleteFunc_int_int_0 Bslices_DeleteFunc_int_int_0 0 (eSslices_DeleteFunc_int_int_0 kk s) = (Wslices_DeleteFunc_int_int_0 kk s).map (sumE (eSslices_DeleteFunc_int_int_0 kk) (xSslices_DeleteFunc_int_int_0 kk)) := by kernel_rfl
theorem lpslices_DeleteFunc_int_int_0 : LpOk Eslices_DeleteFunc_int_int Bslices_DeleteFunc_int_int_0 0 := mkLoopK_ok (A := tAslices_DeleteFunc_int_int_0) (B := tBslices_DeleteFunc_int_int_0) (f := Pslices_DeleteFunc_int_int_0) (L := Lslices_DeleteFunc_int_int_0 none) (tO_ok (cK_ok cUnit_ok) (tO_ok (cK2_ok cUnit_ok) (tO_ok (cPair_ok (cInt_ok .i64) cUnit_ok) (tO_ok (cPair_ok (cInt_ok .i64) cUnit_ok) tNil_ok)))) (bRv_ok (bC_ok (cPair_ok (cInt_ok .i64) cUnit_ok) (bC_ok (cPair_ok (cInt_ok .i64) cUnit_ok) bNil_ok))) (enc := eSslices_DeleteFunc_int_int_0) (out := xTslices_DeleteFunc_int_int_0) (outS := xSslices_DeleteFunc_int_int_0) (step := Wslices_DeleteFunc_int_int_0) (fun _ _ => rfl) (fun _ _ => by kernel_rfl) (by kernel_rfl) (fun _ _ => rfl) roundslices_DeleteFunc_int_int_0
theorem rnslices_DeleteFunc_int_int (g0 : (List Int)) (g1 : Int) (g2 : Int) : execX false Eslices_DeleteFunc_int_int Try.f54 (Aslices_DeleteFunc_int_int.enc ()) (Gslices_DeleteFunc_int_int.enc (g0, g1, g2, ())) = (Tslices_DeleteFunc_int_int none g0 g1 g2).map ((Sum.elim (Rslices_DeleteFunc_int_int () (g0, g1, g2, ())) (Rslices_DeleteFunc_int_intb () (g0, g1, g2, ())))) := by kernel_rfl
theorem runslices_DeleteFunc_int_int : ∀ (x : Unit) (g : (List Int) × Int × Int × Unit), execX false Eslices_DeleteFunc_int_int Try.f54 (Aslices_DeleteFunc_int_int.enc x) (Gslices_DeleteFunc_int_int.enc g) = (Tslices_DeleteFunc_int_int none g.1 g.2.1 g.2.2.1).map ((Sum.elim (Rslices_DeleteFunc_int_int x g) (Rslices_DeleteFunc_int_intb x g)))
  | (), (g0, g1, g2, ()) => rnslices_DeleteFunc_int_int g0 g1 g2
theorem okslices_DeleteFunc_int_int : FnOk Try.prog cd 54 Sslices_DeleteFunc_int_int := mk_okG2 (E := Eslices_DeleteFunc_int_int) (A := Aslices_DeleteFunc_int_int) (B := Gslices_DeleteFunc_int_int) false cd_ok (addF_ok okslices_IndexFunc_int_int (addF_ok okimage_Load_1 fns53_ok)) Try.func54 (by kernel_rfl) (loops_of (addL_ok lpslices_DeleteFunc_int_int_0 noL_ok)) (aR_ok (aF_ok (aNil_ok))) (bR_ok (bC_ok (cInt_ok .i64) (bC_ok (cInt_ok .i64) bNil_ok))) (T := fun (x : Unit) (g : (List Int) × Int × Int × Unit) => Tslices_DeleteFunc_int_int none g.1 g.2.1 g.2.2.1) (fun _ _ => rfl) runslices_DeleteFunc_int_int
theorem kpslices_DeleteFunc_int_int : Keeps Sslices_DeleteFunc_int_int [1, 2] := mkSpecG2_keeps (bR_ok (bC_ok (cInt_ok .i64) (bC_ok (cInt_ok .i64) bNil_ok))) (fun x g y => by kernel_rfl) (fun x g y => by kernel_rfl)
/-- emulator/image.Load -/
noncomputable def Timage_Load (q : Option Nat) (x0 : Machine) (x1 : Image) (x2 : Int) : Tree (Machine × Int) :=
  .opt Int (image_Check q x1) fun r205 =>
    .ite (!decide (r205 = (0 : Int)))
      (.leaf ((Machine.mk (Cpu.mk (List.replicate 6 (0 : Int)) (List.replicate 2 (0 : Int)) 0 0) ([]) ([]) (Mmu.mk false (List.replicate 16 (Page.mk (0 : Int) (0 : Int) (0 : Int) false)) 0 0) (Clock.mk false false 0 0) ([]) (Disk.mk (Drive.mk ([]) ([])) false false false 0 0 0 0 0) (Tape.mk ([]) 0 false false false false false 0 0 0 0) 0 false false 0 false, r205)))
      (.ite (decide (x2 < (0 : Int)))
        (.leaf ((Machine.mk (Cpu.mk (List.replicate 6 (0 : Int)) (List.replicate 2 (0 : Int)) 0 0) ([]) ([]) (Mmu.mk false (List.replicate 16 (Page.mk (0 : Int) (0 : Int) (0 : Int) false)) 0 0) (Clock.mk false false 0 0) ([]) (Disk.mk (Drive.mk ([]) ([])) false false false 0 0 0 0 0) (Tape.mk ([]) 0 false false false false false 0 0 0 0) 0 false false 0 false, (1 : Int))))
        (.ite (decide ((2 : Int) = 0))
          .fail
          (.ite (!decide (((x2).tmod (2 : Int)) = (0 : Int)))
            (.leaf ((Machine.mk (Cpu.mk (List.replicate 6 (0 : Int)) (List.replicate 2 (0 : Int)) 0 0) ([]) ([]) (Mmu.mk false (List.replicate 16 (Page.mk (0 : Int) (0 : Int) (0 : Int) false)) 0 0) (Clock.mk false false 0 0) ([]) (Disk.mk (Drive.mk ([]) ([])) false false false 0 0 0 0 0) (Tape.mk ([]) 0 false false false false false 0 0 0 0) 0 false false 0 false, (1 : Int))))
            (.opt Int (image_Size x1) fun r206 =>
              .ite (decide (x1.text.length + x1.data.length ≤ 9223372036854775807))
                (.opt (List UInt8) (strings_Repeat ([0] : List UInt8) (IntKind.wrap .i64 (r206 - ((x1.text ++ x1.data).length : Int)))) fun r207 =>
                  .ite (decide ((x1.text ++ x1.data).length + r207.length ≤ 9223372036854775807))
                    (.opt ((List Int) × Int) (memory_Store q x0.mem x2 ((x1.text ++ x1.data) ++ r207)) fun r208 =>
                      .ite (!decide (r208.2 = (0 : Int)))
                        (.leaf ((Machine.mk (Cpu.mk (List.replicate 6 (0 : Int)) (List.replicate 2 (0 : Int)) 0 0) ([]) ([]) (Mmu.mk false (List.replicate 16 (Page.mk (0 : Int) (0 : Int) (0 : Int) false)) 0 0) (Clock.mk false false 0 0) ([]) (Disk.mk (Drive.mk ([]) ([])) false false false 0 0 0 0 0) (Tape.mk ([]) 0 false false false false false 0 0 0 0) 0 false false 0 false, (26 : Int))))
                        (.opt (List Int) (cloneF 8 x0.bad) fun r209 =>
                          .opt (Unit ⊕ ((Nat × Nat) × (List Int))) (slices_DeleteFunc_int_int q r209 x2 r206) fun r210 =>
                            .ite (r210.isLeft)
                              (.opt Unit (r210.getLeft?) fun a211 =>
                                .leaf ((Machine.mk x0.cpu r208.1 r209 x0.mmu x0.clock x0.lines x0.disk x0.tape x0.now x0.halted x0.waiting x0.power x0.powerTrap, (0 : Int))))
                              (.opt ((Nat × Nat) × (List Int)) (r210.getRight?) fun b212 =>
                                .leaf ((Machine.mk x0.cpu r208.1 ((b212.2.drop (b212.1.1)).take (b212.1.2)) x0.mmu x0.clock x0.lines x0.disk x0.tape x0.now x0.halted x0.waiting x0.power x0.powerTrap, (0 : Int))))))
                    .fail)
                .fail))))
noncomputable def image_Load (q : Option Nat) (x0 : Machine) (x1 : Image) (x2 : Int) : Option (Machine × Int) := (Timage_Load q x0 x1 x2).run
theorem leimage_Load (k : Nat) (x0 : Machine) (x1 : Image) (x2 : Int) : Le (image_Load (some k) x0 x1 x2) (image_Load none x0 x1 x2) := (TLe.opt (leimage_Check k _) fun _ => (TLe.ite TLe.rfl (TLe.ite TLe.rfl (TLe.ite TLe.rfl (TLe.ite TLe.rfl (TLe.opt Le.rfl fun _ => (TLe.ite (TLe.opt Le.rfl fun _ => (TLe.ite (TLe.opt (lememory_Store k _ _ _) fun _ => (TLe.ite TLe.rfl (TLe.opt Le.rfl fun _ => (TLe.opt (leslices_DeleteFunc_int_int k _ _ _) fun _ => TLe.rfl)))) TLe.rfl)) TLe.rfl)))))))
noncomputable def Aimage_Load : Arg U (Machine × Image × Int × Unit) := aA cMachine (aA cImage (aO (cInt .i64) (aNil)))
noncomputable def Rimage_Load (r : (Machine × Int)) : List (V U) × List (Blk U) := ([vA cMachine r.1, vO (cInt .i64) r.2], [])
noncomputable def Simage_Load : List (V U) → List (Blk U) → Option (FnOut U) := mkSpec Aimage_Load bNil (fun x _ => image_Load none x.1 x.2.1 x.2.2.1) Rimage_Load
noncomputable def Eimage_Load : Env U := { P := Try.prog, cd := cd, fns := (addF 55 false (cloneSpec 3 8) (addF 54 false (Sslices_DeleteFunc_int_int) fns53)), lps := noL, frz := fun _r => false, nt := 60, n0 := 0 }
theorem runimage_Load (x : Machine × Image × Int × Unit) (g : Unit) : execF Eimage_Load Try.f23 (Aimage_Load.enc x) (bNil.enc g) = (Timage_Load none x.1 x.2.1 x.2.2.1).map Rimage_Load := by kernel_rfl
theorem okimage_Load : FnOk Try.prog cd 23 Simage_Load := mk_ok (E := Eimage_Load) cd_ok (addF_ok okslices_Clone_int_int (addF_ok okslices_DeleteFunc_int_int fns53_ok)) Try.func23 (by kernel_rfl) (noLoops_body (by kernel_rfl)) (aA_ok cMachine_ok (aA_ok cImage_ok (aO_ok (cInt_ok .i64) (aNil_ok)))) bNil_ok (T := fun x _ => Timage_Load none x.1 x.2.1 x.2.2.1) (fun _ _ => rfl) runimage_Load
noncomputable def fns23 := addF 23 true Simage_Load fns53
theorem fns23_ok : ∀ f q t, fns23 f = some (q, t) → FnOk Try.prog cd f t := addF_ok okimage_Load fns53_ok
/-- emulator/image.Nearest -/
structure Simage_Nearest_0 where
  t1 : Int
  t11 : (List Symbol)
  t12 : Int
  t13 : Int
  b0 : Symbol
noncomputable def Wimage_Nearest_0 (s : Simage_Nearest_0) : Tree (Simage_Nearest_0 ⊕ (Int × Symbol)) :=
  .ite (decide (s.t13 < s.t12))
    (.ite (decide (0 ≤ s.t13))
      (.opt Symbol (s.t11[(s.t13).toNat]?) fun y213 =>
        .ite (!decide (y213.section_ = (0 : Int)))
          (.ite (decide (y213.value ≤ (if (65535 : Int) < s.t1 then (65535 : Int) else s.t1)))
            (.ite (decide (s.b0.value < y213.value))
              (.leaf (.inl (Simage_Nearest_0.mk s.t1 s.t11 s.t12 (IntKind.wrap .i64 (s.t13 + (1 : Int))) y213)))
              (.leaf (.inl (Simage_Nearest_0.mk s.t1 s.t11 s.t12 (IntKind.wrap .i64 (s.t13 + (1 : Int))) s.b0))))
            (.leaf (.inl (Simage_Nearest_0.mk s.t1 s.t11 s.t12 (IntKind.wrap .i64 (s.t13 + (1 : Int))) s.b0))))
          (.leaf (.inl (Simage_Nearest_0.mk s.t1 s.t11 s.t12 (IntKind.wrap .i64 (s.t13 + (1 : Int))) s.b0))))
      .fail)
    (.leaf (.inr (s.t1, s.b0)))
noncomputable def Limage_Nearest_0 (q : Option Nat) (s : Simage_Nearest_0) : Option (Int × Symbol) := limQ q (fun s => (Wimage_Nearest_0 s).run) s
theorem leLimage_Nearest_0 (k : Nat) (s : Simage_Nearest_0) : Le (Limage_Nearest_0 (some k) s) (Limage_Nearest_0 none s) := limQ_le (fun _ => Le.rfl) s
noncomputable def Timage_Nearest (q : Option Nat) (x0 : (List Symbol)) (x1 : Int) : Tree ((List UInt8) × Int × Bool) :=
  .opt (Int × Symbol) (Limage_Nearest_0 q (Simage_Nearest_0.mk x1 x0 (x0.length : Int) (0 : Int) (Symbol.mk ([]) 0 (-1 : Int) false))) fun l214 =>
    .ite (decide (l214.2.value < (0 : Int)))
      (.leaf ((([] : List UInt8), (0 : Int), false)))
      (.leaf ((l214.2.name, IntKind.wrap .i64 (l214.1 - l214.2.value), true)))
noncomputable def image_Nearest (q : Option Nat) (x0 : (List Symbol)) (x1 : Int) : Option ((List UInt8) × Int × Bool) := (Timage_Nearest q x0 x1).run
theorem leimage_Nearest (k : Nat) (x0 : (List Symbol)) (x1 : Int) : Le (image_Nearest (some k) x0 x1) (image_Nearest none x0 x1) := (TLe.opt (leLimage_Nearest_0 k _) fun _ => TLe.rfl)
noncomputable def Aimage_Nearest : Arg U ((List Symbol) × Int × Unit) := aO (cSl 75) (aO (cInt .i64) (aNil))
noncomputable def Rimage_Nearest (r : ((List UInt8) × Int × Bool)) : List (V U) × List (Blk U) := ([vO cStr r.1, vO (cInt .i64) r.2.1, vO cBool r.2.2], [])
noncomputable def Simage_Nearest : List (V U) → List (Blk U) → Option (FnOut U) := mkSpec Aimage_Nearest bNil (fun x _ => image_Nearest none x.1 x.2.1) Rimage_Nearest
noncomputable def Pimage_Nearest_0 (x : (Int × Unit) × (Unit) × ((List Symbol) × Unit) × (Int × Unit) × (Int × Unit) × Unit) (g : (Symbol × Unit) × Unit) : Simage_Nearest_0 := Simage_Nearest_0.mk x.1.1 x.2.2.1.1 x.2.2.2.1.1 x.2.2.2.2.1.1 g.1.1
noncomputable def tAimage_Nearest_0 : Tms U ((Int × Unit) × (Unit) × ((List Symbol) × Unit) × (Int × Unit) × (Int × Unit) × Unit) := tO 1 (cPair (cInt .i64) (cUnit)) (tO 7 (cK (.ptr 0 0) (cUnit)) (tO 11 (cPair (cSl 75) (cUnit)) (tO 12 (cPair (cInt .i64) (cUnit)) (tO 13 (cPair (cInt .i64) (cUnit)) (tNil)))))
noncomputable def tBimage_Nearest_0 : Bls U ((Symbol × Unit) × Unit) := bC (cPair cSymbol (cUnit)) (bNil)
noncomputable def eSimage_Nearest_0 (s : Simage_Nearest_0) : St U := { tm := [(1, .v (vO (cPair (cInt .i64) (cUnit)) (s.t1, ()))), (7, .v (vO (cK (.ptr 0 0) (cUnit)) (()))), (11, .v (vO (cPair (cSl 75) (cUnit)) (s.t11, ()))), (12, .v (vO (cPair (cInt .i64) (cUnit)) (s.t12, ()))), (13, .v (vO (cPair (cInt .i64) (cUnit)) (s.t13, ())))], hp := [.cells ((cPair cSymbol (cUnit) : Cdc U (Symbol × Unit)).enc (s.b0, ())) none] }
noncomputable def xSimage_Nearest_0 (r : (Int × Symbol)) : Ex × St U := (.exit 0, { tm := [(1, .v (vO (cPair (cInt .i64) (cUnit)) (r.1, ()))), (7, .v (vO (cK (.ptr 0 0) (cUnit)) (())))], hp := [.cells ((cPair cSymbol (cUnit) : Cdc U (Symbol × Unit)).enc (r.2, ())) none] })
noncomputable def xTimage_Nearest_0 (r : (Int × Symbol)) : Tree (Ex × St U) := .leaf (xSimage_Nearest_0 r)
noncomputable def himage_Nearest_0 : Hd := { keep := [1, 7, 11, 12, 13], xkeep := [1, 4, 5, 6, 7], own := false }
noncomputable def Eimage_Nearest : Env U := { P := Try.prog, cd := cd, fns := fns23, lps := (addL 0 himage_Nearest_0 (mkLoop tAimage_Nearest_0 tBimage_Nearest_0 Pimage_Nearest_0 (Limage_Nearest_0 none) xTimage_Nearest_0) noL), frz := fun _r => false, nt := 45, n0 := 0 }
noncomputable def Bimage_Nearest_0 : Code := (loopAt (Try.f29.body.getD .skip) 0 0).getD .skip
theorem roundimage_Nearest_0 (s : Simage_Nearest_0) : round Eimage_Nearest himage_Nearest_0 Bimage_Nearest_0 0 (eSimage_Nearest_0 s) = (Wimage_Nearest_0 s).map (sumE eSimage_Nearest_0 xSimage_Nearest_0) := by kernel_rfl
theorem lpimage_Nearest_0 : LpOk Eimage_Nearest Bimage_Nearest_0 0 := mkLoop_ok (A := tAimage_Nearest_0) (B := tBimage_Nearest_0) (f := Pimage_Nearest_0) (L := Limage_Nearest_0 none) (tO_ok (cPair_ok (cInt_ok .i64) cUnit_ok) (tO_ok (cK_ok cUnit_ok) (tO_ok (cPair_ok (cSl_ok 75) cUnit_ok) (tO_ok (cPair_ok (cInt_ok .i64) cUnit_ok) (tO_ok (cPair_ok (cInt_ok .i64) cUnit_ok) tNil_ok))))) (bC_ok (cPair_ok cSymbol_ok cUnit_ok) bNil_ok) (enc := eSimage_Nearest_0) (out := xTimage_Nearest_0) (outS := xSimage_Nearest_0) (step := Wimage_Nearest_0) (fun _ => rfl) (fun _ _ => by kernel_rfl) (by kernel_rfl) (fun _ => rfl) roundimage_Nearest_0
theorem runimage_Nearest (x : (List Symbol) × Int × Unit) (g : Unit) : execF Eimage_Nearest Try.f29 (Aimage_Nearest.enc x) (bNil.enc g) = (Timage_Nearest none x.1 x.2.1).map Rimage_Nearest := by kernel_rfl
theorem okimage_Nearest : FnOk Try.prog cd 29 Simage_Nearest := mk_ok (E := Eimage_Nearest) cd_ok fns23_ok Try.func29 (by kernel_rfl) (loops_of (addL_ok lpimage_Nearest_0 noL_ok)) (aO_ok (cSl_ok 75) (aO_ok (cInt_ok .i64) (aNil_ok))) bNil_ok (T := fun x _ => Timage_Nearest none x.1 x.2.1) (fun _ _ => rfl) runimage_Nearest
noncomputable def fns29 := addF 29 true Simage_Nearest fns23
theorem fns29_ok : ∀ f q t, fns29 f = some (q, t) → FnOk Try.prog cd f t := addF_ok okimage_Nearest fns23_ok
/-- emulator/emulatorlaw31.sample -/
noncomputable def Tlaw31_sample  : Tree Image :=
  .leaf (Image.mk ([97, 98] : List UInt8) ([99, 100, 101] : List UInt8) (5 : Int) 0 ([]))
noncomputable def law31_sample  : Option Image := (Tlaw31_sample ).run
noncomputable def Alaw31_sample : Arg U (Unit) := aNil
noncomputable def Rlaw31_sample (r : Image) : List (V U) × List (Blk U) := ([vA cImage r], [])
noncomputable def Slaw31_sample : List (V U) → List (Blk U) → Option (FnOut U) := mkSpec Alaw31_sample bNil (fun x _ => law31_sample ) Rlaw31_sample
noncomputable def Elaw31_sample : Env U := { P := Try.prog, cd := cd, fns := fns29, lps := noL, frz := fun _r => false, nt := 2, n0 := 0 }
theorem runlaw31_sample (x : Unit) (g : Unit) : execF Elaw31_sample Try.f35 (Alaw31_sample.enc x) (bNil.enc g) = (Tlaw31_sample ).map Rlaw31_sample := by kernel_rfl
theorem oklaw31_sample : FnOk Try.prog cd 35 Slaw31_sample := mk_ok (E := Elaw31_sample) cd_ok fns29_ok Try.func35 (by kernel_rfl) (noLoops_body (by kernel_rfl)) (aNil_ok) bNil_ok (T := fun x _ => Tlaw31_sample ) (fun _ _ => rfl) runlaw31_sample
noncomputable def fns35 := addF 35 true Slaw31_sample fns29
theorem fns35_ok : ∀ f q t, fns35 f = some (q, t) → FnOk Try.prog cd f t := addF_ok oklaw31_sample fns29_ok
/-- emulator/emulatorlaw31.alive -/
noncomputable def Tlaw31_alive (q : Option Nat)  : Tree Bool :=
  .opt Image (law31_sample) fun r257 =>
    .opt ((List UInt8) × Int) (image_Encode q r257) fun r258 =>
      .opt (Image × Int) (image_Decode q r258.1) fun r259 =>
        .ite (decide ((128 : Int) = (128 : Int)))
          (.ite (decide (0 ≤ (128 : Int)))
            (.ite (decide ((8 : Int) * (128 : Int) ≤ 281474976710656))
              (.opt Image (law31_sample) fun r260 =>
                .opt (Machine × Int) (image_Load q (Machine.mk (Cpu.mk (List.replicate 6 (0 : Int)) (List.replicate 2 (0 : Int)) 0 0) (List.replicate ((128 : Int)).toNat (0 : Int)) ([(66 : Int)]) (Mmu.mk false (List.replicate 16 (Page.mk (0 : Int) (0 : Int) (0 : Int) false)) 0 0) (Clock.mk false false 0 0) ([]) (Disk.mk (Drive.mk ([]) ([])) false false false 0 0 0 0 0) (Tape.mk ([]) 0 false false false false false 0 0 0 0) 0 false false 0 false) r260 (64 : Int)) fun r261 =>
                  .opt Image (law31_sample) fun r262 =>
                    .opt (Machine × Int) (image_Load q r261.1 r262 (246 : Int)) fun r263 =>
                      .opt Image (law31_sample) fun r264 =>
                        .opt (Machine × Int) (image_Load q r261.1 r264 (63 : Int)) fun r265 =>
                          .opt Image (law31_sample) fun r266 =>
                            .opt ((List UInt8) × Int × Bool) (image_Nearest q ([Symbol.mk ([97] : List UInt8) (1 : Int) 0 false, Symbol.mk ([98] : List UInt8) (1 : Int) (8 : Int) false, Symbol.mk ([99] : List UInt8) 0 (9 : Int) false]) (9 : Int)) fun r267 =>
                              .opt Image (law31_sample) fun r268 =>
                                .opt Int (image_Size r268) fun r269 =>
                                  .ite (decide (r269 = (12 : Int)))
                                    (.ite (decide (r258.2 = (0 : Int)))
                                      (.ite (decide (r259.2 = (0 : Int)))
                                        (.opt Image (law31_sample) fun r270 =>
                                          .opt Bool (ref31_SameImage q r259.1 r270) fun r271 =>
                                            .ite (r271)
                                              (.ite (decide (r261.2 = (0 : Int)))
                                                (.ite (decide ((r261.1.mem.length : Int) = (128 : Int)))
                                                  (.ite (decide (0 ≤ (32 : Int)))
                                                    (.opt Int (r261.1.mem[((32 : Int)).toNat]?) fun y272 =>
                                                      .ite (decide (y272 = (25185 : Int)))
                                                        (.ite (decide (0 ≤ (34 : Int)))
                                                          (.opt Int (r261.1.mem[((34 : Int)).toNat]?) fun y273 =>
                                                            .ite (decide (y273 = (101 : Int)))
                                                              (.ite (decide ((r261.1.bad.length : Int) = (0 : Int)))
                                                                (.ite (decide (r263.2 = (26 : Int)))
                                                                  (.ite (decide (r265.2 = (1 : Int)))
                                                                    (.opt Int (image_Check q (Image.mk r266.text r266.data r266.bss (2 : Int) r266.symbols)) fun r274 =>
                                                                      .ite (decide (r274 = (2 : Int)))
                                                                        (.ite (decide (r267.1 = ([98] : List UInt8)))
                                                                          (.ite (decide (r267.2.1 = (1 : Int)))
                                                                            (.leaf (r267.2.2))
                                                                            (.leaf (false)))
                                                                          (.leaf (false)))
                                                                        (.leaf (false)))
                                                                    (.leaf (false)))
                                                                  (.leaf (false)))
                                                                (.leaf (false)))
                                                              (.leaf (false)))
                                                          .fail)
                                                        (.leaf (false)))
                                                    .fail)
                                                  (.leaf (false)))
                                                (.leaf (false)))
                                              (.leaf (false)))
                                        (.leaf (false)))
                                      (.leaf (false)))
                                    (.leaf (false)))
              .fail)
            .fail)
          .fail
noncomputable def law31_alive (q : Option Nat)  : Option Bool := (Tlaw31_alive q ).run
theorem lelaw31_alive (k : Nat)  : Le (law31_alive (some k) ) (law31_alive none ) := (TLe.opt Le.rfl fun _ => (TLe.opt (leimage_Encode k _) fun _ => (TLe.opt (leimage_Decode k _) fun _ => (TLe.ite (TLe.ite (TLe.ite (TLe.opt Le.rfl fun _ => (TLe.opt (leimage_Load k _ _ _) fun _ => (TLe.opt Le.rfl fun _ => (TLe.opt (leimage_Load k _ _ _) fun _ => (TLe.opt Le.rfl fun _ => (TLe.opt (leimage_Load k _ _ _) fun _ => (TLe.opt Le.rfl fun _ => (TLe.opt (leimage_Nearest k _ _) fun _ => (TLe.opt Le.rfl fun _ => (TLe.opt Le.rfl fun _ => (TLe.ite (TLe.ite (TLe.ite (TLe.opt Le.rfl fun _ => (TLe.opt (leref31_SameImage k _ _) fun _ => (TLe.ite (TLe.ite (TLe.ite (TLe.ite (TLe.opt Le.rfl fun _ => (TLe.ite (TLe.ite (TLe.opt Le.rfl fun _ => (TLe.ite (TLe.ite (TLe.ite (TLe.ite (TLe.opt (leimage_Check k _) fun _ => TLe.rfl) TLe.rfl) TLe.rfl) TLe.rfl) TLe.rfl)) TLe.rfl) TLe.rfl)) TLe.rfl) TLe.rfl) TLe.rfl) TLe.rfl))) TLe.rfl) TLe.rfl) TLe.rfl))))))))))) TLe.rfl) TLe.rfl) TLe.rfl))))
noncomputable def Alaw31_alive : Arg U (Unit) := aNil
noncomputable def Rlaw31_alive (r : Bool) : List (V U) × List (Blk U) := ([vO cBool r], [])
noncomputable def Slaw31_alive : List (V U) → List (Blk U) → Option (FnOut U) := mkSpec Alaw31_alive bNil (fun x _ => law31_alive none ) Rlaw31_alive
noncomputable def Elaw31_alive : Env U := { P := Try.prog, cd := cd, fns := (addF 29 false (frzSpec Simage_Nearest) fns35), lps := noL, frz := fun _r => false, nt := 126, n0 := 0, mks := fun t => Nat.beq t 26 || Nat.beq t 27 }
theorem runlaw31_alive (x : Unit) (g : Unit) : execF Elaw31_alive Try.f15 (Alaw31_alive.enc x) (bNil.enc g) = (Tlaw31_alive none ).map Rlaw31_alive := by kernel_rfl
theorem oklaw31_alive : FnOk Try.prog cd 15 Slaw31_alive := mk_ok (E := Elaw31_alive) cd_ok (addF_ok (fnOk_frz cd_ok (mkSpec_out fun _ => rfl) okimage_Nearest) fns35_ok) Try.func15 (by kernel_rfl) (noLoops_body (by kernel_rfl)) (aNil_ok) bNil_ok (T := fun x _ => Tlaw31_alive none ) (fun _ _ => rfl) runlaw31_alive
noncomputable def fns15 := addF 15 true Slaw31_alive fns35
theorem fns15_ok : ∀ f q t, fns15 f = some (q, t) → FnOk Try.prog cd f t := addF_ok oklaw31_alive fns35_ok
/-- emulator/emulatorlaw31.ImageChecks -/
noncomputable def Tlaw31_ImageChecks (q : Option Nat) (x0 : Image) : Tree Bool :=
  .opt Bool (law31_small q x0) fun r275 =>
    .ite (!r275)
      (.leaf (true))
      (.opt Int (image_Check q x0) fun r276 =>
        .opt Int (ref31_Check q x0) fun r277 =>
          .ite (decide (r276 = r277))
            (.opt Int (image_Size x0) fun r278 =>
              .opt Int (ref31_Size x0) fun r279 =>
                .ite (decide (r278 = r279))
                  (.opt Bool (law31_alive q) fun r280 =>
                    .leaf (r280))
                  (.leaf (false)))
            (.leaf (false)))
noncomputable def law31_ImageChecks (q : Option Nat) (x0 : Image) : Option Bool := (Tlaw31_ImageChecks q x0).run
theorem lelaw31_ImageChecks (k : Nat) (x0 : Image) : Le (law31_ImageChecks (some k) x0) (law31_ImageChecks none x0) := (TLe.opt (lelaw31_small k _) fun _ => (TLe.ite TLe.rfl (TLe.opt (leimage_Check k _) fun _ => (TLe.opt (leref31_Check k _) fun _ => (TLe.ite (TLe.opt Le.rfl fun _ => (TLe.opt Le.rfl fun _ => (TLe.ite (TLe.opt (lelaw31_alive k) fun _ => TLe.rfl) TLe.rfl))) TLe.rfl)))))
noncomputable def Alaw31_ImageChecks : Arg U (Image × Unit) := aA cImage (aNil)
noncomputable def Rlaw31_ImageChecks (r : Bool) : List (V U) × List (Blk U) := ([vO cBool r], [])
noncomputable def Slaw31_ImageChecks : List (V U) → List (Blk U) → Option (FnOut U) := mkSpec Alaw31_ImageChecks bNil (fun x _ => law31_ImageChecks none x.1) Rlaw31_ImageChecks
noncomputable def Elaw31_ImageChecks : Env U := { P := Try.prog, cd := cd, fns := fns15, lps := noL, frz := fun _r => false, nt := 23, n0 := 0 }
theorem runlaw31_ImageChecks (x : Image × Unit) (g : Unit) : execF Elaw31_ImageChecks Try.f3 (Alaw31_ImageChecks.enc x) (bNil.enc g) = (Tlaw31_ImageChecks none x.1).map Rlaw31_ImageChecks := by kernel_rfl
theorem oklaw31_ImageChecks : FnOk Try.prog cd 3 Slaw31_ImageChecks := mk_ok (E := Elaw31_ImageChecks) cd_ok fns15_ok Try.func3 (by kernel_rfl) (noLoops_body (by kernel_rfl)) (aA_ok cImage_ok (aNil_ok)) bNil_ok (T := fun x _ => Tlaw31_ImageChecks none x.1) (fun _ _ => rfl) runlaw31_ImageChecks
noncomputable def fns3 := addF 3 true Slaw31_ImageChecks fns15
theorem fns3_ok : ∀ f q t, fns3 f = some (q, t) → FnOk Try.prog cd f t := addF_ok oklaw31_ImageChecks fns15_ok
/-- emulator/emulatorref03.Put -/
structure Sref03_Put_0 where
  t0 : Int
  t1 : Int
  t6 : Int
  b0 : (List Int)
noncomputable def Wref03_Put_0 (s : Sref03_Put_0) : Tree (Sref03_Put_0 ⊕ (List Int)) :=
  .ite (decide (s.t6 < s.t1))
    (.ite (decide (s.t6 < (8 : Int)))
      (.ite (decide ((256 : Int) = 0))
        .fail
        (.ite (decide ((s.b0.length + ([IntKind.wrap .u8 ((s.t0).tmod (256 : Int))]).length) * 1 ≤ 140737488355328))
          (.ite (decide ((256 : Int) = 0))
            .fail
            (.leaf (.inl (Sref03_Put_0.mk (IntKind.wrap .i64 ((s.t0).tdiv (256 : Int))) s.t1 (IntKind.wrap .i64 (s.t6 + (1 : Int))) (s.b0 ++ ([IntKind.wrap .u8 ((s.t0).tmod (256 : Int))]))))))
          .fail))
      (.leaf (.inr s.b0)))
    (.leaf (.inr s.b0))
noncomputable def Lref03_Put_0 (q : Option Nat) (s : Sref03_Put_0) : Option (List Int) := limQ q (fun s => (Wref03_Put_0 s).run) s
theorem leLref03_Put_0 (k : Nat) (s : Sref03_Put_0) : Le (Lref03_Put_0 (some k) s) (Lref03_Put_0 none s) := limQ_le (fun _ => Le.rfl) s
noncomputable def Tref03_Put (q : Option Nat) (x0 : Int) (x1 : Int) : Tree (List UInt8) :=
  .ite (decide (x0 < (0 : Int)))
    (.opt (List Int) (Lref03_Put_0 q (Sref03_Put_0.mk (0 : Int) x1 (0 : Int) ([]))) fun l281 =>
      .leaf (l281.map fun x => UInt8.ofNat x.toNat))
    (.opt (List Int) (Lref03_Put_0 q (Sref03_Put_0.mk x0 x1 (0 : Int) ([]))) fun l282 =>
      .leaf (l282.map fun x => UInt8.ofNat x.toNat))
noncomputable def ref03_Put (q : Option Nat) (x0 : Int) (x1 : Int) : Option (List UInt8) := (Tref03_Put q x0 x1).run
theorem leref03_Put (k : Nat) (x0 : Int) (x1 : Int) : Le (ref03_Put (some k) x0 x1) (ref03_Put none x0 x1) := (TLe.ite (TLe.opt (leLref03_Put_0 k _) fun _ => TLe.rfl) (TLe.opt (leLref03_Put_0 k _) fun _ => TLe.rfl))
noncomputable def Aref03_Put : Arg U (Int × Int × Unit) := aO (cInt .i64) (aO (cInt .i64) (aNil))
noncomputable def Rref03_Put (r : (List UInt8)) : List (V U) × List (Blk U) := ([vO cStr r], [])
noncomputable def Sref03_Put : List (V U) → List (Blk U) → Option (FnOut U) := mkSpec Aref03_Put bNil (fun x _ => ref03_Put none x.1 x.2.1) Rref03_Put
noncomputable def Pref03_Put_0 (x : (Int × Unit) × (Int × Unit) × (Unit) × (Int × Unit) × Unit) (g : (List Int) × Unit) : Sref03_Put_0 := Sref03_Put_0.mk x.1.1 x.2.1.1 x.2.2.2.1.1 g.1
noncomputable def tAref03_Put_0 : Tms U ((Int × Unit) × (Int × Unit) × (Unit) × (Int × Unit) × Unit) := tO 0 (cPair (cInt .i64) (cUnit)) (tO 1 (cPair (cInt .i64) (cUnit)) (tO 5 (cK (.row 0 0) (cUnit)) (tO 6 (cPair (cInt .i64) (cUnit)) (tNil))))
noncomputable def tBref03_Put_0 : Bls U ((List Int) × Unit) := bRv 5 0 (bNil)
noncomputable def eSref03_Put_0 (s : Sref03_Put_0) : St U := { tm := [(0, .v (vO (cPair (cInt .i64) (cUnit)) (s.t0, ()))), (1, .v (vO (cPair (cInt .i64) (cUnit)) (s.t1, ()))), (5, .v (vO (cK (.row 0 0) (cUnit)) (()))), (6, .v (vO (cPair (cInt .i64) (cUnit)) (s.t6, ())))], hp := [.row 5 0 s.b0] }
noncomputable def xSref03_Put_0 (r : (List Int)) : Ex × St U := (.exit 0, { tm := [(5, .v (vO (cK (.row 0 0) (cUnit)) (())))], hp := [.row 5 0 r] })
noncomputable def xTref03_Put_0 (r : (List Int)) : Tree (Ex × St U) := .leaf (xSref03_Put_0 r)
noncomputable def href03_Put_0 : Hd := { keep := [0, 1, 5, 6], xkeep := [4, 5], own := true }
noncomputable def Eref03_Put : Env U := { P := Try.prog, cd := cd, fns := fns3, lps := (addL 0 href03_Put_0 (mkLoop tAref03_Put_0 tBref03_Put_0 Pref03_Put_0 (Lref03_Put_0 none) xTref03_Put_0) noL), frz := fun _r => false, nt := 28, n0 := 0 }
noncomputable def Bref03_Put_0 : Code := (loopAt (Try.f39.body.getD .skip) 0 0).getD .skip
theorem roundref03_Put_0 (s : Sref03_Put_0) : round Eref03_Put href03_Put_0 Bref03_Put_0 0 (eSref03_Put_0 s) = (Wref03_Put_0 s).map (sumE eSref03_Put_0 xSref03_Put_0) := by kernel_rfl
theorem lpref03_Put_0 : LpOk Eref03_Put Bref03_Put_0 0 := mkLoop_ok (A := tAref03_Put_0) (B := tBref03_Put_0) (f := Pref03_Put_0) (L := Lref03_Put_0 none) (tO_ok (cPair_ok (cInt_ok .i64) cUnit_ok) (tO_ok (cPair_ok (cInt_ok .i64) cUnit_ok) (tO_ok (cK_ok cUnit_ok) (tO_ok (cPair_ok (cInt_ok .i64) cUnit_ok) tNil_ok)))) (bRv_ok bNil_ok) (enc := eSref03_Put_0) (out := xTref03_Put_0) (outS := xSref03_Put_0) (step := Wref03_Put_0) (fun _ => rfl) (fun _ _ => by kernel_rfl) (by kernel_rfl) (fun _ => rfl) roundref03_Put_0
theorem runref03_Put (x : Int × Int × Unit) (g : Unit) : execF Eref03_Put Try.f39 (Aref03_Put.enc x) (bNil.enc g) = (Tref03_Put none x.1 x.2.1).map Rref03_Put := by kernel_rfl
theorem okref03_Put : FnOk Try.prog cd 39 Sref03_Put := mk_ok (E := Eref03_Put) cd_ok fns3_ok Try.func39 (by kernel_rfl) (loops_of (addL_ok lpref03_Put_0 noL_ok)) (aO_ok (cInt_ok .i64) (aO_ok (cInt_ok .i64) (aNil_ok))) bNil_ok (T := fun x _ => Tref03_Put none x.1 x.2.1) (fun _ _ => rfl) runref03_Put
noncomputable def fns39 := addF 39 true Sref03_Put fns3
theorem fns39_ok : ∀ f q t, fns39 f = some (q, t) → FnOk Try.prog cd f t := addF_ok okref03_Put fns3_ok
/-- emulator/emulatorref03.Crc -/
structure Sref03_Crc_1 where
  t0 : (List UInt8)
  t3 : Int
  t4 : Int
  t5 : Int
noncomputable def Wref03_Crc_1 (s : Sref03_Crc_1) : Tree (Sref03_Crc_1 ⊕ ((List UInt8) × Int × Int)) :=
  .ite (decide (s.t5 < (8 : Int)))
    (.ite (decide ((2 : Int) = 0))
      .fail
      (.ite (decide (((s.t3).tmod (2 : Int)) = (1 : Int)))
        (.ite (decide (0 ≤ (1 : Int)))
          (.leaf (.inl (Sref03_Crc_1.mk s.t0 (IntKind.wrap .u32 (((BitVec.ofInt 32 ((s.t3).fdiv (2 ^ (min ((1 : Int)).toNat 32))) ^^^ BitVec.ofInt 32 (3988292384 : Int)).toNat : Int))) s.t4 (IntKind.wrap .i64 (s.t5 + (1 : Int))))))
          .fail)
        (.ite (decide (0 ≤ (1 : Int)))
          (.leaf (.inl (Sref03_Crc_1.mk s.t0 ((s.t3).fdiv (2 ^ (min ((1 : Int)).toNat 32))) s.t4 (IntKind.wrap .i64 (s.t5 + (1 : Int))))))
          .fail)))
    (.leaf (.inr (s.t0, s.t3, s.t4)))
noncomputable def Lref03_Crc_1 (q : Option Nat) (s : Sref03_Crc_1) : Option ((List UInt8) × Int × Int) := limQ q (fun s => (Wref03_Crc_1 s).run) s
theorem leLref03_Crc_1 (k : Nat) (s : Sref03_Crc_1) : Le (Lref03_Crc_1 (some k) s) (Lref03_Crc_1 none s) := limQ_le (fun _ => Le.rfl) s
structure Sref03_Crc_0 where
  t0 : (List UInt8)
  t3 : Int
  t4 : Int
noncomputable def Wref03_Crc_0 (q : Option Nat) (s : Sref03_Crc_0) : Tree (Sref03_Crc_0 ⊕ Int) :=
  .ite (decide (s.t4 < (s.t0.length : Int)))
    (.ite (decide (0 ≤ s.t4))
      (.opt UInt8 (s.t0[(s.t4).toNat]?) fun y283 =>
        .opt ((List UInt8) × Int × Int) (Lref03_Crc_1 q (Sref03_Crc_1.mk s.t0 (IntKind.wrap .u32 (((BitVec.ofInt 32 s.t3 ^^^ BitVec.ofInt 32 (IntKind.wrap .u32 (y283.toNat : Int))).toNat : Int))) s.t4 (0 : Int))) fun l284 =>
          .leaf (.inl (Sref03_Crc_0.mk l284.1 l284.2.1 (IntKind.wrap .i64 (l284.2.2 + (1 : Int))))))
      .fail)
    (.leaf (.inr s.t3))
noncomputable def Lref03_Crc_0 (q : Option Nat) (s : Sref03_Crc_0) : Option Int := limQ q (fun s => (Wref03_Crc_0 q s).run) s
theorem leLref03_Crc_0 (k : Nat) (s : Sref03_Crc_0) : Le (Lref03_Crc_0 (some k) s) (Lref03_Crc_0 none s) := limQ_le (fun s => (TLe.ite (TLe.ite (TLe.opt Le.rfl fun _ => (TLe.opt (leLref03_Crc_1 k _) fun _ => TLe.rfl)) TLe.rfl) TLe.rfl)) s
noncomputable def Tref03_Crc (q : Option Nat) (x0 : (List UInt8)) : Tree Int :=
  .opt Int (Lref03_Crc_0 q (Sref03_Crc_0.mk x0 (4294967295 : Int) (0 : Int))) fun l285 =>
    .leaf (IntKind.wrap .i64 (IntKind.wrap .u32 (((BitVec.ofInt 32 l285 ^^^ BitVec.ofInt 32 (4294967295 : Int)).toNat : Int))))
noncomputable def ref03_Crc (q : Option Nat) (x0 : (List UInt8)) : Option Int := (Tref03_Crc q x0).run
theorem leref03_Crc (k : Nat) (x0 : (List UInt8)) : Le (ref03_Crc (some k) x0) (ref03_Crc none x0) := (TLe.opt (leLref03_Crc_0 k _) fun _ => TLe.rfl)
noncomputable def Aref03_Crc : Arg U ((List UInt8) × Unit) := aO cStr (aNil)
noncomputable def Rref03_Crc (r : Int) : List (V U) × List (Blk U) := ([vO (cInt .i64) r], [])
noncomputable def Sref03_Crc : List (V U) → List (Blk U) → Option (FnOut U) := mkSpec Aref03_Crc bNil (fun x _ => ref03_Crc none x.1) Rref03_Crc
noncomputable def Pref03_Crc_0 (x : ((List UInt8) × Unit) × (Int × Unit) × (Int × Unit) × Unit) (_g : Unit) : Sref03_Crc_0 := Sref03_Crc_0.mk x.1.1 x.2.1.1 x.2.2.1.1
noncomputable def tAref03_Crc_0 : Tms U (((List UInt8) × Unit) × (Int × Unit) × (Int × Unit) × Unit) := tO 0 (cPair cStr (cUnit)) (tO 3 (cPair (cInt .u32) (cUnit)) (tO 4 (cPair (cInt .i64) (cUnit)) (tNil)))
noncomputable def tBref03_Crc_0 : Bls U (Unit) := bNil
noncomputable def eSref03_Crc_0 (s : Sref03_Crc_0) : St U := { tm := [(0, .v (vO (cPair cStr (cUnit)) (s.t0, ()))), (3, .v (vO (cPair (cInt .u32) (cUnit)) (s.t3, ()))), (4, .v (vO (cPair (cInt .i64) (cUnit)) (s.t4, ())))], hp := [] }
noncomputable def xSref03_Crc_0 (r : Int) : Ex × St U := (.exit 0, { tm := [(3, .v (vO (cPair (cInt .u32) (cUnit)) (r, ())))], hp := [] })
noncomputable def xTref03_Crc_0 (r : Int) : Tree (Ex × St U) := .leaf (xSref03_Crc_0 r)
noncomputable def href03_Crc_0 : Hd := { keep := [0, 3, 4], xkeep := [2, 3], own := false }
noncomputable def Pref03_Crc_1 (x : ((List UInt8) × Unit) × (Int × Unit) × (Int × Unit) × (Int × Unit) × Unit) (_g : Unit) : Sref03_Crc_1 := Sref03_Crc_1.mk x.1.1 x.2.1.1 x.2.2.1.1 x.2.2.2.1.1
noncomputable def tAref03_Crc_1 : Tms U (((List UInt8) × Unit) × (Int × Unit) × (Int × Unit) × (Int × Unit) × Unit) := tO 0 (cPair cStr (cUnit)) (tO 3 (cPair (cInt .u32) (cUnit)) (tO 4 (cPair (cInt .i64) (cUnit)) (tO 5 (cPair (cInt .i64) (cUnit)) (tNil))))
noncomputable def tBref03_Crc_1 : Bls U (Unit) := bNil
noncomputable def eSref03_Crc_1 (s : Sref03_Crc_1) : St U := { tm := [(0, .v (vO (cPair cStr (cUnit)) (s.t0, ()))), (3, .v (vO (cPair (cInt .u32) (cUnit)) (s.t3, ()))), (4, .v (vO (cPair (cInt .i64) (cUnit)) (s.t4, ()))), (5, .v (vO (cPair (cInt .i64) (cUnit)) (s.t5, ())))], hp := [] }
noncomputable def xSref03_Crc_1 (r : ((List UInt8) × Int × Int)) : Ex × St U := (.exit 2, { tm := [(0, .v (vO (cPair cStr (cUnit)) (r.1, ()))), (3, .v (vO (cPair (cInt .u32) (cUnit)) (r.2.1, ()))), (4, .v (vO (cPair (cInt .i64) (cUnit)) (r.2.2, ())))], hp := [] })
noncomputable def xTref03_Crc_1 (r : ((List UInt8) × Int × Int)) : Tree (Ex × St U) := .leaf (xSref03_Crc_1 r)
noncomputable def href03_Crc_1 : Hd := { keep := [0, 3, 4, 5], xkeep := [0, 2, 3, 4], own := false }
noncomputable def Eref03_Crc : Env U := { P := Try.prog, cd := cd, fns := fns39, lps := (addL 0 href03_Crc_0 (mkLoop tAref03_Crc_0 tBref03_Crc_0 Pref03_Crc_0 (Lref03_Crc_0 none) xTref03_Crc_0) (addL 1 href03_Crc_1 (mkLoop tAref03_Crc_1 tBref03_Crc_1 Pref03_Crc_1 (Lref03_Crc_1 none) xTref03_Crc_1) noL)), frz := fun _r => false, nt := 33, n0 := 0 }
noncomputable def Bref03_Crc_0 : Code := (loopAt (Try.f41.body.getD .skip) 0 0).getD .skip
theorem roundref03_Crc_0 (s : Sref03_Crc_0) : round Eref03_Crc href03_Crc_0 Bref03_Crc_0 0 (eSref03_Crc_0 s) = (Wref03_Crc_0 none s).map (sumE eSref03_Crc_0 xSref03_Crc_0) := by kernel_rfl
theorem lpref03_Crc_0 : LpOk Eref03_Crc Bref03_Crc_0 0 := mkLoop_ok (A := tAref03_Crc_0) (B := tBref03_Crc_0) (f := Pref03_Crc_0) (L := Lref03_Crc_0 none) (tO_ok (cPair_ok cStr_ok cUnit_ok) (tO_ok (cPair_ok (cInt_ok .u32) cUnit_ok) (tO_ok (cPair_ok (cInt_ok .i64) cUnit_ok) tNil_ok))) bNil_ok (enc := eSref03_Crc_0) (out := xTref03_Crc_0) (outS := xSref03_Crc_0) (step := Wref03_Crc_0 none) (fun _ => rfl) (fun _ _ => by kernel_rfl) (by kernel_rfl) (fun _ => rfl) roundref03_Crc_0
noncomputable def Bref03_Crc_1 : Code := (loopAt (Try.f41.body.getD .skip) 0 1).getD .skip
theorem roundref03_Crc_1 (s : Sref03_Crc_1) : round Eref03_Crc href03_Crc_1 Bref03_Crc_1 1 (eSref03_Crc_1 s) = (Wref03_Crc_1 s).map (sumE eSref03_Crc_1 xSref03_Crc_1) := by kernel_rfl
theorem lpref03_Crc_1 : LpOk Eref03_Crc Bref03_Crc_1 1 := mkLoop_ok (A := tAref03_Crc_1) (B := tBref03_Crc_1) (f := Pref03_Crc_1) (L := Lref03_Crc_1 none) (tO_ok (cPair_ok cStr_ok cUnit_ok) (tO_ok (cPair_ok (cInt_ok .u32) cUnit_ok) (tO_ok (cPair_ok (cInt_ok .i64) cUnit_ok) (tO_ok (cPair_ok (cInt_ok .i64) cUnit_ok) tNil_ok)))) bNil_ok (enc := eSref03_Crc_1) (out := xTref03_Crc_1) (outS := xSref03_Crc_1) (step := Wref03_Crc_1) (fun _ => rfl) (fun _ _ => by kernel_rfl) (by kernel_rfl) (fun _ => rfl) roundref03_Crc_1
theorem runref03_Crc (x : (List UInt8) × Unit) (g : Unit) : execF Eref03_Crc Try.f41 (Aref03_Crc.enc x) (bNil.enc g) = (Tref03_Crc none x.1).map Rref03_Crc := by kernel_rfl
theorem okref03_Crc : FnOk Try.prog cd 41 Sref03_Crc := mk_ok (E := Eref03_Crc) cd_ok fns39_ok Try.func41 (by kernel_rfl) (loops_of (addL_ok lpref03_Crc_0 (addL_ok lpref03_Crc_1 noL_ok))) (aO_ok cStr_ok (aNil_ok)) bNil_ok (T := fun x _ => Tref03_Crc none x.1) (fun _ _ => rfl) runref03_Crc
noncomputable def fns41 := addF 41 true Sref03_Crc fns39
theorem fns41_ok : ∀ f q t, fns41 f = some (q, t) → FnOk Try.prog cd f t := addF_ok okref03_Crc fns39_ok
/-- emulator/emulatorref03.Seal -/
noncomputable def Tref03_Seal (q : Option Nat) (x0 : (List UInt8)) : Tree (List UInt8) :=
  .opt Int (ref03_Crc q x0) fun r286 =>
    .opt (List UInt8) (ref03_Put q r286 (4 : Int)) fun r287 =>
      .ite (decide (x0.length + r287.length ≤ 9223372036854775807))
        (.leaf (x0 ++ r287))
        .fail
noncomputable def ref03_Seal (q : Option Nat) (x0 : (List UInt8)) : Option (List UInt8) := (Tref03_Seal q x0).run
theorem leref03_Seal (k : Nat) (x0 : (List UInt8)) : Le (ref03_Seal (some k) x0) (ref03_Seal none x0) := (TLe.opt (leref03_Crc k _) fun _ => (TLe.opt (leref03_Put k _ _) fun _ => TLe.rfl))
noncomputable def Aref03_Seal : Arg U ((List UInt8) × Unit) := aO cStr (aNil)
noncomputable def Rref03_Seal (r : (List UInt8)) : List (V U) × List (Blk U) := ([vO cStr r], [])
noncomputable def Sref03_Seal : List (V U) → List (Blk U) → Option (FnOut U) := mkSpec Aref03_Seal bNil (fun x _ => ref03_Seal none x.1) Rref03_Seal
noncomputable def Eref03_Seal : Env U := { P := Try.prog, cd := cd, fns := fns41, lps := noL, frz := fun _r => false, nt := 8, n0 := 0 }
theorem runref03_Seal (x : (List UInt8) × Unit) (g : Unit) : execF Eref03_Seal Try.f18 (Aref03_Seal.enc x) (bNil.enc g) = (Tref03_Seal none x.1).map Rref03_Seal := by kernel_rfl
theorem okref03_Seal : FnOk Try.prog cd 18 Sref03_Seal := mk_ok (E := Eref03_Seal) cd_ok fns41_ok Try.func18 (by kernel_rfl) (noLoops_body (by kernel_rfl)) (aO_ok cStr_ok (aNil_ok)) bNil_ok (T := fun x _ => Tref03_Seal none x.1) (fun _ _ => rfl) runref03_Seal
noncomputable def fns18 := addF 18 true Sref03_Seal fns41
theorem fns18_ok : ∀ f q t, fns18 f = some (q, t) → FnOk Try.prog cd f t := addF_ok okref03_Seal fns41_ok
/-- emulator/emulatorref03.PutText -/
noncomputable def Tref03_PutText (q : Option Nat) (x0 : (List UInt8)) : Tree (List UInt8) :=
  .ite (decide ((65535 : Int) < (x0.length : Int)))
    (.ite (decide (0 ≤ (65535 : Int)))
      (.ite (decide ((65535 : Int) ≤ ((x0.length : Nat) : Int)))
        (.opt (List UInt8) (ref03_Put q (((x0.drop (0)).take (((65535 : Int)).toNat - 0)).length : Int) (2 : Int)) fun r288 =>
          .ite (decide (r288.length + ((x0.drop (0)).take (((65535 : Int)).toNat - 0)).length ≤ 9223372036854775807))
            (.leaf (r288 ++ ((x0.drop (0)).take (((65535 : Int)).toNat - 0))))
            .fail)
        .fail)
      .fail)
    (.opt (List UInt8) (ref03_Put q (x0.length : Int) (2 : Int)) fun r289 =>
      .ite (decide (r289.length + x0.length ≤ 9223372036854775807))
        (.leaf (r289 ++ x0))
        .fail)
noncomputable def ref03_PutText (q : Option Nat) (x0 : (List UInt8)) : Option (List UInt8) := (Tref03_PutText q x0).run
theorem leref03_PutText (k : Nat) (x0 : (List UInt8)) : Le (ref03_PutText (some k) x0) (ref03_PutText none x0) := (TLe.ite (TLe.ite (TLe.ite (TLe.opt (leref03_Put k _ _) fun _ => TLe.rfl) TLe.rfl) TLe.rfl) (TLe.opt (leref03_Put k _ _) fun _ => TLe.rfl))
noncomputable def Aref03_PutText : Arg U ((List UInt8) × Unit) := aO cStr (aNil)
noncomputable def Rref03_PutText (r : (List UInt8)) : List (V U) × List (Blk U) := ([vO cStr r], [])
noncomputable def Sref03_PutText : List (V U) → List (Blk U) → Option (FnOut U) := mkSpec Aref03_PutText bNil (fun x _ => ref03_PutText none x.1) Rref03_PutText
noncomputable def Eref03_PutText : Env U := { P := Try.prog, cd := cd, fns := fns18, lps := noL, frz := fun _r => false, nt := 13, n0 := 0 }
theorem runref03_PutText (x : (List UInt8) × Unit) (g : Unit) : execF Eref03_PutText Try.f38 (Aref03_PutText.enc x) (bNil.enc g) = (Tref03_PutText none x.1).map Rref03_PutText := by kernel_rfl
theorem okref03_PutText : FnOk Try.prog cd 38 Sref03_PutText := mk_ok (E := Eref03_PutText) cd_ok fns18_ok Try.func38 (by kernel_rfl) (noLoops_body (by kernel_rfl)) (aO_ok cStr_ok (aNil_ok)) bNil_ok (T := fun x _ => Tref03_PutText none x.1) (fun _ _ => rfl) runref03_PutText
noncomputable def fns38 := addF 38 true Sref03_PutText fns18
theorem fns38_ok : ∀ f q t, fns38 f = some (q, t) → FnOk Try.prog cd f t := addF_ok okref03_PutText fns18_ok
/-- emulator/emulatorref28.bit -/
noncomputable def Tref28_bit (q : Option Nat) (x0 : Bool) : Tree (List UInt8) :=
  .ite (x0)
    (.opt (List UInt8) (ref03_Put q (1 : Int) (1 : Int)) fun r290 =>
      .leaf (r290))
    (.opt (List UInt8) (ref03_Put q (0 : Int) (1 : Int)) fun r291 =>
      .leaf (r291))
noncomputable def ref28_bit (q : Option Nat) (x0 : Bool) : Option (List UInt8) := (Tref28_bit q x0).run
theorem leref28_bit (k : Nat) (x0 : Bool) : Le (ref28_bit (some k) x0) (ref28_bit none x0) := (TLe.ite (TLe.opt (leref03_Put k _ _) fun _ => TLe.rfl) (TLe.opt (leref03_Put k _ _) fun _ => TLe.rfl))
noncomputable def Aref28_bit : Arg U (Bool × Unit) := aO cBool (aNil)
noncomputable def Rref28_bit (r : (List UInt8)) : List (V U) × List (Blk U) := ([vO cStr r], [])
noncomputable def Sref28_bit : List (V U) → List (Blk U) → Option (FnOut U) := mkSpec Aref28_bit bNil (fun x _ => ref28_bit none x.1) Rref28_bit
noncomputable def Eref28_bit : Env U := { P := Try.prog, cd := cd, fns := fns38, lps := noL, frz := fun _r => false, nt := 6, n0 := 0 }
theorem runref28_bit (x : Bool × Unit) (g : Unit) : execF Eref28_bit Try.f65 (Aref28_bit.enc x) (bNil.enc g) = (Tref28_bit none x.1).map Rref28_bit := by kernel_rfl
theorem okref28_bit : FnOk Try.prog cd 65 Sref28_bit := mk_ok (E := Eref28_bit) cd_ok fns38_ok Try.func65 (by kernel_rfl) (noLoops_body (by kernel_rfl)) (aO_ok cBool_ok (aNil_ok)) bNil_ok (T := fun x _ => Tref28_bit none x.1) (fun _ _ => rfl) runref28_bit
noncomputable def fns65 := addF 65 true Sref28_bit fns38
theorem fns65_ok : ∀ f q t, fns65 f = some (q, t) → FnOk Try.prog cd f t := addF_ok okref28_bit fns38_ok
/-- emulator/emulatorref28.PutSymbols -/
structure Sref28_PutSymbols_0 where
  t0 : (List Symbol)
  t3 : (List UInt8)
  t4 : Int
noncomputable def Wref28_PutSymbols_0 (q : Option Nat) (s : Sref28_PutSymbols_0) : Tree (Sref28_PutSymbols_0 ⊕ (List UInt8)) :=
  .ite (decide (s.t4 < (s.t0.length : Int)))
    (.ite (decide (0 ≤ s.t4))
      (.opt Symbol (s.t0[(s.t4).toNat]?) fun y293 =>
        .opt (List UInt8) (ref03_PutText q y293.name) fun r294 =>
          .ite (decide (0 ≤ s.t4))
            (.opt Symbol (s.t0[(s.t4).toNat]?) fun y295 =>
              .opt (List UInt8) (ref03_Put q y295.section_ (1 : Int)) fun r296 =>
                .ite (decide (r294.length + r296.length ≤ 9223372036854775807))
                  (.ite (decide (0 ≤ s.t4))
                    (.opt Symbol (s.t0[(s.t4).toNat]?) fun y297 =>
                      .opt (List UInt8) (ref03_Put q y297.value (2 : Int)) fun r298 =>
                        .ite (decide ((r294 ++ r296).length + r298.length ≤ 9223372036854775807))
                          (.ite (decide (0 ≤ s.t4))
                            (.opt Symbol (s.t0[(s.t4).toNat]?) fun y299 =>
                              .opt (List UInt8) (ref28_bit q y299.global) fun r300 =>
                                .ite (decide (((r294 ++ r296) ++ r298).length + r300.length ≤ 9223372036854775807))
                                  (.ite (decide (s.t3.length + (((r294 ++ r296) ++ r298) ++ r300).length ≤ 9223372036854775807))
                                    (.leaf (.inl (Sref28_PutSymbols_0.mk s.t0 (s.t3 ++ (((r294 ++ r296) ++ r298) ++ r300)) (IntKind.wrap .i64 (s.t4 + (1 : Int))))))
                                    .fail)
                                  .fail)
                            .fail)
                          .fail)
                    .fail)
                  .fail)
            .fail)
      .fail)
    (.leaf (.inr s.t3))
noncomputable def Lref28_PutSymbols_0 (q : Option Nat) (s : Sref28_PutSymbols_0) : Option (List UInt8) := limQ q (fun s => (Wref28_PutSymbols_0 q s).run) s
theorem leLref28_PutSymbols_0 (k : Nat) (s : Sref28_PutSymbols_0) : Le (Lref28_PutSymbols_0 (some k) s) (Lref28_PutSymbols_0 none s) := limQ_le (fun s => (TLe.ite (TLe.ite (TLe.opt Le.rfl fun _ => (TLe.opt (leref03_PutText k _) fun _ => (TLe.ite (TLe.opt Le.rfl fun _ => (TLe.opt (leref03_Put k _ _) fun _ => (TLe.ite (TLe.ite (TLe.opt Le.rfl fun _ => (TLe.opt (leref03_Put k _ _) fun _ => (TLe.ite (TLe.ite (TLe.opt Le.rfl fun _ => (TLe.opt (leref28_bit k _) fun _ => TLe.rfl)) TLe.rfl) TLe.rfl))) TLe.rfl) TLe.rfl))) TLe.rfl))) TLe.rfl) TLe.rfl)) s
noncomputable def Tref28_PutSymbols (q : Option Nat) (x0 : (List Symbol)) : Tree (List UInt8) :=
  .opt (List UInt8) (ref03_Put q (x0.length : Int) (2 : Int)) fun r292 =>
    .opt (List UInt8) (Lref28_PutSymbols_0 q (Sref28_PutSymbols_0.mk x0 r292 (0 : Int))) fun l301 =>
      .leaf (l301)
noncomputable def ref28_PutSymbols (q : Option Nat) (x0 : (List Symbol)) : Option (List UInt8) := (Tref28_PutSymbols q x0).run
theorem leref28_PutSymbols (k : Nat) (x0 : (List Symbol)) : Le (ref28_PutSymbols (some k) x0) (ref28_PutSymbols none x0) := (TLe.opt (leref03_Put k _ _) fun _ => (TLe.opt (leLref28_PutSymbols_0 k _) fun _ => TLe.rfl))
noncomputable def Aref28_PutSymbols : Arg U ((List Symbol) × Unit) := aO (cSl 75) (aNil)
noncomputable def Rref28_PutSymbols (r : (List UInt8)) : List (V U) × List (Blk U) := ([vO cStr r], [])
noncomputable def Sref28_PutSymbols : List (V U) → List (Blk U) → Option (FnOut U) := mkSpec Aref28_PutSymbols bNil (fun x _ => ref28_PutSymbols none x.1) Rref28_PutSymbols
noncomputable def Pref28_PutSymbols_0 (x : ((List Symbol) × Unit) × ((List UInt8) × Unit) × (Int × Unit) × Unit) (_g : Unit) : Sref28_PutSymbols_0 := Sref28_PutSymbols_0.mk x.1.1 x.2.1.1 x.2.2.1.1
noncomputable def tAref28_PutSymbols_0 : Tms U (((List Symbol) × Unit) × ((List UInt8) × Unit) × (Int × Unit) × Unit) := tO 0 (cPair (cSl 75) (cUnit)) (tO 3 (cPair cStr (cUnit)) (tO 4 (cPair (cInt .i64) (cUnit)) (tNil)))
noncomputable def tBref28_PutSymbols_0 : Bls U (Unit) := bNil
noncomputable def eSref28_PutSymbols_0 (s : Sref28_PutSymbols_0) : St U := { tm := [(0, .v (vO (cPair (cSl 75) (cUnit)) (s.t0, ()))), (3, .v (vO (cPair cStr (cUnit)) (s.t3, ()))), (4, .v (vO (cPair (cInt .i64) (cUnit)) (s.t4, ())))], hp := [] }
noncomputable def xSref28_PutSymbols_0 (r : (List UInt8)) : Ex × St U := (.exit 0, { tm := [(3, .v (vO (cPair cStr (cUnit)) (r, ())))], hp := [] })
noncomputable def xTref28_PutSymbols_0 (r : (List UInt8)) : Tree (Ex × St U) := .leaf (xSref28_PutSymbols_0 r)
noncomputable def href28_PutSymbols_0 : Hd := { keep := [0, 3, 4], xkeep := [2, 3], own := false }
noncomputable def Eref28_PutSymbols : Env U := { P := Try.prog, cd := cd, fns := fns65, lps := (addL 0 href28_PutSymbols_0 (mkLoop tAref28_PutSymbols_0 tBref28_PutSymbols_0 Pref28_PutSymbols_0 (Lref28_PutSymbols_0 none) xTref28_PutSymbols_0) noL), frz := fun _r => false, nt := 44, n0 := 0 }
noncomputable def Bref28_PutSymbols_0 : Code := (loopAt (Try.f40.body.getD .skip) 0 0).getD .skip
theorem roundref28_PutSymbols_0 (s : Sref28_PutSymbols_0) : round Eref28_PutSymbols href28_PutSymbols_0 Bref28_PutSymbols_0 0 (eSref28_PutSymbols_0 s) = (Wref28_PutSymbols_0 none s).map (sumE eSref28_PutSymbols_0 xSref28_PutSymbols_0) := by kernel_rfl
theorem lpref28_PutSymbols_0 : LpOk Eref28_PutSymbols Bref28_PutSymbols_0 0 := mkLoop_ok (A := tAref28_PutSymbols_0) (B := tBref28_PutSymbols_0) (f := Pref28_PutSymbols_0) (L := Lref28_PutSymbols_0 none) (tO_ok (cPair_ok (cSl_ok 75) cUnit_ok) (tO_ok (cPair_ok cStr_ok cUnit_ok) (tO_ok (cPair_ok (cInt_ok .i64) cUnit_ok) tNil_ok))) bNil_ok (enc := eSref28_PutSymbols_0) (out := xTref28_PutSymbols_0) (outS := xSref28_PutSymbols_0) (step := Wref28_PutSymbols_0 none) (fun _ => rfl) (fun _ _ => by kernel_rfl) (by kernel_rfl) (fun _ => rfl) roundref28_PutSymbols_0
theorem runref28_PutSymbols (x : (List Symbol) × Unit) (g : Unit) : execF Eref28_PutSymbols Try.f40 (Aref28_PutSymbols.enc x) (bNil.enc g) = (Tref28_PutSymbols none x.1).map Rref28_PutSymbols := by kernel_rfl
theorem okref28_PutSymbols : FnOk Try.prog cd 40 Sref28_PutSymbols := mk_ok (E := Eref28_PutSymbols) cd_ok fns65_ok Try.func40 (by kernel_rfl) (loops_of (addL_ok lpref28_PutSymbols_0 noL_ok)) (aO_ok (cSl_ok 75) (aNil_ok)) bNil_ok (T := fun x _ => Tref28_PutSymbols none x.1) (fun _ _ => rfl) runref28_PutSymbols
noncomputable def fns40 := addF 40 true Sref28_PutSymbols fns65
theorem fns40_ok : ∀ f q t, fns40 f = some (q, t) → FnOk Try.prog cd f t := addF_ok okref28_PutSymbols fns65_ok
/-- emulator/emulatorref31.Encode -/
noncomputable def Tref31_Encode (q : Option Nat) (x0 : Image) : Tree ((List UInt8) × Int) :=
  .opt Int (ref31_Check q x0) fun r302 =>
    .ite (!decide (r302 = (0 : Int)))
      (.leaf ((([] : List UInt8), r302)))
      (.opt (List UInt8) (ref03_PutText q x0.text) fun r303 =>
        .ite (decide (([73, 77, 71, 49] : List UInt8).length + r303.length ≤ 9223372036854775807))
          (.opt (List UInt8) (ref03_PutText q x0.data) fun r304 =>
            .ite (decide ((([73, 77, 71, 49] : List UInt8) ++ r303).length + r304.length ≤ 9223372036854775807))
              (.opt (List UInt8) (ref03_Put q x0.bss (2 : Int)) fun r305 =>
                .ite (decide (((([73, 77, 71, 49] : List UInt8) ++ r303) ++ r304).length + r305.length ≤ 9223372036854775807))
                  (.opt (List UInt8) (ref03_Put q x0.entry (2 : Int)) fun r306 =>
                    .ite (decide ((((([73, 77, 71, 49] : List UInt8) ++ r303) ++ r304) ++ r305).length + r306.length ≤ 9223372036854775807))
                      (.opt (List UInt8) (ref28_PutSymbols q x0.symbols) fun r307 =>
                        .ite (decide (((((([73, 77, 71, 49] : List UInt8) ++ r303) ++ r304) ++ r305) ++ r306).length + r307.length ≤ 9223372036854775807))
                          (.opt (List UInt8) (ref03_Seal q (((((([73, 77, 71, 49] : List UInt8) ++ r303) ++ r304) ++ r305) ++ r306) ++ r307)) fun r308 =>
                            .leaf ((r308, (0 : Int))))
                          .fail)
                      .fail)
                  .fail)
              .fail)
          .fail)
noncomputable def ref31_Encode (q : Option Nat) (x0 : Image) : Option ((List UInt8) × Int) := (Tref31_Encode q x0).run
theorem leref31_Encode (k : Nat) (x0 : Image) : Le (ref31_Encode (some k) x0) (ref31_Encode none x0) := (TLe.opt (leref31_Check k _) fun _ => (TLe.ite TLe.rfl (TLe.opt (leref03_PutText k _) fun _ => (TLe.ite (TLe.opt (leref03_PutText k _) fun _ => (TLe.ite (TLe.opt (leref03_Put k _ _) fun _ => (TLe.ite (TLe.opt (leref03_Put k _ _) fun _ => (TLe.ite (TLe.opt (leref28_PutSymbols k _) fun _ => (TLe.ite (TLe.opt (leref03_Seal k _) fun _ => TLe.rfl) TLe.rfl)) TLe.rfl)) TLe.rfl)) TLe.rfl)) TLe.rfl))))
noncomputable def Aref31_Encode : Arg U (Image × Unit) := aA cImage (aNil)
noncomputable def Rref31_Encode (r : ((List UInt8) × Int)) : List (V U) × List (Blk U) := ([vO cStr r.1, vO (cInt .i64) r.2], [])
noncomputable def Sref31_Encode : List (V U) → List (Blk U) → Option (FnOut U) := mkSpec Aref31_Encode bNil (fun x _ => ref31_Encode none x.1) Rref31_Encode
noncomputable def Eref31_Encode : Env U := { P := Try.prog, cd := cd, fns := fns40, lps := noL, frz := fun _r => false, nt := 31, n0 := 0 }
theorem runref31_Encode (x : Image × Unit) (g : Unit) : execF Eref31_Encode Try.f17 (Aref31_Encode.enc x) (bNil.enc g) = (Tref31_Encode none x.1).map Rref31_Encode := by kernel_rfl
theorem okref31_Encode : FnOk Try.prog cd 17 Sref31_Encode := mk_ok (E := Eref31_Encode) cd_ok fns40_ok Try.func17 (by kernel_rfl) (noLoops_body (by kernel_rfl)) (aA_ok cImage_ok (aNil_ok)) bNil_ok (T := fun x _ => Tref31_Encode none x.1) (fun _ _ => rfl) runref31_Encode
noncomputable def fns17 := addF 17 true Sref31_Encode fns40
theorem fns17_ok : ∀ f q t, fns17 f = some (q, t) → FnOk Try.prog cd f t := addF_ok okref31_Encode fns40_ok
/-- emulator/emulatorlaw31.ImageEncodes -/
noncomputable def Tlaw31_ImageEncodes (q : Option Nat) (x0 : Image) : Tree Bool :=
  .opt Bool (law31_small q x0) fun r309 =>
    .ite (!r309)
      (.opt Bool (law31_alive q) fun r310 =>
        .leaf (r310))
      (.opt ((List UInt8) × Int) (image_Encode q x0) fun r311 =>
        .opt ((List UInt8) × Int) (ref31_Encode q x0) fun r312 =>
          .ite (decide (r311.1 = r312.1))
            (.ite (decide (r311.2 = r312.2))
              (.opt Bool (law31_alive q) fun r313 =>
                .leaf (r313))
              (.leaf (false)))
            (.leaf (false)))
noncomputable def law31_ImageEncodes (q : Option Nat) (x0 : Image) : Option Bool := (Tlaw31_ImageEncodes q x0).run
theorem lelaw31_ImageEncodes (k : Nat) (x0 : Image) : Le (law31_ImageEncodes (some k) x0) (law31_ImageEncodes none x0) := (TLe.opt (lelaw31_small k _) fun _ => (TLe.ite (TLe.opt (lelaw31_alive k) fun _ => TLe.rfl) (TLe.opt (leimage_Encode k _) fun _ => (TLe.opt (leref31_Encode k _) fun _ => (TLe.ite (TLe.ite (TLe.opt (lelaw31_alive k) fun _ => TLe.rfl) TLe.rfl) TLe.rfl)))))
noncomputable def Alaw31_ImageEncodes : Arg U (Image × Unit) := aA cImage (aNil)
noncomputable def Rlaw31_ImageEncodes (r : Bool) : List (V U) × List (Blk U) := ([vO cBool r], [])
noncomputable def Slaw31_ImageEncodes : List (V U) → List (Blk U) → Option (FnOut U) := mkSpec Alaw31_ImageEncodes bNil (fun x _ => law31_ImageEncodes none x.1) Rlaw31_ImageEncodes
noncomputable def Elaw31_ImageEncodes : Env U := { P := Try.prog, cd := cd, fns := fns17, lps := noL, frz := fun _r => false, nt := 32, n0 := 0 }
theorem runlaw31_ImageEncodes (x : Image × Unit) (g : Unit) : execF Elaw31_ImageEncodes Try.f4 (Alaw31_ImageEncodes.enc x) (bNil.enc g) = (Tlaw31_ImageEncodes none x.1).map Rlaw31_ImageEncodes := by kernel_rfl
theorem oklaw31_ImageEncodes : FnOk Try.prog cd 4 Slaw31_ImageEncodes := mk_ok (E := Elaw31_ImageEncodes) cd_ok fns17_ok Try.func4 (by kernel_rfl) (noLoops_body (by kernel_rfl)) (aA_ok cImage_ok (aNil_ok)) bNil_ok (T := fun x _ => Tlaw31_ImageEncodes none x.1) (fun _ _ => rfl) runlaw31_ImageEncodes
noncomputable def fns4 := addF 4 true Slaw31_ImageEncodes fns17
theorem fns4_ok : ∀ f q t, fns4 f = some (q, t) → FnOk Try.prog cd f t := addF_ok oklaw31_ImageEncodes fns17_ok
/-- emulator/emulatorref03.Open -/
noncomputable def Tref03_Open (q : Option Nat) (x0 : (List UInt8)) : Tree ((List UInt8) × Int) :=
  .ite (decide ((x0.length : Int) < (4 : Int)))
    (.leaf ((([] : List UInt8), (8 : Int))))
    (.ite (decide (0 ≤ IntKind.wrap .i64 ((x0.length : Int) - (4 : Int))))
      (.ite (decide (IntKind.wrap .i64 ((x0.length : Int) - (4 : Int)) ≤ ((x0.length : Nat) : Int)))
        (.opt Int (ref03_Crc q ((x0.drop (0)).take ((IntKind.wrap .i64 ((x0.length : Int) - (4 : Int))).toNat - 0))) fun r314 =>
          .opt (List UInt8) (ref03_Put q r314 (4 : Int)) fun r315 =>
            .ite (decide (0 ≤ IntKind.wrap .i64 ((x0.length : Int) - (4 : Int))))
              (.ite (decide (IntKind.wrap .i64 ((x0.length : Int) - (4 : Int)) ≤ ((x0.length : Nat) : Int)))
                (.ite (!decide (r315 = ((x0.drop ((IntKind.wrap .i64 ((x0.length : Int) - (4 : Int))).toNat)).take (x0.length - (IntKind.wrap .i64 ((x0.length : Int) - (4 : Int))).toNat))))
                  (.leaf ((([] : List UInt8), (10 : Int))))
                  (.leaf (((x0.drop (0)).take ((IntKind.wrap .i64 ((x0.length : Int) - (4 : Int))).toNat - 0), (0 : Int)))))
                .fail)
              .fail)
        .fail)
      .fail)
noncomputable def ref03_Open (q : Option Nat) (x0 : (List UInt8)) : Option ((List UInt8) × Int) := (Tref03_Open q x0).run
theorem leref03_Open (k : Nat) (x0 : (List UInt8)) : Le (ref03_Open (some k) x0) (ref03_Open none x0) := (TLe.ite TLe.rfl (TLe.ite (TLe.ite (TLe.opt (leref03_Crc k _) fun _ => (TLe.opt (leref03_Put k _ _) fun _ => TLe.rfl)) TLe.rfl) TLe.rfl))
noncomputable def Aref03_Open : Arg U ((List UInt8) × Unit) := aO cStr (aNil)
noncomputable def Rref03_Open (r : ((List UInt8) × Int)) : List (V U) × List (Blk U) := ([vO cStr r.1, vO (cInt .i64) r.2], [])
noncomputable def Sref03_Open : List (V U) → List (Blk U) → Option (FnOut U) := mkSpec Aref03_Open bNil (fun x _ => ref03_Open none x.1) Rref03_Open
noncomputable def Eref03_Open : Env U := { P := Try.prog, cd := cd, fns := fns4, lps := noL, frz := fun _r => false, nt := 23, n0 := 0 }
theorem runref03_Open (x : (List UInt8) × Unit) (g : Unit) : execF Eref03_Open Try.f46 (Aref03_Open.enc x) (bNil.enc g) = (Tref03_Open none x.1).map Rref03_Open := by kernel_rfl
theorem okref03_Open : FnOk Try.prog cd 46 Sref03_Open := mk_ok (E := Eref03_Open) cd_ok fns4_ok Try.func46 (by kernel_rfl) (noLoops_body (by kernel_rfl)) (aO_ok cStr_ok (aNil_ok)) bNil_ok (T := fun x _ => Tref03_Open none x.1) (fun _ _ => rfl) runref03_Open
noncomputable def fns46 := addF 46 true Sref03_Open fns4
theorem fns46_ok : ∀ f q t, fns46 f = some (q, t) → FnOk Try.prog cd f t := addF_ok okref03_Open fns4_ok
/-- emulator/emulatorref03.Get -/
structure Sref03_Get_0 where
  t0 : (List UInt8)
  t1 : Int
  t2 : Int
  t9 : Int
  t10 : Int
noncomputable def Wref03_Get_0 (s : Sref03_Get_0) : Tree (Sref03_Get_0 ⊕ (Int × Int × Int)) :=
  .ite (decide (s.t1 ≤ s.t10))
    (.ite (decide (0 ≤ s.t10))
      (.opt UInt8 (s.t0[(s.t10).toNat]?) fun y316 =>
        .leaf (.inl (Sref03_Get_0.mk s.t0 s.t1 s.t2 (IntKind.wrap .i64 ((IntKind.wrap .i64 ((256 : Int) * s.t9)) + (IntKind.wrap .i64 (y316.toNat : Int)))) (IntKind.wrap .i64 (s.t10 - (1 : Int))))))
      .fail)
    (.leaf (.inr (s.t1, s.t2, s.t9)))
noncomputable def Lref03_Get_0 (q : Option Nat) (s : Sref03_Get_0) : Option (Int × Int × Int) := limQ q (fun s => (Wref03_Get_0 s).run) s
theorem leLref03_Get_0 (k : Nat) (s : Sref03_Get_0) : Le (Lref03_Get_0 (some k) s) (Lref03_Get_0 none s) := limQ_le (fun _ => Le.rfl) s
noncomputable def Tref03_Get (q : Option Nat) (x0 : (List UInt8)) (x1 : Int) (x2 : Int) : Tree (Int × Int × Int) :=
  .ite (decide (x2 < (1 : Int)))
    (.leaf (((0 : Int), (0 : Int), (1 : Int))))
    (.ite (decide ((7 : Int) < x2))
      (.leaf (((0 : Int), (0 : Int), (1 : Int))))
      (.ite (decide (x1 < (0 : Int)))
        (.leaf (((0 : Int), (0 : Int), (1 : Int))))
        (.ite (decide ((x0.length : Int) < x1))
          (.leaf (((0 : Int), (0 : Int), (1 : Int))))
          (.ite (decide ((IntKind.wrap .i64 ((x0.length : Int) - x1)) < x2))
            (.leaf (((0 : Int), (0 : Int), (8 : Int))))
            (.opt (Int × Int × Int) (Lref03_Get_0 q (Sref03_Get_0.mk x0 x1 x2 (0 : Int) (IntKind.wrap .i64 ((IntKind.wrap .i64 (x1 + x2)) - (1 : Int))))) fun l317 =>
              .leaf ((l317.2.2, IntKind.wrap .i64 (l317.1 + l317.2.1), (0 : Int))))))))
noncomputable def ref03_Get (q : Option Nat) (x0 : (List UInt8)) (x1 : Int) (x2 : Int) : Option (Int × Int × Int) := (Tref03_Get q x0 x1 x2).run
theorem leref03_Get (k : Nat) (x0 : (List UInt8)) (x1 : Int) (x2 : Int) : Le (ref03_Get (some k) x0 x1 x2) (ref03_Get none x0 x1 x2) := (TLe.ite TLe.rfl (TLe.ite TLe.rfl (TLe.ite TLe.rfl (TLe.ite TLe.rfl (TLe.ite TLe.rfl (TLe.opt (leLref03_Get_0 k _) fun _ => TLe.rfl))))))
noncomputable def Aref03_Get : Arg U ((List UInt8) × Int × Int × Unit) := aO cStr (aO (cInt .i64) (aO (cInt .i64) (aNil)))
noncomputable def Rref03_Get (r : (Int × Int × Int)) : List (V U) × List (Blk U) := ([vO (cInt .i64) r.1, vO (cInt .i64) r.2.1, vO (cInt .i64) r.2.2], [])
noncomputable def Sref03_Get : List (V U) → List (Blk U) → Option (FnOut U) := mkSpec Aref03_Get bNil (fun x _ => ref03_Get none x.1 x.2.1 x.2.2.1) Rref03_Get
noncomputable def Pref03_Get_0 (x : ((List UInt8) × Unit) × (Int × Unit) × (Int × Unit) × (Int × Unit) × (Int × Unit) × Unit) (_g : Unit) : Sref03_Get_0 := Sref03_Get_0.mk x.1.1 x.2.1.1 x.2.2.1.1 x.2.2.2.1.1 x.2.2.2.2.1.1
noncomputable def tAref03_Get_0 : Tms U (((List UInt8) × Unit) × (Int × Unit) × (Int × Unit) × (Int × Unit) × (Int × Unit) × Unit) := tO 0 (cPair cStr (cUnit)) (tO 1 (cPair (cInt .i64) (cUnit)) (tO 2 (cPair (cInt .i64) (cUnit)) (tO 9 (cPair (cInt .i64) (cUnit)) (tO 10 (cPair (cInt .i64) (cUnit)) (tNil)))))
noncomputable def tBref03_Get_0 : Bls U (Unit) := bNil
noncomputable def eSref03_Get_0 (s : Sref03_Get_0) : St U := { tm := [(0, .v (vO (cPair cStr (cUnit)) (s.t0, ()))), (1, .v (vO (cPair (cInt .i64) (cUnit)) (s.t1, ()))), (2, .v (vO (cPair (cInt .i64) (cUnit)) (s.t2, ()))), (9, .v (vO (cPair (cInt .i64) (cUnit)) (s.t9, ()))), (10, .v (vO (cPair (cInt .i64) (cUnit)) (s.t10, ())))], hp := [] }
noncomputable def xSref03_Get_0 (r : (Int × Int × Int)) : Ex × St U := (.exit 0, { tm := [(1, .v (vO (cPair (cInt .i64) (cUnit)) (r.1, ()))), (2, .v (vO (cPair (cInt .i64) (cUnit)) (r.2.1, ()))), (9, .v (vO (cPair (cInt .i64) (cUnit)) (r.2.2, ())))], hp := [] })
noncomputable def xTref03_Get_0 (r : (Int × Int × Int)) : Tree (Ex × St U) := .leaf (xSref03_Get_0 r)
noncomputable def href03_Get_0 : Hd := { keep := [0, 1, 2, 9, 10], xkeep := [1, 2, 6, 7, 8, 9], own := false }
noncomputable def Eref03_Get : Env U := { P := Try.prog, cd := cd, fns := fns46, lps := (addL 0 href03_Get_0 (mkLoop tAref03_Get_0 tBref03_Get_0 Pref03_Get_0 (Lref03_Get_0 none) xTref03_Get_0) noL), frz := fun _r => false, nt := 53, n0 := 0 }
noncomputable def Bref03_Get_0 : Code := (loopAt (Try.f70.body.getD .skip) 0 0).getD .skip
theorem roundref03_Get_0 (s : Sref03_Get_0) : round Eref03_Get href03_Get_0 Bref03_Get_0 0 (eSref03_Get_0 s) = (Wref03_Get_0 s).map (sumE eSref03_Get_0 xSref03_Get_0) := by kernel_rfl
theorem lpref03_Get_0 : LpOk Eref03_Get Bref03_Get_0 0 := mkLoop_ok (A := tAref03_Get_0) (B := tBref03_Get_0) (f := Pref03_Get_0) (L := Lref03_Get_0 none) (tO_ok (cPair_ok cStr_ok cUnit_ok) (tO_ok (cPair_ok (cInt_ok .i64) cUnit_ok) (tO_ok (cPair_ok (cInt_ok .i64) cUnit_ok) (tO_ok (cPair_ok (cInt_ok .i64) cUnit_ok) (tO_ok (cPair_ok (cInt_ok .i64) cUnit_ok) tNil_ok))))) bNil_ok (enc := eSref03_Get_0) (out := xTref03_Get_0) (outS := xSref03_Get_0) (step := Wref03_Get_0) (fun _ => rfl) (fun _ _ => by kernel_rfl) (by kernel_rfl) (fun _ => rfl) roundref03_Get_0
theorem runref03_Get (x : (List UInt8) × Int × Int × Unit) (g : Unit) : execF Eref03_Get Try.f70 (Aref03_Get.enc x) (bNil.enc g) = (Tref03_Get none x.1 x.2.1 x.2.2.1).map Rref03_Get := by kernel_rfl
theorem okref03_Get : FnOk Try.prog cd 70 Sref03_Get := mk_ok (E := Eref03_Get) cd_ok fns46_ok Try.func70 (by kernel_rfl) (loops_of (addL_ok lpref03_Get_0 noL_ok)) (aO_ok cStr_ok (aO_ok (cInt_ok .i64) (aO_ok (cInt_ok .i64) (aNil_ok)))) bNil_ok (T := fun x _ => Tref03_Get none x.1 x.2.1 x.2.2.1) (fun _ _ => rfl) runref03_Get
noncomputable def fns70 := addF 70 true Sref03_Get fns46
theorem fns70_ok : ∀ f q t, fns70 f = some (q, t) → FnOk Try.prog cd f t := addF_ok okref03_Get fns46_ok
/-- emulator/emulatorref03.GetText -/
noncomputable def Tref03_GetText (q : Option Nat) (x0 : (List UInt8)) (x1 : Int) : Tree ((List UInt8) × Int × Int) :=
  .ite (decide (x1 < (0 : Int)))
    (.leaf ((([] : List UInt8), (0 : Int), (1 : Int))))
    (.ite (decide ((x0.length : Int) < x1))
      (.leaf ((([] : List UInt8), (0 : Int), (1 : Int))))
      (.opt (Int × Int × Int) (ref03_Get q x0 x1 (2 : Int)) fun r318 =>
        .ite (!decide (r318.2.2 = (0 : Int)))
          (.leaf ((([] : List UInt8), (0 : Int), r318.2.2)))
          (.ite (decide ((IntKind.wrap .i64 ((x0.length : Int) - r318.2.1)) < r318.1))
            (.leaf ((([] : List UInt8), (0 : Int), (8 : Int))))
            (.ite (decide (0 ≤ IntKind.wrap .i64 (r318.2.1 + r318.1)))
              (.ite (decide (IntKind.wrap .i64 (r318.2.1 + r318.1) ≤ ((x0.length : Nat) : Int)))
                (.ite (decide (0 ≤ r318.2.1))
                  (.ite (decide (r318.2.1 ≤ IntKind.wrap .i64 (r318.2.1 + r318.1)))
                    (.leaf (((x0.drop ((r318.2.1).toNat)).take ((IntKind.wrap .i64 (r318.2.1 + r318.1)).toNat - (r318.2.1).toNat), IntKind.wrap .i64 (r318.2.1 + r318.1), (0 : Int))))
                    .fail)
                  .fail)
                .fail)
              .fail))))
noncomputable def ref03_GetText (q : Option Nat) (x0 : (List UInt8)) (x1 : Int) : Option ((List UInt8) × Int × Int) := (Tref03_GetText q x0 x1).run
theorem leref03_GetText (k : Nat) (x0 : (List UInt8)) (x1 : Int) : Le (ref03_GetText (some k) x0 x1) (ref03_GetText none x0 x1) := (TLe.ite TLe.rfl (TLe.ite TLe.rfl (TLe.opt (leref03_Get k _ _ _) fun _ => TLe.rfl)))
noncomputable def Aref03_GetText : Arg U ((List UInt8) × Int × Unit) := aO cStr (aO (cInt .i64) (aNil))
noncomputable def Rref03_GetText (r : ((List UInt8) × Int × Int)) : List (V U) × List (Blk U) := ([vO cStr r.1, vO (cInt .i64) r.2.1, vO (cInt .i64) r.2.2], [])
noncomputable def Sref03_GetText : List (V U) → List (Blk U) → Option (FnOut U) := mkSpec Aref03_GetText bNil (fun x _ => ref03_GetText none x.1 x.2.1) Rref03_GetText
noncomputable def Eref03_GetText : Env U := { P := Try.prog, cd := cd, fns := fns70, lps := noL, frz := fun _r => false, nt := 43, n0 := 0 }
theorem runref03_GetText (x : (List UInt8) × Int × Unit) (g : Unit) : execF Eref03_GetText Try.f69 (Aref03_GetText.enc x) (bNil.enc g) = (Tref03_GetText none x.1 x.2.1).map Rref03_GetText := by kernel_rfl
theorem okref03_GetText : FnOk Try.prog cd 69 Sref03_GetText := mk_ok (E := Eref03_GetText) cd_ok fns70_ok Try.func69 (by kernel_rfl) (noLoops_body (by kernel_rfl)) (aO_ok cStr_ok (aO_ok (cInt_ok .i64) (aNil_ok))) bNil_ok (T := fun x _ => Tref03_GetText none x.1 x.2.1) (fun _ _ => rfl) runref03_GetText
noncomputable def fns69 := addF 69 true Sref03_GetText fns70
theorem fns69_ok : ∀ f q t, fns69 f = some (q, t) → FnOk Try.prog cd f t := addF_ok okref03_GetText fns70_ok
end Go.Proofs.Ytghgcaieciklbaa
