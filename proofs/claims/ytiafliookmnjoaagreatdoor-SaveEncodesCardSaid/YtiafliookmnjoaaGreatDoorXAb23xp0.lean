/- The types of the program, and how they are told in cells. -/
import Derived.Test.YtiafliookmnjoaaGreatDoorXAbMore
import Derived.Test.YtiafliookmnjoaaGreatDoorXAbClone
import Derived.Ground.NamesProg
import Derived.Shelf.Lay
import Derived.Shelf.SlGeneric
import Derived.Ground.SlgnProg
import Derived.Test.YtiafliookmnjoaaGreatDoorProg
import Derived.KernelRfl
set_option linter.unusedSimpArgs false
namespace Go.Proofs.YtiafliookmnjoaaGreatDoor
open Go Go.Ab
structure Cpu where
  r : (List Int)
  sP : (List Int)
  pC : Int
  pSW : Int
  deriving DecidableEq
structure Page where
  base : Int
  length : Int
  access : Int
  written : Bool
  deriving DecidableEq
structure Mmu where
  on : Bool
  pages : (List Page)
  status : Int
  addr : Int
  deriving DecidableEq
structure Line where
  rxEnable : Bool
  rxReady : Bool
  overrun : Bool
  rxData : Int
  txEnable : Bool
  txReady : Bool
  txData : Int
  txLeft : Int
  out : (List UInt8)
  deriving DecidableEq
structure Drive where
  sectors : (List (List UInt8))
  bad : (List Int)
  deriving DecidableEq
structure Disk where
  drive : Drive
  enable : Bool
  ready : Bool
  error : Bool
  command : Int
  words : Int
  addr : Int
  start : Int
  left : Int
  deriving DecidableEq
structure Tape where
  records : (List (List UInt8))
  pos : Int
  enable : Bool
  ready : Bool
  error : Bool
  mark : Bool
  end_ : Bool
  command : Int
  count : Int
  addr : Int
  left : Int
  deriving DecidableEq
structure Clock where
  enable : Bool
  ready : Bool
  period : Int
  left : Int
  deriving DecidableEq
structure Machine where
  cpu : Cpu
  mem : (List Int)
  bad : (List Int)
  mmu : Mmu
  clock : Clock
  lines : (List Line)
  disk : Disk
  tape : Tape
  now : Int
  halted : Bool
  waiting : Bool
  power : Int
  powerTrap : Bool
  deriving DecidableEq
structure Condition where
  halted : Bool
  waiting : Bool
  trap : Bool
  power : Int
  deriving DecidableEq
structure Reader where
  s : (List UInt8)
  at_ : Int
  bad : Bool
  deriving DecidableEq
abbrev tys : List (Nat × Type) := [(3, Int), (4, Bool), (5, Int), (9, (List UInt8)), (28, Page), (66, Line)]
abbrev U : Nat → Type := findT tys
noncomputable def cCpu : Cdc U Cpu := cMap (fun x => Cpu.mk x.1 x.2.1 x.2.2.1 x.2.2.2.1) (fun x => (x.r, x.sP, x.pC, x.pSW, ())) (cPair (cArr 3 6) (cPair (cArr 3 2) (cPair (cInt .i64) (cPair (cInt .i64) (cUnit)))))
theorem zp : cCpu.Ok := cMap_ok (cPair_ok (cArr_ok 3 6) (cPair_ok (cArr_ok 3 2) (cPair_ok (cInt_ok .i64) (cPair_ok (cInt_ok .i64) cUnit_ok)))) fun _ => rfl
noncomputable def cPage : Cdc U Page := cMap (fun x => Page.mk x.1 x.2.1 x.2.2.1 x.2.2.2.1) (fun x => (x.base, x.length, x.access, x.written, ())) (cPair (cInt .i64) (cPair (cInt .i64) (cPair (cInt .i64) (cPair cBool (cUnit)))))
theorem z17y : cPage.Ok := cMap_ok (cPair_ok (cInt_ok .i64) (cPair_ok (cInt_ok .i64) (cPair_ok (cInt_ok .i64) (cPair_ok cBool_ok cUnit_ok)))) fun _ => rfl
noncomputable def cMmu : Cdc U Mmu := cMap (fun x => Mmu.mk x.1 x.2.1 x.2.2.1 x.2.2.2.1) (fun x => (x.on, x.pages, x.status, x.addr, ())) (cPair cBool (cPair (cArr 28 16) (cPair (cInt .i64) (cPair (cInt .i64) (cUnit)))))
theorem zj : cMmu.Ok := cMap_ok (cPair_ok cBool_ok (cPair_ok (cArr_ok 28 16) (cPair_ok (cInt_ok .i64) (cPair_ok (cInt_ok .i64) cUnit_ok)))) fun _ => rfl
noncomputable def cLine : Cdc U Line := cMap (fun x => Line.mk x.1 x.2.1 x.2.2.1 x.2.2.2.1 x.2.2.2.2.1 x.2.2.2.2.2.1 x.2.2.2.2.2.2.1 x.2.2.2.2.2.2.2.1 x.2.2.2.2.2.2.2.2.1) (fun x => (x.rxEnable, x.rxReady, x.overrun, x.rxData, x.txEnable, x.txReady, x.txData, x.txLeft, x.out, ())) (cPair cBool (cPair cBool (cPair cBool (cPair (cInt .i64) (cPair cBool (cPair cBool (cPair (cInt .i64) (cPair (cInt .i64) (cPair cStr (cUnit))))))))))
theorem zd3 : cLine.Ok := cMap_ok (cPair_ok cBool_ok (cPair_ok cBool_ok (cPair_ok cBool_ok (cPair_ok (cInt_ok .i64) (cPair_ok cBool_ok (cPair_ok cBool_ok (cPair_ok (cInt_ok .i64) (cPair_ok (cInt_ok .i64) (cPair_ok cStr_ok cUnit_ok))))))))) fun _ => rfl
noncomputable def cDrive : Cdc U Drive := cMap (fun x => Drive.mk x.1 x.2.1) (fun x => (x.sectors, x.bad, ())) (cPair (cSl 9) (cPair (cSl 3) (cUnit)))
theorem z24 : cDrive.Ok := cMap_ok (cPair_ok (cSl_ok 9) (cPair_ok (cSl_ok 3) cUnit_ok)) fun _ => rfl
noncomputable def cDisk : Cdc U Disk := cMap (fun x => Disk.mk x.1 x.2.1 x.2.2.1 x.2.2.2.1 x.2.2.2.2.1 x.2.2.2.2.2.1 x.2.2.2.2.2.2.1 x.2.2.2.2.2.2.2.1 x.2.2.2.2.2.2.2.2.1) (fun x => (x.drive, x.enable, x.ready, x.error, x.command, x.words, x.addr, x.start, x.left, ())) (cPair cDrive (cPair cBool (cPair cBool (cPair cBool (cPair (cInt .i64) (cPair (cInt .i64) (cPair (cInt .i64) (cPair (cInt .i64) (cPair (cInt .i64) (cUnit))))))))))
theorem z4c : cDisk.Ok := cMap_ok (cPair_ok z24 (cPair_ok cBool_ok (cPair_ok cBool_ok (cPair_ok cBool_ok (cPair_ok (cInt_ok .i64) (cPair_ok (cInt_ok .i64) (cPair_ok (cInt_ok .i64) (cPair_ok (cInt_ok .i64) (cPair_ok (cInt_ok .i64) cUnit_ok))))))))) fun _ => rfl
noncomputable def cTape : Cdc U Tape := cMap (fun x => Tape.mk x.1 x.2.1 x.2.2.1 x.2.2.2.1 x.2.2.2.2.1 x.2.2.2.2.2.1 x.2.2.2.2.2.2.1 x.2.2.2.2.2.2.2.1 x.2.2.2.2.2.2.2.2.1 x.2.2.2.2.2.2.2.2.2.1 x.2.2.2.2.2.2.2.2.2.2.1) (fun x => (x.records, x.pos, x.enable, x.ready, x.error, x.mark, x.end_, x.command, x.count, x.addr, x.left, ())) (cPair (cSl 9) (cPair (cInt .i64) (cPair cBool (cPair cBool (cPair cBool (cPair cBool (cPair cBool (cPair (cInt .i64) (cPair (cInt .i64) (cPair (cInt .i64) (cPair (cInt .i64) (cUnit))))))))))))
theorem z2s : cTape.Ok := cMap_ok (cPair_ok (cSl_ok 9) (cPair_ok (cInt_ok .i64) (cPair_ok cBool_ok (cPair_ok cBool_ok (cPair_ok cBool_ok (cPair_ok cBool_ok (cPair_ok cBool_ok (cPair_ok (cInt_ok .i64) (cPair_ok (cInt_ok .i64) (cPair_ok (cInt_ok .i64) (cPair_ok (cInt_ok .i64) cUnit_ok))))))))))) fun _ => rfl
noncomputable def cClock : Cdc U Clock := cMap (fun x => Clock.mk x.1 x.2.1 x.2.2.1 x.2.2.2.1) (fun x => (x.enable, x.ready, x.period, x.left, ())) (cPair cBool (cPair cBool (cPair (cInt .i64) (cPair (cInt .i64) (cUnit)))))
theorem zig : cClock.Ok := cMap_ok (cPair_ok cBool_ok (cPair_ok cBool_ok (cPair_ok (cInt_ok .i64) (cPair_ok (cInt_ok .i64) cUnit_ok)))) fun _ => rfl
noncomputable def cMachine : Cdc U Machine := cMap (fun x => Machine.mk x.1 x.2.1 x.2.2.1 x.2.2.2.1 x.2.2.2.2.1 x.2.2.2.2.2.1 x.2.2.2.2.2.2.1 x.2.2.2.2.2.2.2.1 x.2.2.2.2.2.2.2.2.1 x.2.2.2.2.2.2.2.2.2.1 x.2.2.2.2.2.2.2.2.2.2.1 x.2.2.2.2.2.2.2.2.2.2.2.1 x.2.2.2.2.2.2.2.2.2.2.2.2.1) (fun x => (x.cpu, x.mem, x.bad, x.mmu, x.clock, x.lines, x.disk, x.tape, x.now, x.halted, x.waiting, x.power, x.powerTrap, ())) (cPair cCpu (cPair (cSl 3) (cPair (cSl 3) (cPair cMmu (cPair cClock (cPair (cSl 66) (cPair cDisk (cPair cTape (cPair (cInt .i64) (cPair cBool (cPair cBool (cPair (cInt .i64) (cPair cBool (cUnit))))))))))))))
theorem ze : cMachine.Ok := cMap_ok (cPair_ok zp (cPair_ok (cSl_ok 3) (cPair_ok (cSl_ok 3) (cPair_ok zj (cPair_ok zig (cPair_ok (cSl_ok 66) (cPair_ok z4c (cPair_ok z2s (cPair_ok (cInt_ok .i64) (cPair_ok cBool_ok (cPair_ok cBool_ok (cPair_ok (cInt_ok .i64) (cPair_ok cBool_ok cUnit_ok))))))))))))) fun _ => rfl
noncomputable def cCondition : Cdc U Condition := cMap (fun x => Condition.mk x.1 x.2.1 x.2.2.1 x.2.2.2.1) (fun x => (x.halted, x.waiting, x.trap, x.power, ())) (cPair cBool (cPair cBool (cPair cBool (cPair (cInt .i64) (cUnit)))))
noncomputable def cReader : Cdc U Reader := cMap (fun x => Reader.mk x.1 x.2.1 x.2.2.1) (fun x => (x.s, x.at_, x.bad, ())) (cPair cStr (cPair (cInt .i64) (cPair cBool (cUnit))))
theorem zh : cReader.Ok := cMap_ok (cPair_ok cStr_ok (cPair_ok (cInt_ok .i64) (cPair_ok cBool_ok cUnit_ok))) fun _ => rfl
noncomputable def ents : Ents U tys := .cons ⟨(cInt .i64), some (0 : Int), none, some inferInstance⟩ (.cons ⟨cBool, some false, none, some inferInstance⟩ (.cons ⟨(cInt .u8), some (0 : Int), some (fun x => x, fun x => x), some inferInstance⟩ (.cons ⟨cStr, some ([] : List UInt8), none, some inferInstance⟩ (.cons ⟨cPage, some (Page.mk (0 : Int) (0 : Int) (0 : Int) false), none, some inferInstance⟩ (.cons ⟨cLine, some (Line.mk false false false (0 : Int) false false (0 : Int) (0 : Int) ([] : List UInt8)), none, some inferInstance⟩ (.nil))))))
noncomputable def glob : Nat → List Value := fun g => bif Nat.beq g 0 then [.bool true, .bool false, .bool false, .int .i64 (0 : Int)] else []
noncomputable def cd : Cd U := cdOf ents glob
theorem eqSPage (cd : Cd U) (x y : Page) : eqT Tryz.prog cd false 4 28 (cPage.enc x) (cPage.enc y) = some (decide (x = y)) := by
  have h : eqT Tryz.prog cd false 4 28 (cPage.enc x) (cPage.enc y) = some (decide (x.base = y.base) && (decide (x.length = y.length) && (decide (x.access = y.access) && (x.written == y.written)))) := by kernel_rfl
  rw [h]
  cases x; cases y; rw [Option.some.injEq, Bool.eq_iff_iff]; simp
theorem eqSLine (cd : Cd U) (x y : Line) : eqT Tryz.prog cd false 4 66 (cLine.enc x) (cLine.enc y) = some (decide (x = y)) := by
  have h : eqT Tryz.prog cd false 4 66 (cLine.enc x) (cLine.enc y) = some ((x.rxEnable == y.rxEnable) && ((x.rxReady == y.rxReady) && ((x.overrun == y.overrun) && (decide (x.rxData = y.rxData) && ((x.txEnable == y.txEnable) && ((x.txReady == y.txReady) && (decide (x.txData = y.txData) && (decide (x.txLeft = y.txLeft) && decide (x.out = y.out))))))))) := by kernel_rfl
  rw [h]
  cases x; cases y; rw [Option.some.injEq, Bool.eq_iff_iff]; simp
theorem z1bw : EntsOk Tryz.prog ents := ⟨⟨(cInt_ok .i64), (fun x => by kernel_rfl), (fun x => List.all_eq_true.1 (show (((cInt .i64) : Cdc U _).enc x).all plainC = true by kernel_rfl)), (fun f g h => by cases h), (fun d h cd x y => by cases h; exact eqT_int cd (by kernel_rfl) x y)⟩, ⟨cBool_ok, (fun x => by kernel_rfl), (fun x => List.all_eq_true.1 (show ((cBool : Cdc U _).enc x).all plainC = true by kernel_rfl)), (fun f g h => by cases h), (fun d h cd x y => by cases h; exact eqT_bool cd (by kernel_rfl) x y)⟩, ⟨(cInt_ok .u8), (fun x => by kernel_rfl), (fun x => List.all_eq_true.1 (show (((cInt .u8) : Cdc U _).enc x).all plainC = true by kernel_rfl)), (fun f g h => by simp only [Option.some.injEq, Prod.mk.injEq] at h; obtain ⟨rfl, rfl⟩ := h; exact ⟨by kernel_rfl, fun _ => rfl, fun _ => rfl⟩), (fun d h cd x y => by cases h; exact eqT_int cd (by kernel_rfl) x y)⟩, ⟨cStr_ok, (fun x => by kernel_rfl), (fun x => List.all_eq_true.1 (show ((cStr : Cdc U _).enc x).all plainC = true by kernel_rfl)), (fun f g h => by cases h), (fun d h cd x y => by cases h; exact eqT_string cd (by kernel_rfl) x y)⟩, ⟨z17y, (fun x => by kernel_rfl), (fun x => List.all_eq_true.1 (show ((cPage : Cdc U _).enc x).all plainC = true by kernel_rfl)), (fun f g h => by cases h), (fun d h cd x y => by cases h; exact eqSPage cd x y)⟩, ⟨zd3, (fun x => by kernel_rfl), (fun x => List.all_eq_true.1 (show ((cLine : Cdc U _).enc x).all plainC = true by kernel_rfl)), (fun f g h => by cases h), (fun d h cd x y => by cases h; exact eqSLine cd x y)⟩, trivial⟩
theorem cd_ok : CdOk Tryz.prog cd := cdOf_ok ents z1bw glob
/-- emulator/octet.Put -/
structure z2c where
  t0 : Int
  t12 : Int
  t13 : Int
  b0 : (List Int)
noncomputable def z62 (s : z2c) : Tree (z2c ⊕ (List Int)) :=
  .ite (decide (s.t13 < s.t12))
    (.ite (decide (0 ≤ (IntKind.wrap .i64 ((8 : Int) * s.t13))))
      (.ite (decide (0 ≤ s.t13))
        (.ite (decide (s.t13 < (s.b0.length : Int)))
          (.opt Int (s.b0[(s.t13).toNat]?) fun y1 =>
            .leaf (.inl (z2c.mk s.t0 s.t12 (IntKind.wrap .i64 (s.t13 + (1 : Int))) (s.b0.set ((s.t13).toNat) (IntKind.wrap .u8 (((if (0 : Int) > s.t0 then (0 : Int) else s.t0)).fdiv (2 ^ (min ((IntKind.wrap .i64 ((8 : Int) * s.t13))).toNat 64))))))))
          .fail)
        .fail)
      .fail)
    (.leaf (.inr s.b0))
noncomputable def z4i (q : Option Nat) (s : z2c) : Option (List Int) := limQ q (fun s => (z62 s).run) s
noncomputable def zar (q : Option Nat) (x0 : Int) (x1 : Int) : Tree (List UInt8) :=
  .ite (decide ((if (if (8 : Int) < x1 then (8 : Int) else x1) > (0 : Int) then (if (8 : Int) < x1 then (8 : Int) else x1) else (0 : Int)) = (if (if (8 : Int) < x1 then (8 : Int) else x1) > (0 : Int) then (if (8 : Int) < x1 then (8 : Int) else x1) else (0 : Int))))
    (.ite (decide (0 ≤ (if (if (8 : Int) < x1 then (8 : Int) else x1) > (0 : Int) then (if (8 : Int) < x1 then (8 : Int) else x1) else (0 : Int))))
      (.ite (decide ((1 : Int) * (if (if (8 : Int) < x1 then (8 : Int) else x1) > (0 : Int) then (if (8 : Int) < x1 then (8 : Int) else x1) else (0 : Int)) ≤ 281474976710656))
        (.opt (List Int) (z4i q (z2c.mk x0 ((List.replicate ((if (if (8 : Int) < x1 then (8 : Int) else x1) > (0 : Int) then (if (8 : Int) < x1 then (8 : Int) else x1) else (0 : Int))).toNat (0 : Int)).length : Int) (0 : Int) (List.replicate ((if (if (8 : Int) < x1 then (8 : Int) else x1) > (0 : Int) then (if (8 : Int) < x1 then (8 : Int) else x1) else (0 : Int))).toNat (0 : Int)))) fun l2 =>
          .leaf (l2.map fun x => UInt8.ofNat x.toNat))
        .fail)
      .fail)
    .fail
noncomputable def zn (q : Option Nat) (x0 : Int) (x1 : Int) : Option (List UInt8) := (zar q x0 x1).run
noncomputable def zww : Arg U (Int × Int × Unit) := aO (cInt .i64) (aO (cInt .i64) (aNil))
noncomputable def zya (r : (List UInt8)) : List (V U) × List (Blk U) := ([vO cStr r], [])
noncomputable def zq7 : List (V U) → List (Blk U) → Option (FnOut U) := mkSpec zww bNil (fun x _ => zn none x.1 x.2.1) zya
noncomputable def zvh (x : (Int × Unit) × (Unit) × (Int × Unit) × (Int × Unit) × Unit) (g : (List Int) × Unit) : z2c := z2c.mk x.1.1 x.2.2.1.1 x.2.2.2.1.1 g.1
noncomputable def z13m : Tms U ((Int × Unit) × (Unit) × (Int × Unit) × (Int × Unit) × Unit) := tO 0 (cPair (cInt .i64) (cUnit)) (tO 5 (cK (.row 0 0) (cUnit)) (tO 12 (cPair (cInt .i64) (cUnit)) (tO 13 (cPair (cInt .i64) (cUnit)) (tNil))))
noncomputable def zsw : Bls U ((List Int) × Unit) := bRv 5 0 (bNil)
noncomputable def zg7 (s : z2c) : St U := { tm := [(0, .v (vO (cPair (cInt .i64) (cUnit)) (s.t0, ()))), (5, .v (vO (cK (.row 0 0) (cUnit)) (()))), (12, .v (vO (cPair (cInt .i64) (cUnit)) (s.t12, ()))), (13, .v (vO (cPair (cInt .i64) (cUnit)) (s.t13, ())))], hp := [.row 5 0 s.b0] }
noncomputable def zi4 (r : (List Int)) : Ex × St U := (.exit 0, { tm := [(5, .v (vO (cK (.row 0 0) (cUnit)) (())))], hp := [.row 5 0 r] })
noncomputable def zv8 (r : (List Int)) : Tree (Ex × St U) := .leaf (zi4 r)
noncomputable def zrs : Hd := { keep := [0, 5, 12, 13], xkeep := [4, 5], own := false }
noncomputable def zaf : Env U := { P := Tryz.prog, cd := cd, fns := noF, lps := (addL 0 zrs (mkLoop z13m zsw zvh (z4i none) zv8) noL), frz := fun _r => false, nt := 28, n0 := 0 }
noncomputable def zra : Code := (loopAt (Tryz.f45.body.getD .skip) 0 0).getD .skip
theorem z1bk (s : z2c) : round zaf zrs zra 0 (zg7 s) = (z62 s).map (sumE zg7 zi4) := by kernel_rfl
theorem z1ai : LpOk zaf zra 0 := mkLoop_ok (A := z13m) (B := zsw) (f := zvh) (L := z4i none) (tO_ok (cPair_ok (cInt_ok .i64) cUnit_ok) (tO_ok (cK_ok cUnit_ok) (tO_ok (cPair_ok (cInt_ok .i64) cUnit_ok) (tO_ok (cPair_ok (cInt_ok .i64) cUnit_ok) tNil_ok)))) (bRv_ok bNil_ok) (enc := zg7) (out := zv8) (outS := zi4) (step := z62) (fun _ => rfl) (fun _ _ => by kernel_rfl) (by kernel_rfl) (fun _ => rfl) z1bk
theorem z1bi (x : Int × Int × Unit) (g : Unit) : execF zaf Tryz.f45 (zww.enc x) (bNil.enc g) = (zar none x.1 x.2.1).map zya := by kernel_rfl
theorem z15o : FnOk Tryz.prog cd 45 zq7 := mk_ok (E := zaf) cd_ok noF_ok Tryz.func45 (by kernel_rfl) (loops_of (addL_ok z1ai noL_ok)) (aO_ok (cInt_ok .i64) (aO_ok (cInt_ok .i64) (aNil_ok))) bNil_ok (T := fun x _ => zar none x.1 x.2.1) (fun _ _ => rfl) z1bi
noncomputable def fns45 := addF 45 true zq7 noF
theorem z101 : ∀ f q t, fns45 f = some (q, t) → FnOk Tryz.prog cd f t := addF_ok z15o noF_ok
/-- emulator/octet.sum -/
structure z16 where
  t3 : Int
  t5 : (List UInt8)
  t8 : (List (List UInt8))
  t9 : Int
  t10 : Int
  t15 : Int
  t16 : Int
  t25 : Int
noncomputable def z5f (s : z16) : Tree (z16 ⊕ (Int × (List UInt8) × (List (List UInt8)) × Int × Int × Int × Int)) :=
  .ite (decide (s.t25 < (8 : Int)))
    (.ite (decide (0 ≤ (1 : Int)))
      (.leaf (.inl (z16.mk (IntKind.wrap .u32 (((BitVec.ofInt 32 ((s.t3).fdiv (2 ^ (min ((1 : Int)).toNat 32))) ^^^ BitVec.ofInt 32 (IntKind.wrap .u32 ((IntKind.wrap .u32 (((BitVec.ofInt 32 s.t3 &&& BitVec.ofInt 32 (1 : Int)).toNat : Int))) * (3988292384 : Int)))).toNat : Int))) s.t5 s.t8 s.t9 s.t10 s.t15 s.t16 (IntKind.wrap .i64 (s.t25 + (1 : Int))))))
      .fail)
    (.leaf (.inr (s.t3, s.t5, s.t8, s.t9, s.t10, s.t15, s.t16)))
noncomputable def z57 (q : Option Nat) (s : z16) : Option (Int × (List UInt8) × (List (List UInt8)) × Int × Int × Int × Int) := limQ q (fun s => (z5f s).run) s
structure z15 where
  t3 : Int
  t5 : (List UInt8)
  t8 : (List (List UInt8))
  t9 : Int
  t10 : Int
  t15 : Int
  t16 : Int
noncomputable def z5s (q : Option Nat) (s : z15) : Tree (z15 ⊕ (Int × (List (List UInt8)) × Int × Int)) :=
  .ite (decide (s.t16 < s.t15))
    (.ite (decide (0 ≤ s.t16))
      (.opt UInt8 (s.t5[(s.t16).toNat]?) fun y4 =>
        .opt (Int × (List UInt8) × (List (List UInt8)) × Int × Int × Int × Int) (z57 q (z16.mk (IntKind.wrap .u32 (((BitVec.ofInt 32 s.t3 ^^^ BitVec.ofInt 32 (IntKind.wrap .u32 (y4.toNat : Int))).toNat : Int))) s.t5 s.t8 s.t9 s.t10 s.t15 s.t16 (0 : Int))) fun l5 =>
          .leaf (.inl (z15.mk l5.1 l5.2.1 l5.2.2.1 l5.2.2.2.1 l5.2.2.2.2.1 l5.2.2.2.2.2.1 (IntKind.wrap .i64 (l5.2.2.2.2.2.2 + (1 : Int))))))
      .fail)
    (.leaf (.inr (s.t3, s.t8, s.t9, s.t10)))
noncomputable def z5t (q : Option Nat) (s : z15) : Option (Int × (List (List UInt8)) × Int × Int) := limQ q (fun s => (z5s q s).run) s
structure z1n where
  t3 : Int
  t8 : (List (List UInt8))
  t9 : Int
  t10 : Int
noncomputable def z40 (q : Option Nat) (s : z1n) : Tree (z1n ⊕ Int) :=
  .ite (decide (s.t10 < s.t9))
    (.ite (decide (0 ≤ s.t10))
      (.opt (List UInt8) (s.t8[(s.t10).toNat]?) fun y3 =>
        .opt (Int × (List (List UInt8)) × Int × Int) (z5t q (z15.mk s.t3 y3 s.t8 s.t9 s.t10 (y3.length : Int) (0 : Int))) fun l6 =>
          .leaf (.inl (z1n.mk l6.1 l6.2.1 l6.2.2.1 (IntKind.wrap .i64 (l6.2.2.2 + (1 : Int))))))
      .fail)
    (.leaf (.inr s.t3))
noncomputable def z9p (q : Option Nat) (s : z1n) : Option Int := limQ q (fun s => (z40 q s).run) s
noncomputable def zd1 (q : Option Nat) (x0 : (List (List UInt8))) : Tree Int :=
  .opt Int (z9p q (z1n.mk (4294967295 : Int) x0 (x0.length : Int) (0 : Int))) fun l7 =>
    .leaf (IntKind.wrap .i64 (IntKind.wrap .u32 ((BitVec.ofInt 32 4294967295 ^^^ BitVec.ofInt 32 l7).toNat : Int)))
noncomputable def z4n (q : Option Nat) (x0 : (List (List UInt8))) : Option Int := (zd1 q x0).run
noncomputable def zuy : Arg U ((List (List UInt8)) × Unit) := aO (cSl 9) (aNil)
noncomputable def zlg (r : Int) : List (V U) × List (Blk U) := ([vO (cInt .i64) r], [])
noncomputable def z6f : List (V U) → List (Blk U) → Option (FnOut U) := mkSpec zuy bNil (fun x _ => z4n none x.1) zlg
noncomputable def zqf (x : (Int × Unit) × ((List (List UInt8)) × Unit) × (Int × Unit) × (Int × Unit) × Unit) (_g : Unit) : z1n := z1n.mk x.1.1 x.2.1.1 x.2.2.1.1 x.2.2.2.1.1
noncomputable def zyk : Tms U ((Int × Unit) × ((List (List UInt8)) × Unit) × (Int × Unit) × (Int × Unit) × Unit) := tO 3 (cPair (cInt .u32) (cUnit)) (tO 8 (cPair (cSl 9) (cUnit)) (tO 9 (cPair (cInt .i64) (cUnit)) (tO 10 (cPair (cInt .i64) (cUnit)) (tNil))))
noncomputable def zrl : Bls U (Unit) := bNil
noncomputable def zg8 (s : z1n) : St U := { tm := [(3, .v (vO (cPair (cInt .u32) (cUnit)) (s.t3, ()))), (8, .v (vO (cPair (cSl 9) (cUnit)) (s.t8, ()))), (9, .v (vO (cPair (cInt .i64) (cUnit)) (s.t9, ()))), (10, .v (vO (cPair (cInt .i64) (cUnit)) (s.t10, ())))], hp := [] }
noncomputable def zir (r : Int) : Ex × St U := (.exit 0, { tm := [(3, .v (vO (cPair (cInt .u32) (cUnit)) (r, ())))], hp := [] })
noncomputable def zkw (r : Int) : Tree (Ex × St U) := .leaf (zir r)
noncomputable def z13g : Hd := { keep := [3, 8, 9, 10], xkeep := [2, 3], own := false }
noncomputable def znd (x : (Int × Unit) × ((List UInt8) × Unit) × ((List (List UInt8)) × Unit) × (Int × Unit) × (Int × Unit) × (Int × Unit) × (Int × Unit) × Unit) (_g : Unit) : z15 := z15.mk x.1.1 x.2.1.1 x.2.2.1.1 x.2.2.2.1.1 x.2.2.2.2.1.1 x.2.2.2.2.2.1.1 x.2.2.2.2.2.2.1.1
noncomputable def zy9 : Tms U ((Int × Unit) × ((List UInt8) × Unit) × ((List (List UInt8)) × Unit) × (Int × Unit) × (Int × Unit) × (Int × Unit) × (Int × Unit) × Unit) := tO 3 (cPair (cInt .u32) (cUnit)) (tO 5 (cPair cStr (cUnit)) (tO 8 (cPair (cSl 9) (cUnit)) (tO 9 (cPair (cInt .i64) (cUnit)) (tO 10 (cPair (cInt .i64) (cUnit)) (tO 15 (cPair (cInt .i64) (cUnit)) (tO 16 (cPair (cInt .i64) (cUnit)) (tNil)))))))
noncomputable def z13u : Bls U (Unit) := bNil
noncomputable def zfs (s : z15) : St U := { tm := [(3, .v (vO (cPair (cInt .u32) (cUnit)) (s.t3, ()))), (5, .v (vO (cPair cStr (cUnit)) (s.t5, ()))), (8, .v (vO (cPair (cSl 9) (cUnit)) (s.t8, ()))), (9, .v (vO (cPair (cInt .i64) (cUnit)) (s.t9, ()))), (10, .v (vO (cPair (cInt .i64) (cUnit)) (s.t10, ()))), (15, .v (vO (cPair (cInt .i64) (cUnit)) (s.t15, ()))), (16, .v (vO (cPair (cInt .i64) (cUnit)) (s.t16, ())))], hp := [] }
noncomputable def zha (r : (Int × (List (List UInt8)) × Int × Int)) : Ex × St U := (.exit 2, { tm := [(3, .v (vO (cPair (cInt .u32) (cUnit)) (r.1, ()))), (8, .v (vO (cPair (cSl 9) (cUnit)) (r.2.1, ()))), (9, .v (vO (cPair (cInt .i64) (cUnit)) (r.2.2.1, ()))), (10, .v (vO (cPair (cInt .i64) (cUnit)) (r.2.2.2, ())))], hp := [] })
noncomputable def zn7 (r : (Int × (List (List UInt8)) × Int × Int)) : Tree (Ex × St U) := .leaf (zha r)
noncomputable def zzs : Hd := { keep := [3, 5, 8, 9, 10, 15, 16], xkeep := [2, 3, 8, 9, 10], own := false }
noncomputable def zli (x : (Int × Unit) × ((List UInt8) × Unit) × ((List (List UInt8)) × Unit) × (Int × Unit) × (Int × Unit) × (Int × Unit) × (Int × Unit) × (Int × Unit) × Unit) (_g : Unit) : z16 := z16.mk x.1.1 x.2.1.1 x.2.2.1.1 x.2.2.2.1.1 x.2.2.2.2.1.1 x.2.2.2.2.2.1.1 x.2.2.2.2.2.2.1.1 x.2.2.2.2.2.2.2.1.1
noncomputable def zns : Tms U ((Int × Unit) × ((List UInt8) × Unit) × ((List (List UInt8)) × Unit) × (Int × Unit) × (Int × Unit) × (Int × Unit) × (Int × Unit) × (Int × Unit) × Unit) := tO 3 (cPair (cInt .u32) (cUnit)) (tO 5 (cPair cStr (cUnit)) (tO 8 (cPair (cSl 9) (cUnit)) (tO 9 (cPair (cInt .i64) (cUnit)) (tO 10 (cPair (cInt .i64) (cUnit)) (tO 15 (cPair (cInt .i64) (cUnit)) (tO 16 (cPair (cInt .i64) (cUnit)) (tO 25 (cPair (cInt .i64) (cUnit)) (tNil))))))))
noncomputable def zyq : Bls U (Unit) := bNil
noncomputable def zet (s : z16) : St U := { tm := [(3, .v (vO (cPair (cInt .u32) (cUnit)) (s.t3, ()))), (5, .v (vO (cPair cStr (cUnit)) (s.t5, ()))), (8, .v (vO (cPair (cSl 9) (cUnit)) (s.t8, ()))), (9, .v (vO (cPair (cInt .i64) (cUnit)) (s.t9, ()))), (10, .v (vO (cPair (cInt .i64) (cUnit)) (s.t10, ()))), (15, .v (vO (cPair (cInt .i64) (cUnit)) (s.t15, ()))), (16, .v (vO (cPair (cInt .i64) (cUnit)) (s.t16, ()))), (25, .v (vO (cPair (cInt .i64) (cUnit)) (s.t25, ())))], hp := [] }
noncomputable def zg4 (r : (Int × (List UInt8) × (List (List UInt8)) × Int × Int × Int × Int)) : Ex × St U := (.exit 4, { tm := [(3, .v (vO (cPair (cInt .u32) (cUnit)) (r.1, ()))), (5, .v (vO (cPair cStr (cUnit)) (r.2.1, ()))), (8, .v (vO (cPair (cSl 9) (cUnit)) (r.2.2.1, ()))), (9, .v (vO (cPair (cInt .i64) (cUnit)) (r.2.2.2.1, ()))), (10, .v (vO (cPair (cInt .i64) (cUnit)) (r.2.2.2.2.1, ()))), (15, .v (vO (cPair (cInt .i64) (cUnit)) (r.2.2.2.2.2.1, ()))), (16, .v (vO (cPair (cInt .i64) (cUnit)) (r.2.2.2.2.2.2, ())))], hp := [] })
noncomputable def zw7 (r : (Int × (List UInt8) × (List (List UInt8)) × Int × Int × Int × Int)) : Tree (Ex × St U) := .leaf (zg4 r)
noncomputable def z14y : Hd := { keep := [3, 5, 8, 9, 10, 15, 16, 25], xkeep := [2, 3, 5, 8, 9, 10, 15, 16], own := false }
noncomputable def z2x : Env U := { P := Tryz.prog, cd := cd, fns := fns45, lps := (addL 0 z13g (mkLoop zyk zrl zqf (z9p none) zkw) (addL 1 zzs (mkLoop zy9 z13u znd (z5t none) zn7) (addL 2 z14y (mkLoop zns zyq zli (z57 none) zw7) noL))), frz := fun _r => false, nt := 41, n0 := 0 }
noncomputable def zxu : Code := (loopAt (Tryz.f46.body.getD .skip) 0 0).getD .skip
theorem z16g (s : z1n) : round z2x z13g zxu 0 (zg8 s) = (z40 none s).map (sumE zg8 zir) := by kernel_rfl
theorem z1bn : LpOk z2x zxu 0 := mkLoop_ok (A := zyk) (B := zrl) (f := zqf) (L := z9p none) (tO_ok (cPair_ok (cInt_ok .u32) cUnit_ok) (tO_ok (cPair_ok (cSl_ok 9) cUnit_ok) (tO_ok (cPair_ok (cInt_ok .i64) cUnit_ok) (tO_ok (cPair_ok (cInt_ok .i64) cUnit_ok) tNil_ok)))) bNil_ok (enc := zg8) (out := zkw) (outS := zir) (step := z40 none) (fun _ => rfl) (fun _ _ => by kernel_rfl) (by kernel_rfl) (fun _ => rfl) z16g
noncomputable def z11k : Code := (loopAt (Tryz.f46.body.getD .skip) 0 1).getD .skip
theorem z156 (s : z15) : round z2x zzs z11k 1 (zfs s) = (z5s none s).map (sumE zfs zha) := by kernel_rfl
theorem z1cj : LpOk z2x z11k 1 := mkLoop_ok (A := zy9) (B := z13u) (f := znd) (L := z5t none) (tO_ok (cPair_ok (cInt_ok .u32) cUnit_ok) (tO_ok (cPair_ok cStr_ok cUnit_ok) (tO_ok (cPair_ok (cSl_ok 9) cUnit_ok) (tO_ok (cPair_ok (cInt_ok .i64) cUnit_ok) (tO_ok (cPair_ok (cInt_ok .i64) cUnit_ok) (tO_ok (cPair_ok (cInt_ok .i64) cUnit_ok) (tO_ok (cPair_ok (cInt_ok .i64) cUnit_ok) tNil_ok))))))) bNil_ok (enc := zfs) (out := zn7) (outS := zha) (step := z5s none) (fun _ => rfl) (fun _ _ => by kernel_rfl) (by kernel_rfl) (fun _ => rfl) z156
noncomputable def zu1 : Code := (loopAt (Tryz.f46.body.getD .skip) 0 2).getD .skip
theorem z16p (s : z16) : round z2x z14y zu1 2 (zet s) = (z5f s).map (sumE zet zg4) := by kernel_rfl
theorem z1b4 : LpOk z2x zu1 2 := mkLoop_ok (A := zns) (B := zyq) (f := zli) (L := z57 none) (tO_ok (cPair_ok (cInt_ok .u32) cUnit_ok) (tO_ok (cPair_ok cStr_ok cUnit_ok) (tO_ok (cPair_ok (cSl_ok 9) cUnit_ok) (tO_ok (cPair_ok (cInt_ok .i64) cUnit_ok) (tO_ok (cPair_ok (cInt_ok .i64) cUnit_ok) (tO_ok (cPair_ok (cInt_ok .i64) cUnit_ok) (tO_ok (cPair_ok (cInt_ok .i64) cUnit_ok) (tO_ok (cPair_ok (cInt_ok .i64) cUnit_ok) tNil_ok)))))))) bNil_ok (enc := zet) (out := zw7) (outS := zg4) (step := z5f) (fun _ => rfl) (fun _ _ => by kernel_rfl) (by kernel_rfl) (fun _ => rfl) z16p
theorem z1ez (x : (List (List UInt8)) × Unit) (g : Unit) : execF z2x Tryz.f46 (zuy.enc x) (bNil.enc g) = (zd1 none x.1).map zlg := by kernel_rfl
theorem zao : FnOk Tryz.prog cd 46 z6f := mk_ok (E := z2x) cd_ok z101 Tryz.func46 (by kernel_rfl) (loops_of (addL_ok z1bn (addL_ok z1cj (addL_ok z1b4 noL_ok)))) (aO_ok (cSl_ok 9) (aNil_ok)) bNil_ok (T := fun x _ => zd1 none x.1) (fun _ _ => rfl) z1ez
noncomputable def fns46 := addF 46 true z6f fns45
theorem znz : ∀ f q t, fns46 f = some (q, t) → FnOk Tryz.prog cd f t := addF_ok zao z101
/-- emulator/octet.Open -/
noncomputable def zcs (q : Option Nat) (x0 : (List UInt8)) : Tree ((List UInt8) × Int) :=
  .ite (decide ((IntKind.wrap .i64 ((x0.length : Int) - (4 : Int))) < (0 : Int)))
    (.leaf ((([] : List UInt8), (8 : Int))))
    (.ite (decide (0 ≤ IntKind.wrap .i64 ((x0.length : Int) - (4 : Int))))
      (.ite (decide (IntKind.wrap .i64 ((x0.length : Int) - (4 : Int)) ≤ ((x0.length : Nat) : Int)))
        (.ite (decide (0 ≤ IntKind.wrap .i64 ((x0.length : Int) - (4 : Int))))
          (.ite (decide (IntKind.wrap .i64 ((x0.length : Int) - (4 : Int)) ≤ ((x0.length : Nat) : Int)))
            (.opt Int (z4n q ([(x0.drop (0)).take ((IntKind.wrap .i64 ((x0.length : Int) - (4 : Int))).toNat - 0)])) fun r8 =>
              .opt (List UInt8) (zn q r8 (4 : Int)) fun r9 =>
                .ite (!decide (((x0.drop ((IntKind.wrap .i64 ((x0.length : Int) - (4 : Int))).toNat)).take (x0.length - (IntKind.wrap .i64 ((x0.length : Int) - (4 : Int))).toNat)) = r9))
                  (.leaf ((([] : List UInt8), (10 : Int))))
                  (.ite (decide (0 ≤ IntKind.wrap .i64 ((x0.length : Int) - (4 : Int))))
                    (.ite (decide (IntKind.wrap .i64 ((x0.length : Int) - (4 : Int)) ≤ ((x0.length : Nat) : Int)))
                      (.leaf (((x0.drop (0)).take ((IntKind.wrap .i64 ((x0.length : Int) - (4 : Int))).toNat - 0), (0 : Int))))
                      .fail)
                    .fail))
            .fail)
          .fail)
        .fail)
      .fail)
noncomputable def zcx (q : Option Nat) (x0 : (List UInt8)) : Option ((List UInt8) × Int) := (zcs q x0).run
noncomputable def z134 : Arg U ((List UInt8) × Unit) := aO cStr (aNil)
noncomputable def zmp (r : ((List UInt8) × Int)) : List (V U) × List (Blk U) := ([vO cStr r.1, vO (cInt .i64) r.2], [])
noncomputable def z120 : List (V U) → List (Blk U) → Option (FnOut U) := mkSpec z134 bNil (fun x _ => zcx none x.1) zmp
noncomputable def zxx : Env U := { P := Tryz.prog, cd := cd, fns := (addF 46 false (frzSpec z6f) fns46), lps := noL, frz := fun _r => false, nt := 23, n0 := 0, fps := fun _r _i => bif Nat.beq _r 4 && Nat.beq _i 2 then .rd [] else bif Nat.beq _r 4 && Nat.beq _i 7 then .wr [0] 1 else .none }
theorem z16f (x : (List UInt8) × Unit) (g : Unit) : execF zxx Tryz.f18 (z134.enc x) (bNil.enc g) = (zcs none x.1).map zmp := by kernel_rfl
theorem z19y : FnOk Tryz.prog cd 18 z120 := mk_ok (E := zxx) cd_ok (addF_ok (fnOk_frz cd_ok (mkSpec_out fun _ => rfl) zao) znz) Tryz.func18 (by kernel_rfl) (noLoops_body (by kernel_rfl)) (aO_ok cStr_ok (aNil_ok)) bNil_ok (T := fun x _ => zcs none x.1) (fun _ _ => rfl) z16f
noncomputable def fns18 := addF 18 true z120 fns46
theorem zuw : ∀ f q t, fns18 f = some (q, t) → FnOk Tryz.prog cd f t := addF_ok z19y znz
/-- internal/stringslite.HasPrefix -/
noncomputable def zal (x0 : (List UInt8)) (x1 : (List UInt8)) : Tree Bool :=
  .ite (decide ((x1.length : Int) ≤ (x0.length : Int)))
    (.ite (decide (0 ≤ (x1.length : Int)))
      (.ite (decide ((x1.length : Int) ≤ ((x0.length : Nat) : Int)))
        (.leaf (decide (((x0.drop (0)).take (((x1.length : Int)).toNat - 0)) = x1)))
        .fail)
      .fail)
    (.leaf (false))
noncomputable def zf5 (x0 : (List UInt8)) (x1 : (List UInt8)) : Option Bool := (zal x0 x1).run
noncomputable def zl2 : Arg U ((List UInt8) × (List UInt8) × Unit) := aO cStr (aO cStr (aNil))
noncomputable def zz2 (r : Bool) : List (V U) × List (Blk U) := ([vO cBool r], [])
noncomputable def zwz : List (V U) → List (Blk U) → Option (FnOut U) := mkSpec zl2 bNil (fun x _ => zf5 x.1 x.2.1) zz2
noncomputable def z13y : Env U := { P := Tryz.prog, cd := cd, fns := fns18, lps := noL, frz := fun _r => false, nt := 18, n0 := 0 }
theorem z1f6 (x : (List UInt8) × (List UInt8) × Unit) (g : Unit) : execF z13y Tryz.f47 (zl2.enc x) (bNil.enc g) = (zal x.1 x.2.1).map zz2 := by kernel_rfl
theorem z19s : FnOk Tryz.prog cd 47 zwz := mk_ok (E := z13y) cd_ok zuw Tryz.func47 (by kernel_rfl) (noLoops_body (by kernel_rfl)) (aO_ok cStr_ok (aO_ok cStr_ok (aNil_ok))) bNil_ok (T := fun x _ => zal x.1 x.2.1) (fun _ _ => rfl) z1f6
noncomputable def fns47 := addF 47 true zwz fns18
theorem zwl : ∀ f q t, fns47 f = some (q, t) → FnOk Tryz.prog cd f t := addF_ok z19s zuw
/-- strings.HasPrefix -/
noncomputable def zbk (x0 : (List UInt8)) (x1 : (List UInt8)) : Tree Bool :=
  .opt Bool (zf5 x0 x1) fun r10 =>
    .leaf (r10)
noncomputable def zdk (x0 : (List UInt8)) (x1 : (List UInt8)) : Option Bool := (zbk x0 x1).run
noncomputable def z124 : Arg U ((List UInt8) × (List UInt8) × Unit) := aO cStr (aO cStr (aNil))
noncomputable def zwn (r : Bool) : List (V U) × List (Blk U) := ([vO cBool r], [])
noncomputable def zsi : List (V U) → List (Blk U) → Option (FnOut U) := mkSpec z124 bNil (fun x _ => zdk x.1 x.2.1) zwn
noncomputable def zuq : Env U := { P := Tryz.prog, cd := cd, fns := fns47, lps := noL, frz := fun _r => false, nt := 8, n0 := 0 }
theorem z1bs (x : (List UInt8) × (List UInt8) × Unit) (g : Unit) : execF zuq Tryz.f19 (z124.enc x) (bNil.enc g) = (zbk x.1 x.2.1).map zwn := by kernel_rfl
theorem z178 : FnOk Tryz.prog cd 19 zsi := mk_ok (E := zuq) cd_ok zwl Tryz.func19 (by kernel_rfl) (noLoops_body (by kernel_rfl)) (aO_ok cStr_ok (aO_ok cStr_ok (aNil_ok))) bNil_ok (T := fun x _ => zbk x.1 x.2.1) (fun _ _ => rfl) z1bs
noncomputable def fns19 := addF 19 true zsi fns47
theorem zm9 : ∀ f q t, fns19 f = some (q, t) → FnOk Tryz.prog cd f t := addF_ok z178 zwl
/-- emulator/octet.Get -/
structure z2f where
  t0 : (List UInt8)
  t1 : Int
  t2 : Int
  t9 : Int
  t10 : Int
noncomputable def z5v (s : z2f) : Tree (z2f ⊕ (Int × Int × Int)) :=
  .ite (decide ((0 : Int) ≤ s.t10))
    (.ite (decide (0 ≤ (8 : Int)))
      (.ite (decide (0 ≤ IntKind.wrap .i64 (s.t1 + s.t10)))
        (.opt UInt8 (s.t0[(IntKind.wrap .i64 (s.t1 + s.t10)).toNat]?) fun y11 =>
          .leaf (.inl (z2f.mk s.t0 s.t1 s.t2 (IntKind.wrap .i64 (((BitVec.ofInt 64 (IntKind.wrap .i64 (s.t9 * 2 ^ (min ((8 : Int)).toNat 64))) ||| BitVec.ofInt 64 (IntKind.wrap .i64 (y11.toNat : Int))).toNat : Int))) (IntKind.wrap .i64 (s.t10 - (1 : Int))))))
        .fail)
      .fail)
    (.leaf (.inr (s.t1, s.t2, s.t9)))
noncomputable def z6r (q : Option Nat) (s : z2f) : Option (Int × Int × Int) := limQ q (fun s => (z5v s).run) s
noncomputable def zap (q : Option Nat) (x0 : (List UInt8)) (x1 : Int) (x2 : Int) : Tree (Int × Int × Int) :=
  .ite (decide (x2 < (1 : Int)))
    (.leaf (((0 : Int), (0 : Int), (1 : Int))))
    (.ite (decide ((7 : Int) < x2))
      (.leaf (((0 : Int), (0 : Int), (1 : Int))))
      (.ite (decide (x1 < (0 : Int)))
        (.leaf (((0 : Int), (0 : Int), (1 : Int))))
        (.ite (decide ((x0.length : Int) < x1))
          (.leaf (((0 : Int), (0 : Int), (1 : Int))))
          (.ite (decide ((IntKind.wrap .i64 ((x0.length : Int) - x1)) < x2))
            (.leaf (((0 : Int), (0 : Int), (8 : Int))))
            (.opt (Int × Int × Int) (z6r q (z2f.mk x0 x1 x2 (0 : Int) (IntKind.wrap .i64 (x2 - (1 : Int))))) fun l12 =>
              .leaf ((l12.2.2, IntKind.wrap .i64 (l12.1 + l12.2.1), (0 : Int))))))))
noncomputable def z4f (q : Option Nat) (x0 : (List UInt8)) (x1 : Int) (x2 : Int) : Option (Int × Int × Int) := (zap q x0 x1 x2).run
noncomputable def z107 : Arg U ((List UInt8) × Int × Int × Unit) := aO cStr (aO (cInt .i64) (aO (cInt .i64) (aNil)))
noncomputable def zuf (r : (Int × Int × Int)) : List (V U) × List (Blk U) := ([vO (cInt .i64) r.1, vO (cInt .i64) r.2.1, vO (cInt .i64) r.2.2], [])
noncomputable def zr0 : List (V U) → List (Blk U) → Option (FnOut U) := mkSpec z107 bNil (fun x _ => z4f none x.1 x.2.1 x.2.2.1) zuf
noncomputable def z144 (x : ((List UInt8) × Unit) × (Int × Unit) × (Int × Unit) × (Int × Unit) × (Int × Unit) × Unit) (_g : Unit) : z2f := z2f.mk x.1.1 x.2.1.1 x.2.2.1.1 x.2.2.2.1.1 x.2.2.2.2.1.1
noncomputable def zy7 : Tms U (((List UInt8) × Unit) × (Int × Unit) × (Int × Unit) × (Int × Unit) × (Int × Unit) × Unit) := tO 0 (cPair cStr (cUnit)) (tO 1 (cPair (cInt .i64) (cUnit)) (tO 2 (cPair (cInt .i64) (cUnit)) (tO 9 (cPair (cInt .i64) (cUnit)) (tO 10 (cPair (cInt .i64) (cUnit)) (tNil)))))
noncomputable def zo2 : Bls U (Unit) := bNil
noncomputable def zhj (s : z2f) : St U := { tm := [(0, .v (vO (cPair cStr (cUnit)) (s.t0, ()))), (1, .v (vO (cPair (cInt .i64) (cUnit)) (s.t1, ()))), (2, .v (vO (cPair (cInt .i64) (cUnit)) (s.t2, ()))), (9, .v (vO (cPair (cInt .i64) (cUnit)) (s.t9, ()))), (10, .v (vO (cPair (cInt .i64) (cUnit)) (s.t10, ())))], hp := [] }
noncomputable def zfc (r : (Int × Int × Int)) : Ex × St U := (.exit 0, { tm := [(1, .v (vO (cPair (cInt .i64) (cUnit)) (r.1, ()))), (2, .v (vO (cPair (cInt .i64) (cUnit)) (r.2.1, ()))), (9, .v (vO (cPair (cInt .i64) (cUnit)) (r.2.2, ())))], hp := [] })
noncomputable def zui (r : (Int × Int × Int)) : Tree (Ex × St U) := .leaf (zfc r)
noncomputable def zk8 : Hd := { keep := [0, 1, 2, 9, 10], xkeep := [1, 2, 6, 7, 8, 9], own := false }
noncomputable def zak : Env U := { P := Tryz.prog, cd := cd, fns := fns19, lps := (addL 0 zk8 (mkLoop zy7 zo2 z144 (z6r none) zui) noL), frz := fun _r => false, nt := 52, n0 := 0 }
noncomputable def zm1 : Code := (loopAt (Tryz.f50.body.getD .skip) 0 0).getD .skip
theorem z1bx (s : z2f) : round zak zk8 zm1 0 (zhj s) = (z5v s).map (sumE zhj zfc) := by kernel_rfl
theorem z163 : LpOk zak zm1 0 := mkLoop_ok (A := zy7) (B := zo2) (f := z144) (L := z6r none) (tO_ok (cPair_ok cStr_ok cUnit_ok) (tO_ok (cPair_ok (cInt_ok .i64) cUnit_ok) (tO_ok (cPair_ok (cInt_ok .i64) cUnit_ok) (tO_ok (cPair_ok (cInt_ok .i64) cUnit_ok) (tO_ok (cPair_ok (cInt_ok .i64) cUnit_ok) tNil_ok))))) bNil_ok (enc := zhj) (out := zui) (outS := zfc) (step := z5v) (fun _ => rfl) (fun _ _ => by kernel_rfl) (by kernel_rfl) (fun _ => rfl) z1bx
theorem z1bh (x : (List UInt8) × Int × Int × Unit) (g : Unit) : execF zak Tryz.f50 (z107.enc x) (bNil.enc g) = (zap none x.1 x.2.1 x.2.2.1).map zuf := by kernel_rfl
theorem z1ch : FnOk Tryz.prog cd 50 zr0 := mk_ok (E := zak) cd_ok zm9 Tryz.func50 (by kernel_rfl) (loops_of (addL_ok z163 noL_ok)) (aO_ok cStr_ok (aO_ok (cInt_ok .i64) (aO_ok (cInt_ok .i64) (aNil_ok)))) bNil_ok (T := fun x _ => zap none x.1 x.2.1 x.2.2.1) (fun _ _ => rfl) z1bh
noncomputable def fns50 := addF 50 true zr0 fns19
theorem zjh : ∀ f q t, fns50 f = some (q, t) → FnOk Tryz.prog cd f t := addF_ok z1ch zm9
/-- emulator/memory.sized -/
noncomputable def zh9 (x0 : Int) : Tree Bool :=
  .ite (decide ((256 : Int) ≤ x0))
    (.ite (decide (x0 ≤ (32768 : Int)))
      (.ite (decide ((64 : Int) = 0))
        .fail
        (.leaf (decide (((x0).tmod (64 : Int)) = (0 : Int)))))
      (.leaf (false)))
    (.leaf (false))
noncomputable def zdq (x0 : Int) : Option Bool := (zh9 x0).run
noncomputable def zti : Arg U (Int × Unit) := aO (cInt .i64) (aNil)
noncomputable def zxz (r : Bool) : List (V U) × List (Blk U) := ([vO cBool r], [])
noncomputable def zjg : List (V U) → List (Blk U) → Option (FnOut U) := mkSpec zti bNil (fun x _ => zdq x.1) zxz
noncomputable def zqb : Env U := { P := Tryz.prog, cd := cd, fns := fns50, lps := noL, frz := fun _r => false, nt := 14, n0 := 0 }
theorem z1d7 (x : Int × Unit) (g : Unit) : execF zqb Tryz.f121 (zti.enc x) (bNil.enc g) = (zh9 x.1).map zxz := by kernel_rfl
theorem z1al : FnOk Tryz.prog cd 121 zjg := mk_ok (E := zqb) cd_ok zjh Tryz.func121 (by kernel_rfl) (noLoops_body (by kernel_rfl)) (aO_ok (cInt_ok .i64) (aNil_ok)) bNil_ok (T := fun x _ => zh9 x.1) (fun _ _ => rfl) z1d7
noncomputable def fns121 := addF 121 true zjg fns50
theorem zpa : ∀ f q t, fns121 f = some (q, t) → FnOk Tryz.prog cd f t := addF_ok z1al zjh
/-- emulator/memory.Right -/
structure zw where
  t0 : (List Int)
  t1 : (List Int)
  t15 : (List Int)
  t16 : Int
  t17 : Int
noncomputable def z3k (s : zw) : Tree (zw ⊕ (((List Int) × (List Int) × Bool) ⊕ ((List Int) × (List Int)))) :=
  .ite (decide (s.t17 < s.t16))
    (.ite (decide (0 ≤ s.t17))
      (.opt Int (s.t15[(s.t17).toNat]?) fun y14 =>
        .ite (!decide ((IntKind.wrap .i64 (((BitVec.ofInt 64 y14 &&& BitVec.ofInt 64 (65535 : Int)).toNat : Int))) = y14))
          (.leaf (.inr (.inl (s.t0, s.t1, false))))
          (.leaf (.inl (zw.mk s.t0 s.t1 s.t15 s.t16 (IntKind.wrap .i64 (s.t17 + (1 : Int)))))))
      .fail)
    (.leaf (.inr (.inr (s.t0, s.t1))))
noncomputable def z61 (q : Option Nat) (s : zw) : Option (((List Int) × (List Int) × Bool) ⊕ ((List Int) × (List Int))) := limQ q (fun s => (z3k s).run) s
theorem z15r (k : Nat) (s : zw) : Le (z61 (some k) s) (z61 none s) := limQ_le (fun _ => Le.rfl) s
structure z17 where
  t0 : (List Int)
  t7 : Int
  t26 : (List Int)
  t27 : Int
  t28 : Int
noncomputable def z27 (s : z17) : Tree (z17 ⊕ (Bool ⊕ Unit)) :=
  .ite (decide (s.t28 < s.t27))
    (.ite (decide (0 ≤ s.t28))
      (.opt Int (s.t26[(s.t28).toNat]?) fun y18 =>
        .ite (decide (y18 ≤ s.t7))
          (.leaf (.inr (.inl false)))
          (.ite (decide ((2 : Int) = 0))
            .fail
            (.ite (!decide (((y18).tmod (2 : Int)) = (0 : Int)))
              (.leaf (.inr (.inl false)))
              (.ite (decide ((IntKind.wrap .i64 ((2 : Int) * (s.t0.length : Int))) ≤ y18))
                (.leaf (.inr (.inl false)))
                (.leaf (.inl (z17.mk s.t0 y18 s.t26 s.t27 (IntKind.wrap .i64 (s.t28 + (1 : Int))))))))))
      .fail)
    (.leaf (.inr (.inr ())))
noncomputable def z5a (q : Option Nat) (s : z17) : Option (Bool ⊕ Unit) := limQ q (fun s => (z27 s).run) s
theorem z1cc (k : Nat) (s : z17) : Le (z5a (some k) s) (z5a none s) := limQ_le (fun _ => Le.rfl) s
noncomputable def z9m (q : Option Nat) (x0 : (List Int)) (x1 : (List Int)) : Tree Bool :=
  .opt Bool (zdq (IntKind.wrap .i64 ((2 : Int) * (x0.length : Int)))) fun r13 =>
    .ite (!r13)
      (.leaf (false))
      (.opt (((List Int) × (List Int) × Bool) ⊕ ((List Int) × (List Int))) (z61 q (zw.mk x0 x1 x0 (x0.length : Int) (0 : Int))) fun l15 =>
        .ite (l15.isLeft)
          (.opt ((List Int) × (List Int) × Bool) (l15.getLeft?) fun a16 =>
            .leaf (a16.2.2))
          (.opt ((List Int) × (List Int)) (l15.getRight?) fun b17 =>
            .opt (Bool ⊕ Unit) (z5a q (z17.mk b17.1 (-1 : Int) b17.2 (b17.2.length : Int) (0 : Int))) fun l19 =>
              .ite (l19.isLeft)
                (.opt Bool (l19.getLeft?) fun a20 =>
                  .leaf (a20))
                (.opt Unit (l19.getRight?) fun b21 =>
                  .leaf (true))))
noncomputable def z52 (q : Option Nat) (x0 : (List Int)) (x1 : (List Int)) : Option Bool := (z9m q x0 x1).run
theorem z19g (k : Nat) (x0 : (List Int)) (x1 : (List Int)) : Le (z52 (some k) x0 x1) (z52 none x0 x1) := (TLe.opt Le.rfl fun _ => (TLe.ite TLe.rfl (TLe.opt (z15r k _) fun _ => (TLe.ite TLe.rfl (TLe.opt Le.rfl fun _ => (TLe.opt (z1cc k _) fun _ => TLe.rfl))))))
noncomputable def z10z : Arg U ((List Int) × (List Int) × Unit) := aO (cSl 3) (aO (cSl 3) (aNil))
noncomputable def zk1 (r : Bool) : List (V U) × List (Blk U) := ([vO cBool r], [])
noncomputable def z112 : List (V U) → List (Blk U) → Option (FnOut U) := mkSpec z10z bNil (fun x _ => z52 none x.1 x.2.1) zk1
noncomputable def zsm (x : ((List Int) × Unit) × ((List Int) × Unit) × ((List Int) × Unit) × (Int × Unit) × (Int × Unit) × Unit) (_g : Unit) : zw := zw.mk x.1.1 x.2.1.1 x.2.2.1.1 x.2.2.2.1.1 x.2.2.2.2.1.1
noncomputable def zoc : Tms U (((List Int) × Unit) × ((List Int) × Unit) × ((List Int) × Unit) × (Int × Unit) × (Int × Unit) × Unit) := tO 0 (cPair (cSl 3) (cUnit)) (tO 1 (cPair (cSl 3) (cUnit)) (tO 15 (cPair (cSl 3) (cUnit)) (tO 16 (cPair (cInt .i64) (cUnit)) (tO 17 (cPair (cInt .i64) (cUnit)) (tNil)))))
noncomputable def zzf : Bls U (Unit) := bNil
noncomputable def zeg (s : zw) : St U := { tm := [(0, .v (vO (cPair (cSl 3) (cUnit)) (s.t0, ()))), (1, .v (vO (cPair (cSl 3) (cUnit)) (s.t1, ()))), (15, .v (vO (cPair (cSl 3) (cUnit)) (s.t15, ()))), (16, .v (vO (cPair (cInt .i64) (cUnit)) (s.t16, ()))), (17, .v (vO (cPair (cInt .i64) (cUnit)) (s.t17, ())))], hp := [] }
noncomputable def zpr : (((List Int) × (List Int) × Bool) ⊕ ((List Int) × (List Int))) → Ex × St U
  | .inl r => (.ret, { tm := [(0, .v (vO (cPair (cSl 3) (cUnit)) (r.1, ()))), (1, .v (vO (cPair (cSl 3) (cUnit)) (r.2.1, ()))), (4, .v (vO (cPair cBool (cUnit)) (r.2.2, ())))], hp := [] })
  | .inr r => (.exit 0, { tm := [(0, .v (vO (cPair (cSl 3) (cUnit)) (r.1, ()))), (1, .v (vO (cPair (cSl 3) (cUnit)) (r.2, ())))], hp := [] })
noncomputable def z133 (y : (((List Int) × (List Int) × Bool) ⊕ ((List Int) × (List Int)))) : Tree (Ex × St U) := .ite y.isLeft (.opt ((List Int) × (List Int) × Bool) y.getLeft? fun r => .leaf (.ret, { tm := [(0, .v (vO (cPair (cSl 3) (cUnit)) (r.1, ()))), (1, .v (vO (cPair (cSl 3) (cUnit)) (r.2.1, ()))), (4, .v (vO (cPair cBool (cUnit)) (r.2.2, ())))], hp := [] })) (.opt ((List Int) × (List Int)) y.getRight? fun r => .leaf (.exit 0, { tm := [(0, .v (vO (cPair (cSl 3) (cUnit)) (r.1, ()))), (1, .v (vO (cPair (cSl 3) (cUnit)) (r.2, ())))], hp := [] }))
noncomputable def zrw : Hd := { keep := [0, 1, 15, 16, 17], xkeep := [0, 1, 4], own := false }
noncomputable def zx7 (x : ((List Int) × Unit) × (Int × Unit) × ((List Int) × Unit) × (Int × Unit) × (Int × Unit) × Unit) (_g : Unit) : z17 := z17.mk x.1.1 x.2.1.1 x.2.2.1.1 x.2.2.2.1.1 x.2.2.2.2.1.1
noncomputable def zq6 : Tms U (((List Int) × Unit) × (Int × Unit) × ((List Int) × Unit) × (Int × Unit) × (Int × Unit) × Unit) := tO 0 (cPair (cSl 3) (cUnit)) (tO 7 (cPair (cInt .i64) (cUnit)) (tO 26 (cPair (cSl 3) (cUnit)) (tO 27 (cPair (cInt .i64) (cUnit)) (tO 28 (cPair (cInt .i64) (cUnit)) (tNil)))))
noncomputable def zoe : Bls U (Unit) := bNil
noncomputable def zeu (s : z17) : St U := { tm := [(0, .v (vO (cPair (cSl 3) (cUnit)) (s.t0, ()))), (7, .v (vO (cPair (cInt .i64) (cUnit)) (s.t7, ()))), (26, .v (vO (cPair (cSl 3) (cUnit)) (s.t26, ()))), (27, .v (vO (cPair (cInt .i64) (cUnit)) (s.t27, ()))), (28, .v (vO (cPair (cInt .i64) (cUnit)) (s.t28, ())))], hp := [] }
noncomputable def zjz : (Bool ⊕ Unit) → Ex × St U
  | .inl r => (.ret, { tm := [(4, .v (vO (cPair cBool (cUnit)) (r, ())))], hp := [] })
  | .inr r => (.exit 2, { tm := [], hp := [] })
noncomputable def zoa (y : (Bool ⊕ Unit)) : Tree (Ex × St U) := .ite y.isLeft (.opt Bool y.getLeft? fun r => .leaf (.ret, { tm := [(4, .v (vO (cPair cBool (cUnit)) (r, ())))], hp := [] })) (.opt Unit y.getRight? fun r => .leaf (.exit 2, { tm := [], hp := [] }))
noncomputable def zy2 : Hd := { keep := [0, 7, 26, 27, 28], xkeep := [4], own := false }
noncomputable def z63 : Env U := { P := Tryz.prog, cd := cd, fns := fns121, lps := (addL 0 zrw (mkLoop zoc zzf zsm (z61 none) z133) (addL 1 zy2 (mkLoop zq6 zoe zx7 (z5a none) zoa) noL)), frz := fun _r => false, nt := 49, n0 := 0 }
noncomputable def z12m : Code := (loopAt (Tryz.f107.body.getD .skip) 0 0).getD .skip
theorem z1fc (s : zw) : round z63 zrw z12m 0 (zeg s) = (z3k s).map (sumE zeg zpr) := by kernel_rfl
theorem z1cx : LpOk z63 z12m 0 := mkLoop_ok (A := zoc) (B := zzf) (f := zsm) (L := z61 none) (tO_ok (cPair_ok (cSl_ok 3) cUnit_ok) (tO_ok (cPair_ok (cSl_ok 3) cUnit_ok) (tO_ok (cPair_ok (cSl_ok 3) cUnit_ok) (tO_ok (cPair_ok (cInt_ok .i64) cUnit_ok) (tO_ok (cPair_ok (cInt_ok .i64) cUnit_ok) tNil_ok))))) bNil_ok (enc := zeg) (out := z133) (outS := zpr) (step := z3k) (fun _ => rfl) (fun _ _ => by kernel_rfl) (by kernel_rfl) (fun b => by cases b <;> rfl) z1fc
noncomputable def zvf : Code := (loopAt (Tryz.f107.body.getD .skip) 0 1).getD .skip
theorem z15j (s : z17) : round z63 zy2 zvf 1 (zeu s) = (z27 s).map (sumE zeu zjz) := by kernel_rfl
theorem z15n : LpOk z63 zvf 1 := mkLoop_ok (A := zq6) (B := zoe) (f := zx7) (L := z5a none) (tO_ok (cPair_ok (cSl_ok 3) cUnit_ok) (tO_ok (cPair_ok (cInt_ok .i64) cUnit_ok) (tO_ok (cPair_ok (cSl_ok 3) cUnit_ok) (tO_ok (cPair_ok (cInt_ok .i64) cUnit_ok) (tO_ok (cPair_ok (cInt_ok .i64) cUnit_ok) tNil_ok))))) bNil_ok (enc := zeu) (out := zoa) (outS := zjz) (step := z27) (fun _ => rfl) (fun _ _ => by kernel_rfl) (by kernel_rfl) (fun b => by cases b <;> rfl) z15j
theorem z17o (x : (List Int) × (List Int) × Unit) (g : Unit) : execF z63 Tryz.f107 (z10z.enc x) (bNil.enc g) = (z9m none x.1 x.2.1).map zk1 := by kernel_rfl
theorem z1c4 : FnOk Tryz.prog cd 107 z112 := mk_ok (E := z63) cd_ok zpa Tryz.func107 (by kernel_rfl) (loops_of (addL_ok z1cx (addL_ok z15n noL_ok))) (aO_ok (cSl_ok 3) (aO_ok (cSl_ok 3) (aNil_ok))) bNil_ok (T := fun x _ => z9m none x.1 x.2.1) (fun _ _ => rfl) z17o
noncomputable def fns107 := addF 107 true z112 fns121
theorem zwh : ∀ f q t, fns107 f = some (q, t) → FnOk Tryz.prog cd f t := addF_ok z1c4 zpa
/-- emulator/mmu.from -/
noncomputable def z9f (x0 : Int) (x1 : Int) : Tree Bool :=
  .ite (decide ((0 : Int) ≤ x0))
    (.leaf (decide (x0 ≤ x1)))
    (.leaf (false))
noncomputable def z30 (x0 : Int) (x1 : Int) : Option Bool := (z9f x0 x1).run
noncomputable def zx5 : Arg U (Int × Int × Unit) := aO (cInt .i64) (aO (cInt .i64) (aNil))
noncomputable def z12v (r : Bool) : List (V U) × List (Blk U) := ([vO cBool r], [])
noncomputable def zwe : List (V U) → List (Blk U) → Option (FnOut U) := mkSpec zx5 bNil (fun x _ => z30 x.1 x.2.1) z12v
noncomputable def zpn : Env U := { P := Tryz.prog, cd := cd, fns := fns107, lps := noL, frz := fun _r => false, nt := 12, n0 := 0 }
theorem z1f5 (x : Int × Int × Unit) (g : Unit) : execF zpn Tryz.f136 (zx5.enc x) (bNil.enc g) = (z9f x.1 x.2.1).map z12v := by kernel_rfl
theorem z1er : FnOk Tryz.prog cd 136 zwe := mk_ok (E := zpn) cd_ok zwh Tryz.func136 (by kernel_rfl) (noLoops_body (by kernel_rfl)) (aO_ok (cInt_ok .i64) (aO_ok (cInt_ok .i64) (aNil_ok))) bNil_ok (T := fun x _ => z9f x.1 x.2.1) (fun _ _ => rfl) z1f5
noncomputable def fns136 := addF 136 true zwe fns107
theorem zl5 : ∀ f q t, fns136 f = some (q, t) → FnOk Tryz.prog cd f t := addF_ok z1er zwh
/-- emulator/mmu.Right -/
structure z1d where
  t8_0 : (List Page)
  t9 : Int
  t12_0 : (List Page)
  t13 : Int
  b0 : Mmu
noncomputable def z48 (s : z1d) : Tree (z1d ⊕ ((Bool × (List Page) × Int × Mmu) ⊕ ((List Page) × Int × Mmu))) :=
  .ite (decide (s.t13 < (8 : Int)))
    (.ite (decide (0 ≤ s.t13))
      (.ite (decide (s.t13 < (8 : Int)))
        (.opt Page (s.t12_0[(s.t13).toNat]?) fun y22 =>
          .opt Bool (z30 y22.base (4095 : Int)) fun r23 =>
            .ite (!r23)
              (.leaf (.inr (.inl (false, s.t8_0, s.t9, s.b0))))
              (.opt Bool (z30 y22.length (128 : Int)) fun r24 =>
                .ite (!r24)
                  (.leaf (.inr (.inl (false, s.t8_0, s.t9, s.b0))))
                  (.opt Bool (z30 y22.access (2 : Int)) fun r25 =>
                    .ite (!r25)
                      (.leaf (.inr (.inl (false, s.t8_0, s.t9, s.b0))))
                      (.leaf (.inl (z1d.mk s.t8_0 s.t9 s.t12_0 (IntKind.wrap .i64 (s.t13 + (1 : Int))) s.b0))))))
        .fail)
      .fail)
    (.leaf (.inr (.inr (s.t8_0, s.t9, s.b0))))
noncomputable def z3p (q : Option Nat) (s : z1d) : Option ((Bool × (List Page) × Int × Mmu) ⊕ ((List Page) × Int × Mmu)) := limQ q (fun s => (z48 s).run) s
theorem z17h (k : Nat) (s : z1d) : Le (z3p (some k) s) (z3p none s) := limQ_le (fun _ => Le.rfl) s
structure z11 where
  t8_0 : (List Page)
  t9 : Int
  b0 : Mmu
noncomputable def z3m (q : Option Nat) (s : z11) : Tree (z11 ⊕ ((Bool × Mmu) ⊕ Mmu)) :=
  .ite (decide (s.t9 < (2 : Int)))
    (.ite (decide (0 ≤ s.t9))
      (.ite (decide (s.t9 < (2 : Int)))
        (.ite (decide ((s.t9).toNat * 8 + 8 ≤ s.t8_0.length))
          (.opt ((Bool × (List Page) × Int × Mmu) ⊕ ((List Page) × Int × Mmu)) (z3p q (z1d.mk s.t8_0 s.t9 ((s.t8_0.drop ((s.t9).toNat * 8)).take 8) (0 : Int) s.b0)) fun l26 =>
            .ite (l26.isLeft)
              (.opt (Bool × (List Page) × Int × Mmu) (l26.getLeft?) fun a27 =>
                .leaf (.inr (.inl (a27.1, a27.2.2.2))))
              (.opt ((List Page) × Int × Mmu) (l26.getRight?) fun b28 =>
                .leaf (.inl (z11.mk b28.1 (IntKind.wrap .i64 (b28.2.1 + (1 : Int))) b28.2.2))))
          .fail)
        .fail)
      .fail)
    (.leaf (.inr (.inr s.b0)))
noncomputable def z3u (q : Option Nat) (s : z11) : Option ((Bool × Mmu) ⊕ Mmu) := limQ q (fun s => (z3m q s).run) s
theorem z19u (k : Nat) (s : z11) : Le (z3u (some k) s) (z3u none s) := limQ_le (fun s => (TLe.ite (TLe.ite (TLe.ite (TLe.ite (TLe.opt (z17h k _) fun _ => TLe.rfl) TLe.rfl) TLe.rfl) TLe.rfl) TLe.rfl)) s
noncomputable def z75 (q : Option Nat) (x0 : Mmu) : Tree Bool :=
  .opt ((Bool × Mmu) ⊕ Mmu) (z3u q (z11.mk x0.pages (0 : Int) x0)) fun l29 =>
    .ite (l29.isLeft)
      (.opt (Bool × Mmu) (l29.getLeft?) fun a30 =>
        .leaf (a30.1))
      (.opt Mmu (l29.getRight?) fun b31 =>
        .opt Bool (z30 b31.status (3 : Int)) fun r32 =>
          .ite (r32)
            (.opt Bool (z30 b31.addr (65535 : Int)) fun r33 =>
              .leaf (r33))
            (.leaf (false)))
noncomputable def z4g (q : Option Nat) (x0 : Mmu) : Option Bool := (z75 q x0).run
theorem z15w (k : Nat) (x0 : Mmu) : Le (z4g (some k) x0) (z4g none x0) := (TLe.opt (z19u k _) fun _ => TLe.rfl)
noncomputable def zpu : Arg U (Mmu × Unit) := aA cMmu (aNil)
noncomputable def zkq (r : Bool) : List (V U) × List (Blk U) := ([vO cBool r], [])
noncomputable def zpj : List (V U) → List (Blk U) → Option (FnOut U) := mkSpec zpu bNil (fun x _ => z4g none x.1) zkq
noncomputable def z100 (x : (Unit) × ((List Page) × Unit) × (Int × Unit) × Unit) (g : (Mmu × Unit) × Unit) : z11 := z11.mk x.2.1.1 x.2.2.1.1 g.1.1
noncomputable def zxd : Tms U ((Unit) × ((List Page) × Unit) × (Int × Unit) × Unit) := tO 1 (cK (.ptr 0 0) (cUnit)) (tA 8 (cPair (cArr 28 16) (cUnit)) (tO 9 (cPair (cInt .i64) (cUnit)) (tNil)))
noncomputable def zw2 : Bls U ((Mmu × Unit) × Unit) := bC (cPair cMmu (cUnit)) (bNil)
noncomputable def zit (s : z11) : St U := { tm := [(1, .v (vO (cK (.ptr 0 0) (cUnit)) (()))), (8, .v (vA (cPair (cArr 28 16) (cUnit)) (s.t8_0, ()))), (9, .v (vO (cPair (cInt .i64) (cUnit)) (s.t9, ())))], hp := [.cells ((cPair cMmu (cUnit) : Cdc U (Mmu × Unit)).enc (s.b0, ())) none] }
noncomputable def zvt : ((Bool × Mmu) ⊕ Mmu) → Ex × St U
  | .inl r => (.ret, { tm := [(1, .v (vO (cK (.ptr 0 0) (cUnit)) (()))), (2, .v (vO (cPair cBool (cUnit)) (r.1, ())))], hp := [.cells ((cPair cMmu (cUnit) : Cdc U (Mmu × Unit)).enc (r.2, ())) none] })
  | .inr r => (.exit 0, { tm := [(1, .v (vO (cK (.ptr 0 0) (cUnit)) (())))], hp := [.cells ((cPair cMmu (cUnit) : Cdc U (Mmu × Unit)).enc (r, ())) none] })
noncomputable def z119 (y : ((Bool × Mmu) ⊕ Mmu)) : Tree (Ex × St U) := .ite y.isLeft (.opt (Bool × Mmu) y.getLeft? fun r => .leaf (.ret, { tm := [(1, .v (vO (cK (.ptr 0 0) (cUnit)) (()))), (2, .v (vO (cPair cBool (cUnit)) (r.1, ())))], hp := [.cells ((cPair cMmu (cUnit) : Cdc U (Mmu × Unit)).enc (r.2, ())) none] })) (.opt Mmu y.getRight? fun r => .leaf (.exit 0, { tm := [(1, .v (vO (cK (.ptr 0 0) (cUnit)) (())))], hp := [.cells ((cPair cMmu (cUnit) : Cdc U (Mmu × Unit)).enc (r, ())) none] }))
noncomputable def zkx : Hd := { keep := [1, 8, 9], xkeep := [1, 2], own := false }
noncomputable def z123 (x : (Unit) × ((List Page) × Unit) × (Int × Unit) × ((List Page) × Unit) × (Int × Unit) × Unit) (g : (Mmu × Unit) × Unit) : z1d := z1d.mk x.2.1.1 x.2.2.1.1 x.2.2.2.1.1 x.2.2.2.2.1.1 g.1.1
noncomputable def z150 : Tms U ((Unit) × ((List Page) × Unit) × (Int × Unit) × ((List Page) × Unit) × (Int × Unit) × Unit) := tO 1 (cK (.ptr 0 0) (cUnit)) (tA 8 (cPair (cArr 28 16) (cUnit)) (tO 9 (cPair (cInt .i64) (cUnit)) (tA 12 (cPair (cArr 28 8) (cUnit)) (tO 13 (cPair (cInt .i64) (cUnit)) (tNil)))))
noncomputable def zut : Bls U ((Mmu × Unit) × Unit) := bC (cPair cMmu (cUnit)) (bNil)
noncomputable def zg6 (s : z1d) : St U := { tm := [(1, .v (vO (cK (.ptr 0 0) (cUnit)) (()))), (8, .v (vA (cPair (cArr 28 16) (cUnit)) (s.t8_0, ()))), (9, .v (vO (cPair (cInt .i64) (cUnit)) (s.t9, ()))), (12, .v (vA (cPair (cArr 28 8) (cUnit)) (s.t12_0, ()))), (13, .v (vO (cPair (cInt .i64) (cUnit)) (s.t13, ())))], hp := [.cells ((cPair cMmu (cUnit) : Cdc U (Mmu × Unit)).enc (s.b0, ())) none] }
noncomputable def ztp : ((Bool × (List Page) × Int × Mmu) ⊕ ((List Page) × Int × Mmu)) → Ex × St U
  | .inl r => (.ret, { tm := [(1, .v (vO (cK (.ptr 0 0) (cUnit)) (()))), (2, .v (vO (cPair cBool (cUnit)) (r.1, ()))), (8, .v (vA (cPair (cArr 28 16) (cUnit)) (r.2.1, ()))), (9, .v (vO (cPair (cInt .i64) (cUnit)) (r.2.2.1, ())))], hp := [.cells ((cPair cMmu (cUnit) : Cdc U (Mmu × Unit)).enc (r.2.2.2, ())) none] })
  | .inr r => (.exit 2, { tm := [(1, .v (vO (cK (.ptr 0 0) (cUnit)) (()))), (8, .v (vA (cPair (cArr 28 16) (cUnit)) (r.1, ()))), (9, .v (vO (cPair (cInt .i64) (cUnit)) (r.2.1, ())))], hp := [.cells ((cPair cMmu (cUnit) : Cdc U (Mmu × Unit)).enc (r.2.2, ())) none] })
noncomputable def z145 (y : ((Bool × (List Page) × Int × Mmu) ⊕ ((List Page) × Int × Mmu))) : Tree (Ex × St U) := .ite y.isLeft (.opt (Bool × (List Page) × Int × Mmu) y.getLeft? fun r => .leaf (.ret, { tm := [(1, .v (vO (cK (.ptr 0 0) (cUnit)) (()))), (2, .v (vO (cPair cBool (cUnit)) (r.1, ()))), (8, .v (vA (cPair (cArr 28 16) (cUnit)) (r.2.1, ()))), (9, .v (vO (cPair (cInt .i64) (cUnit)) (r.2.2.1, ())))], hp := [.cells ((cPair cMmu (cUnit) : Cdc U (Mmu × Unit)).enc (r.2.2.2, ())) none] })) (.opt ((List Page) × Int × Mmu) y.getRight? fun r => .leaf (.exit 2, { tm := [(1, .v (vO (cK (.ptr 0 0) (cUnit)) (()))), (8, .v (vA (cPair (cArr 28 16) (cUnit)) (r.1, ()))), (9, .v (vO (cPair (cInt .i64) (cUnit)) (r.2.1, ())))], hp := [.cells ((cPair cMmu (cUnit) : Cdc U (Mmu × Unit)).enc (r.2.2, ())) none] }))
noncomputable def z11z : Hd := { keep := [1, 8, 9, 12, 13], xkeep := [1, 2, 8, 9], own := false }
noncomputable def z4y : Env U := { P := Tryz.prog, cd := cd, fns := fns136, lps := (addL 0 zkx (mkLoop zxd zw2 z100 (z3u none) z119) (addL 1 z11z (mkLoop z150 zut z123 (z3p none) z145) noL)), frz := fun _r => false, nt := 42, n0 := 0 }
noncomputable def zsz : Code := (loopAt (Tryz.f108.body.getD .skip) 0 0).getD .skip
theorem z15d (s : z11) : round z4y zkx zsz 0 (zit s) = (z3m none s).map (sumE zit zvt) := by kernel_rfl
theorem z1fa : LpOk z4y zsz 0 := mkLoop_ok (A := zxd) (B := zw2) (f := z100) (L := z3u none) (tO_ok (cK_ok cUnit_ok) (tA_ok (cPair_ok (cArr_ok 28 16) cUnit_ok) (tO_ok (cPair_ok (cInt_ok .i64) cUnit_ok) tNil_ok))) (bC_ok (cPair_ok zj cUnit_ok) bNil_ok) (enc := zit) (out := z119) (outS := zvt) (step := z3m none) (fun _ => rfl) (fun _ _ => by kernel_rfl) (by kernel_rfl) (fun b => by cases b <;> rfl) z15d
noncomputable def zzt : Code := (loopAt (Tryz.f108.body.getD .skip) 0 1).getD .skip
theorem z1co (s : z1d) : round z4y z11z zzt 1 (zg6 s) = (z48 s).map (sumE zg6 ztp) := by kernel_rfl
theorem z1eb : LpOk z4y zzt 1 := mkLoop_ok (A := z150) (B := zut) (f := z123) (L := z3p none) (tO_ok (cK_ok cUnit_ok) (tA_ok (cPair_ok (cArr_ok 28 16) cUnit_ok) (tO_ok (cPair_ok (cInt_ok .i64) cUnit_ok) (tA_ok (cPair_ok (cArr_ok 28 8) cUnit_ok) (tO_ok (cPair_ok (cInt_ok .i64) cUnit_ok) tNil_ok))))) (bC_ok (cPair_ok zj cUnit_ok) bNil_ok) (enc := zg6) (out := z145) (outS := ztp) (step := z48) (fun _ => rfl) (fun _ _ => by kernel_rfl) (by kernel_rfl) (fun b => by cases b <;> rfl) z1co
theorem z1de (x : Mmu × Unit) (g : Unit) : execF z4y Tryz.f108 (zpu.enc x) (bNil.enc g) = (z75 none x.1).map zkq := by kernel_rfl
theorem z197 : FnOk Tryz.prog cd 108 zpj := mk_ok (E := z4y) cd_ok zl5 Tryz.func108 (by kernel_rfl) (loops_of (addL_ok z1fa (addL_ok z1eb noL_ok))) (aA_ok zj (aNil_ok)) bNil_ok (T := fun x _ => z75 none x.1) (fun _ _ => rfl) z1de
noncomputable def fns108 := addF 108 true zpj fns136
theorem zxn : ∀ f q t, fns108 f = some (q, t) → FnOk Tryz.prog cd f t := addF_ok z197 zl5
/-- emulator/clock.Right -/
noncomputable def zin (x0 : Clock) : Tree Bool :=
  .ite (decide ((1 : Int) ≤ x0.period))
    (.ite (decide (x0.period ≤ (65535 : Int)))
      (.ite (decide ((1 : Int) ≤ x0.left))
        (.leaf (decide (x0.left ≤ x0.period)))
        (.leaf (false)))
      (.leaf (false)))
    (.leaf (false))
noncomputable def zhg (x0 : Clock) : Option Bool := (zin x0).run
noncomputable def zvx : Arg U (Clock × Unit) := aA cClock (aNil)
noncomputable def zqu (r : Bool) : List (V U) × List (Blk U) := ([vO cBool r], [])
noncomputable def z135 : List (V U) → List (Blk U) → Option (FnOut U) := mkSpec zvx bNil (fun x _ => zhg x.1) zqu
noncomputable def zw5 : Env U := { P := Tryz.prog, cd := cd, fns := fns108, lps := noL, frz := fun _r => false, nt := 23, n0 := 0 }
theorem z18y (x : Clock × Unit) (g : Unit) : execF zw5 Tryz.f109 (zvx.enc x) (bNil.enc g) = (zin x.1).map zqu := by kernel_rfl
theorem z19a : FnOk Tryz.prog cd 109 z135 := mk_ok (E := zw5) cd_ok zxn Tryz.func109 (by kernel_rfl) (noLoops_body (by kernel_rfl)) (aA_ok zig (aNil_ok)) bNil_ok (T := fun x _ => zin x.1) (fun _ _ => rfl) z18y
noncomputable def fns109 := addF 109 true z135 fns108
theorem zso : ∀ f q t, fns109 f = some (q, t) → FnOk Tryz.prog cd f t := addF_ok z19a zxn
/-- emulator/line.isByte -/
noncomputable def zct (x0 : Int) : Tree Bool :=
  .leaf (decide ((IntKind.wrap .i64 (((BitVec.ofInt 64 x0 &&& BitVec.ofInt 64 (255 : Int)).toNat : Int))) = x0))
noncomputable def z6h (x0 : Int) : Option Bool := (zct x0).run
noncomputable def zqt : Arg U (Int × Unit) := aO (cInt .i64) (aNil)
noncomputable def z115 (r : Bool) : List (V U) × List (Blk U) := ([vO cBool r], [])
noncomputable def z13e : List (V U) → List (Blk U) → Option (FnOut U) := mkSpec zqt bNil (fun x _ => z6h x.1) z115
noncomputable def zuv : Env U := { P := Tryz.prog, cd := cd, fns := fns109, lps := noL, frz := fun _r => false, nt := 7, n0 := 0 }
theorem z1c3 (x : Int × Unit) (g : Unit) : execF zuv Tryz.f137 (zqt.enc x) (bNil.enc g) = (zct x.1).map z115 := by kernel_rfl
theorem z1an : FnOk Tryz.prog cd 137 z13e := mk_ok (E := zuv) cd_ok zso Tryz.func137 (by kernel_rfl) (noLoops_body (by kernel_rfl)) (aO_ok (cInt_ok .i64) (aNil_ok)) bNil_ok (T := fun x _ => zct x.1) (fun _ _ => rfl) z1c3
noncomputable def fns137 := addF 137 true z13e fns109
theorem zjm : ∀ f q t, fns137 f = some (q, t) → FnOk Tryz.prog cd f t := addF_ok z1an zso
/-- emulator/line.Right -/
noncomputable def zaa (x0 : Line) : Tree Bool :=
  .opt Bool (z6h x0.rxData) fun r34 =>
    .ite (r34)
      (.opt Bool (z6h x0.txData) fun r35 =>
        .ite (r35)
          (.ite (decide ((0 : Int) ≤ x0.txLeft))
            (.ite (decide (x0.txLeft ≤ (4 : Int)))
              (.ite ((x0.txReady == (decide (x0.txLeft = (0 : Int)))))
                (.leaf (decide ((x0.out.length : Int) ≤ (4096 : Int))))
                (.leaf (false)))
              (.leaf (false)))
            (.leaf (false)))
          (.leaf (false)))
      (.leaf (false))
noncomputable def zai (x0 : Line) : Option Bool := (zaa x0).run
noncomputable def zyv : Arg U (Line × Unit) := aA cLine (aNil)
noncomputable def z136 (r : Bool) : List (V U) × List (Blk U) := ([vO cBool r], [])
noncomputable def z113 : List (V U) → List (Blk U) → Option (FnOut U) := mkSpec zyv bNil (fun x _ => zai x.1) z136
noncomputable def z12e : Env U := { P := Tryz.prog, cd := cd, fns := fns137, lps := noL, frz := fun _r => false, nt := 35, n0 := 0 }
theorem z16x (x : Line × Unit) (g : Unit) : execF z12e Tryz.f110 (zyv.enc x) (bNil.enc g) = (zaa x.1).map z136 := by kernel_rfl
theorem z1bb : FnOk Tryz.prog cd 110 z113 := mk_ok (E := z12e) cd_ok zjm Tryz.func110 (by kernel_rfl) (noLoops_body (by kernel_rfl)) (aA_ok zd3 (aNil_ok)) bNil_ok (T := fun x _ => zaa x.1) (fun _ _ => rfl) z16x
noncomputable def fns110 := addF 110 true z113 fns137
theorem zt2 : ∀ f q t, fns110 f = some (q, t) → FnOk Tryz.prog cd f t := addF_ok z1bb zjm
/-- emulator/drive.Right -/
structure z18 where
  t19 : (List (List UInt8))
  t20 : Int
  t21 : Int
  b0 : Drive
noncomputable def z3j (s : z18) : Tree (z18 ⊕ ((Bool × Drive) ⊕ Drive)) :=
  .ite (decide (s.t21 < s.t20))
    (.ite (decide (0 ≤ s.t21))
      (.opt (List UInt8) (s.t19[(s.t21).toNat]?) fun y36 =>
        .ite (!decide ((y36.length : Int) = (128 : Int)))
          (.leaf (.inr (.inl (false, s.b0))))
          (.leaf (.inl (z18.mk s.t19 s.t20 (IntKind.wrap .i64 (s.t21 + (1 : Int))) s.b0))))
      .fail)
    (.leaf (.inr (.inr s.b0)))
noncomputable def z68 (q : Option Nat) (s : z18) : Option ((Bool × Drive) ⊕ Drive) := limQ q (fun s => (z3j s).run) s
theorem z1aj (k : Nat) (s : z18) : Le (z68 (some k) s) (z68 none s) := limQ_le (fun _ => Le.rfl) s
structure z1a where
  t5 : Int
  t30 : (List Int)
  t31 : Int
  t32 : Int
  b0 : Drive
noncomputable def z2t (s : z1a) : Tree (z1a ⊕ (Bool ⊕ Unit)) :=
  .ite (decide (s.t32 < s.t31))
    (.ite (decide (0 ≤ s.t32))
      (.opt Int (s.t30[(s.t32).toNat]?) fun y40 =>
        .ite (decide (y40 ≤ s.t5))
          (.leaf (.inr (.inl false)))
          (.ite (decide ((s.b0.sectors.length : Int) ≤ y40))
            (.leaf (.inr (.inl false)))
            (.leaf (.inl (z1a.mk y40 s.t30 s.t31 (IntKind.wrap .i64 (s.t32 + (1 : Int))) s.b0)))))
      .fail)
    (.leaf (.inr (.inr ())))
noncomputable def z4q (q : Option Nat) (s : z1a) : Option (Bool ⊕ Unit) := limQ q (fun s => (z2t s).run) s
theorem z1af (k : Nat) (s : z1a) : Le (z4q (some k) s) (z4q none s) := limQ_le (fun _ => Le.rfl) s
noncomputable def ze5 (q : Option Nat) (x0 : Drive) : Tree Bool :=
  .ite (decide ((x0.sectors.length : Int) < (1 : Int)))
    (.leaf (false))
    (.ite (decide ((256 : Int) < (x0.sectors.length : Int)))
      (.leaf (false))
      (.opt ((Bool × Drive) ⊕ Drive) (z68 q (z18.mk x0.sectors (x0.sectors.length : Int) (0 : Int) x0)) fun l37 =>
        .ite (l37.isLeft)
          (.opt (Bool × Drive) (l37.getLeft?) fun a38 =>
            .leaf (a38.1))
          (.opt Drive (l37.getRight?) fun b39 =>
            .opt (Bool ⊕ Unit) (z4q q (z1a.mk (-1 : Int) b39.bad (b39.bad.length : Int) (0 : Int) b39)) fun l41 =>
              .ite (l41.isLeft)
                (.opt Bool (l41.getLeft?) fun a42 =>
                  .leaf (a42))
                (.opt Unit (l41.getRight?) fun b43 =>
                  .leaf (true)))))
noncomputable def z59 (q : Option Nat) (x0 : Drive) : Option Bool := (ze5 q x0).run
theorem z171 (k : Nat) (x0 : Drive) : Le (z59 (some k) x0) (z59 none x0) := (TLe.ite TLe.rfl (TLe.ite TLe.rfl (TLe.opt (z1aj k _) fun _ => (TLe.ite TLe.rfl (TLe.opt Le.rfl fun _ => (TLe.opt (z1af k _) fun _ => TLe.rfl))))))
noncomputable def zve : Arg U (Drive × Unit) := aA cDrive (aNil)
noncomputable def z11v (r : Bool) : List (V U) × List (Blk U) := ([vO cBool r], [])
noncomputable def znt : List (V U) → List (Blk U) → Option (FnOut U) := mkSpec zve bNil (fun x _ => z59 none x.1) z11v
noncomputable def zru (x : (Unit) × ((List (List UInt8)) × Unit) × (Int × Unit) × (Int × Unit) × Unit) (g : (Drive × Unit) × Unit) : z18 := z18.mk x.2.1.1 x.2.2.1.1 x.2.2.2.1.1 g.1.1
noncomputable def zs2 : Tms U ((Unit) × ((List (List UInt8)) × Unit) × (Int × Unit) × (Int × Unit) × Unit) := tO 1 (cK (.ptr 0 0) (cUnit)) (tO 19 (cPair (cSl 9) (cUnit)) (tO 20 (cPair (cInt .i64) (cUnit)) (tO 21 (cPair (cInt .i64) (cUnit)) (tNil))))
noncomputable def zrk : Bls U ((Drive × Unit) × Unit) := bC (cPair cDrive (cUnit)) (bNil)
noncomputable def ziu (s : z18) : St U := { tm := [(1, .v (vO (cK (.ptr 0 0) (cUnit)) (()))), (19, .v (vO (cPair (cSl 9) (cUnit)) (s.t19, ()))), (20, .v (vO (cPair (cInt .i64) (cUnit)) (s.t20, ()))), (21, .v (vO (cPair (cInt .i64) (cUnit)) (s.t21, ())))], hp := [.cells ((cPair cDrive (cUnit) : Cdc U (Drive × Unit)).enc (s.b0, ())) none] }
noncomputable def zpw : ((Bool × Drive) ⊕ Drive) → Ex × St U
  | .inl r => (.ret, { tm := [(1, .v (vO (cK (.ptr 0 0) (cUnit)) (()))), (2, .v (vO (cPair cBool (cUnit)) (r.1, ())))], hp := [.cells ((cPair cDrive (cUnit) : Cdc U (Drive × Unit)).enc (r.2, ())) none] })
  | .inr r => (.exit 0, { tm := [(1, .v (vO (cK (.ptr 0 0) (cUnit)) (())))], hp := [.cells ((cPair cDrive (cUnit) : Cdc U (Drive × Unit)).enc (r, ())) none] })
noncomputable def ztl (y : ((Bool × Drive) ⊕ Drive)) : Tree (Ex × St U) := .ite y.isLeft (.opt (Bool × Drive) y.getLeft? fun r => .leaf (.ret, { tm := [(1, .v (vO (cK (.ptr 0 0) (cUnit)) (()))), (2, .v (vO (cPair cBool (cUnit)) (r.1, ())))], hp := [.cells ((cPair cDrive (cUnit) : Cdc U (Drive × Unit)).enc (r.2, ())) none] })) (.opt Drive y.getRight? fun r => .leaf (.exit 0, { tm := [(1, .v (vO (cK (.ptr 0 0) (cUnit)) (())))], hp := [.cells ((cPair cDrive (cUnit) : Cdc U (Drive × Unit)).enc (r, ())) none] }))
noncomputable def zr5 : Hd := { keep := [1, 19, 20, 21], xkeep := [1, 2], own := false }
noncomputable def znb (x : (Unit) × (Int × Unit) × ((List Int) × Unit) × (Int × Unit) × (Int × Unit) × Unit) (g : (Drive × Unit) × Unit) : z1a := z1a.mk x.2.1.1 x.2.2.1.1 x.2.2.2.1.1 x.2.2.2.2.1.1 g.1.1
noncomputable def zqj : Tms U ((Unit) × (Int × Unit) × ((List Int) × Unit) × (Int × Unit) × (Int × Unit) × Unit) := tO 1 (cK (.ptr 0 0) (cUnit)) (tO 5 (cPair (cInt .i64) (cUnit)) (tO 30 (cPair (cSl 3) (cUnit)) (tO 31 (cPair (cInt .i64) (cUnit)) (tO 32 (cPair (cInt .i64) (cUnit)) (tNil)))))
noncomputable def zp3 : Bls U ((Drive × Unit) × Unit) := bC (cPair cDrive (cUnit)) (bNil)
noncomputable def zio (s : z1a) : St U := { tm := [(1, .v (vO (cK (.ptr 0 0) (cUnit)) (()))), (5, .v (vO (cPair (cInt .i64) (cUnit)) (s.t5, ()))), (30, .v (vO (cPair (cSl 3) (cUnit)) (s.t30, ()))), (31, .v (vO (cPair (cInt .i64) (cUnit)) (s.t31, ()))), (32, .v (vO (cPair (cInt .i64) (cUnit)) (s.t32, ())))], hp := [.cells ((cPair cDrive (cUnit) : Cdc U (Drive × Unit)).enc (s.b0, ())) none] }
noncomputable def zo7 : (Bool ⊕ Unit) → Ex × St U
  | .inl r => (.ret, { tm := [(2, .v (vO (cPair cBool (cUnit)) (r, ())))], hp := [] })
  | .inr r => (.exit 2, { tm := [], hp := [] })
noncomputable def zmv (y : (Bool ⊕ Unit)) : Tree (Ex × St U) := .ite y.isLeft (.opt Bool y.getLeft? fun r => .leaf (.ret, { tm := [(2, .v (vO (cPair cBool (cUnit)) (r, ())))], hp := [] })) (.opt Unit y.getRight? fun r => .leaf (.exit 2, { tm := [], hp := [] }))
noncomputable def z14l : Hd := { keep := [1, 5, 30, 31, 32], xkeep := [2], own := false }
noncomputable def z58 : Env U := { P := Tryz.prog, cd := cd, fns := fns110, lps := (addL 0 zr5 (mkLoop zs2 zrk zru (z68 none) ztl) (addL 1 z14l (mkLoop zqj zp3 znb (z4q none) zmv) noL)), frz := fun _r => false, nt := 48, n0 := 0 }
noncomputable def zw3 : Code := (loopAt (Tryz.f138.body.getD .skip) 0 0).getD .skip
theorem z176 (s : z18) : round z58 zr5 zw3 0 (ziu s) = (z3j s).map (sumE ziu zpw) := by kernel_rfl
theorem z1do : LpOk z58 zw3 0 := mkLoop_ok (A := zs2) (B := zrk) (f := zru) (L := z68 none) (tO_ok (cK_ok cUnit_ok) (tO_ok (cPair_ok (cSl_ok 9) cUnit_ok) (tO_ok (cPair_ok (cInt_ok .i64) cUnit_ok) (tO_ok (cPair_ok (cInt_ok .i64) cUnit_ok) tNil_ok)))) (bC_ok (cPair_ok z24 cUnit_ok) bNil_ok) (enc := ziu) (out := ztl) (outS := zpw) (step := z3j) (fun _ => rfl) (fun _ _ => by kernel_rfl) (by kernel_rfl) (fun b => by cases b <;> rfl) z176
noncomputable def ztc : Code := (loopAt (Tryz.f138.body.getD .skip) 0 1).getD .skip
theorem z1ct (s : z1a) : round z58 z14l ztc 1 (zio s) = (z2t s).map (sumE zio zo7) := by kernel_rfl
theorem z166 : LpOk z58 ztc 1 := mkLoop_ok (A := zqj) (B := zp3) (f := znb) (L := z4q none) (tO_ok (cK_ok cUnit_ok) (tO_ok (cPair_ok (cInt_ok .i64) cUnit_ok) (tO_ok (cPair_ok (cSl_ok 3) cUnit_ok) (tO_ok (cPair_ok (cInt_ok .i64) cUnit_ok) (tO_ok (cPair_ok (cInt_ok .i64) cUnit_ok) tNil_ok))))) (bC_ok (cPair_ok z24 cUnit_ok) bNil_ok) (enc := zio) (out := zmv) (outS := zo7) (step := z2t) (fun _ => rfl) (fun _ _ => by kernel_rfl) (by kernel_rfl) (fun b => by cases b <;> rfl) z1ct
theorem z1bl (x : Drive × Unit) (g : Unit) : execF z58 Tryz.f138 (zve.enc x) (bNil.enc g) = (ze5 none x.1).map z11v := by kernel_rfl
theorem z1d4 : FnOk Tryz.prog cd 138 znt := mk_ok (E := z58) cd_ok zt2 Tryz.func138 (by kernel_rfl) (loops_of (addL_ok z1do (addL_ok z166 noL_ok))) (aA_ok z24 (aNil_ok)) bNil_ok (T := fun x _ => ze5 none x.1) (fun _ _ => rfl) z1bl
noncomputable def fns138 := addF 138 true znt fns110
theorem zzd : ∀ f q t, fns138 f = some (q, t) → FnOk Tryz.prog cd f t := addF_ok z1d4 zt2
/-- emulator/diskctl.isWord -/
noncomputable def zdv (x0 : Int) : Tree Bool :=
  .leaf (decide ((IntKind.wrap .i64 (((BitVec.ofInt 64 x0 &&& BitVec.ofInt 64 (65535 : Int)).toNat : Int))) = x0))
noncomputable def z5o (x0 : Int) : Option Bool := (zdv x0).run
noncomputable def z126 : Arg U (Int × Unit) := aO (cInt .i64) (aNil)
noncomputable def zw4 (r : Bool) : List (V U) × List (Blk U) := ([vO cBool r], [])
noncomputable def zqr : List (V U) → List (Blk U) → Option (FnOut U) := mkSpec z126 bNil (fun x _ => z5o x.1) zw4
noncomputable def zkj : Env U := { P := Tryz.prog, cd := cd, fns := fns138, lps := noL, frz := fun _r => false, nt := 7, n0 := 0 }
theorem z15p (x : Int × Unit) (g : Unit) : execF zkj Tryz.f139 (z126.enc x) (bNil.enc g) = (zdv x.1).map zw4 := by kernel_rfl
theorem z1cq : FnOk Tryz.prog cd 139 zqr := mk_ok (E := zkj) cd_ok zzd Tryz.func139 (by kernel_rfl) (noLoops_body (by kernel_rfl)) (aO_ok (cInt_ok .i64) (aNil_ok)) bNil_ok (T := fun x _ => zdv x.1) (fun _ _ => rfl) z15p
noncomputable def fns139 := addF 139 true zqr fns138
theorem zl8 : ∀ f q t, fns139 f = some (q, t) → FnOk Tryz.prog cd f t := addF_ok z1cq zzd
/-- emulator/diskctl.Right -/
noncomputable def zax (q : Option Nat) (x0 : Disk) : Tree Bool :=
  .opt Bool (z59 q x0.drive) fun r44 =>
    .ite (!r44)
      (.leaf (false))
      (.ite (decide (x0.command < (0 : Int)))
        (.leaf (false))
        (.ite (decide ((3 : Int) < x0.command))
          (.leaf (false))
          (.opt Bool (z5o x0.words) fun r45 =>
            .ite (!r45)
              (.leaf (false))
              (.opt Bool (z5o x0.addr) fun r46 =>
                .ite (!r46)
                  (.leaf (false))
                  (.opt Bool (z5o x0.start) fun r47 =>
                    .ite (!r47)
                      (.leaf (false))
                      (.ite (decide ((2 : Int) = 0))
                        .fail
                        (.ite (decide (((x0.addr).tmod (2 : Int)) = (1 : Int)))
                          (.leaf (false))
                          (.ite (decide (x0.left < (0 : Int)))
                            (.leaf (false))
                            (.ite (decide ((8 : Int) < x0.left))
                              (.leaf (false))
                              (.ite (!(x0.ready == (decide (x0.left = (0 : Int)))))
                                (.leaf (false))
                                (.ite (decide (x0.left = (0 : Int)))
                                  (.leaf (true))
                                  (.ite (!decide (x0.command = (0 : Int)))
                                    (.leaf (!decide (x0.words = (0 : Int))))
                                    (.leaf (false))))))))))))))
noncomputable def z4v (q : Option Nat) (x0 : Disk) : Option Bool := (zax q x0).run
theorem z1a9 (k : Nat) (x0 : Disk) : Le (z4v (some k) x0) (z4v none x0) := (TLe.opt (z171 k _) fun _ => TLe.rfl)
noncomputable def zlh : Arg U (Disk × Unit) := aA cDisk (aNil)
noncomputable def zwa (r : Bool) : List (V U) × List (Blk U) := ([vO cBool r], [])
noncomputable def zn8 : List (V U) → List (Blk U) → Option (FnOut U) := mkSpec zlh bNil (fun x _ => z4v none x.1) zwa
noncomputable def z10b : Env U := { P := Tryz.prog, cd := cd, fns := fns139, lps := noL, frz := fun _r => false, nt := 70, n0 := 0 }
theorem z19j (x : Disk × Unit) (g : Unit) : execF z10b Tryz.f111 (zlh.enc x) (bNil.enc g) = (zax none x.1).map zwa := by kernel_rfl
theorem z1dm : FnOk Tryz.prog cd 111 zn8 := mk_ok (E := z10b) cd_ok zl8 Tryz.func111 (by kernel_rfl) (noLoops_body (by kernel_rfl)) (aA_ok z4c (aNil_ok)) bNil_ok (T := fun x _ => zax none x.1) (fun _ _ => rfl) z19j
noncomputable def fns111 := addF 111 true zn8 fns139
theorem zxa : ∀ f q t, fns111 f = some (q, t) → FnOk Tryz.prog cd f t := addF_ok z1dm zl8
/-- emulator/tape.long -/
noncomputable def zi7 (x0 : (List UInt8)) : Tree Bool :=
  .leaf (decide ((512 : Int) < (x0.length : Int)))
noncomputable def zi9 (x0 : (List UInt8)) : Option Bool := (zi7 x0).run
noncomputable def zqy : Arg U ((List UInt8) × Unit) := aO cStr (aNil)
noncomputable def zk0 (r : Bool) : List (V U) × List (Blk U) := ([vO cBool r], [])
noncomputable def zyj : List (V U) → List (Blk U) → Option (FnOut U) := mkSpec zqy bNil (fun x _ => zi9 x.1) zk0
noncomputable def zxw : Env U := { P := Tryz.prog, cd := cd, fns := fns111, lps := noL, frz := fun _r => false, nt := 6, n0 := 0 }
theorem z1a3 (x : (List UInt8) × Unit) (g : Unit) : execF zxw Tryz.f126 (zqy.enc x) (bNil.enc g) = (zi7 x.1).map zk0 := by kernel_rfl
theorem z1f8 : FnOk Tryz.prog cd 126 zyj := mk_ok (E := zxw) cd_ok zxa Tryz.func126 (by kernel_rfl) (noLoops_body (by kernel_rfl)) (aO_ok cStr_ok (aNil_ok)) bNil_ok (T := fun x _ => zi7 x.1) (fun _ _ => rfl) z1a3
noncomputable def fns126 := addF 126 true zyj fns111
theorem zmb : ∀ f q t, fns126 f = some (q, t) → FnOk Tryz.prog cd f t := addF_ok z1f8 zxa
/-- emulator/tape.isWord -/
noncomputable def za5 (x0 : Int) : Tree Bool :=
  .leaf (decide ((IntKind.wrap .i64 (((BitVec.ofInt 64 x0 &&& BitVec.ofInt 64 (65535 : Int)).toNat : Int))) = x0))
noncomputable def z8z (x0 : Int) : Option Bool := (za5 x0).run
noncomputable def zyo : Arg U (Int × Unit) := aO (cInt .i64) (aNil)
noncomputable def zq3 (r : Bool) : List (V U) × List (Blk U) := ([vO cBool r], [])
noncomputable def zn4 : List (V U) → List (Blk U) → Option (FnOut U) := mkSpec zyo bNil (fun x _ => z8z x.1) zq3
noncomputable def zq4 : Env U := { P := Tryz.prog, cd := cd, fns := fns126, lps := noL, frz := fun _r => false, nt := 7, n0 := 0 }
theorem z17r (x : Int × Unit) (g : Unit) : execF zq4 Tryz.f140 (zyo.enc x) (bNil.enc g) = (za5 x.1).map zq3 := by kernel_rfl
theorem z16m : FnOk Tryz.prog cd 140 zn4 := mk_ok (E := zq4) cd_ok zmb Tryz.func140 (by kernel_rfl) (noLoops_body (by kernel_rfl)) (aO_ok (cInt_ok .i64) (aNil_ok)) bNil_ok (T := fun x _ => za5 x.1) (fun _ _ => rfl) z17r
noncomputable def fns140 := addF 140 true zn4 fns126
theorem zbe : ∀ f q t, fns140 f = some (q, t) → FnOk Tryz.prog cd f t := addF_ok z16m zmb
/-- slices.IndexFunc[[]string,string] -/
structure z1c where
  t0 : (List (List UInt8))
  t7 : Int
  t8 : Int
noncomputable def z35 (s : z1c) : Tree (z1c ⊕ (Int ⊕ Unit)) :=
  .ite (decide (s.t8 < s.t7))
    (.ite (decide (0 ≤ s.t8))
      (.opt (List UInt8) (s.t0[(s.t8).toNat]?) fun y48 =>
        .opt Bool (zi9 y48) fun r49 =>
          .ite (r49)
            (.leaf (.inr (.inl s.t8)))
            (.leaf (.inl (z1c.mk s.t0 s.t7 (IntKind.wrap .i64 (s.t8 + (1 : Int)))))))
      .fail)
    (.leaf (.inr (.inr ())))
noncomputable def z38 (q : Option Nat) (s : z1c) : Option (Int ⊕ Unit) := limQ q (fun s => (z35 s).run) s
theorem z1bu (k : Nat) (s : z1c) : Le (z38 (some k) s) (z38 none s) := limQ_le (fun _ => Le.rfl) s
noncomputable def z4z (q : Option Nat) (x0 : (List (List UInt8))) : Tree Int :=
  .opt (Int ⊕ Unit) (z38 q (z1c.mk x0 (x0.length : Int) (0 : Int))) fun l50 =>
    .ite (l50.isLeft)
      (.opt Int (l50.getLeft?) fun a51 =>
        .leaf (a51))
      (.opt Unit (l50.getRight?) fun b52 =>
        .leaf ((-1 : Int)))
noncomputable def z54 (q : Option Nat) (x0 : (List (List UInt8))) : Option Int := (z4z q x0).run
theorem z19c (k : Nat) (x0 : (List (List UInt8))) : Le (z54 (some k) x0) (z54 none x0) := (TLe.opt (z1bu k _) fun _ => TLe.rfl)
noncomputable def z9q : Arg U ((List (List UInt8)) × Unit) := aO (cSl 9) (aF 126 [] (aNil))
noncomputable def zb5 : Bls U (Unit) := bNil
noncomputable def zj2 (_x : (List (List UInt8)) × Unit) (_g : Unit) (r : Int) : List (V U) × List (Blk U) := ([vO (cPair (cInt .i64) (cUnit)) (r, ())], [])
noncomputable def znk : List (V U) → List (Blk U) → Option (FnOut U) := mkSpecG z9q zb5 (fun x _ => z54 none x.1) zj2
noncomputable def zuh (x : ((List (List UInt8)) × Unit) × (Unit) × (Int × Unit) × (Int × Unit) × Unit) (_g : Unit) : z1c := z1c.mk x.1.1 x.2.2.1.1 x.2.2.2.1.1
noncomputable def zkd : Tms U (((List (List UInt8)) × Unit) × (Unit) × (Int × Unit) × (Int × Unit) × Unit) := tO 0 (cPair (cSl 9) (cUnit)) (tO 1 (cK2 (.fn 126 [] []) (cUnit)) (tO 7 (cPair (cInt .i64) (cUnit)) (tO 8 (cPair (cInt .i64) (cUnit)) (tNil))))
noncomputable def zu2 : Bls U (Unit) := bNil
noncomputable def zfn (s : z1c) : St U := { tm := [(0, .v (vO (cPair (cSl 9) (cUnit)) (s.t0, ()))), (1, .v (vO (cK2 (.fn 126 [] []) (cUnit)) (()))), (7, .v (vO (cPair (cInt .i64) (cUnit)) (s.t7, ()))), (8, .v (vO (cPair (cInt .i64) (cUnit)) (s.t8, ())))], hp := [] }
noncomputable def z10t : (Int ⊕ Unit) → Ex × St U
  | .inl r => (.ret, { tm := [(4, .v (vO (cPair (cInt .i64) (cUnit)) (r, ())))], hp := [] })
  | .inr r => (.exit 0, { tm := [], hp := [] })
noncomputable def zm8 (y : (Int ⊕ Unit)) : Tree (Ex × St U) := .ite y.isLeft (.opt Int y.getLeft? fun r => .leaf (.ret, { tm := [(4, .v (vO (cPair (cInt .i64) (cUnit)) (r, ())))], hp := [] })) (.opt Unit y.getRight? fun r => .leaf (.exit 0, { tm := [], hp := [] }))
noncomputable def zt0 : Hd := { keep := [0, 1, 7, 8], xkeep := [4], own := false }
noncomputable def z8a : Env U := { P := Tryz.prog, cd := cd, fns := fns140, lps := (addL 0 zt0 (mkLoop zkd zu2 zuh (z38 none) zm8) noL), frz := fun _r => false, nt := 19, n0 := 0 }
noncomputable def zuu : Code := (loopAt (Tryz.f146.body.getD .skip) 0 0).getD .skip
theorem z169 (s : z1c) : round z8a zt0 zuu 0 (zfn s) = (z35 s).map (sumE zfn z10t) := by kernel_rfl
theorem z1c9 : LpOk z8a zuu 0 := mkLoop_ok (A := zkd) (B := zu2) (f := zuh) (L := z38 none) (tO_ok (cPair_ok (cSl_ok 9) cUnit_ok) (tO_ok (cK2_ok cUnit_ok) (tO_ok (cPair_ok (cInt_ok .i64) cUnit_ok) (tO_ok (cPair_ok (cInt_ok .i64) cUnit_ok) tNil_ok)))) bNil_ok (enc := zfn) (out := zm8) (outS := z10t) (step := z35) (fun _ => rfl) (fun _ _ => by kernel_rfl) (by kernel_rfl) (fun b => by cases b <;> rfl) z169
theorem z199 (x0 : (List (List UInt8))) : execX false z8a Tryz.f146 (z9q.enc (x0, ())) (zb5.enc ()) = (z4z none x0).map (zj2 (x0, ()) ()) := by kernel_rfl
theorem z16y : ∀ (x : (List (List UInt8)) × Unit) (g : Unit), execX false z8a Tryz.f146 (z9q.enc x) (zb5.enc g) = (z4z none x.1).map (zj2 x g)
  | (x0, ()), () => z199 x0
theorem z1fw : FnOk Tryz.prog cd 146 znk := mk_okG (E := z8a) (A := z9q) (B := zb5) false cd_ok zbe Tryz.func146 (by kernel_rfl) (loops_of (addL_ok z1c9 noL_ok)) (aO_ok (cSl_ok 9) (aF_ok (aNil_ok))) bNil_ok (T := fun (x : (List (List UInt8)) × Unit) (_ : Unit) => z4z none x.1) (fun _ _ => rfl) z16y
/-- slices.ContainsFunc[[]string,string] -/
noncomputable def z4r (q : Option Nat) (x0 : (List (List UInt8))) : Tree Bool :=
  .opt Int (z54 q x0) fun r53 =>
    .leaf (decide ((0 : Int) ≤ r53))
noncomputable def z31 (q : Option Nat) (x0 : (List (List UInt8))) : Option Bool := (z4r q x0).run
theorem zp0 (k : Nat) (x0 : (List (List UInt8))) : Le (z31 (some k) x0) (z31 none x0) := (TLe.opt (z19c k _) fun _ => TLe.rfl)
noncomputable def zc7 : Arg U ((List (List UInt8)) × Unit) := aO (cSl 9) (aF 126 [] (aNil))
noncomputable def zbm : Bls U (Unit) := bNil
noncomputable def zid (_x : (List (List UInt8)) × Unit) (_g : Unit) (r : Bool) : List (V U) × List (Blk U) := ([vO (cPair cBool (cUnit)) (r, ())], [])
noncomputable def zf1 : List (V U) → List (Blk U) → Option (FnOut U) := mkSpecG zc7 zbm (fun x _ => z31 none x.1) zid
noncomputable def zfw : Env U := { P := Tryz.prog, cd := cd, fns := (addF 146 false (znk) fns140), lps := noL, frz := fun _r => false, nt := 9, n0 := 0 }
theorem z1e6 (x0 : (List (List UInt8))) : execX false zfw Tryz.f125 (zc7.enc (x0, ())) (zbm.enc ()) = (z4r none x0).map (zid (x0, ()) ()) := by kernel_rfl
theorem z1fo : ∀ (x : (List (List UInt8)) × Unit) (g : Unit), execX false zfw Tryz.f125 (zc7.enc x) (zbm.enc g) = (z4r none x.1).map (zid x g)
  | (x0, ()), () => z1e6 x0
theorem zte : FnOk Tryz.prog cd 125 zf1 := mk_okG (E := zfw) (A := zc7) (B := zbm) false cd_ok (addF_ok z1fw zbe) Tryz.func125 (by kernel_rfl) (noLoops_body (by kernel_rfl)) (aO_ok (cSl_ok 9) (aF_ok (aNil_ok))) bNil_ok (T := fun (x : (List (List UInt8)) × Unit) (_ : Unit) => z4r none x.1) (fun _ _ => rfl) z1fo
/-- emulator/tape.Right -/
noncomputable def z9x (q : Option Nat) (x0 : Tape) : Tree Bool :=
  .ite (decide ((64 : Int) < (x0.records.length : Int)))
    (.leaf (false))
    (.opt Bool (z31 q x0.records) fun r54 =>
      .ite (r54)
        (.leaf (false))
        (.ite (decide (x0.pos < (0 : Int)))
          (.leaf (false))
          (.ite (decide ((x0.records.length : Int) < x0.pos))
            (.leaf (false))
            (.ite (decide ((0 : Int) ≤ x0.command))
              (.ite (decide (x0.command ≤ (6 : Int)))
                (.opt Bool (z8z x0.count) fun r55 =>
                  .ite (r55)
                    (.opt Bool (z8z x0.addr) fun r56 =>
                      .ite (r56)
                        (.ite (decide ((0 : Int) ≤ x0.left))
                          (.ite (decide (x0.left ≤ (16 : Int)))
                            (.leaf ((x0.ready == (decide (x0.left = (0 : Int))))))
                            (.leaf (false)))
                          (.leaf (false)))
                        (.leaf (false)))
                    (.leaf (false)))
                (.leaf (false)))
              (.leaf (false))))))
noncomputable def z4x (q : Option Nat) (x0 : Tape) : Option Bool := (z9x q x0).run
theorem z1d3 (k : Nat) (x0 : Tape) : Le (z4x (some k) x0) (z4x none x0) := (TLe.ite TLe.rfl (TLe.opt (zp0 k _) fun _ => TLe.rfl))
noncomputable def zn5 : Arg U (Tape × Unit) := aA cTape (aNil)
noncomputable def zt3 (r : Bool) : List (V U) × List (Blk U) := ([vO cBool r], [])
noncomputable def zne : List (V U) → List (Blk U) → Option (FnOut U) := mkSpec zn5 bNil (fun x _ => z4x none x.1) zt3
noncomputable def z12y : Env U := { P := Tryz.prog, cd := cd, fns := (addF 125 false (zf1) fns140), lps := noL, frz := fun _r => false, nt := 61, n0 := 0 }
theorem z1ab (x : Tape × Unit) (g : Unit) : execF z12y Tryz.f112 (zn5.enc x) (bNil.enc g) = (z9x none x.1).map zt3 := by kernel_rfl
theorem z1bv : FnOk Tryz.prog cd 112 zne := mk_ok (E := z12y) cd_ok (addF_ok zte zbe) Tryz.func112 (by kernel_rfl) (noLoops_body (by kernel_rfl)) (aA_ok z2s (aNil_ok)) bNil_ok (T := fun x _ => z9x none x.1) (fun _ _ => rfl) z1ab
noncomputable def fns112 := addF 112 true zne fns140
theorem zxy : ∀ f q t, fns112 f = some (q, t) → FnOk Tryz.prog cd f t := addF_ok z1bv zbe
/-- emulator/bus.Right -/
structure z10 where
  t30 : (List Line)
  t31 : Int
  t32 : Int
  b0 : Machine
noncomputable def z3i (s : z10) : Tree (z10 ⊕ ((Bool × Machine) ⊕ Machine)) :=
  .ite (decide (s.t32 < s.t31))
    (.ite (decide (0 ≤ s.t32))
      (.opt Line (s.t30[(s.t32).toNat]?) fun y60 =>
        .opt Bool (zai y60) fun r61 =>
          .ite (!r61)
            (.leaf (.inr (.inl (false, s.b0))))
            (.leaf (.inl (z10.mk s.t30 s.t31 (IntKind.wrap .i64 (s.t32 + (1 : Int))) s.b0))))
      .fail)
    (.leaf (.inr (.inr s.b0)))
noncomputable def z4s (q : Option Nat) (s : z10) : Option ((Bool × Machine) ⊕ Machine) := limQ q (fun s => (z3i s).run) s
theorem z18h (k : Nat) (s : z10) : Le (z4s (some k) s) (z4s none s) := limQ_le (fun _ => Le.rfl) s
noncomputable def zdn (q : Option Nat) (x0 : Machine) : Tree Bool :=
  .ite (decide ((4 : Int) < (x0.lines.length : Int)))
    (.leaf (false))
    (.opt Bool (z52 q x0.mem x0.bad) fun r57 =>
      .ite (!r57)
        (.leaf (false))
        (.opt Bool (z4g q x0.mmu) fun r58 =>
          .ite (!r58)
            (.leaf (false))
            (.opt Bool (zhg x0.clock) fun r59 =>
              .ite (!r59)
                (.leaf (false))
                (.opt ((Bool × Machine) ⊕ Machine) (z4s q (z10.mk x0.lines (x0.lines.length : Int) (0 : Int) x0)) fun l62 =>
                  .ite (l62.isLeft)
                    (.opt (Bool × Machine) (l62.getLeft?) fun a63 =>
                      .leaf (a63.1))
                    (.opt Machine (l62.getRight?) fun b64 =>
                      .opt Bool (z4v q b64.disk) fun r65 =>
                        .ite (r65)
                          (.opt Bool (z4x q b64.tape) fun r66 =>
                            .leaf (r66))
                          (.leaf (false)))))))
noncomputable def z53 (q : Option Nat) (x0 : Machine) : Option Bool := (zdn q x0).run
theorem z189 (k : Nat) (x0 : Machine) : Le (z53 (some k) x0) (z53 none x0) := (TLe.ite TLe.rfl (TLe.opt (z19g k _ _) fun _ => (TLe.ite TLe.rfl (TLe.opt (z15w k _) fun _ => (TLe.ite TLe.rfl (TLe.opt Le.rfl fun _ => (TLe.ite TLe.rfl (TLe.opt (z18h k _) fun _ => (TLe.ite TLe.rfl (TLe.opt Le.rfl fun _ => (TLe.opt (z1a9 k _) fun _ => (TLe.ite (TLe.opt (z1d3 k _) fun _ => TLe.rfl) TLe.rfl))))))))))))
noncomputable def zjj : Arg U (Machine × Unit) := aA cMachine (aNil)
noncomputable def zma (r : Bool) : List (V U) × List (Blk U) := ([vO cBool r], [])
noncomputable def zko : List (V U) → List (Blk U) → Option (FnOut U) := mkSpec zjj bNil (fun x _ => z53 none x.1) zma
noncomputable def zkr (x : (Unit) × ((List Line) × Unit) × (Int × Unit) × (Int × Unit) × Unit) (g : (Machine × Unit) × Unit) : z10 := z10.mk x.2.1.1 x.2.2.1.1 x.2.2.2.1.1 g.1.1
noncomputable def zrr : Tms U ((Unit) × ((List Line) × Unit) × (Int × Unit) × (Int × Unit) × Unit) := tO 1 (cK (.ptr 0 0) (cUnit)) (tO 30 (cPair (cSl 66) (cUnit)) (tO 31 (cPair (cInt .i64) (cUnit)) (tO 32 (cPair (cInt .i64) (cUnit)) (tNil))))
noncomputable def zji : Bls U ((Machine × Unit) × Unit) := bC (cPair cMachine (cUnit)) (bNil)
noncomputable def zj3 (s : z10) : St U := { tm := [(1, .v (vO (cK (.ptr 0 0) (cUnit)) (()))), (30, .v (vO (cPair (cSl 66) (cUnit)) (s.t30, ()))), (31, .v (vO (cPair (cInt .i64) (cUnit)) (s.t31, ()))), (32, .v (vO (cPair (cInt .i64) (cUnit)) (s.t32, ())))], hp := [.cells ((cPair cMachine (cUnit) : Cdc U (Machine × Unit)).enc (s.b0, ())) none] }
noncomputable def zyg : ((Bool × Machine) ⊕ Machine) → Ex × St U
  | .inl r => (.ret, { tm := [(1, .v (vO (cK (.ptr 0 0) (cUnit)) (()))), (2, .v (vO (cPair cBool (cUnit)) (r.1, ())))], hp := [.cells ((cPair cMachine (cUnit) : Cdc U (Machine × Unit)).enc (r.2, ())) none] })
  | .inr r => (.exit 0, { tm := [(1, .v (vO (cK (.ptr 0 0) (cUnit)) (())))], hp := [.cells ((cPair cMachine (cUnit) : Cdc U (Machine × Unit)).enc (r, ())) none] })
noncomputable def zn9 (y : ((Bool × Machine) ⊕ Machine)) : Tree (Ex × St U) := .ite y.isLeft (.opt (Bool × Machine) y.getLeft? fun r => .leaf (.ret, { tm := [(1, .v (vO (cK (.ptr 0 0) (cUnit)) (()))), (2, .v (vO (cPair cBool (cUnit)) (r.1, ())))], hp := [.cells ((cPair cMachine (cUnit) : Cdc U (Machine × Unit)).enc (r.2, ())) none] })) (.opt Machine y.getRight? fun r => .leaf (.exit 0, { tm := [(1, .v (vO (cK (.ptr 0 0) (cUnit)) (())))], hp := [.cells ((cPair cMachine (cUnit) : Cdc U (Machine × Unit)).enc (r, ())) none] }))
noncomputable def zy3 : Hd := { keep := [1, 30, 31, 32], xkeep := [1, 2], own := false }
noncomputable def zdh : Env U := { P := Tryz.prog, cd := cd, fns := fns112, lps := (addL 0 zy3 (mkLoop zrr zji zkr (z4s none) zn9) noL), frz := fun _r => false, nt := 48, n0 := 0 }
noncomputable def zkc : Code := (loopAt (Tryz.f51.body.getD .skip) 0 0).getD .skip
theorem z15u (s : z10) : round zdh zy3 zkc 0 (zj3 s) = (z3i s).map (sumE zj3 zyg) := by kernel_rfl
theorem z1bd : LpOk zdh zkc 0 := mkLoop_ok (A := zrr) (B := zji) (f := zkr) (L := z4s none) (tO_ok (cK_ok cUnit_ok) (tO_ok (cPair_ok (cSl_ok 66) cUnit_ok) (tO_ok (cPair_ok (cInt_ok .i64) cUnit_ok) (tO_ok (cPair_ok (cInt_ok .i64) cUnit_ok) tNil_ok)))) (bC_ok (cPair_ok ze cUnit_ok) bNil_ok) (enc := zj3) (out := zn9) (outS := zyg) (step := z3i) (fun _ => rfl) (fun _ _ => by kernel_rfl) (by kernel_rfl) (fun b => by cases b <;> rfl) z15u
theorem z1b7 (x : Machine × Unit) (g : Unit) : execF zdh Tryz.f51 (zjj.enc x) (bNil.enc g) = (zdn none x.1).map zma := by kernel_rfl
theorem z18b : FnOk Tryz.prog cd 51 zko := mk_ok (E := zdh) cd_ok zxy Tryz.func51 (by kernel_rfl) (loops_of (addL_ok z1bd noL_ok)) (aA_ok ze (aNil_ok)) bNil_ok (T := fun x _ => zdn none x.1) (fun _ _ => rfl) z1b7
noncomputable def fns51 := addF 51 true zko fns112
theorem zzo : ∀ f q t, fns51 f = some (q, t) → FnOk Tryz.prog cd f t := addF_ok z18b zxy
/-- emulator/cpu.isWord -/
noncomputable def zbj (x0 : Int) : Tree Bool :=
  .ite (decide ((0 : Int) ≤ x0))
    (.leaf (decide (x0 ≤ (65535 : Int))))
    (.leaf (false))
noncomputable def z3r (x0 : Int) : Option Bool := (zbj x0).run
noncomputable def z10p : Arg U (Int × Unit) := aO (cInt .i64) (aNil)
noncomputable def zlu (r : Bool) : List (V U) × List (Blk U) := ([vO cBool r], [])
noncomputable def z13q : List (V U) → List (Blk U) → Option (FnOut U) := mkSpec z10p bNil (fun x _ => z3r x.1) zlu
noncomputable def zop : Env U := { P := Tryz.prog, cd := cd, fns := fns51, lps := noL, frz := fun _r => false, nt := 9, n0 := 0 }
theorem z168 (x : Int × Unit) (g : Unit) : execF zop Tryz.f113 (z10p.enc x) (bNil.enc g) = (zbj x.1).map zlu := by kernel_rfl
theorem z1f2 : FnOk Tryz.prog cd 113 z13q := mk_ok (E := zop) cd_ok zzo Tryz.func113 (by kernel_rfl) (noLoops_body (by kernel_rfl)) (aO_ok (cInt_ok .i64) (aNil_ok)) bNil_ok (T := fun x _ => zbj x.1) (fun _ _ => rfl) z168
noncomputable def fns113 := addF 113 true z13q fns51
theorem zrf : ∀ f q t, fns113 f = some (q, t) → FnOk Tryz.prog cd f t := addF_ok z1f2 zzo
/-- emulator/psw.Valid -/
noncomputable def ziy (x0 : Int) : Tree Bool :=
  .leaf (decide ((IntKind.wrap .i64 (((BitVec.ofInt 64 x0 &&& BitVec.ofInt 64 (49407 : Int)).toNat : Int))) = x0))
noncomputable def zj7 (x0 : Int) : Option Bool := (ziy x0).run
noncomputable def zos : Arg U (Int × Unit) := aO (cInt .i64) (aNil)
noncomputable def z12i (r : Bool) : List (V U) × List (Blk U) := ([vO cBool r], [])
noncomputable def zzu : List (V U) → List (Blk U) → Option (FnOut U) := mkSpec zos bNil (fun x _ => zj7 x.1) z12i
noncomputable def zwq : Env U := { P := Tryz.prog, cd := cd, fns := fns113, lps := noL, frz := fun _r => false, nt := 7, n0 := 0 }
theorem z1b1 (x : Int × Unit) (g : Unit) : execF zwq Tryz.f114 (zos.enc x) (bNil.enc g) = (ziy x.1).map z12i := by kernel_rfl
theorem z16c : FnOk Tryz.prog cd 114 zzu := mk_ok (E := zwq) cd_ok zrf Tryz.func114 (by kernel_rfl) (noLoops_body (by kernel_rfl)) (aO_ok (cInt_ok .i64) (aNil_ok)) bNil_ok (T := fun x _ => ziy x.1) (fun _ _ => rfl) z1b1
noncomputable def fns114 := addF 114 true zzu fns113
theorem zt9 : ∀ f q t, fns114 f = some (q, t) → FnOk Tryz.prog cd f t := addF_ok z16c zrf
/-- emulator/cpu.Right -/
structure z14 where
  t6_0 : (List Int)
  t7 : Int
  b0 : Cpu
noncomputable def z42 (s : z14) : Tree (z14 ⊕ ((Bool × Cpu) ⊕ Cpu)) :=
  .ite (decide (s.t7 < (6 : Int)))
    (.ite (decide (0 ≤ s.t7))
      (.ite (decide (s.t7 < (6 : Int)))
        (.opt Int (s.t6_0[(s.t7).toNat]?) fun y67 =>
          .opt Bool (z3r y67) fun r68 =>
            .ite (!r68)
              (.leaf (.inr (.inl (false, s.b0))))
              (.leaf (.inl (z14.mk s.t6_0 (IntKind.wrap .i64 (s.t7 + (1 : Int))) s.b0))))
        .fail)
      .fail)
    (.leaf (.inr (.inr s.b0)))
noncomputable def z4k (q : Option Nat) (s : z14) : Option ((Bool × Cpu) ⊕ Cpu) := limQ q (fun s => (z42 s).run) s
theorem z19v (k : Nat) (s : z14) : Le (z4k (some k) s) (z4k none s) := limQ_le (fun _ => Le.rfl) s
noncomputable def zdd (q : Option Nat) (x0 : Cpu) : Tree Bool :=
  .opt ((Bool × Cpu) ⊕ Cpu) (z4k q (z14.mk x0.r (0 : Int) x0)) fun l69 =>
    .ite (l69.isLeft)
      (.opt (Bool × Cpu) (l69.getLeft?) fun a70 =>
        .leaf (a70.1))
      (.opt Cpu (l69.getRight?) fun b71 =>
        .ite (decide (0 ≤ (0 : Int)))
          (.ite (decide ((0 : Int) < (2 : Int)))
            (.opt Int (b71.sP[((0 : Int)).toNat * 1]?) fun y72 =>
              .opt Bool (z3r y72) fun r73 =>
                .ite (r73)
                  (.ite (decide (0 ≤ (1 : Int)))
                    (.ite (decide ((1 : Int) < (2 : Int)))
                      (.opt Int (b71.sP[((1 : Int)).toNat * 1]?) fun y74 =>
                        .opt Bool (z3r y74) fun r75 =>
                          .ite (r75)
                            (.opt Bool (z3r b71.pC) fun r76 =>
                              .ite (r76)
                                (.opt Bool (zj7 b71.pSW) fun r77 =>
                                  .leaf (r77))
                                (.leaf (false)))
                            (.leaf (false)))
                      .fail)
                    .fail)
                  (.leaf (false)))
            .fail)
          .fail)
noncomputable def z51 (q : Option Nat) (x0 : Cpu) : Option Bool := (zdd q x0).run
theorem z17t (k : Nat) (x0 : Cpu) : Le (z51 (some k) x0) (z51 none x0) := (TLe.opt (z19v k _) fun _ => TLe.rfl)
noncomputable def zln : Arg U (Cpu × Unit) := aA cCpu (aNil)
noncomputable def zpt (r : Bool) : List (V U) × List (Blk U) := ([vO cBool r], [])
noncomputable def zwj : List (V U) → List (Blk U) → Option (FnOut U) := mkSpec zln bNil (fun x _ => z51 none x.1) zpt
noncomputable def z11g (x : (Unit) × ((List Int) × Unit) × (Int × Unit) × Unit) (g : (Cpu × Unit) × Unit) : z14 := z14.mk x.2.1.1 x.2.2.1.1 g.1.1
noncomputable def z12a : Tms U ((Unit) × ((List Int) × Unit) × (Int × Unit) × Unit) := tO 1 (cK (.ptr 0 0) (cUnit)) (tA 6 (cPair (cArr 3 6) (cUnit)) (tO 7 (cPair (cInt .i64) (cUnit)) (tNil)))
noncomputable def z13o : Bls U ((Cpu × Unit) × Unit) := bC (cPair cCpu (cUnit)) (bNil)
noncomputable def zi2 (s : z14) : St U := { tm := [(1, .v (vO (cK (.ptr 0 0) (cUnit)) (()))), (6, .v (vA (cPair (cArr 3 6) (cUnit)) (s.t6_0, ()))), (7, .v (vO (cPair (cInt .i64) (cUnit)) (s.t7, ())))], hp := [.cells ((cPair cCpu (cUnit) : Cdc U (Cpu × Unit)).enc (s.b0, ())) none] }
noncomputable def zyn : ((Bool × Cpu) ⊕ Cpu) → Ex × St U
  | .inl r => (.ret, { tm := [(1, .v (vO (cK (.ptr 0 0) (cUnit)) (()))), (2, .v (vO (cPair cBool (cUnit)) (r.1, ())))], hp := [.cells ((cPair cCpu (cUnit) : Cdc U (Cpu × Unit)).enc (r.2, ())) none] })
  | .inr r => (.exit 0, { tm := [(1, .v (vO (cK (.ptr 0 0) (cUnit)) (())))], hp := [.cells ((cPair cCpu (cUnit) : Cdc U (Cpu × Unit)).enc (r, ())) none] })
noncomputable def zs4 (y : ((Bool × Cpu) ⊕ Cpu)) : Tree (Ex × St U) := .ite y.isLeft (.opt (Bool × Cpu) y.getLeft? fun r => .leaf (.ret, { tm := [(1, .v (vO (cK (.ptr 0 0) (cUnit)) (()))), (2, .v (vO (cPair cBool (cUnit)) (r.1, ())))], hp := [.cells ((cPair cCpu (cUnit) : Cdc U (Cpu × Unit)).enc (r.2, ())) none] })) (.opt Cpu y.getRight? fun r => .leaf (.exit 0, { tm := [(1, .v (vO (cK (.ptr 0 0) (cUnit)) (())))], hp := [.cells ((cPair cCpu (cUnit) : Cdc U (Cpu × Unit)).enc (r, ())) none] }))
noncomputable def zt8 : Hd := { keep := [1, 6, 7], xkeep := [1, 2], own := false }
noncomputable def z9v : Env U := { P := Tryz.prog, cd := cd, fns := fns114, lps := (addL 0 zt8 (mkLoop z12a z13o z11g (z4k none) zs4) noL), frz := fun _r => false, nt := 34, n0 := 0 }
noncomputable def zum : Code := (loopAt (Tryz.f52.body.getD .skip) 0 0).getD .skip
theorem z1ek (s : z14) : round z9v zt8 zum 0 (zi2 s) = (z42 s).map (sumE zi2 zyn) := by kernel_rfl
theorem z1c7 : LpOk z9v zum 0 := mkLoop_ok (A := z12a) (B := z13o) (f := z11g) (L := z4k none) (tO_ok (cK_ok cUnit_ok) (tA_ok (cPair_ok (cArr_ok 3 6) cUnit_ok) (tO_ok (cPair_ok (cInt_ok .i64) cUnit_ok) tNil_ok))) (bC_ok (cPair_ok zp cUnit_ok) bNil_ok) (enc := zi2) (out := zs4) (outS := zyn) (step := z42) (fun _ => rfl) (fun _ _ => by kernel_rfl) (by kernel_rfl) (fun b => by cases b <;> rfl) z1ek
theorem z1a5 (x : Cpu × Unit) (g : Unit) : execF z9v Tryz.f52 (zln.enc x) (bNil.enc g) = (zdd none x.1).map zpt := by kernel_rfl
theorem z1a4 : FnOk Tryz.prog cd 52 zwj := mk_ok (E := z9v) cd_ok zt9 Tryz.func52 (by kernel_rfl) (loops_of (addL_ok z1c7 noL_ok)) (aA_ok zp (aNil_ok)) bNil_ok (T := fun x _ => zdd none x.1) (fun _ _ => rfl) z1a5
noncomputable def fns52 := addF 52 true zwj fns114
theorem zsa : ∀ f q t, fns52 f = some (q, t) → FnOk Tryz.prog cd f t := addF_ok z1a4 zt9
/-- emulator/machine.conditionOf -/
noncomputable def zcp (x0 : Machine) : Tree Condition :=
  .leaf (Condition.mk x0.halted x0.waiting x0.powerTrap x0.power)
noncomputable def zhr (x0 : Machine) : Option Condition := (zcp x0).run
noncomputable def zri : Arg U (Machine × Unit) := aA cMachine (aNil)
noncomputable def zxj (r : Condition) : List (V U) × List (Blk U) := ([vA cCondition r], [])
noncomputable def zzh : List (V U) → List (Blk U) → Option (FnOut U) := mkSpec zri bNil (fun x _ => zhr x.1) zxj
noncomputable def znw : Env U := { P := Tryz.prog, cd := cd, fns := fns52, lps := noL, frz := fun _r => false, nt := 12, n0 := 0 }
theorem z1fr (x : Machine × Unit) (g : Unit) : execF znw Tryz.f53 (zri.enc x) (bNil.enc g) = (zcp x.1).map zxj := by kernel_rfl
theorem z17m : FnOk Tryz.prog cd 53 zzh := mk_ok (E := znw) cd_ok zsa Tryz.func53 (by kernel_rfl) (noLoops_body (by kernel_rfl)) (aA_ok ze (aNil_ok)) bNil_ok (T := fun x _ => zcp x.1) (fun _ _ => rfl) z1fr
noncomputable def fns53 := addF 53 true zzh fns52
theorem znx : ∀ f q t, fns53 f = some (q, t) → FnOk Tryz.prog cd f t := addF_ok z17m zsa
/-- emulator/machine.Right -/
noncomputable def zee (q : Option Nat) (x0 : Machine) : Tree Bool :=
  .opt Bool (z53 q x0) fun r78 =>
    .ite (r78)
      (.opt Bool (z51 q x0.cpu) fun r79 =>
        .ite (r79)
          (.ite (decide ((0 : Int) ≤ x0.now))
            (.ite (decide (x0.now ≤ (1099511627776 : Int)))
              (.ite (decide ((0 : Int) ≤ x0.power))
                (.ite (decide (x0.power ≤ (10000 : Int)))
                  (.ite (!x0.halted)
                    (.leaf (true))
                    (.opt Condition (zhr x0) fun r80 =>
                      .leaf (((r80.halted == true) && ((r80.waiting == false) && ((r80.trap == false) && (decide (r80.power = (0 : Int)))))))))
                  (.leaf (false)))
                (.leaf (false)))
              (.leaf (false)))
            (.leaf (false)))
          (.leaf (false)))
      (.leaf (false))
noncomputable def zi (q : Option Nat) (x0 : Machine) : Option Bool := (zee q x0).run
theorem z1e4 (k : Nat) (x0 : Machine) : Le (zi (some k) x0) (zi none x0) := (TLe.opt (z189 k _) fun _ => (TLe.ite (TLe.opt (z17t k _) fun _ => TLe.rfl) TLe.rfl))
noncomputable def z12o : Arg U (Machine × Unit) := aA cMachine (aNil)
noncomputable def zus (r : Bool) : List (V U) × List (Blk U) := ([vO cBool r], [])
noncomputable def zxc : List (V U) → List (Blk U) → Option (FnOut U) := mkSpec z12o bNil (fun x _ => zi none x.1) zus
noncomputable def zty : Env U := { P := Tryz.prog, cd := cd, fns := fns53, lps := noL, frz := fun _r => false, nt := 41, n0 := 0 }
theorem z1dw (x : Machine × Unit) (g : Unit) : execF zty Tryz.f30 (z12o.enc x) (bNil.enc g) = (zee none x.1).map zus := by kernel_rfl
theorem z18e : FnOk Tryz.prog cd 30 zxc := mk_ok (E := zty) cd_ok znx Tryz.func30 (by kernel_rfl) (noLoops_body (by kernel_rfl)) (aA_ok ze (aNil_ok)) bNil_ok (T := fun x _ => zee none x.1) (fun _ _ => rfl) z1dw
noncomputable def fns30 := addF 30 true zxc fns53
theorem zm : ∀ f q t, fns30 f = some (q, t) → FnOk Tryz.prog cd f t := addF_ok z18e znx
/-- (*emulator/save.reader).num -/
noncomputable def z3c (q : Option Nat) (x1 : Int) (g0 : Reader) : Tree (Int × Reader) :=
  .opt (Int × Int × Int) (z4f q g0.s g0.at_ x1) fun r83 =>
    .ite (!decide (r83.2.2 = (0 : Int)))
      (.leaf (((0 : Int), Reader.mk g0.s g0.at_ true)))
      (.leaf ((r83.1, Reader.mk g0.s r83.2.1 g0.bad)))
noncomputable def zb (q : Option Nat) (x1 : Int) (g0 : Reader) : Option (Int × Reader) := (z3c q x1 g0).run
noncomputable def ze0 : Arg U (Int × Unit) := aP 0 0 (aO (cInt .i64) (aNil))
noncomputable def zcg : Bls U (Reader × Unit) := bC cReader (bNil)
noncomputable def zii (_x : Int × Unit) (_g : Reader × Unit) (r : (Int × Reader)) : List (V U) × List (Blk U) := ([vO (cPair (cInt .i64) (cUnit)) (r.1, ())], [.cells ((cPair cReader (cUnit) : Cdc U (Reader × Unit)).enc (r.2, ())) none])
noncomputable def z2z : List (V U) → List (Blk U) → Option (FnOut U) := mkSpecG ze0 zcg (fun x g => zb none x.1 g.1) zii
noncomputable def zft : Env U := { P := Tryz.prog, cd := cd, fns := fns30, lps := noL, frz := fun _r => false, nt := 32, n0 := 1 }
theorem z18f (x1 : Int) (g0 : Reader) : execX false zft Tryz.f29 (ze0.enc (x1, ())) (zcg.enc (g0, ())) = (z3c none x1 g0).map (zii (x1, ()) (g0, ())) := by kernel_rfl
theorem z1fg : ∀ (x : Int × Unit) (g : Reader × Unit), execX false zft Tryz.f29 (ze0.enc x) (zcg.enc g) = (z3c none x.1 g.1).map (zii x g)
  | (x1, ()), (g0, ()) => z18f x1 g0
theorem z43 : FnOk Tryz.prog cd 29 z2z := mk_okG (E := zft) (A := ze0) (B := zcg) false cd_ok zm Tryz.func29 (by kernel_rfl) (noLoops_body (by kernel_rfl)) (aP_ok (aO_ok (cInt_ok .i64) (aNil_ok))) (bC_ok zh bNil_ok) (T := fun (x : Int × Unit) (g : Reader × Unit) => z3c none x.1 g.1) (fun _ _ => rfl) z1fg
/-- (*emulator/save.reader).word -/
noncomputable def z5c (q : Option Nat) (g0 : Reader) : Tree (Int × Reader) :=
  .opt (Int × Reader) (zb q (2 : Int) g0) fun r84 =>
    .leaf ((r84.1, r84.2))
noncomputable def zd (q : Option Nat) (g0 : Reader) : Option (Int × Reader) := (z5c q g0).run
noncomputable def zcl : Arg U (Unit) := aP 0 0 (aNil)
noncomputable def zcy : Bls U (Reader × Unit) := bC cReader (bNil)
noncomputable def zfk (_x : Unit) (_g : Reader × Unit) (r : (Int × Reader)) : List (V U) × List (Blk U) := ([vO (cPair (cInt .i64) (cUnit)) (r.1, ())], [.cells ((cPair cReader (cUnit) : Cdc U (Reader × Unit)).enc (r.2, ())) none])
noncomputable def z26 : List (V U) → List (Blk U) → Option (FnOut U) := mkSpecG zcl zcy (fun x g => zd none g.1) zfk
noncomputable def zhe : Env U := { P := Tryz.prog, cd := cd, fns := (addF 29 false (z2z) fns30), lps := noL, frz := fun _r => false, nt := 5, n0 := 1 }
theorem z1cm (g0 : Reader) : execX false zhe Tryz.f22 (zcl.enc ()) (zcy.enc (g0, ())) = (z5c none g0).map (zfk () (g0, ())) := by kernel_rfl
theorem z1dp : ∀ (x : Unit) (g : Reader × Unit), execX false zhe Tryz.f22 (zcl.enc x) (zcy.enc g) = (z5c none g.1).map (zfk x g)
  | (), (g0, ()) => z1cm g0
theorem z33 : FnOk Tryz.prog cd 22 z26 := mk_okG (E := zhe) (A := zcl) (B := zcy) false cd_ok (addF_ok z43 zm) Tryz.func22 (by kernel_rfl) (noLoops_body (by kernel_rfl)) (aP_ok (aNil_ok)) (bC_ok zh bNil_ok) (T := fun (x : Unit) (g : Reader × Unit) => z5c none g.1) (fun _ _ => rfl) z1dp
/-- (*emulator/save.reader).cpu -/
structure z2g where
  t5 : Int
  b0 : Reader
  b1 : Cpu
  b2 : Cpu
noncomputable def z4m (q : Option Nat) (s : z2g) : Tree (z2g ⊕ (Reader × Cpu × Cpu)) :=
  .ite (decide (s.t5 < (6 : Int)))
    (.opt (Int × Reader) (zd q s.b0) fun r85 =>
      .ite (decide (0 ≤ s.t5))
        (.ite (decide (s.t5 < (6 : Int)))
          (.opt Int (s.b2.r[(s.t5).toNat * 1]?) fun y86 =>
            .leaf (.inl (z2g.mk (IntKind.wrap .i64 (s.t5 + (1 : Int))) r85.2 s.b1 (Cpu.mk (s.b2.r.set ((s.t5).toNat * 1) r85.1) s.b2.sP s.b2.pC s.b2.pSW))))
          .fail)
        .fail)
    (.leaf (.inr (s.b0, s.b1, s.b2)))
noncomputable def z36 (q : Option Nat) (s : z2g) : Option (Reader × Cpu × Cpu) := limQ q (fun s => (z4m q s).run) s
noncomputable def z7e (q : Option Nat) (g0 : Reader) : Tree (Cpu × Reader) :=
  .opt (Reader × Cpu × Cpu) (z36 q (z2g.mk (0 : Int) g0 (Cpu.mk (List.replicate 6 (0 : Int)) (List.replicate 2 (0 : Int)) 0 0) (Cpu.mk (List.replicate 6 (0 : Int)) (List.replicate 2 (0 : Int)) 0 0))) fun l87 =>
    .opt (Int × Reader) (zd q l87.1) fun r88 =>
      .opt (Int × Reader) (zd q r88.2) fun r89 =>
        .ite (decide (0 ≤ (0 : Int)))
          (.ite (decide ((0 : Int) < (2 : Int)))
            (.opt Int (l87.2.2.sP[((0 : Int)).toNat * 1]?) fun y90 =>
              .ite (decide (0 ≤ (1 : Int)))
                (.ite (decide ((1 : Int) < (2 : Int)))
                  (.opt Int ((l87.2.2.sP.set (((0 : Int)).toNat * 1) r88.1)[((1 : Int)).toNat * 1]?) fun y91 =>
                    .opt (Int × Reader) (zd q r89.2) fun r92 =>
                      .opt (Int × Reader) (zd q r92.2) fun r93 =>
                        .leaf ((Cpu.mk l87.2.2.r ((l87.2.2.sP.set (((0 : Int)).toNat * 1) r88.1).set (((1 : Int)).toNat * 1) r89.1) r92.1 r93.1, r93.2)))
                  .fail)
                .fail)
            .fail)
          .fail
noncomputable def zd4 (q : Option Nat) (g0 : Reader) : Option (Cpu × Reader) := (z7e q g0).run
noncomputable def zac : Arg U (Unit) := aP 0 0 (aNil)
noncomputable def ze7 : Bls U (Reader × Unit) := bC cReader (bNil)
noncomputable def zes (_x : Unit) (_g : Reader × Unit) (r : (Cpu × Reader)) : List (V U) × List (Blk U) := ([vA (cPair cCpu (cUnit)) (r.1, ())], [.cells ((cPair cReader (cUnit) : Cdc U (Reader × Unit)).enc (r.2, ())) none])
noncomputable def z10v : List (V U) → List (Blk U) → Option (FnOut U) := mkSpecG zac ze7 (fun x g => zd4 none g.1) zes
noncomputable def z109 (x : (Unit) × (Unit) × (Unit) × (Int × Unit) × Unit) (g : (Reader × Unit) × (Cpu × Unit) × (Cpu × Unit) × Unit) : z2g := z2g.mk x.2.2.2.1.1 g.1.1 g.2.1.1 g.2.2.1.1
noncomputable def zud : Tms U ((Unit) × (Unit) × (Unit) × (Int × Unit) × Unit) := tO 0 (cK (.ptr 0 0) (cUnit)) (tO 2 (cK (.ptr 1 0) (cUnit)) (tO 3 (cK (.ptr 2 0) (cUnit)) (tO 5 (cPair (cInt .i64) (cUnit)) (tNil))))
noncomputable def zsl : Bls U ((Reader × Unit) × (Cpu × Unit) × (Cpu × Unit) × Unit) := bC (cPair cReader (cUnit)) (bC (cPair cCpu (cUnit)) (bC (cPair cCpu (cUnit)) (bNil)))
noncomputable def zfi (s : z2g) : St U := { tm := [(0, .v (vO (cK (.ptr 0 0) (cUnit)) (()))), (2, .v (vO (cK (.ptr 1 0) (cUnit)) (()))), (3, .v (vO (cK (.ptr 2 0) (cUnit)) (()))), (5, .v (vO (cPair (cInt .i64) (cUnit)) (s.t5, ())))], hp := [.cells ((cPair cReader (cUnit) : Cdc U (Reader × Unit)).enc (s.b0, ())) none, .cells ((cPair cCpu (cUnit) : Cdc U (Cpu × Unit)).enc (s.b1, ())) none, .cells ((cPair cCpu (cUnit) : Cdc U (Cpu × Unit)).enc (s.b2, ())) none] }
noncomputable def zib (r : (Reader × Cpu × Cpu)) : Ex × St U := (.exit 0, { tm := [(0, .v (vO (cK (.ptr 0 0) (cUnit)) (()))), (2, .v (vO (cK (.ptr 1 0) (cUnit)) (()))), (3, .v (vO (cK (.ptr 2 0) (cUnit)) (())))], hp := [.cells ((cPair cReader (cUnit) : Cdc U (Reader × Unit)).enc (r.1, ())) none, .cells ((cPair cCpu (cUnit) : Cdc U (Cpu × Unit)).enc (r.2.1, ())) none, .cells ((cPair cCpu (cUnit) : Cdc U (Cpu × Unit)).enc (r.2.2, ())) none] })
noncomputable def z10s (r : (Reader × Cpu × Cpu)) : Tree (Ex × St U) := .leaf (zib r)
noncomputable def zpl : Hd := { keep := [0, 2, 3, 5], xkeep := [0, 2, 3], own := false }
noncomputable def z89 : Env U := { P := Tryz.prog, cd := cd, fns := (addF 22 false (z26) fns30), lps := (addL 0 zpl (mkLoop zud zsl z109 (z36 none) z10s) noL), frz := fun _r => false, nt := 29, n0 := 1 }
noncomputable def ztv : Code := (loopAt (Tryz.f20.body.getD .skip) 0 0).getD .skip
theorem z19w (s : z2g) : round z89 zpl ztv 0 (zfi s) = (z4m none s).map (sumE zfi zib) := by kernel_rfl
theorem z19q : LpOk z89 ztv 0 := mkLoop_ok (A := zud) (B := zsl) (f := z109) (L := z36 none) (tO_ok (cK_ok cUnit_ok) (tO_ok (cK_ok cUnit_ok) (tO_ok (cK_ok cUnit_ok) (tO_ok (cPair_ok (cInt_ok .i64) cUnit_ok) tNil_ok)))) (bC_ok (cPair_ok zh cUnit_ok) (bC_ok (cPair_ok zp cUnit_ok) (bC_ok (cPair_ok zp cUnit_ok) bNil_ok))) (enc := zfi) (out := z10s) (outS := zib) (step := z4m none) (fun _ => rfl) (fun _ _ => by kernel_rfl) (by kernel_rfl) (fun _ => rfl) z19w
theorem z1cf (g0 : Reader) : execX false z89 Tryz.f20 (zac.enc ()) (ze7.enc (g0, ())) = (z7e none g0).map (zes () (g0, ())) := by kernel_rfl
theorem z1dz : ∀ (x : Unit) (g : Reader × Unit), execX false z89 Tryz.f20 (zac.enc x) (ze7.enc g) = (z7e none g.1).map (zes x g)
  | (), (g0, ()) => z1cf g0
theorem z16e : FnOk Tryz.prog cd 20 z10v := mk_okG (E := z89) (A := zac) (B := ze7) false cd_ok (addF_ok z33 zm) Tryz.func20 (by kernel_rfl) (loops_of (addL_ok z19q noL_ok)) (aP_ok (aNil_ok)) (bC_ok zh bNil_ok) (T := fun (x : Unit) (g : Reader × Unit) => z7e none g.1) (fun _ _ => rfl) z1dz
/-- emulator/save.listed[int] -/
structure z1m where
  t6 : Int
  b0 : Reader
  b1 : (List Int)
noncomputable def z3t (q : Option Nat) (s : z1m) : Tree (z1m ⊕ (Reader × (List Int))) :=
  .ite (decide ((0 : Int) < s.t6))
    (.ite (!s.b0.bad)
      (.opt (Int × Reader) (zd q s.b0) fun r100 =>
        .ite (decide ((s.b1.length + ([r100.1]).length) * 8 ≤ 140737488355328))
          (.leaf (.inl (z1m.mk (IntKind.wrap .i64 (s.t6 - (1 : Int))) r100.2 (s.b1 ++ ([r100.1])))))
          .fail)
      (.leaf (.inr (s.b0, s.b1))))
    (.leaf (.inr (s.b0, s.b1)))
noncomputable def z5e (q : Option Nat) (s : z1m) : Option (Reader × (List Int)) := limQ q (fun s => (z3t q s).run) s
noncomputable def z7r (q : Option Nat) (g0 : Reader) : Tree ((List Int) × Reader) :=
  .opt (Int × Reader) (zd q g0) fun r99 =>
    .opt (Reader × (List Int)) (z5e q (z1m.mk r99.1 r99.2 ([]))) fun l101 =>
      .leaf ((l101.2, l101.1))
noncomputable def z5q (q : Option Nat) (g0 : Reader) : Option ((List Int) × Reader) := (z7r q g0).run
noncomputable def zdr : Arg U (Unit) := aP 0 0 (aKF (.fn 22 [(.ptr 0 0)] []) (aNil))
noncomputable def zbl : Bls U (Reader × Unit) := bC cReader (bNil)
noncomputable def zgz (_x : Unit) (_g : Reader × Unit) (r : ((List Int) × Reader)) : List (V U) × List (Blk U) := ([vO (cPair (cSl 3) (cUnit)) (r.1, ())], [.cells ((cPair cReader (cUnit) : Cdc U (Reader × Unit)).enc (r.2, ())) none])
noncomputable def zfd : List (V U) → List (Blk U) → Option (FnOut U) := mkSpecG zdr zbl (fun x g => z5q none g.1) zgz
noncomputable def z147 (x : (Unit) × (Unit) × (Unit) × (Int × Unit) × Unit) (g : (Reader × Unit) × (List Int) × Unit) : z1m := z1m.mk x.2.2.2.1.1 g.1.1 g.2.1
noncomputable def zlm : Tms U ((Unit) × (Unit) × (Unit) × (Int × Unit) × Unit) := tO 0 (cK (.ptr 0 0) (cUnit)) (tO 1 (cK2 (.fn 22 [(.ptr 0 0)] []) (cUnit)) (tO 5 (cK (.row 1 0) (cUnit)) (tO 6 (cPair (cInt .i64) (cUnit)) (tNil))))
noncomputable def z12u : Bls U ((Reader × Unit) × (List Int) × Unit) := bC (cPair cReader (cUnit)) (bRv 3 0 (bNil))
noncomputable def zf6 (s : z1m) : St U := { tm := [(0, .v (vO (cK (.ptr 0 0) (cUnit)) (()))), (1, .v (vO (cK2 (.fn 22 [(.ptr 0 0)] []) (cUnit)) (()))), (5, .v (vO (cK (.row 1 0) (cUnit)) (()))), (6, .v (vO (cPair (cInt .i64) (cUnit)) (s.t6, ())))], hp := [.cells ((cPair cReader (cUnit) : Cdc U (Reader × Unit)).enc (s.b0, ())) none, .row 3 0 s.b1] }
noncomputable def zhb (r : (Reader × (List Int))) : Ex × St U := (.exit 0, { tm := [(5, .v (vO (cK (.row 1 0) (cUnit)) (())))], hp := [.cells ((cPair cReader (cUnit) : Cdc U (Reader × Unit)).enc (r.1, ())) none, .row 3 0 r.2] })
noncomputable def ztg (r : (Reader × (List Int))) : Tree (Ex × St U) := .leaf (zhb r)
noncomputable def zot : Hd := { keep := [0, 1, 5, 6], xkeep := [4, 5], own := true }
noncomputable def z90 : Env U := { P := Tryz.prog, cd := cd, fns := (addF 22 false (z26) fns30), lps := (addL 0 zot (mkLoop zlm z12u z147 (z5e none) ztg) noL), frz := fun _r => false, nt := 26, n0 := 1 }
noncomputable def zlf : Code := (loopAt (Tryz.f21.body.getD .skip) 0 0).getD .skip
theorem z1ed (s : z1m) : round z90 zot zlf 0 (zf6 s) = (z3t none s).map (sumE zf6 zhb) := by kernel_rfl
theorem z1ah : LpOk z90 zlf 0 := mkLoop_ok (A := zlm) (B := z12u) (f := z147) (L := z5e none) (tO_ok (cK_ok cUnit_ok) (tO_ok (cK2_ok cUnit_ok) (tO_ok (cK_ok cUnit_ok) (tO_ok (cPair_ok (cInt_ok .i64) cUnit_ok) tNil_ok)))) (bC_ok (cPair_ok zh cUnit_ok) (bRv_ok bNil_ok)) (enc := zf6) (out := ztg) (outS := zhb) (step := z3t none) (fun _ => rfl) (fun _ _ => by kernel_rfl) (by kernel_rfl) (fun _ => rfl) z1ed
theorem z18d (g0 : Reader) : execX false z90 Tryz.f21 (zdr.enc ()) (zbl.enc (g0, ())) = (z7r none g0).map (zgz () (g0, ())) := by kernel_rfl
theorem z1au : ∀ (x : Unit) (g : Reader × Unit), execX false z90 Tryz.f21 (zdr.enc x) (zbl.enc g) = (z7r none g.1).map (zgz x g)
  | (), (g0, ()) => z18d g0
theorem zx8 : FnOk Tryz.prog cd 21 zfd := mk_okG (E := z90) (A := zdr) (B := zbl) false cd_ok (addF_ok z33 zm) Tryz.func21 (by kernel_rfl) (loops_of (addL_ok z1ah noL_ok)) (aP_ok (aKF_ok (aNil_ok))) (bC_ok zh bNil_ok) (T := fun (x : Unit) (g : Reader × Unit) => z7r none g.1) (fun _ _ => rfl) z1au
/-- (*emulator/save.reader).truth -/
noncomputable def z5u (q : Option Nat) (g0 : Reader) : Tree (Bool × Reader) :=
  .opt (Int × Reader) (zb q (1 : Int) g0) fun r107 =>
    .ite (r107.2.bad)
      (.leaf ((decide (r107.1 = (1 : Int)), Reader.mk r107.2.s r107.2.at_ true)))
      (.leaf ((decide (r107.1 = (1 : Int)), Reader.mk r107.2.s r107.2.at_ (decide ((1 : Int) < r107.1)))))
noncomputable def za (q : Option Nat) (g0 : Reader) : Option (Bool × Reader) := (z5u q g0).run
noncomputable def zck : Arg U (Unit) := aP 0 0 (aNil)
noncomputable def zdm : Bls U (Reader × Unit) := bC cReader (bNil)
noncomputable def zie (_x : Unit) (_g : Reader × Unit) (r : (Bool × Reader)) : List (V U) × List (Blk U) := ([vO (cPair cBool (cUnit)) (r.1, ())], [.cells ((cPair cReader (cUnit) : Cdc U (Reader × Unit)).enc (r.2, ())) none])
noncomputable def z4u : List (V U) → List (Blk U) → Option (FnOut U) := mkSpecG zck zdm (fun x g => za none g.1) zie
noncomputable def zfa : Env U := { P := Tryz.prog, cd := cd, fns := (addF 29 false (z2z) fns30), lps := noL, frz := fun _r => false, nt := 19, n0 := 1 }
theorem z15m (g0 : Reader) : execX false zfa Tryz.f24 (zck.enc ()) (zdm.enc (g0, ())) = (z5u none g0).map (zie () (g0, ())) := by kernel_rfl
theorem z1bq : ∀ (x : Unit) (g : Reader × Unit), execX false zfa Tryz.f24 (zck.enc x) (zdm.enc g) = (z5u none g.1).map (zie x g)
  | (), (g0, ()) => z15m g0
theorem z85 : FnOk Tryz.prog cd 24 z4u := mk_okG (E := zfa) (A := zck) (B := zdm) false cd_ok (addF_ok z43 zm) Tryz.func24 (by kernel_rfl) (noLoops_body (by kernel_rfl)) (aP_ok (aNil_ok)) (bC_ok zh bNil_ok) (T := fun (x : Unit) (g : Reader × Unit) => z5u none g.1) (fun _ _ => rfl) z1bq
/-- (*emulator/save.reader).mmu -/
structure z1f where
  t4 : Int
  t9 : Int
  t12 : Int
  b0 : Reader
  b1 : Mmu
  b2 : Mmu
noncomputable def z5p (q : Option Nat) (s : z1f) : Tree (z1f ⊕ (Int × Reader × Mmu × Mmu)) :=
  .ite (decide (s.t12 < (8 : Int)))
    (.opt (Int × Reader) (zd q s.b0) fun r109 =>
      .opt (Int × Reader) (zb q (1 : Int) r109.2) fun r110 =>
        .opt (Int × Reader) (zb q (1 : Int) r110.2) fun r111 =>
          .opt (Bool × Reader) (za q r111.2) fun r112 =>
            .ite (decide (0 ≤ s.t4))
              (.ite (decide (s.t4 < (2 : Int)))
                (.ite (decide (0 ≤ s.t12))
                  (.ite (decide (s.t12 < (8 : Int)))
                    (.opt Page (s.b2.pages[(s.t4).toNat * 8 + (s.t12).toNat * 1]?) fun y113 =>
                      .leaf (.inl (z1f.mk s.t4 s.t9 (IntKind.wrap .i64 (s.t12 + (1 : Int))) r112.2 s.b1 (Mmu.mk s.b2.on (s.b2.pages.set ((s.t4).toNat * 8 + (s.t12).toNat * 1) (Page.mk r109.1 r110.1 r111.1 r112.1)) s.b2.status s.b2.addr))))
                    .fail)
                  .fail)
                .fail)
              .fail)
    (.leaf (.inr (s.t9, s.b0, s.b1, s.b2)))
noncomputable def z2q (q : Option Nat) (s : z1f) : Option (Int × Reader × Mmu × Mmu) := limQ q (fun s => (z5p q s).run) s
structure z29 where
  t9 : Int
  b0 : Reader
  b1 : Mmu
  b2 : Mmu
noncomputable def z2w (q : Option Nat) (s : z29) : Tree (z29 ⊕ (Reader × Mmu × Mmu)) :=
  .ite (decide (s.t9 < (2 : Int)))
    (.opt (Int × Reader × Mmu × Mmu) (z2q q (z1f.mk s.t9 s.t9 (0 : Int) s.b0 s.b1 s.b2)) fun l114 =>
      .leaf (.inl (z29.mk (IntKind.wrap .i64 (l114.1 + (1 : Int))) l114.2.1 l114.2.2.1 l114.2.2.2)))
    (.leaf (.inr (s.b0, s.b1, s.b2)))
noncomputable def z71 (q : Option Nat) (s : z29) : Option (Reader × Mmu × Mmu) := limQ q (fun s => (z2w q s).run) s
noncomputable def z7g (q : Option Nat) (g0 : Reader) : Tree (Mmu × Reader) :=
  .opt (Bool × Reader) (za q g0) fun r108 =>
    .opt (Reader × Mmu × Mmu) (z71 q (z29.mk (0 : Int) r108.2 (Mmu.mk false (List.replicate 16 (Page.mk (0 : Int) (0 : Int) (0 : Int) false)) 0 0) (Mmu.mk r108.1 (List.replicate 16 (Page.mk (0 : Int) (0 : Int) (0 : Int) false)) 0 0))) fun l115 =>
      .opt (Int × Reader) (zb q (1 : Int) l115.1) fun r116 =>
        .opt (Int × Reader) (zd q r116.2) fun r117 =>
          .leaf ((Mmu.mk l115.2.2.on l115.2.2.pages r116.1 r117.1, r117.2))
noncomputable def zbq (q : Option Nat) (g0 : Reader) : Option (Mmu × Reader) := (z7g q g0).run
noncomputable def zeb : Arg U (Unit) := aP 0 0 (aNil)
noncomputable def zcn : Bls U (Reader × Unit) := bC cReader (bNil)
noncomputable def zfh (_x : Unit) (_g : Reader × Unit) (r : (Mmu × Reader)) : List (V U) × List (Blk U) := ([vA (cPair cMmu (cUnit)) (r.1, ())], [.cells ((cPair cReader (cUnit) : Cdc U (Reader × Unit)).enc (r.2, ())) none])
noncomputable def zwp : List (V U) → List (Blk U) → Option (FnOut U) := mkSpecG zeb zcn (fun x g => zbq none g.1) zfh
noncomputable def zmg (x : (Unit) × (Unit) × (Unit) × (Int × Unit) × Unit) (g : (Reader × Unit) × (Mmu × Unit) × (Mmu × Unit) × Unit) : z29 := z29.mk x.2.2.2.1.1 g.1.1 g.2.1.1 g.2.2.1.1
noncomputable def zwm : Tms U ((Unit) × (Unit) × (Unit) × (Int × Unit) × Unit) := tO 0 (cK (.ptr 0 0) (cUnit)) (tO 2 (cK (.ptr 1 0) (cUnit)) (tO 3 (cK (.ptr 2 0) (cUnit)) (tO 9 (cPair (cInt .i64) (cUnit)) (tNil))))
noncomputable def zvu : Bls U ((Reader × Unit) × (Mmu × Unit) × (Mmu × Unit) × Unit) := bC (cPair cReader (cUnit)) (bC (cPair cMmu (cUnit)) (bC (cPair cMmu (cUnit)) (bNil)))
noncomputable def zgc (s : z29) : St U := { tm := [(0, .v (vO (cK (.ptr 0 0) (cUnit)) (()))), (2, .v (vO (cK (.ptr 1 0) (cUnit)) (()))), (3, .v (vO (cK (.ptr 2 0) (cUnit)) (()))), (9, .v (vO (cPair (cInt .i64) (cUnit)) (s.t9, ())))], hp := [.cells ((cPair cReader (cUnit) : Cdc U (Reader × Unit)).enc (s.b0, ())) none, .cells ((cPair cMmu (cUnit) : Cdc U (Mmu × Unit)).enc (s.b1, ())) none, .cells ((cPair cMmu (cUnit) : Cdc U (Mmu × Unit)).enc (s.b2, ())) none] }
noncomputable def zf2 (r : (Reader × Mmu × Mmu)) : Ex × St U := (.exit 0, { tm := [(0, .v (vO (cK (.ptr 0 0) (cUnit)) (()))), (2, .v (vO (cK (.ptr 1 0) (cUnit)) (()))), (3, .v (vO (cK (.ptr 2 0) (cUnit)) (())))], hp := [.cells ((cPair cReader (cUnit) : Cdc U (Reader × Unit)).enc (r.1, ())) none, .cells ((cPair cMmu (cUnit) : Cdc U (Mmu × Unit)).enc (r.2.1, ())) none, .cells ((cPair cMmu (cUnit) : Cdc U (Mmu × Unit)).enc (r.2.2, ())) none] })
noncomputable def znp (r : (Reader × Mmu × Mmu)) : Tree (Ex × St U) := .leaf (zf2 r)
noncomputable def zwr : Hd := { keep := [0, 2, 3, 9], xkeep := [0, 2, 3], own := false }
noncomputable def zjq (x : (Unit) × (Unit) × (Unit) × (Int × Unit) × (Int × Unit) × (Int × Unit) × Unit) (g : (Reader × Unit) × (Mmu × Unit) × (Mmu × Unit) × Unit) : z1f := z1f.mk x.2.2.2.1.1 x.2.2.2.2.1.1 x.2.2.2.2.2.1.1 g.1.1 g.2.1.1 g.2.2.1.1
noncomputable def zsh : Tms U ((Unit) × (Unit) × (Unit) × (Int × Unit) × (Int × Unit) × (Int × Unit) × Unit) := tO 0 (cK (.ptr 0 0) (cUnit)) (tO 2 (cK (.ptr 1 0) (cUnit)) (tO 3 (cK (.ptr 2 0) (cUnit)) (tO 4 (cPair (cInt .i64) (cUnit)) (tO 9 (cPair (cInt .i64) (cUnit)) (tO 12 (cPair (cInt .i64) (cUnit)) (tNil))))))
noncomputable def zoz : Bls U ((Reader × Unit) × (Mmu × Unit) × (Mmu × Unit) × Unit) := bC (cPair cReader (cUnit)) (bC (cPair cMmu (cUnit)) (bC (cPair cMmu (cUnit)) (bNil)))
noncomputable def zif (s : z1f) : St U := { tm := [(0, .v (vO (cK (.ptr 0 0) (cUnit)) (()))), (2, .v (vO (cK (.ptr 1 0) (cUnit)) (()))), (3, .v (vO (cK (.ptr 2 0) (cUnit)) (()))), (4, .v (vO (cPair (cInt .i64) (cUnit)) (s.t4, ()))), (9, .v (vO (cPair (cInt .i64) (cUnit)) (s.t9, ()))), (12, .v (vO (cPair (cInt .i64) (cUnit)) (s.t12, ())))], hp := [.cells ((cPair cReader (cUnit) : Cdc U (Reader × Unit)).enc (s.b0, ())) none, .cells ((cPair cMmu (cUnit) : Cdc U (Mmu × Unit)).enc (s.b1, ())) none, .cells ((cPair cMmu (cUnit) : Cdc U (Mmu × Unit)).enc (s.b2, ())) none] }
noncomputable def zg1 (r : (Int × Reader × Mmu × Mmu)) : Ex × St U := (.exit 2, { tm := [(0, .v (vO (cK (.ptr 0 0) (cUnit)) (()))), (2, .v (vO (cK (.ptr 1 0) (cUnit)) (()))), (3, .v (vO (cK (.ptr 2 0) (cUnit)) (()))), (9, .v (vO (cPair (cInt .i64) (cUnit)) (r.1, ())))], hp := [.cells ((cPair cReader (cUnit) : Cdc U (Reader × Unit)).enc (r.2.1, ())) none, .cells ((cPair cMmu (cUnit) : Cdc U (Mmu × Unit)).enc (r.2.2.1, ())) none, .cells ((cPair cMmu (cUnit) : Cdc U (Mmu × Unit)).enc (r.2.2.2, ())) none] })
noncomputable def z12f (r : (Int × Reader × Mmu × Mmu)) : Tree (Ex × St U) := .leaf (zg1 r)
noncomputable def zxo : Hd := { keep := [0, 2, 3, 4, 9, 12], xkeep := [0, 2, 3, 9], own := false }
noncomputable def z3h : Env U := { P := Tryz.prog, cd := cd, fns := (addF 29 false (z2z) (addF 24 false (z4u) (addF 22 false (z26) fns30))), lps := (addL 0 zwr (mkLoop zwm zvu zmg (z71 none) znp) (addL 1 zxo (mkLoop zsh zoz zjq (z2q none) z12f) noL)), frz := fun _r => false, nt := 38, n0 := 1, fps := fun _r _i => bif Nat.beq _r 8 && Nat.beq _i 3 then .wr [0] 3 else bif Nat.beq _r 8 && Nat.beq _i 5 then .wr [0] 3 else bif Nat.beq _r 8 && Nat.beq _i 7 then .wr [0] 3 else bif Nat.beq _r 8 && Nat.beq _i 9 then .wr [0] 3 else bif Nat.beq _r 8 && Nat.beq _i 11 then .rd [] else bif Nat.beq _r 8 && Nat.beq _i 12 then .rd [2] else .none }
noncomputable def znl : Code := (loopAt (Tryz.f23.body.getD .skip) 0 0).getD .skip
theorem z17u (s : z29) : round z3h zwr znl 0 (zgc s) = (z2w none s).map (sumE zgc zf2) := by kernel_rfl
theorem z1c6 : LpOk z3h znl 0 := mkLoop_ok (A := zwm) (B := zvu) (f := zmg) (L := z71 none) (tO_ok (cK_ok cUnit_ok) (tO_ok (cK_ok cUnit_ok) (tO_ok (cK_ok cUnit_ok) (tO_ok (cPair_ok (cInt_ok .i64) cUnit_ok) tNil_ok)))) (bC_ok (cPair_ok zh cUnit_ok) (bC_ok (cPair_ok zj cUnit_ok) (bC_ok (cPair_ok zj cUnit_ok) bNil_ok))) (enc := zgc) (out := znp) (outS := zf2) (step := z2w none) (fun _ => rfl) (fun _ _ => by kernel_rfl) (by kernel_rfl) (fun _ => rfl) z17u
noncomputable def zws : Code := (loopAt (Tryz.f23.body.getD .skip) 0 1).getD .skip
theorem z17d (s : z1f) : round z3h zxo zws 1 (zif s) = (z5p none s).map (sumE zif zg1) := by kernel_rfl
theorem z1da : LpOk z3h zws 1 := mkLoop_ok (A := zsh) (B := zoz) (f := zjq) (L := z2q none) (tO_ok (cK_ok cUnit_ok) (tO_ok (cK_ok cUnit_ok) (tO_ok (cK_ok cUnit_ok) (tO_ok (cPair_ok (cInt_ok .i64) cUnit_ok) (tO_ok (cPair_ok (cInt_ok .i64) cUnit_ok) (tO_ok (cPair_ok (cInt_ok .i64) cUnit_ok) tNil_ok)))))) (bC_ok (cPair_ok zh cUnit_ok) (bC_ok (cPair_ok zj cUnit_ok) (bC_ok (cPair_ok zj cUnit_ok) bNil_ok))) (enc := zif) (out := z12f) (outS := zg1) (step := z5p none) (fun _ => rfl) (fun _ _ => by kernel_rfl) (by kernel_rfl) (fun _ => rfl) z17d
theorem z17e (g0 : Reader) : execX false z3h Tryz.f23 (zeb.enc ()) (zcn.enc (g0, ())) = (z7g none g0).map (zfh () (g0, ())) := by kernel_rfl
theorem z17q : ∀ (x : Unit) (g : Reader × Unit), execX false z3h Tryz.f23 (zeb.enc x) (zcn.enc g) = (z7g none g.1).map (zfh x g)
  | (), (g0, ()) => z17e g0
theorem z19h : FnOk Tryz.prog cd 23 zwp := mk_okG (E := z3h) (A := zeb) (B := zcn) false cd_ok (addF_ok z43 (addF_ok z85 (addF_ok z33 zm))) Tryz.func23 (by kernel_rfl) (loops_of (addL_ok z1c6 (addL_ok z1da noL_ok))) (aP_ok (aNil_ok)) (bC_ok zh bNil_ok) (T := fun (x : Unit) (g : Reader × Unit) => z7g none g.1) (fun _ _ => rfl) z17q
/-- emulator/octet.GetText -/
noncomputable def z8g (q : Option Nat) (x0 : (List UInt8)) (x1 : Int) : Tree ((List UInt8) × Int × Int) :=
  .opt (Int × Int × Int) (z4f q x0 x1 (2 : Int)) fun r137 =>
    .ite (!decide (r137.2.2 = (0 : Int)))
      (.leaf ((([] : List UInt8), (0 : Int), r137.2.2)))
      (.ite (decide ((IntKind.wrap .i64 ((x0.length : Int) - r137.2.1)) < r137.1))
        (.leaf ((([] : List UInt8), (0 : Int), (8 : Int))))
        (.ite (decide (0 ≤ r137.2.1))
          (.ite (decide (r137.2.1 ≤ ((x0.length : Nat) : Int)))
            (.ite (decide (0 ≤ r137.1))
              (.ite (decide (r137.1 ≤ ((((x0.drop ((r137.2.1).toNat)).take (x0.length - (r137.2.1).toNat)).length : Nat) : Int)))
                (.leaf (((((x0.drop ((r137.2.1).toNat)).take (x0.length - (r137.2.1).toNat)).drop (0)).take ((r137.1).toNat - 0), IntKind.wrap .i64 (r137.2.1 + r137.1), (0 : Int))))
                .fail)
              .fail)
            .fail)
          .fail))
noncomputable def zdy (q : Option Nat) (x0 : (List UInt8)) (x1 : Int) : Option ((List UInt8) × Int × Int) := (z8g q x0 x1).run
noncomputable def zbz : Arg U ((List UInt8) × Int × Unit) := aO cStr (aO (cInt .i64) (aNil))
noncomputable def z9l : Bls U (Unit) := bNil
noncomputable def zh5 (_x : (List UInt8) × Int × Unit) (_g : Unit) (r : ((List UInt8) × Int × Int)) : List (V U) × List (Blk U) := ([vO (cPair cStr (cUnit)) (r.1, ()), vO (cPair (cInt .i64) (cUnit)) (r.2.1, ()), vO (cPair (cInt .i64) (cUnit)) (r.2.2, ())], [])
noncomputable def zqx : List (V U) → List (Blk U) → Option (FnOut U) := mkSpecG zbz z9l (fun x _ => zdy none x.1 x.2.1) zh5
noncomputable def zez : Env U := { P := Tryz.prog, cd := cd, fns := fns30, lps := noL, frz := fun _r => false, nt := 34, n0 := 0 }
theorem z15b (x0 : (List UInt8)) (x1 : Int) : execX false zez Tryz.f106 (zbz.enc (x0, x1, ())) (z9l.enc ()) = (z8g none x0 x1).map (zh5 (x0, x1, ()) ()) := by kernel_rfl
theorem z16w : ∀ (x : (List UInt8) × Int × Unit) (g : Unit), execX false zez Tryz.f106 (zbz.enc x) (z9l.enc g) = (z8g none x.1 x.2.1).map (zh5 x g)
  | (x0, x1, ()), () => z15b x0 x1
theorem z191 : FnOk Tryz.prog cd 106 zqx := mk_okG (E := zez) (A := zbz) (B := z9l) false cd_ok zm Tryz.func106 (by kernel_rfl) (noLoops_body (by kernel_rfl)) (aO_ok cStr_ok (aO_ok (cInt_ok .i64) (aNil_ok))) bNil_ok (T := fun (x : (List UInt8) × Int × Unit) (_ : Unit) => z8g none x.1 x.2.1) (fun _ _ => rfl) z16w
/-- (*emulator/save.reader).text -/
noncomputable def z3v (q : Option Nat) (g0 : Reader) : Tree ((List UInt8) × Reader) :=
  .opt ((List UInt8) × Int × Int) (zdy q g0.s g0.at_) fun r138 =>
    .ite (!decide (r138.2.2 = (0 : Int)))
      (.leaf ((([] : List UInt8), Reader.mk g0.s g0.at_ true)))
      (.leaf ((r138.1, Reader.mk g0.s r138.2.1 g0.bad)))
noncomputable def z46 (q : Option Nat) (g0 : Reader) : Option ((List UInt8) × Reader) := (z3v q g0).run
noncomputable def zdi : Arg U (Unit) := aP 0 0 (aNil)
noncomputable def zch : Bls U (Reader × Unit) := bC cReader (bNil)
noncomputable def zgn (_x : Unit) (_g : Reader × Unit) (r : ((List UInt8) × Reader)) : List (V U) × List (Blk U) := ([vO (cPair cStr (cUnit)) (r.1, ())], [.cells ((cPair cReader (cUnit) : Cdc U (Reader × Unit)).enc (r.2, ())) none])
noncomputable def zgt : List (V U) → List (Blk U) → Option (FnOut U) := mkSpecG zdi zch (fun x g => z46 none g.1) zgn
noncomputable def zia : Env U := { P := Tryz.prog, cd := cd, fns := (addF 106 false (zqx) fns30), lps := noL, frz := fun _r => false, nt := 29, n0 := 1 }
theorem z1bc (g0 : Reader) : execX false zia Tryz.f48 (zdi.enc ()) (zch.enc (g0, ())) = (z3v none g0).map (zgn () (g0, ())) := by kernel_rfl
theorem z1d8 : ∀ (x : Unit) (g : Reader × Unit), execX false zia Tryz.f48 (zdi.enc x) (zch.enc g) = (z3v none g.1).map (zgn x g)
  | (), (g0, ()) => z1bc g0
theorem zyd : FnOk Tryz.prog cd 48 zgt := mk_okG (E := zia) (A := zdi) (B := zch) false cd_ok (addF_ok z191 zm) Tryz.func48 (by kernel_rfl) (noLoops_body (by kernel_rfl)) (aP_ok (aNil_ok)) (bC_ok zh bNil_ok) (T := fun (x : Unit) (g : Reader × Unit) => z3v none g.1) (fun _ _ => rfl) z1d8
/-- (*emulator/save.reader).line -/
noncomputable def z8o (q : Option Nat) (g0 : Reader) : Tree (Line × Reader) :=
  .opt (Bool × Reader) (za q g0) fun r139 =>
    .opt (Bool × Reader) (za q r139.2) fun r140 =>
      .opt (Bool × Reader) (za q r140.2) fun r141 =>
        .opt (Int × Reader) (zb q (1 : Int) r141.2) fun r142 =>
          .opt (Bool × Reader) (za q r142.2) fun r143 =>
            .opt (Bool × Reader) (za q r143.2) fun r144 =>
              .opt (Int × Reader) (zb q (1 : Int) r144.2) fun r145 =>
                .opt (Int × Reader) (zb q (1 : Int) r145.2) fun r146 =>
                  .opt ((List UInt8) × Reader) (z46 q r146.2) fun r147 =>
                    .leaf ((Line.mk r139.1 r140.1 r141.1 r142.1 r143.1 r144.1 r145.1 r146.1 r147.1, r147.2))
noncomputable def zb8 (q : Option Nat) (g0 : Reader) : Option (Line × Reader) := (z8o q g0).run
noncomputable def zc4 : Arg U (Unit) := aP 0 0 (aNil)
noncomputable def zbn : Bls U (Reader × Unit) := bC cReader (bNil)
noncomputable def zil (_x : Unit) (_g : Reader × Unit) (r : (Line × Reader)) : List (V U) × List (Blk U) := ([vA (cPair cLine (cUnit)) (r.1, ())], [.cells ((cPair cReader (cUnit) : Cdc U (Reader × Unit)).enc (r.2, ())) none])
noncomputable def zo9 : List (V U) → List (Blk U) → Option (FnOut U) := mkSpecG zc4 zbn (fun x g => zb8 none g.1) zil
noncomputable def zh6 : Env U := { P := Tryz.prog, cd := cd, fns := (addF 48 false (zgt) (addF 29 false (z2z) (addF 24 false (z4u) fns30))), lps := noL, frz := fun _r => false, nt := 22, n0 := 1 }
theorem z1f3 (g0 : Reader) : execX false zh6 Tryz.f26 (zc4.enc ()) (zbn.enc (g0, ())) = (z8o none g0).map (zil () (g0, ())) := by kernel_rfl
theorem z1c2 : ∀ (x : Unit) (g : Reader × Unit), execX false zh6 Tryz.f26 (zc4.enc x) (zbn.enc g) = (z8o none g.1).map (zil x g)
  | (), (g0, ()) => z1f3 g0
theorem z16s : FnOk Tryz.prog cd 26 zo9 := mk_okG (E := zh6) (A := zc4) (B := zbn) false cd_ok (addF_ok zyd (addF_ok z43 (addF_ok z85 zm))) Tryz.func26 (by kernel_rfl) (noLoops_body (by kernel_rfl)) (aP_ok (aNil_ok)) (bC_ok zh bNil_ok) (T := fun (x : Unit) (g : Reader × Unit) => z8o none g.1) (fun _ _ => rfl) z1c2
/-- emulator/save.listed[emulator/api.Line] -/
structure z1o where
  t6 : Int
  b0 : Reader
  b1 : (List Line)
noncomputable def z45 (q : Option Nat) (s : z1o) : Tree (z1o ⊕ (Reader × (List Line))) :=
  .ite (decide ((0 : Int) < s.t6))
    (.ite (!s.b0.bad)
      (.opt (Line × Reader) (zb8 q s.b0) fun r151 =>
        .ite (decide ((s.b1.length + ([r151.1]).length) * 56 ≤ 140737488355328))
          (.leaf (.inl (z1o.mk (IntKind.wrap .i64 (s.t6 - (1 : Int))) r151.2 (s.b1 ++ ([r151.1])))))
          .fail)
      (.leaf (.inr (s.b0, s.b1))))
    (.leaf (.inr (s.b0, s.b1)))
noncomputable def z6a (q : Option Nat) (s : z1o) : Option (Reader × (List Line)) := limQ q (fun s => (z45 q s).run) s
noncomputable def z6p (q : Option Nat) (g0 : Reader) : Tree ((List Line) × Reader) :=
  .opt (Int × Reader) (zd q g0) fun r150 =>
    .opt (Reader × (List Line)) (z6a q (z1o.mk r150.1 r150.2 ([]))) fun l152 =>
      .leaf ((l152.2, l152.1))
noncomputable def zbb (q : Option Nat) (g0 : Reader) : Option ((List Line) × Reader) := (z6p q g0).run
noncomputable def z9e : Arg U (Unit) := aP 0 0 (aKF (.fn 26 [(.ptr 0 0)] []) (aNil))
noncomputable def zc6 : Bls U (Reader × Unit) := bC cReader (bNil)
noncomputable def zgd (_x : Unit) (_g : Reader × Unit) (r : ((List Line) × Reader)) : List (V U) × List (Blk U) := ([vO (cPair (cSl 66) (cUnit)) (r.1, ())], [.cells ((cPair cReader (cUnit) : Cdc U (Reader × Unit)).enc (r.2, ())) none])
noncomputable def z12z : List (V U) → List (Blk U) → Option (FnOut U) := mkSpecG z9e zc6 (fun x g => zbb none g.1) zgd
noncomputable def zmq (x : (Unit) × (Unit) × (Unit) × (Int × Unit) × Unit) (g : (Reader × Unit) × (List Line) × Unit) : z1o := z1o.mk x.2.2.2.1.1 g.1.1 g.2.1
noncomputable def znm : Tms U ((Unit) × (Unit) × (Unit) × (Int × Unit) × Unit) := tO 0 (cK (.ptr 0 0) (cUnit)) (tO 1 (cK2 (.fn 26 [(.ptr 0 0)] []) (cUnit)) (tO 5 (cK (.row 1 0) (cUnit)) (tO 6 (cPair (cInt .i64) (cUnit)) (tNil))))
noncomputable def zv2 : Bls U ((Reader × Unit) × (List Line) × Unit) := bC (cPair cReader (cUnit)) (bRv 66 0 (bNil))
noncomputable def zfy (s : z1o) : St U := { tm := [(0, .v (vO (cK (.ptr 0 0) (cUnit)) (()))), (1, .v (vO (cK2 (.fn 26 [(.ptr 0 0)] []) (cUnit)) (()))), (5, .v (vO (cK (.row 1 0) (cUnit)) (()))), (6, .v (vO (cPair (cInt .i64) (cUnit)) (s.t6, ())))], hp := [.cells ((cPair cReader (cUnit) : Cdc U (Reader × Unit)).enc (s.b0, ())) none, .row 66 0 s.b1] }
noncomputable def zek (r : (Reader × (List Line))) : Ex × St U := (.exit 0, { tm := [(5, .v (vO (cK (.row 1 0) (cUnit)) (())))], hp := [.cells ((cPair cReader (cUnit) : Cdc U (Reader × Unit)).enc (r.1, ())) none, .row 66 0 r.2] })
noncomputable def z110 (r : (Reader × (List Line))) : Tree (Ex × St U) := .leaf (zek r)
noncomputable def zku : Hd := { keep := [0, 1, 5, 6], xkeep := [4, 5], own := true }
noncomputable def z6w : Env U := { P := Tryz.prog, cd := cd, fns := (addF 26 false (zo9) (addF 22 false (z26) fns30)), lps := (addL 0 zku (mkLoop znm zv2 zmq (z6a none) z110) noL), frz := fun _r => false, nt := 26, n0 := 1 }
noncomputable def zr8 : Code := (loopAt (Tryz.f25.body.getD .skip) 0 0).getD .skip
theorem z17k (s : z1o) : round z6w zku zr8 0 (zfy s) = (z45 none s).map (sumE zfy zek) := by kernel_rfl
theorem z160 : LpOk z6w zr8 0 := mkLoop_ok (A := znm) (B := zv2) (f := zmq) (L := z6a none) (tO_ok (cK_ok cUnit_ok) (tO_ok (cK2_ok cUnit_ok) (tO_ok (cK_ok cUnit_ok) (tO_ok (cPair_ok (cInt_ok .i64) cUnit_ok) tNil_ok)))) (bC_ok (cPair_ok zh cUnit_ok) (bRv_ok bNil_ok)) (enc := zfy) (out := z110) (outS := zek) (step := z45 none) (fun _ => rfl) (fun _ _ => by kernel_rfl) (by kernel_rfl) (fun _ => rfl) z17k
theorem z16l (g0 : Reader) : execX false z6w Tryz.f25 (z9e.enc ()) (zc6.enc (g0, ())) = (z6p none g0).map (zgd () (g0, ())) := by kernel_rfl
theorem z1eg : ∀ (x : Unit) (g : Reader × Unit), execX false z6w Tryz.f25 (z9e.enc x) (zc6.enc g) = (z6p none g.1).map (zgd x g)
  | (), (g0, ()) => z16l g0
theorem z190 : FnOk Tryz.prog cd 25 z12z := mk_okG (E := z6w) (A := z9e) (B := zc6) false cd_ok (addF_ok z16s (addF_ok z33 zm)) Tryz.func25 (by kernel_rfl) (loops_of (addL_ok z160 noL_ok)) (aP_ok (aKF_ok (aNil_ok))) (bC_ok zh bNil_ok) (T := fun (x : Unit) (g : Reader × Unit) => z6p none g.1) (fun _ _ => rfl) z1eg
/-- emulator/save.listed[string] -/
structure z20 where
  t6 : Int
  b0 : Reader
  b1 : (List (List UInt8))
noncomputable def z44 (q : Option Nat) (s : z20) : Tree (z20 ⊕ (Reader × (List (List UInt8)))) :=
  .ite (decide ((0 : Int) < s.t6))
    (.ite (!s.b0.bad)
      (.opt ((List UInt8) × Reader) (z46 q s.b0) fun r167 =>
        .ite (decide ((s.b1.length + ([r167.1]).length) * 16 ≤ 140737488355328))
          (.leaf (.inl (z20.mk (IntKind.wrap .i64 (s.t6 - (1 : Int))) r167.2 (s.b1 ++ ([r167.1])))))
          .fail)
      (.leaf (.inr (s.b0, s.b1))))
    (.leaf (.inr (s.b0, s.b1)))
noncomputable def z5m (q : Option Nat) (s : z20) : Option (Reader × (List (List UInt8))) := limQ q (fun s => (z44 q s).run) s
noncomputable def z77 (q : Option Nat) (g0 : Reader) : Tree ((List (List UInt8)) × Reader) :=
  .opt (Int × Reader) (zd q g0) fun r166 =>
    .opt (Reader × (List (List UInt8))) (z5m q (z20.mk r166.1 r166.2 ([]))) fun l168 =>
      .leaf ((l168.2, l168.1))
noncomputable def z82 (q : Option Nat) (g0 : Reader) : Option ((List (List UInt8)) × Reader) := (z77 q g0).run
noncomputable def zci : Arg U (Unit) := aP 0 0 (aKF (.fn 48 [(.ptr 0 0)] []) (aNil))
noncomputable def zab : Bls U (Reader × Unit) := bC cReader (bNil)
noncomputable def zf7 (_x : Unit) (_g : Reader × Unit) (r : ((List (List UInt8)) × Reader)) : List (V U) × List (Blk U) := ([vO (cPair (cSl 9) (cUnit)) (r.1, ())], [.cells ((cPair cReader (cUnit) : Cdc U (Reader × Unit)).enc (r.2, ())) none])
noncomputable def zfu : List (V U) → List (Blk U) → Option (FnOut U) := mkSpecG zci zab (fun x g => z82 none g.1) zf7
noncomputable def znc (x : (Unit) × (Unit) × (Unit) × (Int × Unit) × Unit) (g : (Reader × Unit) × (List (List UInt8)) × Unit) : z20 := z20.mk x.2.2.2.1.1 g.1.1 g.2.1
noncomputable def zxg : Tms U ((Unit) × (Unit) × (Unit) × (Int × Unit) × Unit) := tO 0 (cK (.ptr 0 0) (cUnit)) (tO 1 (cK2 (.fn 48 [(.ptr 0 0)] []) (cUnit)) (tO 5 (cK (.row 1 0) (cUnit)) (tO 6 (cPair (cInt .i64) (cUnit)) (tNil))))
noncomputable def zog : Bls U ((Reader × Unit) × (List (List UInt8)) × Unit) := bC (cPair cReader (cUnit)) (bRv 9 0 (bNil))
noncomputable def zgr (s : z20) : St U := { tm := [(0, .v (vO (cK (.ptr 0 0) (cUnit)) (()))), (1, .v (vO (cK2 (.fn 48 [(.ptr 0 0)] []) (cUnit)) (()))), (5, .v (vO (cK (.row 1 0) (cUnit)) (()))), (6, .v (vO (cPair (cInt .i64) (cUnit)) (s.t6, ())))], hp := [.cells ((cPair cReader (cUnit) : Cdc U (Reader × Unit)).enc (s.b0, ())) none, .row 9 0 s.b1] }
noncomputable def zgv (r : (Reader × (List (List UInt8)))) : Ex × St U := (.exit 0, { tm := [(5, .v (vO (cK (.row 1 0) (cUnit)) (())))], hp := [.cells ((cPair cReader (cUnit) : Cdc U (Reader × Unit)).enc (r.1, ())) none, .row 9 0 r.2] })
noncomputable def zsc (r : (Reader × (List (List UInt8)))) : Tree (Ex × St U) := .leaf (zgv r)
noncomputable def z138 : Hd := { keep := [0, 1, 5, 6], xkeep := [4, 5], own := true }
noncomputable def z6x : Env U := { P := Tryz.prog, cd := cd, fns := (addF 48 false (zgt) (addF 22 false (z26) fns30)), lps := (addL 0 z138 (mkLoop zxg zog znc (z5m none) zsc) noL), frz := fun _r => false, nt := 26, n0 := 1 }
noncomputable def z108 : Code := (loopAt (Tryz.f49.body.getD .skip) 0 0).getD .skip
theorem z1bj (s : z20) : round z6x z138 z108 0 (zgr s) = (z44 none s).map (sumE zgr zgv) := by kernel_rfl
theorem z1a1 : LpOk z6x z108 0 := mkLoop_ok (A := zxg) (B := zog) (f := znc) (L := z5m none) (tO_ok (cK_ok cUnit_ok) (tO_ok (cK2_ok cUnit_ok) (tO_ok (cK_ok cUnit_ok) (tO_ok (cPair_ok (cInt_ok .i64) cUnit_ok) tNil_ok)))) (bC_ok (cPair_ok zh cUnit_ok) (bRv_ok bNil_ok)) (enc := zgr) (out := zsc) (outS := zgv) (step := z44 none) (fun _ => rfl) (fun _ _ => by kernel_rfl) (by kernel_rfl) (fun _ => rfl) z1bj
theorem z18j (g0 : Reader) : execX false z6x Tryz.f49 (zci.enc ()) (zab.enc (g0, ())) = (z77 none g0).map (zf7 () (g0, ())) := by kernel_rfl
theorem z1cu : ∀ (x : Unit) (g : Reader × Unit), execX false z6x Tryz.f49 (zci.enc x) (zab.enc g) = (z77 none g.1).map (zf7 x g)
  | (), (g0, ()) => z18j g0
theorem zu4 : FnOk Tryz.prog cd 49 zfu := mk_okG (E := z6x) (A := zci) (B := zab) false cd_ok (addF_ok zyd (addF_ok z33 zm)) Tryz.func49 (by kernel_rfl) (loops_of (addL_ok z1a1 noL_ok)) (aP_ok (aKF_ok (aNil_ok))) (bC_ok zh bNil_ok) (T := fun (x : Unit) (g : Reader × Unit) => z77 none g.1) (fun _ _ => rfl) z1cu
/-- (*emulator/save.reader).disk -/
noncomputable def z6g (q : Option Nat) (g0 : Reader) : Tree (Disk × Reader) :=
  .opt ((List (List UInt8)) × Reader) (z82 q g0) fun r169 =>
    .opt ((List Int) × Reader) (z5q q r169.2) fun r170 =>
      .opt (Bool × Reader) (za q r170.2) fun r171 =>
        .opt (Bool × Reader) (za q r171.2) fun r172 =>
          .opt (Bool × Reader) (za q r172.2) fun r173 =>
            .opt (Int × Reader) (zb q (1 : Int) r173.2) fun r174 =>
              .opt (Int × Reader) (zd q r174.2) fun r175 =>
                .opt (Int × Reader) (zd q r175.2) fun r176 =>
                  .opt (Int × Reader) (zd q r176.2) fun r177 =>
                    .opt (Int × Reader) (zb q (1 : Int) r177.2) fun r178 =>
                      .leaf ((Disk.mk (Drive.mk r169.1 r170.1) r171.1 r172.1 r173.1 r174.1 r175.1 r176.1 r177.1 r178.1, r178.2))
noncomputable def zc3 (q : Option Nat) (g0 : Reader) : Option (Disk × Reader) := (z6g q g0).run
noncomputable def zat : Arg U (Unit) := aP 0 0 (aNil)
noncomputable def z9b : Bls U (Reader × Unit) := bC cReader (bNil)
noncomputable def zh4 (_x : Unit) (_g : Reader × Unit) (r : (Disk × Reader)) : List (V U) × List (Blk U) := ([vA (cPair cDisk (cUnit)) (r.1, ())], [.cells ((cPair cReader (cUnit) : Cdc U (Reader × Unit)).enc (r.2, ())) none])
noncomputable def zqa : List (V U) → List (Blk U) → Option (FnOut U) := mkSpecG zat z9b (fun x g => zc3 none g.1) zh4
noncomputable def zg3 : Env U := { P := Tryz.prog, cd := cd, fns := (addF 49 false (zfu) (addF 29 false (z2z) (addF 24 false (z4u) (addF 22 false (z26) (addF 21 false (zfd) fns30))))), lps := noL, frz := fun _r => false, nt := 31, n0 := 1, fps := fun _r _i => bif Nat.beq _r 2 && Nat.beq _i 0 then .rd [2] else bif Nat.beq _r 2 && Nat.beq _i 2 then .wr [0] 3 else bif Nat.beq _r 2 && Nat.beq _i 4 then .wr [0] 3 else bif Nat.beq _r 2 && Nat.beq _i 6 then .wr [0] 3 else bif Nat.beq _r 2 && Nat.beq _i 8 then .wr [0] 3 else bif Nat.beq _r 2 && Nat.beq _i 10 then .wr [0] 3 else bif Nat.beq _r 2 && Nat.beq _i 12 then .wr [0] 3 else bif Nat.beq _r 2 && Nat.beq _i 14 then .wr [0] 3 else bif Nat.beq _r 2 && Nat.beq _i 16 then .wr [0] 3 else .none }
theorem z19k (g0 : Reader) : execX false zg3 Tryz.f27 (zat.enc ()) (z9b.enc (g0, ())) = (z6g none g0).map (zh4 () (g0, ())) := by kernel_rfl
theorem z16n : ∀ (x : Unit) (g : Reader × Unit), execX false zg3 Tryz.f27 (zat.enc x) (z9b.enc g) = (z6g none g.1).map (zh4 x g)
  | (), (g0, ()) => z19k g0
theorem z158 : FnOk Tryz.prog cd 27 zqa := mk_okG (E := zg3) (A := zat) (B := z9b) false cd_ok (addF_ok zu4 (addF_ok z43 (addF_ok z85 (addF_ok z33 (addF_ok zx8 zm))))) Tryz.func27 (by kernel_rfl) (noLoops_body (by kernel_rfl)) (aP_ok (aNil_ok)) (bC_ok zh bNil_ok) (T := fun (x : Unit) (g : Reader × Unit) => z6g none g.1) (fun _ _ => rfl) z16n
/-- (*emulator/save.reader).tape -/
noncomputable def z7q (q : Option Nat) (g0 : Reader) : Tree (Tape × Reader) :=
  .opt ((List (List UInt8)) × Reader) (z82 q g0) fun r191 =>
    .opt (Int × Reader) (zb q (1 : Int) r191.2) fun r192 =>
      .opt (Bool × Reader) (za q r192.2) fun r193 =>
        .opt (Bool × Reader) (za q r193.2) fun r194 =>
          .opt (Bool × Reader) (za q r194.2) fun r195 =>
            .opt (Bool × Reader) (za q r195.2) fun r196 =>
              .opt (Bool × Reader) (za q r196.2) fun r197 =>
                .opt (Int × Reader) (zb q (1 : Int) r197.2) fun r198 =>
                  .opt (Int × Reader) (zd q r198.2) fun r199 =>
                    .opt (Int × Reader) (zd q r199.2) fun r200 =>
                      .opt (Int × Reader) (zb q (1 : Int) r200.2) fun r201 =>
                        .leaf ((Tape.mk r191.1 r192.1 r193.1 r194.1 r195.1 r196.1 r197.1 r198.1 r199.1 r200.1 r201.1, r201.2))
noncomputable def zb2 (q : Option Nat) (g0 : Reader) : Option (Tape × Reader) := (z7q q g0).run
noncomputable def z9t : Arg U (Unit) := aP 0 0 (aNil)
noncomputable def ze4 : Bls U (Reader × Unit) := bC cReader (bNil)
noncomputable def zj5 (_x : Unit) (_g : Reader × Unit) (r : (Tape × Reader)) : List (V U) × List (Blk U) := ([vA (cPair cTape (cUnit)) (r.1, ())], [.cells ((cPair cReader (cUnit) : Cdc U (Reader × Unit)).enc (r.2, ())) none])
noncomputable def zpp : List (V U) → List (Blk U) → Option (FnOut U) := mkSpecG z9t ze4 (fun x g => zb2 none g.1) zj5
noncomputable def zfz : Env U := { P := Tryz.prog, cd := cd, fns := (addF 49 false (zfu) (addF 29 false (z2z) (addF 24 false (z4u) (addF 22 false (z26) fns30)))), lps := noL, frz := fun _r => false, nt := 28, n0 := 1 }
theorem z172 (g0 : Reader) : execX false zfz Tryz.f28 (z9t.enc ()) (ze4.enc (g0, ())) = (z7q none g0).map (zj5 () (g0, ())) := by kernel_rfl
theorem z1ck : ∀ (x : Unit) (g : Reader × Unit), execX false zfz Tryz.f28 (z9t.enc x) (ze4.enc g) = (z7q none g.1).map (zj5 x g)
  | (), (g0, ()) => z172 g0
theorem z1dq : FnOk Tryz.prog cd 28 zpp := mk_okG (E := zfz) (A := z9t) (B := ze4) false cd_ok (addF_ok zu4 (addF_ok z43 (addF_ok z85 (addF_ok z33 zm)))) Tryz.func28 (by kernel_rfl) (noLoops_body (by kernel_rfl)) (aP_ok (aNil_ok)) (bC_ok zh bNil_ok) (T := fun (x : Unit) (g : Reader × Unit) => z7q none g.1) (fun _ _ => rfl) z1ck
/-- emulator/save.Decode -/
noncomputable def z7c (q : Option Nat) (x0 : (List UInt8)) : Tree (Machine × Int) :=
  .opt ((List UInt8) × Int) (zcx q x0) fun r202 =>
    .ite (!decide (r202.2 = (0 : Int)))
      (.leaf ((Machine.mk (Cpu.mk (List.replicate 6 (0 : Int)) (List.replicate 2 (0 : Int)) 0 0) ([]) ([]) (Mmu.mk false (List.replicate 16 (Page.mk (0 : Int) (0 : Int) (0 : Int) false)) 0 0) (Clock.mk false false 0 0) ([]) (Disk.mk (Drive.mk ([]) ([])) false false false 0 0 0 0 0) (Tape.mk ([]) 0 false false false false false 0 0 0 0) 0 false false 0 false, r202.2)))
      (.opt Bool (zdk r202.1 ([69, 77, 85, 49] : List UInt8)) fun r203 =>
        .ite (!r203)
          (.leaf ((Machine.mk (Cpu.mk (List.replicate 6 (0 : Int)) (List.replicate 2 (0 : Int)) 0 0) ([]) ([]) (Mmu.mk false (List.replicate 16 (Page.mk (0 : Int) (0 : Int) (0 : Int) false)) 0 0) (Clock.mk false false 0 0) ([]) (Disk.mk (Drive.mk ([]) ([])) false false false 0 0 0 0 0) (Tape.mk ([]) 0 false false false false false 0 0 0 0) 0 false false 0 false, (9 : Int))))
          (.opt (Cpu × Reader) (zd4 q (Reader.mk r202.1 (4 : Int) false)) fun r204 =>
            .opt ((List Int) × Reader) (z5q q r204.2) fun r205 =>
              .opt ((List Int) × Reader) (z5q q r205.2) fun r206 =>
                .opt (Mmu × Reader) (zbq q r206.2) fun r207 =>
                  .opt (Bool × Reader) (za q r207.2) fun r208 =>
                    .opt (Bool × Reader) (za q r208.2) fun r209 =>
                      .opt (Int × Reader) (zd q r209.2) fun r210 =>
                        .opt (Int × Reader) (zd q r210.2) fun r211 =>
                          .opt ((List Line) × Reader) (zbb q r211.2) fun r212 =>
                            .opt (Disk × Reader) (zc3 q r212.2) fun r213 =>
                              .opt (Tape × Reader) (zb2 q r213.2) fun r214 =>
                                .opt (Int × Reader) (zb q (6 : Int) r214.2) fun r215 =>
                                  .opt (Bool × Reader) (za q r215.2) fun r216 =>
                                    .opt (Bool × Reader) (za q r216.2) fun r217 =>
                                      .opt (Int × Reader) (zd q r217.2) fun r218 =>
                                        .opt (Bool × Reader) (za q r218.2) fun r219 =>
                                          .ite (r219.2.bad)
                                            (.leaf ((Machine.mk (Cpu.mk (List.replicate 6 (0 : Int)) (List.replicate 2 (0 : Int)) 0 0) ([]) ([]) (Mmu.mk false (List.replicate 16 (Page.mk (0 : Int) (0 : Int) (0 : Int) false)) 0 0) (Clock.mk false false 0 0) ([]) (Disk.mk (Drive.mk ([]) ([])) false false false 0 0 0 0 0) (Tape.mk ([]) 0 false false false false false 0 0 0 0) 0 false false 0 false, (9 : Int))))
                                            (.ite (!decide (r219.2.at_ = (r202.1.length : Int)))
                                              (.leaf ((Machine.mk (Cpu.mk (List.replicate 6 (0 : Int)) (List.replicate 2 (0 : Int)) 0 0) ([]) ([]) (Mmu.mk false (List.replicate 16 (Page.mk (0 : Int) (0 : Int) (0 : Int) false)) 0 0) (Clock.mk false false 0 0) ([]) (Disk.mk (Drive.mk ([]) ([])) false false false 0 0 0 0 0) (Tape.mk ([]) 0 false false false false false 0 0 0 0) 0 false false 0 false, (9 : Int))))
                                              (.opt Bool (zi q (Machine.mk r204.1 r205.1 r206.1 r207.1 (Clock.mk r208.1 r209.1 r210.1 r211.1) r212.1 r213.1 r214.1 r215.1 r216.1 r217.1 r218.1 r219.1)) fun r220 =>
                                                .ite (!r220)
                                                  (.leaf ((Machine.mk (Cpu.mk (List.replicate 6 (0 : Int)) (List.replicate 2 (0 : Int)) 0 0) ([]) ([]) (Mmu.mk false (List.replicate 16 (Page.mk (0 : Int) (0 : Int) (0 : Int) false)) 0 0) (Clock.mk false false 0 0) ([]) (Disk.mk (Drive.mk ([]) ([])) false false false 0 0 0 0 0) (Tape.mk ([]) 0 false false false false false 0 0 0 0) 0 false false 0 false, (9 : Int))))
                                                  (.leaf ((Machine.mk r204.1 r205.1 r206.1 r207.1 (Clock.mk r208.1 r209.1 r210.1 r211.1) r212.1 r213.1 r214.1 r215.1 r216.1 r217.1 r218.1 r219.1, (0 : Int))))))))
noncomputable def zt (q : Option Nat) (x0 : (List UInt8)) : Option (Machine × Int) := (z7c q x0).run
noncomputable def zz5 : Arg U ((List UInt8) × Unit) := aO cStr (aNil)
noncomputable def zoq (r : (Machine × Int)) : List (V U) × List (Blk U) := ([vA cMachine r.1, vO (cInt .i64) r.2], [])
noncomputable def zxh : List (V U) → List (Blk U) → Option (FnOut U) := mkSpec zz5 bNil (fun x _ => zt none x.1) zoq
noncomputable def zlr : Env U := { P := Tryz.prog, cd := cd, fns := (addF 29 false (z2z) (addF 28 false (zpp) (addF 27 false (zqa) (addF 25 false (z12z) (addF 24 false (z4u) (addF 23 false (zwp) (addF 22 false (z26) (addF 21 false (zfd) (addF 20 false (z10v) fns30))))))))), lps := noL, frz := fun _r => false, nt := 93, n0 := 0 }
theorem z15v (x : (List UInt8) × Unit) (g : Unit) : execF zlr Tryz.f7 (zz5.enc x) (bNil.enc g) = (z7c none x.1).map zoq := by kernel_rfl
theorem z186 : FnOk Tryz.prog cd 7 zxh := mk_ok (E := zlr) cd_ok (addF_ok z43 (addF_ok z1dq (addF_ok z158 (addF_ok z190 (addF_ok z85 (addF_ok z19h (addF_ok z33 (addF_ok zx8 (addF_ok z16e zm))))))))) Tryz.func7 (by kernel_rfl) (noLoops_body (by kernel_rfl)) (aO_ok cStr_ok (aNil_ok)) bNil_ok (T := fun x _ => z7c none x.1) (fun _ _ => rfl) z15v
noncomputable def fns7 := addF 7 true zxh fns30
theorem z13c : ∀ f q t, fns7 f = some (q, t) → FnOk Tryz.prog cd f t := addF_ok z186 zm
/-- emulator/octet.joined -/
structure z1x where
  t6 : (List (List UInt8))
  t7 : Int
  t8 : Int
  b0 : (List Int)
noncomputable def z2i (s : z1x) : Tree (z1x ⊕ (List Int)) :=
  .ite (decide (s.t8 < s.t7))
    (.ite (decide (0 ≤ s.t8))
      (.opt (List UInt8) (s.t6[(s.t8).toNat]?) fun y221 =>
        .ite (decide ((s.b0.length + (y221.map fun b => (b.toNat : Int)).length) * 1 ≤ 140737488355328))
          (.leaf (.inl (z1x.mk s.t6 s.t7 (IntKind.wrap .i64 (s.t8 + (1 : Int))) (s.b0 ++ (y221.map fun b => (b.toNat : Int))))))
          .fail)
      .fail)
    (.leaf (.inr s.b0))
noncomputable def z8h (q : Option Nat) (s : z1x) : Option (List Int) := limQ q (fun s => (z2i s).run) s
noncomputable def zdw (q : Option Nat) (x0 : (List (List UInt8))) : Tree (List UInt8) :=
  .opt (List Int) (z8h q (z1x.mk x0 (x0.length : Int) (0 : Int) ([]))) fun l222 =>
    .leaf (l222.map fun x => UInt8.ofNat x.toNat)
noncomputable def z7t (q : Option Nat) (x0 : (List (List UInt8))) : Option (List UInt8) := (zdw q x0).run
noncomputable def zs0 : Arg U ((List (List UInt8)) × Unit) := aO (cSl 9) (aNil)
noncomputable def z10q (r : (List UInt8)) : List (V U) × List (Blk U) := ([vO cStr r], [])
noncomputable def zef : List (V U) → List (Blk U) → Option (FnOut U) := mkSpec zs0 bNil (fun x _ => z7t none x.1) z10q
noncomputable def zz0 (x : (Unit) × ((List (List UInt8)) × Unit) × (Int × Unit) × (Int × Unit) × Unit) (g : (List Int) × Unit) : z1x := z1x.mk x.2.1.1 x.2.2.1.1 x.2.2.2.1.1 g.1
noncomputable def zwx : Tms U ((Unit) × ((List (List UInt8)) × Unit) × (Int × Unit) × (Int × Unit) × Unit) := tO 3 (cK (.row 0 0) (cUnit)) (tO 6 (cPair (cSl 9) (cUnit)) (tO 7 (cPair (cInt .i64) (cUnit)) (tO 8 (cPair (cInt .i64) (cUnit)) (tNil))))
noncomputable def z140 : Bls U ((List Int) × Unit) := bRv 5 0 (bNil)
noncomputable def zej (s : z1x) : St U := { tm := [(3, .v (vO (cK (.row 0 0) (cUnit)) (()))), (6, .v (vO (cPair (cSl 9) (cUnit)) (s.t6, ()))), (7, .v (vO (cPair (cInt .i64) (cUnit)) (s.t7, ()))), (8, .v (vO (cPair (cInt .i64) (cUnit)) (s.t8, ())))], hp := [.row 5 0 s.b0] }
noncomputable def zff (r : (List Int)) : Ex × St U := (.exit 0, { tm := [(3, .v (vO (cK (.row 0 0) (cUnit)) (())))], hp := [.row 5 0 r] })
noncomputable def zlc (r : (List Int)) : Tree (Ex × St U) := .leaf (zff r)
noncomputable def z114 : Hd := { keep := [3, 6, 7, 8], xkeep := [2, 3], own := true }
noncomputable def zbx : Env U := { P := Tryz.prog, cd := cd, fns := fns7, lps := (addL 0 z114 (mkLoop zwx z140 zz0 (z8h none) zlc) noL), frz := fun _r => false, nt := 18, n0 := 0 }
noncomputable def z13i : Code := (loopAt (Tryz.f85.body.getD .skip) 0 0).getD .skip
theorem z16o (s : z1x) : round zbx z114 z13i 0 (zej s) = (z2i s).map (sumE zej zff) := by kernel_rfl
theorem z1bt : LpOk zbx z13i 0 := mkLoop_ok (A := zwx) (B := z140) (f := zz0) (L := z8h none) (tO_ok (cK_ok cUnit_ok) (tO_ok (cPair_ok (cSl_ok 9) cUnit_ok) (tO_ok (cPair_ok (cInt_ok .i64) cUnit_ok) (tO_ok (cPair_ok (cInt_ok .i64) cUnit_ok) tNil_ok)))) (bRv_ok bNil_ok) (enc := zej) (out := zlc) (outS := zff) (step := z2i) (fun _ => rfl) (fun _ _ => by kernel_rfl) (by kernel_rfl) (fun _ => rfl) z16o
theorem z18w (x : (List (List UInt8)) × Unit) (g : Unit) : execF zbx Tryz.f85 (zs0.enc x) (bNil.enc g) = (zdw none x.1).map z10q := by kernel_rfl
theorem zgy : FnOk Tryz.prog cd 85 zef := mk_ok (E := zbx) cd_ok z13c Tryz.func85 (by kernel_rfl) (loops_of (addL_ok z1bt noL_ok)) (aO_ok (cSl_ok 9) (aNil_ok)) bNil_ok (T := fun x _ => zdw none x.1) (fun _ _ => rfl) z18w
noncomputable def fns85 := addF 85 true zef fns7
theorem zmn : ∀ f q t, fns85 f = some (q, t) → FnOk Tryz.prog cd f t := addF_ok zgy z13c
/-- emulator/octet.Seal -/
noncomputable def z8t (q : Option Nat) (x0 : (List UInt8)) : Tree (List UInt8) :=
  .opt Int (z4n q ([x0])) fun r225 =>
    .opt (List UInt8) (zn q r225 (4 : Int)) fun r226 =>
      .opt (List UInt8) (z7t q ([x0, r226])) fun r227 =>
        .leaf (r227)
noncomputable def z56 (q : Option Nat) (x0 : (List UInt8)) : Option (List UInt8) := (z8t q x0).run
noncomputable def z12g : Arg U ((List UInt8) × Unit) := aO cStr (aNil)
noncomputable def zvz (r : (List UInt8)) : List (V U) × List (Blk U) := ([vO cStr r], [])
noncomputable def z10f : List (V U) → List (Blk U) → Option (FnOut U) := mkSpec z12g bNil (fun x _ => z56 none x.1) zvz
noncomputable def zpc : Env U := { P := Tryz.prog, cd := cd, fns := (addF 85 false (frzSpec zef) (addF 46 false (frzSpec z6f) fns85)), lps := noL, frz := fun _r => false, nt := 10, n0 := 0 }
theorem z1db (x : (List UInt8) × Unit) (g : Unit) : execF zpc Tryz.f38 (z12g.enc x) (bNil.enc g) = (z8t none x.1).map zvz := by kernel_rfl
theorem z1ao : FnOk Tryz.prog cd 38 z10f := mk_ok (E := zpc) cd_ok (addF_ok (fnOk_frz cd_ok (mkSpec_out fun _ => rfl) zgy) (addF_ok (fnOk_frz cd_ok (mkSpec_out fun _ => rfl) zao) zmn)) Tryz.func38 (by kernel_rfl) (noLoops_body (by kernel_rfl)) (aO_ok cStr_ok (aNil_ok)) bNil_ok (T := fun x _ => z8t none x.1) (fun _ _ => rfl) z1db
noncomputable def fns38 := addF 38 true z10f fns85
theorem zg : ∀ f q t, fns38 f = some (q, t) → FnOk Tryz.prog cd f t := addF_ok z1ao zmn
end Go.Proofs.YtiafliookmnjoaaGreatDoor
namespace Go.Proofs
open Go.Shelf
shelf_lay Lays.n105 Nm 105 at Tryz as Tryz.lays129
theorem Tryz.extra129 : Builder.X72 Tryz.prog Tryz.lays129_ren where
  sizeBuilder := by kernel_rfl
  liesBuilder := by kernel_rfl
end Go.Proofs
namespace Go.Proofs.YtiafliookmnjoaaGreatDoor
open Go Go.Ab
theorem zw0 : FnOk Tryz.prog cd 129 (ccSpec 136) := cc_okT { Tryz.lays129 with } Tryz.extra129 Tryz.func129 (by kernel_rfl) (by kernel_rfl) rfl (by kernel_rfl)
/-- (*strings.Builder).WriteString -/
noncomputable def z6z (x1 : (List UInt8)) (g0 : Unit) : Tree (Int × (List Int)) :=
  .opt Unit (ccF) fun r228 =>
    .ite (decide ((x1.map fun b => (b.toNat : Int)).length * 1 ≤ 140737488355328))
      (.leaf (((x1.length : Int), x1.map fun b => (b.toNat : Int))))
      .fail
noncomputable def ze8 (x1 : (List UInt8)) (g0 : Unit) : Option (Int × (List Int)) := (z6z x1 g0).run
noncomputable def zcb : Arg U ((List UInt8) × Unit) := aP 0 0 (aO cStr (aNil))
noncomputable def zbw : Bls U (Unit × Unit) := bT (some 136) (cK .nilp (cNs 5)) (bNil)
noncomputable def zg0 (_x : (List UInt8) × Unit) (_g : Unit × Unit) (r : (Int × (List Int))) : List (V U) × List (Blk U) := ([vO (cPair (cInt .i64) (cUnit)) (r.1, ()), vO (cK .unk (cUnit)) (())], [.cells ((cK (.ptr 0 0) (cK (.row 1 0) (cUnit)) : Cdc U (Unit)).enc (())) (some 136), .row 5 0 r.2])
noncomputable def zo3 : List (V U) → List (Blk U) → Option (FnOut U) := mkSpecG zcb zbw (fun x g => ze8 x.1 g.1) zg0
noncomputable def zf3 : Env U := { P := Tryz.prog, cd := cd, fns := (addF 129 false (ccSpec 136) fns38), lps := noL, frz := fun _r => false, nt := 19, n0 := 1 }
theorem z1c8 (x1 : (List UInt8)) (g0 : Unit) : execX true zf3 Tryz.f86 (zcb.enc (x1, ())) (zbw.enc (g0, ())) = (z6z x1 g0).map (zg0 (x1, ()) (g0, ())) := by kernel_rfl
theorem z1ew : ∀ (x : (List UInt8) × Unit) (g : Unit × Unit), execX true zf3 Tryz.f86 (zcb.enc x) (zbw.enc g) = (z6z x.1 g.1).map (zg0 x g)
  | (x1, ()), (g0, ()) => z1c8 x1 g0
theorem z182 : FnOk Tryz.prog cd 86 zo3 := mk_okG (E := zf3) (A := zcb) (B := zbw) true cd_ok (addF_ok zw0 zg) Tryz.func86 (by kernel_rfl) (noLoops_body (by kernel_rfl)) (aP_ok (aO_ok cStr_ok (aNil_ok))) (bT_ok (cK_ok (cNs_ok 5)) bNil_ok) (T := fun (x : (List UInt8) × Unit) (g : Unit × Unit) => z6z x.1 g.1) (fun _ _ => rfl) z1ew
/-- (*strings.Builder).WriteString -/
noncomputable def z8d (x1 : (List UInt8)) (g0 : Unit) (g1 : (List Int)) : Tree (Int × (List Int)) :=
  .opt Unit (ccF) fun r232 =>
    .ite (decide ((g1.length + (x1.map fun b => (b.toNat : Int)).length) * 1 ≤ 140737488355328))
      (.leaf (((x1.length : Int), g1 ++ (x1.map fun b => (b.toNat : Int)))))
      .fail
noncomputable def z4o (x1 : (List UInt8)) (g0 : Unit) (g1 : (List Int)) : Option (Int × (List Int)) := (z8d x1 g0 g1).run
noncomputable def zcm : Arg U ((List UInt8) × Unit) := aP 0 0 (aO cStr (aNil))
noncomputable def zcu : Bls U (Unit × (List Int) × Unit) := bT (some 136) (cK (.ptr 0 0) (cK (.row 1 0) (cUnit))) (bR 5 (bNil))
noncomputable def zhz (_x : (List UInt8) × Unit) (_g : Unit × (List Int) × Unit) (r : (Int × (List Int))) : List (V U) × List (Blk U) := ([vO (cPair (cInt .i64) (cUnit)) (r.1, ()), vO (cK .unk (cUnit)) (())], [.cells ((cK (.ptr 0 0) (cK (.row 1 1) (cUnit)) : Cdc U (Unit)).enc (())) (some 136), .row 5 1 r.2])
noncomputable def za7 : List (V U) → List (Blk U) → Option (FnOut U) := mkSpecG zcm zcu (fun x g => z4o x.1 g.1 g.2.1) zhz
noncomputable def zj9 : Env U := { P := Tryz.prog, cd := cd, fns := (addF 129 false (ccSpec 136) fns38), lps := noL, frz := fun _r => false, nt := 19, n0 := 2 }
theorem z1f9 (x1 : (List UInt8)) (g0 : Unit) (g1 : (List Int)) : execX true zj9 Tryz.f86 (zcm.enc (x1, ())) (zcu.enc (g0, g1, ())) = (z8d x1 g0 g1).map (zhz (x1, ()) (g0, g1, ())) := by kernel_rfl
theorem z1e2 : ∀ (x : (List UInt8) × Unit) (g : Unit × (List Int) × Unit), execX true zj9 Tryz.f86 (zcm.enc x) (zcu.enc g) = (z8d x.1 g.1 g.2.1).map (zhz x g)
  | (x1, ()), (g0, g1, ()) => z1f9 x1 g0 g1
theorem zj6 : FnOk Tryz.prog cd 86 za7 := mk_okG (E := zj9) (A := zcm) (B := zcu) true cd_ok (addF_ok zw0 zg) Tryz.func86 (by kernel_rfl) (noLoops_body (by kernel_rfl)) (aP_ok (aO_ok cStr_ok (aNil_ok))) (bT_ok (cK_ok (cK_ok cUnit_ok)) (bR_ok bNil_ok)) (T := fun (x : (List UInt8) × Unit) (g : Unit × (List Int) × Unit) => z8d x.1 g.1 g.2.1) (fun _ _ => rfl) z1e2
/-- (*emulator/save.writer).nums -/
structure z1j where
  t1 : Int
  t9 : Int
  t10 : Int
  b2 : (List Int)
noncomputable def z4w (q : Option Nat) (kk : Cpu) (s : z1j) : Tree (z1j ⊕ (List Int)) :=
  .ite (decide (s.t10 < s.t9))
    (.ite (decide (0 ≤ s.t10))
      (.ite (decide (s.t10 < ((6 : Nat) : Int)))
        (.opt Int (kk.r[(s.t10).toNat]?) fun y236 =>
          .opt (List UInt8) (zn q y236 s.t1) fun r237 =>
            .opt (Int × (List Int)) (z4o r237 () s.b2) fun r238 =>
              .leaf (.inl (z1j.mk s.t1 s.t9 (IntKind.wrap .i64 (s.t10 + (1 : Int))) r238.2)))
        .fail)
      .fail)
    (.leaf (.inr s.b2))
noncomputable def z81 (q : Option Nat) (kk : Cpu) (s : z1j) : Option (List Int) := limQ q (fun s => (z4w q kk s).run) s
noncomputable def z8b (q : Option Nat) (x1 : Int) (g0 : Unit) (g1 : Cpu) (g2 : (List Int)) : Tree (List Int) :=
  .opt (List Int) (z81 q g1 (z1j.mk x1 ((6 : Nat) : Int) (0 : Int) g2)) fun l239 =>
    .leaf (l239)
noncomputable def zav (q : Option Nat) (x1 : Int) (g0 : Unit) (g1 : Cpu) (g2 : (List Int)) : Option (List Int) := (z8b q x1 g0 g1 g2).run
noncomputable def zde : Arg U (Int × Unit) := aP 0 0 (aO (cInt .i64) (aKF (.asl 1 0 3 6) (aNil)))
noncomputable def z9g : Bls U (Unit × Cpu × (List Int) × Unit) := bT (some 136) (cK (.ptr 0 0) (cK (.row 2 0) (cUnit))) (bC cCpu (bR 5 (bNil)))
noncomputable def ziw (_x : Int × Unit) (g : Unit × Cpu × (List Int) × Unit) (r : (List Int)) : List (V U) × List (Blk U) := ([], [.cells ((cK (.ptr 0 0) (cK (.row 2 1) (cUnit)) : Cdc U (Unit)).enc (())) (some 136), .cells ((cCpu : Cdc U Cpu).enc g.2.1) none, .row 5 1 r])
noncomputable def zkz : List (V U) → List (Blk U) → Option (FnOut U) := mkSpecG zde z9g (fun x g => zav none x.1 g.1 g.2.1 g.2.2.1) ziw
noncomputable def z13n (x : (Unit) × (Int × Unit) × (Unit) × (Int × Unit) × (Int × Unit) × Unit) (g : (Unit) × (Cpu × Unit) × (List Int) × Unit) : Cpu × z1j := (g.2.1.1, z1j.mk x.2.1.1 x.2.2.2.1.1 x.2.2.2.2.1.1 g.2.2.1)
noncomputable def zlt : Tms U ((Unit) × (Int × Unit) × (Unit) × (Int × Unit) × (Int × Unit) × Unit) := tO 0 (cK (.ptr 0 0) (cUnit)) (tO 1 (cPair (cInt .i64) (cUnit)) (tO 8 (cK (.asl 1 0 3 6) (cUnit)) (tO 9 (cPair (cInt .i64) (cUnit)) (tO 10 (cPair (cInt .i64) (cUnit)) (tNil)))))
noncomputable def zvs : Bls U ((Unit) × (Cpu × Unit) × (List Int) × Unit) := bT (some 136) (cK (.ptr 0 0) (cK (.row 2 1) (cUnit))) (bC (cPair cCpu (cUnit)) (bRv 5 1 (bNil)))
noncomputable def zh0 (kk : Cpu) (s : z1j) : St U := { tm := [(0, .v (vO (cK (.ptr 0 0) (cUnit)) (()))), (1, .v (vO (cPair (cInt .i64) (cUnit)) (s.t1, ()))), (8, .v (vO (cK (.asl 1 0 3 6) (cUnit)) (()))), (9, .v (vO (cPair (cInt .i64) (cUnit)) (s.t9, ()))), (10, .v (vO (cPair (cInt .i64) (cUnit)) (s.t10, ())))], hp := [.cells ((cK (.ptr 0 0) (cK (.row 2 1) (cUnit)) : Cdc U (Unit)).enc (())) (some 136), .cells ((cPair cCpu (cUnit) : Cdc U (Cpu × Unit)).enc (kk, ())) none, .row 5 1 s.b2] }
noncomputable def zhh (kk : Cpu) (r : (List Int)) : Ex × St U := (.exit 0, { tm := [], hp := [.cells ((cK (.ptr 0 0) (cK (.row 2 1) (cUnit)) : Cdc U (Unit)).enc (())) (some 136), .cells ((cPair cCpu (cUnit) : Cdc U (Cpu × Unit)).enc (kk, ())) none, .row 5 1 r] })
noncomputable def z10u (kk : Cpu) (r : (List Int)) : Tree (Ex × St U) := .leaf (zhh kk r)
noncomputable def z14c : Hd := { keep := [0, 1, 8, 9, 10], xkeep := [], own := false, bump := true }
noncomputable def z6q : Env U := { P := Tryz.prog, cd := cd, fns := (addF 86 false (za7) fns38), lps := (addL 0 z14c (mkLoopK zlt zvs z13n (z81 none) z10u) noL), frz := fun _r => false, nt := 22, n0 := 3 }
noncomputable def zr1 : Code := (loopAt (Tryz.f92.body.getD .skip) 0 0).getD .skip
theorem z1cr (kk : Cpu) (s : z1j) : round z6q z14c zr1 0 (zh0 kk s) = (z4w none kk s).map (sumE (zh0 kk) (zhh kk)) := by kernel_rfl
theorem z196 : LpOk z6q zr1 0 := mkLoopK_ok (A := zlt) (B := zvs) (f := z13n) (L := z81 none) (tO_ok (cK_ok cUnit_ok) (tO_ok (cPair_ok (cInt_ok .i64) cUnit_ok) (tO_ok (cK_ok cUnit_ok) (tO_ok (cPair_ok (cInt_ok .i64) cUnit_ok) (tO_ok (cPair_ok (cInt_ok .i64) cUnit_ok) tNil_ok))))) (bT_ok (cK_ok (cK_ok cUnit_ok)) (bC_ok (cPair_ok zp cUnit_ok) (bRv_ok bNil_ok))) (enc := zh0) (out := z10u) (outS := zhh) (step := z4w none) (fun _ _ => rfl) (fun _ _ => by kernel_rfl) (by kernel_rfl) (fun _ _ => rfl) z1cr
theorem z1fj (x1 : Int) (g0 : Unit) (g1 : Cpu) (g2 : (List Int)) : execX false z6q Tryz.f92 (zde.enc (x1, ())) (z9g.enc (g0, g1, g2, ())) = (z8b none x1 g0 g1 g2).map (ziw (x1, ()) (g0, g1, g2, ())) := by kernel_rfl
theorem z18q : ∀ (x : Int × Unit) (g : Unit × Cpu × (List Int) × Unit), execX false z6q Tryz.f92 (zde.enc x) (z9g.enc g) = (z8b none x.1 g.1 g.2.1 g.2.2.1).map (ziw x g)
  | (x1, ()), (g0, g1, g2, ()) => z1fj x1 g0 g1 g2
theorem z1eu : FnOk Tryz.prog cd 92 zkz := mk_okG (E := z6q) (A := zde) (B := z9g) false cd_ok (addF_ok zj6 zg) Tryz.func92 (by kernel_rfl) (loops_of (addL_ok z196 noL_ok)) (aP_ok (aO_ok (cInt_ok .i64) (aKF_ok (aNil_ok)))) (bT_ok (cK_ok (cK_ok cUnit_ok)) (bC_ok zp (bR_ok bNil_ok))) (T := fun (x : Int × Unit) (g : Unit × Cpu × (List Int) × Unit) => z8b none x.1 g.1 g.2.1 g.2.2.1) (fun _ _ => rfl) z18q
/-- (*emulator/save.writer).nums -/
structure z2l where
  t1 : Int
  t9 : Int
  t10 : Int
  b2 : (List Int)
noncomputable def z4j (q : Option Nat) (kk : (List Int)) (s : z2l) : Tree (z2l ⊕ (List Int)) :=
  .ite (decide (s.t10 < s.t9))
    (.ite (decide (0 ≤ s.t10))
      (.ite (decide (s.t10 < (kk.length : Int)))
        (.opt Int (kk[(s.t10).toNat]?) fun y246 =>
          .opt (List UInt8) (zn q y246 s.t1) fun r247 =>
            .opt (Int × (List Int)) (z4o r247 () s.b2) fun r248 =>
              .leaf (.inl (z2l.mk s.t1 s.t9 (IntKind.wrap .i64 (s.t10 + (1 : Int))) r248.2)))
        .fail)
      .fail)
    (.leaf (.inr s.b2))
noncomputable def z8x (q : Option Nat) (kk : (List Int)) (s : z2l) : Option (List Int) := limQ q (fun s => (z4j q kk s).run) s
noncomputable def z8e (q : Option Nat) (x1 : Int) (g0 : Unit) (g1 : (List Int)) (g2 : (List Int)) : Tree ((List Int) × (List Int)) :=
  .opt (List Int) (z8x q g1 (z2l.mk x1 (g1.length : Int) (0 : Int) g2)) fun l249 =>
    .leaf ((g1, l249))
noncomputable def z7 (q : Option Nat) (x1 : Int) (g0 : Unit) (g1 : (List Int)) (g2 : (List Int)) : Option ((List Int) × (List Int)) := (z8e q x1 g0 g1 g2).run
noncomputable def zbh : Arg U (Int × Unit) := aP 0 0 (aO (cInt .i64) (aR 1 (aNil)))
noncomputable def zc5 : Bls U (Unit × (List Int) × (List Int) × Unit) := bT (some 136) (cK (.ptr 0 0) (cK (.row 2 0) (cUnit))) (bR 3 (bR 5 (bNil)))
noncomputable def zis (_x : Int × Unit) (_g : Unit × (List Int) × (List Int) × Unit) (r : ((List Int) × (List Int))) : List (V U) × List (Blk U) := ([], [.cells ((cK (.ptr 0 0) (cK (.row 2 1) (cUnit)) : Cdc U (Unit)).enc (())) (some 136), .row 3 1 r.1, .row 5 1 r.2])
noncomputable def zo : List (V U) → List (Blk U) → Option (FnOut U) := mkSpecG zbh zc5 (fun x g => z7 none x.1 g.1 g.2.1 g.2.2.1) zis
noncomputable def zs8 (x : (Unit) × (Int × Unit) × (Unit) × (Int × Unit) × (Int × Unit) × Unit) (g : (Unit) × (List Int) × (List Int) × Unit) : (List Int) × z2l := (g.2.1, z2l.mk x.2.1.1 x.2.2.2.1.1 x.2.2.2.2.1.1 g.2.2.1)
noncomputable def zx9 : Tms U ((Unit) × (Int × Unit) × (Unit) × (Int × Unit) × (Int × Unit) × Unit) := tO 0 (cK (.ptr 0 0) (cUnit)) (tO 1 (cPair (cInt .i64) (cUnit)) (tO 8 (cK (.row 1 1) (cUnit)) (tO 9 (cPair (cInt .i64) (cUnit)) (tO 10 (cPair (cInt .i64) (cUnit)) (tNil)))))
noncomputable def zse : Bls U ((Unit) × (List Int) × (List Int) × Unit) := bT (some 136) (cK (.ptr 0 0) (cK (.row 2 1) (cUnit))) (bRv 3 1 (bRv 5 1 (bNil)))
noncomputable def zgh (kk : (List Int)) (s : z2l) : St U := { tm := [(0, .v (vO (cK (.ptr 0 0) (cUnit)) (()))), (1, .v (vO (cPair (cInt .i64) (cUnit)) (s.t1, ()))), (8, .v (vO (cK (.row 1 1) (cUnit)) (()))), (9, .v (vO (cPair (cInt .i64) (cUnit)) (s.t9, ()))), (10, .v (vO (cPair (cInt .i64) (cUnit)) (s.t10, ())))], hp := [.cells ((cK (.ptr 0 0) (cK (.row 2 1) (cUnit)) : Cdc U (Unit)).enc (())) (some 136), .row 3 1 kk, .row 5 1 s.b2] }
noncomputable def zhm (kk : (List Int)) (r : (List Int)) : Ex × St U := (.exit 0, { tm := [], hp := [.cells ((cK (.ptr 0 0) (cK (.row 2 1) (cUnit)) : Cdc U (Unit)).enc (())) (some 136), .row 3 1 kk, .row 5 1 r] })
noncomputable def zue (kk : (List Int)) (r : (List Int)) : Tree (Ex × St U) := .leaf (zhm kk r)
noncomputable def zo1 : Hd := { keep := [0, 1, 8, 9, 10], xkeep := [], own := false, bump := true }
noncomputable def z7h : Env U := { P := Tryz.prog, cd := cd, fns := (addF 86 false (za7) fns38), lps := (addL 0 zo1 (mkLoopK zx9 zse zs8 (z8x none) zue) noL), frz := fun _r => false, nt := 22, n0 := 3 }
noncomputable def z11c : Code := (loopAt (Tryz.f92.body.getD .skip) 0 0).getD .skip
theorem z1ba (kk : (List Int)) (s : z2l) : round z7h zo1 z11c 0 (zgh kk s) = (z4j none kk s).map (sumE (zgh kk) (zhm kk)) := by kernel_rfl
theorem z1bo : LpOk z7h z11c 0 := mkLoopK_ok (A := zx9) (B := zse) (f := zs8) (L := z8x none) (tO_ok (cK_ok cUnit_ok) (tO_ok (cPair_ok (cInt_ok .i64) cUnit_ok) (tO_ok (cK_ok cUnit_ok) (tO_ok (cPair_ok (cInt_ok .i64) cUnit_ok) (tO_ok (cPair_ok (cInt_ok .i64) cUnit_ok) tNil_ok))))) (bT_ok (cK_ok (cK_ok cUnit_ok)) (bRv_ok (bRv_ok bNil_ok))) (enc := zgh) (out := zue) (outS := zhm) (step := z4j none) (fun _ _ => rfl) (fun _ _ => by kernel_rfl) (by kernel_rfl) (fun _ _ => rfl) z1ba
theorem z1bz (x1 : Int) (g0 : Unit) (g1 : (List Int)) (g2 : (List Int)) : execX false z7h Tryz.f92 (zbh.enc (x1, ())) (zc5.enc (g0, g1, g2, ())) = (z8e none x1 g0 g1 g2).map (zis (x1, ()) (g0, g1, g2, ())) := by kernel_rfl
theorem z1cn : ∀ (x : Int × Unit) (g : Unit × (List Int) × (List Int) × Unit), execX false z7h Tryz.f92 (zbh.enc x) (zc5.enc g) = (z8e none x.1 g.1 g.2.1 g.2.2.1).map (zis x g)
  | (x1, ()), (g0, g1, g2, ()) => z1bz x1 g0 g1 g2
theorem zr : FnOk Tryz.prog cd 92 zo := mk_okG (E := z7h) (A := zbh) (B := zc5) false cd_ok (addF_ok zj6 zg) Tryz.func92 (by kernel_rfl) (loops_of (addL_ok z1bo noL_ok)) (aP_ok (aO_ok (cInt_ok .i64) (aR_ok (aNil_ok)))) (bT_ok (cK_ok (cK_ok cUnit_ok)) (bR_ok (bR_ok bNil_ok))) (T := fun (x : Int × Unit) (g : Unit × (List Int) × (List Int) × Unit) => z8e none x.1 g.1 g.2.1 g.2.2.1) (fun _ _ => rfl) z1cn
/-- (*emulator/save.writer).cpu -/
noncomputable def z8f (q : Option Nat) (x1 : Cpu) (g0 : Unit) (g1 : (List Int)) : Tree (List Int) :=
  .opt (List Int) (zav q (2 : Int) () x1 g1) fun r250 =>
    .ite (decide (0 ≤ (0 : Int)))
      (.ite (decide ((0 : Int) < (2 : Int)))
        (.opt Int (x1.sP[((0 : Int)).toNat * 1]?) fun y251 =>
          .ite (decide (0 ≤ (1 : Int)))
            (.ite (decide ((1 : Int) < (2 : Int)))
              (.opt Int (x1.sP[((1 : Int)).toNat * 1]?) fun y252 =>
                .opt ((List Int) × (List Int)) (z7 q (2 : Int) () ([y251, y252, x1.pC, x1.pSW]) r250) fun r253 =>
                  .leaf (r253.2))
              .fail)
            .fail)
        .fail)
      .fail
noncomputable def z73 (q : Option Nat) (x1 : Cpu) (g0 : Unit) (g1 : (List Int)) : Option (List Int) := (z8f q x1 g0 g1).run
noncomputable def zag : Arg U (Cpu × Unit) := aP 0 0 (aA cCpu (aNil))
noncomputable def z93 : Bls U (Unit × (List Int) × Unit) := bT (some 136) (cK (.ptr 0 0) (cK (.row 1 0) (cUnit))) (bR 5 (bNil))
noncomputable def ziz (_x : Cpu × Unit) (_g : Unit × (List Int) × Unit) (r : (List Int)) : List (V U) × List (Blk U) := ([], [.cells ((cK (.ptr 0 0) (cK (.row 1 2) (cUnit)) : Cdc U (Unit)).enc (())) (some 136), .row 5 2 r])
noncomputable def zjr : List (V U) → List (Blk U) → Option (FnOut U) := mkSpecG zag z93 (fun x g => z73 none x.1 g.1 g.2.1) ziz
noncomputable def zi0 : Env U := { P := Tryz.prog, cd := cd, fns := (addF 92 false (orSpec (zkz) (zo)) fns38), lps := noL, frz := fun _r => false, nt := 21, n0 := 2 }
theorem z1br (x1 : Cpu) (g0 : Unit) (g1 : (List Int)) : execX false zi0 Tryz.f87 (zag.enc (x1, ())) (z93.enc (g0, g1, ())) = (z8f none x1 g0 g1).map (ziz (x1, ()) (g0, g1, ())) := by kernel_rfl
theorem z1av : ∀ (x : Cpu × Unit) (g : Unit × (List Int) × Unit), execX false zi0 Tryz.f87 (zag.enc x) (z93.enc g) = (z8f none x.1 g.1 g.2.1).map (ziz x g)
  | (x1, ()), (g0, g1, ()) => z1br x1 g0 g1
theorem z1df : FnOk Tryz.prog cd 87 zjr := mk_okG (E := zi0) (A := zag) (B := z93) false cd_ok (addF_ok (orSpec_ok z1eu zr) zg) Tryz.func87 (by kernel_rfl) (noLoops_body (by kernel_rfl)) (aP_ok (aA_ok zp (aNil_ok))) (bT_ok (cK_ok (cK_ok cUnit_ok)) (bR_ok bNil_ok)) (T := fun (x : Cpu × Unit) (g : Unit × (List Int) × Unit) => z8f none x.1 g.1 g.2.1) (fun _ _ => rfl) z1av
/-- (*emulator/save.writer).word -/
noncomputable def z7n (q : Option Nat) (x1 : Int) (g0 : Unit) (g1 : (List Int)) : Tree (List Int) :=
  .opt ((List Int) × (List Int)) (z7 q (2 : Int) () ([x1]) g1) fun r258 =>
    .leaf (r258.2)
noncomputable def zbt (q : Option Nat) (x1 : Int) (g0 : Unit) (g1 : (List Int)) : Option (List Int) := (z7n q x1 g0 g1).run
noncomputable def z95 : Arg U (Int × Unit) := aP 0 0 (aO (cInt .i64) (aNil))
noncomputable def z98 : Bls U (Unit × (List Int) × Unit) := bT (some 136) (cK (.ptr 0 0) (cK (.row 1 0) (cUnit))) (bR 5 (bNil))
noncomputable def zh7 (_x : Int × Unit) (_g : Unit × (List Int) × Unit) (r : (List Int)) : List (V U) × List (Blk U) := ([], [.cells ((cK (.ptr 0 0) (cK (.row 1 1) (cUnit)) : Cdc U (Unit)).enc (())) (some 136), .row 5 1 r])
noncomputable def ztb : List (V U) → List (Blk U) → Option (FnOut U) := mkSpecG z95 z98 (fun x g => zbt none x.1 g.1 g.2.1) zh7
noncomputable def zgx : Env U := { P := Tryz.prog, cd := cd, fns := (addF 92 false (zo) fns38), lps := noL, frz := fun _r => false, nt := 8, n0 := 2 }
theorem z19o (x1 : Int) (g0 : Unit) (g1 : (List Int)) : execX false zgx Tryz.f89 (z95.enc (x1, ())) (z98.enc (g0, g1, ())) = (z7n none x1 g0 g1).map (zh7 (x1, ()) (g0, g1, ())) := by kernel_rfl
theorem z1be : ∀ (x : Int × Unit) (g : Unit × (List Int) × Unit), execX false zgx Tryz.f89 (z95.enc x) (z98.enc g) = (z7n none x.1 g.1 g.2.1).map (zh7 x g)
  | (x1, ()), (g0, g1, ()) => z19o x1 g0 g1
theorem z1ar : FnOk Tryz.prog cd 89 ztb := mk_okG (E := zgx) (A := z95) (B := z98) false cd_ok (addF_ok zr zg) Tryz.func89 (by kernel_rfl) (noLoops_body (by kernel_rfl)) (aP_ok (aO_ok (cInt_ok .i64) (aNil_ok))) (bT_ok (cK_ok (cK_ok cUnit_ok)) (bR_ok bNil_ok)) (T := fun (x : Int × Unit) (g : Unit × (List Int) × Unit) => z7n none x.1 g.1 g.2.1) (fun _ _ => rfl) z1be
/-- emulator/save.list[int] -/
structure z1t where
  t13 : (List Int)
  t14 : Int
  t15 : Int
  b1 : (List Int)
noncomputable def z5n (q : Option Nat) (s : z1t) : Tree (z1t ⊕ (List Int)) :=
  .ite (decide (s.t15 < s.t14))
    (.ite (decide (0 ≤ s.t15))
      (.opt Int (s.t13[(s.t15).toNat]?) fun y260 =>
        .opt (List Int) (zbt q y260 () s.b1) fun r261 =>
          .leaf (.inl (z1t.mk s.t13 s.t14 (IntKind.wrap .i64 (s.t15 + (1 : Int))) r261)))
      .fail)
    (.leaf (.inr s.b1))
noncomputable def z8k (q : Option Nat) (s : z1t) : Option (List Int) := limQ q (fun s => (z5n q s).run) s
noncomputable def z7v (q : Option Nat) (x1 : (List Int)) (g0 : Unit) (g1 : (List Int)) : Tree (List Int) :=
  .opt ((List Int) × (List Int)) (z7 q (2 : Int) () ([(x1.length : Int)]) g1) fun r259 =>
    .opt (List Int) (z8k q (z1t.mk x1 (x1.length : Int) (0 : Int) r259.2)) fun l262 =>
      .leaf (l262)
noncomputable def z1s (q : Option Nat) (x1 : (List Int)) (g0 : Unit) (g1 : (List Int)) : Option (List Int) := (z7v q x1 g0 g1).run
noncomputable def za0 : Arg U ((List Int) × Unit) := aP 0 0 (aO (cSl 3) (aKF (.fn 89 [(.ptr 0 0)] []) (aNil)))
noncomputable def za6 : Bls U (Unit × (List Int) × Unit) := bT (some 136) (cK (.ptr 0 0) (cK (.row 1 0) (cUnit))) (bR 5 (bNil))
noncomputable def zei (_x : (List Int) × Unit) (_g : Unit × (List Int) × Unit) (r : (List Int)) : List (V U) × List (Blk U) := ([], [.cells ((cK (.ptr 0 0) (cK (.row 1 1) (cUnit)) : Cdc U (Unit)).enc (())) (some 136), .row 5 1 r])
noncomputable def zht : List (V U) → List (Blk U) → Option (FnOut U) := mkSpecG za0 za6 (fun x g => z1s none x.1 g.1 g.2.1) zei
noncomputable def z11x (x : (Unit) × ((List Int) × Unit) × (Int × Unit) × (Int × Unit) × Unit) (g : (Unit) × (List Int) × Unit) : z1t := z1t.mk x.2.1.1 x.2.2.1.1 x.2.2.2.1.1 g.2.1
noncomputable def zuo : Tms U ((Unit) × ((List Int) × Unit) × (Int × Unit) × (Int × Unit) × Unit) := tO 2 (cK2 (.fn 89 [(.ptr 0 0)] []) (cUnit)) (tO 13 (cPair (cSl 3) (cUnit)) (tO 14 (cPair (cInt .i64) (cUnit)) (tO 15 (cPair (cInt .i64) (cUnit)) (tNil))))
noncomputable def zrc : Bls U ((Unit) × (List Int) × Unit) := bT (some 136) (cK (.ptr 0 0) (cK (.row 1 1) (cUnit))) (bRv 5 1 (bNil))
noncomputable def zev (s : z1t) : St U := { tm := [(2, .v (vO (cK2 (.fn 89 [(.ptr 0 0)] []) (cUnit)) (()))), (13, .v (vO (cPair (cSl 3) (cUnit)) (s.t13, ()))), (14, .v (vO (cPair (cInt .i64) (cUnit)) (s.t14, ()))), (15, .v (vO (cPair (cInt .i64) (cUnit)) (s.t15, ())))], hp := [.cells ((cK (.ptr 0 0) (cK (.row 1 1) (cUnit)) : Cdc U (Unit)).enc (())) (some 136), .row 5 1 s.b1] }
noncomputable def zep (r : (List Int)) : Ex × St U := (.exit 0, { tm := [], hp := [.cells ((cK (.ptr 0 0) (cK (.row 1 1) (cUnit)) : Cdc U (Unit)).enc (())) (some 136), .row 5 1 r] })
noncomputable def z10a (r : (List Int)) : Tree (Ex × St U) := .leaf (zep r)
noncomputable def zm7 : Hd := { keep := [2, 13, 14, 15], xkeep := [], own := false }
noncomputable def z6n : Env U := { P := Tryz.prog, cd := cd, fns := (addF 92 false (zo) (addF 89 false (ztb) fns38)), lps := (addL 0 zm7 (mkLoop zuo zrc z11x (z8k none) z10a) noL), frz := fun _r => false, nt := 23, n0 := 2 }
noncomputable def zrb : Code := (loopAt (Tryz.f88.body.getD .skip) 0 0).getD .skip
theorem z15x (s : z1t) : round z6n zm7 zrb 0 (zev s) = (z5n none s).map (sumE zev zep) := by kernel_rfl
theorem z1g3 : LpOk z6n zrb 0 := mkLoop_ok (A := zuo) (B := zrc) (f := z11x) (L := z8k none) (tO_ok (cK2_ok cUnit_ok) (tO_ok (cPair_ok (cSl_ok 3) cUnit_ok) (tO_ok (cPair_ok (cInt_ok .i64) cUnit_ok) (tO_ok (cPair_ok (cInt_ok .i64) cUnit_ok) tNil_ok)))) (bT_ok (cK_ok (cK_ok cUnit_ok)) (bRv_ok bNil_ok)) (enc := zev) (out := z10a) (outS := zep) (step := z5n none) (fun _ => rfl) (fun _ _ => by kernel_rfl) (by kernel_rfl) (fun _ => rfl) z15x
theorem z1eq (x1 : (List Int)) (g0 : Unit) (g1 : (List Int)) : execX false z6n Tryz.f88 (za0.enc (x1, ())) (za6.enc (g0, g1, ())) = (z7v none x1 g0 g1).map (zei (x1, ()) (g0, g1, ())) := by kernel_rfl
theorem z1el : ∀ (x : (List Int) × Unit) (g : Unit × (List Int) × Unit), execX false z6n Tryz.f88 (za0.enc x) (za6.enc g) = (z7v none x.1 g.1 g.2.1).map (zei x g)
  | (x1, ()), (g0, g1, ()) => z1eq x1 g0 g1
theorem z14g : FnOk Tryz.prog cd 88 zht := mk_okG (E := z6n) (A := za0) (B := za6) false cd_ok (addF_ok zr (addF_ok z1ar zg)) Tryz.func88 (by kernel_rfl) (loops_of (addL_ok z1g3 noL_ok)) (aP_ok (aO_ok (cSl_ok 3) (aKF_ok (aNil_ok)))) (bT_ok (cK_ok (cK_ok cUnit_ok)) (bR_ok bNil_ok)) (T := fun (x : (List Int) × Unit) (g : Unit × (List Int) × Unit) => z7v none x.1 g.1 g.2.1) (fun _ _ => rfl) z1el
/-- (*emulator/save.writer).truths -/
structure z1b where
  t8 : Int
  t9 : Int
  b2 : (List Int)
noncomputable def z3d (q : Option Nat) (kk : (List Bool)) (s : z1b) : Tree (z1b ⊕ (List Int)) :=
  .ite (decide (s.t9 < s.t8))
    (.ite (decide (0 ≤ s.t9))
      (.ite (decide (s.t9 < (kk.length : Int)))
        (.opt Bool (kk[(s.t9).toNat]?) fun y270 =>
          .ite (y270)
            (.opt ((List Int) × (List Int)) (z7 q (1 : Int) () ([(1 : Int)]) s.b2) fun r271 =>
              .leaf (.inl (z1b.mk s.t8 (IntKind.wrap .i64 (s.t9 + (1 : Int))) r271.2)))
            (.opt ((List Int) × (List Int)) (z7 q (1 : Int) () ([(0 : Int)]) s.b2) fun r272 =>
              .leaf (.inl (z1b.mk s.t8 (IntKind.wrap .i64 (s.t9 + (1 : Int))) r272.2))))
        .fail)
      .fail)
    (.leaf (.inr s.b2))
noncomputable def z6o (q : Option Nat) (kk : (List Bool)) (s : z1b) : Option (List Int) := limQ q (fun s => (z3d q kk s).run) s
noncomputable def z7s (q : Option Nat) (g0 : Unit) (g1 : (List Bool)) (g2 : (List Int)) : Tree ((List Bool) × (List Int)) :=
  .opt (List Int) (z6o q g1 (z1b.mk (g1.length : Int) (0 : Int) g2)) fun l273 =>
    .leaf ((g1, l273))
noncomputable def zf (q : Option Nat) (g0 : Unit) (g1 : (List Bool)) (g2 : (List Int)) : Option ((List Bool) × (List Int)) := (z7s q g0 g1 g2).run
noncomputable def zdl : Arg U (Unit) := aP 0 0 (aR 1 (aNil))
noncomputable def zbc : Bls U (Unit × (List Bool) × (List Int) × Unit) := bT (some 136) (cK (.ptr 0 0) (cK (.row 2 0) (cUnit))) (bR 4 (bR 5 (bNil)))
noncomputable def zhv (_x : Unit) (_g : Unit × (List Bool) × (List Int) × Unit) (r : ((List Bool) × (List Int))) : List (V U) × List (Blk U) := ([], [.cells ((cK (.ptr 0 0) (cK (.row 2 1) (cUnit)) : Cdc U (Unit)).enc (())) (some 136), .row 4 1 r.1, .row 5 1 r.2])
noncomputable def z5b : List (V U) → List (Blk U) → Option (FnOut U) := mkSpecG zdl zbc (fun x g => zf none g.1 g.2.1 g.2.2.1) zhv
noncomputable def z14e (x : (Unit) × (Unit) × (Int × Unit) × (Int × Unit) × Unit) (g : (Unit) × (List Bool) × (List Int) × Unit) : (List Bool) × z1b := (g.2.1, z1b.mk x.2.2.1.1 x.2.2.2.1.1 g.2.2.1)
noncomputable def zql : Tms U ((Unit) × (Unit) × (Int × Unit) × (Int × Unit) × Unit) := tO 0 (cK (.ptr 0 0) (cUnit)) (tO 7 (cK (.row 1 1) (cUnit)) (tO 8 (cPair (cInt .i64) (cUnit)) (tO 9 (cPair (cInt .i64) (cUnit)) (tNil))))
noncomputable def zls : Bls U ((Unit) × (List Bool) × (List Int) × Unit) := bT (some 136) (cK (.ptr 0 0) (cK (.row 2 1) (cUnit))) (bRv 4 1 (bRv 5 1 (bNil)))
noncomputable def zfe (kk : (List Bool)) (s : z1b) : St U := { tm := [(0, .v (vO (cK (.ptr 0 0) (cUnit)) (()))), (7, .v (vO (cK (.row 1 1) (cUnit)) (()))), (8, .v (vO (cPair (cInt .i64) (cUnit)) (s.t8, ()))), (9, .v (vO (cPair (cInt .i64) (cUnit)) (s.t9, ())))], hp := [.cells ((cK (.ptr 0 0) (cK (.row 2 1) (cUnit)) : Cdc U (Unit)).enc (())) (some 136), .row 4 1 kk, .row 5 1 s.b2] }
noncomputable def zfl (kk : (List Bool)) (r : (List Int)) : Ex × St U := (.exit 0, { tm := [], hp := [.cells ((cK (.ptr 0 0) (cK (.row 2 1) (cUnit)) : Cdc U (Unit)).enc (())) (some 136), .row 4 1 kk, .row 5 1 r] })
noncomputable def zth (kk : (List Bool)) (r : (List Int)) : Tree (Ex × St U) := .leaf (zfl kk r)
noncomputable def zyf : Hd := { keep := [0, 7, 8, 9], xkeep := [], own := false, bump := true }
noncomputable def z79 : Env U := { P := Tryz.prog, cd := cd, fns := (addF 92 false (zo) fns38), lps := (addL 0 zyf (mkLoopK zql zls z14e (z6o none) zth) noL), frz := fun _r => false, nt := 19, n0 := 3 }
noncomputable def zmj : Code := (loopAt (Tryz.f91.body.getD .skip) 0 0).getD .skip
theorem z1cb (kk : (List Bool)) (s : z1b) : round z79 zyf zmj 0 (zfe kk s) = (z3d none kk s).map (sumE (zfe kk) (zfl kk)) := by kernel_rfl
theorem z1e5 : LpOk z79 zmj 0 := mkLoopK_ok (A := zql) (B := zls) (f := z14e) (L := z6o none) (tO_ok (cK_ok cUnit_ok) (tO_ok (cK_ok cUnit_ok) (tO_ok (cPair_ok (cInt_ok .i64) cUnit_ok) (tO_ok (cPair_ok (cInt_ok .i64) cUnit_ok) tNil_ok)))) (bT_ok (cK_ok (cK_ok cUnit_ok)) (bRv_ok (bRv_ok bNil_ok))) (enc := zfe) (out := zth) (outS := zfl) (step := z3d none) (fun _ _ => rfl) (fun _ _ => by kernel_rfl) (by kernel_rfl) (fun _ _ => rfl) z1cb
theorem z15i (g0 : Unit) (g1 : (List Bool)) (g2 : (List Int)) : execX false z79 Tryz.f91 (zdl.enc ()) (zbc.enc (g0, g1, g2, ())) = (z7s none g0 g1 g2).map (zhv () (g0, g1, g2, ())) := by kernel_rfl
theorem z1dx : ∀ (x : Unit) (g : Unit × (List Bool) × (List Int) × Unit), execX false z79 Tryz.f91 (zdl.enc x) (zbc.enc g) = (z7s none g.1 g.2.1 g.2.2.1).map (zhv x g)
  | (), (g0, g1, g2, ()) => z15i g0 g1 g2
theorem z8y : FnOk Tryz.prog cd 91 z5b := mk_okG (E := z79) (A := zdl) (B := zbc) false cd_ok (addF_ok zr zg) Tryz.func91 (by kernel_rfl) (loops_of (addL_ok z1e5 noL_ok)) (aP_ok (aR_ok (aNil_ok))) (bT_ok (cK_ok (cK_ok cUnit_ok)) (bR_ok (bR_ok bNil_ok))) (T := fun (x : Unit) (g : Unit × (List Bool) × (List Int) × Unit) => z7s none g.1 g.2.1 g.2.2.1) (fun _ _ => rfl) z1dx
/-- (*emulator/save.writer).mmu -/
structure z2o where
  t14_0 : (List Page)
  t15 : Int
  t18_0 : (List Page)
  t19 : Int
  b1 : (List Int)
  b2 : Mmu
noncomputable def z5k (q : Option Nat) (s : z2o) : Tree (z2o ⊕ ((List Page) × Int × (List Int) × Mmu)) :=
  .ite (decide (s.t19 < (8 : Int)))
    (.ite (decide (0 ≤ s.t19))
      (.ite (decide (s.t19 < (8 : Int)))
        (.opt Page (s.t18_0[(s.t19).toNat]?) fun y275 =>
          .opt ((List Int) × (List Int)) (z7 q (2 : Int) () ([y275.base]) s.b1) fun r276 =>
            .opt ((List Int) × (List Int)) (z7 q (1 : Int) () ([y275.length, y275.access]) r276.2) fun r277 =>
              .opt ((List Bool) × (List Int)) (zf q () ([y275.written]) r277.2) fun r278 =>
                .leaf (.inl (z2o.mk s.t14_0 s.t15 s.t18_0 (IntKind.wrap .i64 (s.t19 + (1 : Int))) r278.2 s.b2)))
        .fail)
      .fail)
    (.leaf (.inr (s.t14_0, s.t15, s.b1, s.b2)))
noncomputable def z3b (q : Option Nat) (s : z2o) : Option ((List Page) × Int × (List Int) × Mmu) := limQ q (fun s => (z5k q s).run) s
structure z2n where
  t14_0 : (List Page)
  t15 : Int
  b1 : (List Int)
  b2 : Mmu
noncomputable def z2y (q : Option Nat) (s : z2n) : Tree (z2n ⊕ ((List Int) × Mmu)) :=
  .ite (decide (s.t15 < (2 : Int)))
    (.ite (decide (0 ≤ s.t15))
      (.ite (decide (s.t15 < (2 : Int)))
        (.ite (decide ((s.t15).toNat * 8 + 8 ≤ s.t14_0.length))
          (.opt ((List Page) × Int × (List Int) × Mmu) (z3b q (z2o.mk s.t14_0 s.t15 ((s.t14_0.drop ((s.t15).toNat * 8)).take 8) (0 : Int) s.b1 s.b2)) fun l279 =>
            .leaf (.inl (z2n.mk l279.1 (IntKind.wrap .i64 (l279.2.1 + (1 : Int))) l279.2.2.1 l279.2.2.2)))
          .fail)
        .fail)
      .fail)
    (.leaf (.inr (s.b1, s.b2)))
noncomputable def zbo (q : Option Nat) (s : z2n) : Option ((List Int) × Mmu) := limQ q (fun s => (z2y q s).run) s
noncomputable def z7u (q : Option Nat) (x1 : Mmu) (g0 : Unit) (g1 : (List Int)) : Tree (List Int) :=
  .opt ((List Bool) × (List Int)) (zf q () ([x1.on]) g1) fun r274 =>
    .opt ((List Int) × Mmu) (zbo q (z2n.mk x1.pages (0 : Int) r274.2 x1)) fun l280 =>
      .opt ((List Int) × (List Int)) (z7 q (1 : Int) () ([l280.2.status]) l280.1) fun r281 =>
        .opt ((List Int) × (List Int)) (z7 q (2 : Int) () ([l280.2.addr]) r281.2) fun r282 =>
          .leaf (r282.2)
noncomputable def z80 (q : Option Nat) (x1 : Mmu) (g0 : Unit) (g1 : (List Int)) : Option (List Int) := (z7u q x1 g0 g1).run
noncomputable def zc2 : Arg U (Mmu × Unit) := aP 0 0 (aA cMmu (aNil))
noncomputable def zc9 : Bls U (Unit × (List Int) × Unit) := bT (some 136) (cK (.ptr 0 0) (cK (.row 1 0) (cUnit))) (bR 5 (bNil))
noncomputable def zg5 (_x : Mmu × Unit) (_g : Unit × (List Int) × Unit) (r : (List Int)) : List (V U) × List (Blk U) := ([], [.cells ((cK (.ptr 0 0) (cK (.row 1 3) (cUnit)) : Cdc U (Unit)).enc (())) (some 136), .row 5 3 r])
noncomputable def zjd : List (V U) → List (Blk U) → Option (FnOut U) := mkSpecG zc2 zc9 (fun x g => z80 none x.1 g.1 g.2.1) zg5
noncomputable def zjo (x : (Unit) × (Unit) × ((List Page) × Unit) × (Int × Unit) × Unit) (g : (Unit) × (List Int) × (Mmu × Unit) × Unit) : z2n := z2n.mk x.2.2.1.1 x.2.2.2.1.1 g.2.1 g.2.2.1.1
noncomputable def zmm : Tms U ((Unit) × (Unit) × ((List Page) × Unit) × (Int × Unit) × Unit) := tO 0 (cK (.ptr 0 0) (cUnit)) (tO 3 (cK (.ptr 2 0) (cUnit)) (tA 14 (cPair (cArr 28 16) (cUnit)) (tO 15 (cPair (cInt .i64) (cUnit)) (tNil))))
noncomputable def z14j : Bls U ((Unit) × (List Int) × (Mmu × Unit) × Unit) := bT (some 136) (cK (.ptr 0 0) (cK (.row 1 1) (cUnit))) (bRv 5 1 (bC (cPair cMmu (cUnit)) (bNil)))
noncomputable def zgw (s : z2n) : St U := { tm := [(0, .v (vO (cK (.ptr 0 0) (cUnit)) (()))), (3, .v (vO (cK (.ptr 2 0) (cUnit)) (()))), (14, .v (vA (cPair (cArr 28 16) (cUnit)) (s.t14_0, ()))), (15, .v (vO (cPair (cInt .i64) (cUnit)) (s.t15, ())))], hp := [.cells ((cK (.ptr 0 0) (cK (.row 1 1) (cUnit)) : Cdc U (Unit)).enc (())) (some 136), .row 5 1 s.b1, .cells ((cPair cMmu (cUnit) : Cdc U (Mmu × Unit)).enc (s.b2, ())) none] }
noncomputable def zhs (r : ((List Int) × Mmu)) : Ex × St U := (.exit 0, { tm := [(0, .v (vO (cK (.ptr 0 0) (cUnit)) (()))), (3, .v (vO (cK (.ptr 2 0) (cUnit)) (())))], hp := [.cells ((cK (.ptr 0 0) (cK (.row 1 1) (cUnit)) : Cdc U (Unit)).enc (())) (some 136), .row 5 1 r.1, .cells ((cPair cMmu (cUnit) : Cdc U (Mmu × Unit)).enc (r.2, ())) none] })
noncomputable def zzk (r : ((List Int) × Mmu)) : Tree (Ex × St U) := .leaf (zhs r)
noncomputable def z137 : Hd := { keep := [0, 3, 14, 15], xkeep := [0, 3], own := false }
noncomputable def zur (x : (Unit) × (Unit) × ((List Page) × Unit) × (Int × Unit) × ((List Page) × Unit) × (Int × Unit) × Unit) (g : (Unit) × (List Int) × (Mmu × Unit) × Unit) : z2o := z2o.mk x.2.2.1.1 x.2.2.2.1.1 x.2.2.2.2.1.1 x.2.2.2.2.2.1.1 g.2.1 g.2.2.1.1
noncomputable def zmz : Tms U ((Unit) × (Unit) × ((List Page) × Unit) × (Int × Unit) × ((List Page) × Unit) × (Int × Unit) × Unit) := tO 0 (cK (.ptr 0 0) (cUnit)) (tO 3 (cK (.ptr 2 0) (cUnit)) (tA 14 (cPair (cArr 28 16) (cUnit)) (tO 15 (cPair (cInt .i64) (cUnit)) (tA 18 (cPair (cArr 28 8) (cUnit)) (tO 19 (cPair (cInt .i64) (cUnit)) (tNil))))))
noncomputable def zu3 : Bls U ((Unit) × (List Int) × (Mmu × Unit) × Unit) := bT (some 136) (cK (.ptr 0 0) (cK (.row 1 1) (cUnit))) (bRv 5 1 (bC (cPair cMmu (cUnit)) (bNil)))
noncomputable def zj4 (s : z2o) : St U := { tm := [(0, .v (vO (cK (.ptr 0 0) (cUnit)) (()))), (3, .v (vO (cK (.ptr 2 0) (cUnit)) (()))), (14, .v (vA (cPair (cArr 28 16) (cUnit)) (s.t14_0, ()))), (15, .v (vO (cPair (cInt .i64) (cUnit)) (s.t15, ()))), (18, .v (vA (cPair (cArr 28 8) (cUnit)) (s.t18_0, ()))), (19, .v (vO (cPair (cInt .i64) (cUnit)) (s.t19, ())))], hp := [.cells ((cK (.ptr 0 0) (cK (.row 1 1) (cUnit)) : Cdc U (Unit)).enc (())) (some 136), .row 5 1 s.b1, .cells ((cPair cMmu (cUnit) : Cdc U (Mmu × Unit)).enc (s.b2, ())) none] }
noncomputable def zfx (r : ((List Page) × Int × (List Int) × Mmu)) : Ex × St U := (.exit 2, { tm := [(0, .v (vO (cK (.ptr 0 0) (cUnit)) (()))), (3, .v (vO (cK (.ptr 2 0) (cUnit)) (()))), (14, .v (vA (cPair (cArr 28 16) (cUnit)) (r.1, ()))), (15, .v (vO (cPair (cInt .i64) (cUnit)) (r.2.1, ())))], hp := [.cells ((cK (.ptr 0 0) (cK (.row 1 1) (cUnit)) : Cdc U (Unit)).enc (())) (some 136), .row 5 1 r.2.2.1, .cells ((cPair cMmu (cUnit) : Cdc U (Mmu × Unit)).enc (r.2.2.2, ())) none] })
noncomputable def z12c (r : ((List Page) × Int × (List Int) × Mmu)) : Tree (Ex × St U) := .leaf (zfx r)
noncomputable def z13a : Hd := { keep := [0, 3, 14, 15, 18, 19], xkeep := [0, 3, 14, 15], own := false }
noncomputable def z49 : Env U := { P := Tryz.prog, cd := cd, fns := (addF 92 false (zo) (addF 91 false (z5b) fns38)), lps := (addL 0 z137 (mkLoop zmm z14j zjo (zbo none) zzk) (addL 1 z13a (mkLoop zmz zu3 zur (z3b none) z12c) noL)), frz := fun _r => false, nt := 51, n0 := 2 }
noncomputable def z12x : Code := (loopAt (Tryz.f90.body.getD .skip) 0 0).getD .skip
theorem z1a6 (s : z2n) : round z49 z137 z12x 0 (zgw s) = (z2y none s).map (sumE zgw zhs) := by kernel_rfl
theorem z1e8 : LpOk z49 z12x 0 := mkLoop_ok (A := zmm) (B := z14j) (f := zjo) (L := zbo none) (tO_ok (cK_ok cUnit_ok) (tO_ok (cK_ok cUnit_ok) (tA_ok (cPair_ok (cArr_ok 28 16) cUnit_ok) (tO_ok (cPair_ok (cInt_ok .i64) cUnit_ok) tNil_ok)))) (bT_ok (cK_ok (cK_ok cUnit_ok)) (bRv_ok (bC_ok (cPair_ok zj cUnit_ok) bNil_ok))) (enc := zgw) (out := zzk) (outS := zhs) (step := z2y none) (fun _ => rfl) (fun _ _ => by kernel_rfl) (by kernel_rfl) (fun _ => rfl) z1a6
noncomputable def zzr : Code := (loopAt (Tryz.f90.body.getD .skip) 0 1).getD .skip
theorem z1f1 (s : z2o) : round z49 z13a zzr 1 (zj4 s) = (z5k none s).map (sumE zj4 zfx) := by kernel_rfl
theorem z1em : LpOk z49 zzr 1 := mkLoop_ok (A := zmz) (B := zu3) (f := zur) (L := z3b none) (tO_ok (cK_ok cUnit_ok) (tO_ok (cK_ok cUnit_ok) (tA_ok (cPair_ok (cArr_ok 28 16) cUnit_ok) (tO_ok (cPair_ok (cInt_ok .i64) cUnit_ok) (tA_ok (cPair_ok (cArr_ok 28 8) cUnit_ok) (tO_ok (cPair_ok (cInt_ok .i64) cUnit_ok) tNil_ok)))))) (bT_ok (cK_ok (cK_ok cUnit_ok)) (bRv_ok (bC_ok (cPair_ok zj cUnit_ok) bNil_ok))) (enc := zj4) (out := z12c) (outS := zfx) (step := z5k none) (fun _ => rfl) (fun _ _ => by kernel_rfl) (by kernel_rfl) (fun _ => rfl) z1f1
theorem z17c (x1 : Mmu) (g0 : Unit) (g1 : (List Int)) : execX false z49 Tryz.f90 (zc2.enc (x1, ())) (zc9.enc (g0, g1, ())) = (z7u none x1 g0 g1).map (zg5 (x1, ()) (g0, g1, ())) := by kernel_rfl
theorem z173 : ∀ (x : Mmu × Unit) (g : Unit × (List Int) × Unit), execX false z49 Tryz.f90 (zc2.enc x) (zc9.enc g) = (z7u none x.1 g.1 g.2.1).map (zg5 x g)
  | (x1, ()), (g0, g1, ()) => z17c x1 g0 g1
theorem z19x : FnOk Tryz.prog cd 90 zjd := mk_okG (E := z49) (A := zc2) (B := zc9) false cd_ok (addF_ok zr (addF_ok z8y zg)) Tryz.func90 (by kernel_rfl) (loops_of (addL_ok z1e8 (addL_ok z1em noL_ok))) (aP_ok (aA_ok zj (aNil_ok))) (bT_ok (cK_ok (cK_ok cUnit_ok)) (bR_ok bNil_ok)) (T := fun (x : Mmu × Unit) (g : Unit × (List Int) × Unit) => z7u none x.1 g.1 g.2.1) (fun _ _ => rfl) z173
/-- emulator/octet.PutText -/
noncomputable def z50 (q : Option Nat) (x0 : (List UInt8)) : Tree (List UInt8) :=
  .ite (decide (0 ≤ (if (65535 : Int) < (x0.length : Int) then (65535 : Int) else (x0.length : Int))))
    (.ite (decide ((if (65535 : Int) < (x0.length : Int) then (65535 : Int) else (x0.length : Int)) ≤ ((x0.length : Nat) : Int)))
      (.opt (List UInt8) (zn q (((x0.drop (0)).take (((if (65535 : Int) < (x0.length : Int) then (65535 : Int) else (x0.length : Int))).toNat - 0)).length : Int) (2 : Int)) fun r297 =>
        .opt (List UInt8) (z7t q ([r297, (x0.drop (0)).take (((if (65535 : Int) < (x0.length : Int) then (65535 : Int) else (x0.length : Int))).toNat - 0)])) fun r298 =>
          .leaf (r298))
      .fail)
    .fail
noncomputable def z5w (q : Option Nat) (x0 : (List UInt8)) : Option (List UInt8) := (z50 q x0).run
noncomputable def zcr : Arg U ((List UInt8) × Unit) := aO cStr (aNil)
noncomputable def zdc : Bls U (Unit) := bNil
noncomputable def zih (_x : (List UInt8) × Unit) (_g : Unit) (r : (List UInt8)) : List (V U) × List (Blk U) := ([vO (cPair cStr (cUnit)) (r, ())], [])
noncomputable def zjv : List (V U) → List (Blk U) → Option (FnOut U) := mkSpecG zcr zdc (fun x _ => z5w none x.1) zih
noncomputable def zgb : Env U := { P := Tryz.prog, cd := cd, fns := (addF 85 false (frzSpec zef) fns38), lps := noL, frz := fun _r => false, nt := 14, n0 := 0 }
theorem z1ce (x0 : (List UInt8)) : execX false zgb Tryz.f148 (zcr.enc (x0, ())) (zdc.enc ()) = (z50 none x0).map (zih (x0, ()) ()) := by kernel_rfl
theorem z1az : ∀ (x : (List UInt8) × Unit) (g : Unit), execX false zgb Tryz.f148 (zcr.enc x) (zdc.enc g) = (z50 none x.1).map (zih x g)
  | (x0, ()), () => z1ce x0
theorem z185 : FnOk Tryz.prog cd 148 zjv := mk_okG (E := zgb) (A := zcr) (B := zdc) false cd_ok (addF_ok (fnOk_frz cd_ok (mkSpec_out fun _ => rfl) zgy) zg) Tryz.func148 (by kernel_rfl) (noLoops_body (by kernel_rfl)) (aO_ok cStr_ok (aNil_ok)) bNil_ok (T := fun (x : (List UInt8) × Unit) (_ : Unit) => z50 none x.1) (fun _ _ => rfl) z1az
/-- (*emulator/save.writer).text -/
noncomputable def z8i (q : Option Nat) (x1 : (List UInt8)) (g0 : Unit) (g1 : (List Int)) : Tree (List Int) :=
  .opt (List UInt8) (z5w q x1) fun r299 =>
    .opt (Int × (List Int)) (z4o r299 () g1) fun r300 =>
      .leaf (r300.2)
noncomputable def z66 (q : Option Nat) (x1 : (List UInt8)) (g0 : Unit) (g1 : (List Int)) : Option (List Int) := (z8i q x1 g0 g1).run
noncomputable def ze1 : Arg U ((List UInt8) × Unit) := aP 0 0 (aO cStr (aNil))
noncomputable def zb7 : Bls U (Unit × (List Int) × Unit) := bT (some 136) (cK (.ptr 0 0) (cK (.row 1 0) (cUnit))) (bR 5 (bNil))
noncomputable def zgu (_x : (List UInt8) × Unit) (_g : Unit × (List Int) × Unit) (r : (List Int)) : List (V U) × List (Blk U) := ([], [.cells ((cK (.ptr 0 0) (cK (.row 1 1) (cUnit)) : Cdc U (Unit)).enc (())) (some 136), .row 5 1 r])
noncomputable def zi3 : List (V U) → List (Blk U) → Option (FnOut U) := mkSpecG ze1 zb7 (fun x g => z66 none x.1 g.1 g.2.1) zgu
noncomputable def zhk : Env U := { P := Tryz.prog, cd := cd, fns := (addF 148 false (zjv) (addF 86 false (za7) fns38)), lps := noL, frz := fun _r => false, nt := 10, n0 := 2, fps := fun _r _i => bif Nat.beq _r 0 && Nat.beq _i 1 then .rd [] else bif Nat.beq _r 0 && Nat.beq _i 2 then .rd [] else bif Nat.beq _r 0 && Nat.beq _i 4 then .wr [] 2 else .none }
theorem z17l (x1 : (List UInt8)) (g0 : Unit) (g1 : (List Int)) : execX false zhk Tryz.f130 (ze1.enc (x1, ())) (zb7.enc (g0, g1, ())) = (z8i none x1 g0 g1).map (zgu (x1, ()) (g0, g1, ())) := by kernel_rfl
theorem z175 : ∀ (x : (List UInt8) × Unit) (g : Unit × (List Int) × Unit), execX false zhk Tryz.f130 (ze1.enc x) (zb7.enc g) = (z8i none x.1 g.1 g.2.1).map (zgu x g)
  | (x1, ()), (g0, g1, ()) => z17l x1 g0 g1
theorem zyu : FnOk Tryz.prog cd 130 zi3 := mk_okG (E := zhk) (A := ze1) (B := zb7) false cd_ok (addF_ok z185 (addF_ok zj6 zg)) Tryz.func130 (by kernel_rfl) (noLoops_body (by kernel_rfl)) (aP_ok (aO_ok cStr_ok (aNil_ok))) (bT_ok (cK_ok (cK_ok cUnit_ok)) (bR_ok bNil_ok)) (T := fun (x : (List UInt8) × Unit) (g : Unit × (List Int) × Unit) => z8i none x.1 g.1 g.2.1) (fun _ _ => rfl) z175
/-- (*emulator/save.writer).line -/
noncomputable def z8p (q : Option Nat) (x1 : Line) (g0 : Unit) (g1 : (List Int)) : Tree (List Int) :=
  .opt ((List Bool) × (List Int)) (zf q () ([x1.rxEnable, x1.rxReady, x1.overrun]) g1) fun r301 =>
    .opt ((List Int) × (List Int)) (z7 q (1 : Int) () ([x1.rxData]) r301.2) fun r302 =>
      .opt ((List Bool) × (List Int)) (zf q () ([x1.txEnable, x1.txReady]) r302.2) fun r303 =>
        .opt ((List Int) × (List Int)) (z7 q (1 : Int) () ([x1.txData, x1.txLeft]) r303.2) fun r304 =>
          .opt (List Int) (z66 q x1.out () r304.2) fun r305 =>
            .leaf (r305)
noncomputable def za3 (q : Option Nat) (x1 : Line) (g0 : Unit) (g1 : (List Int)) : Option (List Int) := (z8p q x1 g0 g1).run
noncomputable def za1 : Arg U (Line × Unit) := aP 0 0 (aA cLine (aNil))
noncomputable def zbp : Bls U (Unit × (List Int) × Unit) := bT (some 136) (cK (.ptr 0 0) (cK (.row 1 0) (cUnit))) (bR 5 (bNil))
noncomputable def zja (_x : Line × Unit) (_g : Unit × (List Int) × Unit) (r : (List Int)) : List (V U) × List (Blk U) := ([], [.cells ((cK (.ptr 0 0) (cK (.row 1 5) (cUnit)) : Cdc U (Unit)).enc (())) (some 136), .row 5 5 r])
noncomputable def z10h : List (V U) → List (Blk U) → Option (FnOut U) := mkSpecG za1 zbp (fun x g => za3 none x.1 g.1 g.2.1) zja
noncomputable def zgl : Env U := { P := Tryz.prog, cd := cd, fns := (addF 130 false (zi3) (addF 92 false (zo) (addF 91 false (z5b) fns38))), lps := noL, frz := fun _r => false, nt := 36, n0 := 2 }
theorem z198 (x1 : Line) (g0 : Unit) (g1 : (List Int)) : execX false zgl Tryz.f94 (za1.enc (x1, ())) (zbp.enc (g0, g1, ())) = (z8p none x1 g0 g1).map (zja (x1, ()) (g0, g1, ())) := by kernel_rfl
theorem z17a : ∀ (x : Line × Unit) (g : Unit × (List Int) × Unit), execX false zgl Tryz.f94 (za1.enc x) (zbp.enc g) = (z8p none x.1 g.1 g.2.1).map (zja x g)
  | (x1, ()), (g0, g1, ()) => z198 x1 g0 g1
theorem z1eo : FnOk Tryz.prog cd 94 z10h := mk_okG (E := zgl) (A := za1) (B := zbp) false cd_ok (addF_ok zyu (addF_ok zr (addF_ok z8y zg))) Tryz.func94 (by kernel_rfl) (noLoops_body (by kernel_rfl)) (aP_ok (aA_ok zd3 (aNil_ok))) (bT_ok (cK_ok (cK_ok cUnit_ok)) (bR_ok bNil_ok)) (T := fun (x : Line × Unit) (g : Unit × (List Int) × Unit) => z8p none x.1 g.1 g.2.1) (fun _ _ => rfl) z17a
/-- emulator/save.list[emulator/api.Line] -/
structure z1u where
  t13 : (List Line)
  t14 : Int
  t15 : Int
  b1 : (List Int)
noncomputable def z60 (q : Option Nat) (s : z1u) : Tree (z1u ⊕ (List Int)) :=
  .ite (decide (s.t15 < s.t14))
    (.ite (decide (0 ≤ s.t15))
      (.opt Line (s.t13[(s.t15).toNat]?) fun y307 =>
        .opt (List Int) (za3 q y307 () s.b1) fun r308 =>
          .leaf (.inl (z1u.mk s.t13 s.t14 (IntKind.wrap .i64 (s.t15 + (1 : Int))) r308)))
      .fail)
    (.leaf (.inr s.b1))
noncomputable def z74 (q : Option Nat) (s : z1u) : Option (List Int) := limQ q (fun s => (z60 q s).run) s
noncomputable def z8c (q : Option Nat) (x1 : (List Line)) (g0 : Unit) (g1 : (List Int)) : Tree (List Int) :=
  .opt ((List Int) × (List Int)) (z7 q (2 : Int) () ([(x1.length : Int)]) g1) fun r306 =>
    .opt (List Int) (z74 q (z1u.mk x1 (x1.length : Int) (0 : Int) r306.2)) fun l309 =>
      .leaf (l309)
noncomputable def z8s (q : Option Nat) (x1 : (List Line)) (g0 : Unit) (g1 : (List Int)) : Option (List Int) := (z8c q x1 g0 g1).run
noncomputable def zdo : Arg U ((List Line) × Unit) := aP 0 0 (aO (cSl 66) (aKF (.fn 94 [(.ptr 0 0)] []) (aNil)))
noncomputable def zdp : Bls U (Unit × (List Int) × Unit) := bT (some 136) (cK (.ptr 0 0) (cK (.row 1 0) (cUnit))) (bR 5 (bNil))
noncomputable def zgk (_x : (List Line) × Unit) (_g : Unit × (List Int) × Unit) (r : (List Int)) : List (V U) × List (Blk U) := ([], [.cells ((cK (.ptr 0 0) (cK (.row 1 1) (cUnit)) : Cdc U (Unit)).enc (())) (some 136), .row 5 1 r])
noncomputable def zzj : List (V U) → List (Blk U) → Option (FnOut U) := mkSpecG zdo zdp (fun x g => z8s none x.1 g.1 g.2.1) zgk
noncomputable def zoh (x : (Unit) × ((List Line) × Unit) × (Int × Unit) × (Int × Unit) × Unit) (g : (Unit) × (List Int) × Unit) : z1u := z1u.mk x.2.1.1 x.2.2.1.1 x.2.2.2.1.1 g.2.1
noncomputable def zzz : Tms U ((Unit) × ((List Line) × Unit) × (Int × Unit) × (Int × Unit) × Unit) := tO 2 (cK2 (.fn 94 [(.ptr 0 0)] []) (cUnit)) (tO 13 (cPair (cSl 66) (cUnit)) (tO 14 (cPair (cInt .i64) (cUnit)) (tO 15 (cPair (cInt .i64) (cUnit)) (tNil))))
noncomputable def z132 : Bls U ((Unit) × (List Int) × Unit) := bT (some 136) (cK (.ptr 0 0) (cK (.row 1 1) (cUnit))) (bRv 5 1 (bNil))
noncomputable def zfb (s : z1u) : St U := { tm := [(2, .v (vO (cK2 (.fn 94 [(.ptr 0 0)] []) (cUnit)) (()))), (13, .v (vO (cPair (cSl 66) (cUnit)) (s.t13, ()))), (14, .v (vO (cPair (cInt .i64) (cUnit)) (s.t14, ()))), (15, .v (vO (cPair (cInt .i64) (cUnit)) (s.t15, ())))], hp := [.cells ((cK (.ptr 0 0) (cK (.row 1 1) (cUnit)) : Cdc U (Unit)).enc (())) (some 136), .row 5 1 s.b1] }
noncomputable def zgg (r : (List Int)) : Ex × St U := (.exit 0, { tm := [], hp := [.cells ((cK (.ptr 0 0) (cK (.row 1 1) (cUnit)) : Cdc U (Unit)).enc (())) (some 136), .row 5 1 r] })
noncomputable def zwk (r : (List Int)) : Tree (Ex × St U) := .leaf (zgg r)
noncomputable def zsr : Hd := { keep := [2, 13, 14, 15], xkeep := [], own := false }
noncomputable def z8j : Env U := { P := Tryz.prog, cd := cd, fns := (addF 94 false (z10h) (addF 92 false (zo) fns38)), lps := (addL 0 zsr (mkLoop zzz z132 zoh (z74 none) zwk) noL), frz := fun _r => false, nt := 23, n0 := 2 }
noncomputable def zki : Code := (loopAt (Tryz.f93.body.getD .skip) 0 0).getD .skip
theorem z1b5 (s : z1u) : round z8j zsr zki 0 (zfb s) = (z60 none s).map (sumE zfb zgg) := by kernel_rfl
theorem z1dy : LpOk z8j zki 0 := mkLoop_ok (A := zzz) (B := z132) (f := zoh) (L := z74 none) (tO_ok (cK2_ok cUnit_ok) (tO_ok (cPair_ok (cSl_ok 66) cUnit_ok) (tO_ok (cPair_ok (cInt_ok .i64) cUnit_ok) (tO_ok (cPair_ok (cInt_ok .i64) cUnit_ok) tNil_ok)))) (bT_ok (cK_ok (cK_ok cUnit_ok)) (bRv_ok bNil_ok)) (enc := zfb) (out := zwk) (outS := zgg) (step := z60 none) (fun _ => rfl) (fun _ _ => by kernel_rfl) (by kernel_rfl) (fun _ => rfl) z1b5
theorem z1fu (x1 : (List Line)) (g0 : Unit) (g1 : (List Int)) : execX false z8j Tryz.f93 (zdo.enc (x1, ())) (zdp.enc (g0, g1, ())) = (z8c none x1 g0 g1).map (zgk (x1, ()) (g0, g1, ())) := by kernel_rfl
theorem z17s : ∀ (x : (List Line) × Unit) (g : Unit × (List Int) × Unit), execX false z8j Tryz.f93 (zdo.enc x) (zdp.enc g) = (z8c none x.1 g.1 g.2.1).map (zgk x g)
  | (x1, ()), (g0, g1, ()) => z1fu x1 g0 g1
theorem z15a : FnOk Tryz.prog cd 93 zzj := mk_okG (E := z8j) (A := zdo) (B := zdp) false cd_ok (addF_ok z1eo (addF_ok zr zg)) Tryz.func93 (by kernel_rfl) (loops_of (addL_ok z1dy noL_ok)) (aP_ok (aO_ok (cSl_ok 66) (aKF_ok (aNil_ok)))) (bT_ok (cK_ok (cK_ok cUnit_ok)) (bR_ok bNil_ok)) (T := fun (x : (List Line) × Unit) (g : Unit × (List Int) × Unit) => z8c none x.1 g.1 g.2.1) (fun _ _ => rfl) z17s
/-- emulator/save.list[string] -/
structure z2j where
  t13 : (List (List UInt8))
  t14 : Int
  t15 : Int
  b1 : (List Int)
noncomputable def z69 (q : Option Nat) (s : z2j) : Tree (z2j ⊕ (List Int)) :=
  .ite (decide (s.t15 < s.t14))
    (.ite (decide (0 ≤ s.t15))
      (.opt (List UInt8) (s.t13[(s.t15).toNat]?) fun y319 =>
        .opt (List Int) (z66 q y319 () s.b1) fun r320 =>
          .leaf (.inl (z2j.mk s.t13 s.t14 (IntKind.wrap .i64 (s.t15 + (1 : Int))) r320)))
      .fail)
    (.leaf (.inr s.b1))
noncomputable def z8v (q : Option Nat) (s : z2j) : Option (List Int) := limQ q (fun s => (z69 q s).run) s
noncomputable def z7j (q : Option Nat) (x1 : (List (List UInt8))) (g0 : Unit) (g1 : (List Int)) : Tree (List Int) :=
  .opt ((List Int) × (List Int)) (z7 q (2 : Int) () ([(x1.length : Int)]) g1) fun r318 =>
    .opt (List Int) (z8v q (z2j.mk x1 (x1.length : Int) (0 : Int) r318.2)) fun l321 =>
      .leaf (l321)
noncomputable def z4e (q : Option Nat) (x1 : (List (List UInt8))) (g0 : Unit) (g1 : (List Int)) : Option (List Int) := (z7j q x1 g0 g1).run
noncomputable def z9n : Arg U ((List (List UInt8)) × Unit) := aP 0 0 (aO (cSl 9) (aKF (.fn 130 [(.ptr 0 0)] []) (aNil)))
noncomputable def z9k : Bls U (Unit × (List Int) × Unit) := bT (some 136) (cK (.ptr 0 0) (cK (.row 1 0) (cUnit))) (bR 5 (bNil))
noncomputable def zj0 (_x : (List (List UInt8)) × Unit) (_g : Unit × (List Int) × Unit) (r : (List Int)) : List (V U) × List (Blk U) := ([], [.cells ((cK (.ptr 0 0) (cK (.row 1 1) (cUnit)) : Cdc U (Unit)).enc (())) (some 136), .row 5 1 r])
noncomputable def zf8 : List (V U) → List (Blk U) → Option (FnOut U) := mkSpecG z9n z9k (fun x g => z4e none x.1 g.1 g.2.1) zj0
noncomputable def zw1 (x : (Unit) × ((List (List UInt8)) × Unit) × (Int × Unit) × (Int × Unit) × Unit) (g : (Unit) × (List Int) × Unit) : z2j := z2j.mk x.2.1.1 x.2.2.1.1 x.2.2.2.1.1 g.2.1
noncomputable def zoj : Tms U ((Unit) × ((List (List UInt8)) × Unit) × (Int × Unit) × (Int × Unit) × Unit) := tO 2 (cK2 (.fn 130 [(.ptr 0 0)] []) (cUnit)) (tO 13 (cPair (cSl 9) (cUnit)) (tO 14 (cPair (cInt .i64) (cUnit)) (tO 15 (cPair (cInt .i64) (cUnit)) (tNil))))
noncomputable def zqn : Bls U ((Unit) × (List Int) × Unit) := bT (some 136) (cK (.ptr 0 0) (cK (.row 1 1) (cUnit))) (bRv 5 1 (bNil))
noncomputable def zim (s : z2j) : St U := { tm := [(2, .v (vO (cK2 (.fn 130 [(.ptr 0 0)] []) (cUnit)) (()))), (13, .v (vO (cPair (cSl 9) (cUnit)) (s.t13, ()))), (14, .v (vO (cPair (cInt .i64) (cUnit)) (s.t14, ()))), (15, .v (vO (cPair (cInt .i64) (cUnit)) (s.t15, ())))], hp := [.cells ((cK (.ptr 0 0) (cK (.row 1 1) (cUnit)) : Cdc U (Unit)).enc (())) (some 136), .row 5 1 s.b1] }
noncomputable def zhu (r : (List Int)) : Ex × St U := (.exit 0, { tm := [], hp := [.cells ((cK (.ptr 0 0) (cK (.row 1 1) (cUnit)) : Cdc U (Unit)).enc (())) (some 136), .row 5 1 r] })
noncomputable def zy0 (r : (List Int)) : Tree (Ex × St U) := .leaf (zhu r)
noncomputable def zu5 : Hd := { keep := [2, 13, 14, 15], xkeep := [], own := false }
noncomputable def z6s : Env U := { P := Tryz.prog, cd := cd, fns := (addF 130 false (zi3) (addF 92 false (zo) fns38)), lps := (addL 0 zu5 (mkLoop zoj zqn zw1 (z8v none) zy0) noL), frz := fun _r => false, nt := 23, n0 := 2 }
noncomputable def zrp : Code := (loopAt (Tryz.f131.body.getD .skip) 0 0).getD .skip
theorem z161 (s : z2j) : round z6s zu5 zrp 0 (zim s) = (z69 none s).map (sumE zim zhu) := by kernel_rfl
theorem z1fh : LpOk z6s zrp 0 := mkLoop_ok (A := zoj) (B := zqn) (f := zw1) (L := z8v none) (tO_ok (cK2_ok cUnit_ok) (tO_ok (cPair_ok (cSl_ok 9) cUnit_ok) (tO_ok (cPair_ok (cInt_ok .i64) cUnit_ok) (tO_ok (cPair_ok (cInt_ok .i64) cUnit_ok) tNil_ok)))) (bT_ok (cK_ok (cK_ok cUnit_ok)) (bRv_ok bNil_ok)) (enc := zim) (out := zy0) (outS := zhu) (step := z69 none) (fun _ => rfl) (fun _ _ => by kernel_rfl) (by kernel_rfl) (fun _ => rfl) z161
theorem z1g2 (x1 : (List (List UInt8))) (g0 : Unit) (g1 : (List Int)) : execX false z6s Tryz.f131 (z9n.enc (x1, ())) (z9k.enc (g0, g1, ())) = (z7j none x1 g0 g1).map (zj0 (x1, ()) (g0, g1, ())) := by kernel_rfl
theorem z1bm : ∀ (x : (List (List UInt8)) × Unit) (g : Unit × (List Int) × Unit), execX false z6s Tryz.f131 (z9n.enc x) (z9k.enc g) = (z7j none x.1 g.1 g.2.1).map (zj0 x g)
  | (x1, ()), (g0, g1, ()) => z1g2 x1 g0 g1
theorem zyi : FnOk Tryz.prog cd 131 zf8 := mk_okG (E := z6s) (A := z9n) (B := z9k) false cd_ok (addF_ok zyu (addF_ok zr zg)) Tryz.func131 (by kernel_rfl) (loops_of (addL_ok z1fh noL_ok)) (aP_ok (aO_ok (cSl_ok 9) (aKF_ok (aNil_ok)))) (bT_ok (cK_ok (cK_ok cUnit_ok)) (bR_ok bNil_ok)) (T := fun (x : (List (List UInt8)) × Unit) (g : Unit × (List Int) × Unit) => z7j none x.1 g.1 g.2.1) (fun _ _ => rfl) z1bm
/-- (*emulator/save.writer).disk -/
noncomputable def z6c (q : Option Nat) (x1 : Disk) (g0 : Unit) (g1 : (List Int)) : Tree (List Int) :=
  .opt (List Int) (z4e q x1.drive.sectors () g1) fun r322 =>
    .opt (List Int) (z1s q x1.drive.bad () r322) fun r323 =>
      .opt ((List Bool) × (List Int)) (zf q () ([x1.enable, x1.ready, x1.error]) r323) fun r324 =>
        .opt ((List Int) × (List Int)) (z7 q (1 : Int) () ([x1.command]) r324.2) fun r325 =>
          .opt ((List Int) × (List Int)) (z7 q (2 : Int) () ([x1.words, x1.addr, x1.start]) r325.2) fun r326 =>
            .opt ((List Int) × (List Int)) (z7 q (1 : Int) () ([x1.left]) r326.2) fun r327 =>
              .leaf (r327.2)
noncomputable def z6i (q : Option Nat) (x1 : Disk) (g0 : Unit) (g1 : (List Int)) : Option (List Int) := (z6c q x1 g0 g1).run
noncomputable def zaj : Arg U (Disk × Unit) := aP 0 0 (aA cDisk (aNil))
noncomputable def zec : Bls U (Unit × (List Int) × Unit) := bT (some 136) (cK (.ptr 0 0) (cK (.row 1 0) (cUnit))) (bR 5 (bNil))
noncomputable def zj8 (_x : Disk × Unit) (_g : Unit × (List Int) × Unit) (r : (List Int)) : List (V U) × List (Blk U) := ([], [.cells ((cK (.ptr 0 0) (cK (.row 1 6) (cUnit)) : Cdc U (Unit)).enc (())) (some 136), .row 5 6 r])
noncomputable def zv6 : List (V U) → List (Blk U) → Option (FnOut U) := mkSpecG zaj zec (fun x g => z6i none x.1 g.1 g.2.1) zj8
noncomputable def zfm : Env U := { P := Tryz.prog, cd := cd, fns := (addF 131 false (zf8) (addF 92 false (zo) (addF 91 false (z5b) (addF 88 false (zht) fns38)))), lps := noL, frz := fun _r => false, nt := 46, n0 := 2 }
theorem z1dj (x1 : Disk) (g0 : Unit) (g1 : (List Int)) : execX false zfm Tryz.f95 (zaj.enc (x1, ())) (zec.enc (g0, g1, ())) = (z6c none x1 g0 g1).map (zj8 (x1, ()) (g0, g1, ())) := by kernel_rfl
theorem z1ag : ∀ (x : Disk × Unit) (g : Unit × (List Int) × Unit), execX false zfm Tryz.f95 (zaj.enc x) (zec.enc g) = (z6c none x.1 g.1 g.2.1).map (zj8 x g)
  | (x1, ()), (g0, g1, ()) => z1dj x1 g0 g1
theorem z1fs : FnOk Tryz.prog cd 95 zv6 := mk_okG (E := zfm) (A := zaj) (B := zec) false cd_ok (addF_ok zyi (addF_ok zr (addF_ok z8y (addF_ok z14g zg)))) Tryz.func95 (by kernel_rfl) (noLoops_body (by kernel_rfl)) (aP_ok (aA_ok z4c (aNil_ok))) (bT_ok (cK_ok (cK_ok cUnit_ok)) (bR_ok bNil_ok)) (T := fun (x : Disk × Unit) (g : Unit × (List Int) × Unit) => z6c none x.1 g.1 g.2.1) (fun _ _ => rfl) z1ag
/-- (*emulator/save.writer).tape -/
noncomputable def z7m (q : Option Nat) (x1 : Tape) (g0 : Unit) (g1 : (List Int)) : Tree (List Int) :=
  .opt (List Int) (z4e q x1.records () g1) fun r337 =>
    .opt ((List Int) × (List Int)) (z7 q (1 : Int) () ([x1.pos]) r337) fun r338 =>
      .opt ((List Bool) × (List Int)) (zf q () ([x1.enable, x1.ready, x1.error, x1.mark, x1.end_]) r338.2) fun r339 =>
        .opt ((List Int) × (List Int)) (z7 q (1 : Int) () ([x1.command]) r339.2) fun r340 =>
          .opt ((List Int) × (List Int)) (z7 q (2 : Int) () ([x1.count, x1.addr]) r340.2) fun r341 =>
            .opt ((List Int) × (List Int)) (z7 q (1 : Int) () ([x1.left]) r341.2) fun r342 =>
              .leaf (r342.2)
noncomputable def z86 (q : Option Nat) (x1 : Tape) (g0 : Unit) (g1 : (List Int)) : Option (List Int) := (z7m q x1 g0 g1).run
noncomputable def z9s : Arg U (Tape × Unit) := aP 0 0 (aA cTape (aNil))
noncomputable def z9r : Bls U (Unit × (List Int) × Unit) := bT (some 136) (cK (.ptr 0 0) (cK (.row 1 0) (cUnit))) (bR 5 (bNil))
noncomputable def zfp (_x : Tape × Unit) (_g : Unit × (List Int) × Unit) (r : (List Int)) : List (V U) × List (Blk U) := ([], [.cells ((cK (.ptr 0 0) (cK (.row 1 6) (cUnit)) : Cdc U (Unit)).enc (())) (some 136), .row 5 6 r])
noncomputable def z153 : List (V U) → List (Blk U) → Option (FnOut U) := mkSpecG z9s z9r (fun x g => z86 none x.1 g.1 g.2.1) zfp
noncomputable def zh8 : Env U := { P := Tryz.prog, cd := cd, fns := (addF 131 false (zf8) (addF 92 false (zo) (addF 91 false (z5b) fns38))), lps := noL, frz := fun _r => false, nt := 45, n0 := 2 }
theorem z18p (x1 : Tape) (g0 : Unit) (g1 : (List Int)) : execX false zh8 Tryz.f96 (z9s.enc (x1, ())) (z9r.enc (g0, g1, ())) = (z7m none x1 g0 g1).map (zfp (x1, ()) (g0, g1, ())) := by kernel_rfl
theorem z18r : ∀ (x : Tape × Unit) (g : Unit × (List Int) × Unit), execX false zh8 Tryz.f96 (z9s.enc x) (z9r.enc g) = (z7m none x.1 g.1 g.2.1).map (zfp x g)
  | (x1, ()), (g0, g1, ()) => z18p x1 g0 g1
theorem z16q : FnOk Tryz.prog cd 96 z153 := mk_okG (E := zh8) (A := z9s) (B := z9r) false cd_ok (addF_ok zyi (addF_ok zr (addF_ok z8y zg))) Tryz.func96 (by kernel_rfl) (noLoops_body (by kernel_rfl)) (aP_ok (aA_ok z2s (aNil_ok))) (bT_ok (cK_ok (cK_ok cUnit_ok)) (bR_ok bNil_ok)) (T := fun (x : Tape × Unit) (g : Unit × (List Int) × Unit) => z7m none x.1 g.1 g.2.1) (fun _ _ => rfl) z18r
end Go.Proofs.YtiafliookmnjoaaGreatDoor
namespace Go.Proofs
open Go.Shelf
shelf_lay Lays.n169 Nm 169 at Tryz as Tryz.lays97
theorem Tryz.extra97 : Builder.Extra Tryz.prog Tryz.lays97_ren where
  sizeBuilder := by kernel_rfl
  liesBuilder := by kernel_rfl
  t5 := Tryz.underlying5
  a5 := Tryz.isAgg5
  z5 := Tryz.sizeOf5
  v5 := Tryz.zeroValue5
  infoByte := by kernel_rfl
  cellsByte := by kernel_rfl
  sizeByte := by kernel_rfl
  neB5 := by decide
end Go.Proofs
namespace Go.Proofs.YtiafliookmnjoaaGreatDoor
open Go Go.Ab
theorem z1en : FnOk Tryz.prog cd 97 (strSpec cd 5) := str_ok cd_ok Tryz.lays97 Tryz.extra97 Tryz.func97 (by kernel_rfl) (by kernel_rfl) rfl rfl
/-- emulator/save.body -/
noncomputable def zd9 (q : Option Nat) (x0 : Machine) : Tree (List UInt8) :=
  .opt (Int × (List Int)) (ze8 ([69, 77, 85, 49] : List UInt8) ()) fun r357 =>
    .opt (List Int) (z73 q x0.cpu () r357.2) fun r358 =>
      .opt (List Int) (z1s q x0.mem () r358) fun r359 =>
        .opt (List Int) (z1s q x0.bad () r359) fun r360 =>
          .opt (List Int) (z80 q x0.mmu () r360) fun r361 =>
            .opt ((List Bool) × (List Int)) (zf q () ([x0.clock.enable, x0.clock.ready]) r361) fun r362 =>
              .opt ((List Int) × (List Int)) (z7 q (2 : Int) () ([x0.clock.period, x0.clock.left]) r362.2) fun r363 =>
                .opt (List Int) (z8s q x0.lines () r363.2) fun r364 =>
                  .opt (List Int) (z6i q x0.disk () r364) fun r365 =>
                    .opt (List Int) (z86 q x0.tape () r365) fun r366 =>
                      .opt ((List Int) × (List Int)) (z7 q (6 : Int) () ([x0.now]) r366) fun r367 =>
                        .opt ((List Bool) × (List Int)) (zf q () ([x0.halted, x0.waiting]) r367.2) fun r368 =>
                          .opt ((List Int) × (List Int)) (z7 q (2 : Int) () ([x0.power]) r368.2) fun r369 =>
                            .opt ((List Bool) × (List Int)) (zf q () ([x0.powerTrap]) r369.2) fun r370 =>
                              .opt (List UInt8) (strF (r370.2.map fun x => UInt8.ofNat x.toNat)) fun r371 =>
                                .leaf (r371)
noncomputable def z9z (q : Option Nat) (x0 : Machine) : Option (List UInt8) := (zd9 q x0).run
noncomputable def zlq : Arg U (Machine × Unit) := aA cMachine (aNil)
noncomputable def zs3 (r : (List UInt8)) : List (V U) × List (Blk U) := ([vO cStr r], [])
noncomputable def zpg : List (V U) → List (Blk U) → Option (FnOut U) := mkSpec zlq bNil (fun x _ => z9z none x.1) zs3
noncomputable def zkv : Env U := { P := Tryz.prog, cd := cd, fns := (addF 97 false (strSpec cd 5) (addF 96 false (z153) (addF 95 false (zv6) (addF 93 false (zzj) (addF 92 false (zo) (addF 91 false (z5b) (addF 90 false (zjd) (addF 88 false (zht) (addF 87 false (zjr) (addF 86 false (zo3) fns38)))))))))), lps := noL, frz := fun _r => false, nt := 88, n0 := 0 }
theorem z1bg (x : Machine × Unit) (g : Unit) : execF zkv Tryz.f39 (zlq.enc x) (bNil.enc g) = (zd9 none x.1).map zs3 := by kernel_rfl
theorem z1ak : FnOk Tryz.prog cd 39 zpg := mk_ok (E := zkv) cd_ok (addF_ok z1en (addF_ok z16q (addF_ok z1fs (addF_ok z15a (addF_ok zr (addF_ok z8y (addF_ok z19x (addF_ok z14g (addF_ok z1df (addF_ok z182 zg)))))))))) Tryz.func39 (by kernel_rfl) (noLoops_body (by kernel_rfl)) (aA_ok ze (aNil_ok)) bNil_ok (T := fun x _ => zd9 none x.1) (fun _ _ => rfl) z1bg
noncomputable def fns39 := addF 39 true zpg fns38
theorem zvp : ∀ f q t, fns39 f = some (q, t) → FnOk Tryz.prog cd f t := addF_ok z1ak zg
/-- emulator/save.Encode -/
noncomputable def z6t (q : Option Nat) (x0 : Machine) : Tree ((List UInt8) × Int) :=
  .opt Bool (zi q x0) fun r372 =>
    .ite (!r372)
      (.leaf ((([] : List UInt8), (1 : Int))))
      (.opt (List UInt8) (z9z q x0) fun r373 =>
        .opt (List UInt8) (z56 q r373) fun r374 =>
          .leaf ((r374, (0 : Int))))
noncomputable def z2r (q : Option Nat) (x0 : Machine) : Option ((List UInt8) × Int) := (z6t q x0).run
noncomputable def zvn : Arg U (Machine × Unit) := aA cMachine (aNil)
noncomputable def zkp (r : ((List UInt8) × Int)) : List (V U) × List (Blk U) := ([vO cStr r.1, vO (cInt .i64) r.2], [])
noncomputable def zta : List (V U) → List (Blk U) → Option (FnOut U) := mkSpec zvn bNil (fun x _ => z2r none x.1) zkp
noncomputable def z11d : Env U := { P := Tryz.prog, cd := cd, fns := fns39, lps := noL, frz := fun _r => false, nt := 10, n0 := 0 }
theorem z1ex (x : Machine × Unit) (g : Unit) : execF z11d Tryz.f12 (zvn.enc x) (bNil.enc g) = (z6t none x.1).map zkp := by kernel_rfl
theorem z1dt : FnOk Tryz.prog cd 12 zta := mk_ok (E := z11d) cd_ok zvp Tryz.func12 (by kernel_rfl) (noLoops_body (by kernel_rfl)) (aA_ok ze (aNil_ok)) bNil_ok (T := fun x _ => z6t none x.1) (fun _ _ => rfl) z1ex
noncomputable def fns12 := addF 12 true zta fns39
theorem z12p : ∀ f q t, fns12 f = some (q, t) → FnOk Tryz.prog cd f t := addF_ok z1dt zvp
/-- slices.Equal[[]int,int] -/
structure z21 where
  t0 : (List Int)
  t1 : (List Int)
  t12 : Int
  t13 : Int
noncomputable def z3f (s : z21) : Tree (z21 ⊕ (Bool ⊕ Unit)) :=
  .ite (decide (s.t13 < s.t12))
    (.ite (decide (0 ≤ s.t13))
      (.opt Int (s.t0[(s.t13).toNat]?) fun y375 =>
        .ite (decide (0 ≤ s.t13))
          (.opt Int (s.t1[(s.t13).toNat]?) fun y376 =>
            .ite (!decide (y375 = y376))
              (.leaf (.inr (.inl false)))
              (.leaf (.inl (z21.mk s.t0 s.t1 s.t12 (IntKind.wrap .i64 (s.t13 + (1 : Int)))))))
          .fail)
      .fail)
    (.leaf (.inr (.inr ())))
noncomputable def zbi (q : Option Nat) (s : z21) : Option (Bool ⊕ Unit) := limQ q (fun s => (z3f s).run) s
noncomputable def z9j (q : Option Nat) (x0 : (List Int)) (x1 : (List Int)) : Tree Bool :=
  .ite (!decide ((x0.length : Int) = (x1.length : Int)))
    (.leaf (false))
    (.opt (Bool ⊕ Unit) (zbi q (z21.mk x0 x1 (x0.length : Int) (0 : Int))) fun l377 =>
      .ite (l377.isLeft)
        (.opt Bool (l377.getLeft?) fun a378 =>
          .leaf (a378))
        (.opt Unit (l377.getRight?) fun b379 =>
          .leaf (true)))
noncomputable def z64 (q : Option Nat) (x0 : (List Int)) (x1 : (List Int)) : Option Bool := (z9j q x0 x1).run
noncomputable def z148 : Arg U ((List Int) × (List Int) × Unit) := aO (cSl 3) (aO (cSl 3) (aNil))
noncomputable def zk4 (r : Bool) : List (V U) × List (Blk U) := ([vO cBool r], [])
noncomputable def zxb : List (V U) → List (Blk U) → Option (FnOut U) := mkSpec z148 bNil (fun x _ => z64 none x.1 x.2.1) zk4
noncomputable def zzx (x : ((List Int) × Unit) × ((List Int) × Unit) × (Int × Unit) × (Int × Unit) × Unit) (_g : Unit) : z21 := z21.mk x.1.1 x.2.1.1 x.2.2.1.1 x.2.2.2.1.1
noncomputable def zl3 : Tms U (((List Int) × Unit) × ((List Int) × Unit) × (Int × Unit) × (Int × Unit) × Unit) := tO 0 (cPair (cSl 3) (cUnit)) (tO 1 (cPair (cSl 3) (cUnit)) (tO 12 (cPair (cInt .i64) (cUnit)) (tO 13 (cPair (cInt .i64) (cUnit)) (tNil))))
noncomputable def z11h : Bls U (Unit) := bNil
noncomputable def zhd (s : z21) : St U := { tm := [(0, .v (vO (cPair (cSl 3) (cUnit)) (s.t0, ()))), (1, .v (vO (cPair (cSl 3) (cUnit)) (s.t1, ()))), (12, .v (vO (cPair (cInt .i64) (cUnit)) (s.t12, ()))), (13, .v (vO (cPair (cInt .i64) (cUnit)) (s.t13, ())))], hp := [] }
noncomputable def zkk : (Bool ⊕ Unit) → Ex × St U
  | .inl r => (.ret, { tm := [(4, .v (vO (cPair cBool (cUnit)) (r, ())))], hp := [] })
  | .inr r => (.exit 0, { tm := [], hp := [] })
noncomputable def z13s (y : (Bool ⊕ Unit)) : Tree (Ex × St U) := .ite y.isLeft (.opt Bool y.getLeft? fun r => .leaf (.ret, { tm := [(4, .v (vO (cPair cBool (cUnit)) (r, ())))], hp := [] })) (.opt Unit y.getRight? fun r => .leaf (.exit 0, { tm := [], hp := [] }))
noncomputable def z130 : Hd := { keep := [0, 1, 12, 13], xkeep := [4], own := false }
noncomputable def zc0 : Env U := { P := Tryz.prog, cd := cd, fns := fns12, lps := (addL 0 z130 (mkLoop zl3 z11h zzx (zbi none) z13s) noL), frz := fun _r => false, nt := 26, n0 := 0 }
noncomputable def zms : Code := (loopAt (Tryz.f81.body.getD .skip) 0 0).getD .skip
theorem z180 (s : z21) : round zc0 z130 zms 0 (zhd s) = (z3f s).map (sumE zhd zkk) := by kernel_rfl
theorem z1b6 : LpOk zc0 zms 0 := mkLoop_ok (A := zl3) (B := z11h) (f := zzx) (L := zbi none) (tO_ok (cPair_ok (cSl_ok 3) cUnit_ok) (tO_ok (cPair_ok (cSl_ok 3) cUnit_ok) (tO_ok (cPair_ok (cInt_ok .i64) cUnit_ok) (tO_ok (cPair_ok (cInt_ok .i64) cUnit_ok) tNil_ok)))) bNil_ok (enc := zhd) (out := z13s) (outS := zkk) (step := z3f) (fun _ => rfl) (fun _ _ => by kernel_rfl) (by kernel_rfl) (fun b => by cases b <;> rfl) z180
theorem z18z (x : (List Int) × (List Int) × Unit) (g : Unit) : execF zc0 Tryz.f81 (z148.enc x) (bNil.enc g) = (z9j none x.1 x.2.1).map zk4 := by kernel_rfl
theorem z17x : FnOk Tryz.prog cd 81 zxb := mk_ok (E := zc0) cd_ok z12p Tryz.func81 (by kernel_rfl) (loops_of (addL_ok z1b6 noL_ok)) (aO_ok (cSl_ok 3) (aO_ok (cSl_ok 3) (aNil_ok))) bNil_ok (T := fun x _ => z9j none x.1 x.2.1) (fun _ _ => rfl) z18z
noncomputable def fns81 := addF 81 true zxb fns12
theorem zsn : ∀ f q t, fns81 f = some (q, t) → FnOk Tryz.prog cd f t := addF_ok z17x z12p
/-- slices.Equal[[]emulator/api.Line,emulator/api.Line] -/
structure z2e where
  t0 : (List Line)
  t1 : (List Line)
  t12 : Int
  t13 : Int
noncomputable def z3w (s : z2e) : Tree (z2e ⊕ (Bool ⊕ Unit)) :=
  .ite (decide (s.t13 < s.t12))
    (.ite (decide (0 ≤ s.t13))
      (.opt Line (s.t0[(s.t13).toNat]?) fun y380 =>
        .ite (decide (0 ≤ s.t13))
          (.opt Line (s.t1[(s.t13).toNat]?) fun y381 =>
            .ite (!((y380.rxEnable == y381.rxEnable) && ((y380.rxReady == y381.rxReady) && ((y380.overrun == y381.overrun) && ((decide (y380.rxData = y381.rxData)) && ((y380.txEnable == y381.txEnable) && ((y380.txReady == y381.txReady) && ((decide (y380.txData = y381.txData)) && ((decide (y380.txLeft = y381.txLeft)) && (decide (y380.out = y381.out)))))))))))
              (.leaf (.inr (.inl false)))
              (.leaf (.inl (z2e.mk s.t0 s.t1 s.t12 (IntKind.wrap .i64 (s.t13 + (1 : Int)))))))
          .fail)
      .fail)
    (.leaf (.inr (.inr ())))
noncomputable def zd7 (q : Option Nat) (s : z2e) : Option (Bool ⊕ Unit) := limQ q (fun s => (z3w s).run) s
noncomputable def zcc (q : Option Nat) (x0 : (List Line)) (x1 : (List Line)) : Tree Bool :=
  .ite (!decide ((x0.length : Int) = (x1.length : Int)))
    (.leaf (false))
    (.opt (Bool ⊕ Unit) (zd7 q (z2e.mk x0 x1 (x0.length : Int) (0 : Int))) fun l382 =>
      .ite (l382.isLeft)
        (.opt Bool (l382.getLeft?) fun a383 =>
          .leaf (a383))
        (.opt Unit (l382.getRight?) fun b384 =>
          .leaf (true)))
noncomputable def zb6 (q : Option Nat) (x0 : (List Line)) (x1 : (List Line)) : Option Bool := (zcc q x0 x1).run
noncomputable def zn6 : Arg U ((List Line) × (List Line) × Unit) := aO (cSl 66) (aO (cSl 66) (aNil))
noncomputable def zom (r : Bool) : List (V U) × List (Blk U) := ([vO cBool r], [])
noncomputable def z143 : List (V U) → List (Blk U) → Option (FnOut U) := mkSpec zn6 bNil (fun x _ => zb6 none x.1 x.2.1) zom
noncomputable def zqd (x : ((List Line) × Unit) × ((List Line) × Unit) × (Int × Unit) × (Int × Unit) × Unit) (_g : Unit) : z2e := z2e.mk x.1.1 x.2.1.1 x.2.2.1.1 x.2.2.2.1.1
noncomputable def zpm : Tms U (((List Line) × Unit) × ((List Line) × Unit) × (Int × Unit) × (Int × Unit) × Unit) := tO 0 (cPair (cSl 66) (cUnit)) (tO 1 (cPair (cSl 66) (cUnit)) (tO 12 (cPair (cInt .i64) (cUnit)) (tO 13 (cPair (cInt .i64) (cUnit)) (tNil))))
noncomputable def zzi : Bls U (Unit) := bNil
noncomputable def zeh (s : z2e) : St U := { tm := [(0, .v (vO (cPair (cSl 66) (cUnit)) (s.t0, ()))), (1, .v (vO (cPair (cSl 66) (cUnit)) (s.t1, ()))), (12, .v (vO (cPair (cInt .i64) (cUnit)) (s.t12, ()))), (13, .v (vO (cPair (cInt .i64) (cUnit)) (s.t13, ())))], hp := [] }
noncomputable def zv5 : (Bool ⊕ Unit) → Ex × St U
  | .inl r => (.ret, { tm := [(4, .v (vO (cPair cBool (cUnit)) (r, ())))], hp := [] })
  | .inr r => (.exit 0, { tm := [], hp := [] })
noncomputable def zk5 (y : (Bool ⊕ Unit)) : Tree (Ex × St U) := .ite y.isLeft (.opt Bool y.getLeft? fun r => .leaf (.ret, { tm := [(4, .v (vO (cPair cBool (cUnit)) (r, ())))], hp := [] })) (.opt Unit y.getRight? fun r => .leaf (.exit 0, { tm := [], hp := [] }))
noncomputable def zqi : Hd := { keep := [0, 1, 12, 13], xkeep := [4], own := false }
noncomputable def zcf : Env U := { P := Tryz.prog, cd := cd, fns := fns81, lps := (addL 0 zqi (mkLoop zpm zzi zqd (zd7 none) zk5) noL), frz := fun _r => false, nt := 26, n0 := 0 }
noncomputable def zvg : Code := (loopAt (Tryz.f82.body.getD .skip) 0 0).getD .skip
theorem z1cw (s : z2e) : round zcf zqi zvg 0 (zeh s) = (z3w s).map (sumE zeh zv5) := by kernel_rfl
theorem z1es : LpOk zcf zvg 0 := mkLoop_ok (A := zpm) (B := zzi) (f := zqd) (L := zd7 none) (tO_ok (cPair_ok (cSl_ok 66) cUnit_ok) (tO_ok (cPair_ok (cSl_ok 66) cUnit_ok) (tO_ok (cPair_ok (cInt_ok .i64) cUnit_ok) (tO_ok (cPair_ok (cInt_ok .i64) cUnit_ok) tNil_ok)))) bNil_ok (enc := zeh) (out := zk5) (outS := zv5) (step := z3w) (fun _ => rfl) (fun _ _ => by kernel_rfl) (by kernel_rfl) (fun b => by cases b <;> rfl) z1cw
theorem z15c (x : (List Line) × (List Line) × Unit) (g : Unit) : execF zcf Tryz.f82 (zn6.enc x) (bNil.enc g) = (zcc none x.1 x.2.1).map zom := by kernel_rfl
theorem z1dg : FnOk Tryz.prog cd 82 z143 := mk_ok (E := zcf) cd_ok zsn Tryz.func82 (by kernel_rfl) (loops_of (addL_ok z1es noL_ok)) (aO_ok (cSl_ok 66) (aO_ok (cSl_ok 66) (aNil_ok))) bNil_ok (T := fun x _ => zcc none x.1 x.2.1) (fun _ _ => rfl) z15c
noncomputable def fns82 := addF 82 true z143 fns81
theorem zro : ∀ f q t, fns82 f = some (q, t) → FnOk Tryz.prog cd f t := addF_ok z1dg zsn
/-- slices.Equal[[]string,string] -/
structure z2d where
  t0 : (List (List UInt8))
  t1 : (List (List UInt8))
  t12 : Int
  t13 : Int
noncomputable def z47 (s : z2d) : Tree (z2d ⊕ (Bool ⊕ Unit)) :=
  .ite (decide (s.t13 < s.t12))
    (.ite (decide (0 ≤ s.t13))
      (.opt (List UInt8) (s.t0[(s.t13).toNat]?) fun y385 =>
        .ite (decide (0 ≤ s.t13))
          (.opt (List UInt8) (s.t1[(s.t13).toNat]?) fun y386 =>
            .ite (!decide (y385 = y386))
              (.leaf (.inr (.inl false)))
              (.leaf (.inl (z2d.mk s.t0 s.t1 s.t12 (IntKind.wrap .i64 (s.t13 + (1 : Int)))))))
          .fail)
      .fail)
    (.leaf (.inr (.inr ())))
noncomputable def zam (q : Option Nat) (s : z2d) : Option (Bool ⊕ Unit) := limQ q (fun s => (z47 s).run) s
noncomputable def zbd (q : Option Nat) (x0 : (List (List UInt8))) (x1 : (List (List UInt8))) : Tree Bool :=
  .ite (!decide ((x0.length : Int) = (x1.length : Int)))
    (.leaf (false))
    (.opt (Bool ⊕ Unit) (zam q (z2d.mk x0 x1 (x0.length : Int) (0 : Int))) fun l387 =>
      .ite (l387.isLeft)
        (.opt Bool (l387.getLeft?) fun a388 =>
          .leaf (a388))
        (.opt Unit (l387.getRight?) fun b389 =>
          .leaf (true)))
noncomputable def z7w (q : Option Nat) (x0 : (List (List UInt8))) (x1 : (List (List UInt8))) : Option Bool := (zbd q x0 x1).run
noncomputable def zwf : Arg U ((List (List UInt8)) × (List (List UInt8)) × Unit) := aO (cSl 9) (aO (cSl 9) (aNil))
noncomputable def z14v (r : Bool) : List (V U) × List (Blk U) := ([vO cBool r], [])
noncomputable def z121 : List (V U) → List (Blk U) → Option (FnOut U) := mkSpec zwf bNil (fun x _ => z7w none x.1 x.2.1) z14v
noncomputable def zov (x : ((List (List UInt8)) × Unit) × ((List (List UInt8)) × Unit) × (Int × Unit) × (Int × Unit) × Unit) (_g : Unit) : z2d := z2d.mk x.1.1 x.2.1.1 x.2.2.1.1 x.2.2.2.1.1
noncomputable def zx3 : Tms U (((List (List UInt8)) × Unit) × ((List (List UInt8)) × Unit) × (Int × Unit) × (Int × Unit) × Unit) := tO 0 (cPair (cSl 9) (cUnit)) (tO 1 (cPair (cSl 9) (cUnit)) (tO 12 (cPair (cInt .i64) (cUnit)) (tO 13 (cPair (cInt .i64) (cUnit)) (tNil))))
noncomputable def zpz : Bls U (Unit) := bNil
noncomputable def zhw (s : z2d) : St U := { tm := [(0, .v (vO (cPair (cSl 9) (cUnit)) (s.t0, ()))), (1, .v (vO (cPair (cSl 9) (cUnit)) (s.t1, ()))), (12, .v (vO (cPair (cInt .i64) (cUnit)) (s.t12, ()))), (13, .v (vO (cPair (cInt .i64) (cUnit)) (s.t13, ())))], hp := [] }
noncomputable def zuk : (Bool ⊕ Unit) → Ex × St U
  | .inl r => (.ret, { tm := [(4, .v (vO (cPair cBool (cUnit)) (r, ())))], hp := [] })
  | .inr r => (.exit 0, { tm := [], hp := [] })
noncomputable def zwo (y : (Bool ⊕ Unit)) : Tree (Ex × St U) := .ite y.isLeft (.opt Bool y.getLeft? fun r => .leaf (.ret, { tm := [(4, .v (vO (cPair cBool (cUnit)) (r, ())))], hp := [] })) (.opt Unit y.getRight? fun r => .leaf (.exit 0, { tm := [], hp := [] }))
noncomputable def zpd : Hd := { keep := [0, 1, 12, 13], xkeep := [4], own := false }
noncomputable def zc8 : Env U := { P := Tryz.prog, cd := cd, fns := fns82, lps := (addL 0 zpd (mkLoop zx3 zpz zov (zam none) zwo) noL), frz := fun _r => false, nt := 26, n0 := 0 }
noncomputable def zkb : Code := (loopAt (Tryz.f128.body.getD .skip) 0 0).getD .skip
theorem z1ev (s : z2d) : round zc8 zpd zkb 0 (zhw s) = (z47 s).map (sumE zhw zuk) := by kernel_rfl
theorem z18c : LpOk zc8 zkb 0 := mkLoop_ok (A := zx3) (B := zpz) (f := zov) (L := zam none) (tO_ok (cPair_ok (cSl_ok 9) cUnit_ok) (tO_ok (cPair_ok (cSl_ok 9) cUnit_ok) (tO_ok (cPair_ok (cInt_ok .i64) cUnit_ok) (tO_ok (cPair_ok (cInt_ok .i64) cUnit_ok) tNil_ok)))) bNil_ok (enc := zhw) (out := zwo) (outS := zuk) (step := z47) (fun _ => rfl) (fun _ _ => by kernel_rfl) (by kernel_rfl) (fun b => by cases b <;> rfl) z1ev
theorem z18i (x : (List (List UInt8)) × (List (List UInt8)) × Unit) (g : Unit) : execF zc8 Tryz.f128 (zwf.enc x) (bNil.enc g) = (zbd none x.1 x.2.1).map z14v := by kernel_rfl
theorem z17f : FnOk Tryz.prog cd 128 z121 := mk_ok (E := zc8) cd_ok zro Tryz.func128 (by kernel_rfl) (loops_of (addL_ok z18c noL_ok)) (aO_ok (cSl_ok 9) (aO_ok (cSl_ok 9) (aNil_ok))) bNil_ok (T := fun x _ => zbd none x.1 x.2.1) (fun _ _ => rfl) z18i
noncomputable def fns128 := addF 128 true z121 fns82
theorem zpk : ∀ f q t, fns128 f = some (q, t) → FnOk Tryz.prog cd f t := addF_ok z17f zro
/-- emulator/save.sameDisk -/
noncomputable def ze6 (q : Option Nat) (x0 : Disk) (x1 : Disk) : Tree Bool :=
  .opt Bool (z7w q x0.drive.sectors x1.drive.sectors) fun r390 =>
    .ite (r390)
      (.opt Bool (z64 q x0.drive.bad x1.drive.bad) fun r391 =>
        .ite (r391)
          (.ite ((x0.enable == x1.enable))
            (.ite ((x0.ready == x1.ready))
              (.ite ((x0.error == x1.error))
                (.ite (decide (x0.command = x1.command))
                  (.ite (decide (x0.words = x1.words))
                    (.ite (decide (x0.addr = x1.addr))
                      (.ite (decide (x0.start = x1.start))
                        (.leaf (decide (x0.left = x1.left)))
                        (.leaf (false)))
                      (.leaf (false)))
                    (.leaf (false)))
                  (.leaf (false)))
                (.leaf (false)))
              (.leaf (false)))
            (.leaf (false)))
          (.leaf (false)))
      (.leaf (false))
noncomputable def zcq (q : Option Nat) (x0 : Disk) (x1 : Disk) : Option Bool := (ze6 q x0 x1).run
noncomputable def z11u : Arg U (Disk × Disk × Unit) := aA cDisk (aA cDisk (aNil))
noncomputable def zu0 (r : Bool) : List (V U) × List (Blk U) := ([vO cBool r], [])
noncomputable def zrh : List (V U) → List (Blk U) → Option (FnOut U) := mkSpec z11u bNil (fun x _ => zcq none x.1 x.2.1) zu0
noncomputable def zvd : Env U := { P := Tryz.prog, cd := cd, fns := fns128, lps := noL, frz := fun _r => false, nt := 79, n0 := 0, fps := fun _r _i => bif Nat.beq _r 1 && Nat.beq _i 2 then .rd [] else bif Nat.beq _r 1 && Nat.beq _i 3 then .rd [1] else bif Nat.beq _r 1 && Nat.beq _i 6 then .wr [2] 4 else .none }
theorem z18a (x : Disk × Disk × Unit) (g : Unit) : execF zvd Tryz.f83 (z11u.enc x) (bNil.enc g) = (ze6 none x.1 x.2.1).map zu0 := by kernel_rfl
theorem z15z : FnOk Tryz.prog cd 83 zrh := mk_ok (E := zvd) cd_ok zpk Tryz.func83 (by kernel_rfl) (noLoops_body (by kernel_rfl)) (aA_ok z4c (aA_ok z4c (aNil_ok))) bNil_ok (T := fun x _ => ze6 none x.1 x.2.1) (fun _ _ => rfl) z18a
noncomputable def fns83 := addF 83 true zrh fns128
theorem zkm : ∀ f q t, fns83 f = some (q, t) → FnOk Tryz.prog cd f t := addF_ok z15z zpk
/-- emulator/save.sameTape -/
noncomputable def z9h (q : Option Nat) (x0 : Tape) (x1 : Tape) : Tree Bool :=
  .opt Bool (z7w q x0.records x1.records) fun r392 =>
    .ite (r392)
      (.ite (decide (x0.pos = x1.pos))
        (.ite ((x0.enable == x1.enable))
          (.ite ((x0.ready == x1.ready))
            (.ite ((x0.error == x1.error))
              (.ite ((x0.mark == x1.mark))
                (.ite ((x0.end_ == x1.end_))
                  (.ite (decide (x0.command = x1.command))
                    (.ite (decide (x0.count = x1.count))
                      (.ite (decide (x0.addr = x1.addr))
                        (.leaf (decide (x0.left = x1.left)))
                        (.leaf (false)))
                      (.leaf (false)))
                    (.leaf (false)))
                  (.leaf (false)))
                (.leaf (false)))
              (.leaf (false)))
            (.leaf (false)))
          (.leaf (false)))
        (.leaf (false)))
      (.leaf (false))
noncomputable def z9d (q : Option Nat) (x0 : Tape) (x1 : Tape) : Option Bool := (z9h q x0 x1).run
noncomputable def z13z : Arg U (Tape × Tape × Unit) := aA cTape (aA cTape (aNil))
noncomputable def zp5 (r : Bool) : List (V U) × List (Blk U) := ([vO cBool r], [])
noncomputable def zz4 : List (V U) → List (Blk U) → Option (FnOut U) := mkSpec z13z bNil (fun x _ => z9d none x.1 x.2.1) zp5
noncomputable def zpq : Env U := { P := Tryz.prog, cd := cd, fns := fns83, lps := noL, frz := fun _r => false, nt := 80, n0 := 0 }
theorem z1dr (x : Tape × Tape × Unit) (g : Unit) : execF zpq Tryz.f84 (z13z.enc x) (bNil.enc g) = (z9h none x.1 x.2.1).map zp5 := by kernel_rfl
theorem z162 : FnOk Tryz.prog cd 84 zz4 := mk_ok (E := zpq) cd_ok zkm Tryz.func84 (by kernel_rfl) (noLoops_body (by kernel_rfl)) (aA_ok z2s (aA_ok z2s (aNil_ok))) bNil_ok (T := fun x _ => z9h none x.1 x.2.1) (fun _ _ => rfl) z1dr
noncomputable def fns84 := addF 84 true zz4 fns83
theorem zfr : ∀ f q t, fns84 f = some (q, t) → FnOk Tryz.prog cd f t := addF_ok z162 zkm
/-- emulator/save.Diff$1 -/
noncomputable def z6v (x0 : (List UInt8)) (x1 : Bool) (g0 : Unit) (g1 : (List (List UInt8))) : Tree (List (List UInt8)) :=
  .ite (!x1)
    (.ite (decide ((g1.length + ([x0]).length) * 16 ≤ 140737488355328))
      (.leaf (g1 ++ ([x0])))
      .fail)
    (.leaf (g1))
noncomputable def zk (x0 : (List UInt8)) (x1 : Bool) (g0 : Unit) (g1 : (List (List UInt8))) : Option (List (List UInt8)) := (z6v x0 x1 g0 g1).run
noncomputable def zae : Arg U ((List UInt8) × Bool × Unit) := aO cStr (aO cBool (aP 0 0 (aNil)))
noncomputable def zby : Bls U (Unit × (List (List UInt8)) × Unit) := bT none (cK (.row 1 0) (cUnit)) (bR 9 (bNil))
noncomputable def zfo (_x : (List UInt8) × Bool × Unit) (_g : Unit × (List (List UInt8)) × Unit) (r : (List (List UInt8))) : List (V U) × List (Blk U) := ([], [.cells ((cK (.row 1 1) (cUnit) : Cdc U (Unit)).enc (())) none, .row 9 1 r])
noncomputable def zug : List (V U) → List (Blk U) → Option (FnOut U) := mkSpecG zae zby (fun x g => zk x.1 x.2.1 g.1 g.2.1) zfo
noncomputable def zga : Env U := { P := Tryz.prog, cd := cd, fns := fns84, lps := noL, frz := fun _r => false, nt := 11, n0 := 2, bump := true }
theorem z188 (x0 : (List UInt8)) (x1 : Bool) (g0 : Unit) (g1 : (List (List UInt8))) : execX true zga Tryz.f80 (zae.enc (x0, x1, ())) (zby.enc (g0, g1, ())) = (z6v x0 x1 g0 g1).map (zfo (x0, x1, ()) (g0, g1, ())) := by kernel_rfl
theorem z1cz : ∀ (x : (List UInt8) × Bool × Unit) (g : Unit × (List (List UInt8)) × Unit), execX true zga Tryz.f80 (zae.enc x) (zby.enc g) = (z6v x.1 x.2.1 g.1 g.2.1).map (zfo x g)
  | (x0, x1, ()), (g0, g1, ()) => z188 x0 x1 g0 g1
theorem z18l : FnOk Tryz.prog cd 80 zug := mk_okG (E := zga) (A := zae) (B := zby) true cd_ok zfr Tryz.func80 (by kernel_rfl) (noLoops_body (by kernel_rfl)) (aO_ok cStr_ok (aO_ok cBool_ok (aP_ok (aNil_ok)))) (bT_ok (cK_ok cUnit_ok) (bR_ok bNil_ok)) (T := fun (x : (List UInt8) × Bool × Unit) (g : Unit × (List (List UInt8)) × Unit) => z6v x.1 x.2.1 g.1 g.2.1) (fun _ _ => rfl) z1cz
/-- emulator/save.Diff -/
noncomputable def zbv (q : Option Nat) (x0 : Machine) (x1 : Machine) : Tree (List (List UInt8)) :=
  .opt (List (List UInt8)) (zk ([67, 112, 117] : List UInt8) ((decide (x0.cpu.r = x1.cpu.r)) && ((decide (x0.cpu.sP = x1.cpu.sP)) && ((decide (x0.cpu.pC = x1.cpu.pC)) && (decide (x0.cpu.pSW = x1.cpu.pSW))))) () ([])) fun r393 =>
    .opt Bool (z64 q x0.mem x1.mem) fun r394 =>
      .opt (List (List UInt8)) (zk ([77, 101, 109] : List UInt8) r394 () r393) fun r395 =>
        .opt Bool (z64 q x0.bad x1.bad) fun r396 =>
          .opt (List (List UInt8)) (zk ([66, 97, 100] : List UInt8) r396 () r395) fun r397 =>
            .opt (List (List UInt8)) (zk ([77, 109, 117] : List UInt8) ((x0.mmu.on == x1.mmu.on) && ((decide (x0.mmu.pages = x1.mmu.pages)) && ((decide (x0.mmu.status = x1.mmu.status)) && (decide (x0.mmu.addr = x1.mmu.addr))))) () r397) fun r398 =>
              .opt (List (List UInt8)) (zk ([67, 108, 111, 99, 107] : List UInt8) ((x0.clock.enable == x1.clock.enable) && ((x0.clock.ready == x1.clock.ready) && ((decide (x0.clock.period = x1.clock.period)) && (decide (x0.clock.left = x1.clock.left))))) () r398) fun r399 =>
                .opt Bool (zb6 q x0.lines x1.lines) fun r400 =>
                  .opt (List (List UInt8)) (zk ([76, 105, 110, 101, 115] : List UInt8) r400 () r399) fun r401 =>
                    .opt Bool (zcq q x0.disk x1.disk) fun r402 =>
                      .opt (List (List UInt8)) (zk ([68, 105, 115, 107] : List UInt8) r402 () r401) fun r403 =>
                        .opt Bool (z9d q x0.tape x1.tape) fun r404 =>
                          .opt (List (List UInt8)) (zk ([84, 97, 112, 101] : List UInt8) r404 () r403) fun r405 =>
                            .opt (List (List UInt8)) (zk ([78, 111, 119] : List UInt8) (decide (x0.now = x1.now)) () r405) fun r406 =>
                              .opt (List (List UInt8)) (zk ([72, 97, 108, 116, 101, 100] : List UInt8) (x0.halted == x1.halted) () r406) fun r407 =>
                                .opt (List (List UInt8)) (zk ([87, 97, 105, 116, 105, 110, 103] : List UInt8) (x0.waiting == x1.waiting) () r407) fun r408 =>
                                  .opt (List (List UInt8)) (zk ([80, 111, 119, 101, 114] : List UInt8) (decide (x0.power = x1.power)) () r408) fun r409 =>
                                    .opt (List (List UInt8)) (zk ([80, 111, 119, 101, 114, 84, 114, 97, 112] : List UInt8) (x0.powerTrap == x1.powerTrap) () r409) fun r410 =>
                                      .leaf (r410)
noncomputable def z6m (q : Option Nat) (x0 : Machine) (x1 : Machine) : Option (List (List UInt8)) := (zbv q x0 x1).run
noncomputable def z10w : Arg U (Machine × Machine × Unit) := aA cMachine (aA cMachine (aNil))
noncomputable def zm6 (r : (List (List UInt8))) : List (V U) × List (Blk U) := ([vO (cSl 9) r], [])
noncomputable def ztx : List (V U) → List (Blk U) → Option (FnOut U) := mkSpec z10w bNil (fun x _ => z6m none x.1 x.2.1) zm6
noncomputable def z12b : Env U := { P := Tryz.prog, cd := cd, fns := (addF 80 false (zug) fns84), lps := noL, frz := fun _r => false, nt := 100, n0 := 0, ownr := fun _r => Nat.beq _r 2 }
theorem z1ee (x : Machine × Machine × Unit) (g : Unit) : execF z12b Tryz.f37 (z10w.enc x) (bNil.enc g) = (zbv none x.1 x.2.1).map zm6 := by kernel_rfl
theorem z18x : FnOk Tryz.prog cd 37 ztx := mk_ok (E := z12b) cd_ok (addF_ok z18l zfr) Tryz.func37 (by kernel_rfl) (noLoops_body (by kernel_rfl)) (aA_ok ze (aA_ok ze (aNil_ok))) bNil_ok (T := fun x _ => zbv none x.1 x.2.1) (fun _ _ => rfl) z1ee
noncomputable def fns37 := addF 37 true ztx fns84
theorem zq2 : ∀ f q t, fns37 f = some (q, t) → FnOk Tryz.prog cd f t := addF_ok z18x zfr
end Go.Proofs.YtiafliookmnjoaaGreatDoor
