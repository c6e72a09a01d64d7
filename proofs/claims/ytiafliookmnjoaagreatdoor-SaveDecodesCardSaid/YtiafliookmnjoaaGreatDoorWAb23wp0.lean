/- The types of the program, and how they are told in cells. -/
import Derived.Test.YtiafliookmnjoaaGreatDoorWAbMore
import Derived.Test.YtiafliookmnjoaaGreatDoorWAbClone
import Derived.Ground.NamesProg
import Derived.Shelf.Lay
import Derived.Shelf.SlGeneric
import Derived.Ground.SlgnProg
import Derived.Test.YtiafliookmnjoaaGreatDoorProg
import Derived.KernelRfl
set_option linter.unusedSimpArgs false
namespace Go.Proofs.YtiafliookmnjoaaGreatDoor
open Go Go.Ab
structure Cpu where
  r : (List Int)
  sP : (List Int)
  pC : Int
  pSW : Int
  deriving DecidableEq
structure Page where
  base : Int
  length : Int
  access : Int
  written : Bool
  deriving DecidableEq
structure Mmu where
  on : Bool
  pages : (List Page)
  status : Int
  addr : Int
  deriving DecidableEq
structure Line where
  rxEnable : Bool
  rxReady : Bool
  overrun : Bool
  rxData : Int
  txEnable : Bool
  txReady : Bool
  txData : Int
  txLeft : Int
  out : (List UInt8)
  deriving DecidableEq
structure Drive where
  sectors : (List (List UInt8))
  bad : (List Int)
  deriving DecidableEq
structure Disk where
  drive : Drive
  enable : Bool
  ready : Bool
  error : Bool
  command : Int
  words : Int
  addr : Int
  start : Int
  left : Int
  deriving DecidableEq
structure Tape where
  records : (List (List UInt8))
  pos : Int
  enable : Bool
  ready : Bool
  error : Bool
  mark : Bool
  end_ : Bool
  command : Int
  count : Int
  addr : Int
  left : Int
  deriving DecidableEq
structure Clock where
  enable : Bool
  ready : Bool
  period : Int
  left : Int
  deriving DecidableEq
structure Machine where
  cpu : Cpu
  mem : (List Int)
  bad : (List Int)
  mmu : Mmu
  clock : Clock
  lines : (List Line)
  disk : Disk
  tape : Tape
  now : Int
  halted : Bool
  waiting : Bool
  power : Int
  powerTrap : Bool
  deriving DecidableEq
structure Condition where
  halted : Bool
  waiting : Bool
  trap : Bool
  power : Int
  deriving DecidableEq
structure Reader where
  s : (List UInt8)
  bad : Bool
  deriving DecidableEq
structure z6 where
  s : (List UInt8)
  at_ : Int
  bad : Bool
  deriving DecidableEq
abbrev tys : List (Nat × Type) := [(3, Int), (4, Bool), (5, Int), (9, (List UInt8)), (28, Page), (66, Line)]
abbrev U : Nat → Type := findT tys
noncomputable def cCpu : Cdc U Cpu := cMap (fun x => Cpu.mk x.1 x.2.1 x.2.2.1 x.2.2.2.1) (fun x => (x.r, x.sP, x.pC, x.pSW, ())) (cPair (cArr 3 6) (cPair (cArr 3 2) (cPair (cInt .i64) (cPair (cInt .i64) (cUnit)))))
theorem zu : cCpu.Ok := cMap_ok (cPair_ok (cArr_ok 3 6) (cPair_ok (cArr_ok 3 2) (cPair_ok (cInt_ok .i64) (cPair_ok (cInt_ok .i64) cUnit_ok)))) fun _ => rfl
noncomputable def cPage : Cdc U Page := cMap (fun x => Page.mk x.1 x.2.1 x.2.2.1 x.2.2.2.1) (fun x => (x.base, x.length, x.access, x.written, ())) (cPair (cInt .i64) (cPair (cInt .i64) (cPair (cInt .i64) (cPair cBool (cUnit)))))
theorem z1dh : cPage.Ok := cMap_ok (cPair_ok (cInt_ok .i64) (cPair_ok (cInt_ok .i64) (cPair_ok (cInt_ok .i64) (cPair_ok cBool_ok cUnit_ok)))) fun _ => rfl
noncomputable def cMmu : Cdc U Mmu := cMap (fun x => Mmu.mk x.1 x.2.1 x.2.2.1 x.2.2.2.1) (fun x => (x.on, x.pages, x.status, x.addr, ())) (cPair cBool (cPair (cArr 28 16) (cPair (cInt .i64) (cPair (cInt .i64) (cUnit)))))
theorem zj : cMmu.Ok := cMap_ok (cPair_ok cBool_ok (cPair_ok (cArr_ok 28 16) (cPair_ok (cInt_ok .i64) (cPair_ok (cInt_ok .i64) cUnit_ok)))) fun _ => rfl
noncomputable def cLine : Cdc U Line := cMap (fun x => Line.mk x.1 x.2.1 x.2.2.1 x.2.2.2.1 x.2.2.2.2.1 x.2.2.2.2.2.1 x.2.2.2.2.2.2.1 x.2.2.2.2.2.2.2.1 x.2.2.2.2.2.2.2.2.1) (fun x => (x.rxEnable, x.rxReady, x.overrun, x.rxData, x.txEnable, x.txReady, x.txData, x.txLeft, x.out, ())) (cPair cBool (cPair cBool (cPair cBool (cPair (cInt .i64) (cPair cBool (cPair cBool (cPair (cInt .i64) (cPair (cInt .i64) (cPair cStr (cUnit))))))))))
theorem zav : cLine.Ok := cMap_ok (cPair_ok cBool_ok (cPair_ok cBool_ok (cPair_ok cBool_ok (cPair_ok (cInt_ok .i64) (cPair_ok cBool_ok (cPair_ok cBool_ok (cPair_ok (cInt_ok .i64) (cPair_ok (cInt_ok .i64) (cPair_ok cStr_ok cUnit_ok))))))))) fun _ => rfl
noncomputable def cDrive : Cdc U Drive := cMap (fun x => Drive.mk x.1 x.2.1) (fun x => (x.sectors, x.bad, ())) (cPair (cSl 9) (cPair (cSl 3) (cUnit)))
theorem z1z : cDrive.Ok := cMap_ok (cPair_ok (cSl_ok 9) (cPair_ok (cSl_ok 3) cUnit_ok)) fun _ => rfl
noncomputable def cDisk : Cdc U Disk := cMap (fun x => Disk.mk x.1 x.2.1 x.2.2.1 x.2.2.2.1 x.2.2.2.2.1 x.2.2.2.2.2.1 x.2.2.2.2.2.2.1 x.2.2.2.2.2.2.2.1 x.2.2.2.2.2.2.2.2.1) (fun x => (x.drive, x.enable, x.ready, x.error, x.command, x.words, x.addr, x.start, x.left, ())) (cPair cDrive (cPair cBool (cPair cBool (cPair cBool (cPair (cInt .i64) (cPair (cInt .i64) (cPair (cInt .i64) (cPair (cInt .i64) (cPair (cInt .i64) (cUnit))))))))))
theorem z21 : cDisk.Ok := cMap_ok (cPair_ok z1z (cPair_ok cBool_ok (cPair_ok cBool_ok (cPair_ok cBool_ok (cPair_ok (cInt_ok .i64) (cPair_ok (cInt_ok .i64) (cPair_ok (cInt_ok .i64) (cPair_ok (cInt_ok .i64) (cPair_ok (cInt_ok .i64) cUnit_ok))))))))) fun _ => rfl
noncomputable def cTape : Cdc U Tape := cMap (fun x => Tape.mk x.1 x.2.1 x.2.2.1 x.2.2.2.1 x.2.2.2.2.1 x.2.2.2.2.2.1 x.2.2.2.2.2.2.1 x.2.2.2.2.2.2.2.1 x.2.2.2.2.2.2.2.2.1 x.2.2.2.2.2.2.2.2.2.1 x.2.2.2.2.2.2.2.2.2.2.1) (fun x => (x.records, x.pos, x.enable, x.ready, x.error, x.mark, x.end_, x.command, x.count, x.addr, x.left, ())) (cPair (cSl 9) (cPair (cInt .i64) (cPair cBool (cPair cBool (cPair cBool (cPair cBool (cPair cBool (cPair (cInt .i64) (cPair (cInt .i64) (cPair (cInt .i64) (cPair (cInt .i64) (cUnit))))))))))))
theorem z15 : cTape.Ok := cMap_ok (cPair_ok (cSl_ok 9) (cPair_ok (cInt_ok .i64) (cPair_ok cBool_ok (cPair_ok cBool_ok (cPair_ok cBool_ok (cPair_ok cBool_ok (cPair_ok cBool_ok (cPair_ok (cInt_ok .i64) (cPair_ok (cInt_ok .i64) (cPair_ok (cInt_ok .i64) (cPair_ok (cInt_ok .i64) cUnit_ok))))))))))) fun _ => rfl
noncomputable def cClock : Cdc U Clock := cMap (fun x => Clock.mk x.1 x.2.1 x.2.2.1 x.2.2.2.1) (fun x => (x.enable, x.ready, x.period, x.left, ())) (cPair cBool (cPair cBool (cPair (cInt .i64) (cPair (cInt .i64) (cUnit)))))
theorem zli : cClock.Ok := cMap_ok (cPair_ok cBool_ok (cPair_ok cBool_ok (cPair_ok (cInt_ok .i64) (cPair_ok (cInt_ok .i64) cUnit_ok)))) fun _ => rfl
noncomputable def cMachine : Cdc U Machine := cMap (fun x => Machine.mk x.1 x.2.1 x.2.2.1 x.2.2.2.1 x.2.2.2.2.1 x.2.2.2.2.2.1 x.2.2.2.2.2.2.1 x.2.2.2.2.2.2.2.1 x.2.2.2.2.2.2.2.2.1 x.2.2.2.2.2.2.2.2.2.1 x.2.2.2.2.2.2.2.2.2.2.1 x.2.2.2.2.2.2.2.2.2.2.2.1 x.2.2.2.2.2.2.2.2.2.2.2.2.1) (fun x => (x.cpu, x.mem, x.bad, x.mmu, x.clock, x.lines, x.disk, x.tape, x.now, x.halted, x.waiting, x.power, x.powerTrap, ())) (cPair cCpu (cPair (cSl 3) (cPair (cSl 3) (cPair cMmu (cPair cClock (cPair (cSl 66) (cPair cDisk (cPair cTape (cPair (cInt .i64) (cPair cBool (cPair cBool (cPair (cInt .i64) (cPair cBool (cUnit))))))))))))))
theorem zm : cMachine.Ok := cMap_ok (cPair_ok zu (cPair_ok (cSl_ok 3) (cPair_ok (cSl_ok 3) (cPair_ok zj (cPair_ok zli (cPair_ok (cSl_ok 66) (cPair_ok z21 (cPair_ok z15 (cPair_ok (cInt_ok .i64) (cPair_ok cBool_ok (cPair_ok cBool_ok (cPair_ok (cInt_ok .i64) (cPair_ok cBool_ok cUnit_ok))))))))))))) fun _ => rfl
noncomputable def cCondition : Cdc U Condition := cMap (fun x => Condition.mk x.1 x.2.1 x.2.2.1 x.2.2.2.1) (fun x => (x.halted, x.waiting, x.trap, x.power, ())) (cPair cBool (cPair cBool (cPair cBool (cPair (cInt .i64) (cUnit)))))
noncomputable def cReader : Cdc U Reader := cMap (fun x => Reader.mk x.1 x.2.1) (fun x => (x.s, x.bad, ())) (cPair cStr (cPair cBool (cUnit)))
theorem zi : cReader.Ok := cMap_ok (cPair_ok cStr_ok (cPair_ok cBool_ok cUnit_ok)) fun _ => rfl
noncomputable def zb : Cdc U z6 := cMap (fun x => z6.mk x.1 x.2.1 x.2.2.1) (fun x => (x.s, x.at_, x.bad, ())) (cPair cStr (cPair (cInt .i64) (cPair cBool (cUnit))))
theorem zo : zb.Ok := cMap_ok (cPair_ok cStr_ok (cPair_ok (cInt_ok .i64) (cPair_ok cBool_ok cUnit_ok))) fun _ => rfl
noncomputable def ents : Ents U tys := .cons ⟨(cInt .i64), some (0 : Int), none, some inferInstance⟩ (.cons ⟨cBool, some false, none, some inferInstance⟩ (.cons ⟨(cInt .u8), some (0 : Int), some (fun x => x, fun x => x), some inferInstance⟩ (.cons ⟨cStr, some ([] : List UInt8), none, some inferInstance⟩ (.cons ⟨cPage, some (Page.mk (0 : Int) (0 : Int) (0 : Int) false), none, some inferInstance⟩ (.cons ⟨cLine, some (Line.mk false false false (0 : Int) false false (0 : Int) (0 : Int) ([] : List UInt8)), none, some inferInstance⟩ (.nil))))))
noncomputable def glob : Nat → List Value := fun g => bif Nat.beq g 0 then [.bool true, .bool false, .bool false, .int .i64 (0 : Int)] else []
noncomputable def cd : Cd U := cdOf ents glob
theorem eqSPage (cd : Cd U) (x y : Page) : eqT Tryz.prog cd false 4 28 (cPage.enc x) (cPage.enc y) = some (decide (x = y)) := by
  have h : eqT Tryz.prog cd false 4 28 (cPage.enc x) (cPage.enc y) = some (decide (x.base = y.base) && (decide (x.length = y.length) && (decide (x.access = y.access) && (x.written == y.written)))) := by kernel_rfl
  rw [h]
  cases x; cases y; rw [Option.some.injEq, Bool.eq_iff_iff]; simp
theorem eqSLine (cd : Cd U) (x y : Line) : eqT Tryz.prog cd false 4 66 (cLine.enc x) (cLine.enc y) = some (decide (x = y)) := by
  have h : eqT Tryz.prog cd false 4 66 (cLine.enc x) (cLine.enc y) = some ((x.rxEnable == y.rxEnable) && ((x.rxReady == y.rxReady) && ((x.overrun == y.overrun) && (decide (x.rxData = y.rxData) && ((x.txEnable == y.txEnable) && ((x.txReady == y.txReady) && (decide (x.txData = y.txData) && (decide (x.txLeft = y.txLeft) && decide (x.out = y.out))))))))) := by kernel_rfl
  rw [h]
  cases x; cases y; rw [Option.some.injEq, Bool.eq_iff_iff]; simp
theorem z1ms : EntsOk Tryz.prog ents := ⟨⟨(cInt_ok .i64), (fun x => by kernel_rfl), (fun x => List.all_eq_true.1 (show (((cInt .i64) : Cdc U _).enc x).all plainC = true by kernel_rfl)), (fun f g h => by cases h), (fun d h cd x y => by cases h; exact eqT_int cd (by kernel_rfl) x y)⟩, ⟨cBool_ok, (fun x => by kernel_rfl), (fun x => List.all_eq_true.1 (show ((cBool : Cdc U _).enc x).all plainC = true by kernel_rfl)), (fun f g h => by cases h), (fun d h cd x y => by cases h; exact eqT_bool cd (by kernel_rfl) x y)⟩, ⟨(cInt_ok .u8), (fun x => by kernel_rfl), (fun x => List.all_eq_true.1 (show (((cInt .u8) : Cdc U _).enc x).all plainC = true by kernel_rfl)), (fun f g h => by simp only [Option.some.injEq, Prod.mk.injEq] at h; obtain ⟨rfl, rfl⟩ := h; exact ⟨by kernel_rfl, fun _ => rfl, fun _ => rfl⟩), (fun d h cd x y => by cases h; exact eqT_int cd (by kernel_rfl) x y)⟩, ⟨cStr_ok, (fun x => by kernel_rfl), (fun x => List.all_eq_true.1 (show ((cStr : Cdc U _).enc x).all plainC = true by kernel_rfl)), (fun f g h => by cases h), (fun d h cd x y => by cases h; exact eqT_string cd (by kernel_rfl) x y)⟩, ⟨z1dh, (fun x => by kernel_rfl), (fun x => List.all_eq_true.1 (show ((cPage : Cdc U _).enc x).all plainC = true by kernel_rfl)), (fun f g h => by cases h), (fun d h cd x y => by cases h; exact eqSPage cd x y)⟩, ⟨zav, (fun x => by kernel_rfl), (fun x => List.all_eq_true.1 (show ((cLine : Cdc U _).enc x).all plainC = true by kernel_rfl)), (fun f g h => by cases h), (fun d h cd x y => by cases h; exact eqSLine cd x y)⟩, trivial⟩
theorem cd_ok : CdOk Tryz.prog cd := cdOf_ok ents z1ms glob
structure z30 where
  t0 : Int
  t12 : Int
  t13 : Int
  b0 : (List Int)
noncomputable def z6e (s : z30) : Tree (z30 ⊕ (List Int)) :=
  .ite (decide (s.t13 < s.t12))
    (.ite (decide (0 ≤ (IntKind.wrap .i64 ((8 : Int) * s.t13))))
      (.ite (decide (0 ≤ s.t13))
        (.ite (decide (s.t13 < (s.b0.length : Int)))
          (.opt Int (s.b0[(s.t13).toNat]?) fun y1 =>
            .leaf (.inl (z30.mk s.t0 s.t12 (IntKind.wrap .i64 (s.t13 + (1 : Int))) (s.b0.set ((s.t13).toNat) (IntKind.wrap .u8 (((if (0 : Int) > s.t0 then (0 : Int) else s.t0)).fdiv (2 ^ (min ((IntKind.wrap .i64 ((8 : Int) * s.t13))).toNat 64))))))))
          .fail)
        .fail)
      .fail)
    (.leaf (.inr s.b0))
noncomputable def z62 (q : Option Nat) (s : z30) : Option (List Int) := limQ q (fun s => (z6e s).run) s
noncomputable def zb0 (q : Option Nat) (x0 : Int) (x1 : Int) : Tree (List UInt8) :=
  .ite (decide ((if (if (8 : Int) < x1 then (8 : Int) else x1) > (0 : Int) then (if (8 : Int) < x1 then (8 : Int) else x1) else (0 : Int)) = (if (if (8 : Int) < x1 then (8 : Int) else x1) > (0 : Int) then (if (8 : Int) < x1 then (8 : Int) else x1) else (0 : Int))))
    (.ite (decide (0 ≤ (if (if (8 : Int) < x1 then (8 : Int) else x1) > (0 : Int) then (if (8 : Int) < x1 then (8 : Int) else x1) else (0 : Int))))
      (.ite (decide ((1 : Int) * (if (if (8 : Int) < x1 then (8 : Int) else x1) > (0 : Int) then (if (8 : Int) < x1 then (8 : Int) else x1) else (0 : Int)) ≤ 281474976710656))
        (.opt (List Int) (z62 q (z30.mk x0 ((List.replicate ((if (if (8 : Int) < x1 then (8 : Int) else x1) > (0 : Int) then (if (8 : Int) < x1 then (8 : Int) else x1) else (0 : Int))).toNat (0 : Int)).length : Int) (0 : Int) (List.replicate ((if (if (8 : Int) < x1 then (8 : Int) else x1) > (0 : Int) then (if (8 : Int) < x1 then (8 : Int) else x1) else (0 : Int))).toNat (0 : Int)))) fun l2 =>
          .leaf (l2.map fun x => UInt8.ofNat x.toNat))
        .fail)
      .fail)
    .fail
noncomputable def zw (q : Option Nat) (x0 : Int) (x1 : Int) : Option (List UInt8) := (zb0 q x0 x1).run
noncomputable def z10n : Arg U (Int × Int × Unit) := aO (cInt .i64) (aO (cInt .i64) (aNil))
noncomputable def z1a0 (r : (List UInt8)) : List (V U) × List (Blk U) := ([vO cStr r], [])
noncomputable def z1a2 : List (V U) → List (Blk U) → Option (FnOut U) := mkSpec z10n bNil (fun x _ => zw none x.1 x.2.1) z1a0
noncomputable def z13n (x : (Int × Unit) × (Unit) × (Int × Unit) × (Int × Unit) × Unit) (g : (List Int) × Unit) : z30 := z30.mk x.1.1 x.2.2.1.1 x.2.2.2.1.1 g.1
noncomputable def zs4 : Tms U ((Int × Unit) × (Unit) × (Int × Unit) × (Int × Unit) × Unit) := tO 0 (cPair (cInt .i64) (cUnit)) (tO 5 (cK (.row 0 0) (cUnit)) (tO 12 (cPair (cInt .i64) (cUnit)) (tO 13 (cPair (cInt .i64) (cUnit)) (tNil))))
noncomputable def z17z : Bls U ((List Int) × Unit) := bRv 5 0 (bNil)
noncomputable def zix (s : z30) : St U := { tm := [(0, .v (vO (cPair (cInt .i64) (cUnit)) (s.t0, ()))), (5, .v (vO (cK (.row 0 0) (cUnit)) (()))), (12, .v (vO (cPair (cInt .i64) (cUnit)) (s.t12, ()))), (13, .v (vO (cPair (cInt .i64) (cUnit)) (s.t13, ())))], hp := [.row 5 0 s.b0] }
noncomputable def zl3 (r : (List Int)) : Ex × St U := (.exit 0, { tm := [(5, .v (vO (cK (.row 0 0) (cUnit)) (())))], hp := [.row 5 0 r] })
noncomputable def z15o (r : (List Int)) : Tree (Ex × St U) := .leaf (zl3 r)
noncomputable def zqn : Hd := { keep := [0, 5, 12, 13], xkeep := [4, 5], own := false }
noncomputable def zg4 : Env U := { P := Tryz.prog, cd := cd, fns := noF, lps := (addL 0 zqn (mkLoop zs4 z17z z13n (z62 none) z15o) noL), frz := fun _r => false, nt := 28, n0 := 0 }
noncomputable def zsm : Code := (loopAt (Tryz.f45.body.getD .skip) 0 0).getD .skip
theorem z1li (s : z30) : round zg4 zqn zsm 0 (zix s) = (z6e s).map (sumE zix zl3) := by kernel_rfl
theorem z1mp : LpOk zg4 zsm 0 := mkLoop_ok (A := zs4) (B := z17z) (f := z13n) (L := z62 none) (tO_ok (cPair_ok (cInt_ok .i64) cUnit_ok) (tO_ok (cK_ok cUnit_ok) (tO_ok (cPair_ok (cInt_ok .i64) cUnit_ok) (tO_ok (cPair_ok (cInt_ok .i64) cUnit_ok) tNil_ok)))) (bRv_ok bNil_ok) (enc := zix) (out := z15o) (outS := zl3) (step := z6e) (fun _ => rfl) (fun _ _ => by kernel_rfl) (by kernel_rfl) (fun _ => rfl) z1li
theorem z1el (x : Int × Int × Unit) (g : Unit) : execF zg4 Tryz.f45 (z10n.enc x) (bNil.enc g) = (zb0 none x.1 x.2.1).map z1a0 := by kernel_rfl
theorem z1mj : FnOk Tryz.prog cd 45 z1a2 := mk_ok (E := zg4) cd_ok noF_ok Tryz.func45 (by kernel_rfl) (loops_of (addL_ok z1mp noL_ok)) (aO_ok (cInt_ok .i64) (aO_ok (cInt_ok .i64) (aNil_ok))) bNil_ok (T := fun x _ => zb0 none x.1 x.2.1) (fun _ _ => rfl) z1el
noncomputable def fns45 := addF 45 true z1a2 noF
theorem z12z : ∀ f q t, fns45 f = some (q, t) → FnOk Tryz.prog cd f t := addF_ok z1mj noF_ok
structure z1g where
  t3 : Int
  t5 : (List UInt8)
  t8 : (List (List UInt8))
  t9 : Int
  t10 : Int
  t15 : Int
  t16 : Int
  t25 : Int
noncomputable def z5c (s : z1g) : Tree (z1g ⊕ (Int × (List UInt8) × (List (List UInt8)) × Int × Int × Int × Int)) :=
  .ite (decide (s.t25 < (8 : Int)))
    (.ite (decide (0 ≤ (1 : Int)))
      (.leaf (.inl (z1g.mk (IntKind.wrap .u32 (((BitVec.ofInt 32 ((s.t3).fdiv (2 ^ (min ((1 : Int)).toNat 32))) ^^^ BitVec.ofInt 32 (IntKind.wrap .u32 ((IntKind.wrap .u32 (((BitVec.ofInt 32 s.t3 &&& BitVec.ofInt 32 (1 : Int)).toNat : Int))) * (3988292384 : Int)))).toNat : Int))) s.t5 s.t8 s.t9 s.t10 s.t15 s.t16 (IntKind.wrap .i64 (s.t25 + (1 : Int))))))
      .fail)
    (.leaf (.inr (s.t3, s.t5, s.t8, s.t9, s.t10, s.t15, s.t16)))
noncomputable def z5o (q : Option Nat) (s : z1g) : Option (Int × (List UInt8) × (List (List UInt8)) × Int × Int × Int × Int) := limQ q (fun s => (z5c s).run) s
structure z13 where
  t3 : Int
  t5 : (List UInt8)
  t8 : (List (List UInt8))
  t9 : Int
  t10 : Int
  t15 : Int
  t16 : Int
noncomputable def z5q (q : Option Nat) (s : z13) : Tree (z13 ⊕ (Int × (List (List UInt8)) × Int × Int)) :=
  .ite (decide (s.t16 < s.t15))
    (.ite (decide (0 ≤ s.t16))
      (.opt UInt8 (s.t5[(s.t16).toNat]?) fun y4 =>
        .opt (Int × (List UInt8) × (List (List UInt8)) × Int × Int × Int × Int) (z5o q (z1g.mk (IntKind.wrap .u32 (((BitVec.ofInt 32 s.t3 ^^^ BitVec.ofInt 32 (IntKind.wrap .u32 (y4.toNat : Int))).toNat : Int))) s.t5 s.t8 s.t9 s.t10 s.t15 s.t16 (0 : Int))) fun l5 =>
          .leaf (.inl (z13.mk l5.1 l5.2.1 l5.2.2.1 l5.2.2.2.1 l5.2.2.2.2.1 l5.2.2.2.2.2.1 (IntKind.wrap .i64 (l5.2.2.2.2.2.2 + (1 : Int))))))
      .fail)
    (.leaf (.inr (s.t3, s.t8, s.t9, s.t10)))
noncomputable def z6u (q : Option Nat) (s : z13) : Option (Int × (List (List UInt8)) × Int × Int) := limQ q (fun s => (z5q q s).run) s
structure z2h where
  t3 : Int
  t8 : (List (List UInt8))
  t9 : Int
  t10 : Int
noncomputable def z4k (q : Option Nat) (s : z2h) : Tree (z2h ⊕ Int) :=
  .ite (decide (s.t10 < s.t9))
    (.ite (decide (0 ≤ s.t10))
      (.opt (List UInt8) (s.t8[(s.t10).toNat]?) fun y3 =>
        .opt (Int × (List (List UInt8)) × Int × Int) (z6u q (z13.mk s.t3 y3 s.t8 s.t9 s.t10 (y3.length : Int) (0 : Int))) fun l6 =>
          .leaf (.inl (z2h.mk l6.1 l6.2.1 l6.2.2.1 (IntKind.wrap .i64 (l6.2.2.2 + (1 : Int))))))
      .fail)
    (.leaf (.inr s.t3))
noncomputable def zcj (q : Option Nat) (s : z2h) : Option Int := limQ q (fun s => (z4k q s).run) s
noncomputable def zdf (q : Option Nat) (x0 : (List (List UInt8))) : Tree Int :=
  .opt Int (zcj q (z2h.mk (4294967295 : Int) x0 (x0.length : Int) (0 : Int))) fun l7 =>
    .leaf (IntKind.wrap .i64 (IntKind.wrap .u32 ((BitVec.ofInt 32 4294967295 ^^^ BitVec.ofInt 32 l7).toNat : Int)))
noncomputable def z8q (q : Option Nat) (x0 : (List (List UInt8))) : Option Int := (zdf q x0).run
noncomputable def zwf : Arg U ((List (List UInt8)) × Unit) := aO (cSl 9) (aNil)
noncomputable def zr1 (r : Int) : List (V U) × List (Blk U) := ([vO (cInt .i64) r], [])
noncomputable def zcy : List (V U) → List (Blk U) → Option (FnOut U) := mkSpec zwf bNil (fun x _ => z8q none x.1) zr1
noncomputable def z130 (x : (Int × Unit) × ((List (List UInt8)) × Unit) × (Int × Unit) × (Int × Unit) × Unit) (_g : Unit) : z2h := z2h.mk x.1.1 x.2.1.1 x.2.2.1.1 x.2.2.2.1.1
noncomputable def z16s : Tms U ((Int × Unit) × ((List (List UInt8)) × Unit) × (Int × Unit) × (Int × Unit) × Unit) := tO 3 (cPair (cInt .u32) (cUnit)) (tO 8 (cPair (cSl 9) (cUnit)) (tO 9 (cPair (cInt .i64) (cUnit)) (tO 10 (cPair (cInt .i64) (cUnit)) (tNil))))
noncomputable def zwj : Bls U (Unit) := bNil
noncomputable def zgj (s : z2h) : St U := { tm := [(3, .v (vO (cPair (cInt .u32) (cUnit)) (s.t3, ()))), (8, .v (vO (cPair (cSl 9) (cUnit)) (s.t8, ()))), (9, .v (vO (cPair (cInt .i64) (cUnit)) (s.t9, ()))), (10, .v (vO (cPair (cInt .i64) (cUnit)) (s.t10, ())))], hp := [] }
noncomputable def zhz (r : Int) : Ex × St U := (.exit 0, { tm := [(3, .v (vO (cPair (cInt .u32) (cUnit)) (r, ())))], hp := [] })
noncomputable def zwl (r : Int) : Tree (Ex × St U) := .leaf (zhz r)
noncomputable def zvs : Hd := { keep := [3, 8, 9, 10], xkeep := [2, 3], own := false }
noncomputable def zxr (x : (Int × Unit) × ((List UInt8) × Unit) × ((List (List UInt8)) × Unit) × (Int × Unit) × (Int × Unit) × (Int × Unit) × (Int × Unit) × Unit) (_g : Unit) : z13 := z13.mk x.1.1 x.2.1.1 x.2.2.1.1 x.2.2.2.1.1 x.2.2.2.2.1.1 x.2.2.2.2.2.1.1 x.2.2.2.2.2.2.1.1
noncomputable def z19j : Tms U ((Int × Unit) × ((List UInt8) × Unit) × ((List (List UInt8)) × Unit) × (Int × Unit) × (Int × Unit) × (Int × Unit) × (Int × Unit) × Unit) := tO 3 (cPair (cInt .u32) (cUnit)) (tO 5 (cPair cStr (cUnit)) (tO 8 (cPair (cSl 9) (cUnit)) (tO 9 (cPair (cInt .i64) (cUnit)) (tO 10 (cPair (cInt .i64) (cUnit)) (tO 15 (cPair (cInt .i64) (cUnit)) (tO 16 (cPair (cInt .i64) (cUnit)) (tNil)))))))
noncomputable def zve : Bls U (Unit) := bNil
noncomputable def zk1 (s : z13) : St U := { tm := [(3, .v (vO (cPair (cInt .u32) (cUnit)) (s.t3, ()))), (5, .v (vO (cPair cStr (cUnit)) (s.t5, ()))), (8, .v (vO (cPair (cSl 9) (cUnit)) (s.t8, ()))), (9, .v (vO (cPair (cInt .i64) (cUnit)) (s.t9, ()))), (10, .v (vO (cPair (cInt .i64) (cUnit)) (s.t10, ()))), (15, .v (vO (cPair (cInt .i64) (cUnit)) (s.t15, ()))), (16, .v (vO (cPair (cInt .i64) (cUnit)) (s.t16, ())))], hp := [] }
noncomputable def ziy (r : (Int × (List (List UInt8)) × Int × Int)) : Ex × St U := (.exit 2, { tm := [(3, .v (vO (cPair (cInt .u32) (cUnit)) (r.1, ()))), (8, .v (vO (cPair (cSl 9) (cUnit)) (r.2.1, ()))), (9, .v (vO (cPair (cInt .i64) (cUnit)) (r.2.2.1, ()))), (10, .v (vO (cPair (cInt .i64) (cUnit)) (r.2.2.2, ())))], hp := [] })
noncomputable def zqm (r : (Int × (List (List UInt8)) × Int × Int)) : Tree (Ex × St U) := .leaf (ziy r)
noncomputable def z10b : Hd := { keep := [3, 5, 8, 9, 10, 15, 16], xkeep := [2, 3, 8, 9, 10], own := false }
noncomputable def z116 (x : (Int × Unit) × ((List UInt8) × Unit) × ((List (List UInt8)) × Unit) × (Int × Unit) × (Int × Unit) × (Int × Unit) × (Int × Unit) × (Int × Unit) × Unit) (_g : Unit) : z1g := z1g.mk x.1.1 x.2.1.1 x.2.2.1.1 x.2.2.2.1.1 x.2.2.2.2.1.1 x.2.2.2.2.2.1.1 x.2.2.2.2.2.2.1.1 x.2.2.2.2.2.2.2.1.1
noncomputable def zxf : Tms U ((Int × Unit) × ((List UInt8) × Unit) × ((List (List UInt8)) × Unit) × (Int × Unit) × (Int × Unit) × (Int × Unit) × (Int × Unit) × (Int × Unit) × Unit) := tO 3 (cPair (cInt .u32) (cUnit)) (tO 5 (cPair cStr (cUnit)) (tO 8 (cPair (cSl 9) (cUnit)) (tO 9 (cPair (cInt .i64) (cUnit)) (tO 10 (cPair (cInt .i64) (cUnit)) (tO 15 (cPair (cInt .i64) (cUnit)) (tO 16 (cPair (cInt .i64) (cUnit)) (tO 25 (cPair (cInt .i64) (cUnit)) (tNil))))))))
noncomputable def z14t : Bls U (Unit) := bNil
noncomputable def zih (s : z1g) : St U := { tm := [(3, .v (vO (cPair (cInt .u32) (cUnit)) (s.t3, ()))), (5, .v (vO (cPair cStr (cUnit)) (s.t5, ()))), (8, .v (vO (cPair (cSl 9) (cUnit)) (s.t8, ()))), (9, .v (vO (cPair (cInt .i64) (cUnit)) (s.t9, ()))), (10, .v (vO (cPair (cInt .i64) (cUnit)) (s.t10, ()))), (15, .v (vO (cPair (cInt .i64) (cUnit)) (s.t15, ()))), (16, .v (vO (cPair (cInt .i64) (cUnit)) (s.t16, ()))), (25, .v (vO (cPair (cInt .i64) (cUnit)) (s.t25, ())))], hp := [] }
noncomputable def ziq (r : (Int × (List UInt8) × (List (List UInt8)) × Int × Int × Int × Int)) : Ex × St U := (.exit 4, { tm := [(3, .v (vO (cPair (cInt .u32) (cUnit)) (r.1, ()))), (5, .v (vO (cPair cStr (cUnit)) (r.2.1, ()))), (8, .v (vO (cPair (cSl 9) (cUnit)) (r.2.2.1, ()))), (9, .v (vO (cPair (cInt .i64) (cUnit)) (r.2.2.2.1, ()))), (10, .v (vO (cPair (cInt .i64) (cUnit)) (r.2.2.2.2.1, ()))), (15, .v (vO (cPair (cInt .i64) (cUnit)) (r.2.2.2.2.2.1, ()))), (16, .v (vO (cPair (cInt .i64) (cUnit)) (r.2.2.2.2.2.2, ())))], hp := [] })
noncomputable def zts (r : (Int × (List UInt8) × (List (List UInt8)) × Int × Int × Int × Int)) : Tree (Ex × St U) := .leaf (ziq r)
noncomputable def zsv : Hd := { keep := [3, 5, 8, 9, 10, 15, 16, 25], xkeep := [2, 3, 5, 8, 9, 10, 15, 16], own := false }
noncomputable def z3a : Env U := { P := Tryz.prog, cd := cd, fns := fns45, lps := (addL 0 zvs (mkLoop z16s zwj z130 (zcj none) zwl) (addL 1 z10b (mkLoop z19j zve zxr (z6u none) zqm) (addL 2 zsv (mkLoop zxf z14t z116 (z5o none) zts) noL))), frz := fun _r => false, nt := 41, n0 := 0 }
noncomputable def z118 : Code := (loopAt (Tryz.f46.body.getD .skip) 0 0).getD .skip
theorem z1ff (s : z2h) : round z3a zvs z118 0 (zgj s) = (z4k none s).map (sumE zgj zhz) := by kernel_rfl
theorem z1h0 : LpOk z3a z118 0 := mkLoop_ok (A := z16s) (B := zwj) (f := z130) (L := zcj none) (tO_ok (cPair_ok (cInt_ok .u32) cUnit_ok) (tO_ok (cPair_ok (cSl_ok 9) cUnit_ok) (tO_ok (cPair_ok (cInt_ok .i64) cUnit_ok) (tO_ok (cPair_ok (cInt_ok .i64) cUnit_ok) tNil_ok)))) bNil_ok (enc := zgj) (out := zwl) (outS := zhz) (step := z4k none) (fun _ => rfl) (fun _ _ => by kernel_rfl) (by kernel_rfl) (fun _ => rfl) z1ff
noncomputable def zyt : Code := (loopAt (Tryz.f46.body.getD .skip) 0 1).getD .skip
theorem z1at (s : z13) : round z3a z10b zyt 1 (zk1 s) = (z5q none s).map (sumE zk1 ziy) := by kernel_rfl
theorem z1hm : LpOk z3a zyt 1 := mkLoop_ok (A := z19j) (B := zve) (f := zxr) (L := z6u none) (tO_ok (cPair_ok (cInt_ok .u32) cUnit_ok) (tO_ok (cPair_ok cStr_ok cUnit_ok) (tO_ok (cPair_ok (cSl_ok 9) cUnit_ok) (tO_ok (cPair_ok (cInt_ok .i64) cUnit_ok) (tO_ok (cPair_ok (cInt_ok .i64) cUnit_ok) (tO_ok (cPair_ok (cInt_ok .i64) cUnit_ok) (tO_ok (cPair_ok (cInt_ok .i64) cUnit_ok) tNil_ok))))))) bNil_ok (enc := zk1) (out := zqm) (outS := ziy) (step := z5q none) (fun _ => rfl) (fun _ _ => by kernel_rfl) (by kernel_rfl) (fun _ => rfl) z1at
noncomputable def znv : Code := (loopAt (Tryz.f46.body.getD .skip) 0 2).getD .skip
theorem z1i5 (s : z1g) : round z3a zsv znv 2 (zih s) = (z5c s).map (sumE zih ziq) := by kernel_rfl
theorem z1ib : LpOk z3a znv 2 := mkLoop_ok (A := zxf) (B := z14t) (f := z116) (L := z5o none) (tO_ok (cPair_ok (cInt_ok .u32) cUnit_ok) (tO_ok (cPair_ok cStr_ok cUnit_ok) (tO_ok (cPair_ok (cSl_ok 9) cUnit_ok) (tO_ok (cPair_ok (cInt_ok .i64) cUnit_ok) (tO_ok (cPair_ok (cInt_ok .i64) cUnit_ok) (tO_ok (cPair_ok (cInt_ok .i64) cUnit_ok) (tO_ok (cPair_ok (cInt_ok .i64) cUnit_ok) (tO_ok (cPair_ok (cInt_ok .i64) cUnit_ok) tNil_ok)))))))) bNil_ok (enc := zih) (out := zts) (outS := ziq) (step := z5c) (fun _ => rfl) (fun _ _ => by kernel_rfl) (by kernel_rfl) (fun _ => rfl) z1i5
theorem z1gj (x : (List (List UInt8)) × Unit) (g : Unit) : execF z3a Tryz.f46 (zwf.enc x) (bNil.enc g) = (zdf none x.1).map zr1 := by kernel_rfl
theorem zi1 : FnOk Tryz.prog cd 46 zcy := mk_ok (E := z3a) cd_ok z12z Tryz.func46 (by kernel_rfl) (loops_of (addL_ok z1h0 (addL_ok z1hm (addL_ok z1ib noL_ok)))) (aO_ok (cSl_ok 9) (aNil_ok)) bNil_ok (T := fun x _ => zdf none x.1) (fun _ _ => rfl) z1gj
noncomputable def fns46 := addF 46 true zcy fns45
theorem znj : ∀ f q t, fns46 f = some (q, t) → FnOk Tryz.prog cd f t := addF_ok zi1 z12z
noncomputable def z9o (q : Option Nat) (x0 : (List UInt8)) : Tree ((List UInt8) × Int) :=
  .ite (decide ((IntKind.wrap .i64 ((x0.length : Int) - (4 : Int))) < (0 : Int)))
    (.leaf ((([] : List UInt8), (8 : Int))))
    (.ite (decide (0 ≤ IntKind.wrap .i64 ((x0.length : Int) - (4 : Int))))
      (.ite (decide (IntKind.wrap .i64 ((x0.length : Int) - (4 : Int)) ≤ ((x0.length : Nat) : Int)))
        (.ite (decide (0 ≤ IntKind.wrap .i64 ((x0.length : Int) - (4 : Int))))
          (.ite (decide (IntKind.wrap .i64 ((x0.length : Int) - (4 : Int)) ≤ ((x0.length : Nat) : Int)))
            (.opt Int (z8q q ([(x0.drop (0)).take ((IntKind.wrap .i64 ((x0.length : Int) - (4 : Int))).toNat - 0)])) fun r8 =>
              .opt (List UInt8) (zw q r8 (4 : Int)) fun r9 =>
                .ite (!decide (((x0.drop ((IntKind.wrap .i64 ((x0.length : Int) - (4 : Int))).toNat)).take (x0.length - (IntKind.wrap .i64 ((x0.length : Int) - (4 : Int))).toNat)) = r9))
                  (.leaf ((([] : List UInt8), (10 : Int))))
                  (.ite (decide (0 ≤ IntKind.wrap .i64 ((x0.length : Int) - (4 : Int))))
                    (.ite (decide (IntKind.wrap .i64 ((x0.length : Int) - (4 : Int)) ≤ ((x0.length : Nat) : Int)))
                      (.leaf (((x0.drop (0)).take ((IntKind.wrap .i64 ((x0.length : Int) - (4 : Int))).toNat - 0), (0 : Int))))
                      .fail)
                    .fail))
            .fail)
          .fail)
        .fail)
      .fail)
noncomputable def z54 (q : Option Nat) (x0 : (List UInt8)) : Option ((List UInt8) × Int) := (z9o q x0).run
noncomputable def zwv : Arg U ((List UInt8) × Unit) := aO cStr (aNil)
noncomputable def z12b (r : ((List UInt8) × Int)) : List (V U) × List (Blk U) := ([vO cStr r.1, vO (cInt .i64) r.2], [])
noncomputable def zm8 : List (V U) → List (Blk U) → Option (FnOut U) := mkSpec zwv bNil (fun x _ => z54 none x.1) z12b
noncomputable def z11t : Env U := { P := Tryz.prog, cd := cd, fns := (addF 46 false (frzSpec zcy) fns46), lps := noL, frz := fun _r => false, nt := 23, n0 := 0, fps := fun _r _i => bif Nat.beq _r 4 && Nat.beq _i 2 then .rd [] else bif Nat.beq _r 4 && Nat.beq _i 7 then .wr [0] 1 else .none }
theorem z1gx (x : (List UInt8) × Unit) (g : Unit) : execF z11t Tryz.f18 (zwv.enc x) (bNil.enc g) = (z9o none x.1).map z12b := by kernel_rfl
theorem z1e8 : FnOk Tryz.prog cd 18 zm8 := mk_ok (E := z11t) cd_ok (addF_ok (fnOk_frz cd_ok (mkSpec_out fun _ => rfl) zi1) znj) Tryz.func18 (by kernel_rfl) (noLoops_body (by kernel_rfl)) (aO_ok cStr_ok (aNil_ok)) bNil_ok (T := fun x _ => z9o none x.1) (fun _ _ => rfl) z1gx
noncomputable def fns18 := addF 18 true zm8 fns46
theorem z16l : ∀ f q t, fns18 f = some (q, t) → FnOk Tryz.prog cd f t := addF_ok z1e8 znj
noncomputable def zcc (x0 : (List UInt8)) (x1 : (List UInt8)) : Tree Bool :=
  .ite (decide ((x1.length : Int) ≤ (x0.length : Int)))
    (.ite (decide (0 ≤ (x1.length : Int)))
      (.ite (decide ((x1.length : Int) ≤ ((x0.length : Nat) : Int)))
        (.leaf (decide (((x0.drop (0)).take (((x1.length : Int)).toNat - 0)) = x1)))
        .fail)
      .fail)
    (.leaf (false))
noncomputable def zj0 (x0 : (List UInt8)) (x1 : (List UInt8)) : Option Bool := (zcc x0 x1).run
noncomputable def zvf : Arg U ((List UInt8) × (List UInt8) × Unit) := aO cStr (aO cStr (aNil))
noncomputable def z15m (r : Bool) : List (V U) × List (Blk U) := ([vO cBool r], [])
noncomputable def zy0 : List (V U) → List (Blk U) → Option (FnOut U) := mkSpec zvf bNil (fun x _ => zj0 x.1 x.2.1) z15m
noncomputable def z18n : Env U := { P := Tryz.prog, cd := cd, fns := fns18, lps := noL, frz := fun _r => false, nt := 18, n0 := 0 }
theorem z1lf (x : (List UInt8) × (List UInt8) × Unit) (g : Unit) : execF z18n Tryz.f47 (zvf.enc x) (bNil.enc g) = (zcc x.1 x.2.1).map z15m := by kernel_rfl
theorem z1c5 : FnOk Tryz.prog cd 47 zy0 := mk_ok (E := z18n) cd_ok z16l Tryz.func47 (by kernel_rfl) (noLoops_body (by kernel_rfl)) (aO_ok cStr_ok (aO_ok cStr_ok (aNil_ok))) bNil_ok (T := fun x _ => zcc x.1 x.2.1) (fun _ _ => rfl) z1lf
noncomputable def fns47 := addF 47 true zy0 fns18
theorem z151 : ∀ f q t, fns47 f = some (q, t) → FnOk Tryz.prog cd f t := addF_ok z1c5 z16l
noncomputable def z9x (x0 : (List UInt8)) (x1 : (List UInt8)) : Tree Bool :=
  .opt Bool (zj0 x0 x1) fun r10 =>
    .leaf (r10)
noncomputable def zfa (x0 : (List UInt8)) (x1 : (List UInt8)) : Option Bool := (z9x x0 x1).run
noncomputable def zv4 : Arg U ((List UInt8) × (List UInt8) × Unit) := aO cStr (aO cStr (aNil))
noncomputable def zn7 (r : Bool) : List (V U) × List (Blk U) := ([vO cBool r], [])
noncomputable def z157 : List (V U) → List (Blk U) → Option (FnOut U) := mkSpec zv4 bNil (fun x _ => zfa x.1 x.2.1) zn7
noncomputable def z148 : Env U := { P := Tryz.prog, cd := cd, fns := fns47, lps := noL, frz := fun _r => false, nt := 8, n0 := 0 }
theorem z1ci (x : (List UInt8) × (List UInt8) × Unit) (g : Unit) : execF z148 Tryz.f19 (zv4.enc x) (bNil.enc g) = (z9x x.1 x.2.1).map zn7 := by kernel_rfl
theorem z1mn : FnOk Tryz.prog cd 19 z157 := mk_ok (E := z148) cd_ok z151 Tryz.func19 (by kernel_rfl) (noLoops_body (by kernel_rfl)) (aO_ok cStr_ok (aO_ok cStr_ok (aNil_ok))) bNil_ok (T := fun x _ => z9x x.1 x.2.1) (fun _ _ => rfl) z1ci
noncomputable def fns19 := addF 19 true z157 fns47
theorem zv0 : ∀ f q t, fns19 f = some (q, t) → FnOk Tryz.prog cd f t := addF_ok z1mn z151
structure z33 where
  t0 : (List UInt8)
  t1 : Int
  t2 : Int
  t9 : Int
  t10 : Int
noncomputable def z57 (s : z33) : Tree (z33 ⊕ (Int × Int × Int)) :=
  .ite (decide ((0 : Int) ≤ s.t10))
    (.ite (decide (0 ≤ (8 : Int)))
      (.ite (decide (0 ≤ IntKind.wrap .i64 (s.t1 + s.t10)))
        (.opt UInt8 (s.t0[(IntKind.wrap .i64 (s.t1 + s.t10)).toNat]?) fun y11 =>
          .leaf (.inl (z33.mk s.t0 s.t1 s.t2 (IntKind.wrap .i64 (((BitVec.ofInt 64 (IntKind.wrap .i64 (s.t9 * 2 ^ (min ((8 : Int)).toNat 64))) ||| BitVec.ofInt 64 (IntKind.wrap .i64 (y11.toNat : Int))).toNat : Int))) (IntKind.wrap .i64 (s.t10 - (1 : Int))))))
        .fail)
      .fail)
    (.leaf (.inr (s.t1, s.t2, s.t9)))
noncomputable def z81 (q : Option Nat) (s : z33) : Option (Int × Int × Int) := limQ q (fun s => (z57 s).run) s
noncomputable def z84 (q : Option Nat) (x0 : (List UInt8)) (x1 : Int) (x2 : Int) : Tree (Int × Int × Int) :=
  .ite (decide (x2 < (1 : Int)))
    (.leaf (((0 : Int), (0 : Int), (1 : Int))))
    (.ite (decide ((7 : Int) < x2))
      (.leaf (((0 : Int), (0 : Int), (1 : Int))))
      (.ite (decide (x1 < (0 : Int)))
        (.leaf (((0 : Int), (0 : Int), (1 : Int))))
        (.ite (decide ((x0.length : Int) < x1))
          (.leaf (((0 : Int), (0 : Int), (1 : Int))))
          (.ite (decide ((IntKind.wrap .i64 ((x0.length : Int) - x1)) < x2))
            (.leaf (((0 : Int), (0 : Int), (8 : Int))))
            (.opt (Int × Int × Int) (z81 q (z33.mk x0 x1 x2 (0 : Int) (IntKind.wrap .i64 (x2 - (1 : Int))))) fun l12 =>
              .leaf ((l12.2.2, IntKind.wrap .i64 (l12.1 + l12.2.1), (0 : Int))))))))
noncomputable def z1d (q : Option Nat) (x0 : (List UInt8)) (x1 : Int) (x2 : Int) : Option (Int × Int × Int) := (z84 q x0 x1 x2).run
noncomputable def zum : Arg U ((List UInt8) × Int × Int × Unit) := aO cStr (aO (cInt .i64) (aO (cInt .i64) (aNil)))
noncomputable def zz7 (r : (Int × Int × Int)) : List (V U) × List (Blk U) := ([vO (cInt .i64) r.1, vO (cInt .i64) r.2.1, vO (cInt .i64) r.2.2], [])
noncomputable def z16n : List (V U) → List (Blk U) → Option (FnOut U) := mkSpec zum bNil (fun x _ => z1d none x.1 x.2.1 x.2.2.1) zz7
noncomputable def z154 (x : ((List UInt8) × Unit) × (Int × Unit) × (Int × Unit) × (Int × Unit) × (Int × Unit) × Unit) (_g : Unit) : z33 := z33.mk x.1.1 x.2.1.1 x.2.2.1.1 x.2.2.2.1.1 x.2.2.2.2.1.1
noncomputable def z10p : Tms U (((List UInt8) × Unit) × (Int × Unit) × (Int × Unit) × (Int × Unit) × (Int × Unit) × Unit) := tO 0 (cPair cStr (cUnit)) (tO 1 (cPair (cInt .i64) (cUnit)) (tO 2 (cPair (cInt .i64) (cUnit)) (tO 9 (cPair (cInt .i64) (cUnit)) (tO 10 (cPair (cInt .i64) (cUnit)) (tNil)))))
noncomputable def z1ai : Bls U (Unit) := bNil
noncomputable def ziw (s : z33) : St U := { tm := [(0, .v (vO (cPair cStr (cUnit)) (s.t0, ()))), (1, .v (vO (cPair (cInt .i64) (cUnit)) (s.t1, ()))), (2, .v (vO (cPair (cInt .i64) (cUnit)) (s.t2, ()))), (9, .v (vO (cPair (cInt .i64) (cUnit)) (s.t9, ()))), (10, .v (vO (cPair (cInt .i64) (cUnit)) (s.t10, ())))], hp := [] }
noncomputable def zjy (r : (Int × Int × Int)) : Ex × St U := (.exit 0, { tm := [(1, .v (vO (cPair (cInt .i64) (cUnit)) (r.1, ()))), (2, .v (vO (cPair (cInt .i64) (cUnit)) (r.2.1, ()))), (9, .v (vO (cPair (cInt .i64) (cUnit)) (r.2.2, ())))], hp := [] })
noncomputable def z103 (r : (Int × Int × Int)) : Tree (Ex × St U) := .leaf (zjy r)
noncomputable def z10k : Hd := { keep := [0, 1, 2, 9, 10], xkeep := [1, 2, 6, 7, 8, 9], own := false }
noncomputable def zdz : Env U := { P := Tryz.prog, cd := cd, fns := fns19, lps := (addL 0 z10k (mkLoop z10p z1ai z154 (z81 none) z103) noL), frz := fun _r => false, nt := 52, n0 := 0 }
noncomputable def z19a : Code := (loopAt (Tryz.f50.body.getD .skip) 0 0).getD .skip
theorem z1ev (s : z33) : round zdz z10k z19a 0 (ziw s) = (z57 s).map (sumE ziw zjy) := by kernel_rfl
theorem z1h7 : LpOk zdz z19a 0 := mkLoop_ok (A := z10p) (B := z1ai) (f := z154) (L := z81 none) (tO_ok (cPair_ok cStr_ok cUnit_ok) (tO_ok (cPair_ok (cInt_ok .i64) cUnit_ok) (tO_ok (cPair_ok (cInt_ok .i64) cUnit_ok) (tO_ok (cPair_ok (cInt_ok .i64) cUnit_ok) (tO_ok (cPair_ok (cInt_ok .i64) cUnit_ok) tNil_ok))))) bNil_ok (enc := ziw) (out := z103) (outS := zjy) (step := z57) (fun _ => rfl) (fun _ _ => by kernel_rfl) (by kernel_rfl) (fun _ => rfl) z1ev
theorem z1ha (x : (List UInt8) × Int × Int × Unit) (g : Unit) : execF zdz Tryz.f50 (zum.enc x) (bNil.enc g) = (z84 none x.1 x.2.1 x.2.2.1).map zz7 := by kernel_rfl
theorem z1hl : FnOk Tryz.prog cd 50 z16n := mk_ok (E := zdz) cd_ok zv0 Tryz.func50 (by kernel_rfl) (loops_of (addL_ok z1h7 noL_ok)) (aO_ok cStr_ok (aO_ok (cInt_ok .i64) (aO_ok (cInt_ok .i64) (aNil_ok)))) bNil_ok (T := fun x _ => z84 none x.1 x.2.1 x.2.2.1) (fun _ _ => rfl) z1ha
noncomputable def fns50 := addF 50 true z16n fns19
theorem z13g : ∀ f q t, fns50 f = some (q, t) → FnOk Tryz.prog cd f t := addF_ok z1hl zv0
noncomputable def zkk (x0 : Int) : Tree Bool :=
  .ite (decide ((256 : Int) ≤ x0))
    (.ite (decide (x0 ≤ (32768 : Int)))
      (.ite (decide ((64 : Int) = 0))
        .fail
        (.leaf (decide (((x0).tmod (64 : Int)) = (0 : Int)))))
      (.leaf (false)))
    (.leaf (false))
noncomputable def zea (x0 : Int) : Option Bool := (zkk x0).run
noncomputable def zls : Arg U (Int × Unit) := aO (cInt .i64) (aNil)
noncomputable def zxk (r : Bool) : List (V U) × List (Blk U) := ([vO cBool r], [])
noncomputable def z10h : List (V U) → List (Blk U) → Option (FnOut U) := mkSpec zls bNil (fun x _ => zea x.1) zxk
noncomputable def zor : Env U := { P := Tryz.prog, cd := cd, fns := fns50, lps := noL, frz := fun _r => false, nt := 14, n0 := 0 }
theorem z1ds (x : Int × Unit) (g : Unit) : execF zor Tryz.f121 (zls.enc x) (bNil.enc g) = (zkk x.1).map zxk := by kernel_rfl
theorem z1c7 : FnOk Tryz.prog cd 121 z10h := mk_ok (E := zor) cd_ok z13g Tryz.func121 (by kernel_rfl) (noLoops_body (by kernel_rfl)) (aO_ok (cInt_ok .i64) (aNil_ok)) bNil_ok (T := fun x _ => zkk x.1) (fun _ _ => rfl) z1ds
noncomputable def fns121 := addF 121 true z10h fns50
theorem zvl : ∀ f q t, fns121 f = some (q, t) → FnOk Tryz.prog cd f t := addF_ok z1c7 z13g
structure z1a where
  t0 : (List Int)
  t1 : (List Int)
  t15 : (List Int)
  t16 : Int
  t17 : Int
noncomputable def z4m (s : z1a) : Tree (z1a ⊕ (((List Int) × (List Int) × Bool) ⊕ ((List Int) × (List Int)))) :=
  .ite (decide (s.t17 < s.t16))
    (.ite (decide (0 ≤ s.t17))
      (.opt Int (s.t15[(s.t17).toNat]?) fun y14 =>
        .ite (!decide ((IntKind.wrap .i64 (((BitVec.ofInt 64 y14 &&& BitVec.ofInt 64 (65535 : Int)).toNat : Int))) = y14))
          (.leaf (.inr (.inl (s.t0, s.t1, false))))
          (.leaf (.inl (z1a.mk s.t0 s.t1 s.t15 s.t16 (IntKind.wrap .i64 (s.t17 + (1 : Int)))))))
      .fail)
    (.leaf (.inr (.inr (s.t0, s.t1))))
noncomputable def z6g (q : Option Nat) (s : z1a) : Option (((List Int) × (List Int) × Bool) ⊕ ((List Int) × (List Int))) := limQ q (fun s => (z4m s).run) s
theorem z1j3 (k : Nat) (s : z1a) : Le (z6g (some k) s) (z6g none s) := limQ_le (fun _ => Le.rfl) s
structure z1j where
  t0 : (List Int)
  t7 : Int
  t26 : (List Int)
  t27 : Int
  t28 : Int
noncomputable def z2z (s : z1j) : Tree (z1j ⊕ (Bool ⊕ Unit)) :=
  .ite (decide (s.t28 < s.t27))
    (.ite (decide (0 ≤ s.t28))
      (.opt Int (s.t26[(s.t28).toNat]?) fun y18 =>
        .ite (decide (y18 ≤ s.t7))
          (.leaf (.inr (.inl false)))
          (.ite (decide ((2 : Int) = 0))
            .fail
            (.ite (!decide (((y18).tmod (2 : Int)) = (0 : Int)))
              (.leaf (.inr (.inl false)))
              (.ite (decide ((IntKind.wrap .i64 ((2 : Int) * (s.t0.length : Int))) ≤ y18))
                (.leaf (.inr (.inl false)))
                (.leaf (.inl (z1j.mk s.t0 y18 s.t26 s.t27 (IntKind.wrap .i64 (s.t28 + (1 : Int))))))))))
      .fail)
    (.leaf (.inr (.inr ())))
noncomputable def z5v (q : Option Nat) (s : z1j) : Option (Bool ⊕ Unit) := limQ q (fun s => (z2z s).run) s
theorem z1dc (k : Nat) (s : z1j) : Le (z5v (some k) s) (z5v none s) := limQ_le (fun _ => Le.rfl) s
noncomputable def zby (q : Option Nat) (x0 : (List Int)) (x1 : (List Int)) : Tree Bool :=
  .opt Bool (zea (IntKind.wrap .i64 ((2 : Int) * (x0.length : Int)))) fun r13 =>
    .ite (!r13)
      (.leaf (false))
      (.opt (((List Int) × (List Int) × Bool) ⊕ ((List Int) × (List Int))) (z6g q (z1a.mk x0 x1 x0 (x0.length : Int) (0 : Int))) fun l15 =>
        .ite (l15.isLeft)
          (.opt ((List Int) × (List Int) × Bool) (l15.getLeft?) fun a16 =>
            .leaf (a16.2.2))
          (.opt ((List Int) × (List Int)) (l15.getRight?) fun b17 =>
            .opt (Bool ⊕ Unit) (z5v q (z1j.mk b17.1 (-1 : Int) b17.2 (b17.2.length : Int) (0 : Int))) fun l19 =>
              .ite (l19.isLeft)
                (.opt Bool (l19.getLeft?) fun a20 =>
                  .leaf (a20))
                (.opt Unit (l19.getRight?) fun b21 =>
                  .leaf (true))))
noncomputable def z5w (q : Option Nat) (x0 : (List Int)) (x1 : (List Int)) : Option Bool := (zby q x0 x1).run
theorem z1hw (k : Nat) (x0 : (List Int)) (x1 : (List Int)) : Le (z5w (some k) x0 x1) (z5w none x0 x1) := (TLe.opt Le.rfl fun _ => (TLe.ite TLe.rfl (TLe.opt (z1j3 k _) fun _ => (TLe.ite TLe.rfl (TLe.opt Le.rfl fun _ => (TLe.opt (z1dc k _) fun _ => TLe.rfl))))))
noncomputable def z13m : Arg U ((List Int) × (List Int) × Unit) := aO (cSl 3) (aO (cSl 3) (aNil))
noncomputable def z14e (r : Bool) : List (V U) × List (Blk U) := ([vO cBool r], [])
noncomputable def z14g : List (V U) → List (Blk U) → Option (FnOut U) := mkSpec z13m bNil (fun x _ => z5w none x.1 x.2.1) z14e
noncomputable def z12k (x : ((List Int) × Unit) × ((List Int) × Unit) × ((List Int) × Unit) × (Int × Unit) × (Int × Unit) × Unit) (_g : Unit) : z1a := z1a.mk x.1.1 x.2.1.1 x.2.2.1.1 x.2.2.2.1.1 x.2.2.2.2.1.1
noncomputable def z106 : Tms U (((List Int) × Unit) × ((List Int) × Unit) × ((List Int) × Unit) × (Int × Unit) × (Int × Unit) × Unit) := tO 0 (cPair (cSl 3) (cUnit)) (tO 1 (cPair (cSl 3) (cUnit)) (tO 15 (cPair (cSl 3) (cUnit)) (tO 16 (cPair (cInt .i64) (cUnit)) (tO 17 (cPair (cInt .i64) (cUnit)) (tNil)))))
noncomputable def z13i : Bls U (Unit) := bNil
noncomputable def zh3 (s : z1a) : St U := { tm := [(0, .v (vO (cPair (cSl 3) (cUnit)) (s.t0, ()))), (1, .v (vO (cPair (cSl 3) (cUnit)) (s.t1, ()))), (15, .v (vO (cPair (cSl 3) (cUnit)) (s.t15, ()))), (16, .v (vO (cPair (cInt .i64) (cUnit)) (s.t16, ()))), (17, .v (vO (cPair (cInt .i64) (cUnit)) (s.t17, ())))], hp := [] }
noncomputable def zs1 : (((List Int) × (List Int) × Bool) ⊕ ((List Int) × (List Int))) → Ex × St U
  | .inl r => (.ret, { tm := [(0, .v (vO (cPair (cSl 3) (cUnit)) (r.1, ()))), (1, .v (vO (cPair (cSl 3) (cUnit)) (r.2.1, ()))), (4, .v (vO (cPair cBool (cUnit)) (r.2.2, ())))], hp := [] })
  | .inr r => (.exit 0, { tm := [(0, .v (vO (cPair (cSl 3) (cUnit)) (r.1, ()))), (1, .v (vO (cPair (cSl 3) (cUnit)) (r.2, ())))], hp := [] })
noncomputable def zzh (y : (((List Int) × (List Int) × Bool) ⊕ ((List Int) × (List Int)))) : Tree (Ex × St U) := .ite y.isLeft (.opt ((List Int) × (List Int) × Bool) y.getLeft? fun r => .leaf (.ret, { tm := [(0, .v (vO (cPair (cSl 3) (cUnit)) (r.1, ()))), (1, .v (vO (cPair (cSl 3) (cUnit)) (r.2.1, ()))), (4, .v (vO (cPair cBool (cUnit)) (r.2.2, ())))], hp := [] })) (.opt ((List Int) × (List Int)) y.getRight? fun r => .leaf (.exit 0, { tm := [(0, .v (vO (cPair (cSl 3) (cUnit)) (r.1, ()))), (1, .v (vO (cPair (cSl 3) (cUnit)) (r.2, ())))], hp := [] }))
noncomputable def z199 : Hd := { keep := [0, 1, 15, 16, 17], xkeep := [0, 1, 4], own := false }
noncomputable def zur (x : ((List Int) × Unit) × (Int × Unit) × ((List Int) × Unit) × (Int × Unit) × (Int × Unit) × Unit) (_g : Unit) : z1j := z1j.mk x.1.1 x.2.1.1 x.2.2.1.1 x.2.2.2.1.1 x.2.2.2.2.1.1
noncomputable def zpp : Tms U (((List Int) × Unit) × (Int × Unit) × ((List Int) × Unit) × (Int × Unit) × (Int × Unit) × Unit) := tO 0 (cPair (cSl 3) (cUnit)) (tO 7 (cPair (cInt .i64) (cUnit)) (tO 26 (cPair (cSl 3) (cUnit)) (tO 27 (cPair (cInt .i64) (cUnit)) (tO 28 (cPair (cInt .i64) (cUnit)) (tNil)))))
noncomputable def zz4 : Bls U (Unit) := bNil
noncomputable def zgu (s : z1j) : St U := { tm := [(0, .v (vO (cPair (cSl 3) (cUnit)) (s.t0, ()))), (7, .v (vO (cPair (cInt .i64) (cUnit)) (s.t7, ()))), (26, .v (vO (cPair (cSl 3) (cUnit)) (s.t26, ()))), (27, .v (vO (cPair (cInt .i64) (cUnit)) (s.t27, ()))), (28, .v (vO (cPair (cInt .i64) (cUnit)) (s.t28, ())))], hp := [] }
noncomputable def zrg : (Bool ⊕ Unit) → Ex × St U
  | .inl r => (.ret, { tm := [(4, .v (vO (cPair cBool (cUnit)) (r, ())))], hp := [] })
  | .inr r => (.exit 2, { tm := [], hp := [] })
noncomputable def zs0 (y : (Bool ⊕ Unit)) : Tree (Ex × St U) := .ite y.isLeft (.opt Bool y.getLeft? fun r => .leaf (.ret, { tm := [(4, .v (vO (cPair cBool (cUnit)) (r, ())))], hp := [] })) (.opt Unit y.getRight? fun r => .leaf (.exit 2, { tm := [], hp := [] }))
noncomputable def zyl : Hd := { keep := [0, 7, 26, 27, 28], xkeep := [4], own := false }
noncomputable def z6r : Env U := { P := Tryz.prog, cd := cd, fns := fns121, lps := (addL 0 z199 (mkLoop z106 z13i z12k (z6g none) zzh) (addL 1 zyl (mkLoop zpp zz4 zur (z5v none) zs0) noL)), frz := fun _r => false, nt := 49, n0 := 0 }
noncomputable def z10j : Code := (loopAt (Tryz.f107.body.getD .skip) 0 0).getD .skip
theorem z1is (s : z1a) : round z6r z199 z10j 0 (zh3 s) = (z4m s).map (sumE zh3 zs1) := by kernel_rfl
theorem z1i7 : LpOk z6r z10j 0 := mkLoop_ok (A := z106) (B := z13i) (f := z12k) (L := z6g none) (tO_ok (cPair_ok (cSl_ok 3) cUnit_ok) (tO_ok (cPair_ok (cSl_ok 3) cUnit_ok) (tO_ok (cPair_ok (cSl_ok 3) cUnit_ok) (tO_ok (cPair_ok (cInt_ok .i64) cUnit_ok) (tO_ok (cPair_ok (cInt_ok .i64) cUnit_ok) tNil_ok))))) bNil_ok (enc := zh3) (out := zzh) (outS := zs1) (step := z4m) (fun _ => rfl) (fun _ _ => by kernel_rfl) (by kernel_rfl) (fun b => by cases b <;> rfl) z1is
noncomputable def z11h : Code := (loopAt (Tryz.f107.body.getD .skip) 0 1).getD .skip
theorem z1i6 (s : z1j) : round z6r zyl z11h 1 (zgu s) = (z2z s).map (sumE zgu zrg) := by kernel_rfl
theorem z1jc : LpOk z6r z11h 1 := mkLoop_ok (A := zpp) (B := zz4) (f := zur) (L := z5v none) (tO_ok (cPair_ok (cSl_ok 3) cUnit_ok) (tO_ok (cPair_ok (cInt_ok .i64) cUnit_ok) (tO_ok (cPair_ok (cSl_ok 3) cUnit_ok) (tO_ok (cPair_ok (cInt_ok .i64) cUnit_ok) (tO_ok (cPair_ok (cInt_ok .i64) cUnit_ok) tNil_ok))))) bNil_ok (enc := zgu) (out := zs0) (outS := zrg) (step := z2z) (fun _ => rfl) (fun _ _ => by kernel_rfl) (by kernel_rfl) (fun b => by cases b <;> rfl) z1i6
theorem z1ky (x : (List Int) × (List Int) × Unit) (g : Unit) : execF z6r Tryz.f107 (z13m.enc x) (bNil.enc g) = (zby none x.1 x.2.1).map z14e := by kernel_rfl
theorem z1d6 : FnOk Tryz.prog cd 107 z14g := mk_ok (E := z6r) cd_ok zvl Tryz.func107 (by kernel_rfl) (loops_of (addL_ok z1i7 (addL_ok z1jc noL_ok))) (aO_ok (cSl_ok 3) (aO_ok (cSl_ok 3) (aNil_ok))) bNil_ok (T := fun x _ => zby none x.1 x.2.1) (fun _ _ => rfl) z1ky
noncomputable def fns107 := addF 107 true z14g fns121
theorem zqv : ∀ f q t, fns107 f = some (q, t) → FnOk Tryz.prog cd f t := addF_ok z1d6 zvl
noncomputable def zf1 (x0 : Int) (x1 : Int) : Tree Bool :=
  .ite (decide ((0 : Int) ≤ x0))
    (.leaf (decide (x0 ≤ x1)))
    (.leaf (false))
noncomputable def z3i (x0 : Int) (x1 : Int) : Option Bool := (zf1 x0 x1).run
noncomputable def zpu : Arg U (Int × Int × Unit) := aO (cInt .i64) (aO (cInt .i64) (aNil))
noncomputable def z15t (r : Bool) : List (V U) × List (Blk U) := ([vO cBool r], [])
noncomputable def zod : List (V U) → List (Blk U) → Option (FnOut U) := mkSpec zpu bNil (fun x _ => z3i x.1 x.2.1) z15t
noncomputable def z15j : Env U := { P := Tryz.prog, cd := cd, fns := fns107, lps := noL, frz := fun _r => false, nt := 12, n0 := 0 }
theorem z1m7 (x : Int × Int × Unit) (g : Unit) : execF z15j Tryz.f136 (zpu.enc x) (bNil.enc g) = (zf1 x.1 x.2.1).map z15t := by kernel_rfl
theorem z1eo : FnOk Tryz.prog cd 136 zod := mk_ok (E := z15j) cd_ok zqv Tryz.func136 (by kernel_rfl) (noLoops_body (by kernel_rfl)) (aO_ok (cInt_ok .i64) (aO_ok (cInt_ok .i64) (aNil_ok))) bNil_ok (T := fun x _ => zf1 x.1 x.2.1) (fun _ _ => rfl) z1m7
noncomputable def fns136 := addF 136 true zod fns107
theorem zza : ∀ f q t, fns136 f = some (q, t) → FnOk Tryz.prog cd f t := addF_ok z1eo zqv
structure z17 where
  t8_0 : (List Page)
  t9 : Int
  t12_0 : (List Page)
  t13 : Int
  b0 : Mmu
noncomputable def z4c (s : z17) : Tree (z17 ⊕ ((Bool × (List Page) × Int × Mmu) ⊕ ((List Page) × Int × Mmu))) :=
  .ite (decide (s.t13 < (8 : Int)))
    (.ite (decide (0 ≤ s.t13))
      (.ite (decide (s.t13 < (8 : Int)))
        (.opt Page (s.t12_0[(s.t13).toNat]?) fun y22 =>
          .opt Bool (z3i y22.base (4095 : Int)) fun r23 =>
            .ite (!r23)
              (.leaf (.inr (.inl (false, s.t8_0, s.t9, s.b0))))
              (.opt Bool (z3i y22.length (128 : Int)) fun r24 =>
                .ite (!r24)
                  (.leaf (.inr (.inl (false, s.t8_0, s.t9, s.b0))))
                  (.opt Bool (z3i y22.access (2 : Int)) fun r25 =>
                    .ite (!r25)
                      (.leaf (.inr (.inl (false, s.t8_0, s.t9, s.b0))))
                      (.leaf (.inl (z17.mk s.t8_0 s.t9 s.t12_0 (IntKind.wrap .i64 (s.t13 + (1 : Int))) s.b0))))))
        .fail)
      .fail)
    (.leaf (.inr (.inr (s.t8_0, s.t9, s.b0))))
noncomputable def z4a (q : Option Nat) (s : z17) : Option ((Bool × (List Page) × Int × Mmu) ⊕ ((List Page) × Int × Mmu)) := limQ q (fun s => (z4c s).run) s
theorem z1f7 (k : Nat) (s : z17) : Le (z4a (some k) s) (z4a none s) := limQ_le (fun _ => Le.rfl) s
structure z1h where
  t8_0 : (List Page)
  t9 : Int
  b0 : Mmu
noncomputable def z40 (q : Option Nat) (s : z1h) : Tree (z1h ⊕ ((Bool × Mmu) ⊕ Mmu)) :=
  .ite (decide (s.t9 < (2 : Int)))
    (.ite (decide (0 ≤ s.t9))
      (.ite (decide (s.t9 < (2 : Int)))
        (.ite (decide ((s.t9).toNat * 8 + 8 ≤ s.t8_0.length))
          (.opt ((Bool × (List Page) × Int × Mmu) ⊕ ((List Page) × Int × Mmu)) (z4a q (z17.mk s.t8_0 s.t9 ((s.t8_0.drop ((s.t9).toNat * 8)).take 8) (0 : Int) s.b0)) fun l26 =>
            .ite (l26.isLeft)
              (.opt (Bool × (List Page) × Int × Mmu) (l26.getLeft?) fun a27 =>
                .leaf (.inr (.inl (a27.1, a27.2.2.2))))
              (.opt ((List Page) × Int × Mmu) (l26.getRight?) fun b28 =>
                .leaf (.inl (z1h.mk b28.1 (IntKind.wrap .i64 (b28.2.1 + (1 : Int))) b28.2.2))))
          .fail)
        .fail)
      .fail)
    (.leaf (.inr (.inr s.b0)))
noncomputable def z4z (q : Option Nat) (s : z1h) : Option ((Bool × Mmu) ⊕ Mmu) := limQ q (fun s => (z40 q s).run) s
theorem z1l9 (k : Nat) (s : z1h) : Le (z4z (some k) s) (z4z none s) := limQ_le (fun s => (TLe.ite (TLe.ite (TLe.ite (TLe.ite (TLe.opt (z1f7 k _) fun _ => TLe.rfl) TLe.rfl) TLe.rfl) TLe.rfl) TLe.rfl)) s
noncomputable def z7e (q : Option Nat) (x0 : Mmu) : Tree Bool :=
  .opt ((Bool × Mmu) ⊕ Mmu) (z4z q (z1h.mk x0.pages (0 : Int) x0)) fun l29 =>
    .ite (l29.isLeft)
      (.opt (Bool × Mmu) (l29.getLeft?) fun a30 =>
        .leaf (a30.1))
      (.opt Mmu (l29.getRight?) fun b31 =>
        .opt Bool (z3i b31.status (3 : Int)) fun r32 =>
          .ite (r32)
            (.opt Bool (z3i b31.addr (65535 : Int)) fun r33 =>
              .leaf (r33))
            (.leaf (false)))
noncomputable def z51 (q : Option Nat) (x0 : Mmu) : Option Bool := (z7e q x0).run
theorem z1ex (k : Nat) (x0 : Mmu) : Le (z51 (some k) x0) (z51 none x0) := (TLe.opt (z1l9 k _) fun _ => TLe.rfl)
noncomputable def z13r : Arg U (Mmu × Unit) := aA cMmu (aNil)
noncomputable def z19v (r : Bool) : List (V U) × List (Blk U) := ([vO cBool r], [])
noncomputable def zrd : List (V U) → List (Blk U) → Option (FnOut U) := mkSpec z13r bNil (fun x _ => z51 none x.1) z19v
noncomputable def zmv (x : (Unit) × ((List Page) × Unit) × (Int × Unit) × Unit) (g : (Mmu × Unit) × Unit) : z1h := z1h.mk x.2.1.1 x.2.2.1.1 g.1.1
noncomputable def znm : Tms U ((Unit) × ((List Page) × Unit) × (Int × Unit) × Unit) := tO 1 (cK (.ptr 0 0) (cUnit)) (tA 8 (cPair (cArr 28 16) (cUnit)) (tO 9 (cPair (cInt .i64) (cUnit)) (tNil)))
noncomputable def z10y : Bls U ((Mmu × Unit) × Unit) := bC (cPair cMmu (cUnit)) (bNil)
noncomputable def zka (s : z1h) : St U := { tm := [(1, .v (vO (cK (.ptr 0 0) (cUnit)) (()))), (8, .v (vA (cPair (cArr 28 16) (cUnit)) (s.t8_0, ()))), (9, .v (vO (cPair (cInt .i64) (cUnit)) (s.t9, ())))], hp := [.cells ((cPair cMmu (cUnit) : Cdc U (Mmu × Unit)).enc (s.b0, ())) none] }
noncomputable def zlr : ((Bool × Mmu) ⊕ Mmu) → Ex × St U
  | .inl r => (.ret, { tm := [(1, .v (vO (cK (.ptr 0 0) (cUnit)) (()))), (2, .v (vO (cPair cBool (cUnit)) (r.1, ())))], hp := [.cells ((cPair cMmu (cUnit) : Cdc U (Mmu × Unit)).enc (r.2, ())) none] })
  | .inr r => (.exit 0, { tm := [(1, .v (vO (cK (.ptr 0 0) (cUnit)) (())))], hp := [.cells ((cPair cMmu (cUnit) : Cdc U (Mmu × Unit)).enc (r, ())) none] })
noncomputable def zxn (y : ((Bool × Mmu) ⊕ Mmu)) : Tree (Ex × St U) := .ite y.isLeft (.opt (Bool × Mmu) y.getLeft? fun r => .leaf (.ret, { tm := [(1, .v (vO (cK (.ptr 0 0) (cUnit)) (()))), (2, .v (vO (cPair cBool (cUnit)) (r.1, ())))], hp := [.cells ((cPair cMmu (cUnit) : Cdc U (Mmu × Unit)).enc (r.2, ())) none] })) (.opt Mmu y.getRight? fun r => .leaf (.exit 0, { tm := [(1, .v (vO (cK (.ptr 0 0) (cUnit)) (())))], hp := [.cells ((cPair cMmu (cUnit) : Cdc U (Mmu × Unit)).enc (r, ())) none] }))
noncomputable def zn9 : Hd := { keep := [1, 8, 9], xkeep := [1, 2], own := false }
noncomputable def z16k (x : (Unit) × ((List Page) × Unit) × (Int × Unit) × ((List Page) × Unit) × (Int × Unit) × Unit) (g : (Mmu × Unit) × Unit) : z17 := z17.mk x.2.1.1 x.2.2.1.1 x.2.2.2.1.1 x.2.2.2.2.1.1 g.1.1
noncomputable def zt1 : Tms U ((Unit) × ((List Page) × Unit) × (Int × Unit) × ((List Page) × Unit) × (Int × Unit) × Unit) := tO 1 (cK (.ptr 0 0) (cUnit)) (tA 8 (cPair (cArr 28 16) (cUnit)) (tO 9 (cPair (cInt .i64) (cUnit)) (tA 12 (cPair (cArr 28 8) (cUnit)) (tO 13 (cPair (cInt .i64) (cUnit)) (tNil)))))
noncomputable def zmd : Bls U ((Mmu × Unit) × Unit) := bC (cPair cMmu (cUnit)) (bNil)
noncomputable def zjo (s : z17) : St U := { tm := [(1, .v (vO (cK (.ptr 0 0) (cUnit)) (()))), (8, .v (vA (cPair (cArr 28 16) (cUnit)) (s.t8_0, ()))), (9, .v (vO (cPair (cInt .i64) (cUnit)) (s.t9, ()))), (12, .v (vA (cPair (cArr 28 8) (cUnit)) (s.t12_0, ()))), (13, .v (vO (cPair (cInt .i64) (cUnit)) (s.t13, ())))], hp := [.cells ((cPair cMmu (cUnit) : Cdc U (Mmu × Unit)).enc (s.b0, ())) none] }
noncomputable def z161 : ((Bool × (List Page) × Int × Mmu) ⊕ ((List Page) × Int × Mmu)) → Ex × St U
  | .inl r => (.ret, { tm := [(1, .v (vO (cK (.ptr 0 0) (cUnit)) (()))), (2, .v (vO (cPair cBool (cUnit)) (r.1, ()))), (8, .v (vA (cPair (cArr 28 16) (cUnit)) (r.2.1, ()))), (9, .v (vO (cPair (cInt .i64) (cUnit)) (r.2.2.1, ())))], hp := [.cells ((cPair cMmu (cUnit) : Cdc U (Mmu × Unit)).enc (r.2.2.2, ())) none] })
  | .inr r => (.exit 2, { tm := [(1, .v (vO (cK (.ptr 0 0) (cUnit)) (()))), (8, .v (vA (cPair (cArr 28 16) (cUnit)) (r.1, ()))), (9, .v (vO (cPair (cInt .i64) (cUnit)) (r.2.1, ())))], hp := [.cells ((cPair cMmu (cUnit) : Cdc U (Mmu × Unit)).enc (r.2.2, ())) none] })
noncomputable def zvn (y : ((Bool × (List Page) × Int × Mmu) ⊕ ((List Page) × Int × Mmu))) : Tree (Ex × St U) := .ite y.isLeft (.opt (Bool × (List Page) × Int × Mmu) y.getLeft? fun r => .leaf (.ret, { tm := [(1, .v (vO (cK (.ptr 0 0) (cUnit)) (()))), (2, .v (vO (cPair cBool (cUnit)) (r.1, ()))), (8, .v (vA (cPair (cArr 28 16) (cUnit)) (r.2.1, ()))), (9, .v (vO (cPair (cInt .i64) (cUnit)) (r.2.2.1, ())))], hp := [.cells ((cPair cMmu (cUnit) : Cdc U (Mmu × Unit)).enc (r.2.2.2, ())) none] })) (.opt ((List Page) × Int × Mmu) y.getRight? fun r => .leaf (.exit 2, { tm := [(1, .v (vO (cK (.ptr 0 0) (cUnit)) (()))), (8, .v (vA (cPair (cArr 28 16) (cUnit)) (r.1, ()))), (9, .v (vO (cPair (cInt .i64) (cUnit)) (r.2.1, ())))], hp := [.cells ((cPair cMmu (cUnit) : Cdc U (Mmu × Unit)).enc (r.2.2, ())) none] }))
noncomputable def zlw : Hd := { keep := [1, 8, 9, 12, 13], xkeep := [1, 2, 8, 9], own := false }
noncomputable def z6b : Env U := { P := Tryz.prog, cd := cd, fns := fns136, lps := (addL 0 zn9 (mkLoop znm z10y zmv (z4z none) zxn) (addL 1 zlw (mkLoop zt1 zmd z16k (z4a none) zvn) noL)), frz := fun _r => false, nt := 42, n0 := 0 }
noncomputable def z10t : Code := (loopAt (Tryz.f108.body.getD .skip) 0 0).getD .skip
theorem z1bj (s : z1h) : round z6b zn9 z10t 0 (zka s) = (z40 none s).map (sumE zka zlr) := by kernel_rfl
theorem z1ik : LpOk z6b z10t 0 := mkLoop_ok (A := znm) (B := z10y) (f := zmv) (L := z4z none) (tO_ok (cK_ok cUnit_ok) (tA_ok (cPair_ok (cArr_ok 28 16) cUnit_ok) (tO_ok (cPair_ok (cInt_ok .i64) cUnit_ok) tNil_ok))) (bC_ok (cPair_ok zj cUnit_ok) bNil_ok) (enc := zka) (out := zxn) (outS := zlr) (step := z40 none) (fun _ => rfl) (fun _ _ => by kernel_rfl) (by kernel_rfl) (fun b => by cases b <;> rfl) z1bj
noncomputable def z11j : Code := (loopAt (Tryz.f108.body.getD .skip) 0 1).getD .skip
theorem z1jm (s : z17) : round z6b zlw z11j 1 (zjo s) = (z4c s).map (sumE zjo z161) := by kernel_rfl
theorem z1e3 : LpOk z6b z11j 1 := mkLoop_ok (A := zt1) (B := zmd) (f := z16k) (L := z4a none) (tO_ok (cK_ok cUnit_ok) (tA_ok (cPair_ok (cArr_ok 28 16) cUnit_ok) (tO_ok (cPair_ok (cInt_ok .i64) cUnit_ok) (tA_ok (cPair_ok (cArr_ok 28 8) cUnit_ok) (tO_ok (cPair_ok (cInt_ok .i64) cUnit_ok) tNil_ok))))) (bC_ok (cPair_ok zj cUnit_ok) bNil_ok) (enc := zjo) (out := zvn) (outS := z161) (step := z4c) (fun _ => rfl) (fun _ _ => by kernel_rfl) (by kernel_rfl) (fun b => by cases b <;> rfl) z1jm
theorem z1ee (x : Mmu × Unit) (g : Unit) : execF z6b Tryz.f108 (z13r.enc x) (bNil.enc g) = (z7e none x.1).map z19v := by kernel_rfl
theorem z1kr : FnOk Tryz.prog cd 108 zrd := mk_ok (E := z6b) cd_ok zza Tryz.func108 (by kernel_rfl) (loops_of (addL_ok z1ik (addL_ok z1e3 noL_ok))) (aA_ok zj (aNil_ok)) bNil_ok (T := fun x _ => z7e none x.1) (fun _ _ => rfl) z1ee
noncomputable def fns108 := addF 108 true zrd fns136
theorem zu3 : ∀ f q t, fns108 f = some (q, t) → FnOk Tryz.prog cd f t := addF_ok z1kr zza
noncomputable def zgg (x0 : Clock) : Tree Bool :=
  .ite (decide ((1 : Int) ≤ x0.period))
    (.ite (decide (x0.period ≤ (65535 : Int)))
      (.ite (decide ((1 : Int) ≤ x0.left))
        (.leaf (decide (x0.left ≤ x0.period)))
        (.leaf (false)))
      (.leaf (false)))
    (.leaf (false))
noncomputable def zkp (x0 : Clock) : Option Bool := (zgg x0).run
noncomputable def zmc : Arg U (Clock × Unit) := aA cClock (aNil)
noncomputable def z10g (r : Bool) : List (V U) × List (Blk U) := ([vO cBool r], [])
noncomputable def zlv : List (V U) → List (Blk U) → Option (FnOut U) := mkSpec zmc bNil (fun x _ => zkp x.1) z10g
noncomputable def z19n : Env U := { P := Tryz.prog, cd := cd, fns := fns108, lps := noL, frz := fun _r => false, nt := 23, n0 := 0 }
theorem z1e2 (x : Clock × Unit) (g : Unit) : execF z19n Tryz.f109 (zmc.enc x) (bNil.enc g) = (zgg x.1).map z10g := by kernel_rfl
theorem z1h9 : FnOk Tryz.prog cd 109 zlv := mk_ok (E := z19n) cd_ok zu3 Tryz.func109 (by kernel_rfl) (noLoops_body (by kernel_rfl)) (aA_ok zli (aNil_ok)) bNil_ok (T := fun x _ => zgg x.1) (fun _ _ => rfl) z1e2
noncomputable def fns109 := addF 109 true zlv fns108
theorem zt3 : ∀ f q t, fns109 f = some (q, t) → FnOk Tryz.prog cd f t := addF_ok z1h9 zu3
noncomputable def zau (x0 : Int) : Tree Bool :=
  .leaf (decide ((IntKind.wrap .i64 (((BitVec.ofInt 64 x0 &&& BitVec.ofInt 64 (255 : Int)).toNat : Int))) = x0))
noncomputable def z9t (x0 : Int) : Option Bool := (zau x0).run
noncomputable def zm6 : Arg U (Int × Unit) := aO (cInt .i64) (aNil)
noncomputable def zzp (r : Bool) : List (V U) × List (Blk U) := ([vO cBool r], [])
noncomputable def z1af : List (V U) → List (Blk U) → Option (FnOut U) := mkSpec zm6 bNil (fun x _ => z9t x.1) zzp
noncomputable def z15x : Env U := { P := Tryz.prog, cd := cd, fns := fns109, lps := noL, frz := fun _r => false, nt := 7, n0 := 0 }
theorem z1cv (x : Int × Unit) (g : Unit) : execF z15x Tryz.f137 (zm6.enc x) (bNil.enc g) = (zau x.1).map zzp := by kernel_rfl
theorem z1ku : FnOk Tryz.prog cd 137 z1af := mk_ok (E := z15x) cd_ok zt3 Tryz.func137 (by kernel_rfl) (noLoops_body (by kernel_rfl)) (aO_ok (cInt_ok .i64) (aNil_ok)) bNil_ok (T := fun x _ => zau x.1) (fun _ _ => rfl) z1cv
noncomputable def fns137 := addF 137 true z1af fns109
theorem zpd : ∀ f q t, fns137 f = some (q, t) → FnOk Tryz.prog cd f t := addF_ok z1ku zt3
noncomputable def ze2 (x0 : Line) : Tree Bool :=
  .opt Bool (z9t x0.rxData) fun r34 =>
    .ite (r34)
      (.opt Bool (z9t x0.txData) fun r35 =>
        .ite (r35)
          (.ite (decide ((0 : Int) ≤ x0.txLeft))
            (.ite (decide (x0.txLeft ≤ (4 : Int)))
              (.ite ((x0.txReady == (decide (x0.txLeft = (0 : Int)))))
                (.leaf (decide ((x0.out.length : Int) ≤ (4096 : Int))))
                (.leaf (false)))
              (.leaf (false)))
            (.leaf (false)))
          (.leaf (false)))
      (.leaf (false))
noncomputable def zbx (x0 : Line) : Option Bool := (ze2 x0).run
noncomputable def z12s : Arg U (Line × Unit) := aA cLine (aNil)
noncomputable def zvj (r : Bool) : List (V U) × List (Blk U) := ([vO cBool r], [])
noncomputable def ztx : List (V U) → List (Blk U) → Option (FnOut U) := mkSpec z12s bNil (fun x _ => zbx x.1) zvj
noncomputable def zu1 : Env U := { P := Tryz.prog, cd := cd, fns := fns137, lps := noL, frz := fun _r => false, nt := 35, n0 := 0 }
theorem z1l1 (x : Line × Unit) (g : Unit) : execF zu1 Tryz.f110 (z12s.enc x) (bNil.enc g) = (ze2 x.1).map zvj := by kernel_rfl
theorem z1kd : FnOk Tryz.prog cd 110 ztx := mk_ok (E := zu1) cd_ok zpd Tryz.func110 (by kernel_rfl) (noLoops_body (by kernel_rfl)) (aA_ok zav (aNil_ok)) bNil_ok (T := fun x _ => ze2 x.1) (fun _ _ => rfl) z1l1
noncomputable def fns110 := addF 110 true ztx fns137
theorem zyn : ∀ f q t, fns110 f = some (q, t) → FnOk Tryz.prog cd f t := addF_ok z1kd zpd
structure z1f where
  t19 : (List (List UInt8))
  t20 : Int
  t21 : Int
  b0 : Drive
noncomputable def z3v (s : z1f) : Tree (z1f ⊕ ((Bool × Drive) ⊕ Drive)) :=
  .ite (decide (s.t21 < s.t20))
    (.ite (decide (0 ≤ s.t21))
      (.opt (List UInt8) (s.t19[(s.t21).toNat]?) fun y36 =>
        .ite (!decide ((y36.length : Int) = (128 : Int)))
          (.leaf (.inr (.inl (false, s.b0))))
          (.leaf (.inl (z1f.mk s.t19 s.t20 (IntKind.wrap .i64 (s.t21 + (1 : Int))) s.b0))))
      .fail)
    (.leaf (.inr (.inr s.b0)))
noncomputable def z6h (q : Option Nat) (s : z1f) : Option ((Bool × Drive) ⊕ Drive) := limQ q (fun s => (z3v s).run) s
theorem z1jz (k : Nat) (s : z1f) : Le (z6h (some k) s) (z6h none s) := limQ_le (fun _ => Le.rfl) s
structure z12 where
  t5 : Int
  t30 : (List Int)
  t31 : Int
  t32 : Int
  b0 : Drive
noncomputable def z39 (s : z12) : Tree (z12 ⊕ (Bool ⊕ Unit)) :=
  .ite (decide (s.t32 < s.t31))
    (.ite (decide (0 ≤ s.t32))
      (.opt Int (s.t30[(s.t32).toNat]?) fun y40 =>
        .ite (decide (y40 ≤ s.t5))
          (.leaf (.inr (.inl false)))
          (.ite (decide ((s.b0.sectors.length : Int) ≤ y40))
            (.leaf (.inr (.inl false)))
            (.leaf (.inl (z12.mk y40 s.t30 s.t31 (IntKind.wrap .i64 (s.t32 + (1 : Int))) s.b0)))))
      .fail)
    (.leaf (.inr (.inr ())))
noncomputable def z5x (q : Option Nat) (s : z12) : Option (Bool ⊕ Unit) := limQ q (fun s => (z39 s).run) s
theorem z1hp (k : Nat) (s : z12) : Le (z5x (some k) s) (z5x none s) := limQ_le (fun _ => Le.rfl) s
noncomputable def zat (q : Option Nat) (x0 : Drive) : Tree Bool :=
  .ite (decide ((x0.sectors.length : Int) < (1 : Int)))
    (.leaf (false))
    (.ite (decide ((256 : Int) < (x0.sectors.length : Int)))
      (.leaf (false))
      (.opt ((Bool × Drive) ⊕ Drive) (z6h q (z1f.mk x0.sectors (x0.sectors.length : Int) (0 : Int) x0)) fun l37 =>
        .ite (l37.isLeft)
          (.opt (Bool × Drive) (l37.getLeft?) fun a38 =>
            .leaf (a38.1))
          (.opt Drive (l37.getRight?) fun b39 =>
            .opt (Bool ⊕ Unit) (z5x q (z12.mk (-1 : Int) b39.bad (b39.bad.length : Int) (0 : Int) b39)) fun l41 =>
              .ite (l41.isLeft)
                (.opt Bool (l41.getLeft?) fun a42 =>
                  .leaf (a42))
                (.opt Unit (l41.getRight?) fun b43 =>
                  .leaf (true)))))
noncomputable def z59 (q : Option Nat) (x0 : Drive) : Option Bool := (zat q x0).run
theorem z1e9 (k : Nat) (x0 : Drive) : Le (z59 (some k) x0) (z59 none x0) := (TLe.ite TLe.rfl (TLe.ite TLe.rfl (TLe.opt (z1jz k _) fun _ => (TLe.ite TLe.rfl (TLe.opt Le.rfl fun _ => (TLe.opt (z1hp k _) fun _ => TLe.rfl))))))
noncomputable def z10m : Arg U (Drive × Unit) := aA cDrive (aNil)
noncomputable def zyo (r : Bool) : List (V U) × List (Blk U) := ([vO cBool r], [])
noncomputable def zo5 : List (V U) → List (Blk U) → Option (FnOut U) := mkSpec z10m bNil (fun x _ => z59 none x.1) zyo
noncomputable def zxp (x : (Unit) × ((List (List UInt8)) × Unit) × (Int × Unit) × (Int × Unit) × Unit) (g : (Drive × Unit) × Unit) : z1f := z1f.mk x.2.1.1 x.2.2.1.1 x.2.2.2.1.1 g.1.1
noncomputable def zr8 : Tms U ((Unit) × ((List (List UInt8)) × Unit) × (Int × Unit) × (Int × Unit) × Unit) := tO 1 (cK (.ptr 0 0) (cUnit)) (tO 19 (cPair (cSl 9) (cUnit)) (tO 20 (cPair (cInt .i64) (cUnit)) (tO 21 (cPair (cInt .i64) (cUnit)) (tNil))))
noncomputable def zta : Bls U ((Drive × Unit) × Unit) := bC (cPair cDrive (cUnit)) (bNil)
noncomputable def zgk (s : z1f) : St U := { tm := [(1, .v (vO (cK (.ptr 0 0) (cUnit)) (()))), (19, .v (vO (cPair (cSl 9) (cUnit)) (s.t19, ()))), (20, .v (vO (cPair (cInt .i64) (cUnit)) (s.t20, ()))), (21, .v (vO (cPair (cInt .i64) (cUnit)) (s.t21, ())))], hp := [.cells ((cPair cDrive (cUnit) : Cdc U (Drive × Unit)).enc (s.b0, ())) none] }
noncomputable def z13c : ((Bool × Drive) ⊕ Drive) → Ex × St U
  | .inl r => (.ret, { tm := [(1, .v (vO (cK (.ptr 0 0) (cUnit)) (()))), (2, .v (vO (cPair cBool (cUnit)) (r.1, ())))], hp := [.cells ((cPair cDrive (cUnit) : Cdc U (Drive × Unit)).enc (r.2, ())) none] })
  | .inr r => (.exit 0, { tm := [(1, .v (vO (cK (.ptr 0 0) (cUnit)) (())))], hp := [.cells ((cPair cDrive (cUnit) : Cdc U (Drive × Unit)).enc (r, ())) none] })
noncomputable def zmw (y : ((Bool × Drive) ⊕ Drive)) : Tree (Ex × St U) := .ite y.isLeft (.opt (Bool × Drive) y.getLeft? fun r => .leaf (.ret, { tm := [(1, .v (vO (cK (.ptr 0 0) (cUnit)) (()))), (2, .v (vO (cPair cBool (cUnit)) (r.1, ())))], hp := [.cells ((cPair cDrive (cUnit) : Cdc U (Drive × Unit)).enc (r.2, ())) none] })) (.opt Drive y.getRight? fun r => .leaf (.exit 0, { tm := [(1, .v (vO (cK (.ptr 0 0) (cUnit)) (())))], hp := [.cells ((cPair cDrive (cUnit) : Cdc U (Drive × Unit)).enc (r, ())) none] }))
noncomputable def zrq : Hd := { keep := [1, 19, 20, 21], xkeep := [1, 2], own := false }
noncomputable def z1a6 (x : (Unit) × (Int × Unit) × ((List Int) × Unit) × (Int × Unit) × (Int × Unit) × Unit) (g : (Drive × Unit) × Unit) : z12 := z12.mk x.2.1.1 x.2.2.1.1 x.2.2.2.1.1 x.2.2.2.2.1.1 g.1.1
noncomputable def zzo : Tms U ((Unit) × (Int × Unit) × ((List Int) × Unit) × (Int × Unit) × (Int × Unit) × Unit) := tO 1 (cK (.ptr 0 0) (cUnit)) (tO 5 (cPair (cInt .i64) (cUnit)) (tO 30 (cPair (cSl 3) (cUnit)) (tO 31 (cPair (cInt .i64) (cUnit)) (tO 32 (cPair (cInt .i64) (cUnit)) (tNil)))))
noncomputable def z120 : Bls U ((Drive × Unit) × Unit) := bC (cPair cDrive (cUnit)) (bNil)
noncomputable def zhu (s : z12) : St U := { tm := [(1, .v (vO (cK (.ptr 0 0) (cUnit)) (()))), (5, .v (vO (cPair (cInt .i64) (cUnit)) (s.t5, ()))), (30, .v (vO (cPair (cSl 3) (cUnit)) (s.t30, ()))), (31, .v (vO (cPair (cInt .i64) (cUnit)) (s.t31, ()))), (32, .v (vO (cPair (cInt .i64) (cUnit)) (s.t32, ())))], hp := [.cells ((cPair cDrive (cUnit) : Cdc U (Drive × Unit)).enc (s.b0, ())) none] }
noncomputable def zvc : (Bool ⊕ Unit) → Ex × St U
  | .inl r => (.ret, { tm := [(2, .v (vO (cPair cBool (cUnit)) (r, ())))], hp := [] })
  | .inr r => (.exit 2, { tm := [], hp := [] })
noncomputable def zzd (y : (Bool ⊕ Unit)) : Tree (Ex × St U) := .ite y.isLeft (.opt Bool y.getLeft? fun r => .leaf (.ret, { tm := [(2, .v (vO (cPair cBool (cUnit)) (r, ())))], hp := [] })) (.opt Unit y.getRight? fun r => .leaf (.exit 2, { tm := [], hp := [] }))
noncomputable def zvb : Hd := { keep := [1, 5, 30, 31, 32], xkeep := [2], own := false }
noncomputable def z5n : Env U := { P := Tryz.prog, cd := cd, fns := fns110, lps := (addL 0 zrq (mkLoop zr8 zta zxp (z6h none) zmw) (addL 1 zvb (mkLoop zzo z120 z1a6 (z5x none) zzd) noL)), frz := fun _r => false, nt := 48, n0 := 0 }
noncomputable def z14r : Code := (loopAt (Tryz.f138.body.getD .skip) 0 0).getD .skip
theorem z1ld (s : z1f) : round z5n zrq z14r 0 (zgk s) = (z3v s).map (sumE zgk z13c) := by kernel_rfl
theorem z1je : LpOk z5n z14r 0 := mkLoop_ok (A := zr8) (B := zta) (f := zxp) (L := z6h none) (tO_ok (cK_ok cUnit_ok) (tO_ok (cPair_ok (cSl_ok 9) cUnit_ok) (tO_ok (cPair_ok (cInt_ok .i64) cUnit_ok) (tO_ok (cPair_ok (cInt_ok .i64) cUnit_ok) tNil_ok)))) (bC_ok (cPair_ok z1z cUnit_ok) bNil_ok) (enc := zgk) (out := zmw) (outS := z13c) (step := z3v) (fun _ => rfl) (fun _ _ => by kernel_rfl) (by kernel_rfl) (fun b => by cases b <;> rfl) z1ld
noncomputable def z15l : Code := (loopAt (Tryz.f138.body.getD .skip) 0 1).getD .skip
theorem z1cq (s : z12) : round z5n zvb z15l 1 (zhu s) = (z39 s).map (sumE zhu zvc) := by kernel_rfl
theorem z1fl : LpOk z5n z15l 1 := mkLoop_ok (A := zzo) (B := z120) (f := z1a6) (L := z5x none) (tO_ok (cK_ok cUnit_ok) (tO_ok (cPair_ok (cInt_ok .i64) cUnit_ok) (tO_ok (cPair_ok (cSl_ok 3) cUnit_ok) (tO_ok (cPair_ok (cInt_ok .i64) cUnit_ok) (tO_ok (cPair_ok (cInt_ok .i64) cUnit_ok) tNil_ok))))) (bC_ok (cPair_ok z1z cUnit_ok) bNil_ok) (enc := zhu) (out := zzd) (outS := zvc) (step := z39) (fun _ => rfl) (fun _ _ => by kernel_rfl) (by kernel_rfl) (fun b => by cases b <;> rfl) z1cq
theorem z1dz (x : Drive × Unit) (g : Unit) : execF z5n Tryz.f138 (z10m.enc x) (bNil.enc g) = (zat none x.1).map zyo := by kernel_rfl
theorem z1do : FnOk Tryz.prog cd 138 zo5 := mk_ok (E := z5n) cd_ok zyn Tryz.func138 (by kernel_rfl) (loops_of (addL_ok z1je (addL_ok z1fl noL_ok))) (aA_ok z1z (aNil_ok)) bNil_ok (T := fun x _ => zat none x.1) (fun _ _ => rfl) z1dz
noncomputable def fns138 := addF 138 true zo5 fns110
theorem zlo : ∀ f q t, fns138 f = some (q, t) → FnOk Tryz.prog cd f t := addF_ok z1do zyn
noncomputable def zc2 (x0 : Int) : Tree Bool :=
  .leaf (decide ((IntKind.wrap .i64 (((BitVec.ofInt 64 x0 &&& BitVec.ofInt 64 (65535 : Int)).toNat : Int))) = x0))
noncomputable def z64 (x0 : Int) : Option Bool := (zc2 x0).run
noncomputable def z14p : Arg U (Int × Unit) := aO (cInt .i64) (aNil)
noncomputable def zzi (r : Bool) : List (V U) × List (Blk U) := ([vO cBool r], [])
noncomputable def zzw : List (V U) → List (Blk U) → Option (FnOut U) := mkSpec z14p bNil (fun x _ => z64 x.1) zzi
noncomputable def zv7 : Env U := { P := Tryz.prog, cd := cd, fns := fns138, lps := noL, frz := fun _r => false, nt := 7, n0 := 0 }
theorem z1il (x : Int × Unit) (g : Unit) : execF zv7 Tryz.f139 (z14p.enc x) (bNil.enc g) = (zc2 x.1).map zzi := by kernel_rfl
theorem z1d9 : FnOk Tryz.prog cd 139 zzw := mk_ok (E := zv7) cd_ok zlo Tryz.func139 (by kernel_rfl) (noLoops_body (by kernel_rfl)) (aO_ok (cInt_ok .i64) (aNil_ok)) bNil_ok (T := fun x _ => zc2 x.1) (fun _ _ => rfl) z1il
noncomputable def fns139 := addF 139 true zzw fns138
theorem ztj : ∀ f q t, fns139 f = some (q, t) → FnOk Tryz.prog cd f t := addF_ok z1d9 zlo
noncomputable def zcp (q : Option Nat) (x0 : Disk) : Tree Bool :=
  .opt Bool (z59 q x0.drive) fun r44 =>
    .ite (!r44)
      (.leaf (false))
      (.ite (decide (x0.command < (0 : Int)))
        (.leaf (false))
        (.ite (decide ((3 : Int) < x0.command))
          (.leaf (false))
          (.opt Bool (z64 x0.words) fun r45 =>
            .ite (!r45)
              (.leaf (false))
              (.opt Bool (z64 x0.addr) fun r46 =>
                .ite (!r46)
                  (.leaf (false))
                  (.opt Bool (z64 x0.start) fun r47 =>
                    .ite (!r47)
                      (.leaf (false))
                      (.ite (decide ((2 : Int) = 0))
                        .fail
                        (.ite (decide (((x0.addr).tmod (2 : Int)) = (1 : Int)))
                          (.leaf (false))
                          (.ite (decide (x0.left < (0 : Int)))
                            (.leaf (false))
                            (.ite (decide ((8 : Int) < x0.left))
                              (.leaf (false))
                              (.ite (!(x0.ready == (decide (x0.left = (0 : Int)))))
                                (.leaf (false))
                                (.ite (decide (x0.left = (0 : Int)))
                                  (.leaf (true))
                                  (.ite (!decide (x0.command = (0 : Int)))
                                    (.leaf (!decide (x0.words = (0 : Int))))
                                    (.leaf (false))))))))))))))
noncomputable def z6i (q : Option Nat) (x0 : Disk) : Option Bool := (zcp q x0).run
theorem z1mq (k : Nat) (x0 : Disk) : Le (z6i (some k) x0) (z6i none x0) := (TLe.opt (z1e9 k _) fun _ => TLe.rfl)
noncomputable def zp7 : Arg U (Disk × Unit) := aA cDisk (aNil)
noncomputable def zp0 (r : Bool) : List (V U) × List (Blk U) := ([vO cBool r], [])
noncomputable def ztg : List (V U) → List (Blk U) → Option (FnOut U) := mkSpec zp7 bNil (fun x _ => z6i none x.1) zp0
noncomputable def zun : Env U := { P := Tryz.prog, cd := cd, fns := fns139, lps := noL, frz := fun _r => false, nt := 70, n0 := 0 }
theorem z1i2 (x : Disk × Unit) (g : Unit) : execF zun Tryz.f111 (zp7.enc x) (bNil.enc g) = (zcp none x.1).map zp0 := by kernel_rfl
theorem z1ly : FnOk Tryz.prog cd 111 ztg := mk_ok (E := zun) cd_ok ztj Tryz.func111 (by kernel_rfl) (noLoops_body (by kernel_rfl)) (aA_ok z21 (aNil_ok)) bNil_ok (T := fun x _ => zcp none x.1) (fun _ _ => rfl) z1i2
noncomputable def fns111 := addF 111 true ztg fns139
theorem zmz : ∀ f q t, fns111 f = some (q, t) → FnOk Tryz.prog cd f t := addF_ok z1ly ztj
noncomputable def zin (x0 : (List UInt8)) : Tree Bool :=
  .leaf (decide ((512 : Int) < (x0.length : Int)))
noncomputable def zha (x0 : (List UInt8)) : Option Bool := (zin x0).run
noncomputable def z124 : Arg U ((List UInt8) × Unit) := aO cStr (aNil)
noncomputable def z12x (r : Bool) : List (V U) × List (Blk U) := ([vO cBool r], [])
noncomputable def z12w : List (V U) → List (Blk U) → Option (FnOut U) := mkSpec z124 bNil (fun x _ => zha x.1) z12x
noncomputable def zni : Env U := { P := Tryz.prog, cd := cd, fns := fns111, lps := noL, frz := fun _r => false, nt := 6, n0 := 0 }
theorem z1bx (x : (List UInt8) × Unit) (g : Unit) : execF zni Tryz.f126 (z124.enc x) (bNil.enc g) = (zin x.1).map z12x := by kernel_rfl
theorem z1k1 : FnOk Tryz.prog cd 126 z12w := mk_ok (E := zni) cd_ok zmz Tryz.func126 (by kernel_rfl) (noLoops_body (by kernel_rfl)) (aO_ok cStr_ok (aNil_ok)) bNil_ok (T := fun x _ => zin x.1) (fun _ _ => rfl) z1bx
noncomputable def fns126 := addF 126 true z12w fns111
theorem zwp : ∀ f q t, fns126 f = some (q, t) → FnOk Tryz.prog cd f t := addF_ok z1k1 zmz
noncomputable def zb7 (x0 : Int) : Tree Bool :=
  .leaf (decide ((IntKind.wrap .i64 (((BitVec.ofInt 64 x0 &&& BitVec.ofInt 64 (65535 : Int)).toNat : Int))) = x0))
noncomputable def z8x (x0 : Int) : Option Bool := (zb7 x0).run
noncomputable def zol : Arg U (Int × Unit) := aO (cInt .i64) (aNil)
noncomputable def zyc (r : Bool) : List (V U) × List (Blk U) := ([vO cBool r], [])
noncomputable def zy8 : List (V U) → List (Blk U) → Option (FnOut U) := mkSpec zol bNil (fun x _ => z8x x.1) zyc
noncomputable def z12q : Env U := { P := Tryz.prog, cd := cd, fns := fns126, lps := noL, frz := fun _r => false, nt := 7, n0 := 0 }
theorem z1ls (x : Int × Unit) (g : Unit) : execF z12q Tryz.f140 (zol.enc x) (bNil.enc g) = (zb7 x.1).map zyc := by kernel_rfl
theorem z1jw : FnOk Tryz.prog cd 140 zy8 := mk_ok (E := z12q) cd_ok zwp Tryz.func140 (by kernel_rfl) (noLoops_body (by kernel_rfl)) (aO_ok (cInt_ok .i64) (aNil_ok)) bNil_ok (T := fun x _ => zb7 x.1) (fun _ _ => rfl) z1ls
noncomputable def fns140 := addF 140 true zy8 fns126
theorem zd3 : ∀ f q t, fns140 f = some (q, t) → FnOk Tryz.prog cd f t := addF_ok z1jw zwp
structure z1i where
  t0 : (List (List UInt8))
  t7 : Int
  t8 : Int
noncomputable def z4i (s : z1i) : Tree (z1i ⊕ (Int ⊕ Unit)) :=
  .ite (decide (s.t8 < s.t7))
    (.ite (decide (0 ≤ s.t8))
      (.opt (List UInt8) (s.t0[(s.t8).toNat]?) fun y48 =>
        .opt Bool (zha y48) fun r49 =>
          .ite (r49)
            (.leaf (.inr (.inl s.t8)))
            (.leaf (.inl (z1i.mk s.t0 s.t7 (IntKind.wrap .i64 (s.t8 + (1 : Int)))))))
      .fail)
    (.leaf (.inr (.inr ())))
noncomputable def z3r (q : Option Nat) (s : z1i) : Option (Int ⊕ Unit) := limQ q (fun s => (z4i s).run) s
theorem z1cf (k : Nat) (s : z1i) : Le (z3r (some k) s) (z3r none s) := limQ_le (fun _ => Le.rfl) s
noncomputable def z58 (q : Option Nat) (x0 : (List (List UInt8))) : Tree Int :=
  .opt (Int ⊕ Unit) (z3r q (z1i.mk x0 (x0.length : Int) (0 : Int))) fun l50 =>
    .ite (l50.isLeft)
      (.opt Int (l50.getLeft?) fun a51 =>
        .leaf (a51))
      (.opt Unit (l50.getRight?) fun b52 =>
        .leaf ((-1 : Int)))
noncomputable def z5d (q : Option Nat) (x0 : (List (List UInt8))) : Option Int := (z58 q x0).run
theorem z1mw (k : Nat) (x0 : (List (List UInt8))) : Le (z5d (some k) x0) (z5d none x0) := (TLe.opt (z1cf k _) fun _ => TLe.rfl)
noncomputable def zaq : Arg U ((List (List UInt8)) × Unit) := aO (cSl 9) (aF 126 [] (aNil))
noncomputable def zbr : Bls U (Unit) := bNil
noncomputable def zl1 (_x : (List (List UInt8)) × Unit) (_g : Unit) (r : Int) : List (V U) × List (Blk U) := ([vO (cPair (cInt .i64) (cUnit)) (r, ())], [])
noncomputable def z10e : List (V U) → List (Blk U) → Option (FnOut U) := mkSpecG zaq zbr (fun x _ => z5d none x.1) zl1
noncomputable def z17f (x : ((List (List UInt8)) × Unit) × (Unit) × (Int × Unit) × (Int × Unit) × Unit) (_g : Unit) : z1i := z1i.mk x.1.1 x.2.2.1.1 x.2.2.2.1.1
noncomputable def zly : Tms U (((List (List UInt8)) × Unit) × (Unit) × (Int × Unit) × (Int × Unit) × Unit) := tO 0 (cPair (cSl 9) (cUnit)) (tO 1 (cK2 (.fn 126 [] []) (cUnit)) (tO 7 (cPair (cInt .i64) (cUnit)) (tO 8 (cPair (cInt .i64) (cUnit)) (tNil))))
noncomputable def zob : Bls U (Unit) := bNil
noncomputable def zhf (s : z1i) : St U := { tm := [(0, .v (vO (cPair (cSl 9) (cUnit)) (s.t0, ()))), (1, .v (vO (cK2 (.fn 126 [] []) (cUnit)) (()))), (7, .v (vO (cPair (cInt .i64) (cUnit)) (s.t7, ()))), (8, .v (vO (cPair (cInt .i64) (cUnit)) (s.t8, ())))], hp := [] }
noncomputable def z1ab : (Int ⊕ Unit) → Ex × St U
  | .inl r => (.ret, { tm := [(4, .v (vO (cPair (cInt .i64) (cUnit)) (r, ())))], hp := [] })
  | .inr r => (.exit 0, { tm := [], hp := [] })
noncomputable def zm3 (y : (Int ⊕ Unit)) : Tree (Ex × St U) := .ite y.isLeft (.opt Int y.getLeft? fun r => .leaf (.ret, { tm := [(4, .v (vO (cPair (cInt .i64) (cUnit)) (r, ())))], hp := [] })) (.opt Unit y.getRight? fun r => .leaf (.exit 0, { tm := [], hp := [] }))
noncomputable def zzn : Hd := { keep := [0, 1, 7, 8], xkeep := [4], own := false }
noncomputable def z7s : Env U := { P := Tryz.prog, cd := cd, fns := fns140, lps := (addL 0 zzn (mkLoop zly zob z17f (z3r none) zm3) noL), frz := fun _r => false, nt := 19, n0 := 0 }
noncomputable def z18w : Code := (loopAt (Tryz.f146.body.getD .skip) 0 0).getD .skip
theorem z1e6 (s : z1i) : round z7s zzn z18w 0 (zhf s) = (z4i s).map (sumE zhf z1ab) := by kernel_rfl
theorem z1lv : LpOk z7s z18w 0 := mkLoop_ok (A := zly) (B := zob) (f := z17f) (L := z3r none) (tO_ok (cPair_ok (cSl_ok 9) cUnit_ok) (tO_ok (cK2_ok cUnit_ok) (tO_ok (cPair_ok (cInt_ok .i64) cUnit_ok) (tO_ok (cPair_ok (cInt_ok .i64) cUnit_ok) tNil_ok)))) bNil_ok (enc := zhf) (out := zm3) (outS := z1ab) (step := z4i) (fun _ => rfl) (fun _ _ => by kernel_rfl) (by kernel_rfl) (fun b => by cases b <;> rfl) z1e6
theorem z1bu (x0 : (List (List UInt8))) : execX false z7s Tryz.f146 (zaq.enc (x0, ())) (zbr.enc ()) = (z58 none x0).map (zl1 (x0, ()) ()) := by kernel_rfl
theorem z1aw : ∀ (x : (List (List UInt8)) × Unit) (g : Unit), execX false z7s Tryz.f146 (zaq.enc x) (zbr.enc g) = (z58 none x.1).map (zl1 x g)
  | (x0, ()), () => z1bu x0
theorem z1ef : FnOk Tryz.prog cd 146 z10e := mk_okG (E := z7s) (A := zaq) (B := zbr) false cd_ok zd3 Tryz.func146 (by kernel_rfl) (loops_of (addL_ok z1lv noL_ok)) (aO_ok (cSl_ok 9) (aF_ok (aNil_ok))) bNil_ok (T := fun (x : (List (List UInt8)) × Unit) (_ : Unit) => z58 none x.1) (fun _ _ => rfl) z1aw
noncomputable def z5b (q : Option Nat) (x0 : (List (List UInt8))) : Tree Bool :=
  .opt Int (z5d q x0) fun r53 =>
    .leaf (decide ((0 : Int) ≤ r53))
noncomputable def z3g (q : Option Nat) (x0 : (List (List UInt8))) : Option Bool := (z5b q x0).run
theorem z19l (k : Nat) (x0 : (List (List UInt8))) : Le (z3g (some k) x0) (z3g none x0) := (TLe.opt (z1mw k _) fun _ => TLe.rfl)
noncomputable def zdy : Arg U ((List (List UInt8)) × Unit) := aO (cSl 9) (aF 126 [] (aNil))
noncomputable def ze9 : Bls U (Unit) := bNil
noncomputable def zhk (_x : (List (List UInt8)) × Unit) (_g : Unit) (r : Bool) : List (V U) × List (Blk U) := ([vO (cPair cBool (cUnit)) (r, ())], [])
noncomputable def zk3 : List (V U) → List (Blk U) → Option (FnOut U) := mkSpecG zdy ze9 (fun x _ => z3g none x.1) zhk
noncomputable def zge : Env U := { P := Tryz.prog, cd := cd, fns := (addF 146 false (z10e) fns140), lps := noL, frz := fun _r => false, nt := 9, n0 := 0 }
theorem z1mz (x0 : (List (List UInt8))) : execX false zge Tryz.f125 (zdy.enc (x0, ())) (ze9.enc ()) = (z5b none x0).map (zhk (x0, ()) ()) := by kernel_rfl
theorem z1dk : ∀ (x : (List (List UInt8)) × Unit) (g : Unit), execX false zge Tryz.f125 (zdy.enc x) (ze9.enc g) = (z5b none x.1).map (zhk x g)
  | (x0, ()), () => z1mz x0
theorem z16j : FnOk Tryz.prog cd 125 zk3 := mk_okG (E := zge) (A := zdy) (B := ze9) false cd_ok (addF_ok z1ef zd3) Tryz.func125 (by kernel_rfl) (noLoops_body (by kernel_rfl)) (aO_ok (cSl_ok 9) (aF_ok (aNil_ok))) bNil_ok (T := fun (x : (List (List UInt8)) × Unit) (_ : Unit) => z5b none x.1) (fun _ _ => rfl) z1dk
noncomputable def zez (q : Option Nat) (x0 : Tape) : Tree Bool :=
  .ite (decide ((64 : Int) < (x0.records.length : Int)))
    (.leaf (false))
    (.opt Bool (z3g q x0.records) fun r54 =>
      .ite (r54)
        (.leaf (false))
        (.ite (decide (x0.pos < (0 : Int)))
          (.leaf (false))
          (.ite (decide ((x0.records.length : Int) < x0.pos))
            (.leaf (false))
            (.ite (decide ((0 : Int) ≤ x0.command))
              (.ite (decide (x0.command ≤ (6 : Int)))
                (.opt Bool (z8x x0.count) fun r55 =>
                  .ite (r55)
                    (.opt Bool (z8x x0.addr) fun r56 =>
                      .ite (r56)
                        (.ite (decide ((0 : Int) ≤ x0.left))
                          (.ite (decide (x0.left ≤ (16 : Int)))
                            (.leaf ((x0.ready == (decide (x0.left = (0 : Int))))))
                            (.leaf (false)))
                          (.leaf (false)))
                        (.leaf (false)))
                    (.leaf (false)))
                (.leaf (false)))
              (.leaf (false))))))
noncomputable def z6q (q : Option Nat) (x0 : Tape) : Option Bool := (zez q x0).run
theorem z1ma (k : Nat) (x0 : Tape) : Le (z6q (some k) x0) (z6q none x0) := (TLe.ite TLe.rfl (TLe.opt (z19l k _) fun _ => TLe.rfl))
noncomputable def zx6 : Arg U (Tape × Unit) := aA cTape (aNil)
noncomputable def znt (r : Bool) : List (V U) × List (Blk U) := ([vO cBool r], [])
noncomputable def z11b : List (V U) → List (Blk U) → Option (FnOut U) := mkSpec zx6 bNil (fun x _ => z6q none x.1) znt
noncomputable def z18b : Env U := { P := Tryz.prog, cd := cd, fns := (addF 125 false (zk3) fns140), lps := noL, frz := fun _r => false, nt := 61, n0 := 0 }
theorem z1hn (x : Tape × Unit) (g : Unit) : execF z18b Tryz.f112 (zx6.enc x) (bNil.enc g) = (zez none x.1).map znt := by kernel_rfl
theorem z1g9 : FnOk Tryz.prog cd 112 z11b := mk_ok (E := z18b) cd_ok (addF_ok z16j zd3) Tryz.func112 (by kernel_rfl) (noLoops_body (by kernel_rfl)) (aA_ok z15 (aNil_ok)) bNil_ok (T := fun x _ => zez none x.1) (fun _ _ => rfl) z1hn
noncomputable def fns112 := addF 112 true z11b fns140
theorem zru : ∀ f q t, fns112 f = some (q, t) → FnOk Tryz.prog cd f t := addF_ok z1g9 zd3
structure z1m where
  t30 : (List Line)
  t31 : Int
  t32 : Int
  b0 : Machine
noncomputable def z46 (s : z1m) : Tree (z1m ⊕ ((Bool × Machine) ⊕ Machine)) :=
  .ite (decide (s.t32 < s.t31))
    (.ite (decide (0 ≤ s.t32))
      (.opt Line (s.t30[(s.t32).toNat]?) fun y60 =>
        .opt Bool (zbx y60) fun r61 =>
          .ite (!r61)
            (.leaf (.inr (.inl (false, s.b0))))
            (.leaf (.inl (z1m.mk s.t30 s.t31 (IntKind.wrap .i64 (s.t32 + (1 : Int))) s.b0))))
      .fail)
    (.leaf (.inr (.inr s.b0)))
noncomputable def z6c (q : Option Nat) (s : z1m) : Option ((Bool × Machine) ⊕ Machine) := limQ q (fun s => (z46 s).run) s
theorem z1hj (k : Nat) (s : z1m) : Le (z6c (some k) s) (z6c none s) := limQ_le (fun _ => Le.rfl) s
noncomputable def zcf (q : Option Nat) (x0 : Machine) : Tree Bool :=
  .ite (decide ((4 : Int) < (x0.lines.length : Int)))
    (.leaf (false))
    (.opt Bool (z5w q x0.mem x0.bad) fun r57 =>
      .ite (!r57)
        (.leaf (false))
        (.opt Bool (z51 q x0.mmu) fun r58 =>
          .ite (!r58)
            (.leaf (false))
            (.opt Bool (zkp x0.clock) fun r59 =>
              .ite (!r59)
                (.leaf (false))
                (.opt ((Bool × Machine) ⊕ Machine) (z6c q (z1m.mk x0.lines (x0.lines.length : Int) (0 : Int) x0)) fun l62 =>
                  .ite (l62.isLeft)
                    (.opt (Bool × Machine) (l62.getLeft?) fun a63 =>
                      .leaf (a63.1))
                    (.opt Machine (l62.getRight?) fun b64 =>
                      .opt Bool (z6i q b64.disk) fun r65 =>
                        .ite (r65)
                          (.opt Bool (z6q q b64.tape) fun r66 =>
                            .leaf (r66))
                          (.leaf (false)))))))
noncomputable def z56 (q : Option Nat) (x0 : Machine) : Option Bool := (zcf q x0).run
theorem z1b9 (k : Nat) (x0 : Machine) : Le (z56 (some k) x0) (z56 none x0) := (TLe.ite TLe.rfl (TLe.opt (z1hw k _ _) fun _ => (TLe.ite TLe.rfl (TLe.opt (z1ex k _) fun _ => (TLe.ite TLe.rfl (TLe.opt Le.rfl fun _ => (TLe.ite TLe.rfl (TLe.opt (z1hj k _) fun _ => (TLe.ite TLe.rfl (TLe.opt Le.rfl fun _ => (TLe.opt (z1mq k _) fun _ => (TLe.ite (TLe.opt (z1ma k _) fun _ => TLe.rfl) TLe.rfl))))))))))))
noncomputable def zxz : Arg U (Machine × Unit) := aA cMachine (aNil)
noncomputable def z128 (r : Bool) : List (V U) × List (Blk U) := ([vO cBool r], [])
noncomputable def z131 : List (V U) → List (Blk U) → Option (FnOut U) := mkSpec zxz bNil (fun x _ => z56 none x.1) z128
noncomputable def zue (x : (Unit) × ((List Line) × Unit) × (Int × Unit) × (Int × Unit) × Unit) (g : (Machine × Unit) × Unit) : z1m := z1m.mk x.2.1.1 x.2.2.1.1 x.2.2.2.1.1 g.1.1
noncomputable def zsr : Tms U ((Unit) × ((List Line) × Unit) × (Int × Unit) × (Int × Unit) × Unit) := tO 1 (cK (.ptr 0 0) (cUnit)) (tO 30 (cPair (cSl 66) (cUnit)) (tO 31 (cPair (cInt .i64) (cUnit)) (tO 32 (cPair (cInt .i64) (cUnit)) (tNil))))
noncomputable def z13o : Bls U ((Machine × Unit) × Unit) := bC (cPair cMachine (cUnit)) (bNil)
noncomputable def zgc (s : z1m) : St U := { tm := [(1, .v (vO (cK (.ptr 0 0) (cUnit)) (()))), (30, .v (vO (cPair (cSl 66) (cUnit)) (s.t30, ()))), (31, .v (vO (cPair (cInt .i64) (cUnit)) (s.t31, ()))), (32, .v (vO (cPair (cInt .i64) (cUnit)) (s.t32, ())))], hp := [.cells ((cPair cMachine (cUnit) : Cdc U (Machine × Unit)).enc (s.b0, ())) none] }
noncomputable def zq8 : ((Bool × Machine) ⊕ Machine) → Ex × St U
  | .inl r => (.ret, { tm := [(1, .v (vO (cK (.ptr 0 0) (cUnit)) (()))), (2, .v (vO (cPair cBool (cUnit)) (r.1, ())))], hp := [.cells ((cPair cMachine (cUnit) : Cdc U (Machine × Unit)).enc (r.2, ())) none] })
  | .inr r => (.exit 0, { tm := [(1, .v (vO (cK (.ptr 0 0) (cUnit)) (())))], hp := [.cells ((cPair cMachine (cUnit) : Cdc U (Machine × Unit)).enc (r, ())) none] })
noncomputable def zst (y : ((Bool × Machine) ⊕ Machine)) : Tree (Ex × St U) := .ite y.isLeft (.opt (Bool × Machine) y.getLeft? fun r => .leaf (.ret, { tm := [(1, .v (vO (cK (.ptr 0 0) (cUnit)) (()))), (2, .v (vO (cPair cBool (cUnit)) (r.1, ())))], hp := [.cells ((cPair cMachine (cUnit) : Cdc U (Machine × Unit)).enc (r.2, ())) none] })) (.opt Machine y.getRight? fun r => .leaf (.exit 0, { tm := [(1, .v (vO (cK (.ptr 0 0) (cUnit)) (())))], hp := [.cells ((cPair cMachine (cUnit) : Cdc U (Machine × Unit)).enc (r, ())) none] }))
noncomputable def z1a3 : Hd := { keep := [1, 30, 31, 32], xkeep := [1, 2], own := false }
noncomputable def zfv : Env U := { P := Tryz.prog, cd := cd, fns := fns112, lps := (addL 0 z1a3 (mkLoop zsr z13o zue (z6c none) zst) noL), frz := fun _r => false, nt := 48, n0 := 0 }
noncomputable def z17c : Code := (loopAt (Tryz.f51.body.getD .skip) 0 0).getD .skip
theorem z1ko (s : z1m) : round zfv z1a3 z17c 0 (zgc s) = (z46 s).map (sumE zgc zq8) := by kernel_rfl
theorem z1l3 : LpOk zfv z17c 0 := mkLoop_ok (A := zsr) (B := z13o) (f := zue) (L := z6c none) (tO_ok (cK_ok cUnit_ok) (tO_ok (cPair_ok (cSl_ok 66) cUnit_ok) (tO_ok (cPair_ok (cInt_ok .i64) cUnit_ok) (tO_ok (cPair_ok (cInt_ok .i64) cUnit_ok) tNil_ok)))) (bC_ok (cPair_ok zm cUnit_ok) bNil_ok) (enc := zgc) (out := zst) (outS := zq8) (step := z46) (fun _ => rfl) (fun _ _ => by kernel_rfl) (by kernel_rfl) (fun b => by cases b <;> rfl) z1ko
theorem z1fq (x : Machine × Unit) (g : Unit) : execF zfv Tryz.f51 (zxz.enc x) (bNil.enc g) = (zcf none x.1).map z128 := by kernel_rfl
theorem z1hf : FnOk Tryz.prog cd 51 z131 := mk_ok (E := zfv) cd_ok zru Tryz.func51 (by kernel_rfl) (loops_of (addL_ok z1l3 noL_ok)) (aA_ok zm (aNil_ok)) bNil_ok (T := fun x _ => zcf none x.1) (fun _ _ => rfl) z1fq
noncomputable def fns51 := addF 51 true z131 fns112
theorem zpz : ∀ f q t, fns51 f = some (q, t) → FnOk Tryz.prog cd f t := addF_ok z1hf zru
noncomputable def zae (x0 : Int) : Tree Bool :=
  .ite (decide ((0 : Int) ≤ x0))
    (.leaf (decide (x0 ≤ (65535 : Int))))
    (.leaf (false))
noncomputable def z3w (x0 : Int) : Option Bool := (zae x0).run
noncomputable def zux : Arg U (Int × Unit) := aO (cInt .i64) (aNil)
noncomputable def z15b (r : Bool) : List (V U) × List (Blk U) := ([vO cBool r], [])
noncomputable def zpv : List (V U) → List (Blk U) → Option (FnOut U) := mkSpec zux bNil (fun x _ => z3w x.1) z15b
noncomputable def z126 : Env U := { P := Tryz.prog, cd := cd, fns := fns51, lps := noL, frz := fun _r => false, nt := 9, n0 := 0 }
theorem z1hx (x : Int × Unit) (g : Unit) : execF z126 Tryz.f113 (zux.enc x) (bNil.enc g) = (zae x.1).map z15b := by kernel_rfl
theorem z1ay : FnOk Tryz.prog cd 113 zpv := mk_ok (E := z126) cd_ok zpz Tryz.func113 (by kernel_rfl) (noLoops_body (by kernel_rfl)) (aO_ok (cInt_ok .i64) (aNil_ok)) bNil_ok (T := fun x _ => zae x.1) (fun _ _ => rfl) z1hx
noncomputable def fns113 := addF 113 true zpv fns51
theorem z14m : ∀ f q t, fns113 f = some (q, t) → FnOk Tryz.prog cd f t := addF_ok z1ay zpz
noncomputable def zil (x0 : Int) : Tree Bool :=
  .leaf (decide ((IntKind.wrap .i64 (((BitVec.ofInt 64 x0 &&& BitVec.ofInt 64 (49407 : Int)).toNat : Int))) = x0))
noncomputable def zky (x0 : Int) : Option Bool := (zil x0).run
noncomputable def zx5 : Arg U (Int × Unit) := aO (cInt .i64) (aNil)
noncomputable def zqd (r : Bool) : List (V U) × List (Blk U) := ([vO cBool r], [])
noncomputable def zxy : List (V U) → List (Blk U) → Option (FnOut U) := mkSpec zx5 bNil (fun x _ => zky x.1) zqd
noncomputable def zrc : Env U := { P := Tryz.prog, cd := cd, fns := fns113, lps := noL, frz := fun _r => false, nt := 7, n0 := 0 }
theorem z1c0 (x : Int × Unit) (g : Unit) : execF zrc Tryz.f114 (zx5.enc x) (bNil.enc g) = (zil x.1).map zqd := by kernel_rfl
theorem z1jt : FnOk Tryz.prog cd 114 zxy := mk_ok (E := zrc) cd_ok z14m Tryz.func114 (by kernel_rfl) (noLoops_body (by kernel_rfl)) (aO_ok (cInt_ok .i64) (aNil_ok)) bNil_ok (T := fun x _ => zil x.1) (fun _ _ => rfl) z1c0
noncomputable def fns114 := addF 114 true zxy fns113
theorem zpj : ∀ f q t, fns114 f = some (q, t) → FnOk Tryz.prog cd f t := addF_ok z1jt z14m
structure z1l where
  t6_0 : (List Int)
  t7 : Int
  b0 : Cpu
noncomputable def z45 (s : z1l) : Tree (z1l ⊕ ((Bool × Cpu) ⊕ Cpu)) :=
  .ite (decide (s.t7 < (6 : Int)))
    (.ite (decide (0 ≤ s.t7))
      (.ite (decide (s.t7 < (6 : Int)))
        (.opt Int (s.t6_0[(s.t7).toNat]?) fun y67 =>
          .opt Bool (z3w y67) fun r68 =>
            .ite (!r68)
              (.leaf (.inr (.inl (false, s.b0))))
              (.leaf (.inl (z1l.mk s.t6_0 (IntKind.wrap .i64 (s.t7 + (1 : Int))) s.b0))))
        .fail)
      .fail)
    (.leaf (.inr (.inr s.b0)))
noncomputable def z6x (q : Option Nat) (s : z1l) : Option ((Bool × Cpu) ⊕ Cpu) := limQ q (fun s => (z45 s).run) s
theorem z1hg (k : Nat) (s : z1l) : Le (z6x (some k) s) (z6x none s) := limQ_le (fun _ => Le.rfl) s
noncomputable def zdj (q : Option Nat) (x0 : Cpu) : Tree Bool :=
  .opt ((Bool × Cpu) ⊕ Cpu) (z6x q (z1l.mk x0.r (0 : Int) x0)) fun l69 =>
    .ite (l69.isLeft)
      (.opt (Bool × Cpu) (l69.getLeft?) fun a70 =>
        .leaf (a70.1))
      (.opt Cpu (l69.getRight?) fun b71 =>
        .ite (decide (0 ≤ (0 : Int)))
          (.ite (decide ((0 : Int) < (2 : Int)))
            (.opt Int (b71.sP[((0 : Int)).toNat * 1]?) fun y72 =>
              .opt Bool (z3w y72) fun r73 =>
                .ite (r73)
                  (.ite (decide (0 ≤ (1 : Int)))
                    (.ite (decide ((1 : Int) < (2 : Int)))
                      (.opt Int (b71.sP[((1 : Int)).toNat * 1]?) fun y74 =>
                        .opt Bool (z3w y74) fun r75 =>
                          .ite (r75)
                            (.opt Bool (z3w b71.pC) fun r76 =>
                              .ite (r76)
                                (.opt Bool (zky b71.pSW) fun r77 =>
                                  .leaf (r77))
                                (.leaf (false)))
                            (.leaf (false)))
                      .fail)
                    .fail)
                  (.leaf (false)))
            .fail)
          .fail)
noncomputable def z6l (q : Option Nat) (x0 : Cpu) : Option Bool := (zdj q x0).run
theorem z1gt (k : Nat) (x0 : Cpu) : Le (z6l (some k) x0) (z6l none x0) := (TLe.opt (z1hg k _) fun _ => TLe.rfl)
noncomputable def z17u : Arg U (Cpu × Unit) := aA cCpu (aNil)
noncomputable def z15u (r : Bool) : List (V U) × List (Blk U) := ([vO cBool r], [])
noncomputable def zsx : List (V U) → List (Blk U) → Option (FnOut U) := mkSpec z17u bNil (fun x _ => z6l none x.1) z15u
noncomputable def zym (x : (Unit) × ((List Int) × Unit) × (Int × Unit) × Unit) (g : (Cpu × Unit) × Unit) : z1l := z1l.mk x.2.1.1 x.2.2.1.1 g.1.1
noncomputable def z177 : Tms U ((Unit) × ((List Int) × Unit) × (Int × Unit) × Unit) := tO 1 (cK (.ptr 0 0) (cUnit)) (tA 6 (cPair (cArr 3 6) (cUnit)) (tO 7 (cPair (cInt .i64) (cUnit)) (tNil)))
noncomputable def zr7 : Bls U ((Cpu × Unit) × Unit) := bC (cPair cCpu (cUnit)) (bNil)
noncomputable def zgy (s : z1l) : St U := { tm := [(1, .v (vO (cK (.ptr 0 0) (cUnit)) (()))), (6, .v (vA (cPair (cArr 3 6) (cUnit)) (s.t6_0, ()))), (7, .v (vO (cPair (cInt .i64) (cUnit)) (s.t7, ())))], hp := [.cells ((cPair cCpu (cUnit) : Cdc U (Cpu × Unit)).enc (s.b0, ())) none] }
noncomputable def zyb : ((Bool × Cpu) ⊕ Cpu) → Ex × St U
  | .inl r => (.ret, { tm := [(1, .v (vO (cK (.ptr 0 0) (cUnit)) (()))), (2, .v (vO (cPair cBool (cUnit)) (r.1, ())))], hp := [.cells ((cPair cCpu (cUnit) : Cdc U (Cpu × Unit)).enc (r.2, ())) none] })
  | .inr r => (.exit 0, { tm := [(1, .v (vO (cK (.ptr 0 0) (cUnit)) (())))], hp := [.cells ((cPair cCpu (cUnit) : Cdc U (Cpu × Unit)).enc (r, ())) none] })
noncomputable def z15z (y : ((Bool × Cpu) ⊕ Cpu)) : Tree (Ex × St U) := .ite y.isLeft (.opt (Bool × Cpu) y.getLeft? fun r => .leaf (.ret, { tm := [(1, .v (vO (cK (.ptr 0 0) (cUnit)) (()))), (2, .v (vO (cPair cBool (cUnit)) (r.1, ())))], hp := [.cells ((cPair cCpu (cUnit) : Cdc U (Cpu × Unit)).enc (r.2, ())) none] })) (.opt Cpu y.getRight? fun r => .leaf (.exit 0, { tm := [(1, .v (vO (cK (.ptr 0 0) (cUnit)) (())))], hp := [.cells ((cPair cCpu (cUnit) : Cdc U (Cpu × Unit)).enc (r, ())) none] }))
noncomputable def z12e : Hd := { keep := [1, 6, 7], xkeep := [1, 2], own := false }
noncomputable def zbj : Env U := { P := Tryz.prog, cd := cd, fns := fns114, lps := (addL 0 z12e (mkLoop z177 zr7 zym (z6x none) z15z) noL), frz := fun _r => false, nt := 34, n0 := 0 }
noncomputable def zya : Code := (loopAt (Tryz.f52.body.getD .skip) 0 0).getD .skip
theorem z1js (s : z1l) : round zbj z12e zya 0 (zgy s) = (z45 s).map (sumE zgy zyb) := by kernel_rfl
theorem z1m8 : LpOk zbj zya 0 := mkLoop_ok (A := z177) (B := zr7) (f := zym) (L := z6x none) (tO_ok (cK_ok cUnit_ok) (tA_ok (cPair_ok (cArr_ok 3 6) cUnit_ok) (tO_ok (cPair_ok (cInt_ok .i64) cUnit_ok) tNil_ok))) (bC_ok (cPair_ok zu cUnit_ok) bNil_ok) (enc := zgy) (out := z15z) (outS := zyb) (step := z45) (fun _ => rfl) (fun _ _ => by kernel_rfl) (by kernel_rfl) (fun b => by cases b <;> rfl) z1js
theorem z1db (x : Cpu × Unit) (g : Unit) : execF zbj Tryz.f52 (z17u.enc x) (bNil.enc g) = (zdj none x.1).map z15u := by kernel_rfl
theorem z1k3 : FnOk Tryz.prog cd 52 zsx := mk_ok (E := zbj) cd_ok zpj Tryz.func52 (by kernel_rfl) (loops_of (addL_ok z1m8 noL_ok)) (aA_ok zu (aNil_ok)) bNil_ok (T := fun x _ => zdj none x.1) (fun _ _ => rfl) z1db
noncomputable def fns52 := addF 52 true zsx fns114
theorem zz5 : ∀ f q t, fns52 f = some (q, t) → FnOk Tryz.prog cd f t := addF_ok z1k3 zpj
noncomputable def zb4 (x0 : Machine) : Tree Condition :=
  .leaf (Condition.mk x0.halted x0.waiting x0.powerTrap x0.power)
noncomputable def zjt (x0 : Machine) : Option Condition := (zb4 x0).run
noncomputable def zyk : Arg U (Machine × Unit) := aA cMachine (aNil)
noncomputable def zul (r : Condition) : List (V U) × List (Blk U) := ([vA cCondition r], [])
noncomputable def z18j : List (V U) → List (Blk U) → Option (FnOut U) := mkSpec zyk bNil (fun x _ => zjt x.1) zul
noncomputable def z1ad : Env U := { P := Tryz.prog, cd := cd, fns := fns52, lps := noL, frz := fun _r => false, nt := 12, n0 := 0 }
theorem z1bn (x : Machine × Unit) (g : Unit) : execF z1ad Tryz.f53 (zyk.enc x) (bNil.enc g) = (zb4 x.1).map zul := by kernel_rfl
theorem z1bg : FnOk Tryz.prog cd 53 z18j := mk_ok (E := z1ad) cd_ok zz5 Tryz.func53 (by kernel_rfl) (noLoops_body (by kernel_rfl)) (aA_ok zm (aNil_ok)) bNil_ok (T := fun x _ => zb4 x.1) (fun _ _ => rfl) z1bn
noncomputable def fns53 := addF 53 true z18j fns52
theorem zoi : ∀ f q t, fns53 f = some (q, t) → FnOk Tryz.prog cd f t := addF_ok z1bg zz5
noncomputable def zbd (q : Option Nat) (x0 : Machine) : Tree Bool :=
  .opt Bool (z56 q x0) fun r78 =>
    .ite (r78)
      (.opt Bool (z6l q x0.cpu) fun r79 =>
        .ite (r79)
          (.ite (decide ((0 : Int) ≤ x0.now))
            (.ite (decide (x0.now ≤ (1099511627776 : Int)))
              (.ite (decide ((0 : Int) ≤ x0.power))
                (.ite (decide (x0.power ≤ (10000 : Int)))
                  (.ite (!x0.halted)
                    (.leaf (true))
                    (.opt Condition (zjt x0) fun r80 =>
                      .leaf (((r80.halted == true) && ((r80.waiting == false) && ((r80.trap == false) && (decide (r80.power = (0 : Int)))))))))
                  (.leaf (false)))
                (.leaf (false)))
              (.leaf (false)))
            (.leaf (false)))
          (.leaf (false)))
      (.leaf (false))
noncomputable def zt (q : Option Nat) (x0 : Machine) : Option Bool := (zbd q x0).run
theorem z1mo (k : Nat) (x0 : Machine) : Le (zt (some k) x0) (zt none x0) := (TLe.opt (z1b9 k _) fun _ => (TLe.ite (TLe.opt (z1gt k _) fun _ => TLe.rfl) TLe.rfl))
noncomputable def z14i : Arg U (Machine × Unit) := aA cMachine (aNil)
noncomputable def z11a (r : Bool) : List (V U) × List (Blk U) := ([vO cBool r], [])
noncomputable def ztt : List (V U) → List (Blk U) → Option (FnOut U) := mkSpec z14i bNil (fun x _ => zt none x.1) z11a
noncomputable def zyp : Env U := { P := Tryz.prog, cd := cd, fns := fns53, lps := noL, frz := fun _r => false, nt := 41, n0 := 0 }
theorem z1k0 (x : Machine × Unit) (g : Unit) : execF zyp Tryz.f30 (z14i.enc x) (bNil.enc g) = (zbd none x.1).map z11a := by kernel_rfl
theorem z1gn : FnOk Tryz.prog cd 30 ztt := mk_ok (E := zyp) cd_ok zoi Tryz.func30 (by kernel_rfl) (noLoops_body (by kernel_rfl)) (aA_ok zm (aNil_ok)) bNil_ok (T := fun x _ => zbd none x.1) (fun _ _ => rfl) z1k0
noncomputable def fns30 := addF 30 true ztt fns53
theorem zr : ∀ f q t, fns30 f = some (q, t) → FnOk Tryz.prog cd f t := addF_ok z1gn zoi
noncomputable def z4j (q : Option Nat) (x1 : Int) (g0 : z6) : Tree (Int × z6) :=
  .opt (Int × Int × Int) (z1d q g0.s g0.at_ x1) fun r83 =>
    .ite (!decide (r83.2.2 = (0 : Int)))
      (.leaf (((0 : Int), z6.mk g0.s g0.at_ true)))
      (.leaf ((r83.1, z6.mk g0.s r83.2.1 g0.bad)))
noncomputable def ze (q : Option Nat) (x1 : Int) (g0 : z6) : Option (Int × z6) := (z4j q x1 g0).run
noncomputable def zbo : Arg U (Int × Unit) := aP 0 0 (aO (cInt .i64) (aNil))
noncomputable def zfg : Bls U (z6 × Unit) := bC zb (bNil)
noncomputable def zk8 (_x : Int × Unit) (_g : z6 × Unit) (r : (Int × z6)) : List (V U) × List (Blk U) := ([vO (cPair (cInt .i64) (cUnit)) (r.1, ())], [.cells ((cPair zb (cUnit) : Cdc U (z6 × Unit)).enc (r.2, ())) none])
noncomputable def z36 : List (V U) → List (Blk U) → Option (FnOut U) := mkSpecG zbo zfg (fun x g => ze none x.1 g.1) zk8
noncomputable def zgb : Env U := { P := Tryz.prog, cd := cd, fns := fns30, lps := noL, frz := fun _r => false, nt := 32, n0 := 1 }
theorem z1l0 (x1 : Int) (g0 : z6) : execX false zgb Tryz.f29 (zbo.enc (x1, ())) (zfg.enc (g0, ())) = (z4j none x1 g0).map (zk8 (x1, ()) (g0, ())) := by kernel_rfl
theorem z1m9 : ∀ (x : Int × Unit) (g : z6 × Unit), execX false zgb Tryz.f29 (zbo.enc x) (zfg.enc g) = (z4j none x.1 g.1).map (zk8 x g)
  | (x1, ()), (g0, ()) => z1l0 x1 g0
theorem z42 : FnOk Tryz.prog cd 29 z36 := mk_okG (E := zgb) (A := zbo) (B := zfg) false cd_ok zr Tryz.func29 (by kernel_rfl) (noLoops_body (by kernel_rfl)) (aP_ok (aO_ok (cInt_ok .i64) (aNil_ok))) (bC_ok zo bNil_ok) (T := fun (x : Int × Unit) (g : z6 × Unit) => z4j none x.1 g.1) (fun _ _ => rfl) z1m9
noncomputable def z5y (q : Option Nat) (g0 : z6) : Tree (Int × z6) :=
  .opt (Int × z6) (ze q (2 : Int) g0) fun r84 =>
    .leaf ((r84.1, r84.2))
noncomputable def zf (q : Option Nat) (g0 : z6) : Option (Int × z6) := (z5y q g0).run
noncomputable def zcd : Arg U (Unit) := aP 0 0 (aNil)
noncomputable def zbe : Bls U (z6 × Unit) := bC zb (bNil)
noncomputable def zj1 (_x : Unit) (_g : z6 × Unit) (r : (Int × z6)) : List (V U) × List (Blk U) := ([vO (cPair (cInt .i64) (cUnit)) (r.1, ())], [.cells ((cPair zb (cUnit) : Cdc U (z6 × Unit)).enc (r.2, ())) none])
noncomputable def z2q : List (V U) → List (Blk U) → Option (FnOut U) := mkSpecG zcd zbe (fun x g => zf none g.1) zj1
noncomputable def zh7 : Env U := { P := Tryz.prog, cd := cd, fns := (addF 29 false (z36) fns30), lps := noL, frz := fun _r => false, nt := 5, n0 := 1 }
theorem z1bz (g0 : z6) : execX false zh7 Tryz.f22 (zcd.enc ()) (zbe.enc (g0, ())) = (z5y none g0).map (zj1 () (g0, ())) := by kernel_rfl
theorem z1hk : ∀ (x : Unit) (g : z6 × Unit), execX false zh7 Tryz.f22 (zcd.enc x) (zbe.enc g) = (z5y none g.1).map (zj1 x g)
  | (), (g0, ()) => z1bz g0
theorem z3b : FnOk Tryz.prog cd 22 z2q := mk_okG (E := zh7) (A := zcd) (B := zbe) false cd_ok (addF_ok z42 zr) Tryz.func22 (by kernel_rfl) (noLoops_body (by kernel_rfl)) (aP_ok (aNil_ok)) (bC_ok zo bNil_ok) (T := fun (x : Unit) (g : z6 × Unit) => z5y none g.1) (fun _ _ => rfl) z1hk
structure z31 where
  t5 : Int
  b0 : z6
  b1 : Cpu
  b2 : Cpu
noncomputable def z55 (q : Option Nat) (s : z31) : Tree (z31 ⊕ (z6 × Cpu × Cpu)) :=
  .ite (decide (s.t5 < (6 : Int)))
    (.opt (Int × z6) (zf q s.b0) fun r85 =>
      .ite (decide (0 ≤ s.t5))
        (.ite (decide (s.t5 < (6 : Int)))
          (.opt Int (s.b2.r[(s.t5).toNat * 1]?) fun y86 =>
            .leaf (.inl (z31.mk (IntKind.wrap .i64 (s.t5 + (1 : Int))) r85.2 s.b1 (Cpu.mk (s.b2.r.set ((s.t5).toNat * 1) r85.1) s.b2.sP s.b2.pC s.b2.pSW))))
          .fail)
        .fail)
    (.leaf (.inr (s.b0, s.b1, s.b2)))
noncomputable def z3n (q : Option Nat) (s : z31) : Option (z6 × Cpu × Cpu) := limQ q (fun s => (z55 q s).run) s
noncomputable def z7o (q : Option Nat) (g0 : z6) : Tree (Cpu × z6) :=
  .opt (z6 × Cpu × Cpu) (z3n q (z31.mk (0 : Int) g0 (Cpu.mk (List.replicate 6 (0 : Int)) (List.replicate 2 (0 : Int)) 0 0) (Cpu.mk (List.replicate 6 (0 : Int)) (List.replicate 2 (0 : Int)) 0 0))) fun l87 =>
    .opt (Int × z6) (zf q l87.1) fun r88 =>
      .opt (Int × z6) (zf q r88.2) fun r89 =>
        .ite (decide (0 ≤ (0 : Int)))
          (.ite (decide ((0 : Int) < (2 : Int)))
            (.opt Int (l87.2.2.sP[((0 : Int)).toNat * 1]?) fun y90 =>
              .ite (decide (0 ≤ (1 : Int)))
                (.ite (decide ((1 : Int) < (2 : Int)))
                  (.opt Int ((l87.2.2.sP.set (((0 : Int)).toNat * 1) r88.1)[((1 : Int)).toNat * 1]?) fun y91 =>
                    .opt (Int × z6) (zf q r89.2) fun r92 =>
                      .opt (Int × z6) (zf q r92.2) fun r93 =>
                        .leaf ((Cpu.mk l87.2.2.r ((l87.2.2.sP.set (((0 : Int)).toNat * 1) r88.1).set (((1 : Int)).toNat * 1) r89.1) r92.1 r93.1, r93.2)))
                  .fail)
                .fail)
            .fail)
          .fail
noncomputable def z9w (q : Option Nat) (g0 : z6) : Option (Cpu × z6) := (z7o q g0).run
noncomputable def zbz : Arg U (Unit) := aP 0 0 (aNil)
noncomputable def zew : Bls U (z6 × Unit) := bC zb (bNil)
noncomputable def zlg (_x : Unit) (_g : z6 × Unit) (r : (Cpu × z6)) : List (V U) × List (Blk U) := ([vA (cPair cCpu (cUnit)) (r.1, ())], [.cells ((cPair zb (cUnit) : Cdc U (z6 × Unit)).enc (r.2, ())) none])
noncomputable def zyf : List (V U) → List (Blk U) → Option (FnOut U) := mkSpecG zbz zew (fun x g => z9w none g.1) zlg
noncomputable def zzq (x : (Unit) × (Unit) × (Unit) × (Int × Unit) × Unit) (g : (z6 × Unit) × (Cpu × Unit) × (Cpu × Unit) × Unit) : z31 := z31.mk x.2.2.2.1.1 g.1.1 g.2.1.1 g.2.2.1.1
noncomputable def zse : Tms U ((Unit) × (Unit) × (Unit) × (Int × Unit) × Unit) := tO 0 (cK (.ptr 0 0) (cUnit)) (tO 2 (cK (.ptr 1 0) (cUnit)) (tO 3 (cK (.ptr 2 0) (cUnit)) (tO 5 (cPair (cInt .i64) (cUnit)) (tNil))))
noncomputable def zz8 : Bls U ((z6 × Unit) × (Cpu × Unit) × (Cpu × Unit) × Unit) := bC (cPair zb (cUnit)) (bC (cPair cCpu (cUnit)) (bC (cPair cCpu (cUnit)) (bNil)))
noncomputable def zh0 (s : z31) : St U := { tm := [(0, .v (vO (cK (.ptr 0 0) (cUnit)) (()))), (2, .v (vO (cK (.ptr 1 0) (cUnit)) (()))), (3, .v (vO (cK (.ptr 2 0) (cUnit)) (()))), (5, .v (vO (cPair (cInt .i64) (cUnit)) (s.t5, ())))], hp := [.cells ((cPair zb (cUnit) : Cdc U (z6 × Unit)).enc (s.b0, ())) none, .cells ((cPair cCpu (cUnit) : Cdc U (Cpu × Unit)).enc (s.b1, ())) none, .cells ((cPair cCpu (cUnit) : Cdc U (Cpu × Unit)).enc (s.b2, ())) none] }
noncomputable def zif (r : (z6 × Cpu × Cpu)) : Ex × St U := (.exit 0, { tm := [(0, .v (vO (cK (.ptr 0 0) (cUnit)) (()))), (2, .v (vO (cK (.ptr 1 0) (cUnit)) (()))), (3, .v (vO (cK (.ptr 2 0) (cUnit)) (())))], hp := [.cells ((cPair zb (cUnit) : Cdc U (z6 × Unit)).enc (r.1, ())) none, .cells ((cPair cCpu (cUnit) : Cdc U (Cpu × Unit)).enc (r.2.1, ())) none, .cells ((cPair cCpu (cUnit) : Cdc U (Cpu × Unit)).enc (r.2.2, ())) none] })
noncomputable def z19g (r : (z6 × Cpu × Cpu)) : Tree (Ex × St U) := .leaf (zif r)
noncomputable def zvg : Hd := { keep := [0, 2, 3, 5], xkeep := [0, 2, 3], own := false }
noncomputable def z9r : Env U := { P := Tryz.prog, cd := cd, fns := (addF 22 false (z2q) fns30), lps := (addL 0 zvg (mkLoop zse zz8 zzq (z3n none) z19g) noL), frz := fun _r => false, nt := 29, n0 := 1 }
noncomputable def z18d : Code := (loopAt (Tryz.f20.body.getD .skip) 0 0).getD .skip
theorem z1i0 (s : z31) : round z9r zvg z18d 0 (zh0 s) = (z55 none s).map (sumE zh0 zif) := by kernel_rfl
theorem z1ig : LpOk z9r z18d 0 := mkLoop_ok (A := zse) (B := zz8) (f := zzq) (L := z3n none) (tO_ok (cK_ok cUnit_ok) (tO_ok (cK_ok cUnit_ok) (tO_ok (cK_ok cUnit_ok) (tO_ok (cPair_ok (cInt_ok .i64) cUnit_ok) tNil_ok)))) (bC_ok (cPair_ok zo cUnit_ok) (bC_ok (cPair_ok zu cUnit_ok) (bC_ok (cPair_ok zu cUnit_ok) bNil_ok))) (enc := zh0) (out := z19g) (outS := zif) (step := z55 none) (fun _ => rfl) (fun _ _ => by kernel_rfl) (by kernel_rfl) (fun _ => rfl) z1i0
theorem z1et (g0 : z6) : execX false z9r Tryz.f20 (zbz.enc ()) (zew.enc (g0, ())) = (z7o none g0).map (zlg () (g0, ())) := by kernel_rfl
theorem z1b7 : ∀ (x : Unit) (g : z6 × Unit), execX false z9r Tryz.f20 (zbz.enc x) (zew.enc g) = (z7o none g.1).map (zlg x g)
  | (), (g0, ()) => z1et g0
theorem z1fa : FnOk Tryz.prog cd 20 zyf := mk_okG (E := z9r) (A := zbz) (B := zew) false cd_ok (addF_ok z3b zr) Tryz.func20 (by kernel_rfl) (loops_of (addL_ok z1ig noL_ok)) (aP_ok (aNil_ok)) (bC_ok zo bNil_ok) (T := fun (x : Unit) (g : z6 × Unit) => z7o none g.1) (fun _ _ => rfl) z1b7
structure z2w where
  t6 : Int
  b0 : z6
  b1 : (List Int)
noncomputable def z44 (q : Option Nat) (s : z2w) : Tree (z2w ⊕ (z6 × (List Int))) :=
  .ite (decide ((0 : Int) < s.t6))
    (.ite (!s.b0.bad)
      (.opt (Int × z6) (zf q s.b0) fun r100 =>
        .ite (decide ((s.b1.length + ([r100.1]).length) * 8 ≤ 140737488355328))
          (.leaf (.inl (z2w.mk (IntKind.wrap .i64 (s.t6 - (1 : Int))) r100.2 (s.b1 ++ ([r100.1])))))
          .fail)
      (.leaf (.inr (s.b0, s.b1))))
    (.leaf (.inr (s.b0, s.b1)))
noncomputable def z77 (q : Option Nat) (s : z2w) : Option (z6 × (List Int)) := limQ q (fun s => (z44 q s).run) s
noncomputable def z7y (q : Option Nat) (g0 : z6) : Tree ((List Int) × z6) :=
  .opt (Int × z6) (zf q g0) fun r99 =>
    .opt (z6 × (List Int)) (z77 q (z2w.mk r99.1 r99.2 ([]))) fun l101 =>
      .leaf ((l101.2, l101.1))
noncomputable def z71 (q : Option Nat) (g0 : z6) : Option ((List Int) × z6) := (z7y q g0).run
noncomputable def zek : Arg U (Unit) := aP 0 0 (aKF (.fn 22 [(.ptr 0 0)] []) (aNil))
noncomputable def zf3 : Bls U (z6 × Unit) := bC zb (bNil)
noncomputable def zja (_x : Unit) (_g : z6 × Unit) (r : ((List Int) × z6)) : List (V U) × List (Blk U) := ([vO (cPair (cSl 3) (cUnit)) (r.1, ())], [.cells ((cPair zb (cUnit) : Cdc U (z6 × Unit)).enc (r.2, ())) none])
noncomputable def zk4 : List (V U) → List (Blk U) → Option (FnOut U) := mkSpecG zek zf3 (fun x g => z71 none g.1) zja
noncomputable def znw (x : (Unit) × (Unit) × (Unit) × (Int × Unit) × Unit) (g : (z6 × Unit) × (List Int) × Unit) : z2w := z2w.mk x.2.2.2.1.1 g.1.1 g.2.1
noncomputable def z16u : Tms U ((Unit) × (Unit) × (Unit) × (Int × Unit) × Unit) := tO 0 (cK (.ptr 0 0) (cUnit)) (tO 1 (cK2 (.fn 22 [(.ptr 0 0)] []) (cUnit)) (tO 5 (cK (.row 1 0) (cUnit)) (tO 6 (cPair (cInt .i64) (cUnit)) (tNil))))
noncomputable def z169 : Bls U ((z6 × Unit) × (List Int) × Unit) := bC (cPair zb (cUnit)) (bRv 3 0 (bNil))
noncomputable def zkc (s : z2w) : St U := { tm := [(0, .v (vO (cK (.ptr 0 0) (cUnit)) (()))), (1, .v (vO (cK2 (.fn 22 [(.ptr 0 0)] []) (cUnit)) (()))), (5, .v (vO (cK (.row 1 0) (cUnit)) (()))), (6, .v (vO (cPair (cInt .i64) (cUnit)) (s.t6, ())))], hp := [.cells ((cPair zb (cUnit) : Cdc U (z6 × Unit)).enc (s.b0, ())) none, .row 3 0 s.b1] }
noncomputable def zhq (r : (z6 × (List Int))) : Ex × St U := (.exit 0, { tm := [(5, .v (vO (cK (.row 1 0) (cUnit)) (())))], hp := [.cells ((cPair zb (cUnit) : Cdc U (z6 × Unit)).enc (r.1, ())) none, .row 3 0 r.2] })
noncomputable def ztf (r : (z6 × (List Int))) : Tree (Ex × St U) := .leaf (zhq r)
noncomputable def zm4 : Hd := { keep := [0, 1, 5, 6], xkeep := [4, 5], own := true }
noncomputable def z8h : Env U := { P := Tryz.prog, cd := cd, fns := (addF 22 false (z2q) fns30), lps := (addL 0 zm4 (mkLoop z16u z169 znw (z77 none) ztf) noL), frz := fun _r => false, nt := 26, n0 := 1 }
noncomputable def z11s : Code := (loopAt (Tryz.f21.body.getD .skip) 0 0).getD .skip
theorem z1dm (s : z2w) : round z8h zm4 z11s 0 (zkc s) = (z44 none s).map (sumE zkc zhq) := by kernel_rfl
theorem z1hq : LpOk z8h z11s 0 := mkLoop_ok (A := z16u) (B := z169) (f := znw) (L := z77 none) (tO_ok (cK_ok cUnit_ok) (tO_ok (cK2_ok cUnit_ok) (tO_ok (cK_ok cUnit_ok) (tO_ok (cPair_ok (cInt_ok .i64) cUnit_ok) tNil_ok)))) (bC_ok (cPair_ok zo cUnit_ok) (bRv_ok bNil_ok)) (enc := zkc) (out := ztf) (outS := zhq) (step := z44 none) (fun _ => rfl) (fun _ _ => by kernel_rfl) (by kernel_rfl) (fun _ => rfl) z1dm
theorem z1gz (g0 : z6) : execX false z8h Tryz.f21 (zek.enc ()) (zf3.enc (g0, ())) = (z7y none g0).map (zja () (g0, ())) := by kernel_rfl
theorem z1km : ∀ (x : Unit) (g : z6 × Unit), execX false z8h Tryz.f21 (zek.enc x) (zf3.enc g) = (z7y none g.1).map (zja x g)
  | (), (g0, ()) => z1gz g0
theorem z10x : FnOk Tryz.prog cd 21 zk4 := mk_okG (E := z8h) (A := zek) (B := zf3) false cd_ok (addF_ok z3b zr) Tryz.func21 (by kernel_rfl) (loops_of (addL_ok z1hq noL_ok)) (aP_ok (aKF_ok (aNil_ok))) (bC_ok zo bNil_ok) (T := fun (x : Unit) (g : z6 × Unit) => z7y none g.1) (fun _ _ => rfl) z1km
noncomputable def z5k (q : Option Nat) (g0 : z6) : Tree (Bool × z6) :=
  .opt (Int × z6) (ze q (1 : Int) g0) fun r107 =>
    .ite (r107.2.bad)
      (.leaf ((decide (r107.1 = (1 : Int)), z6.mk r107.2.s r107.2.at_ true)))
      (.leaf ((decide (r107.1 = (1 : Int)), z6.mk r107.2.s r107.2.at_ (decide ((1 : Int) < r107.1)))))
noncomputable def zg (q : Option Nat) (g0 : z6) : Option (Bool × z6) := (z5k q g0).run
noncomputable def zcw : Arg U (Unit) := aP 0 0 (aNil)
noncomputable def zcu : Bls U (z6 × Unit) := bC zb (bNil)
noncomputable def zi0 (_x : Unit) (_g : z6 × Unit) (r : (Bool × z6)) : List (V U) × List (Blk U) := ([vO (cPair cBool (cUnit)) (r.1, ())], [.cells ((cPair zb (cUnit) : Cdc U (z6 × Unit)).enc (r.2, ())) none])
noncomputable def z6k : List (V U) → List (Blk U) → Option (FnOut U) := mkSpecG zcw zcu (fun x g => zg none g.1) zi0
noncomputable def zi6 : Env U := { P := Tryz.prog, cd := cd, fns := (addF 29 false (z36) fns30), lps := noL, frz := fun _r => false, nt := 19, n0 := 1 }
theorem z1iw (g0 : z6) : execX false zi6 Tryz.f24 (zcw.enc ()) (zcu.enc (g0, ())) = (z5k none g0).map (zi0 () (g0, ())) := by kernel_rfl
theorem z1ba : ∀ (x : Unit) (g : z6 × Unit), execX false zi6 Tryz.f24 (zcw.enc x) (zcu.enc g) = (z5k none g.1).map (zi0 x g)
  | (), (g0, ()) => z1iw g0
theorem z9u : FnOk Tryz.prog cd 24 z6k := mk_okG (E := zi6) (A := zcw) (B := zcu) false cd_ok (addF_ok z42 zr) Tryz.func24 (by kernel_rfl) (noLoops_body (by kernel_rfl)) (aP_ok (aNil_ok)) (bC_ok zo bNil_ok) (T := fun (x : Unit) (g : z6 × Unit) => z5k none g.1) (fun _ _ => rfl) z1ba
structure z2e where
  t4 : Int
  t9 : Int
  t12 : Int
  b0 : z6
  b1 : Mmu
  b2 : Mmu
noncomputable def z6j (q : Option Nat) (s : z2e) : Tree (z2e ⊕ (Int × z6 × Mmu × Mmu)) :=
  .ite (decide (s.t12 < (8 : Int)))
    (.opt (Int × z6) (zf q s.b0) fun r109 =>
      .opt (Int × z6) (ze q (1 : Int) r109.2) fun r110 =>
        .opt (Int × z6) (ze q (1 : Int) r110.2) fun r111 =>
          .opt (Bool × z6) (zg q r111.2) fun r112 =>
            .ite (decide (0 ≤ s.t4))
              (.ite (decide (s.t4 < (2 : Int)))
                (.ite (decide (0 ≤ s.t12))
                  (.ite (decide (s.t12 < (8 : Int)))
                    (.opt Page (s.b2.pages[(s.t4).toNat * 8 + (s.t12).toNat * 1]?) fun y113 =>
                      .leaf (.inl (z2e.mk s.t4 s.t9 (IntKind.wrap .i64 (s.t12 + (1 : Int))) r112.2 s.b1 (Mmu.mk s.b2.on (s.b2.pages.set ((s.t4).toNat * 8 + (s.t12).toNat * 1) (Page.mk r109.1 r110.1 r111.1 r112.1)) s.b2.status s.b2.addr))))
                    .fail)
                  .fail)
                .fail)
              .fail)
    (.leaf (.inr (s.t9, s.b0, s.b1, s.b2)))
noncomputable def z3d (q : Option Nat) (s : z2e) : Option (Int × z6 × Mmu × Mmu) := limQ q (fun s => (z6j q s).run) s
structure z2m where
  t9 : Int
  b0 : z6
  b1 : Mmu
  b2 : Mmu
noncomputable def z3f (q : Option Nat) (s : z2m) : Tree (z2m ⊕ (z6 × Mmu × Mmu)) :=
  .ite (decide (s.t9 < (2 : Int)))
    (.opt (Int × z6 × Mmu × Mmu) (z3d q (z2e.mk s.t9 s.t9 (0 : Int) s.b0 s.b1 s.b2)) fun l114 =>
      .leaf (.inl (z2m.mk (IntKind.wrap .i64 (l114.1 + (1 : Int))) l114.2.1 l114.2.2.1 l114.2.2.2)))
    (.leaf (.inr (s.b0, s.b1, s.b2)))
noncomputable def z7p (q : Option Nat) (s : z2m) : Option (z6 × Mmu × Mmu) := limQ q (fun s => (z3f q s).run) s
noncomputable def z99 (q : Option Nat) (g0 : z6) : Tree (Mmu × z6) :=
  .opt (Bool × z6) (zg q g0) fun r108 =>
    .opt (z6 × Mmu × Mmu) (z7p q (z2m.mk (0 : Int) r108.2 (Mmu.mk false (List.replicate 16 (Page.mk (0 : Int) (0 : Int) (0 : Int) false)) 0 0) (Mmu.mk r108.1 (List.replicate 16 (Page.mk (0 : Int) (0 : Int) (0 : Int) false)) 0 0))) fun l115 =>
      .opt (Int × z6) (ze q (1 : Int) l115.1) fun r116 =>
        .opt (Int × z6) (zf q r116.2) fun r117 =>
          .leaf ((Mmu.mk l115.2.2.on l115.2.2.pages r116.1 r117.1, r117.2))
noncomputable def zbt (q : Option Nat) (g0 : z6) : Option (Mmu × z6) := (z99 q g0).run
noncomputable def ze8 : Arg U (Unit) := aP 0 0 (aNil)
noncomputable def z9y : Bls U (z6 × Unit) := bC zb (bNil)
noncomputable def zir (_x : Unit) (_g : z6 × Unit) (r : (Mmu × z6)) : List (V U) × List (Blk U) := ([vA (cPair cMmu (cUnit)) (r.1, ())], [.cells ((cPair zb (cUnit) : Cdc U (z6 × Unit)).enc (r.2, ())) none])
noncomputable def z19i : List (V U) → List (Blk U) → Option (FnOut U) := mkSpecG ze8 z9y (fun x g => zbt none g.1) zir
noncomputable def zp9 (x : (Unit) × (Unit) × (Unit) × (Int × Unit) × Unit) (g : (z6 × Unit) × (Mmu × Unit) × (Mmu × Unit) × Unit) : z2m := z2m.mk x.2.2.2.1.1 g.1.1 g.2.1.1 g.2.2.1.1
noncomputable def zt9 : Tms U ((Unit) × (Unit) × (Unit) × (Int × Unit) × Unit) := tO 0 (cK (.ptr 0 0) (cUnit)) (tO 2 (cK (.ptr 1 0) (cUnit)) (tO 3 (cK (.ptr 2 0) (cUnit)) (tO 9 (cPair (cInt .i64) (cUnit)) (tNil))))
noncomputable def zqf : Bls U ((z6 × Unit) × (Mmu × Unit) × (Mmu × Unit) × Unit) := bC (cPair zb (cUnit)) (bC (cPair cMmu (cUnit)) (bC (cPair cMmu (cUnit)) (bNil)))
noncomputable def zkr (s : z2m) : St U := { tm := [(0, .v (vO (cK (.ptr 0 0) (cUnit)) (()))), (2, .v (vO (cK (.ptr 1 0) (cUnit)) (()))), (3, .v (vO (cK (.ptr 2 0) (cUnit)) (()))), (9, .v (vO (cPair (cInt .i64) (cUnit)) (s.t9, ())))], hp := [.cells ((cPair zb (cUnit) : Cdc U (z6 × Unit)).enc (s.b0, ())) none, .cells ((cPair cMmu (cUnit) : Cdc U (Mmu × Unit)).enc (s.b1, ())) none, .cells ((cPair cMmu (cUnit) : Cdc U (Mmu × Unit)).enc (s.b2, ())) none] }
noncomputable def zhh (r : (z6 × Mmu × Mmu)) : Ex × St U := (.exit 0, { tm := [(0, .v (vO (cK (.ptr 0 0) (cUnit)) (()))), (2, .v (vO (cK (.ptr 1 0) (cUnit)) (()))), (3, .v (vO (cK (.ptr 2 0) (cUnit)) (())))], hp := [.cells ((cPair zb (cUnit) : Cdc U (z6 × Unit)).enc (r.1, ())) none, .cells ((cPair cMmu (cUnit) : Cdc U (Mmu × Unit)).enc (r.2.1, ())) none, .cells ((cPair cMmu (cUnit) : Cdc U (Mmu × Unit)).enc (r.2.2, ())) none] })
noncomputable def z117 (r : (z6 × Mmu × Mmu)) : Tree (Ex × St U) := .leaf (zhh r)
noncomputable def zmp : Hd := { keep := [0, 2, 3, 9], xkeep := [0, 2, 3], own := false }
noncomputable def znk (x : (Unit) × (Unit) × (Unit) × (Int × Unit) × (Int × Unit) × (Int × Unit) × Unit) (g : (z6 × Unit) × (Mmu × Unit) × (Mmu × Unit) × Unit) : z2e := z2e.mk x.2.2.2.1.1 x.2.2.2.2.1.1 x.2.2.2.2.2.1.1 g.1.1 g.2.1.1 g.2.2.1.1
noncomputable def zxo : Tms U ((Unit) × (Unit) × (Unit) × (Int × Unit) × (Int × Unit) × (Int × Unit) × Unit) := tO 0 (cK (.ptr 0 0) (cUnit)) (tO 2 (cK (.ptr 1 0) (cUnit)) (tO 3 (cK (.ptr 2 0) (cUnit)) (tO 4 (cPair (cInt .i64) (cUnit)) (tO 9 (cPair (cInt .i64) (cUnit)) (tO 12 (cPair (cInt .i64) (cUnit)) (tNil))))))
noncomputable def zuv : Bls U ((z6 × Unit) × (Mmu × Unit) × (Mmu × Unit) × Unit) := bC (cPair zb (cUnit)) (bC (cPair cMmu (cUnit)) (bC (cPair cMmu (cUnit)) (bNil)))
noncomputable def ziz (s : z2e) : St U := { tm := [(0, .v (vO (cK (.ptr 0 0) (cUnit)) (()))), (2, .v (vO (cK (.ptr 1 0) (cUnit)) (()))), (3, .v (vO (cK (.ptr 2 0) (cUnit)) (()))), (4, .v (vO (cPair (cInt .i64) (cUnit)) (s.t4, ()))), (9, .v (vO (cPair (cInt .i64) (cUnit)) (s.t9, ()))), (12, .v (vO (cPair (cInt .i64) (cUnit)) (s.t12, ())))], hp := [.cells ((cPair zb (cUnit) : Cdc U (z6 × Unit)).enc (s.b0, ())) none, .cells ((cPair cMmu (cUnit) : Cdc U (Mmu × Unit)).enc (s.b1, ())) none, .cells ((cPair cMmu (cUnit) : Cdc U (Mmu × Unit)).enc (s.b2, ())) none] }
noncomputable def zlk (r : (Int × z6 × Mmu × Mmu)) : Ex × St U := (.exit 2, { tm := [(0, .v (vO (cK (.ptr 0 0) (cUnit)) (()))), (2, .v (vO (cK (.ptr 1 0) (cUnit)) (()))), (3, .v (vO (cK (.ptr 2 0) (cUnit)) (()))), (9, .v (vO (cPair (cInt .i64) (cUnit)) (r.1, ())))], hp := [.cells ((cPair zb (cUnit) : Cdc U (z6 × Unit)).enc (r.2.1, ())) none, .cells ((cPair cMmu (cUnit) : Cdc U (Mmu × Unit)).enc (r.2.2.1, ())) none, .cells ((cPair cMmu (cUnit) : Cdc U (Mmu × Unit)).enc (r.2.2.2, ())) none] })
noncomputable def zr9 (r : (Int × z6 × Mmu × Mmu)) : Tree (Ex × St U) := .leaf (zlk r)
noncomputable def zw3 : Hd := { keep := [0, 2, 3, 4, 9, 12], xkeep := [0, 2, 3, 9], own := false }
noncomputable def z3t : Env U := { P := Tryz.prog, cd := cd, fns := (addF 29 false (z36) (addF 24 false (z6k) (addF 22 false (z2q) fns30))), lps := (addL 0 zmp (mkLoop zt9 zqf zp9 (z7p none) z117) (addL 1 zw3 (mkLoop zxo zuv znk (z3d none) zr9) noL)), frz := fun _r => false, nt := 38, n0 := 1, fps := fun _r _i => bif Nat.beq _r 8 && Nat.beq _i 3 then .wr [0] 3 else bif Nat.beq _r 8 && Nat.beq _i 5 then .wr [0] 3 else bif Nat.beq _r 8 && Nat.beq _i 7 then .wr [0] 3 else bif Nat.beq _r 8 && Nat.beq _i 9 then .wr [0] 3 else bif Nat.beq _r 8 && Nat.beq _i 11 then .rd [] else bif Nat.beq _r 8 && Nat.beq _i 12 then .rd [2] else .none }
noncomputable def zup : Code := (loopAt (Tryz.f23.body.getD .skip) 0 0).getD .skip
theorem z1h6 (s : z2m) : round z3t zmp zup 0 (zkr s) = (z3f none s).map (sumE zkr zhh) := by kernel_rfl
theorem z1d2 : LpOk z3t zup 0 := mkLoop_ok (A := zt9) (B := zqf) (f := zp9) (L := z7p none) (tO_ok (cK_ok cUnit_ok) (tO_ok (cK_ok cUnit_ok) (tO_ok (cK_ok cUnit_ok) (tO_ok (cPair_ok (cInt_ok .i64) cUnit_ok) tNil_ok)))) (bC_ok (cPair_ok zo cUnit_ok) (bC_ok (cPair_ok zj cUnit_ok) (bC_ok (cPair_ok zj cUnit_ok) bNil_ok))) (enc := zkr) (out := z117) (outS := zhh) (step := z3f none) (fun _ => rfl) (fun _ _ => by kernel_rfl) (by kernel_rfl) (fun _ => rfl) z1h6
noncomputable def zqa : Code := (loopAt (Tryz.f23.body.getD .skip) 0 1).getD .skip
theorem z1fm (s : z2e) : round z3t zw3 zqa 1 (ziz s) = (z6j none s).map (sumE ziz zlk) := by kernel_rfl
theorem z1d5 : LpOk z3t zqa 1 := mkLoop_ok (A := zxo) (B := zuv) (f := znk) (L := z3d none) (tO_ok (cK_ok cUnit_ok) (tO_ok (cK_ok cUnit_ok) (tO_ok (cK_ok cUnit_ok) (tO_ok (cPair_ok (cInt_ok .i64) cUnit_ok) (tO_ok (cPair_ok (cInt_ok .i64) cUnit_ok) (tO_ok (cPair_ok (cInt_ok .i64) cUnit_ok) tNil_ok)))))) (bC_ok (cPair_ok zo cUnit_ok) (bC_ok (cPair_ok zj cUnit_ok) (bC_ok (cPair_ok zj cUnit_ok) bNil_ok))) (enc := ziz) (out := zr9) (outS := zlk) (step := z6j none) (fun _ => rfl) (fun _ _ => by kernel_rfl) (by kernel_rfl) (fun _ => rfl) z1fm
theorem z1gv (g0 : z6) : execX false z3t Tryz.f23 (ze8.enc ()) (z9y.enc (g0, ())) = (z99 none g0).map (zir () (g0, ())) := by kernel_rfl
theorem z1i9 : ∀ (x : Unit) (g : z6 × Unit), execX false z3t Tryz.f23 (ze8.enc x) (z9y.enc g) = (z99 none g.1).map (zir x g)
  | (), (g0, ()) => z1gv g0
theorem z1mg : FnOk Tryz.prog cd 23 z19i := mk_okG (E := z3t) (A := ze8) (B := z9y) false cd_ok (addF_ok z42 (addF_ok z9u (addF_ok z3b zr))) Tryz.func23 (by kernel_rfl) (loops_of (addL_ok z1d2 (addL_ok z1d5 noL_ok))) (aP_ok (aNil_ok)) (bC_ok zo bNil_ok) (T := fun (x : Unit) (g : z6 × Unit) => z99 none g.1) (fun _ _ => rfl) z1i9
noncomputable def z6y (q : Option Nat) (x0 : (List UInt8)) (x1 : Int) : Tree ((List UInt8) × Int × Int) :=
  .opt (Int × Int × Int) (z1d q x0 x1 (2 : Int)) fun r137 =>
    .ite (!decide (r137.2.2 = (0 : Int)))
      (.leaf ((([] : List UInt8), (0 : Int), r137.2.2)))
      (.ite (decide ((IntKind.wrap .i64 ((x0.length : Int) - r137.2.1)) < r137.1))
        (.leaf ((([] : List UInt8), (0 : Int), (8 : Int))))
        (.ite (decide (0 ≤ r137.2.1))
          (.ite (decide (r137.2.1 ≤ ((x0.length : Nat) : Int)))
            (.ite (decide (0 ≤ r137.1))
              (.ite (decide (r137.1 ≤ ((((x0.drop ((r137.2.1).toNat)).take (x0.length - (r137.2.1).toNat)).length : Nat) : Int)))
                (.leaf (((((x0.drop ((r137.2.1).toNat)).take (x0.length - (r137.2.1).toNat)).drop (0)).take ((r137.1).toNat - 0), IntKind.wrap .i64 (r137.2.1 + r137.1), (0 : Int))))
                .fail)
              .fail)
            .fail)
          .fail))
noncomputable def z5i (q : Option Nat) (x0 : (List UInt8)) (x1 : Int) : Option ((List UInt8) × Int × Int) := (z6y q x0 x1).run
noncomputable def zf8 : Arg U ((List UInt8) × Int × Unit) := aO cStr (aO (cInt .i64) (aNil))
noncomputable def zc6 : Bls U (Unit) := bNil
noncomputable def zjq (_x : (List UInt8) × Int × Unit) (_g : Unit) (r : ((List UInt8) × Int × Int)) : List (V U) × List (Blk U) := ([vO (cPair cStr (cUnit)) (r.1, ()), vO (cPair (cInt .i64) (cUnit)) (r.2.1, ()), vO (cPair (cInt .i64) (cUnit)) (r.2.2, ())], [])
noncomputable def ztn : List (V U) → List (Blk U) → Option (FnOut U) := mkSpecG zf8 zc6 (fun x _ => z5i none x.1 x.2.1) zjq
noncomputable def zib : Env U := { P := Tryz.prog, cd := cd, fns := fns30, lps := noL, frz := fun _r => false, nt := 34, n0 := 0 }
theorem z1gd (x0 : (List UInt8)) (x1 : Int) : execX false zib Tryz.f106 (zf8.enc (x0, x1, ())) (zc6.enc ()) = (z6y none x0 x1).map (zjq (x0, x1, ()) ()) := by kernel_rfl
theorem z1kn : ∀ (x : (List UInt8) × Int × Unit) (g : Unit), execX false zib Tryz.f106 (zf8.enc x) (zc6.enc g) = (z6y none x.1 x.2.1).map (zjq x g)
  | (x0, x1, ()), () => z1gd x0 x1
theorem z1h3 : FnOk Tryz.prog cd 106 ztn := mk_okG (E := zib) (A := zf8) (B := zc6) false cd_ok zr Tryz.func106 (by kernel_rfl) (noLoops_body (by kernel_rfl)) (aO_ok cStr_ok (aO_ok (cInt_ok .i64) (aNil_ok))) bNil_ok (T := fun (x : (List UInt8) × Int × Unit) (_ : Unit) => z6y none x.1 x.2.1) (fun _ _ => rfl) z1kn
noncomputable def z49 (q : Option Nat) (g0 : z6) : Tree ((List UInt8) × z6) :=
  .opt ((List UInt8) × Int × Int) (z5i q g0.s g0.at_) fun r138 =>
    .ite (!decide (r138.2.2 = (0 : Int)))
      (.leaf ((([] : List UInt8), z6.mk g0.s g0.at_ true)))
      (.leaf ((r138.1, z6.mk g0.s r138.2.1 g0.bad)))
noncomputable def z4t (q : Option Nat) (g0 : z6) : Option ((List UInt8) × z6) := (z49 q g0).run
noncomputable def zca : Arg U (Unit) := aP 0 0 (aNil)
noncomputable def zep : Bls U (z6 × Unit) := bC zb (bNil)
noncomputable def zju (_x : Unit) (_g : z6 × Unit) (r : ((List UInt8) × z6)) : List (V U) × List (Blk U) := ([vO (cPair cStr (cUnit)) (r.1, ())], [.cells ((cPair zb (cUnit) : Cdc U (z6 × Unit)).enc (r.2, ())) none])
noncomputable def zkf : List (V U) → List (Blk U) → Option (FnOut U) := mkSpecG zca zep (fun x g => z4t none g.1) zju
noncomputable def zi8 : Env U := { P := Tryz.prog, cd := cd, fns := (addF 106 false (ztn) fns30), lps := noL, frz := fun _r => false, nt := 29, n0 := 1 }
theorem z1kq (g0 : z6) : execX false zi8 Tryz.f48 (zca.enc ()) (zep.enc (g0, ())) = (z49 none g0).map (zju () (g0, ())) := by kernel_rfl
theorem z1n1 : ∀ (x : Unit) (g : z6 × Unit), execX false zi8 Tryz.f48 (zca.enc x) (zep.enc g) = (z49 none g.1).map (zju x g)
  | (), (g0, ()) => z1kq g0
theorem z181 : FnOk Tryz.prog cd 48 zkf := mk_okG (E := zi8) (A := zca) (B := zep) false cd_ok (addF_ok z1h3 zr) Tryz.func48 (by kernel_rfl) (noLoops_body (by kernel_rfl)) (aP_ok (aNil_ok)) (bC_ok zo bNil_ok) (T := fun (x : Unit) (g : z6 × Unit) => z49 none g.1) (fun _ _ => rfl) z1n1
noncomputable def z9j (q : Option Nat) (g0 : z6) : Tree (Line × z6) :=
  .opt (Bool × z6) (zg q g0) fun r139 =>
    .opt (Bool × z6) (zg q r139.2) fun r140 =>
      .opt (Bool × z6) (zg q r140.2) fun r141 =>
        .opt (Int × z6) (ze q (1 : Int) r141.2) fun r142 =>
          .opt (Bool × z6) (zg q r142.2) fun r143 =>
            .opt (Bool × z6) (zg q r143.2) fun r144 =>
              .opt (Int × z6) (ze q (1 : Int) r144.2) fun r145 =>
                .opt (Int × z6) (ze q (1 : Int) r145.2) fun r146 =>
                  .opt ((List UInt8) × z6) (z4t q r146.2) fun r147 =>
                    .leaf ((Line.mk r139.1 r140.1 r141.1 r142.1 r143.1 r144.1 r145.1 r146.1 r147.1, r147.2))
noncomputable def zaf (q : Option Nat) (g0 : z6) : Option (Line × z6) := (z9j q g0).run
noncomputable def zbf : Arg U (Unit) := aP 0 0 (aNil)
noncomputable def zg3 : Bls U (z6 × Unit) := bC zb (bNil)
noncomputable def zgq (_x : Unit) (_g : z6 × Unit) (r : (Line × z6)) : List (V U) × List (Blk U) := ([vA (cPair cLine (cUnit)) (r.1, ())], [.cells ((cPair zb (cUnit) : Cdc U (z6 × Unit)).enc (r.2, ())) none])
noncomputable def z11c : List (V U) → List (Blk U) → Option (FnOut U) := mkSpecG zbf zg3 (fun x g => zaf none g.1) zgq
noncomputable def zhw : Env U := { P := Tryz.prog, cd := cd, fns := (addF 48 false (zkf) (addF 29 false (z36) (addF 24 false (z6k) fns30))), lps := noL, frz := fun _r => false, nt := 22, n0 := 1 }
theorem z1it (g0 : z6) : execX false zhw Tryz.f26 (zbf.enc ()) (zg3.enc (g0, ())) = (z9j none g0).map (zgq () (g0, ())) := by kernel_rfl
theorem z1h2 : ∀ (x : Unit) (g : z6 × Unit), execX false zhw Tryz.f26 (zbf.enc x) (zg3.enc g) = (z9j none g.1).map (zgq x g)
  | (), (g0, ()) => z1it g0
theorem z1c8 : FnOk Tryz.prog cd 26 z11c := mk_okG (E := zhw) (A := zbf) (B := zg3) false cd_ok (addF_ok z181 (addF_ok z42 (addF_ok z9u zr))) Tryz.func26 (by kernel_rfl) (noLoops_body (by kernel_rfl)) (aP_ok (aNil_ok)) (bC_ok zo bNil_ok) (T := fun (x : Unit) (g : z6 × Unit) => z9j none g.1) (fun _ _ => rfl) z1h2
structure z2n where
  t6 : Int
  b0 : z6
  b1 : (List Line)
noncomputable def z4y (q : Option Nat) (s : z2n) : Tree (z2n ⊕ (z6 × (List Line))) :=
  .ite (decide ((0 : Int) < s.t6))
    (.ite (!s.b0.bad)
      (.opt (Line × z6) (zaf q s.b0) fun r151 =>
        .ite (decide ((s.b1.length + ([r151.1]).length) * 56 ≤ 140737488355328))
          (.leaf (.inl (z2n.mk (IntKind.wrap .i64 (s.t6 - (1 : Int))) r151.2 (s.b1 ++ ([r151.1])))))
          .fail)
      (.leaf (.inr (s.b0, s.b1))))
    (.leaf (.inr (s.b0, s.b1)))
noncomputable def z5e (q : Option Nat) (s : z2n) : Option (z6 × (List Line)) := limQ q (fun s => (z4y q s).run) s
noncomputable def z9k (q : Option Nat) (g0 : z6) : Tree ((List Line) × z6) :=
  .opt (Int × z6) (zf q g0) fun r150 =>
    .opt (z6 × (List Line)) (z5e q (z2n.mk r150.1 r150.2 ([]))) fun l152 =>
      .leaf ((l152.2, l152.1))
noncomputable def z9z (q : Option Nat) (g0 : z6) : Option ((List Line) × z6) := (z9k q g0).run
noncomputable def zb1 : Arg U (Unit) := aP 0 0 (aKF (.fn 26 [(.ptr 0 0)] []) (aNil))
noncomputable def za4 : Bls U (z6 × Unit) := bC zb (bNil)
noncomputable def zjs (_x : Unit) (_g : z6 × Unit) (r : ((List Line) × z6)) : List (V U) × List (Blk U) := ([vO (cPair (cSl 66) (cUnit)) (r.1, ())], [.cells ((cPair zb (cUnit) : Cdc U (z6 × Unit)).enc (r.2, ())) none])
noncomputable def z147 : List (V U) → List (Blk U) → Option (FnOut U) := mkSpecG zb1 za4 (fun x g => z9z none g.1) zjs
noncomputable def z10c (x : (Unit) × (Unit) × (Unit) × (Int × Unit) × Unit) (g : (z6 × Unit) × (List Line) × Unit) : z2n := z2n.mk x.2.2.2.1.1 g.1.1 g.2.1
noncomputable def zsn : Tms U ((Unit) × (Unit) × (Unit) × (Int × Unit) × Unit) := tO 0 (cK (.ptr 0 0) (cUnit)) (tO 1 (cK2 (.fn 26 [(.ptr 0 0)] []) (cUnit)) (tO 5 (cK (.row 1 0) (cUnit)) (tO 6 (cPair (cInt .i64) (cUnit)) (tNil))))
noncomputable def zmn : Bls U ((z6 × Unit) × (List Line) × Unit) := bC (cPair zb (cUnit)) (bRv 66 0 (bNil))
noncomputable def zjv (s : z2n) : St U := { tm := [(0, .v (vO (cK (.ptr 0 0) (cUnit)) (()))), (1, .v (vO (cK2 (.fn 26 [(.ptr 0 0)] []) (cUnit)) (()))), (5, .v (vO (cK (.row 1 0) (cUnit)) (()))), (6, .v (vO (cPair (cInt .i64) (cUnit)) (s.t6, ())))], hp := [.cells ((cPair zb (cUnit) : Cdc U (z6 × Unit)).enc (s.b0, ())) none, .row 66 0 s.b1] }
noncomputable def zgw (r : (z6 × (List Line))) : Ex × St U := (.exit 0, { tm := [(5, .v (vO (cK (.row 1 0) (cUnit)) (())))], hp := [.cells ((cPair zb (cUnit) : Cdc U (z6 × Unit)).enc (r.1, ())) none, .row 66 0 r.2] })
noncomputable def zuc (r : (z6 × (List Line))) : Tree (Ex × St U) := .leaf (zgw r)
noncomputable def zwm : Hd := { keep := [0, 1, 5, 6], xkeep := [4, 5], own := true }
noncomputable def z8t : Env U := { P := Tryz.prog, cd := cd, fns := (addF 26 false (z11c) (addF 22 false (z2q) fns30)), lps := (addL 0 zwm (mkLoop zsn zmn z10c (z5e none) zuc) noL), frz := fun _r => false, nt := 26, n0 := 1 }
noncomputable def z1a7 : Code := (loopAt (Tryz.f25.body.getD .skip) 0 0).getD .skip
theorem z1jb (s : z2n) : round z8t zwm z1a7 0 (zjv s) = (z4y none s).map (sumE zjv zgw) := by kernel_rfl
theorem z1b1 : LpOk z8t z1a7 0 := mkLoop_ok (A := zsn) (B := zmn) (f := z10c) (L := z5e none) (tO_ok (cK_ok cUnit_ok) (tO_ok (cK2_ok cUnit_ok) (tO_ok (cK_ok cUnit_ok) (tO_ok (cPair_ok (cInt_ok .i64) cUnit_ok) tNil_ok)))) (bC_ok (cPair_ok zo cUnit_ok) (bRv_ok bNil_ok)) (enc := zjv) (out := zuc) (outS := zgw) (step := z4y none) (fun _ => rfl) (fun _ _ => by kernel_rfl) (by kernel_rfl) (fun _ => rfl) z1jb
theorem z1m2 (g0 : z6) : execX false z8t Tryz.f25 (zb1.enc ()) (za4.enc (g0, ())) = (z9k none g0).map (zjs () (g0, ())) := by kernel_rfl
theorem z1ey : ∀ (x : Unit) (g : z6 × Unit), execX false z8t Tryz.f25 (zb1.enc x) (za4.enc g) = (z9k none g.1).map (zjs x g)
  | (), (g0, ()) => z1m2 g0
theorem z1lb : FnOk Tryz.prog cd 25 z147 := mk_okG (E := z8t) (A := zb1) (B := za4) false cd_ok (addF_ok z1c8 (addF_ok z3b zr)) Tryz.func25 (by kernel_rfl) (loops_of (addL_ok z1b1 noL_ok)) (aP_ok (aKF_ok (aNil_ok))) (bC_ok zo bNil_ok) (T := fun (x : Unit) (g : z6 × Unit) => z9k none g.1) (fun _ _ => rfl) z1ey
structure z1o where
  t6 : Int
  b0 : z6
  b1 : (List (List UInt8))
noncomputable def z43 (q : Option Nat) (s : z1o) : Tree (z1o ⊕ (z6 × (List (List UInt8)))) :=
  .ite (decide ((0 : Int) < s.t6))
    (.ite (!s.b0.bad)
      (.opt ((List UInt8) × z6) (z4t q s.b0) fun r167 =>
        .ite (decide ((s.b1.length + ([r167.1]).length) * 16 ≤ 140737488355328))
          (.leaf (.inl (z1o.mk (IntKind.wrap .i64 (s.t6 - (1 : Int))) r167.2 (s.b1 ++ ([r167.1])))))
          .fail)
      (.leaf (.inr (s.b0, s.b1))))
    (.leaf (.inr (s.b0, s.b1)))
noncomputable def z5u (q : Option Nat) (s : z1o) : Option (z6 × (List (List UInt8))) := limQ q (fun s => (z43 q s).run) s
noncomputable def z9d (q : Option Nat) (g0 : z6) : Tree ((List (List UInt8)) × z6) :=
  .opt (Int × z6) (zf q g0) fun r166 =>
    .opt (z6 × (List (List UInt8))) (z5u q (z1o.mk r166.1 r166.2 ([]))) fun l168 =>
      .leaf ((l168.2, l168.1))
noncomputable def z87 (q : Option Nat) (g0 : z6) : Option ((List (List UInt8)) × z6) := (z9d q g0).run
noncomputable def zcs : Arg U (Unit) := aP 0 0 (aKF (.fn 48 [(.ptr 0 0)] []) (aNil))
noncomputable def zds : Bls U (z6 × Unit) := bC zb (bNil)
noncomputable def zh6 (_x : Unit) (_g : z6 × Unit) (r : ((List (List UInt8)) × z6)) : List (V U) × List (Blk U) := ([vO (cPair (cSl 9) (cUnit)) (r.1, ())], [.cells ((cPair zb (cUnit) : Cdc U (z6 × Unit)).enc (r.2, ())) none])
noncomputable def zj3 : List (V U) → List (Blk U) → Option (FnOut U) := mkSpecG zcs zds (fun x g => z87 none g.1) zh6
noncomputable def z15p (x : (Unit) × (Unit) × (Unit) × (Int × Unit) × Unit) (g : (z6 × Unit) × (List (List UInt8)) × Unit) : z1o := z1o.mk x.2.2.2.1.1 g.1.1 g.2.1
noncomputable def z17b : Tms U ((Unit) × (Unit) × (Unit) × (Int × Unit) × Unit) := tO 0 (cK (.ptr 0 0) (cUnit)) (tO 1 (cK2 (.fn 48 [(.ptr 0 0)] []) (cUnit)) (tO 5 (cK (.row 1 0) (cUnit)) (tO 6 (cPair (cInt .i64) (cUnit)) (tNil))))
noncomputable def zsd : Bls U ((z6 × Unit) × (List (List UInt8)) × Unit) := bC (cPair zb (cUnit)) (bRv 9 0 (bNil))
noncomputable def zlh (s : z1o) : St U := { tm := [(0, .v (vO (cK (.ptr 0 0) (cUnit)) (()))), (1, .v (vO (cK2 (.fn 48 [(.ptr 0 0)] []) (cUnit)) (()))), (5, .v (vO (cK (.row 1 0) (cUnit)) (()))), (6, .v (vO (cPair (cInt .i64) (cUnit)) (s.t6, ())))], hp := [.cells ((cPair zb (cUnit) : Cdc U (z6 × Unit)).enc (s.b0, ())) none, .row 9 0 s.b1] }
noncomputable def zln (r : (z6 × (List (List UInt8)))) : Ex × St U := (.exit 0, { tm := [(5, .v (vO (cK (.row 1 0) (cUnit)) (())))], hp := [.cells ((cPair zb (cUnit) : Cdc U (z6 × Unit)).enc (r.1, ())) none, .row 9 0 r.2] })
noncomputable def z16f (r : (z6 × (List (List UInt8)))) : Tree (Ex × St U) := .leaf (zln r)
noncomputable def z173 : Hd := { keep := [0, 1, 5, 6], xkeep := [4, 5], own := true }
noncomputable def z8r : Env U := { P := Tryz.prog, cd := cd, fns := (addF 48 false (zkf) (addF 22 false (z2q) fns30)), lps := (addL 0 z173 (mkLoop z17b zsd z15p (z5u none) z16f) noL), frz := fun _r => false, nt := 26, n0 := 1 }
noncomputable def z19p : Code := (loopAt (Tryz.f49.body.getD .skip) 0 0).getD .skip
theorem z1ke (s : z1o) : round z8r z173 z19p 0 (zlh s) = (z43 none s).map (sumE zlh zln) := by kernel_rfl
theorem z1co : LpOk z8r z19p 0 := mkLoop_ok (A := z17b) (B := zsd) (f := z15p) (L := z5u none) (tO_ok (cK_ok cUnit_ok) (tO_ok (cK2_ok cUnit_ok) (tO_ok (cK_ok cUnit_ok) (tO_ok (cPair_ok (cInt_ok .i64) cUnit_ok) tNil_ok)))) (bC_ok (cPair_ok zo cUnit_ok) (bRv_ok bNil_ok)) (enc := zlh) (out := z16f) (outS := zln) (step := z43 none) (fun _ => rfl) (fun _ _ => by kernel_rfl) (by kernel_rfl) (fun _ => rfl) z1ke
theorem z1au (g0 : z6) : execX false z8r Tryz.f49 (zcs.enc ()) (zds.enc (g0, ())) = (z9d none g0).map (zh6 () (g0, ())) := by kernel_rfl
theorem z1hd : ∀ (x : Unit) (g : z6 × Unit), execX false z8r Tryz.f49 (zcs.enc x) (zds.enc g) = (z9d none g.1).map (zh6 x g)
  | (), (g0, ()) => z1au g0
theorem ztq : FnOk Tryz.prog cd 49 zj3 := mk_okG (E := z8r) (A := zcs) (B := zds) false cd_ok (addF_ok z181 (addF_ok z3b zr)) Tryz.func49 (by kernel_rfl) (loops_of (addL_ok z1co noL_ok)) (aP_ok (aKF_ok (aNil_ok))) (bC_ok zo bNil_ok) (T := fun (x : Unit) (g : z6 × Unit) => z9d none g.1) (fun _ _ => rfl) z1hd
noncomputable def z7x (q : Option Nat) (g0 : z6) : Tree (Disk × z6) :=
  .opt ((List (List UInt8)) × z6) (z87 q g0) fun r169 =>
    .opt ((List Int) × z6) (z71 q r169.2) fun r170 =>
      .opt (Bool × z6) (zg q r170.2) fun r171 =>
        .opt (Bool × z6) (zg q r171.2) fun r172 =>
          .opt (Bool × z6) (zg q r172.2) fun r173 =>
            .opt (Int × z6) (ze q (1 : Int) r173.2) fun r174 =>
              .opt (Int × z6) (zf q r174.2) fun r175 =>
                .opt (Int × z6) (zf q r175.2) fun r176 =>
                  .opt (Int × z6) (zf q r176.2) fun r177 =>
                    .opt (Int × z6) (ze q (1 : Int) r177.2) fun r178 =>
                      .leaf ((Disk.mk (Drive.mk r169.1 r170.1) r171.1 r172.1 r173.1 r174.1 r175.1 r176.1 r177.1 r178.1, r178.2))
noncomputable def zc9 (q : Option Nat) (g0 : z6) : Option (Disk × z6) := (z7x q g0).run
noncomputable def zdg : Arg U (Unit) := aP 0 0 (aNil)
noncomputable def zbg : Bls U (z6 × Unit) := bC zb (bNil)
noncomputable def zgl (_x : Unit) (_g : z6 × Unit) (r : (Disk × z6)) : List (V U) × List (Blk U) := ([vA (cPair cDisk (cUnit)) (r.1, ())], [.cells ((cPair zb (cUnit) : Cdc U (z6 × Unit)).enc (r.2, ())) none])
noncomputable def zmy : List (V U) → List (Blk U) → Option (FnOut U) := mkSpecG zdg zbg (fun x g => zc9 none g.1) zgl
noncomputable def zhb : Env U := { P := Tryz.prog, cd := cd, fns := (addF 49 false (zj3) (addF 29 false (z36) (addF 24 false (z6k) (addF 22 false (z2q) (addF 21 false (zk4) fns30))))), lps := noL, frz := fun _r => false, nt := 31, n0 := 1, fps := fun _r _i => bif Nat.beq _r 2 && Nat.beq _i 0 then .rd [2] else bif Nat.beq _r 2 && Nat.beq _i 2 then .wr [0] 3 else bif Nat.beq _r 2 && Nat.beq _i 4 then .wr [0] 3 else bif Nat.beq _r 2 && Nat.beq _i 6 then .wr [0] 3 else bif Nat.beq _r 2 && Nat.beq _i 8 then .wr [0] 3 else bif Nat.beq _r 2 && Nat.beq _i 10 then .wr [0] 3 else bif Nat.beq _r 2 && Nat.beq _i 12 then .wr [0] 3 else bif Nat.beq _r 2 && Nat.beq _i 14 then .wr [0] 3 else bif Nat.beq _r 2 && Nat.beq _i 16 then .wr [0] 3 else .none }
theorem z1l7 (g0 : z6) : execX false zhb Tryz.f27 (zdg.enc ()) (zbg.enc (g0, ())) = (z7x none g0).map (zgl () (g0, ())) := by kernel_rfl
theorem z1iz : ∀ (x : Unit) (g : z6 × Unit), execX false zhb Tryz.f27 (zdg.enc x) (zbg.enc g) = (z7x none g.1).map (zgl x g)
  | (), (g0, ()) => z1l7 g0
theorem z1hc : FnOk Tryz.prog cd 27 zmy := mk_okG (E := zhb) (A := zdg) (B := zbg) false cd_ok (addF_ok ztq (addF_ok z42 (addF_ok z9u (addF_ok z3b (addF_ok z10x zr))))) Tryz.func27 (by kernel_rfl) (noLoops_body (by kernel_rfl)) (aP_ok (aNil_ok)) (bC_ok zo bNil_ok) (T := fun (x : Unit) (g : z6 × Unit) => z7x none g.1) (fun _ _ => rfl) z1iz
noncomputable def z7w (q : Option Nat) (g0 : z6) : Tree (Tape × z6) :=
  .opt ((List (List UInt8)) × z6) (z87 q g0) fun r191 =>
    .opt (Int × z6) (ze q (1 : Int) r191.2) fun r192 =>
      .opt (Bool × z6) (zg q r192.2) fun r193 =>
        .opt (Bool × z6) (zg q r193.2) fun r194 =>
          .opt (Bool × z6) (zg q r194.2) fun r195 =>
            .opt (Bool × z6) (zg q r195.2) fun r196 =>
              .opt (Bool × z6) (zg q r196.2) fun r197 =>
                .opt (Int × z6) (ze q (1 : Int) r197.2) fun r198 =>
                  .opt (Int × z6) (zf q r198.2) fun r199 =>
                    .opt (Int × z6) (zf q r199.2) fun r200 =>
                      .opt (Int × z6) (ze q (1 : Int) r200.2) fun r201 =>
                        .leaf ((Tape.mk r191.1 r192.1 r193.1 r194.1 r195.1 r196.1 r197.1 r198.1 r199.1 r200.1 r201.1, r201.2))
noncomputable def zg0 (q : Option Nat) (g0 : z6) : Option (Tape × z6) := (z7w q g0).run
noncomputable def zf9 : Arg U (Unit) := aP 0 0 (aNil)
noncomputable def zan : Bls U (z6 × Unit) := bC zb (bNil)
noncomputable def zj4 (_x : Unit) (_g : z6 × Unit) (r : (Tape × z6)) : List (V U) × List (Blk U) := ([vA (cPair cTape (cUnit)) (r.1, ())], [.cells ((cPair zb (cUnit) : Cdc U (z6 × Unit)).enc (r.2, ())) none])
noncomputable def z12t : List (V U) → List (Blk U) → Option (FnOut U) := mkSpecG zf9 zan (fun x g => zg0 none g.1) zj4
noncomputable def zkh : Env U := { P := Tryz.prog, cd := cd, fns := (addF 49 false (zj3) (addF 29 false (z36) (addF 24 false (z6k) (addF 22 false (z2q) fns30)))), lps := noL, frz := fun _r => false, nt := 28, n0 := 1 }
theorem z1av (g0 : z6) : execX false zkh Tryz.f28 (zf9.enc ()) (zan.enc (g0, ())) = (z7w none g0).map (zj4 () (g0, ())) := by kernel_rfl
theorem z1jk : ∀ (x : Unit) (g : z6 × Unit), execX false zkh Tryz.f28 (zf9.enc x) (zan.enc g) = (z7w none g.1).map (zj4 x g)
  | (), (g0, ()) => z1av g0
theorem z1b8 : FnOk Tryz.prog cd 28 z12t := mk_okG (E := zkh) (A := zf9) (B := zan) false cd_ok (addF_ok ztq (addF_ok z42 (addF_ok z9u (addF_ok z3b zr)))) Tryz.func28 (by kernel_rfl) (noLoops_body (by kernel_rfl)) (aP_ok (aNil_ok)) (bC_ok zo bNil_ok) (T := fun (x : Unit) (g : z6 × Unit) => z7w none g.1) (fun _ _ => rfl) z1jk
noncomputable def z6o (q : Option Nat) (x0 : (List UInt8)) : Tree (Machine × Int) :=
  .opt ((List UInt8) × Int) (z54 q x0) fun r202 =>
    .ite (!decide (r202.2 = (0 : Int)))
      (.leaf ((Machine.mk (Cpu.mk (List.replicate 6 (0 : Int)) (List.replicate 2 (0 : Int)) 0 0) ([]) ([]) (Mmu.mk false (List.replicate 16 (Page.mk (0 : Int) (0 : Int) (0 : Int) false)) 0 0) (Clock.mk false false 0 0) ([]) (Disk.mk (Drive.mk ([]) ([])) false false false 0 0 0 0 0) (Tape.mk ([]) 0 false false false false false 0 0 0 0) 0 false false 0 false, r202.2)))
      (.opt Bool (zfa r202.1 ([69, 77, 85, 49] : List UInt8)) fun r203 =>
        .ite (!r203)
          (.leaf ((Machine.mk (Cpu.mk (List.replicate 6 (0 : Int)) (List.replicate 2 (0 : Int)) 0 0) ([]) ([]) (Mmu.mk false (List.replicate 16 (Page.mk (0 : Int) (0 : Int) (0 : Int) false)) 0 0) (Clock.mk false false 0 0) ([]) (Disk.mk (Drive.mk ([]) ([])) false false false 0 0 0 0 0) (Tape.mk ([]) 0 false false false false false 0 0 0 0) 0 false false 0 false, (9 : Int))))
          (.opt (Cpu × z6) (z9w q (z6.mk r202.1 (4 : Int) false)) fun r204 =>
            .opt ((List Int) × z6) (z71 q r204.2) fun r205 =>
              .opt ((List Int) × z6) (z71 q r205.2) fun r206 =>
                .opt (Mmu × z6) (zbt q r206.2) fun r207 =>
                  .opt (Bool × z6) (zg q r207.2) fun r208 =>
                    .opt (Bool × z6) (zg q r208.2) fun r209 =>
                      .opt (Int × z6) (zf q r209.2) fun r210 =>
                        .opt (Int × z6) (zf q r210.2) fun r211 =>
                          .opt ((List Line) × z6) (z9z q r211.2) fun r212 =>
                            .opt (Disk × z6) (zc9 q r212.2) fun r213 =>
                              .opt (Tape × z6) (zg0 q r213.2) fun r214 =>
                                .opt (Int × z6) (ze q (6 : Int) r214.2) fun r215 =>
                                  .opt (Bool × z6) (zg q r215.2) fun r216 =>
                                    .opt (Bool × z6) (zg q r216.2) fun r217 =>
                                      .opt (Int × z6) (zf q r217.2) fun r218 =>
                                        .opt (Bool × z6) (zg q r218.2) fun r219 =>
                                          .ite (r219.2.bad)
                                            (.leaf ((Machine.mk (Cpu.mk (List.replicate 6 (0 : Int)) (List.replicate 2 (0 : Int)) 0 0) ([]) ([]) (Mmu.mk false (List.replicate 16 (Page.mk (0 : Int) (0 : Int) (0 : Int) false)) 0 0) (Clock.mk false false 0 0) ([]) (Disk.mk (Drive.mk ([]) ([])) false false false 0 0 0 0 0) (Tape.mk ([]) 0 false false false false false 0 0 0 0) 0 false false 0 false, (9 : Int))))
                                            (.ite (!decide (r219.2.at_ = (r202.1.length : Int)))
                                              (.leaf ((Machine.mk (Cpu.mk (List.replicate 6 (0 : Int)) (List.replicate 2 (0 : Int)) 0 0) ([]) ([]) (Mmu.mk false (List.replicate 16 (Page.mk (0 : Int) (0 : Int) (0 : Int) false)) 0 0) (Clock.mk false false 0 0) ([]) (Disk.mk (Drive.mk ([]) ([])) false false false 0 0 0 0 0) (Tape.mk ([]) 0 false false false false false 0 0 0 0) 0 false false 0 false, (9 : Int))))
                                              (.opt Bool (zt q (Machine.mk r204.1 r205.1 r206.1 r207.1 (Clock.mk r208.1 r209.1 r210.1 r211.1) r212.1 r213.1 r214.1 r215.1 r216.1 r217.1 r218.1 r219.1)) fun r220 =>
                                                .ite (!r220)
                                                  (.leaf ((Machine.mk (Cpu.mk (List.replicate 6 (0 : Int)) (List.replicate 2 (0 : Int)) 0 0) ([]) ([]) (Mmu.mk false (List.replicate 16 (Page.mk (0 : Int) (0 : Int) (0 : Int) false)) 0 0) (Clock.mk false false 0 0) ([]) (Disk.mk (Drive.mk ([]) ([])) false false false 0 0 0 0 0) (Tape.mk ([]) 0 false false false false false 0 0 0 0) 0 false false 0 false, (9 : Int))))
                                                  (.leaf ((Machine.mk r204.1 r205.1 r206.1 r207.1 (Clock.mk r208.1 r209.1 r210.1 r211.1) r212.1 r213.1 r214.1 r215.1 r216.1 r217.1 r218.1 r219.1, (0 : Int))))))))
noncomputable def zp (q : Option Nat) (x0 : (List UInt8)) : Option (Machine × Int) := (z6o q x0).run
noncomputable def z134 : Arg U ((List UInt8) × Unit) := aO cStr (aNil)
noncomputable def zm1 (r : (Machine × Int)) : List (V U) × List (Blk U) := ([vA cMachine r.1, vO (cInt .i64) r.2], [])
noncomputable def zo6 : List (V U) → List (Blk U) → Option (FnOut U) := mkSpec z134 bNil (fun x _ => zp none x.1) zm1
noncomputable def zus : Env U := { P := Tryz.prog, cd := cd, fns := (addF 29 false (z36) (addF 28 false (z12t) (addF 27 false (zmy) (addF 25 false (z147) (addF 24 false (z6k) (addF 23 false (z19i) (addF 22 false (z2q) (addF 21 false (zk4) (addF 20 false (zyf) fns30))))))))), lps := noL, frz := fun _r => false, nt := 93, n0 := 0 }
theorem z1jn (x : (List UInt8) × Unit) (g : Unit) : execF zus Tryz.f7 (z134.enc x) (bNil.enc g) = (z6o none x.1).map zm1 := by kernel_rfl
theorem z1jj : FnOk Tryz.prog cd 7 zo6 := mk_ok (E := zus) cd_ok (addF_ok z42 (addF_ok z1b8 (addF_ok z1hc (addF_ok z1lb (addF_ok z9u (addF_ok z1mg (addF_ok z3b (addF_ok z10x (addF_ok z1fa zr))))))))) Tryz.func7 (by kernel_rfl) (noLoops_body (by kernel_rfl)) (aO_ok cStr_ok (aNil_ok)) bNil_ok (T := fun x _ => z6o none x.1) (fun _ _ => rfl) z1jn
noncomputable def fns7 := addF 7 true zo6 fns30
theorem zzk : ∀ f q t, fns7 f = some (q, t) → FnOk Tryz.prog cd f t := addF_ok z1jj zr
noncomputable def zdr (x0 : Line) : Tree Bool :=
  .ite (decide (x0.rxData < (0 : Int)))
    (.leaf (false))
    (.ite (decide ((255 : Int) < x0.rxData))
      (.leaf (false))
      (.ite (decide (x0.txData < (0 : Int)))
        (.leaf (false))
        (.ite (decide ((255 : Int) < x0.txData))
          (.leaf (false))
          (.ite (decide ((4096 : Int) < (x0.out.length : Int)))
            (.leaf (false))
            (.ite (decide ((0 : Int) ≤ x0.txLeft))
              (.ite (decide (x0.txLeft ≤ (4 : Int)))
                (.leaf ((x0.txReady == (decide (x0.txLeft = (0 : Int))))))
                (.leaf (false)))
              (.leaf (false)))))))
noncomputable def zel (x0 : Line) : Option Bool := (zdr x0).run
noncomputable def z17l : Arg U (Line × Unit) := aA cLine (aNil)
noncomputable def z182 (r : Bool) : List (V U) × List (Blk U) := ([vO cBool r], [])
noncomputable def z174 : List (V U) → List (Blk U) → Option (FnOut U) := mkSpec z17l bNil (fun x _ => zel x.1) z182
noncomputable def zri : Env U := { P := Tryz.prog, cd := cd, fns := fns7, lps := noL, frz := fun _r => false, nt := 43, n0 := 0 }
theorem z1j7 (x : Line × Unit) (g : Unit) : execF zri Tryz.f98 (z17l.enc x) (bNil.enc g) = (zdr x.1).map z182 := by kernel_rfl
theorem z1hr : FnOk Tryz.prog cd 98 z174 := mk_ok (E := zri) cd_ok zzk Tryz.func98 (by kernel_rfl) (noLoops_body (by kernel_rfl)) (aA_ok zav (aNil_ok)) bNil_ok (T := fun x _ => zdr x.1) (fun _ _ => rfl) z1j7
noncomputable def fns98 := addF 98 true z174 fns7
theorem zn4 : ∀ f q t, fns98 f = some (q, t) → FnOk Tryz.prog cd f t := addF_ok z1hr zzk
noncomputable def zef (x0 : Int) : Tree Bool :=
  .ite (decide ((256 : Int) ≤ x0))
    (.ite (decide (x0 ≤ (32768 : Int)))
      (.ite (decide ((64 : Int) = 0))
        .fail
        (.leaf (decide (((x0).tmod (64 : Int)) = (0 : Int)))))
      (.leaf (false)))
    (.leaf (false))
noncomputable def zft (x0 : Int) : Option Bool := (zef x0).run
noncomputable def z11p : Arg U (Int × Unit) := aO (cInt .i64) (aNil)
noncomputable def z192 (r : Bool) : List (V U) × List (Blk U) := ([vO cBool r], [])
noncomputable def zy5 : List (V U) → List (Blk U) → Option (FnOut U) := mkSpec z11p bNil (fun x _ => zft x.1) z192
noncomputable def zyy : Env U := { P := Tryz.prog, cd := cd, fns := fns98, lps := noL, frz := fun _r => false, nt := 14, n0 := 0 }
theorem z1bk (x : Int × Unit) (g : Unit) : execF zyy Tryz.f132 (z11p.enc x) (bNil.enc g) = (zef x.1).map z192 := by kernel_rfl
theorem z1k8 : FnOk Tryz.prog cd 132 zy5 := mk_ok (E := zyy) cd_ok zn4 Tryz.func132 (by kernel_rfl) (noLoops_body (by kernel_rfl)) (aO_ok (cInt_ok .i64) (aNil_ok)) bNil_ok (T := fun x _ => zef x.1) (fun _ _ => rfl) z1bk
noncomputable def fns132 := addF 132 true zy5 fns98
theorem zmj : ∀ f q t, fns132 f = some (q, t) → FnOk Tryz.prog cd f t := addF_ok z1k8 zn4
structure z2i where
  t0 : (List Int)
  t1 : (List Int)
  t5 : Int
noncomputable def z3j (s : z2i) : Tree (z2i ⊕ (((List Int) × (List Int) × Bool) ⊕ ((List Int) × (List Int)))) :=
  .ite (decide (s.t5 < (s.t0.length : Int)))
    (.ite (decide (0 ≤ s.t5))
      (.opt Int (s.t0[(s.t5).toNat]?) fun y222 =>
        .ite (decide (y222 < (0 : Int)))
          (.leaf (.inr (.inl (s.t0, s.t1, false))))
          (.ite (decide (0 ≤ s.t5))
            (.opt Int (s.t0[(s.t5).toNat]?) fun y223 =>
              .ite (decide ((65535 : Int) < y223))
                (.leaf (.inr (.inl (s.t0, s.t1, false))))
                (.leaf (.inl (z2i.mk s.t0 s.t1 (IntKind.wrap .i64 (s.t5 + (1 : Int)))))))
            .fail))
      .fail)
    (.leaf (.inr (.inr (s.t0, s.t1))))
noncomputable def zcr (q : Option Nat) (s : z2i) : Option (((List Int) × (List Int) × Bool) ⊕ ((List Int) × (List Int))) := limQ q (fun s => (z3j s).run) s
structure z14 where
  t0 : (List Int)
  t1 : (List Int)
  t6 : Int
noncomputable def z11 (s : z14) : Tree (z14 ⊕ (Bool ⊕ Unit)) :=
  .ite (decide (s.t6 < (s.t1.length : Int)))
    (.ite (decide (0 ≤ s.t6))
      (.opt Int (s.t1[(s.t6).toNat]?) fun y227 =>
        .ite (decide (y227 < (0 : Int)))
          (.leaf (.inr (.inl false)))
          (.ite (decide (0 ≤ s.t6))
            (.opt Int (s.t1[(s.t6).toNat]?) fun y228 =>
              .ite (decide ((IntKind.wrap .i64 ((2 : Int) * (s.t0.length : Int))) ≤ y228))
                (.leaf (.inr (.inl false)))
                (.ite (decide (0 ≤ s.t6))
                  (.opt Int (s.t1[(s.t6).toNat]?) fun y229 =>
                    .ite (decide ((2 : Int) = 0))
                      .fail
                      (.ite (!decide (((y229).tmod (2 : Int)) = (0 : Int)))
                        (.leaf (.inr (.inl false)))
                        (.ite (decide ((0 : Int) < s.t6))
                          (.ite (decide (0 ≤ s.t6))
                            (.opt Int (s.t1[(s.t6).toNat]?) fun y230 =>
                              .ite (decide (0 ≤ IntKind.wrap .i64 (s.t6 - (1 : Int))))
                                (.opt Int (s.t1[(IntKind.wrap .i64 (s.t6 - (1 : Int))).toNat]?) fun y231 =>
                                  .ite (decide (y230 ≤ y231))
                                    (.leaf (.inr (.inl false)))
                                    (.leaf (.inl (z14.mk s.t0 s.t1 (IntKind.wrap .i64 (s.t6 + (1 : Int)))))))
                                .fail)
                            .fail)
                          (.leaf (.inl (z14.mk s.t0 s.t1 (IntKind.wrap .i64 (s.t6 + (1 : Int)))))))))
                  .fail))
            .fail))
      .fail)
    (.leaf (.inr (.inr ())))
noncomputable def zf5 (q : Option Nat) (s : z14) : Option (Bool ⊕ Unit) := limQ q (fun s => (z11 s).run) s
noncomputable def zax (q : Option Nat) (x0 : (List Int)) (x1 : (List Int)) : Tree Bool :=
  .opt Bool (zft (IntKind.wrap .i64 ((2 : Int) * (x0.length : Int)))) fun r221 =>
    .ite (!r221)
      (.leaf (false))
      (.opt (((List Int) × (List Int) × Bool) ⊕ ((List Int) × (List Int))) (zcr q (z2i.mk x0 x1 (0 : Int))) fun l224 =>
        .ite (l224.isLeft)
          (.opt ((List Int) × (List Int) × Bool) (l224.getLeft?) fun a225 =>
            .leaf (a225.2.2))
          (.opt ((List Int) × (List Int)) (l224.getRight?) fun b226 =>
            .opt (Bool ⊕ Unit) (zf5 q (z14.mk b226.1 b226.2 (0 : Int))) fun l232 =>
              .ite (l232.isLeft)
                (.opt Bool (l232.getLeft?) fun a233 =>
                  .leaf (a233))
                (.opt Unit (l232.getRight?) fun b234 =>
                  .leaf (true))))
noncomputable def zd5 (q : Option Nat) (x0 : (List Int)) (x1 : (List Int)) : Option Bool := (zax q x0 x1).run
noncomputable def z15a : Arg U ((List Int) × (List Int) × Unit) := aO (cSl 3) (aO (cSl 3) (aNil))
noncomputable def ztm (r : Bool) : List (V U) × List (Blk U) := ([vO cBool r], [])
noncomputable def z162 : List (V U) → List (Blk U) → Option (FnOut U) := mkSpec z15a bNil (fun x _ => zd5 none x.1 x.2.1) ztm
noncomputable def z139 (x : ((List Int) × Unit) × ((List Int) × Unit) × (Int × Unit) × Unit) (_g : Unit) : z2i := z2i.mk x.1.1 x.2.1.1 x.2.2.1.1
noncomputable def z14y : Tms U (((List Int) × Unit) × ((List Int) × Unit) × (Int × Unit) × Unit) := tO 0 (cPair (cSl 3) (cUnit)) (tO 1 (cPair (cSl 3) (cUnit)) (tO 5 (cPair (cInt .i64) (cUnit)) (tNil)))
noncomputable def z15c : Bls U (Unit) := bNil
noncomputable def zhi (s : z2i) : St U := { tm := [(0, .v (vO (cPair (cSl 3) (cUnit)) (s.t0, ()))), (1, .v (vO (cPair (cSl 3) (cUnit)) (s.t1, ()))), (5, .v (vO (cPair (cInt .i64) (cUnit)) (s.t5, ())))], hp := [] }
noncomputable def zyw : (((List Int) × (List Int) × Bool) ⊕ ((List Int) × (List Int))) → Ex × St U
  | .inl r => (.ret, { tm := [(0, .v (vO (cPair (cSl 3) (cUnit)) (r.1, ()))), (1, .v (vO (cPair (cSl 3) (cUnit)) (r.2.1, ()))), (4, .v (vO (cPair cBool (cUnit)) (r.2.2, ())))], hp := [] })
  | .inr r => (.exit 0, { tm := [(0, .v (vO (cPair (cSl 3) (cUnit)) (r.1, ()))), (1, .v (vO (cPair (cSl 3) (cUnit)) (r.2, ())))], hp := [] })
noncomputable def zui (y : (((List Int) × (List Int) × Bool) ⊕ ((List Int) × (List Int)))) : Tree (Ex × St U) := .ite y.isLeft (.opt ((List Int) × (List Int) × Bool) y.getLeft? fun r => .leaf (.ret, { tm := [(0, .v (vO (cPair (cSl 3) (cUnit)) (r.1, ()))), (1, .v (vO (cPair (cSl 3) (cUnit)) (r.2.1, ()))), (4, .v (vO (cPair cBool (cUnit)) (r.2.2, ())))], hp := [] })) (.opt ((List Int) × (List Int)) y.getRight? fun r => .leaf (.exit 0, { tm := [(0, .v (vO (cPair (cSl 3) (cUnit)) (r.1, ()))), (1, .v (vO (cPair (cSl 3) (cUnit)) (r.2, ())))], hp := [] }))
noncomputable def zpo : Hd := { keep := [0, 1, 5], xkeep := [0, 1, 4], own := false }
noncomputable def z17r (x : ((List Int) × Unit) × ((List Int) × Unit) × (Int × Unit) × Unit) (_g : Unit) : z14 := z14.mk x.1.1 x.2.1.1 x.2.2.1.1
noncomputable def zpm : Tms U (((List Int) × Unit) × ((List Int) × Unit) × (Int × Unit) × Unit) := tO 0 (cPair (cSl 3) (cUnit)) (tO 1 (cPair (cSl 3) (cUnit)) (tO 6 (cPair (cInt .i64) (cUnit)) (tNil)))
noncomputable def zsh : Bls U (Unit) := bNil
noncomputable def zk5 (s : z14) : St U := { tm := [(0, .v (vO (cPair (cSl 3) (cUnit)) (s.t0, ()))), (1, .v (vO (cPair (cSl 3) (cUnit)) (s.t1, ()))), (6, .v (vO (cPair (cInt .i64) (cUnit)) (s.t6, ())))], hp := [] }
noncomputable def z143 : (Bool ⊕ Unit) → Ex × St U
  | .inl r => (.ret, { tm := [(4, .v (vO (cPair cBool (cUnit)) (r, ())))], hp := [] })
  | .inr r => (.exit 2, { tm := [], hp := [] })
noncomputable def zn6 (y : (Bool ⊕ Unit)) : Tree (Ex × St U) := .ite y.isLeft (.opt Bool y.getLeft? fun r => .leaf (.ret, { tm := [(4, .v (vO (cPair cBool (cUnit)) (r, ())))], hp := [] })) (.opt Unit y.getRight? fun r => .leaf (.exit 2, { tm := [], hp := [] }))
noncomputable def zx9 : Hd := { keep := [0, 1, 6], xkeep := [4], own := false }
noncomputable def z5j : Env U := { P := Tryz.prog, cd := cd, fns := fns132, lps := (addL 0 zpo (mkLoop z14y z15c z139 (zcr none) zui) (addL 1 zx9 (mkLoop zpm zsh z17r (zf5 none) zn6) noL)), frz := fun _r => false, nt := 75, n0 := 0 }
noncomputable def zv2 : Code := (loopAt (Tryz.f99.body.getD .skip) 0 0).getD .skip
theorem z1ep (s : z2i) : round z5j zpo zv2 0 (zhi s) = (z3j s).map (sumE zhi zyw) := by kernel_rfl
theorem z1ax : LpOk z5j zv2 0 := mkLoop_ok (A := z14y) (B := z15c) (f := z139) (L := zcr none) (tO_ok (cPair_ok (cSl_ok 3) cUnit_ok) (tO_ok (cPair_ok (cSl_ok 3) cUnit_ok) (tO_ok (cPair_ok (cInt_ok .i64) cUnit_ok) tNil_ok))) bNil_ok (enc := zhi) (out := zui) (outS := zyw) (step := z3j) (fun _ => rfl) (fun _ _ => by kernel_rfl) (by kernel_rfl) (fun b => by cases b <;> rfl) z1ep
noncomputable def zxq : Code := (loopAt (Tryz.f99.body.getD .skip) 0 1).getD .skip
theorem z1k4 (s : z14) : round z5j zx9 zxq 1 (zk5 s) = (z11 s).map (sumE zk5 z143) := by kernel_rfl
theorem z1ca : LpOk z5j zxq 1 := mkLoop_ok (A := zpm) (B := zsh) (f := z17r) (L := zf5 none) (tO_ok (cPair_ok (cSl_ok 3) cUnit_ok) (tO_ok (cPair_ok (cSl_ok 3) cUnit_ok) (tO_ok (cPair_ok (cInt_ok .i64) cUnit_ok) tNil_ok))) bNil_ok (enc := zk5) (out := zn6) (outS := z143) (step := z11) (fun _ => rfl) (fun _ _ => by kernel_rfl) (by kernel_rfl) (fun b => by cases b <;> rfl) z1k4
theorem z1lk (x : (List Int) × (List Int) × Unit) (g : Unit) : execF z5j Tryz.f99 (z15a.enc x) (bNil.enc g) = (zax none x.1 x.2.1).map ztm := by kernel_rfl
theorem z1lz : FnOk Tryz.prog cd 99 z162 := mk_ok (E := z5j) cd_ok zmj Tryz.func99 (by kernel_rfl) (loops_of (addL_ok z1ax (addL_ok z1ca noL_ok))) (aO_ok (cSl_ok 3) (aO_ok (cSl_ok 3) (aNil_ok))) bNil_ok (T := fun x _ => zax none x.1 x.2.1) (fun _ _ => rfl) z1lk
noncomputable def fns99 := addF 99 true z162 fns132
theorem z14w : ∀ f q t, fns99 f = some (q, t) → FnOk Tryz.prog cd f t := addF_ok z1lz zmj
structure z1u where
  t3 : Int
  t4 : Int
  b0 : Mmu
noncomputable def z4n (s : z1u) : Tree (z1u ⊕ ((Bool × Int × Mmu) ⊕ (Int × Mmu))) :=
  .ite (decide (s.t4 < (8 : Int)))
    (.ite (decide (0 ≤ s.t3))
      (.ite (decide (s.t3 < (2 : Int)))
        (.ite (decide (0 ≤ s.t4))
          (.ite (decide (s.t4 < (8 : Int)))
            (.opt Page (s.b0.pages[(s.t3).toNat * 8 + (s.t4).toNat * 1]?) fun y235 =>
              .ite (decide (y235.base < (0 : Int)))
                (.leaf (.inr (.inl (false, s.t3, s.b0))))
                (.ite (decide ((4095 : Int) < y235.base))
                  (.leaf (.inr (.inl (false, s.t3, s.b0))))
                  (.ite (decide (y235.length < (0 : Int)))
                    (.leaf (.inr (.inl (false, s.t3, s.b0))))
                    (.ite (decide ((128 : Int) < y235.length))
                      (.leaf (.inr (.inl (false, s.t3, s.b0))))
                      (.ite (decide (y235.access < (0 : Int)))
                        (.leaf (.inr (.inl (false, s.t3, s.b0))))
                        (.ite (decide ((2 : Int) < y235.access))
                          (.leaf (.inr (.inl (false, s.t3, s.b0))))
                          (.leaf (.inl (z1u.mk s.t3 (IntKind.wrap .i64 (s.t4 + (1 : Int))) s.b0)))))))))
            .fail)
          .fail)
        .fail)
      .fail)
    (.leaf (.inr (.inr (s.t3, s.b0))))
noncomputable def z9q (q : Option Nat) (s : z1u) : Option ((Bool × Int × Mmu) ⊕ (Int × Mmu)) := limQ q (fun s => (z4n s).run) s
structure z1y where
  t3 : Int
  b0 : Mmu
noncomputable def z52 (q : Option Nat) (s : z1y) : Tree (z1y ⊕ ((Bool × Mmu) ⊕ Mmu)) :=
  .ite (decide (s.t3 < (2 : Int)))
    (.opt ((Bool × Int × Mmu) ⊕ (Int × Mmu)) (z9q q (z1u.mk s.t3 (0 : Int) s.b0)) fun l236 =>
      .ite (l236.isLeft)
        (.opt (Bool × Int × Mmu) (l236.getLeft?) fun a237 =>
          .leaf (.inr (.inl (a237.1, a237.2.2))))
        (.opt (Int × Mmu) (l236.getRight?) fun b238 =>
          .leaf (.inl (z1y.mk (IntKind.wrap .i64 (b238.1 + (1 : Int))) b238.2))))
    (.leaf (.inr (.inr s.b0)))
noncomputable def z7u (q : Option Nat) (s : z1y) : Option ((Bool × Mmu) ⊕ Mmu) := limQ q (fun s => (z52 q s).run) s
noncomputable def z7n (q : Option Nat) (x0 : Mmu) : Tree Bool :=
  .opt ((Bool × Mmu) ⊕ Mmu) (z7u q (z1y.mk (0 : Int) x0)) fun l239 =>
    .ite (l239.isLeft)
      (.opt (Bool × Mmu) (l239.getLeft?) fun a240 =>
        .leaf (a240.1))
      (.opt Mmu (l239.getRight?) fun b241 =>
        .ite (decide ((0 : Int) ≤ b241.status))
          (.ite (decide (b241.status ≤ (3 : Int)))
            (.ite (decide ((0 : Int) ≤ b241.addr))
              (.leaf (decide (b241.addr < (65536 : Int))))
              (.leaf (false)))
            (.leaf (false)))
          (.leaf (false)))
noncomputable def z90 (q : Option Nat) (x0 : Mmu) : Option Bool := (z7n q x0).run
noncomputable def z15h : Arg U (Mmu × Unit) := aA cMmu (aNil)
noncomputable def z13j (r : Bool) : List (V U) × List (Blk U) := ([vO cBool r], [])
noncomputable def z13y : List (V U) → List (Blk U) → Option (FnOut U) := mkSpec z15h bNil (fun x _ => z90 none x.1) z13j
noncomputable def z183 (x : (Unit) × (Int × Unit) × Unit) (g : (Mmu × Unit) × Unit) : z1y := z1y.mk x.2.1.1 g.1.1
noncomputable def z16d : Tms U ((Unit) × (Int × Unit) × Unit) := tO 1 (cK (.ptr 0 0) (cUnit)) (tO 3 (cPair (cInt .i64) (cUnit)) (tNil))
noncomputable def z100 : Bls U ((Mmu × Unit) × Unit) := bC (cPair cMmu (cUnit)) (bNil)
noncomputable def zk9 (s : z1y) : St U := { tm := [(1, .v (vO (cK (.ptr 0 0) (cUnit)) (()))), (3, .v (vO (cPair (cInt .i64) (cUnit)) (s.t3, ())))], hp := [.cells ((cPair cMmu (cUnit) : Cdc U (Mmu × Unit)).enc (s.b0, ())) none] }
noncomputable def zy1 : ((Bool × Mmu) ⊕ Mmu) → Ex × St U
  | .inl r => (.ret, { tm := [(1, .v (vO (cK (.ptr 0 0) (cUnit)) (()))), (2, .v (vO (cPair cBool (cUnit)) (r.1, ())))], hp := [.cells ((cPair cMmu (cUnit) : Cdc U (Mmu × Unit)).enc (r.2, ())) none] })
  | .inr r => (.exit 0, { tm := [(1, .v (vO (cK (.ptr 0 0) (cUnit)) (())))], hp := [.cells ((cPair cMmu (cUnit) : Cdc U (Mmu × Unit)).enc (r, ())) none] })
noncomputable def zuu (y : ((Bool × Mmu) ⊕ Mmu)) : Tree (Ex × St U) := .ite y.isLeft (.opt (Bool × Mmu) y.getLeft? fun r => .leaf (.ret, { tm := [(1, .v (vO (cK (.ptr 0 0) (cUnit)) (()))), (2, .v (vO (cPair cBool (cUnit)) (r.1, ())))], hp := [.cells ((cPair cMmu (cUnit) : Cdc U (Mmu × Unit)).enc (r.2, ())) none] })) (.opt Mmu y.getRight? fun r => .leaf (.exit 0, { tm := [(1, .v (vO (cK (.ptr 0 0) (cUnit)) (())))], hp := [.cells ((cPair cMmu (cUnit) : Cdc U (Mmu × Unit)).enc (r, ())) none] }))
noncomputable def zmx : Hd := { keep := [1, 3], xkeep := [1, 2], own := false }
noncomputable def zqt (x : (Unit) × (Int × Unit) × (Int × Unit) × Unit) (g : (Mmu × Unit) × Unit) : z1u := z1u.mk x.2.1.1 x.2.2.1.1 g.1.1
noncomputable def zu6 : Tms U ((Unit) × (Int × Unit) × (Int × Unit) × Unit) := tO 1 (cK (.ptr 0 0) (cUnit)) (tO 3 (cPair (cInt .i64) (cUnit)) (tO 4 (cPair (cInt .i64) (cUnit)) (tNil)))
noncomputable def zq2 : Bls U ((Mmu × Unit) × Unit) := bC (cPair cMmu (cUnit)) (bNil)
noncomputable def zlb (s : z1u) : St U := { tm := [(1, .v (vO (cK (.ptr 0 0) (cUnit)) (()))), (3, .v (vO (cPair (cInt .i64) (cUnit)) (s.t3, ()))), (4, .v (vO (cPair (cInt .i64) (cUnit)) (s.t4, ())))], hp := [.cells ((cPair cMmu (cUnit) : Cdc U (Mmu × Unit)).enc (s.b0, ())) none] }
noncomputable def z12j : ((Bool × Int × Mmu) ⊕ (Int × Mmu)) → Ex × St U
  | .inl r => (.ret, { tm := [(1, .v (vO (cK (.ptr 0 0) (cUnit)) (()))), (2, .v (vO (cPair cBool (cUnit)) (r.1, ()))), (3, .v (vO (cPair (cInt .i64) (cUnit)) (r.2.1, ())))], hp := [.cells ((cPair cMmu (cUnit) : Cdc U (Mmu × Unit)).enc (r.2.2, ())) none] })
  | .inr r => (.exit 2, { tm := [(1, .v (vO (cK (.ptr 0 0) (cUnit)) (()))), (3, .v (vO (cPair (cInt .i64) (cUnit)) (r.1, ())))], hp := [.cells ((cPair cMmu (cUnit) : Cdc U (Mmu × Unit)).enc (r.2, ())) none] })
noncomputable def zwd (y : ((Bool × Int × Mmu) ⊕ (Int × Mmu))) : Tree (Ex × St U) := .ite y.isLeft (.opt (Bool × Int × Mmu) y.getLeft? fun r => .leaf (.ret, { tm := [(1, .v (vO (cK (.ptr 0 0) (cUnit)) (()))), (2, .v (vO (cPair cBool (cUnit)) (r.1, ()))), (3, .v (vO (cPair (cInt .i64) (cUnit)) (r.2.1, ())))], hp := [.cells ((cPair cMmu (cUnit) : Cdc U (Mmu × Unit)).enc (r.2.2, ())) none] })) (.opt (Int × Mmu) y.getRight? fun r => .leaf (.exit 2, { tm := [(1, .v (vO (cK (.ptr 0 0) (cUnit)) (()))), (3, .v (vO (cPair (cInt .i64) (cUnit)) (r.1, ())))], hp := [.cells ((cPair cMmu (cUnit) : Cdc U (Mmu × Unit)).enc (r.2, ())) none] }))
noncomputable def z11k : Hd := { keep := [1, 3, 4], xkeep := [1, 2, 3], own := false }
noncomputable def z5p : Env U := { P := Tryz.prog, cd := cd, fns := fns99, lps := (addL 0 zmx (mkLoop z16d z100 z183 (z7u none) zuu) (addL 1 z11k (mkLoop zu6 zq2 zqt (z9q none) zwd) noL)), frz := fun _r => false, nt := 66, n0 := 0 }
noncomputable def zzz : Code := (loopAt (Tryz.f100.body.getD .skip) 0 0).getD .skip
theorem z1id (s : z1y) : round z5p zmx zzz 0 (zk9 s) = (z52 none s).map (sumE zk9 zy1) := by kernel_rfl
theorem z1f4 : LpOk z5p zzz 0 := mkLoop_ok (A := z16d) (B := z100) (f := z183) (L := z7u none) (tO_ok (cK_ok cUnit_ok) (tO_ok (cPair_ok (cInt_ok .i64) cUnit_ok) tNil_ok)) (bC_ok (cPair_ok zj cUnit_ok) bNil_ok) (enc := zk9) (out := zuu) (outS := zy1) (step := z52 none) (fun _ => rfl) (fun _ _ => by kernel_rfl) (by kernel_rfl) (fun b => by cases b <;> rfl) z1id
noncomputable def zrv : Code := (loopAt (Tryz.f100.body.getD .skip) 0 1).getD .skip
theorem z1my (s : z1u) : round z5p z11k zrv 1 (zlb s) = (z4n s).map (sumE zlb z12j) := by kernel_rfl
theorem z1fw : LpOk z5p zrv 1 := mkLoop_ok (A := zu6) (B := zq2) (f := zqt) (L := z9q none) (tO_ok (cK_ok cUnit_ok) (tO_ok (cPair_ok (cInt_ok .i64) cUnit_ok) (tO_ok (cPair_ok (cInt_ok .i64) cUnit_ok) tNil_ok))) (bC_ok (cPair_ok zj cUnit_ok) bNil_ok) (enc := zlb) (out := zwd) (outS := z12j) (step := z4n) (fun _ => rfl) (fun _ _ => by kernel_rfl) (by kernel_rfl) (fun b => by cases b <;> rfl) z1my
theorem z1c4 (x : Mmu × Unit) (g : Unit) : execF z5p Tryz.f100 (z15h.enc x) (bNil.enc g) = (z7n none x.1).map z13j := by kernel_rfl
theorem z1l6 : FnOk Tryz.prog cd 100 z13y := mk_ok (E := z5p) cd_ok z14w Tryz.func100 (by kernel_rfl) (loops_of (addL_ok z1f4 (addL_ok z1fw noL_ok))) (aA_ok zj (aNil_ok)) bNil_ok (T := fun x _ => z7n none x.1) (fun _ _ => rfl) z1c4
noncomputable def fns100 := addF 100 true z13y fns99
theorem z14s : ∀ f q t, fns100 f = some (q, t) → FnOk Tryz.prog cd f t := addF_ok z1l6 z14w
noncomputable def zdn (x0 : Clock) : Tree Bool :=
  .ite (decide ((1 : Int) ≤ x0.period))
    (.ite (decide (x0.period ≤ (65535 : Int)))
      (.ite (decide ((1 : Int) ≤ x0.left))
        (.leaf (decide (x0.left ≤ x0.period)))
        (.leaf (false)))
      (.leaf (false)))
    (.leaf (false))
noncomputable def z69 (x0 : Clock) : Option Bool := (zdn x0).run
noncomputable def zoz : Arg U (Clock × Unit) := aA cClock (aNil)
noncomputable def zo8 (r : Bool) : List (V U) × List (Blk U) := ([vO cBool r], [])
noncomputable def z14d : List (V U) → List (Blk U) → Option (FnOut U) := mkSpec zoz bNil (fun x _ => z69 x.1) zo8
noncomputable def zzc : Env U := { P := Tryz.prog, cd := cd, fns := fns100, lps := noL, frz := fun _r => false, nt := 23, n0 := 0 }
theorem z1bf (x : Clock × Unit) (g : Unit) : execF zzc Tryz.f101 (zoz.enc x) (bNil.enc g) = (zdn x.1).map zo8 := by kernel_rfl
theorem z1fn : FnOk Tryz.prog cd 101 z14d := mk_ok (E := zzc) cd_ok z14s Tryz.func101 (by kernel_rfl) (noLoops_body (by kernel_rfl)) (aA_ok zli (aNil_ok)) bNil_ok (T := fun x _ => zdn x.1) (fun _ _ => rfl) z1bf
noncomputable def fns101 := addF 101 true z14d fns100
theorem zsw : ∀ f q t, fns101 f = some (q, t) → FnOk Tryz.prog cd f t := addF_ok z1fn z14s
noncomputable def ze1 (x0 : Int) : Tree Bool :=
  .ite (decide ((0 : Int) ≤ x0))
    (.leaf (decide (x0 ≤ (65535 : Int))))
    (.leaf (false))
noncomputable def z5a (x0 : Int) : Option Bool := (ze1 x0).run
noncomputable def zyu : Arg U (Int × Unit) := aO (cInt .i64) (aNil)
noncomputable def zy3 (r : Bool) : List (V U) × List (Blk U) := ([vO cBool r], [])
noncomputable def z18z : List (V U) → List (Blk U) → Option (FnOut U) := mkSpec zyu bNil (fun x _ => z5a x.1) zy3
noncomputable def zns : Env U := { P := Tryz.prog, cd := cd, fns := fns101, lps := noL, frz := fun _r => false, nt := 9, n0 := 0 }
theorem z1hh (x : Int × Unit) (g : Unit) : execF zns Tryz.f133 (zyu.enc x) (bNil.enc g) = (ze1 x.1).map zy3 := by kernel_rfl
theorem z1cr : FnOk Tryz.prog cd 133 z18z := mk_ok (E := zns) cd_ok zsw Tryz.func133 (by kernel_rfl) (noLoops_body (by kernel_rfl)) (aO_ok (cInt_ok .i64) (aNil_ok)) bNil_ok (T := fun x _ => ze1 x.1) (fun _ _ => rfl) z1hh
noncomputable def fns133 := addF 133 true z18z fns101
theorem zwn : ∀ f q t, fns133 f = some (q, t) → FnOk Tryz.prog cd f t := addF_ok z1cr zsw
structure z2d where
  t3 : Int
  b0 : Drive
noncomputable def z3z (s : z2d) : Tree (z2d ⊕ ((Bool × Drive) ⊕ Drive)) :=
  .ite (decide (s.t3 < (s.b0.sectors.length : Int)))
    (.ite (decide (0 ≤ s.t3))
      (.opt (List UInt8) (s.b0.sectors[(s.t3).toNat]?) fun y242 =>
        .ite (!decide ((y242.length : Int) = (128 : Int)))
          (.leaf (.inr (.inl (false, s.b0))))
          (.leaf (.inl (z2d.mk (IntKind.wrap .i64 (s.t3 + (1 : Int))) s.b0))))
      .fail)
    (.leaf (.inr (.inr s.b0)))
noncomputable def zfn (q : Option Nat) (s : z2d) : Option ((Bool × Drive) ⊕ Drive) := limQ q (fun s => (z3z s).run) s
structure z1k where
  t4 : Int
  b0 : Drive
noncomputable def z18 (s : z1k) : Tree (z1k ⊕ (Bool ⊕ Unit)) :=
  .ite (decide (s.t4 < (s.b0.bad.length : Int)))
    (.ite (decide (0 ≤ s.t4))
      (.opt Int (s.b0.bad[(s.t4).toNat]?) fun y246 =>
        .ite (decide (y246 < (0 : Int)))
          (.leaf (.inr (.inl false)))
          (.ite (decide (0 ≤ s.t4))
            (.opt Int (s.b0.bad[(s.t4).toNat]?) fun y247 =>
              .ite (decide ((s.b0.sectors.length : Int) ≤ y247))
                (.leaf (.inr (.inl false)))
                (.ite (decide ((0 : Int) < s.t4))
                  (.ite (decide (0 ≤ IntKind.wrap .i64 (s.t4 - (1 : Int))))
                    (.opt Int (s.b0.bad[(IntKind.wrap .i64 (s.t4 - (1 : Int))).toNat]?) fun y248 =>
                      .ite (decide (0 ≤ s.t4))
                        (.opt Int (s.b0.bad[(s.t4).toNat]?) fun y249 =>
                          .ite (decide (y249 ≤ y248))
                            (.leaf (.inr (.inl false)))
                            (.leaf (.inl (z1k.mk (IntKind.wrap .i64 (s.t4 + (1 : Int))) s.b0))))
                        .fail)
                    .fail)
                  (.leaf (.inl (z1k.mk (IntKind.wrap .i64 (s.t4 + (1 : Int))) s.b0)))))
            .fail))
      .fail)
    (.leaf (.inr (.inr ())))
noncomputable def zfl (q : Option Nat) (s : z1k) : Option (Bool ⊕ Unit) := limQ q (fun s => (z18 s).run) s
noncomputable def zf2 (q : Option Nat) (x0 : Drive) : Tree Bool :=
  .ite (decide ((x0.sectors.length : Int) < (1 : Int)))
    (.leaf (false))
    (.ite (decide ((256 : Int) < (x0.sectors.length : Int)))
      (.leaf (false))
      (.opt ((Bool × Drive) ⊕ Drive) (zfn q (z2d.mk (0 : Int) x0)) fun l243 =>
        .ite (l243.isLeft)
          (.opt (Bool × Drive) (l243.getLeft?) fun a244 =>
            .leaf (a244.1))
          (.opt Drive (l243.getRight?) fun b245 =>
            .opt (Bool ⊕ Unit) (zfl q (z1k.mk (0 : Int) b245)) fun l250 =>
              .ite (l250.isLeft)
                (.opt Bool (l250.getLeft?) fun a251 =>
                  .leaf (a251))
                (.opt Unit (l250.getRight?) fun b252 =>
                  .leaf (true)))))
noncomputable def z7v (q : Option Nat) (x0 : Drive) : Option Bool := (zf2 q x0).run
noncomputable def znx : Arg U (Drive × Unit) := aA cDrive (aNil)
noncomputable def z1al (r : Bool) : List (V U) × List (Blk U) := ([vO cBool r], [])
noncomputable def z16v : List (V U) → List (Blk U) → Option (FnOut U) := mkSpec znx bNil (fun x _ => z7v none x.1) z1al
noncomputable def zxs (x : (Unit) × (Int × Unit) × Unit) (g : (Drive × Unit) × Unit) : z2d := z2d.mk x.2.1.1 g.1.1
noncomputable def z198 : Tms U ((Unit) × (Int × Unit) × Unit) := tO 1 (cK (.ptr 0 0) (cUnit)) (tO 3 (cPair (cInt .i64) (cUnit)) (tNil))
noncomputable def zra : Bls U ((Drive × Unit) × Unit) := bC (cPair cDrive (cUnit)) (bNil)
noncomputable def zjh (s : z2d) : St U := { tm := [(1, .v (vO (cK (.ptr 0 0) (cUnit)) (()))), (3, .v (vO (cPair (cInt .i64) (cUnit)) (s.t3, ())))], hp := [.cells ((cPair cDrive (cUnit) : Cdc U (Drive × Unit)).enc (s.b0, ())) none] }
noncomputable def zrk : ((Bool × Drive) ⊕ Drive) → Ex × St U
  | .inl r => (.ret, { tm := [(1, .v (vO (cK (.ptr 0 0) (cUnit)) (()))), (2, .v (vO (cPair cBool (cUnit)) (r.1, ())))], hp := [.cells ((cPair cDrive (cUnit) : Cdc U (Drive × Unit)).enc (r.2, ())) none] })
  | .inr r => (.exit 0, { tm := [(1, .v (vO (cK (.ptr 0 0) (cUnit)) (())))], hp := [.cells ((cPair cDrive (cUnit) : Cdc U (Drive × Unit)).enc (r, ())) none] })
noncomputable def zqo (y : ((Bool × Drive) ⊕ Drive)) : Tree (Ex × St U) := .ite y.isLeft (.opt (Bool × Drive) y.getLeft? fun r => .leaf (.ret, { tm := [(1, .v (vO (cK (.ptr 0 0) (cUnit)) (()))), (2, .v (vO (cPair cBool (cUnit)) (r.1, ())))], hp := [.cells ((cPair cDrive (cUnit) : Cdc U (Drive × Unit)).enc (r.2, ())) none] })) (.opt Drive y.getRight? fun r => .leaf (.exit 0, { tm := [(1, .v (vO (cK (.ptr 0 0) (cUnit)) (())))], hp := [.cells ((cPair cDrive (cUnit) : Cdc U (Drive × Unit)).enc (r, ())) none] }))
noncomputable def z171 : Hd := { keep := [1, 3], xkeep := [1, 2], own := false }
noncomputable def zrn (x : (Unit) × (Int × Unit) × Unit) (g : (Drive × Unit) × Unit) : z1k := z1k.mk x.2.1.1 g.1.1
noncomputable def z13z : Tms U ((Unit) × (Int × Unit) × Unit) := tO 1 (cK (.ptr 0 0) (cUnit)) (tO 4 (cPair (cInt .i64) (cUnit)) (tNil))
noncomputable def z17d : Bls U ((Drive × Unit) × Unit) := bC (cPair cDrive (cUnit)) (bNil)
noncomputable def zjj (s : z1k) : St U := { tm := [(1, .v (vO (cK (.ptr 0 0) (cUnit)) (()))), (4, .v (vO (cPair (cInt .i64) (cUnit)) (s.t4, ())))], hp := [.cells ((cPair cDrive (cUnit) : Cdc U (Drive × Unit)).enc (s.b0, ())) none] }
noncomputable def zm2 : (Bool ⊕ Unit) → Ex × St U
  | .inl r => (.ret, { tm := [(2, .v (vO (cPair cBool (cUnit)) (r, ())))], hp := [] })
  | .inr r => (.exit 2, { tm := [], hp := [] })
noncomputable def zny (y : (Bool ⊕ Unit)) : Tree (Ex × St U) := .ite y.isLeft (.opt Bool y.getLeft? fun r => .leaf (.ret, { tm := [(2, .v (vO (cPair cBool (cUnit)) (r, ())))], hp := [] })) (.opt Unit y.getRight? fun r => .leaf (.exit 2, { tm := [], hp := [] }))
noncomputable def zsy : Hd := { keep := [1, 4], xkeep := [2], own := false }
noncomputable def z6m : Env U := { P := Tryz.prog, cd := cd, fns := fns133, lps := (addL 0 z171 (mkLoop z198 zra zxs (zfn none) zqo) (addL 1 zsy (mkLoop z13z z17d zrn (zfl none) zny) noL)), frz := fun _r => false, nt := 71, n0 := 0 }
noncomputable def z14b : Code := (loopAt (Tryz.f134.body.getD .skip) 0 0).getD .skip
theorem z1bp (s : z2d) : round z6m z171 z14b 0 (zjh s) = (z3z s).map (sumE zjh zrk) := by kernel_rfl
theorem z1d3 : LpOk z6m z14b 0 := mkLoop_ok (A := z198) (B := zra) (f := zxs) (L := zfn none) (tO_ok (cK_ok cUnit_ok) (tO_ok (cPair_ok (cInt_ok .i64) cUnit_ok) tNil_ok)) (bC_ok (cPair_ok z1z cUnit_ok) bNil_ok) (enc := zjh) (out := zqo) (outS := zrk) (step := z3z) (fun _ => rfl) (fun _ _ => by kernel_rfl) (by kernel_rfl) (fun b => by cases b <;> rfl) z1bp
noncomputable def z1a9 : Code := (loopAt (Tryz.f134.body.getD .skip) 0 1).getD .skip
theorem z1kx (s : z1k) : round z6m zsy z1a9 1 (zjj s) = (z18 s).map (sumE zjj zm2) := by kernel_rfl
theorem z1mc : LpOk z6m z1a9 1 := mkLoop_ok (A := z13z) (B := z17d) (f := zrn) (L := zfl none) (tO_ok (cK_ok cUnit_ok) (tO_ok (cPair_ok (cInt_ok .i64) cUnit_ok) tNil_ok)) (bC_ok (cPair_ok z1z cUnit_ok) bNil_ok) (enc := zjj) (out := zny) (outS := zm2) (step := z18) (fun _ => rfl) (fun _ _ => by kernel_rfl) (by kernel_rfl) (fun b => by cases b <;> rfl) z1kx
theorem z1bv (x : Drive × Unit) (g : Unit) : execF z6m Tryz.f134 (znx.enc x) (bNil.enc g) = (zf2 none x.1).map z1al := by kernel_rfl
theorem z1cy : FnOk Tryz.prog cd 134 z16v := mk_ok (E := z6m) cd_ok zwn Tryz.func134 (by kernel_rfl) (loops_of (addL_ok z1d3 (addL_ok z1mc noL_ok))) (aA_ok z1z (aNil_ok)) bNil_ok (T := fun x _ => zf2 none x.1) (fun _ _ => rfl) z1bv
noncomputable def fns134 := addF 134 true z16v fns133
theorem z16a : ∀ f q t, fns134 f = some (q, t) → FnOk Tryz.prog cd f t := addF_ok z1cy zwn
noncomputable def zbq (q : Option Nat) (x0 : Disk) : Tree Bool :=
  .ite (decide (x0.command < (0 : Int)))
    (.leaf (false))
    (.ite (decide ((3 : Int) < x0.command))
      (.leaf (false))
      (.opt Bool (z5a x0.words) fun r253 =>
        .ite (!r253)
          (.leaf (false))
          (.opt Bool (z5a x0.addr) fun r254 =>
            .ite (!r254)
              (.leaf (false))
              (.opt Bool (z5a x0.start) fun r255 =>
                .ite (!r255)
                  (.leaf (false))
                  (.ite (decide ((2 : Int) = 0))
                    .fail
                    (.ite (!decide (((x0.addr).tmod (2 : Int)) = (0 : Int)))
                      (.leaf (false))
                      (.ite (decide (x0.left < (0 : Int)))
                        (.leaf (false))
                        (.ite (decide ((8 : Int) < x0.left))
                          (.leaf (false))
                          (.ite (!(x0.ready == (decide (x0.left = (0 : Int)))))
                            (.leaf (false))
                            (.ite (!decide (x0.left = (0 : Int)))
                              (.ite (decide (x0.command = (0 : Int)))
                                (.leaf (false))
                                (.ite (decide (x0.words = (0 : Int)))
                                  (.leaf (false))
                                  (.opt Bool (z7v q x0.drive) fun r256 =>
                                    .leaf (r256))))
                              (.opt Bool (z7v q x0.drive) fun r257 =>
                                .leaf (r257))))))))))))
noncomputable def zfs (q : Option Nat) (x0 : Disk) : Option Bool := (zbq q x0).run
noncomputable def zzg : Arg U (Disk × Unit) := aA cDisk (aNil)
noncomputable def z137 (r : Bool) : List (V U) × List (Blk U) := ([vO cBool r], [])
noncomputable def z11d : List (V U) → List (Blk U) → Option (FnOut U) := mkSpec zzg bNil (fun x _ => zfs none x.1) z137
noncomputable def zt7 : Env U := { P := Tryz.prog, cd := cd, fns := fns134, lps := noL, frz := fun _r => false, nt := 69, n0 := 0 }
theorem z1m4 (x : Disk × Unit) (g : Unit) : execF zt7 Tryz.f102 (zzg.enc x) (bNil.enc g) = (zbq none x.1).map z137 := by kernel_rfl
theorem z1ie : FnOk Tryz.prog cd 102 z11d := mk_ok (E := zt7) cd_ok z16a Tryz.func102 (by kernel_rfl) (noLoops_body (by kernel_rfl)) (aA_ok z21 (aNil_ok)) bNil_ok (T := fun x _ => zbq none x.1) (fun _ _ => rfl) z1m4
noncomputable def fns102 := addF 102 true z11d fns134
theorem zr3 : ∀ f q t, fns102 f = some (q, t) → FnOk Tryz.prog cd f t := addF_ok z1ie z16a
noncomputable def zb8 (x0 : Int) : Tree Bool :=
  .ite (decide ((0 : Int) ≤ x0))
    (.leaf (decide (x0 ≤ (65535 : Int))))
    (.leaf (false))
noncomputable def z7q (x0 : Int) : Option Bool := (zb8 x0).run
noncomputable def zp3 : Arg U (Int × Unit) := aO (cInt .i64) (aNil)
noncomputable def z11n (r : Bool) : List (V U) × List (Blk U) := ([vO cBool r], [])
noncomputable def z18g : List (V U) → List (Blk U) → Option (FnOut U) := mkSpec zp3 bNil (fun x _ => z7q x.1) z11n
noncomputable def z14k : Env U := { P := Tryz.prog, cd := cd, fns := fns102, lps := noL, frz := fun _r => false, nt := 9, n0 := 0 }
theorem z1ji (x : Int × Unit) (g : Unit) : execF z14k Tryz.f135 (zp3.enc x) (bNil.enc g) = (zb8 x.1).map z11n := by kernel_rfl
theorem z1mk : FnOk Tryz.prog cd 135 z18g := mk_ok (E := z14k) cd_ok zr3 Tryz.func135 (by kernel_rfl) (noLoops_body (by kernel_rfl)) (aO_ok (cInt_ok .i64) (aNil_ok)) bNil_ok (T := fun x _ => zb8 x.1) (fun _ _ => rfl) z1ji
noncomputable def fns135 := addF 135 true z18g fns102
theorem zp2 : ∀ f q t, fns135 f = some (q, t) → FnOk Tryz.prog cd f t := addF_ok z1mk zr3
structure z1p where
  t3 : Int
  b0 : Tape
noncomputable def z3o (s : z1p) : Tree (z1p ⊕ ((Bool × Tape) ⊕ Tape)) :=
  .ite (decide (s.t3 < (s.b0.records.length : Int)))
    (.ite (decide (0 ≤ s.t3))
      (.opt (List UInt8) (s.b0.records[(s.t3).toNat]?) fun y260 =>
        .ite (decide ((512 : Int) < (y260.length : Int)))
          (.leaf (.inr (.inl (false, s.b0))))
          (.leaf (.inl (z1p.mk (IntKind.wrap .i64 (s.t3 + (1 : Int))) s.b0))))
      .fail)
    (.leaf (.inr (.inr s.b0)))
noncomputable def zcb (q : Option Nat) (s : z1p) : Option ((Bool × Tape) ⊕ Tape) := limQ q (fun s => (z3o s).run) s
noncomputable def zck (q : Option Nat) (x0 : Tape) : Tree Bool :=
  .ite (decide ((64 : Int) < (x0.records.length : Int)))
    (.leaf (false))
    (.ite (decide (x0.pos < (0 : Int)))
      (.leaf (false))
      (.ite (decide ((x0.records.length : Int) < x0.pos))
        (.leaf (false))
        (.ite (decide (x0.command < (0 : Int)))
          (.leaf (false))
          (.ite (decide ((6 : Int) < x0.command))
            (.leaf (false))
            (.opt Bool (z7q x0.count) fun r258 =>
              .ite (!r258)
                (.leaf (false))
                (.opt Bool (z7q x0.addr) fun r259 =>
                  .ite (!r259)
                    (.leaf (false))
                    (.opt ((Bool × Tape) ⊕ Tape) (zcb q (z1p.mk (0 : Int) x0)) fun l261 =>
                      .ite (l261.isLeft)
                        (.opt (Bool × Tape) (l261.getLeft?) fun a262 =>
                          .leaf (a262.1))
                        (.opt Tape (l261.getRight?) fun b263 =>
                          .ite (decide ((0 : Int) ≤ b263.left))
                            (.ite (decide (b263.left ≤ (16 : Int)))
                              (.leaf ((b263.ready == (decide (b263.left = (0 : Int))))))
                              (.leaf (false)))
                            (.leaf (false))))))))))
noncomputable def zcn (q : Option Nat) (x0 : Tape) : Option Bool := (zck q x0).run
noncomputable def zs5 : Arg U (Tape × Unit) := aA cTape (aNil)
noncomputable def zng (r : Bool) : List (V U) × List (Blk U) := ([vO cBool r], [])
noncomputable def z16w : List (V U) → List (Blk U) → Option (FnOut U) := mkSpec zs5 bNil (fun x _ => zcn none x.1) zng
noncomputable def z122 (x : (Unit) × (Int × Unit) × Unit) (g : (Tape × Unit) × Unit) : z1p := z1p.mk x.2.1.1 g.1.1
noncomputable def z17w : Tms U ((Unit) × (Int × Unit) × Unit) := tO 1 (cK (.ptr 0 0) (cUnit)) (tO 3 (cPair (cInt .i64) (cUnit)) (tNil))
noncomputable def ztv : Bls U ((Tape × Unit) × Unit) := bC (cPair cTape (cUnit)) (bNil)
noncomputable def zhl (s : z1p) : St U := { tm := [(1, .v (vO (cK (.ptr 0 0) (cUnit)) (()))), (3, .v (vO (cPair (cInt .i64) (cUnit)) (s.t3, ())))], hp := [.cells ((cPair cTape (cUnit) : Cdc U (Tape × Unit)).enc (s.b0, ())) none] }
noncomputable def ztb : ((Bool × Tape) ⊕ Tape) → Ex × St U
  | .inl r => (.ret, { tm := [(1, .v (vO (cK (.ptr 0 0) (cUnit)) (()))), (2, .v (vO (cPair cBool (cUnit)) (r.1, ())))], hp := [.cells ((cPair cTape (cUnit) : Cdc U (Tape × Unit)).enc (r.2, ())) none] })
  | .inr r => (.exit 0, { tm := [(1, .v (vO (cK (.ptr 0 0) (cUnit)) (())))], hp := [.cells ((cPair cTape (cUnit) : Cdc U (Tape × Unit)).enc (r, ())) none] })
noncomputable def zq6 (y : ((Bool × Tape) ⊕ Tape)) : Tree (Ex × St U) := .ite y.isLeft (.opt (Bool × Tape) y.getLeft? fun r => .leaf (.ret, { tm := [(1, .v (vO (cK (.ptr 0 0) (cUnit)) (()))), (2, .v (vO (cPair cBool (cUnit)) (r.1, ())))], hp := [.cells ((cPair cTape (cUnit) : Cdc U (Tape × Unit)).enc (r.2, ())) none] })) (.opt Tape y.getRight? fun r => .leaf (.exit 0, { tm := [(1, .v (vO (cK (.ptr 0 0) (cUnit)) (())))], hp := [.cells ((cPair cTape (cUnit) : Cdc U (Tape × Unit)).enc (r, ())) none] }))
noncomputable def z12c : Hd := { keep := [1, 3], xkeep := [1, 2], own := false }
noncomputable def zab : Env U := { P := Tryz.prog, cd := cd, fns := fns135, lps := (addL 0 z12c (mkLoop z17w ztv z122 (zcb none) zq6) noL), frz := fun _r => false, nt := 73, n0 := 0 }
noncomputable def z11z : Code := (loopAt (Tryz.f103.body.getD .skip) 0 0).getD .skip
theorem z1mh (s : z1p) : round zab z12c z11z 0 (zhl s) = (z3o s).map (sumE zhl ztb) := by kernel_rfl
theorem z1e0 : LpOk zab z11z 0 := mkLoop_ok (A := z17w) (B := ztv) (f := z122) (L := zcb none) (tO_ok (cK_ok cUnit_ok) (tO_ok (cPair_ok (cInt_ok .i64) cUnit_ok) tNil_ok)) (bC_ok (cPair_ok z15 cUnit_ok) bNil_ok) (enc := zhl) (out := zq6) (outS := ztb) (step := z3o) (fun _ => rfl) (fun _ _ => by kernel_rfl) (by kernel_rfl) (fun b => by cases b <;> rfl) z1mh
theorem z1kh (x : Tape × Unit) (g : Unit) : execF zab Tryz.f103 (zs5.enc x) (bNil.enc g) = (zck none x.1).map zng := by kernel_rfl
theorem z1lh : FnOk Tryz.prog cd 103 z16w := mk_ok (E := zab) cd_ok zp2 Tryz.func103 (by kernel_rfl) (loops_of (addL_ok z1e0 noL_ok)) (aA_ok z15 (aNil_ok)) bNil_ok (T := fun x _ => zck none x.1) (fun _ _ => rfl) z1kh
noncomputable def fns103 := addF 103 true z16w fns135
theorem zt2 : ∀ f q t, fns103 f = some (q, t) → FnOk Tryz.prog cd f t := addF_ok z1lh zp2
structure z2v where
  t3 : Int
  b0 : Machine
noncomputable def z4d (s : z2v) : Tree (z2v ⊕ ((Bool × Machine) ⊕ Machine)) :=
  .ite (decide (s.t3 < (s.b0.lines.length : Int)))
    (.ite (decide (0 ≤ s.t3))
      (.opt Line (s.b0.lines[(s.t3).toNat]?) fun y264 =>
        .opt Bool (zel y264) fun r265 =>
          .ite (!r265)
            (.leaf (.inr (.inl (false, s.b0))))
            (.leaf (.inl (z2v.mk (IntKind.wrap .i64 (s.t3 + (1 : Int))) s.b0))))
      .fail)
    (.leaf (.inr (.inr s.b0)))
noncomputable def zb6 (q : Option Nat) (s : z2v) : Option ((Bool × Machine) ⊕ Machine) := limQ q (fun s => (z4d s).run) s
noncomputable def zcz (q : Option Nat) (x0 : Machine) : Tree Bool :=
  .ite (decide ((4 : Int) < (x0.lines.length : Int)))
    (.leaf (false))
    (.opt ((Bool × Machine) ⊕ Machine) (zb6 q (z2v.mk (0 : Int) x0)) fun l266 =>
      .ite (l266.isLeft)
        (.opt (Bool × Machine) (l266.getLeft?) fun a267 =>
          .leaf (a267.1))
        (.opt Machine (l266.getRight?) fun b268 =>
          .opt Bool (zd5 q b268.mem b268.bad) fun r269 =>
            .ite (r269)
              (.opt Bool (z90 q b268.mmu) fun r270 =>
                .ite (r270)
                  (.opt Bool (z69 b268.clock) fun r271 =>
                    .ite (r271)
                      (.opt Bool (zfs q b268.disk) fun r272 =>
                        .ite (r272)
                          (.opt Bool (zcn q b268.tape) fun r273 =>
                            .leaf (r273))
                          (.leaf (false)))
                      (.leaf (false)))
                  (.leaf (false)))
              (.leaf (false))))
noncomputable def z92 (q : Option Nat) (x0 : Machine) : Option Bool := (zcz q x0).run
noncomputable def zss : Arg U (Machine × Unit) := aA cMachine (aNil)
noncomputable def z13e (r : Bool) : List (V U) × List (Blk U) := ([vO cBool r], [])
noncomputable def zto : List (V U) → List (Blk U) → Option (FnOut U) := mkSpec zss bNil (fun x _ => z92 none x.1) z13e
noncomputable def zlu (x : (Unit) × (Int × Unit) × Unit) (g : (Machine × Unit) × Unit) : z2v := z2v.mk x.2.1.1 g.1.1
noncomputable def z1ar : Tms U ((Unit) × (Int × Unit) × Unit) := tO 1 (cK (.ptr 0 0) (cUnit)) (tO 3 (cPair (cInt .i64) (cUnit)) (tNil))
noncomputable def zti : Bls U ((Machine × Unit) × Unit) := bC (cPair cMachine (cUnit)) (bNil)
noncomputable def zhr (s : z2v) : St U := { tm := [(1, .v (vO (cK (.ptr 0 0) (cUnit)) (()))), (3, .v (vO (cPair (cInt .i64) (cUnit)) (s.t3, ())))], hp := [.cells ((cPair cMachine (cUnit) : Cdc U (Machine × Unit)).enc (s.b0, ())) none] }
noncomputable def zof : ((Bool × Machine) ⊕ Machine) → Ex × St U
  | .inl r => (.ret, { tm := [(1, .v (vO (cK (.ptr 0 0) (cUnit)) (()))), (2, .v (vO (cPair cBool (cUnit)) (r.1, ())))], hp := [.cells ((cPair cMachine (cUnit) : Cdc U (Machine × Unit)).enc (r.2, ())) none] })
  | .inr r => (.exit 0, { tm := [(1, .v (vO (cK (.ptr 0 0) (cUnit)) (())))], hp := [.cells ((cPair cMachine (cUnit) : Cdc U (Machine × Unit)).enc (r, ())) none] })
noncomputable def zrh (y : ((Bool × Machine) ⊕ Machine)) : Tree (Ex × St U) := .ite y.isLeft (.opt (Bool × Machine) y.getLeft? fun r => .leaf (.ret, { tm := [(1, .v (vO (cK (.ptr 0 0) (cUnit)) (()))), (2, .v (vO (cPair cBool (cUnit)) (r.1, ())))], hp := [.cells ((cPair cMachine (cUnit) : Cdc U (Machine × Unit)).enc (r.2, ())) none] })) (.opt Machine y.getRight? fun r => .leaf (.exit 0, { tm := [(1, .v (vO (cK (.ptr 0 0) (cUnit)) (())))], hp := [.cells ((cPair cMachine (cUnit) : Cdc U (Machine × Unit)).enc (r, ())) none] }))
noncomputable def z11g : Hd := { keep := [1, 3], xkeep := [1, 2], own := false }
noncomputable def zfh : Env U := { P := Tryz.prog, cd := cd, fns := fns103, lps := (addL 0 z11g (mkLoop z1ar zti zlu (zb6 none) zrh) noL), frz := fun _r => false, nt := 47, n0 := 0 }
noncomputable def zz0 : Code := (loopAt (Tryz.f43.body.getD .skip) 0 0).getD .skip
theorem z1d1 (s : z2v) : round zfh z11g zz0 0 (zhr s) = (z4d s).map (sumE zhr zof) := by kernel_rfl
theorem z1f1 : LpOk zfh zz0 0 := mkLoop_ok (A := z1ar) (B := zti) (f := zlu) (L := zb6 none) (tO_ok (cK_ok cUnit_ok) (tO_ok (cPair_ok (cInt_ok .i64) cUnit_ok) tNil_ok)) (bC_ok (cPair_ok zm cUnit_ok) bNil_ok) (enc := zhr) (out := zrh) (outS := zof) (step := z4d) (fun _ => rfl) (fun _ _ => by kernel_rfl) (by kernel_rfl) (fun b => by cases b <;> rfl) z1d1
theorem z1ia (x : Machine × Unit) (g : Unit) : execF zfh Tryz.f43 (zss.enc x) (bNil.enc g) = (zcz none x.1).map z13e := by kernel_rfl
theorem z1fd : FnOk Tryz.prog cd 43 zto := mk_ok (E := zfh) cd_ok zt2 Tryz.func43 (by kernel_rfl) (loops_of (addL_ok z1f1 noL_ok)) (aA_ok zm (aNil_ok)) bNil_ok (T := fun x _ => zcz none x.1) (fun _ _ => rfl) z1ia
noncomputable def fns43 := addF 43 true zto fns103
theorem z10f : ∀ f q t, fns43 f = some (q, t) → FnOk Tryz.prog cd f t := addF_ok z1fd zt2
noncomputable def zda (x0 : Int) : Tree Bool :=
  .ite (decide ((0 : Int) ≤ x0))
    (.leaf (decide (x0 < (65536 : Int))))
    (.leaf (false))
noncomputable def z41 (x0 : Int) : Option Bool := (zda x0).run
noncomputable def zvt : Arg U (Int × Unit) := aO (cInt .i64) (aNil)
noncomputable def zsl (r : Bool) : List (V U) × List (Blk U) := ([vO cBool r], [])
noncomputable def zws : List (V U) → List (Blk U) → Option (FnOut U) := mkSpec zvt bNil (fun x _ => z41 x.1) zsl
noncomputable def zrw : Env U := { P := Tryz.prog, cd := cd, fns := fns43, lps := noL, frz := fun _r => false, nt := 9, n0 := 0 }
theorem z1ft (x : Int × Unit) (g : Unit) : execF zrw Tryz.f104 (zvt.enc x) (bNil.enc g) = (zda x.1).map zsl := by kernel_rfl
theorem z1jv : FnOk Tryz.prog cd 104 zws := mk_ok (E := zrw) cd_ok z10f Tryz.func104 (by kernel_rfl) (noLoops_body (by kernel_rfl)) (aO_ok (cInt_ok .i64) (aNil_ok)) bNil_ok (T := fun x _ => zda x.1) (fun _ _ => rfl) z1ft
noncomputable def fns104 := addF 104 true zws fns43
theorem z12f : ∀ f q t, fns104 f = some (q, t) → FnOk Tryz.prog cd f t := addF_ok z1jv z10f
noncomputable def zei (x0 : Int) : Tree Bool :=
  .ite (decide ((0 : Int) ≤ x0))
    (.ite (decide (x0 ≤ (65535 : Int)))
      (.leaf (decide ((IntKind.wrap .i64 (((BitVec.ofInt 64 x0 &&& ~~~BitVec.ofInt 64 (49407 : Int)).toNat : Int))) = (0 : Int))))
      (.leaf (false)))
    (.leaf (false))
noncomputable def za7 (x0 : Int) : Option Bool := (zei x0).run
noncomputable def z11r : Arg U (Int × Unit) := aO (cInt .i64) (aNil)
noncomputable def zr0 (r : Bool) : List (V U) × List (Blk U) := ([vO cBool r], [])
noncomputable def zw5 : List (V U) → List (Blk U) → Option (FnOut U) := mkSpec z11r bNil (fun x _ => za7 x.1) zr0
noncomputable def z16b : Env U := { P := Tryz.prog, cd := cd, fns := fns104, lps := noL, frz := fun _r => false, nt := 14, n0 := 0 }
theorem z1m0 (x : Int × Unit) (g : Unit) : execF z16b Tryz.f105 (z11r.enc x) (bNil.enc g) = (zei x.1).map zr0 := by kernel_rfl
theorem z1jg : FnOk Tryz.prog cd 105 zw5 := mk_ok (E := z16b) cd_ok z12f Tryz.func105 (by kernel_rfl) (noLoops_body (by kernel_rfl)) (aO_ok (cInt_ok .i64) (aNil_ok)) bNil_ok (T := fun x _ => zei x.1) (fun _ _ => rfl) z1m0
noncomputable def fns105 := addF 105 true zw5 fns104
theorem z14v : ∀ f q t, fns105 f = some (q, t) → FnOk Tryz.prog cd f t := addF_ok z1jg z12f
structure z27 where
  t3 : Int
  b0 : Cpu
noncomputable def z4r (s : z27) : Tree (z27 ⊕ ((Bool × Cpu) ⊕ Cpu)) :=
  .ite (decide (s.t3 < (6 : Int)))
    (.ite (decide (0 ≤ s.t3))
      (.ite (decide (s.t3 < (6 : Int)))
        (.opt Int (s.b0.r[(s.t3).toNat * 1]?) fun y274 =>
          .opt Bool (z41 y274) fun r275 =>
            .ite (!r275)
              (.leaf (.inr (.inl (false, s.b0))))
              (.leaf (.inl (z27.mk (IntKind.wrap .i64 (s.t3 + (1 : Int))) s.b0))))
        .fail)
      .fail)
    (.leaf (.inr (.inr s.b0)))
noncomputable def zfc (q : Option Nat) (s : z27) : Option ((Bool × Cpu) ⊕ Cpu) := limQ q (fun s => (z4r s).run) s
noncomputable def zc3 (q : Option Nat) (x0 : Cpu) : Tree Bool :=
  .opt ((Bool × Cpu) ⊕ Cpu) (zfc q (z27.mk (0 : Int) x0)) fun l276 =>
    .ite (l276.isLeft)
      (.opt (Bool × Cpu) (l276.getLeft?) fun a277 =>
        .leaf (a277.1))
      (.opt Cpu (l276.getRight?) fun b278 =>
        .ite (decide (0 ≤ (0 : Int)))
          (.ite (decide ((0 : Int) < (2 : Int)))
            (.opt Int (b278.sP[((0 : Int)).toNat * 1]?) fun y279 =>
              .opt Bool (z41 y279) fun r280 =>
                .ite (r280)
                  (.ite (decide (0 ≤ (1 : Int)))
                    (.ite (decide ((1 : Int) < (2 : Int)))
                      (.opt Int (b278.sP[((1 : Int)).toNat * 1]?) fun y281 =>
                        .opt Bool (z41 y281) fun r282 =>
                          .ite (r282)
                            (.opt Bool (z41 b278.pC) fun r283 =>
                              .ite (r283)
                                (.opt Bool (za7 b278.pSW) fun r284 =>
                                  .leaf (r284))
                                (.leaf (false)))
                            (.leaf (false)))
                      .fail)
                    .fail)
                  (.leaf (false)))
            .fail)
          .fail)
noncomputable def z86 (q : Option Nat) (x0 : Cpu) : Option Bool := (zc3 q x0).run
noncomputable def z114 : Arg U (Cpu × Unit) := aA cCpu (aNil)
noncomputable def zqq (r : Bool) : List (V U) × List (Blk U) := ([vO cBool r], [])
noncomputable def zrb : List (V U) → List (Blk U) → Option (FnOut U) := mkSpec z114 bNil (fun x _ => z86 none x.1) zqq
noncomputable def zo3 (x : (Unit) × (Int × Unit) × Unit) (g : (Cpu × Unit) × Unit) : z27 := z27.mk x.2.1.1 g.1.1
noncomputable def zw4 : Tms U ((Unit) × (Int × Unit) × Unit) := tO 1 (cK (.ptr 0 0) (cUnit)) (tO 3 (cPair (cInt .i64) (cUnit)) (tNil))
noncomputable def z15d : Bls U ((Cpu × Unit) × Unit) := bC (cPair cCpu (cUnit)) (bNil)
noncomputable def zj6 (s : z27) : St U := { tm := [(1, .v (vO (cK (.ptr 0 0) (cUnit)) (()))), (3, .v (vO (cPair (cInt .i64) (cUnit)) (s.t3, ())))], hp := [.cells ((cPair cCpu (cUnit) : Cdc U (Cpu × Unit)).enc (s.b0, ())) none] }
noncomputable def z11x : ((Bool × Cpu) ⊕ Cpu) → Ex × St U
  | .inl r => (.ret, { tm := [(1, .v (vO (cK (.ptr 0 0) (cUnit)) (()))), (2, .v (vO (cPair cBool (cUnit)) (r.1, ())))], hp := [.cells ((cPair cCpu (cUnit) : Cdc U (Cpu × Unit)).enc (r.2, ())) none] })
  | .inr r => (.exit 0, { tm := [(1, .v (vO (cK (.ptr 0 0) (cUnit)) (())))], hp := [.cells ((cPair cCpu (cUnit) : Cdc U (Cpu × Unit)).enc (r, ())) none] })
noncomputable def zms (y : ((Bool × Cpu) ⊕ Cpu)) : Tree (Ex × St U) := .ite y.isLeft (.opt (Bool × Cpu) y.getLeft? fun r => .leaf (.ret, { tm := [(1, .v (vO (cK (.ptr 0 0) (cUnit)) (()))), (2, .v (vO (cPair cBool (cUnit)) (r.1, ())))], hp := [.cells ((cPair cCpu (cUnit) : Cdc U (Cpu × Unit)).enc (r.2, ())) none] })) (.opt Cpu y.getRight? fun r => .leaf (.exit 0, { tm := [(1, .v (vO (cK (.ptr 0 0) (cUnit)) (())))], hp := [.cells ((cPair cCpu (cUnit) : Cdc U (Cpu × Unit)).enc (r, ())) none] }))
noncomputable def zzs : Hd := { keep := [1, 3], xkeep := [1, 2], own := false }
noncomputable def zd2 : Env U := { P := Tryz.prog, cd := cd, fns := fns105, lps := (addL 0 zzs (mkLoop zw4 z15d zo3 (zfc none) zms) noL), frz := fun _r => false, nt := 34, n0 := 0 }
noncomputable def z15r : Code := (loopAt (Tryz.f44.body.getD .skip) 0 0).getD .skip
theorem z1g0 (s : z27) : round zd2 zzs z15r 0 (zj6 s) = (z4r s).map (sumE zj6 z11x) := by kernel_rfl
theorem z1k7 : LpOk zd2 z15r 0 := mkLoop_ok (A := zw4) (B := z15d) (f := zo3) (L := zfc none) (tO_ok (cK_ok cUnit_ok) (tO_ok (cPair_ok (cInt_ok .i64) cUnit_ok) tNil_ok)) (bC_ok (cPair_ok zu cUnit_ok) bNil_ok) (enc := zj6) (out := zms) (outS := z11x) (step := z4r) (fun _ => rfl) (fun _ _ => by kernel_rfl) (by kernel_rfl) (fun b => by cases b <;> rfl) z1g0
theorem z1m6 (x : Cpu × Unit) (g : Unit) : execF zd2 Tryz.f44 (z114.enc x) (bNil.enc g) = (zc3 none x.1).map zqq := by kernel_rfl
theorem z1bq : FnOk Tryz.prog cd 44 zrb := mk_ok (E := zd2) cd_ok z14v Tryz.func44 (by kernel_rfl) (loops_of (addL_ok z1k7 noL_ok)) (aA_ok zu (aNil_ok)) bNil_ok (T := fun x _ => zc3 none x.1) (fun _ _ => rfl) z1m6
noncomputable def fns44 := addF 44 true zrb fns105
theorem z16x : ∀ f q t, fns44 f = some (q, t) → FnOk Tryz.prog cd f t := addF_ok z1bq z14v
noncomputable def zd4 (q : Option Nat) (x0 : Machine) : Tree Bool :=
  .ite (decide (x0.now < (0 : Int)))
    (.leaf (false))
    (.ite (decide ((1099511627776 : Int) < x0.now))
      (.leaf (false))
      (.ite (decide (x0.power < (0 : Int)))
        (.leaf (false))
        (.ite (decide ((10000 : Int) < x0.power))
          (.leaf (false))
          (.ite (x0.halted)
            (.ite (x0.waiting)
              (.leaf (false))
              (.ite (!decide (x0.power = (0 : Int)))
                (.leaf (false))
                (.ite (x0.powerTrap)
                  (.leaf (false))
                  (.opt Bool (z92 q x0) fun r285 =>
                    .ite (r285)
                      (.opt Bool (z86 q x0.cpu) fun r286 =>
                        .leaf (r286))
                      (.leaf (false))))))
            (.opt Bool (z92 q x0) fun r287 =>
              .ite (r287)
                (.opt Bool (z86 q x0.cpu) fun r288 =>
                  .leaf (r288))
                (.leaf (false)))))))
noncomputable def z38 (q : Option Nat) (x0 : Machine) : Option Bool := (zd4 q x0).run
noncomputable def znp : Arg U (Machine × Unit) := aA cMachine (aNil)
noncomputable def ztc (r : Bool) : List (V U) × List (Blk U) := ([vO cBool r], [])
noncomputable def zyj : List (V U) → List (Blk U) → Option (FnOut U) := mkSpec znp bNil (fun x _ => z38 none x.1) ztc
noncomputable def z19f : Env U := { P := Tryz.prog, cd := cd, fns := fns44, lps := noL, frz := fun _r => false, nt := 43, n0 := 0 }
theorem z1jd (x : Machine × Unit) (g : Unit) : execF z19f Tryz.f16 (znp.enc x) (bNil.enc g) = (zd4 none x.1).map ztc := by kernel_rfl
theorem z1ir : FnOk Tryz.prog cd 16 zyj := mk_ok (E := z19f) cd_ok z16x Tryz.func16 (by kernel_rfl) (noLoops_body (by kernel_rfl)) (aA_ok zm (aNil_ok)) bNil_ok (T := fun x _ => zd4 none x.1) (fun _ _ => rfl) z1jd
noncomputable def fns16 := addF 16 true zyj fns44
theorem z19k : ∀ f q t, fns16 f = some (q, t) → FnOk Tryz.prog cd f t := addF_ok z1ir z16x
structure z1c where
  t0 : (List UInt8)
  t3 : Int
  t4 : Int
  t5 : Int
noncomputable def z50 (s : z1c) : Tree (z1c ⊕ ((List UInt8) × Int × Int)) :=
  .ite (decide (s.t5 < (8 : Int)))
    (.ite (decide ((2 : Int) = 0))
      .fail
      (.ite (decide (((s.t3).tmod (2 : Int)) = (1 : Int)))
        (.ite (decide (0 ≤ (1 : Int)))
          (.leaf (.inl (z1c.mk s.t0 (IntKind.wrap .u32 (((BitVec.ofInt 32 ((s.t3).fdiv (2 ^ (min ((1 : Int)).toNat 32))) ^^^ BitVec.ofInt 32 (3988292384 : Int)).toNat : Int))) s.t4 (IntKind.wrap .i64 (s.t5 + (1 : Int))))))
          .fail)
        (.ite (decide (0 ≤ (1 : Int)))
          (.leaf (.inl (z1c.mk s.t0 ((s.t3).fdiv (2 ^ (min ((1 : Int)).toNat 32))) s.t4 (IntKind.wrap .i64 (s.t5 + (1 : Int))))))
          .fail)))
    (.leaf (.inr (s.t0, s.t3, s.t4)))
noncomputable def z5z (q : Option Nat) (s : z1c) : Option ((List UInt8) × Int × Int) := limQ q (fun s => (z50 s).run) s
structure z35 where
  t0 : (List UInt8)
  t3 : Int
  t4 : Int
noncomputable def z76 (q : Option Nat) (s : z35) : Tree (z35 ⊕ Int) :=
  .ite (decide (s.t4 < (s.t0.length : Int)))
    (.ite (decide (0 ≤ s.t4))
      (.opt UInt8 (s.t0[(s.t4).toNat]?) fun y289 =>
        .opt ((List UInt8) × Int × Int) (z5z q (z1c.mk s.t0 (IntKind.wrap .u32 (((BitVec.ofInt 32 s.t3 ^^^ BitVec.ofInt 32 (IntKind.wrap .u32 (y289.toNat : Int))).toNat : Int))) s.t4 (0 : Int))) fun l290 =>
          .leaf (.inl (z35.mk l290.1 l290.2.1 (IntKind.wrap .i64 (l290.2.2 + (1 : Int))))))
      .fail)
    (.leaf (.inr s.t3))
noncomputable def z8g (q : Option Nat) (s : z35) : Option Int := limQ q (fun s => (z76 q s).run) s
noncomputable def zb5 (q : Option Nat) (x0 : (List UInt8)) : Tree Int :=
  .opt Int (z8g q (z35.mk x0 (4294967295 : Int) (0 : Int))) fun l291 =>
    .leaf (IntKind.wrap .i64 (IntKind.wrap .u32 (((BitVec.ofInt 32 l291 ^^^ BitVec.ofInt 32 (4294967295 : Int)).toNat : Int))))
noncomputable def zfx (q : Option Nat) (x0 : (List UInt8)) : Option Int := (zb5 q x0).run
noncomputable def zz2 : Arg U ((List UInt8) × Unit) := aO cStr (aNil)
noncomputable def zog (r : Int) : List (V U) × List (Blk U) := ([vO (cInt .i64) r], [])
noncomputable def z152 : List (V U) → List (Blk U) → Option (FnOut U) := mkSpec zz2 bNil (fun x _ => zfx none x.1) zog
noncomputable def zyd (x : ((List UInt8) × Unit) × (Int × Unit) × (Int × Unit) × Unit) (_g : Unit) : z35 := z35.mk x.1.1 x.2.1.1 x.2.2.1.1
noncomputable def zs3 : Tms U (((List UInt8) × Unit) × (Int × Unit) × (Int × Unit) × Unit) := tO 0 (cPair cStr (cUnit)) (tO 3 (cPair (cInt .u32) (cUnit)) (tO 4 (cPair (cInt .i64) (cUnit)) (tNil)))
noncomputable def zrs : Bls U (Unit) := bNil
noncomputable def zhc (s : z35) : St U := { tm := [(0, .v (vO (cPair cStr (cUnit)) (s.t0, ()))), (3, .v (vO (cPair (cInt .u32) (cUnit)) (s.t3, ()))), (4, .v (vO (cPair (cInt .i64) (cUnit)) (s.t4, ())))], hp := [] }
noncomputable def zk7 (r : Int) : Ex × St U := (.exit 0, { tm := [(3, .v (vO (cPair (cInt .u32) (cUnit)) (r, ())))], hp := [] })
noncomputable def zre (r : Int) : Tree (Ex × St U) := .leaf (zk7 r)
noncomputable def z12h : Hd := { keep := [0, 3, 4], xkeep := [2, 3], own := false }
noncomputable def z18s (x : ((List UInt8) × Unit) × (Int × Unit) × (Int × Unit) × (Int × Unit) × Unit) (_g : Unit) : z1c := z1c.mk x.1.1 x.2.1.1 x.2.2.1.1 x.2.2.2.1.1
noncomputable def z12p : Tms U (((List UInt8) × Unit) × (Int × Unit) × (Int × Unit) × (Int × Unit) × Unit) := tO 0 (cPair cStr (cUnit)) (tO 3 (cPair (cInt .u32) (cUnit)) (tO 4 (cPair (cInt .i64) (cUnit)) (tO 5 (cPair (cInt .i64) (cUnit)) (tNil))))
noncomputable def z1aj : Bls U (Unit) := bNil
noncomputable def zht (s : z1c) : St U := { tm := [(0, .v (vO (cPair cStr (cUnit)) (s.t0, ()))), (3, .v (vO (cPair (cInt .u32) (cUnit)) (s.t3, ()))), (4, .v (vO (cPair (cInt .i64) (cUnit)) (s.t4, ()))), (5, .v (vO (cPair (cInt .i64) (cUnit)) (s.t5, ())))], hp := [] }
noncomputable def zjd (r : ((List UInt8) × Int × Int)) : Ex × St U := (.exit 2, { tm := [(0, .v (vO (cPair cStr (cUnit)) (r.1, ()))), (3, .v (vO (cPair (cInt .u32) (cUnit)) (r.2.1, ()))), (4, .v (vO (cPair (cInt .i64) (cUnit)) (r.2.2, ())))], hp := [] })
noncomputable def zxj (r : ((List UInt8) × Int × Int)) : Tree (Ex × St U) := .leaf (zjd r)
noncomputable def z18k : Hd := { keep := [0, 3, 4, 5], xkeep := [0, 2, 3, 4], own := false }
noncomputable def z75 : Env U := { P := Tryz.prog, cd := cd, fns := fns16, lps := (addL 0 z12h (mkLoop zs3 zrs zyd (z8g none) zre) (addL 1 z18k (mkLoop z12p z1aj z18s (z5z none) zxj) noL)), frz := fun _r => false, nt := 33, n0 := 0 }
noncomputable def z121 : Code := (loopAt (Tryz.f42.body.getD .skip) 0 0).getD .skip
theorem z1dd (s : z35) : round z75 z12h z121 0 (zhc s) = (z76 none s).map (sumE zhc zk7) := by kernel_rfl
theorem z1fi : LpOk z75 z121 0 := mkLoop_ok (A := zs3) (B := zrs) (f := zyd) (L := z8g none) (tO_ok (cPair_ok cStr_ok cUnit_ok) (tO_ok (cPair_ok (cInt_ok .u32) cUnit_ok) (tO_ok (cPair_ok (cInt_ok .i64) cUnit_ok) tNil_ok))) bNil_ok (enc := zhc) (out := zre) (outS := zk7) (step := z76 none) (fun _ => rfl) (fun _ _ => by kernel_rfl) (by kernel_rfl) (fun _ => rfl) z1dd
noncomputable def z19c : Code := (loopAt (Tryz.f42.body.getD .skip) 0 1).getD .skip
theorem z1bt (s : z1c) : round z75 z18k z19c 1 (zht s) = (z50 s).map (sumE zht zjd) := by kernel_rfl
theorem z1bl : LpOk z75 z19c 1 := mkLoop_ok (A := z12p) (B := z1aj) (f := z18s) (L := z5z none) (tO_ok (cPair_ok cStr_ok cUnit_ok) (tO_ok (cPair_ok (cInt_ok .u32) cUnit_ok) (tO_ok (cPair_ok (cInt_ok .i64) cUnit_ok) (tO_ok (cPair_ok (cInt_ok .i64) cUnit_ok) tNil_ok)))) bNil_ok (enc := zht) (out := zxj) (outS := zjd) (step := z50) (fun _ => rfl) (fun _ _ => by kernel_rfl) (by kernel_rfl) (fun _ => rfl) z1bt
theorem z1i1 (x : (List UInt8) × Unit) (g : Unit) : execF z75 Tryz.f42 (zz2.enc x) (bNil.enc g) = (zb5 none x.1).map zog := by kernel_rfl
theorem z1jq : FnOk Tryz.prog cd 42 z152 := mk_ok (E := z75) cd_ok z19k Tryz.func42 (by kernel_rfl) (loops_of (addL_ok z1fi (addL_ok z1bl noL_ok))) (aO_ok cStr_ok (aNil_ok)) bNil_ok (T := fun x _ => zb5 none x.1) (fun _ _ => rfl) z1i1
noncomputable def fns42 := addF 42 true z152 fns16
theorem zwh : ∀ f q t, fns42 f = some (q, t) → FnOk Tryz.prog cd f t := addF_ok z1jq z19k
structure z1e where
  t0 : Int
  t1 : Int
  t6 : Int
  b0 : (List Int)
noncomputable def z73 (s : z1e) : Tree (z1e ⊕ (List Int)) :=
  .ite (decide (s.t6 < s.t1))
    (.ite (decide (s.t6 < (8 : Int)))
      (.ite (decide ((256 : Int) = 0))
        .fail
        (.ite (decide ((s.b0.length + ([IntKind.wrap .u8 ((s.t0).tmod (256 : Int))]).length) * 1 ≤ 140737488355328))
          (.ite (decide ((256 : Int) = 0))
            .fail
            (.leaf (.inl (z1e.mk (IntKind.wrap .i64 ((s.t0).tdiv (256 : Int))) s.t1 (IntKind.wrap .i64 (s.t6 + (1 : Int))) (s.b0 ++ ([IntKind.wrap .u8 ((s.t0).tmod (256 : Int))]))))))
          .fail))
      (.leaf (.inr s.b0)))
    (.leaf (.inr s.b0))
noncomputable def z4q (q : Option Nat) (s : z1e) : Option (List Int) := limQ q (fun s => (z73 s).run) s
noncomputable def zee (q : Option Nat) (x0 : Int) (x1 : Int) : Tree (List UInt8) :=
  .ite (decide (x0 < (0 : Int)))
    (.opt (List Int) (z4q q (z1e.mk (0 : Int) x1 (0 : Int) ([]))) fun l292 =>
      .leaf (l292.map fun x => UInt8.ofNat x.toNat))
    (.opt (List Int) (z4q q (z1e.mk x0 x1 (0 : Int) ([]))) fun l293 =>
      .leaf (l293.map fun x => UInt8.ofNat x.toNat))
noncomputable def z8 (q : Option Nat) (x0 : Int) (x1 : Int) : Option (List UInt8) := (zee q x0 x1).run
noncomputable def zqh : Arg U (Int × Int × Unit) := aO (cInt .i64) (aO (cInt .i64) (aNil))
noncomputable def z104 (r : (List UInt8)) : List (V U) × List (Blk U) := ([vO cStr r], [])
noncomputable def ztr : List (V U) → List (Blk U) → Option (FnOut U) := mkSpec zqh bNil (fun x _ => z8 none x.1 x.2.1) z104
noncomputable def zw6 (x : (Int × Unit) × (Int × Unit) × (Unit) × (Int × Unit) × Unit) (g : (List Int) × Unit) : z1e := z1e.mk x.1.1 x.2.1.1 x.2.2.2.1.1 g.1
noncomputable def zz1 : Tms U ((Int × Unit) × (Int × Unit) × (Unit) × (Int × Unit) × Unit) := tO 0 (cPair (cInt .i64) (cUnit)) (tO 1 (cPair (cInt .i64) (cUnit)) (tO 5 (cK (.row 0 0) (cUnit)) (tO 6 (cPair (cInt .i64) (cUnit)) (tNil))))
noncomputable def zov : Bls U ((List Int) × Unit) := bRv 5 0 (bNil)
noncomputable def zjp (s : z1e) : St U := { tm := [(0, .v (vO (cPair (cInt .i64) (cUnit)) (s.t0, ()))), (1, .v (vO (cPair (cInt .i64) (cUnit)) (s.t1, ()))), (5, .v (vO (cK (.row 0 0) (cUnit)) (()))), (6, .v (vO (cPair (cInt .i64) (cUnit)) (s.t6, ())))], hp := [.row 5 0 s.b0] }
noncomputable def zjf (r : (List Int)) : Ex × St U := (.exit 0, { tm := [(5, .v (vO (cK (.row 0 0) (cUnit)) (())))], hp := [.row 5 0 r] })
noncomputable def z11o (r : (List Int)) : Tree (Ex × St U) := .leaf (zjf r)
noncomputable def z15v : Hd := { keep := [0, 1, 5, 6], xkeep := [4, 5], own := true }
noncomputable def zga : Env U := { P := Tryz.prog, cd := cd, fns := fns42, lps := (addL 0 z15v (mkLoop zz1 zov zw6 (z4q none) z11o) noL), frz := fun _r => false, nt := 28, n0 := 0 }
noncomputable def z16h : Code := (loopAt (Tryz.f54.body.getD .skip) 0 0).getD .skip
theorem z1if (s : z1e) : round zga z15v z16h 0 (zjp s) = (z73 s).map (sumE zjp zjf) := by kernel_rfl
theorem z1jl : LpOk zga z16h 0 := mkLoop_ok (A := zz1) (B := zov) (f := zw6) (L := z4q none) (tO_ok (cPair_ok (cInt_ok .i64) cUnit_ok) (tO_ok (cPair_ok (cInt_ok .i64) cUnit_ok) (tO_ok (cK_ok cUnit_ok) (tO_ok (cPair_ok (cInt_ok .i64) cUnit_ok) tNil_ok)))) (bRv_ok bNil_ok) (enc := zjp) (out := z11o) (outS := zjf) (step := z73) (fun _ => rfl) (fun _ _ => by kernel_rfl) (by kernel_rfl) (fun _ => rfl) z1if
theorem z1g3 (x : Int × Int × Unit) (g : Unit) : execF zga Tryz.f54 (zqh.enc x) (bNil.enc g) = (zee none x.1 x.2.1).map z104 := by kernel_rfl
theorem z1fk : FnOk Tryz.prog cd 54 ztr := mk_ok (E := zga) cd_ok zwh Tryz.func54 (by kernel_rfl) (loops_of (addL_ok z1jl noL_ok)) (aO_ok (cInt_ok .i64) (aO_ok (cInt_ok .i64) (aNil_ok))) bNil_ok (T := fun x _ => zee none x.1 x.2.1) (fun _ _ => rfl) z1g3
noncomputable def fns54 := addF 54 true ztr fns42
theorem zvy : ∀ f q t, fns54 f = some (q, t) → FnOk Tryz.prog cd f t := addF_ok z1fk zwh
noncomputable def zdk (q : Option Nat) (x0 : (List UInt8)) : Tree ((List UInt8) × Int) :=
  .ite (decide ((x0.length : Int) < (4 : Int)))
    (.leaf ((([] : List UInt8), (8 : Int))))
    (.ite (decide (0 ≤ IntKind.wrap .i64 ((x0.length : Int) - (4 : Int))))
      (.ite (decide (IntKind.wrap .i64 ((x0.length : Int) - (4 : Int)) ≤ ((x0.length : Nat) : Int)))
        (.opt Int (zfx q ((x0.drop (0)).take ((IntKind.wrap .i64 ((x0.length : Int) - (4 : Int))).toNat - 0))) fun r294 =>
          .opt (List UInt8) (z8 q r294 (4 : Int)) fun r295 =>
            .ite (decide (0 ≤ IntKind.wrap .i64 ((x0.length : Int) - (4 : Int))))
              (.ite (decide (IntKind.wrap .i64 ((x0.length : Int) - (4 : Int)) ≤ ((x0.length : Nat) : Int)))
                (.ite (!decide (r295 = ((x0.drop ((IntKind.wrap .i64 ((x0.length : Int) - (4 : Int))).toNat)).take (x0.length - (IntKind.wrap .i64 ((x0.length : Int) - (4 : Int))).toNat))))
                  (.leaf ((([] : List UInt8), (10 : Int))))
                  (.leaf (((x0.drop (0)).take ((IntKind.wrap .i64 ((x0.length : Int) - (4 : Int))).toNat - 0), (0 : Int)))))
                .fail)
              .fail)
        .fail)
      .fail)
noncomputable def z9e (q : Option Nat) (x0 : (List UInt8)) : Option ((List UInt8) × Int) := (zdk q x0).run
noncomputable def zuf : Arg U ((List UInt8) × Unit) := aO cStr (aNil)
noncomputable def z17e (r : ((List UInt8) × Int)) : List (V U) × List (Blk U) := ([vO cStr r.1, vO (cInt .i64) r.2], [])
noncomputable def z11m : List (V U) → List (Blk U) → Option (FnOut U) := mkSpec zuf bNil (fun x _ => z9e none x.1) z17e
noncomputable def z10a : Env U := { P := Tryz.prog, cd := cd, fns := fns54, lps := noL, frz := fun _r => false, nt := 23, n0 := 0 }
theorem z1cj (x : (List UInt8) × Unit) (g : Unit) : execF z10a Tryz.f31 (zuf.enc x) (bNil.enc g) = (zdk none x.1).map z17e := by kernel_rfl
theorem z1dj : FnOk Tryz.prog cd 31 z11m := mk_ok (E := z10a) cd_ok zvy Tryz.func31 (by kernel_rfl) (noLoops_body (by kernel_rfl)) (aO_ok cStr_ok (aNil_ok)) bNil_ok (T := fun x _ => zdk none x.1) (fun _ _ => rfl) z1cj
noncomputable def fns31 := addF 31 true z11m fns54
theorem zvd : ∀ f q t, fns31 f = some (q, t) → FnOk Tryz.prog cd f t := addF_ok z1dj zvy
structure z2u where
  t0 : (List UInt8)
  t1 : Int
  t2 : Int
  t9 : Int
  t10 : Int
noncomputable def z6s (s : z2u) : Tree (z2u ⊕ (Int × Int × Int)) :=
  .ite (decide (s.t1 ≤ s.t10))
    (.ite (decide (0 ≤ s.t10))
      (.opt UInt8 (s.t0[(s.t10).toNat]?) fun y296 =>
        .leaf (.inl (z2u.mk s.t0 s.t1 s.t2 (IntKind.wrap .i64 ((IntKind.wrap .i64 ((256 : Int) * s.t9)) + (IntKind.wrap .i64 (y296.toNat : Int)))) (IntKind.wrap .i64 (s.t10 - (1 : Int))))))
      .fail)
    (.leaf (.inr (s.t1, s.t2, s.t9)))
noncomputable def z9i (q : Option Nat) (s : z2u) : Option (Int × Int × Int) := limQ q (fun s => (z6s s).run) s
noncomputable def zg1 (q : Option Nat) (x0 : (List UInt8)) (x1 : Int) (x2 : Int) : Tree (Int × Int × Int) :=
  .ite (decide (x2 < (1 : Int)))
    (.leaf (((0 : Int), (0 : Int), (1 : Int))))
    (.ite (decide ((7 : Int) < x2))
      (.leaf (((0 : Int), (0 : Int), (1 : Int))))
      (.ite (decide (x1 < (0 : Int)))
        (.leaf (((0 : Int), (0 : Int), (1 : Int))))
        (.ite (decide ((x0.length : Int) < x1))
          (.leaf (((0 : Int), (0 : Int), (1 : Int))))
          (.ite (decide ((IntKind.wrap .i64 ((x0.length : Int) - x1)) < x2))
            (.leaf (((0 : Int), (0 : Int), (8 : Int))))
            (.opt (Int × Int × Int) (z9i q (z2u.mk x0 x1 x2 (0 : Int) (IntKind.wrap .i64 ((IntKind.wrap .i64 (x1 + x2)) - (1 : Int))))) fun l297 =>
              .leaf ((l297.2.2, IntKind.wrap .i64 (l297.1 + l297.2.1), (0 : Int))))))))
noncomputable def z4p (q : Option Nat) (x0 : (List UInt8)) (x1 : Int) (x2 : Int) : Option (Int × Int × Int) := (zg1 q x0 x1 x2).run
noncomputable def ztk : Arg U ((List UInt8) × Int × Int × Unit) := aO cStr (aO (cInt .i64) (aO (cInt .i64) (aNil)))
noncomputable def zuy (r : (Int × Int × Int)) : List (V U) × List (Blk U) := ([vO (cInt .i64) r.1, vO (cInt .i64) r.2.1, vO (cInt .i64) r.2.2], [])
noncomputable def ztu : List (V U) → List (Blk U) → Option (FnOut U) := mkSpec ztk bNil (fun x _ => z4p none x.1 x.2.1 x.2.2.1) zuy
noncomputable def zyi (x : ((List UInt8) × Unit) × (Int × Unit) × (Int × Unit) × (Int × Unit) × (Int × Unit) × Unit) (_g : Unit) : z2u := z2u.mk x.1.1 x.2.1.1 x.2.2.1.1 x.2.2.2.1.1 x.2.2.2.2.1.1
noncomputable def zn0 : Tms U (((List UInt8) × Unit) × (Int × Unit) × (Int × Unit) × (Int × Unit) × (Int × Unit) × Unit) := tO 0 (cPair cStr (cUnit)) (tO 1 (cPair (cInt .i64) (cUnit)) (tO 2 (cPair (cInt .i64) (cUnit)) (tO 9 (cPair (cInt .i64) (cUnit)) (tO 10 (cPair (cInt .i64) (cUnit)) (tNil)))))
noncomputable def z17t : Bls U (Unit) := bNil
noncomputable def zlf (s : z2u) : St U := { tm := [(0, .v (vO (cPair cStr (cUnit)) (s.t0, ()))), (1, .v (vO (cPair (cInt .i64) (cUnit)) (s.t1, ()))), (2, .v (vO (cPair (cInt .i64) (cUnit)) (s.t2, ()))), (9, .v (vO (cPair (cInt .i64) (cUnit)) (s.t9, ()))), (10, .v (vO (cPair (cInt .i64) (cUnit)) (s.t10, ())))], hp := [] }
noncomputable def zjb (r : (Int × Int × Int)) : Ex × St U := (.exit 0, { tm := [(1, .v (vO (cPair (cInt .i64) (cUnit)) (r.1, ()))), (2, .v (vO (cPair (cInt .i64) (cUnit)) (r.2.1, ()))), (9, .v (vO (cPair (cInt .i64) (cUnit)) (r.2.2, ())))], hp := [] })
noncomputable def z19s (r : (Int × Int × Int)) : Tree (Ex × St U) := .leaf (zjb r)
noncomputable def zsj : Hd := { keep := [0, 1, 2, 9, 10], xkeep := [1, 2, 6, 7, 8, 9], own := false }
noncomputable def zce : Env U := { P := Tryz.prog, cd := cd, fns := fns31, lps := (addL 0 zsj (mkLoop zn0 z17t zyi (z9i none) z19s) noL), frz := fun _r => false, nt := 53, n0 := 0 }
noncomputable def z15g : Code := (loopAt (Tryz.f115.body.getD .skip) 0 0).getD .skip
theorem z1h8 (s : z2u) : round zce zsj z15g 0 (zlf s) = (z6s s).map (sumE zlf zjb) := by kernel_rfl
theorem z1jr : LpOk zce z15g 0 := mkLoop_ok (A := zn0) (B := z17t) (f := zyi) (L := z9i none) (tO_ok (cPair_ok cStr_ok cUnit_ok) (tO_ok (cPair_ok (cInt_ok .i64) cUnit_ok) (tO_ok (cPair_ok (cInt_ok .i64) cUnit_ok) (tO_ok (cPair_ok (cInt_ok .i64) cUnit_ok) (tO_ok (cPair_ok (cInt_ok .i64) cUnit_ok) tNil_ok))))) bNil_ok (enc := zlf) (out := z19s) (outS := zjb) (step := z6s) (fun _ => rfl) (fun _ _ => by kernel_rfl) (by kernel_rfl) (fun _ => rfl) z1h8
theorem z1kj (x : (List UInt8) × Int × Int × Unit) (g : Unit) : execF zce Tryz.f115 (ztk.enc x) (bNil.enc g) = (zg1 none x.1 x.2.1 x.2.2.1).map zuy := by kernel_rfl
theorem z1fb : FnOk Tryz.prog cd 115 ztu := mk_ok (E := zce) cd_ok zvd Tryz.func115 (by kernel_rfl) (loops_of (addL_ok z1jr noL_ok)) (aO_ok cStr_ok (aO_ok (cInt_ok .i64) (aO_ok (cInt_ok .i64) (aNil_ok)))) bNil_ok (T := fun x _ => zg1 none x.1 x.2.1 x.2.2.1) (fun _ _ => rfl) z1kj
noncomputable def fns115 := addF 115 true ztu fns31
theorem z149 : ∀ f q t, fns115 f = some (q, t) → FnOk Tryz.prog cd f t := addF_ok z1fb zvd
noncomputable def z6p (q : Option Nat) (x0 : Reader) (x1 : Int) : Tree (Reader × Int) :=
  .opt (Int × Int × Int) (z4p q x0.s (0 : Int) x1) fun r298 =>
    .ite (!decide (r298.2.2 = (0 : Int)))
      (.leaf ((Reader.mk ([]) true, (0 : Int))))
      (.ite (decide (0 ≤ r298.2.1))
        (.ite (decide (r298.2.1 ≤ ((x0.s.length : Nat) : Int)))
          (.leaf ((Reader.mk ((x0.s.drop ((r298.2.1).toNat)).take (x0.s.length - (r298.2.1).toNat)) x0.bad, r298.1)))
          .fail)
        .fail)
noncomputable def z7 (q : Option Nat) (x0 : Reader) (x1 : Int) : Option (Reader × Int) := (z6p q x0 x1).run
noncomputable def z109 : Arg U (Reader × Int × Unit) := aA cReader (aO (cInt .i64) (aNil))
noncomputable def zmo (r : (Reader × Int)) : List (V U) × List (Blk U) := ([vA cReader r.1, vO (cInt .i64) r.2], [])
noncomputable def zmi : List (V U) → List (Blk U) → Option (FnOut U) := mkSpec z109 bNil (fun x _ => z7 none x.1 x.2.1) zmo
noncomputable def zqg : Env U := { P := Tryz.prog, cd := cd, fns := fns115, lps := noL, frz := fun _r => false, nt := 28, n0 := 0 }
theorem z1gk (x : Reader × Int × Unit) (g : Unit) : execF zqg Tryz.f59 (z109.enc x) (bNil.enc g) = (z6p none x.1 x.2.1).map zmo := by kernel_rfl
theorem z1ed : FnOk Tryz.prog cd 59 zmi := mk_ok (E := zqg) cd_ok z149 Tryz.func59 (by kernel_rfl) (noLoops_body (by kernel_rfl)) (aA_ok zi (aO_ok (cInt_ok .i64) (aNil_ok))) bNil_ok (T := fun x _ => z6p none x.1 x.2.1) (fun _ _ => rfl) z1gk
noncomputable def fns59 := addF 59 true zmi fns115
theorem zpc : ∀ f q t, fns59 f = some (q, t) → FnOk Tryz.prog cd f t := addF_ok z1ed z149
structure z2x where
  t5 : Int
  b0 : Reader
  b1 : Reader
  b2 : Cpu
  b3 : Cpu
noncomputable def z79 (q : Option Nat) (s : z2x) : Tree (z2x ⊕ (Reader × Reader × Cpu × Cpu)) :=
  .ite (decide (s.t5 < (6 : Int)))
    (.opt (Reader × Int) (z7 q s.b0 (2 : Int)) fun r299 =>
      .ite (decide (0 ≤ s.t5))
        (.ite (decide (s.t5 < (6 : Int)))
          (.opt Int (s.b3.r[(s.t5).toNat * 1]?) fun y300 =>
            .leaf (.inl (z2x.mk (IntKind.wrap .i64 (s.t5 + (1 : Int))) r299.1 s.b1 s.b2 (Cpu.mk (s.b3.r.set ((s.t5).toNat * 1) r299.2) s.b3.sP s.b3.pC s.b3.pSW))))
          .fail)
        .fail)
    (.leaf (.inr (s.b0, s.b1, s.b2, s.b3)))
noncomputable def z53 (q : Option Nat) (s : z2x) : Option (Reader × Reader × Cpu × Cpu) := limQ q (fun s => (z79 q s).run) s
noncomputable def zbh (q : Option Nat) (x0 : Reader) : Tree (Reader × Cpu) :=
  .opt (Reader × Reader × Cpu × Cpu) (z53 q (z2x.mk (0 : Int) x0 (Reader.mk ([]) false) (Cpu.mk (List.replicate 6 (0 : Int)) (List.replicate 2 (0 : Int)) 0 0) (Cpu.mk (List.replicate 6 (0 : Int)) (List.replicate 2 (0 : Int)) 0 0))) fun l301 =>
    .opt (Reader × Int) (z7 q l301.1 (2 : Int)) fun r302 =>
      .ite (decide (0 ≤ (0 : Int)))
        (.ite (decide ((0 : Int) < (2 : Int)))
          (.opt Int (l301.2.2.2.sP[((0 : Int)).toNat * 1]?) fun y303 =>
            .opt (Reader × Int) (z7 q r302.1 (2 : Int)) fun r304 =>
              .ite (decide (0 ≤ (1 : Int)))
                (.ite (decide ((1 : Int) < (2 : Int)))
                  (.opt Int ((l301.2.2.2.sP.set (((0 : Int)).toNat * 1) r302.2)[((1 : Int)).toNat * 1]?) fun y305 =>
                    .opt (Reader × Int) (z7 q r304.1 (2 : Int)) fun r306 =>
                      .opt (Reader × Int) (z7 q r306.1 (2 : Int)) fun r307 =>
                        .leaf ((r307.1, Cpu.mk l301.2.2.2.r ((l301.2.2.2.sP.set (((0 : Int)).toNat * 1) r302.2).set (((1 : Int)).toNat * 1) r304.2) r306.2 r307.2)))
                  .fail)
                .fail)
          .fail)
        .fail
noncomputable def zai (q : Option Nat) (x0 : Reader) : Option (Reader × Cpu) := (zbh q x0).run
noncomputable def zyg : Arg U (Reader × Unit) := aA cReader (aNil)
noncomputable def zqc (r : (Reader × Cpu)) : List (V U) × List (Blk U) := ([vA cReader r.1, vA cCpu r.2], [])
noncomputable def zy2 : List (V U) → List (Blk U) → Option (FnOut U) := mkSpec zyg bNil (fun x _ => zai none x.1) zqc
noncomputable def z16g (x : (Unit) × (Unit) × (Unit) × (Unit) × (Int × Unit) × Unit) (g : (Reader × Unit) × (Reader × Unit) × (Cpu × Unit) × (Cpu × Unit) × Unit) : z2x := z2x.mk x.2.2.2.2.1.1 g.1.1 g.2.1.1 g.2.2.1.1 g.2.2.2.1.1
noncomputable def zro : Tms U ((Unit) × (Unit) × (Unit) × (Unit) × (Int × Unit) × Unit) := tO 1 (cK (.ptr 0 0) (cUnit)) (tO 2 (cK (.ptr 1 0) (cUnit)) (tO 3 (cK (.ptr 2 0) (cUnit)) (tO 4 (cK (.ptr 3 0) (cUnit)) (tO 5 (cPair (cInt .i64) (cUnit)) (tNil)))))
noncomputable def zmf : Bls U ((Reader × Unit) × (Reader × Unit) × (Cpu × Unit) × (Cpu × Unit) × Unit) := bC (cPair cReader (cUnit)) (bC (cPair cReader (cUnit)) (bC (cPair cCpu (cUnit)) (bC (cPair cCpu (cUnit)) (bNil))))
noncomputable def zl2 (s : z2x) : St U := { tm := [(1, .v (vO (cK (.ptr 0 0) (cUnit)) (()))), (2, .v (vO (cK (.ptr 1 0) (cUnit)) (()))), (3, .v (vO (cK (.ptr 2 0) (cUnit)) (()))), (4, .v (vO (cK (.ptr 3 0) (cUnit)) (()))), (5, .v (vO (cPair (cInt .i64) (cUnit)) (s.t5, ())))], hp := [.cells ((cPair cReader (cUnit) : Cdc U (Reader × Unit)).enc (s.b0, ())) none, .cells ((cPair cReader (cUnit) : Cdc U (Reader × Unit)).enc (s.b1, ())) none, .cells ((cPair cCpu (cUnit) : Cdc U (Cpu × Unit)).enc (s.b2, ())) none, .cells ((cPair cCpu (cUnit) : Cdc U (Cpu × Unit)).enc (s.b3, ())) none] }
noncomputable def zh8 (r : (Reader × Reader × Cpu × Cpu)) : Ex × St U := (.exit 0, { tm := [(1, .v (vO (cK (.ptr 0 0) (cUnit)) (()))), (2, .v (vO (cK (.ptr 1 0) (cUnit)) (()))), (3, .v (vO (cK (.ptr 2 0) (cUnit)) (()))), (4, .v (vO (cK (.ptr 3 0) (cUnit)) (())))], hp := [.cells ((cPair cReader (cUnit) : Cdc U (Reader × Unit)).enc (r.1, ())) none, .cells ((cPair cReader (cUnit) : Cdc U (Reader × Unit)).enc (r.2.1, ())) none, .cells ((cPair cCpu (cUnit) : Cdc U (Cpu × Unit)).enc (r.2.2.1, ())) none, .cells ((cPair cCpu (cUnit) : Cdc U (Cpu × Unit)).enc (r.2.2.2, ())) none] })
noncomputable def zy7 (r : (Reader × Reader × Cpu × Cpu)) : Tree (Ex × St U) := .leaf (zh8 r)
noncomputable def z15q : Hd := { keep := [1, 2, 3, 4, 5], xkeep := [1, 2, 3, 4], own := false }
noncomputable def z9v : Env U := { P := Tryz.prog, cd := cd, fns := fns59, lps := (addL 0 z15q (mkLoop zro zmf z16g (z53 none) zy7) noL), frz := fun _r => false, nt := 46, n0 := 0, fps := fun _r _i => bif Nat.beq _r 10 && Nat.beq _i 1 then .rd [3] else bif Nat.beq _r 10 && Nat.beq _i 2 then .wr [1] 4 else .none }
noncomputable def z18u : Code := (loopAt (Tryz.f55.body.getD .skip) 0 0).getD .skip
theorem z1jy (s : z2x) : round z9v z15q z18u 0 (zl2 s) = (z79 none s).map (sumE zl2 zh8) := by kernel_rfl
theorem z1f9 : LpOk z9v z18u 0 := mkLoop_ok (A := zro) (B := zmf) (f := z16g) (L := z53 none) (tO_ok (cK_ok cUnit_ok) (tO_ok (cK_ok cUnit_ok) (tO_ok (cK_ok cUnit_ok) (tO_ok (cK_ok cUnit_ok) (tO_ok (cPair_ok (cInt_ok .i64) cUnit_ok) tNil_ok))))) (bC_ok (cPair_ok zi cUnit_ok) (bC_ok (cPair_ok zi cUnit_ok) (bC_ok (cPair_ok zu cUnit_ok) (bC_ok (cPair_ok zu cUnit_ok) bNil_ok)))) (enc := zl2) (out := zy7) (outS := zh8) (step := z79 none) (fun _ => rfl) (fun _ _ => by kernel_rfl) (by kernel_rfl) (fun _ => rfl) z1jy
theorem z1ks (x : Reader × Unit) (g : Unit) : execF z9v Tryz.f55 (zyg.enc x) (bNil.enc g) = (zbh none x.1).map zqc := by kernel_rfl
theorem z1ew : FnOk Tryz.prog cd 55 zy2 := mk_ok (E := z9v) cd_ok zpc Tryz.func55 (by kernel_rfl) (loops_of (addL_ok z1f9 noL_ok)) (aA_ok zi (aNil_ok)) bNil_ok (T := fun x _ => zbh none x.1) (fun _ _ => rfl) z1ks
noncomputable def fns55 := addF 55 true zy2 fns59
theorem zxi : ∀ f q t, fns55 f = some (q, t) → FnOk Tryz.prog cd f t := addF_ok z1ew zpc
structure z26 where
  t4 : Int
  t6 : Int
  b0 : Reader
  b1 : Reader
  b2 : (List Int)
noncomputable def z4w (q : Option Nat) (s : z26) : Tree (z26 ⊕ (Reader × Reader × (List Int))) :=
  .ite (decide (s.t6 < s.t4))
    (.ite (!s.b0.bad)
      (.opt (Reader × Int) (z7 q s.b0 (2 : Int)) fun r309 =>
        .ite (decide ((s.b2.length + ([r309.2]).length) * 8 ≤ 140737488355328))
          (.leaf (.inl (z26.mk s.t4 (IntKind.wrap .i64 (s.t6 + (1 : Int))) r309.1 s.b1 (s.b2 ++ ([r309.2])))))
          .fail)
      (.leaf (.inr (s.b0, s.b1, s.b2))))
    (.leaf (.inr (s.b0, s.b1, s.b2)))
noncomputable def z4g (q : Option Nat) (s : z26) : Option (Reader × Reader × (List Int)) := limQ q (fun s => (z4w q s).run) s
noncomputable def zdw (q : Option Nat) (x0 : Reader) : Tree (Reader × (List Int)) :=
  .opt (Reader × Int) (z7 q x0 (2 : Int)) fun r308 =>
    .opt (Reader × Reader × (List Int)) (z4g q (z26.mk r308.2 (0 : Int) r308.1 (Reader.mk ([]) false) ([]))) fun l310 =>
      .leaf ((l310.1, l310.2.2))
noncomputable def z5l (q : Option Nat) (x0 : Reader) : Option (Reader × (List Int)) := (zdw q x0).run
noncomputable def z13q : Arg U (Reader × Unit) := aA cReader (aNil)
noncomputable def z13s (r : (Reader × (List Int))) : List (V U) × List (Blk U) := ([vA cReader r.1, vO (cSl 3) r.2], [])
noncomputable def zu5 : List (V U) → List (Blk U) → Option (FnOut U) := mkSpec z13q bNil (fun x _ => z5l none x.1) z13s
noncomputable def zuo (x : (Unit) × (Unit) × (Int × Unit) × (Unit) × (Int × Unit) × Unit) (g : (Reader × Unit) × (Reader × Unit) × (List Int) × Unit) : z26 := z26.mk x.2.2.1.1 x.2.2.2.2.1.1 g.1.1 g.2.1.1 g.2.2.1
noncomputable def z14h : Tms U ((Unit) × (Unit) × (Int × Unit) × (Unit) × (Int × Unit) × Unit) := tO 1 (cK (.ptr 0 0) (cUnit)) (tO 2 (cK (.ptr 1 0) (cUnit)) (tO 4 (cPair (cInt .i64) (cUnit)) (tO 5 (cK (.row 2 0) (cUnit)) (tO 6 (cPair (cInt .i64) (cUnit)) (tNil)))))
noncomputable def zr5 : Bls U ((Reader × Unit) × (Reader × Unit) × (List Int) × Unit) := bC (cPair cReader (cUnit)) (bC (cPair cReader (cUnit)) (bRv 3 0 (bNil)))
noncomputable def zk6 (s : z26) : St U := { tm := [(1, .v (vO (cK (.ptr 0 0) (cUnit)) (()))), (2, .v (vO (cK (.ptr 1 0) (cUnit)) (()))), (4, .v (vO (cPair (cInt .i64) (cUnit)) (s.t4, ()))), (5, .v (vO (cK (.row 2 0) (cUnit)) (()))), (6, .v (vO (cPair (cInt .i64) (cUnit)) (s.t6, ())))], hp := [.cells ((cPair cReader (cUnit) : Cdc U (Reader × Unit)).enc (s.b0, ())) none, .cells ((cPair cReader (cUnit) : Cdc U (Reader × Unit)).enc (s.b1, ())) none, .row 3 0 s.b2] }
noncomputable def zgs (r : (Reader × Reader × (List Int))) : Ex × St U := (.exit 0, { tm := [(1, .v (vO (cK (.ptr 0 0) (cUnit)) (()))), (2, .v (vO (cK (.ptr 1 0) (cUnit)) (()))), (5, .v (vO (cK (.row 2 0) (cUnit)) (())))], hp := [.cells ((cPair cReader (cUnit) : Cdc U (Reader × Unit)).enc (r.1, ())) none, .cells ((cPair cReader (cUnit) : Cdc U (Reader × Unit)).enc (r.2.1, ())) none, .row 3 0 r.2.2] })
noncomputable def z10z (r : (Reader × Reader × (List Int))) : Tree (Ex × St U) := .leaf (zgs r)
noncomputable def z18t : Hd := { keep := [1, 2, 4, 5, 6], xkeep := [1, 2, 3, 5], own := true }
noncomputable def zbm : Env U := { P := Tryz.prog, cd := cd, fns := fns55, lps := (addL 0 z18t (mkLoop z14h zr5 zuo (z4g none) z10z) noL), frz := fun _r => false, nt := 36, n0 := 0 }
noncomputable def zsf : Code := (loopAt (Tryz.f56.body.getD .skip) 0 0).getD .skip
theorem z1kb (s : z26) : round zbm z18t zsf 0 (zk6 s) = (z4w none s).map (sumE zk6 zgs) := by kernel_rfl
theorem z1j9 : LpOk zbm zsf 0 := mkLoop_ok (A := z14h) (B := zr5) (f := zuo) (L := z4g none) (tO_ok (cK_ok cUnit_ok) (tO_ok (cK_ok cUnit_ok) (tO_ok (cPair_ok (cInt_ok .i64) cUnit_ok) (tO_ok (cK_ok cUnit_ok) (tO_ok (cPair_ok (cInt_ok .i64) cUnit_ok) tNil_ok))))) (bC_ok (cPair_ok zi cUnit_ok) (bC_ok (cPair_ok zi cUnit_ok) (bRv_ok bNil_ok))) (enc := zk6) (out := z10z) (outS := zgs) (step := z4w none) (fun _ => rfl) (fun _ _ => by kernel_rfl) (by kernel_rfl) (fun _ => rfl) z1kb
theorem z1lj (x : Reader × Unit) (g : Unit) : execF zbm Tryz.f56 (z13q.enc x) (bNil.enc g) = (zdw none x.1).map z13s := by kernel_rfl
theorem z1ln : FnOk Tryz.prog cd 56 zu5 := mk_ok (E := zbm) cd_ok zxi Tryz.func56 (by kernel_rfl) (loops_of (addL_ok z1j9 noL_ok)) (aA_ok zi (aNil_ok)) bNil_ok (T := fun x _ => zdw none x.1) (fun _ _ => rfl) z1lj
noncomputable def fns56 := addF 56 true zu5 fns55
theorem z11y : ∀ f q t, fns56 f = some (q, t) → FnOk Tryz.prog cd f t := addF_ok z1ln zxi
noncomputable def z82 (q : Option Nat) (x0 : Reader) : Tree (Reader × Bool) :=
  .opt (Reader × Int) (z7 q x0 (1 : Int)) fun r311 =>
    .ite (r311.1.bad)
      (.leaf ((Reader.mk r311.1.s true, decide (r311.2 = (1 : Int)))))
      (.leaf ((Reader.mk r311.1.s (decide ((1 : Int) < r311.2)), decide (r311.2 = (1 : Int)))))
noncomputable def zh (q : Option Nat) (x0 : Reader) : Option (Reader × Bool) := (z82 q x0).run
noncomputable def z13a : Arg U (Reader × Unit) := aA cReader (aNil)
noncomputable def zvm (r : (Reader × Bool)) : List (V U) × List (Blk U) := ([vA cReader r.1, vO cBool r.2], [])
noncomputable def zy9 : List (V U) → List (Blk U) → Option (FnOut U) := mkSpec z13a bNil (fun x _ => zh none x.1) zvm
noncomputable def zn2 : Env U := { P := Tryz.prog, cd := cd, fns := fns56, lps := noL, frz := fun _r => false, nt := 20, n0 := 0 }
theorem z1iq (x : Reader × Unit) (g : Unit) : execF zn2 Tryz.f58 (z13a.enc x) (bNil.enc g) = (z82 none x.1).map zvm := by kernel_rfl
theorem z1bs : FnOk Tryz.prog cd 58 zy9 := mk_ok (E := zn2) cd_ok z11y Tryz.func58 (by kernel_rfl) (noLoops_body (by kernel_rfl)) (aA_ok zi (aNil_ok)) bNil_ok (T := fun x _ => z82 none x.1) (fun _ _ => rfl) z1iq
noncomputable def fns58 := addF 58 true zy9 fns56
theorem z14j : ∀ f q t, fns58 f = some (q, t) → FnOk Tryz.prog cd f t := addF_ok z1bs z11y
structure z1r where
  t5 : Int
  t6 : Int
  b0 : Reader
  b1 : Reader
  b2 : Mmu
  b3 : Mmu
noncomputable def z6d (q : Option Nat) (s : z1r) : Tree (z1r ⊕ (Int × Reader × Reader × Mmu × Mmu)) :=
  .ite (decide (s.t6 < (8 : Int)))
    (.opt (Reader × Int) (z7 q s.b0 (2 : Int)) fun r313 =>
      .opt (Reader × Int) (z7 q r313.1 (1 : Int)) fun r314 =>
        .opt (Reader × Int) (z7 q r314.1 (1 : Int)) fun r315 =>
          .opt (Reader × Bool) (zh q r315.1) fun r316 =>
            .ite (decide (0 ≤ s.t5))
              (.ite (decide (s.t5 < (2 : Int)))
                (.ite (decide (0 ≤ s.t6))
                  (.ite (decide (s.t6 < (8 : Int)))
                    (.opt Page (s.b3.pages[(s.t5).toNat * 8 + (s.t6).toNat * 1]?) fun y317 =>
                      .leaf (.inl (z1r.mk s.t5 (IntKind.wrap .i64 (s.t6 + (1 : Int))) r316.1 s.b1 s.b2 (Mmu.mk s.b3.on (s.b3.pages.set ((s.t5).toNat * 8 + (s.t6).toNat * 1) (Page.mk r313.2 r314.2 r315.2 r316.2)) s.b3.status s.b3.addr))))
                    .fail)
                  .fail)
                .fail)
              .fail)
    (.leaf (.inr (s.t5, s.b0, s.b1, s.b2, s.b3)))
noncomputable def z3k (q : Option Nat) (s : z1r) : Option (Int × Reader × Reader × Mmu × Mmu) := limQ q (fun s => (z6d q s).run) s
structure z1s where
  t5 : Int
  b0 : Reader
  b1 : Reader
  b2 : Mmu
  b3 : Mmu
noncomputable def z3h (q : Option Nat) (s : z1s) : Tree (z1s ⊕ (Reader × Reader × Mmu × Mmu)) :=
  .ite (decide (s.t5 < (2 : Int)))
    (.opt (Int × Reader × Reader × Mmu × Mmu) (z3k q (z1r.mk s.t5 (0 : Int) s.b0 s.b1 s.b2 s.b3)) fun l318 =>
      .leaf (.inl (z1s.mk (IntKind.wrap .i64 (l318.1 + (1 : Int))) l318.2.1 l318.2.2.1 l318.2.2.2.1 l318.2.2.2.2)))
    (.leaf (.inr (s.b0, s.b1, s.b2, s.b3)))
noncomputable def z7i (q : Option Nat) (s : z1s) : Option (Reader × Reader × Mmu × Mmu) := limQ q (fun s => (z3h q s).run) s
noncomputable def zad (q : Option Nat) (x0 : Reader) : Tree (Reader × Mmu) :=
  .opt (Reader × Bool) (zh q x0) fun r312 =>
    .opt (Reader × Reader × Mmu × Mmu) (z7i q (z1s.mk (0 : Int) r312.1 (Reader.mk ([]) false) (Mmu.mk false (List.replicate 16 (Page.mk (0 : Int) (0 : Int) (0 : Int) false)) 0 0) (Mmu.mk r312.2 (List.replicate 16 (Page.mk (0 : Int) (0 : Int) (0 : Int) false)) 0 0))) fun l319 =>
      .opt (Reader × Int) (z7 q l319.1 (1 : Int)) fun r320 =>
        .opt (Reader × Int) (z7 q r320.1 (2 : Int)) fun r321 =>
          .leaf ((r321.1, Mmu.mk l319.2.2.2.on l319.2.2.2.pages r320.2 r321.2))
noncomputable def zfk (q : Option Nat) (x0 : Reader) : Option (Reader × Mmu) := (zad q x0).run
noncomputable def zmg : Arg U (Reader × Unit) := aA cReader (aNil)
noncomputable def z136 (r : (Reader × Mmu)) : List (V U) × List (Blk U) := ([vA cReader r.1, vA cMmu r.2], [])
noncomputable def zxv : List (V U) → List (Blk U) → Option (FnOut U) := mkSpec zmg bNil (fun x _ => zfk none x.1) z136
noncomputable def zvz (x : (Unit) × (Unit) × (Unit) × (Unit) × (Int × Unit) × Unit) (g : (Reader × Unit) × (Reader × Unit) × (Mmu × Unit) × (Mmu × Unit) × Unit) : z1s := z1s.mk x.2.2.2.2.1.1 g.1.1 g.2.1.1 g.2.2.1.1 g.2.2.2.1.1
noncomputable def zx1 : Tms U ((Unit) × (Unit) × (Unit) × (Unit) × (Int × Unit) × Unit) := tO 1 (cK (.ptr 0 0) (cUnit)) (tO 2 (cK (.ptr 1 0) (cUnit)) (tO 3 (cK (.ptr 2 0) (cUnit)) (tO 4 (cK (.ptr 3 0) (cUnit)) (tO 5 (cPair (cInt .i64) (cUnit)) (tNil)))))
noncomputable def zmm : Bls U ((Reader × Unit) × (Reader × Unit) × (Mmu × Unit) × (Mmu × Unit) × Unit) := bC (cPair cReader (cUnit)) (bC (cPair cReader (cUnit)) (bC (cPair cMmu (cUnit)) (bC (cPair cMmu (cUnit)) (bNil))))
noncomputable def zh2 (s : z1s) : St U := { tm := [(1, .v (vO (cK (.ptr 0 0) (cUnit)) (()))), (2, .v (vO (cK (.ptr 1 0) (cUnit)) (()))), (3, .v (vO (cK (.ptr 2 0) (cUnit)) (()))), (4, .v (vO (cK (.ptr 3 0) (cUnit)) (()))), (5, .v (vO (cPair (cInt .i64) (cUnit)) (s.t5, ())))], hp := [.cells ((cPair cReader (cUnit) : Cdc U (Reader × Unit)).enc (s.b0, ())) none, .cells ((cPair cReader (cUnit) : Cdc U (Reader × Unit)).enc (s.b1, ())) none, .cells ((cPair cMmu (cUnit) : Cdc U (Mmu × Unit)).enc (s.b2, ())) none, .cells ((cPair cMmu (cUnit) : Cdc U (Mmu × Unit)).enc (s.b3, ())) none] }
noncomputable def zii (r : (Reader × Reader × Mmu × Mmu)) : Ex × St U := (.exit 0, { tm := [(1, .v (vO (cK (.ptr 0 0) (cUnit)) (()))), (2, .v (vO (cK (.ptr 1 0) (cUnit)) (()))), (3, .v (vO (cK (.ptr 2 0) (cUnit)) (()))), (4, .v (vO (cK (.ptr 3 0) (cUnit)) (())))], hp := [.cells ((cPair cReader (cUnit) : Cdc U (Reader × Unit)).enc (r.1, ())) none, .cells ((cPair cReader (cUnit) : Cdc U (Reader × Unit)).enc (r.2.1, ())) none, .cells ((cPair cMmu (cUnit) : Cdc U (Mmu × Unit)).enc (r.2.2.1, ())) none, .cells ((cPair cMmu (cUnit) : Cdc U (Mmu × Unit)).enc (r.2.2.2, ())) none] })
noncomputable def z115 (r : (Reader × Reader × Mmu × Mmu)) : Tree (Ex × St U) := .leaf (zii r)
noncomputable def z125 : Hd := { keep := [1, 2, 3, 4, 5], xkeep := [1, 2, 3, 4], own := false }
noncomputable def znl (x : (Unit) × (Unit) × (Unit) × (Unit) × (Int × Unit) × (Int × Unit) × Unit) (g : (Reader × Unit) × (Reader × Unit) × (Mmu × Unit) × (Mmu × Unit) × Unit) : z1r := z1r.mk x.2.2.2.2.1.1 x.2.2.2.2.2.1.1 g.1.1 g.2.1.1 g.2.2.1.1 g.2.2.2.1.1
noncomputable def zzr : Tms U ((Unit) × (Unit) × (Unit) × (Unit) × (Int × Unit) × (Int × Unit) × Unit) := tO 1 (cK (.ptr 0 0) (cUnit)) (tO 2 (cK (.ptr 1 0) (cUnit)) (tO 3 (cK (.ptr 2 0) (cUnit)) (tO 4 (cK (.ptr 3 0) (cUnit)) (tO 5 (cPair (cInt .i64) (cUnit)) (tO 6 (cPair (cInt .i64) (cUnit)) (tNil))))))
noncomputable def z18i : Bls U ((Reader × Unit) × (Reader × Unit) × (Mmu × Unit) × (Mmu × Unit) × Unit) := bC (cPair cReader (cUnit)) (bC (cPair cReader (cUnit)) (bC (cPair cMmu (cUnit)) (bC (cPair cMmu (cUnit)) (bNil))))
noncomputable def zj7 (s : z1r) : St U := { tm := [(1, .v (vO (cK (.ptr 0 0) (cUnit)) (()))), (2, .v (vO (cK (.ptr 1 0) (cUnit)) (()))), (3, .v (vO (cK (.ptr 2 0) (cUnit)) (()))), (4, .v (vO (cK (.ptr 3 0) (cUnit)) (()))), (5, .v (vO (cPair (cInt .i64) (cUnit)) (s.t5, ()))), (6, .v (vO (cPair (cInt .i64) (cUnit)) (s.t6, ())))], hp := [.cells ((cPair cReader (cUnit) : Cdc U (Reader × Unit)).enc (s.b0, ())) none, .cells ((cPair cReader (cUnit) : Cdc U (Reader × Unit)).enc (s.b1, ())) none, .cells ((cPair cMmu (cUnit) : Cdc U (Mmu × Unit)).enc (s.b2, ())) none, .cells ((cPair cMmu (cUnit) : Cdc U (Mmu × Unit)).enc (s.b3, ())) none] }
noncomputable def zkx (r : (Int × Reader × Reader × Mmu × Mmu)) : Ex × St U := (.exit 2, { tm := [(1, .v (vO (cK (.ptr 0 0) (cUnit)) (()))), (2, .v (vO (cK (.ptr 1 0) (cUnit)) (()))), (3, .v (vO (cK (.ptr 2 0) (cUnit)) (()))), (4, .v (vO (cK (.ptr 3 0) (cUnit)) (()))), (5, .v (vO (cPair (cInt .i64) (cUnit)) (r.1, ())))], hp := [.cells ((cPair cReader (cUnit) : Cdc U (Reader × Unit)).enc (r.2.1, ())) none, .cells ((cPair cReader (cUnit) : Cdc U (Reader × Unit)).enc (r.2.2.1, ())) none, .cells ((cPair cMmu (cUnit) : Cdc U (Mmu × Unit)).enc (r.2.2.2.1, ())) none, .cells ((cPair cMmu (cUnit) : Cdc U (Mmu × Unit)).enc (r.2.2.2.2, ())) none] })
noncomputable def zw0 (r : (Int × Reader × Reader × Mmu × Mmu)) : Tree (Ex × St U) := .leaf (zkx r)
noncomputable def z17s : Hd := { keep := [1, 2, 3, 4, 5, 6], xkeep := [1, 2, 3, 4, 5], own := false }
noncomputable def z6v : Env U := { P := Tryz.prog, cd := cd, fns := fns58, lps := (addL 0 z125 (mkLoop zx1 zmm zvz (z7i none) z115) (addL 1 z17s (mkLoop zzr z18i znl (z3k none) zw0) noL)), frz := fun _r => false, nt := 66, n0 := 0, fps := fun _r _i => bif Nat.beq _r 17 && Nat.beq _i 1 then .rd [3] else bif Nat.beq _r 17 && Nat.beq _i 2 then .wr [1] 4 else .none }
noncomputable def z15s : Code := (loopAt (Tryz.f57.body.getD .skip) 0 0).getD .skip
theorem z1df (s : z1s) : round z6v z125 z15s 0 (zh2 s) = (z3h none s).map (sumE zh2 zii) := by kernel_rfl
theorem z1in : LpOk z6v z15s 0 := mkLoop_ok (A := zx1) (B := zmm) (f := zvz) (L := z7i none) (tO_ok (cK_ok cUnit_ok) (tO_ok (cK_ok cUnit_ok) (tO_ok (cK_ok cUnit_ok) (tO_ok (cK_ok cUnit_ok) (tO_ok (cPair_ok (cInt_ok .i64) cUnit_ok) tNil_ok))))) (bC_ok (cPair_ok zi cUnit_ok) (bC_ok (cPair_ok zi cUnit_ok) (bC_ok (cPair_ok zj cUnit_ok) (bC_ok (cPair_ok zj cUnit_ok) bNil_ok)))) (enc := zh2) (out := z115) (outS := zii) (step := z3h none) (fun _ => rfl) (fun _ _ => by kernel_rfl) (by kernel_rfl) (fun _ => rfl) z1df
noncomputable def zy4 : Code := (loopAt (Tryz.f57.body.getD .skip) 0 1).getD .skip
theorem z1lq (s : z1r) : round z6v z17s zy4 1 (zj7 s) = (z6d none s).map (sumE zj7 zkx) := by kernel_rfl
theorem z1kl : LpOk z6v zy4 1 := mkLoop_ok (A := zzr) (B := z18i) (f := znl) (L := z3k none) (tO_ok (cK_ok cUnit_ok) (tO_ok (cK_ok cUnit_ok) (tO_ok (cK_ok cUnit_ok) (tO_ok (cK_ok cUnit_ok) (tO_ok (cPair_ok (cInt_ok .i64) cUnit_ok) (tO_ok (cPair_ok (cInt_ok .i64) cUnit_ok) tNil_ok)))))) (bC_ok (cPair_ok zi cUnit_ok) (bC_ok (cPair_ok zi cUnit_ok) (bC_ok (cPair_ok zj cUnit_ok) (bC_ok (cPair_ok zj cUnit_ok) bNil_ok)))) (enc := zj7) (out := zw0) (outS := zkx) (step := z6d none) (fun _ => rfl) (fun _ _ => by kernel_rfl) (by kernel_rfl) (fun _ => rfl) z1lq
theorem z1k6 (x : Reader × Unit) (g : Unit) : execF z6v Tryz.f57 (zmg.enc x) (bNil.enc g) = (zad none x.1).map z136 := by kernel_rfl
theorem z1he : FnOk Tryz.prog cd 57 zxv := mk_ok (E := z6v) cd_ok z14j Tryz.func57 (by kernel_rfl) (loops_of (addL_ok z1in (addL_ok z1kl noL_ok))) (aA_ok zi (aNil_ok)) bNil_ok (T := fun x _ => zad none x.1) (fun _ _ => rfl) z1k6
noncomputable def fns57 := addF 57 true zxv fns58
theorem z168 : ∀ f q t, fns57 f = some (q, t) → FnOk Tryz.prog cd f t := addF_ok z1he z14j
end Go.Proofs.YtiafliookmnjoaaGreatDoor
