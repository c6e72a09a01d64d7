/- The types of the program, and how they are told in cells. -/
import Derived.Test.YtfdndagnolbnhaaGreatYAbMore
import Derived.Test.YtfdndagnolbnhaaGreatYAbStr
import Derived.Carry
import Derived.Ground.NamesProg
import Derived.Shelf.Lay
import Derived.WalkKit
import Derived.Shelf.SlGeneric
import Derived.Ground.SlgnProg
import Derived.Ground.MpProg
import Derived.Test.YtfdndagnolbnhaaGreatProg
import Derived.KernelRfl
set_option linter.unusedSimpArgs false
namespace Go.Proofs.YtfdndagnolbnhaaGreat
open Go Go.Ab
structure Cpu where
  r : (List Int)
  sP : (List Int)
  pC : Int
  pSW : Int
  deriving DecidableEq
structure Page where
  base : Int
  length : Int
  access : Int
  written : Bool
  deriving DecidableEq
structure Mmu where
  on : Bool
  pages : (List Page)
  status : Int
  addr : Int
  deriving DecidableEq
structure Clock where
  enable : Bool
  ready : Bool
  period : Int
  left : Int
  deriving DecidableEq
structure Line where
  rxEnable : Bool
  rxReady : Bool
  overrun : Bool
  rxData : Int
  txEnable : Bool
  txReady : Bool
  txData : Int
  txLeft : Int
  out : (List UInt8)
  deriving DecidableEq
structure Drive where
  sectors : (List (List UInt8))
  bad : (List Int)
  deriving DecidableEq
structure Disk where
  drive : Drive
  enable : Bool
  ready : Bool
  error : Bool
  command : Int
  words : Int
  addr : Int
  start : Int
  left : Int
  deriving DecidableEq
structure Tape where
  records : (List (List UInt8))
  pos : Int
  enable : Bool
  ready : Bool
  error : Bool
  mark : Bool
  end_ : Bool
  command : Int
  count : Int
  addr : Int
  left : Int
  deriving DecidableEq
structure Machine where
  cpu : Cpu
  mem : (List Int)
  bad : (List Int)
  mmu : Mmu
  clock : Clock
  lines : (List Line)
  disk : Disk
  tape : Tape
  now : Int
  halted : Bool
  waiting : Bool
  power : Int
  powerTrap : Bool
  deriving DecidableEq
structure Write where
  sector : Int
  data : (List UInt8)
  deriving DecidableEq
abbrev tys : List (Nat × Type) := [(3, Int), (4, Bool), (5, Int), (9, (List UInt8)), (28, Page), (55, Line), (191, Write)]
abbrev U : Nat → Type := findT tys
noncomputable def cCpu : Cdc U Cpu := cMap (fun x => Cpu.mk x.1 x.2.1 x.2.2.1 x.2.2.2.1) (fun x => (x.r, x.sP, x.pC, x.pSW, ())) (z0 (cArr 3 6) (z0 (cArr 3 2) (z0 (cInt .i64) (z0 (cInt .i64) (z1)))))
theorem z21w : cCpu.Ok := zcd (z2 (z7g 3 6) (z2 (z7g 3 2) (z2 (z3 .i64) (z2 (z3 .i64) z6)))) fun _ => rfl
noncomputable def cPage : Cdc U Page := cMap (fun x => Page.mk x.1 x.2.1 x.2.2.1 x.2.2.2.1) (fun x => (x.base, x.length, x.access, x.written, ())) (z0 (cInt .i64) (z0 (cInt .i64) (z0 (cInt .i64) (z0 z8 (z1)))))
theorem z20n : cPage.Ok := zcd (z2 (z3 .i64) (z2 (z3 .i64) (z2 (z3 .i64) (z2 zn z6)))) fun _ => rfl
noncomputable def cMmu : Cdc U Mmu := cMap (fun x => Mmu.mk x.1 x.2.1 x.2.2.1 x.2.2.2.1) (fun x => (x.on, x.pages, x.status, x.addr, ())) (z0 z8 (z0 (cArr 28 16) (z0 (cInt .i64) (z0 (cInt .i64) (z1)))))
theorem zer : cMmu.Ok := zcd (z2 zn (z2 (z7g 28 16) (z2 (z3 .i64) (z2 (z3 .i64) z6)))) fun _ => rfl
noncomputable def cClock : Cdc U Clock := cMap (fun x => Clock.mk x.1 x.2.1 x.2.2.1 x.2.2.2.1) (fun x => (x.enable, x.ready, x.period, x.left, ())) (z0 z8 (z0 z8 (z0 (cInt .i64) (z0 (cInt .i64) (z1)))))
theorem zbo : cClock.Ok := zcd (z2 zn (z2 zn (z2 (z3 .i64) (z2 (z3 .i64) z6)))) fun _ => rfl
noncomputable def cLine : Cdc U Line := cMap (fun x => Line.mk x.1 x.2.1 x.2.2.1 x.2.2.2.1 x.2.2.2.2.1 x.2.2.2.2.2.1 x.2.2.2.2.2.2.1 x.2.2.2.2.2.2.2.1 x.2.2.2.2.2.2.2.2.1) (fun x => (x.rxEnable, x.rxReady, x.overrun, x.rxData, x.txEnable, x.txReady, x.txData, x.txLeft, x.out, ())) (z0 z8 (z0 z8 (z0 z8 (z0 (cInt .i64) (z0 z8 (z0 z8 (z0 (cInt .i64) (z0 (cInt .i64) (z0 cStr (z1))))))))))
theorem zdj : cLine.Ok := zcd (z2 zn (z2 zn (z2 zn (z2 (z3 .i64) (z2 zn (z2 zn (z2 (z3 .i64) (z2 (z3 .i64) (z2 z5a z6))))))))) fun _ => rfl
noncomputable def cDrive : Cdc U Drive := cMap (fun x => Drive.mk x.1 x.2.1) (fun x => (x.sectors, x.bad, ())) (z0 (cSl 9) (z0 (cSl 3) (z1)))
theorem z2g : cDrive.Ok := zcd (z2 (zi 9) (z2 (zi 3) z6)) fun _ => rfl
noncomputable def cDisk : Cdc U Disk := cMap (fun x => Disk.mk x.1 x.2.1 x.2.2.1 x.2.2.2.1 x.2.2.2.2.1 x.2.2.2.2.2.1 x.2.2.2.2.2.2.1 x.2.2.2.2.2.2.2.1 x.2.2.2.2.2.2.2.2.1) (fun x => (x.drive, x.enable, x.ready, x.error, x.command, x.words, x.addr, x.start, x.left, ())) (z0 cDrive (z0 z8 (z0 z8 (z0 z8 (z0 (cInt .i64) (z0 (cInt .i64) (z0 (cInt .i64) (z0 (cInt .i64) (z0 (cInt .i64) (z1))))))))))
theorem z24 : cDisk.Ok := zcd (z2 z2g (z2 zn (z2 zn (z2 zn (z2 (z3 .i64) (z2 (z3 .i64) (z2 (z3 .i64) (z2 (z3 .i64) (z2 (z3 .i64) z6))))))))) fun _ => rfl
noncomputable def cTape : Cdc U Tape := cMap (fun x => Tape.mk x.1 x.2.1 x.2.2.1 x.2.2.2.1 x.2.2.2.2.1 x.2.2.2.2.2.1 x.2.2.2.2.2.2.1 x.2.2.2.2.2.2.2.1 x.2.2.2.2.2.2.2.2.1 x.2.2.2.2.2.2.2.2.2.1 x.2.2.2.2.2.2.2.2.2.2.1) (fun x => (x.records, x.pos, x.enable, x.ready, x.error, x.mark, x.end_, x.command, x.count, x.addr, x.left, ())) (z0 (cSl 9) (z0 (cInt .i64) (z0 z8 (z0 z8 (z0 z8 (z0 z8 (z0 z8 (z0 (cInt .i64) (z0 (cInt .i64) (z0 (cInt .i64) (z0 (cInt .i64) (z1))))))))))))
theorem z2z : cTape.Ok := zcd (z2 (zi 9) (z2 (z3 .i64) (z2 zn (z2 zn (z2 zn (z2 zn (z2 zn (z2 (z3 .i64) (z2 (z3 .i64) (z2 (z3 .i64) (z2 (z3 .i64) z6))))))))))) fun _ => rfl
noncomputable def zj : Cdc U Machine := cMap (fun x => Machine.mk x.1 x.2.1 x.2.2.1 x.2.2.2.1 x.2.2.2.2.1 x.2.2.2.2.2.1 x.2.2.2.2.2.2.1 x.2.2.2.2.2.2.2.1 x.2.2.2.2.2.2.2.2.1 x.2.2.2.2.2.2.2.2.2.1 x.2.2.2.2.2.2.2.2.2.2.1 x.2.2.2.2.2.2.2.2.2.2.2.1 x.2.2.2.2.2.2.2.2.2.2.2.2.1) (fun x => (x.cpu, x.mem, x.bad, x.mmu, x.clock, x.lines, x.disk, x.tape, x.now, x.halted, x.waiting, x.power, x.powerTrap, ())) (z0 cCpu (z0 (cSl 3) (z0 (cSl 3) (z0 cMmu (z0 cClock (z0 (cSl 55) (z0 cDisk (z0 cTape (z0 (cInt .i64) (z0 z8 (z0 z8 (z0 (cInt .i64) (z0 z8 (z1))))))))))))))
theorem z19 : zj.Ok := zcd (z2 z21w (z2 (zi 3) (z2 (zi 3) (z2 zer (z2 zbo (z2 (zi 55) (z2 z24 (z2 z2z (z2 (z3 .i64) (z2 zn (z2 zn (z2 (z3 .i64) (z2 zn z6))))))))))))) fun _ => rfl
noncomputable def cWrite : Cdc U Write := cMap (fun x => Write.mk x.1 x.2.1) (fun x => (x.sector, x.data, ())) (z0 (cInt .i64) (z0 cStr (z1)))
theorem z17y : cWrite.Ok := zcd (z2 (z3 .i64) (z2 z5a z6)) fun _ => rfl
noncomputable def ents : Ents U tys := .cons ⟨(cInt .i64), some (0 : Int), none, some inferInstance⟩ (.cons ⟨z8, some false, none, some inferInstance⟩ (.cons ⟨(cInt .u8), some (0 : Int), some (fun x => x, fun x => x), some inferInstance⟩ (.cons ⟨cStr, some ([] : List UInt8), none, some inferInstance⟩ (.cons ⟨cPage, some (Page.mk (0 : Int) (0 : Int) (0 : Int) false), none, some inferInstance⟩ (.cons ⟨cLine, some (Line.mk false false false (0 : Int) false false (0 : Int) (0 : Int) ([] : List UInt8)), none, some inferInstance⟩ (.cons ⟨cWrite, some (Write.mk (0 : Int) ([] : List UInt8)), none, some inferInstance⟩ (.nil)))))))
noncomputable def cd : Cd U := cdOf ents
theorem eqSPage (cd : Cd U) (x y : Page) : eqT Tryz.prog cd false 4 28 (cPage.enc x) (cPage.enc y) = some (decide (x = y)) := by
  have h : eqT Tryz.prog cd false 4 28 (cPage.enc x) (cPage.enc y) = some (decide (x.base = y.base) && (decide (x.length = y.length) && (decide (x.access = y.access) && (x.written == y.written)))) := by kernel_rfl
  rw [h]
  cases x; cases y; rw [Option.some.injEq, Bool.eq_iff_iff]; simp
theorem eqSLine (cd : Cd U) (x y : Line) : eqT Tryz.prog cd false 4 55 (cLine.enc x) (cLine.enc y) = some (decide (x = y)) := by
  have h : eqT Tryz.prog cd false 4 55 (cLine.enc x) (cLine.enc y) = some ((x.rxEnable == y.rxEnable) && ((x.rxReady == y.rxReady) && ((x.overrun == y.overrun) && (decide (x.rxData = y.rxData) && ((x.txEnable == y.txEnable) && ((x.txReady == y.txReady) && (decide (x.txData = y.txData) && (decide (x.txLeft = y.txLeft) && decide (x.out = y.out))))))))) := by kernel_rfl
  rw [h]
  cases x; cases y; rw [Option.some.injEq, Bool.eq_iff_iff]; simp
theorem z20s (cd : Cd U) (x y : Write) : eqT Tryz.prog cd false 4 191 (cWrite.enc x) (cWrite.enc y) = some (decide (x = y)) := by
  have h : eqT Tryz.prog cd false 4 191 (cWrite.enc x) (cWrite.enc y) = some (decide (x.sector = y.sector) && decide (x.data = y.data)) := by kernel_rfl
  rw [h]
  cases x; cases y; rw [Option.some.injEq, Bool.eq_iff_iff]; simp
theorem z226 : EntsOk Tryz.prog ents := ⟨⟨(z3 .i64), (fun x => by kernel_rfl), (fun x => List.all_eq_true.1 (show (((cInt .i64) : Cdc U _).enc x).all plainC = true by kernel_rfl)), (fun f g h => by cases h), (fun d h cd x y => by cases h; exact z1wy cd (by kernel_rfl) x y)⟩, ⟨zn, (fun x => by kernel_rfl), (fun x => List.all_eq_true.1 (show ((z8 : Cdc U _).enc x).all plainC = true by kernel_rfl)), (fun f g h => by cases h), (fun d h cd x y => by cases h; exact z20t cd (by kernel_rfl) x y)⟩, ⟨(z3 .u8), (fun x => by kernel_rfl), (fun x => List.all_eq_true.1 (show (((cInt .u8) : Cdc U _).enc x).all plainC = true by kernel_rfl)), (fun f g h => by simp only [Option.some.injEq, Prod.mk.injEq] at h; obtain ⟨rfl, rfl⟩ := h; exact ⟨by kernel_rfl, fun _ => rfl, fun _ => rfl⟩), (fun d h cd x y => by cases h; exact z1wy cd (by kernel_rfl) x y)⟩, ⟨z5a, (fun x => by kernel_rfl), (fun x => List.all_eq_true.1 (show ((cStr : Cdc U _).enc x).all plainC = true by kernel_rfl)), (fun f g h => by cases h), (fun d h cd x y => by cases h; exact z1xy cd (by kernel_rfl) x y)⟩, ⟨z20n, (fun x => by kernel_rfl), (fun x => List.all_eq_true.1 (show ((cPage : Cdc U _).enc x).all plainC = true by kernel_rfl)), (fun f g h => by cases h), (fun d h cd x y => by cases h; exact eqSPage cd x y)⟩, ⟨zdj, (fun x => by kernel_rfl), (fun x => List.all_eq_true.1 (show ((cLine : Cdc U _).enc x).all plainC = true by kernel_rfl)), (fun f g h => by cases h), (fun d h cd x y => by cases h; exact eqSLine cd x y)⟩, ⟨z17y, (fun x => by kernel_rfl), (fun x => List.all_eq_true.1 (show ((cWrite : Cdc U _).enc x).all plainC = true by kernel_rfl)), (fun f g h => by cases h), (fun d h cd x y => by cases h; exact z20s cd x y)⟩, trivial⟩
theorem zg : CdOk Tryz.prog cd := z220 ents z226
structure z4x where
  t3 : Int
  t4 : Int
  b0 : Machine
noncomputable def zbb (s : z4x) : Tree (z4x ⊕ (Int × Machine)) :=
 .ite (decide (s.t4 < (s.b0.disk.drive.sectors.length : Int)))
 (.ite (decide (s.t4 < (300 : Int)))
 (.ite (decide (0 ≤ s.t4))
 (.opt (List UInt8) (s.b0.disk.drive.sectors[(s.t4).toNat]?) fun y1 =>
 .leaf (.inl (z4x.mk (IntKind.wrap .i64 (s.t3 + (if (100000 : Int) < (y1.length : Int) then (100000 : Int) else (y1.length : Int)))) (IntKind.wrap .i64 (s.t4 + (1 : Int))) s.b0)))
 .fail)
 (.leaf (.inr (s.t3, s.b0))))
 (.leaf (.inr (s.t3, s.b0)))
noncomputable def zeb (q : Option Nat) (s : z4x) : Option (Int × Machine) := limQ q (fun s => (zbb s).run) s
structure z4y where
  t3 : Int
  t5 : Int
  b0 : Machine
noncomputable def zbc (s : z4y) : Tree (z4y ⊕ (Int × Machine)) :=
 .ite (decide (s.t5 < (s.b0.tape.records.length : Int)))
 (.ite (decide (s.t5 < (300 : Int)))
 (.ite (decide (0 ≤ s.t5))
 (.opt (List UInt8) (s.b0.tape.records[(s.t5).toNat]?) fun y3 =>
 .leaf (.inl (z4y.mk (IntKind.wrap .i64 (s.t3 + (if (100000 : Int) < (y3.length : Int) then (100000 : Int) else (y3.length : Int)))) (IntKind.wrap .i64 (s.t5 + (1 : Int))) s.b0)))
 .fail)
 (.leaf (.inr (s.t3, s.b0))))
 (.leaf (.inr (s.t3, s.b0)))
noncomputable def zec (q : Option Nat) (s : z4y) : Option (Int × Machine) := limQ q (fun s => (zbc s).run) s
structure z4z where
  t3 : Int
  t6 : Int
  b0 : Machine
noncomputable def z76 (s : z4z) : Tree (z4z ⊕ (Int × Machine)) :=
 .ite (decide (s.t6 < (s.b0.lines.length : Int)))
 (.ite (decide (s.t6 < (9 : Int)))
 (.ite (decide (0 ≤ s.t6))
 (.opt Line (s.b0.lines[(s.t6).toNat]?) fun y5 =>
 .leaf (.inl (z4z.mk (IntKind.wrap .i64 (s.t3 + (if (100000 : Int) < (y5.out.length : Int) then (100000 : Int) else (y5.out.length : Int)))) (IntKind.wrap .i64 (s.t6 + (1 : Int))) s.b0)))
 .fail)
 (.leaf (.inr (s.t3, s.b0))))
 (.leaf (.inr (s.t3, s.b0)))
noncomputable def zed (q : Option Nat) (s : z4z) : Option (Int × Machine) := limQ q (fun s => (z76 s).run) s
noncomputable def zi4 (q : Option Nat) (x0 : Machine) : Tree Bool :=
 .opt (Int × Machine) (zeb q (z4x.mk (0 : Int) (0 : Int) x0)) fun l2 =>
 .opt (Int × Machine) (zec q (z4y.mk l2.1 (0 : Int) l2.2)) fun l4 =>
 .opt (Int × Machine) (zed q (z4z.mk l4.1 (0 : Int) l4.2)) fun l6 =>
 .ite (decide (l6.1 ≤ (60000 : Int)))
 (.ite (decide ((l6.2.mem.length : Int) ≤ (2048 : Int)))
 (.ite (decide ((l6.2.bad.length : Int) ≤ (64 : Int)))
 (.ite (decide ((l6.2.lines.length : Int) ≤ (8 : Int)))
 (.ite (decide ((l6.2.disk.drive.sectors.length : Int) ≤ (256 : Int)))
 (.ite (decide ((l6.2.disk.drive.bad.length : Int) ≤ (256 : Int)))
 (.leaf (decide ((l6.2.tape.records.length : Int) ≤ (70 : Int))))
 (.leaf (false)))
 (.leaf (false)))
 (.leaf (false)))
 (.leaf (false)))
 (.leaf (false)))
 (.leaf (false))
noncomputable def zmh (q : Option Nat) (x0 : Machine) : Option Bool := (zi4 q x0).run
noncomputable def z14x : Arg U (Machine × Unit) := aA zj (aNil)
abbrev zS : Type 1 := List (V U) → List (Blk U) → Option (FnOut U)
abbrev zR : Type := List (V U) × List (Blk U)
abbrev zF (F : Nat → Option (Bool × zS)) : Prop := ∀ f q t, F f = some (q, t) → FnOk Tryz.prog cd f t
noncomputable abbrev zE (F : Nat → Option (Bool × zS)) (L : Nat → Option (Hd × (St U → Option (LpOut U)))) (n m : Nat) : Env U := { P := Tryz.prog, cd := cd, fns := F, lps := L, frz := fun _r => false, nt := n, n0 := m }
noncomputable def z16h (r : Bool) : zR := ([vO z8 r], [])
noncomputable def z176 : zS := zf z14x bNil (fun x _ => zmh none x.1) z16h
noncomputable def zxj (x : (Unit) × (Int × Unit) × (Int × Unit) × Unit) (g : (Machine × Unit) × Unit) : z4x := z4x.mk x.2.1.1 x.2.2.1.1 g.1.1
noncomputable def zu5 : Tms U ((Unit) × (Int × Unit) × (Int × Unit) × Unit) := tO 1 (cK (.ptr 0 0) (z1)) (tO 3 (z0 (cInt .i64) (z1)) (tO 4 (z0 (cInt .i64) (z1)) (tNil)))
noncomputable def zun : Bls U ((Machine × Unit) × Unit) := bC (z0 zj (z1)) (bNil)
noncomputable def ziv (s : z4x) : St U := { tm := [(1, .v (vO (cK (.ptr 0 0) (z1)) (()))), (3, .v (vO (z0 (cInt .i64) (z1)) (s.t3, ()))), (4, .v (vO (z0 (cInt .i64) (z1)) (s.t4, ())))], hp := [.cells ((z0 zj (z1) : Cdc U (Machine × Unit)).enc (s.b0, ())) none] }
noncomputable def zk2 (r : (Int × Machine)) : Ex × St U := (.exit 0, { tm := [(1, .v (vO (cK (.ptr 0 0) (z1)) (()))), (3, .v (vO (z0 (cInt .i64) (z1)) (r.1, ())))], hp := [.cells ((z0 zj (z1) : Cdc U (Machine × Unit)).enc (r.2, ())) none] })
noncomputable def zvl (r : (Int × Machine)) : Tree (Ex × St U) := .leaf (zk2 r)
noncomputable def zyq : Hd := { keep := [1, 3, 4], xkeep := [1, 2, 3], own := false }
noncomputable def zxk (x : (Unit) × (Int × Unit) × (Int × Unit) × Unit) (g : (Machine × Unit) × Unit) : z4y := z4y.mk x.2.1.1 x.2.2.1.1 g.1.1
noncomputable def zu6 : Tms U ((Unit) × (Int × Unit) × (Int × Unit) × Unit) := tO 1 (cK (.ptr 0 0) (z1)) (tO 3 (z0 (cInt .i64) (z1)) (tO 5 (z0 (cInt .i64) (z1)) (tNil)))
noncomputable def zuo : Bls U ((Machine × Unit) × Unit) := bC (z0 zj (z1)) (bNil)
noncomputable def ziw (s : z4y) : St U := { tm := [(1, .v (vO (cK (.ptr 0 0) (z1)) (()))), (3, .v (vO (z0 (cInt .i64) (z1)) (s.t3, ()))), (5, .v (vO (z0 (cInt .i64) (z1)) (s.t5, ())))], hp := [.cells ((z0 zj (z1) : Cdc U (Machine × Unit)).enc (s.b0, ())) none] }
noncomputable def zk3 (r : (Int × Machine)) : Ex × St U := (.exit 2, { tm := [(1, .v (vO (cK (.ptr 0 0) (z1)) (()))), (3, .v (vO (z0 (cInt .i64) (z1)) (r.1, ())))], hp := [.cells ((z0 zj (z1) : Cdc U (Machine × Unit)).enc (r.2, ())) none] })
noncomputable def zvm (r : (Int × Machine)) : Tree (Ex × St U) := .leaf (zk3 r)
noncomputable def zyr : Hd := { keep := [1, 3, 5], xkeep := [1, 2, 3], own := false }
noncomputable def zxl (x : (Unit) × (Int × Unit) × (Int × Unit) × Unit) (g : (Machine × Unit) × Unit) : z4z := z4z.mk x.2.1.1 x.2.2.1.1 g.1.1
noncomputable def zu7 : Tms U ((Unit) × (Int × Unit) × (Int × Unit) × Unit) := tO 1 (cK (.ptr 0 0) (z1)) (tO 3 (z0 (cInt .i64) (z1)) (tO 6 (z0 (cInt .i64) (z1)) (tNil)))
noncomputable def zup : Bls U ((Machine × Unit) × Unit) := bC (z0 zj (z1)) (bNil)
noncomputable def zix (s : z4z) : St U := { tm := [(1, .v (vO (cK (.ptr 0 0) (z1)) (()))), (3, .v (vO (z0 (cInt .i64) (z1)) (s.t3, ()))), (6, .v (vO (z0 (cInt .i64) (z1)) (s.t6, ())))], hp := [.cells ((z0 zj (z1) : Cdc U (Machine × Unit)).enc (s.b0, ())) none] }
noncomputable def zk4 (r : (Int × Machine)) : Ex × St U := (.exit 4, { tm := [(1, .v (vO (cK (.ptr 0 0) (z1)) (()))), (3, .v (vO (z0 (cInt .i64) (z1)) (r.1, ())))], hp := [.cells ((z0 zj (z1) : Cdc U (Machine × Unit)).enc (r.2, ())) none] })
noncomputable def zvn (r : (Int × Machine)) : Tree (Ex × St U) := .leaf (zk4 r)
noncomputable def zys : Hd := { keep := [1, 3, 6], xkeep := [1, 2, 3], own := false }
noncomputable def z7k : Env U := zE noF (addL 0 zyq (z1f zu5 zun zxj (zeb none) zvl) (addL 1 zyr (z1f zu6 zuo zxk (zec none) zvm) (addL 2 zys (z1f zu7 zup zxl (zed none) zvn) noL))) 117 0
noncomputable def zwu : Code := (loopAt (Tryz.f5.body.getD .skip) 0 0).getD .skip
theorem z18w (s : z4x) : round z7k zyq zwu 0 (ziv s) = (zbb s).map (sumE ziv zk2) := by kernel_rfl
theorem z1hx : LpOk z7k zwu 0 := zy (A := zu5) (B := zun) (f := zxj) (L := zeb none) (zb (z10 z6) (zb (z2 (z3 .i64) z6) (zb (z2 (z3 .i64) z6) z12))) (z13 (z2 z19 z6) z7) (enc := ziv) (out := zvl) (outS := zk2) (step := zbb) (fun _ => rfl) (fun _ _ => by kernel_rfl) (by kernel_rfl) (fun _ => rfl) z18w
noncomputable def zwv : Code := (loopAt (Tryz.f5.body.getD .skip) 0 1).getD .skip
theorem z18x (s : z4y) : round z7k zyr zwv 1 (ziw s) = (zbc s).map (sumE ziw zk3) := by kernel_rfl
theorem z1hy : LpOk z7k zwv 1 := zy (A := zu6) (B := zuo) (f := zxk) (L := zec none) (zb (z10 z6) (zb (z2 (z3 .i64) z6) (zb (z2 (z3 .i64) z6) z12))) (z13 (z2 z19 z6) z7) (enc := ziw) (out := zvm) (outS := zk3) (step := zbc) (fun _ => rfl) (fun _ _ => by kernel_rfl) (by kernel_rfl) (fun _ => rfl) z18x
noncomputable def zww : Code := (loopAt (Tryz.f5.body.getD .skip) 0 2).getD .skip
theorem z18y (s : z4z) : round z7k zys zww 2 (zix s) = (z76 s).map (sumE zix zk4) := by kernel_rfl
theorem z1hz : LpOk z7k zww 2 := zy (A := zu7) (B := zup) (f := zxl) (L := zed none) (zb (z10 z6) (zb (z2 (z3 .i64) z6) (zb (z2 (z3 .i64) z6) z12))) (z13 (z2 z19 z6) z7) (enc := zix) (out := zvn) (outS := zk4) (step := z76) (fun _ => rfl) (fun _ _ => by kernel_rfl) (by kernel_rfl) (fun _ => rfl) z18y
theorem z1l1 (x : Machine × Unit) (g : Unit) : zk z7k Tryz.f5 (z14x.enc x) (bNil.enc g) = (zi4 none x.1).map z16h := by kernel_rfl
theorem z1p4 : FnOk Tryz.prog cd 5 z176 := zm (E := z7k) zg z1zr Tryz.func5 (by kernel_rfl) (z14 (z11 z1hx (z11 z1hy (z11 z1hz z1j)))) (zu z19 (zd)) z7 (T := fun x _ => zi4 none x.1) (fun _ _ => rfl) z1l1
noncomputable def fns5 := addF 5 true z176 noF
theorem z1x0 : zF fns5 := za z1p4 z1zr
noncomputable def zid (x0 : Line) : Tree Bool :=
 .ite (decide (x0.rxData < (0 : Int)))
 (.leaf (false))
 (.ite (decide ((255 : Int) < x0.rxData))
 (.leaf (false))
 (.ite (decide (x0.txData < (0 : Int)))
 (.leaf (false))
 (.ite (decide ((255 : Int) < x0.txData))
 (.leaf (false))
 (.ite (decide ((4096 : Int) < (x0.out.length : Int)))
 (.leaf (false))
 (.ite (decide ((0 : Int) ≤ x0.txLeft))
 (.ite (decide (x0.txLeft ≤ (4 : Int)))
 (.leaf ((x0.txReady == (decide (x0.txLeft = (0 : Int))))))
 (.leaf (false)))
 (.leaf (false)))))))
noncomputable def zmm (x0 : Line) : Option Bool := (zid x0).run
noncomputable def z157 : Arg U (Line × Unit) := aA cLine (aNil)
noncomputable def z16r (r : Bool) : zR := ([vO z8 r], [])
noncomputable def z17g : zS := zf z157 bNil (fun x _ => zmm x.1) z16r
noncomputable def z15y : Env U := zE fns5 noL 43 0
theorem z1lb (x : Line × Unit) (g : Unit) : zk z15y Tryz.f19 (z157.enc x) (bNil.enc g) = (zid x.1).map z16r := by kernel_rfl
theorem z1pe : FnOk Tryz.prog cd 19 z17g := zm (E := z15y) zg z1x0 Tryz.func19 (by kernel_rfl) (z9 (by kernel_rfl)) (zu zdj (zd)) z7 (T := fun x _ => zid x.1) (fun _ _ => rfl) z1lb
noncomputable def fns19 := addF 19 true z17g fns5
theorem z1rj : zF fns19 := za z1pe z1x0
noncomputable def zlv (x0 : Int) : Tree Bool :=
 .ite (decide ((256 : Int) ≤ x0))
 (.ite (decide (x0 ≤ (32768 : Int)))
 (.ite (decide ((64 : Int) = 0))
 .fail
 (.leaf (decide (((x0).tmod (64 : Int)) = (0 : Int)))))
 (.leaf (false)))
 (.leaf (false))
noncomputable def zjl (x0 : Int) : Option Bool := (zlv x0).run
noncomputable def z1an : Arg U (Int × Unit) := aO (cInt .i64) (aNil)
noncomputable def z1c1 (r : Bool) : zR := ([vO z8 r], [])
noncomputable def z1cs : zS := zf z1an bNil (fun x _ => zjl x.1) z1c1
noncomputable def z1bd : Env U := zE fns19 noL 14 0
theorem z1q0 (x : Int × Unit) (g : Unit) : zk z1bd Tryz.f54 (z1an.enc x) (bNil.enc g) = (zlv x.1).map z1c1 := by kernel_rfl
theorem z1tm : FnOk Tryz.prog cd 54 z1cs := zm (E := z1bd) zg z1rj Tryz.func54 (by kernel_rfl) (z9 (by kernel_rfl)) (ze (z3 .i64) (zd)) z7 (T := fun x _ => zlv x.1) (fun _ _ => rfl) z1q0
noncomputable def fns54 := addF 54 true z1cs fns19
theorem z1s3 : zF fns54 := za z1tm z1rj
structure z51 where
  t0 : (List Int)
  t1 : (List Int)
  t5 : Int
noncomputable def z5v (s : z51) : Tree (z51 ⊕ (((List Int) × (List Int) × Bool) ⊕ ((List Int) × (List Int)))) :=
 .ite (decide (s.t5 < (s.t0.length : Int)))
 (.ite (decide (0 ≤ s.t5))
 (.opt Int (s.t0[(s.t5).toNat]?) fun y8 =>
 .ite (decide (y8 < (0 : Int)))
 (.leaf (.inr (.inl (s.t0, s.t1, false))))
 (.ite (decide (0 ≤ s.t5))
 (.opt Int (s.t0[(s.t5).toNat]?) fun y9 =>
 .ite (decide ((65535 : Int) < y9))
 (.leaf (.inr (.inl (s.t0, s.t1, false))))
 (.leaf (.inl (z51.mk s.t0 s.t1 (IntKind.wrap .i64 (s.t5 + (1 : Int)))))))
 .fail))
 .fail)
 (.leaf (.inr (.inr (s.t0, s.t1))))
noncomputable def zee (q : Option Nat) (s : z51) : Option (((List Int) × (List Int) × Bool) ⊕ ((List Int) × (List Int))) := limQ q (fun s => (z5v s).run) s
structure z3q where
  t0 : (List Int)
  t1 : (List Int)
  t6 : Int
noncomputable def z3c (s : z3q) : Tree (z3q ⊕ (Bool ⊕ Unit)) :=
 .ite (decide (s.t6 < (s.t1.length : Int)))
 (.ite (decide (0 ≤ s.t6))
 (.opt Int (s.t1[(s.t6).toNat]?) fun y13 =>
 .ite (decide (y13 < (0 : Int)))
 (.leaf (.inr (.inl false)))
 (.ite (decide (0 ≤ s.t6))
 (.opt Int (s.t1[(s.t6).toNat]?) fun y14 =>
 .ite (decide ((IntKind.wrap .i64 ((2 : Int) * (s.t0.length : Int))) ≤ y14))
 (.leaf (.inr (.inl false)))
 (.ite (decide (0 ≤ s.t6))
 (.opt Int (s.t1[(s.t6).toNat]?) fun y15 =>
 .ite (decide ((2 : Int) = 0))
 .fail
 (.ite (!decide (((y15).tmod (2 : Int)) = (0 : Int)))
 (.leaf (.inr (.inl false)))
 (.ite (decide ((0 : Int) < s.t6))
 (.ite (decide (0 ≤ s.t6))
 (.opt Int (s.t1[(s.t6).toNat]?) fun y16 =>
 .ite (decide (0 ≤ IntKind.wrap .i64 (s.t6 - (1 : Int))))
 (.opt Int (s.t1[(IntKind.wrap .i64 (s.t6 - (1 : Int))).toNat]?) fun y17 =>
 .ite (decide (y16 ≤ y17))
 (.leaf (.inr (.inl false)))
 (.leaf (.inl (z3q.mk s.t0 s.t1 (IntKind.wrap .i64 (s.t6 + (1 : Int)))))))
 .fail)
 .fail)
 (.leaf (.inl (z3q.mk s.t0 s.t1 (IntKind.wrap .i64 (s.t6 + (1 : Int)))))))))
 .fail))
 .fail))
 .fail)
 (.leaf (.inr (.inr ())))
noncomputable def zef (q : Option Nat) (s : z3q) : Option (Bool ⊕ Unit) := limQ q (fun s => (z3c s).run) s
noncomputable def zi9 (q : Option Nat) (x0 : (List Int)) (x1 : (List Int)) : Tree Bool :=
 .opt Bool (zjl (IntKind.wrap .i64 ((2 : Int) * (x0.length : Int)))) fun r7 =>
 .ite (!r7)
 (.leaf (false))
 (.opt (((List Int) × (List Int) × Bool) ⊕ ((List Int) × (List Int))) (zee q (z51.mk x0 x1 (0 : Int))) fun l10 =>
 .ite (l10.isLeft)
 (.opt ((List Int) × (List Int) × Bool) (l10.getLeft?) fun a11 =>
 .leaf (a11.2.2))
 (.opt ((List Int) × (List Int)) (l10.getRight?) fun b12 =>
 .opt (Bool ⊕ Unit) (zef q (z3q.mk b12.1 b12.2 (0 : Int))) fun l18 =>
 .ite (l18.isLeft)
 (.opt Bool (l18.getLeft?) fun a19 =>
 .leaf (a19))
 (.opt Unit (l18.getRight?) fun b20 =>
 .leaf (true))))
noncomputable def zml (q : Option Nat) (x0 : (List Int)) (x1 : (List Int)) : Option Bool := (zi9 q x0 x1).run
noncomputable def z153 : Arg U ((List Int) × (List Int) × Unit) := aO (cSl 3) (aO (cSl 3) (aNil))
noncomputable def z16n (r : Bool) : zR := ([vO z8 r], [])
noncomputable def z17c : zS := zf z153 bNil (fun x _ => zml none x.1 x.2.1) z16n
noncomputable def zxn (x : ((List Int) × Unit) × ((List Int) × Unit) × (Int × Unit) × Unit) (_g : Unit) : z51 := z51.mk x.1.1 x.2.1.1 x.2.2.1.1
noncomputable def zu9 : Tms U (((List Int) × Unit) × ((List Int) × Unit) × (Int × Unit) × Unit) := tO 0 (z0 (cSl 3) (z1)) (tO 1 (z0 (cSl 3) (z1)) (tO 5 (z0 (cInt .i64) (z1)) (tNil)))
noncomputable def zur : Bls U (Unit) := bNil
noncomputable def ziz (s : z51) : St U := { tm := [(0, .v (vO (z0 (cSl 3) (z1)) (s.t0, ()))), (1, .v (vO (z0 (cSl 3) (z1)) (s.t1, ()))), (5, .v (vO (z0 (cInt .i64) (z1)) (s.t5, ())))], hp := [] }
noncomputable def zv9 : (((List Int) × (List Int) × Bool) ⊕ ((List Int) × (List Int))) → Ex × St U
  | .inl r => (.ret, { tm := [(0, .v (vO (z0 (cSl 3) (z1)) (r.1, ()))), (1, .v (vO (z0 (cSl 3) (z1)) (r.2.1, ()))), (4, .v (vO (z0 z8 (z1)) (r.2.2, ())))], hp := [] })
  | .inr r => (.exit 0, { tm := [(0, .v (vO (z0 (cSl 3) (z1)) (r.1, ()))), (1, .v (vO (z0 (cSl 3) (z1)) (r.2, ())))], hp := [] })
noncomputable def zvp (y : (((List Int) × (List Int) × Bool) ⊕ ((List Int) × (List Int)))) : Tree (Ex × St U) := .ite y.isLeft (.opt ((List Int) × (List Int) × Bool) y.getLeft? fun r => .leaf (.ret, { tm := [(0, .v (vO (z0 (cSl 3) (z1)) (r.1, ()))), (1, .v (vO (z0 (cSl 3) (z1)) (r.2.1, ()))), (4, .v (vO (z0 z8 (z1)) (r.2.2, ())))], hp := [] })) (.opt ((List Int) × (List Int)) y.getRight? fun r => .leaf (.exit 0, { tm := [(0, .v (vO (z0 (cSl 3) (z1)) (r.1, ()))), (1, .v (vO (z0 (cSl 3) (z1)) (r.2, ())))], hp := [] }))
noncomputable def zyu : Hd := { keep := [0, 1, 5], xkeep := [0, 1, 4], own := false }
noncomputable def zxo (x : ((List Int) × Unit) × ((List Int) × Unit) × (Int × Unit) × Unit) (_g : Unit) : z3q := z3q.mk x.1.1 x.2.1.1 x.2.2.1.1
noncomputable def zua : Tms U (((List Int) × Unit) × ((List Int) × Unit) × (Int × Unit) × Unit) := tO 0 (z0 (cSl 3) (z1)) (tO 1 (z0 (cSl 3) (z1)) (tO 6 (z0 (cInt .i64) (z1)) (tNil)))
noncomputable def zus : Bls U (Unit) := bNil
noncomputable def zj0 (s : z3q) : St U := { tm := [(0, .v (vO (z0 (cSl 3) (z1)) (s.t0, ()))), (1, .v (vO (z0 (cSl 3) (z1)) (s.t1, ()))), (6, .v (vO (z0 (cInt .i64) (z1)) (s.t6, ())))], hp := [] }
noncomputable def zva : (Bool ⊕ Unit) → Ex × St U
  | .inl r => (.ret, { tm := [(4, .v (vO (z0 z8 (z1)) (r, ())))], hp := [] })
  | .inr r => (.exit 2, { tm := [], hp := [] })
noncomputable def zvq (y : (Bool ⊕ Unit)) : Tree (Ex × St U) := .ite y.isLeft (.opt Bool y.getLeft? fun r => .leaf (.ret, { tm := [(4, .v (vO (z0 z8 (z1)) (r, ())))], hp := [] })) (.opt Unit y.getRight? fun r => .leaf (.exit 2, { tm := [], hp := [] }))
noncomputable def zyv : Hd := { keep := [0, 1, 6], xkeep := [4], own := false }
noncomputable def zas : Env U := zE fns54 (addL 0 zyu (z1f zu9 zur zxn (zee none) zvp) (addL 1 zyv (z1f zua zus zxo (zef none) zvq) noL)) 75 0
noncomputable def zwy : Code := (loopAt (Tryz.f20.body.getD .skip) 0 0).getD .skip
theorem z190 (s : z51) : round zas zyu zwy 0 (ziz s) = (z5v s).map (sumE ziz zv9) := by kernel_rfl
theorem z1i1 : LpOk zas zwy 0 := zy (A := zu9) (B := zur) (f := zxn) (L := zee none) (zb (z2 (zi 3) z6) (zb (z2 (zi 3) z6) (zb (z2 (z3 .i64) z6) z12))) z7 (enc := ziz) (out := zvp) (outS := zv9) (step := z5v) (fun _ => rfl) (fun _ _ => by kernel_rfl) (by kernel_rfl) (fun b => by cases b <;> rfl) z190
noncomputable def zwz : Code := (loopAt (Tryz.f20.body.getD .skip) 0 1).getD .skip
theorem z191 (s : z3q) : round zas zyv zwz 1 (zj0 s) = (z3c s).map (sumE zj0 zva) := by kernel_rfl
theorem z1i2 : LpOk zas zwz 1 := zy (A := zua) (B := zus) (f := zxo) (L := zef none) (zb (z2 (zi 3) z6) (zb (z2 (zi 3) z6) (zb (z2 (z3 .i64) z6) z12))) z7 (enc := zj0) (out := zvq) (outS := zva) (step := z3c) (fun _ => rfl) (fun _ _ => by kernel_rfl) (by kernel_rfl) (fun b => by cases b <;> rfl) z191
theorem z1l7 (x : (List Int) × (List Int) × Unit) (g : Unit) : zk zas Tryz.f20 (z153.enc x) (bNil.enc g) = (zi9 none x.1 x.2.1).map z16n := by kernel_rfl
theorem z1pa : FnOk Tryz.prog cd 20 z17c := zm (E := zas) zg z1s3 Tryz.func20 (by kernel_rfl) (z14 (z11 z1i1 (z11 z1i2 z1j))) (ze (zi 3) (ze (zi 3) (zd))) z7 (T := fun x _ => zi9 none x.1 x.2.1) (fun _ _ => rfl) z1l7
noncomputable def fns20 := addF 20 true z17c fns54
theorem z1rk : zF fns20 := za z1pa z1s3
structure z54 where
  t3 : Int
  t4 : Int
  b0 : Mmu
noncomputable def z78 (s : z54) : Tree (z54 ⊕ ((Bool × Int × Mmu) ⊕ (Int × Mmu))) :=
 .ite (decide (s.t4 < (8 : Int)))
 (.ite (decide (0 ≤ s.t3))
 (.ite (decide (s.t3 < (2 : Int)))
 (.ite (decide (0 ≤ s.t4))
 (.ite (decide (s.t4 < (8 : Int)))
 (.opt Page (s.b0.pages[(s.t3).toNat * 8 + (s.t4).toNat * 1]?) fun y21 =>
 .ite (decide (y21.base < (0 : Int)))
 (.leaf (.inr (.inl (false, s.t3, s.b0))))
 (.ite (decide ((4095 : Int) < y21.base))
 (.leaf (.inr (.inl (false, s.t3, s.b0))))
 (.ite (decide (y21.length < (0 : Int)))
 (.leaf (.inr (.inl (false, s.t3, s.b0))))
 (.ite (decide ((128 : Int) < y21.length))
 (.leaf (.inr (.inl (false, s.t3, s.b0))))
 (.ite (decide (y21.access < (0 : Int)))
 (.leaf (.inr (.inl (false, s.t3, s.b0))))
 (.ite (decide ((2 : Int) < y21.access))
 (.leaf (.inr (.inl (false, s.t3, s.b0))))
 (.leaf (.inl (z54.mk s.t3 (IntKind.wrap .i64 (s.t4 + (1 : Int))) s.b0)))))))))
 .fail)
 .fail)
 .fail)
 .fail)
 (.leaf (.inr (.inr (s.t3, s.b0))))
noncomputable def zax (q : Option Nat) (s : z54) : Option ((Bool × Int × Mmu) ⊕ (Int × Mmu)) := limQ q (fun s => (z78 s).run) s
structure z53 where
  t3 : Int
  b0 : Mmu
noncomputable def z77 (q : Option Nat) (s : z53) : Tree (z53 ⊕ ((Bool × Mmu) ⊕ Mmu)) :=
 .ite (decide (s.t3 < (2 : Int)))
 (.opt ((Bool × Int × Mmu) ⊕ (Int × Mmu)) (zax q (z54.mk s.t3 (0 : Int) s.b0)) fun l22 =>
 .ite (l22.isLeft)
 (.opt (Bool × Int × Mmu) (l22.getLeft?) fun a23 =>
 .leaf (.inr (.inl (a23.1, a23.2.2))))
 (.opt (Int × Mmu) (l22.getRight?) fun b24 =>
 .leaf (.inl (z53.mk (IntKind.wrap .i64 (b24.1 + (1 : Int))) b24.2))))
 (.leaf (.inr (.inr s.b0)))
noncomputable def zaw (q : Option Nat) (s : z53) : Option ((Bool × Mmu) ⊕ Mmu) := limQ q (fun s => (z77 q s).run) s
noncomputable def zdf (q : Option Nat) (x0 : Mmu) : Tree Bool :=
 .opt ((Bool × Mmu) ⊕ Mmu) (zaw q (z53.mk (0 : Int) x0)) fun l25 =>
 .ite (l25.isLeft)
 (.opt (Bool × Mmu) (l25.getLeft?) fun a26 =>
 .leaf (a26.1))
 (.opt Mmu (l25.getRight?) fun b27 =>
 .ite (decide ((0 : Int) ≤ b27.status))
 (.ite (decide (b27.status ≤ (3 : Int)))
 (.ite (decide ((0 : Int) ≤ b27.addr))
 (.leaf (decide (b27.addr < (65536 : Int))))
 (.leaf (false)))
 (.leaf (false)))
 (.leaf (false)))
noncomputable def zfp (q : Option Nat) (x0 : Mmu) : Option Bool := (zdf q x0).run
noncomputable def z155 : Arg U (Mmu × Unit) := aA cMmu (aNil)
noncomputable def z16p (r : Bool) : zR := ([vO z8 r], [])
noncomputable def z17e : zS := zf z155 bNil (fun x _ => zfp none x.1) z16p
noncomputable def zxq (x : (Unit) × (Int × Unit) × Unit) (g : (Mmu × Unit) × Unit) : z53 := z53.mk x.2.1.1 g.1.1
noncomputable def zuc : Tms U ((Unit) × (Int × Unit) × Unit) := tO 1 (cK (.ptr 0 0) (z1)) (tO 3 (z0 (cInt .i64) (z1)) (tNil))
noncomputable def zuu : Bls U ((Mmu × Unit) × Unit) := bC (z0 cMmu (z1)) (bNil)
noncomputable def zj2 (s : z53) : St U := { tm := [(1, .v (vO (cK (.ptr 0 0) (z1)) (()))), (3, .v (vO (z0 (cInt .i64) (z1)) (s.t3, ())))], hp := [.cells ((z0 cMmu (z1) : Cdc U (Mmu × Unit)).enc (s.b0, ())) none] }
noncomputable def zvb : ((Bool × Mmu) ⊕ Mmu) → Ex × St U
  | .inl r => (.ret, { tm := [(1, .v (vO (cK (.ptr 0 0) (z1)) (()))), (2, .v (vO (z0 z8 (z1)) (r.1, ())))], hp := [.cells ((z0 cMmu (z1) : Cdc U (Mmu × Unit)).enc (r.2, ())) none] })
  | .inr r => (.exit 0, { tm := [(1, .v (vO (cK (.ptr 0 0) (z1)) (())))], hp := [.cells ((z0 cMmu (z1) : Cdc U (Mmu × Unit)).enc (r, ())) none] })
noncomputable def zvs (y : ((Bool × Mmu) ⊕ Mmu)) : Tree (Ex × St U) := .ite y.isLeft (.opt (Bool × Mmu) y.getLeft? fun r => .leaf (.ret, { tm := [(1, .v (vO (cK (.ptr 0 0) (z1)) (()))), (2, .v (vO (z0 z8 (z1)) (r.1, ())))], hp := [.cells ((z0 cMmu (z1) : Cdc U (Mmu × Unit)).enc (r.2, ())) none] })) (.opt Mmu y.getRight? fun r => .leaf (.exit 0, { tm := [(1, .v (vO (cK (.ptr 0 0) (z1)) (())))], hp := [.cells ((z0 cMmu (z1) : Cdc U (Mmu × Unit)).enc (r, ())) none] }))
noncomputable def zyx : Hd := { keep := [1, 3], xkeep := [1, 2], own := false }
noncomputable def zxr (x : (Unit) × (Int × Unit) × (Int × Unit) × Unit) (g : (Mmu × Unit) × Unit) : z54 := z54.mk x.2.1.1 x.2.2.1.1 g.1.1
noncomputable def zud : Tms U ((Unit) × (Int × Unit) × (Int × Unit) × Unit) := tO 1 (cK (.ptr 0 0) (z1)) (tO 3 (z0 (cInt .i64) (z1)) (tO 4 (z0 (cInt .i64) (z1)) (tNil)))
noncomputable def zuv : Bls U ((Mmu × Unit) × Unit) := bC (z0 cMmu (z1)) (bNil)
noncomputable def zj3 (s : z54) : St U := { tm := [(1, .v (vO (cK (.ptr 0 0) (z1)) (()))), (3, .v (vO (z0 (cInt .i64) (z1)) (s.t3, ()))), (4, .v (vO (z0 (cInt .i64) (z1)) (s.t4, ())))], hp := [.cells ((z0 cMmu (z1) : Cdc U (Mmu × Unit)).enc (s.b0, ())) none] }
noncomputable def zvc : ((Bool × Int × Mmu) ⊕ (Int × Mmu)) → Ex × St U
  | .inl r => (.ret, { tm := [(1, .v (vO (cK (.ptr 0 0) (z1)) (()))), (2, .v (vO (z0 z8 (z1)) (r.1, ()))), (3, .v (vO (z0 (cInt .i64) (z1)) (r.2.1, ())))], hp := [.cells ((z0 cMmu (z1) : Cdc U (Mmu × Unit)).enc (r.2.2, ())) none] })
  | .inr r => (.exit 2, { tm := [(1, .v (vO (cK (.ptr 0 0) (z1)) (()))), (3, .v (vO (z0 (cInt .i64) (z1)) (r.1, ())))], hp := [.cells ((z0 cMmu (z1) : Cdc U (Mmu × Unit)).enc (r.2, ())) none] })
noncomputable def zvt (y : ((Bool × Int × Mmu) ⊕ (Int × Mmu))) : Tree (Ex × St U) := .ite y.isLeft (.opt (Bool × Int × Mmu) y.getLeft? fun r => .leaf (.ret, { tm := [(1, .v (vO (cK (.ptr 0 0) (z1)) (()))), (2, .v (vO (z0 z8 (z1)) (r.1, ()))), (3, .v (vO (z0 (cInt .i64) (z1)) (r.2.1, ())))], hp := [.cells ((z0 cMmu (z1) : Cdc U (Mmu × Unit)).enc (r.2.2, ())) none] })) (.opt (Int × Mmu) y.getRight? fun r => .leaf (.exit 2, { tm := [(1, .v (vO (cK (.ptr 0 0) (z1)) (()))), (3, .v (vO (z0 (cInt .i64) (z1)) (r.1, ())))], hp := [.cells ((z0 cMmu (z1) : Cdc U (Mmu × Unit)).enc (r.2, ())) none] }))
noncomputable def zyy : Hd := { keep := [1, 3, 4], xkeep := [1, 2, 3], own := false }
noncomputable def zat : Env U := zE fns20 (addL 0 zyx (z1f zuc zuu zxq (zaw none) zvs) (addL 1 zyy (z1f zud zuv zxr (zax none) zvt) noL)) 66 0
noncomputable def zx1 : Code := (loopAt (Tryz.f21.body.getD .skip) 0 0).getD .skip
theorem z193 (s : z53) : round zat zyx zx1 0 (zj2 s) = (z77 none s).map (sumE zj2 zvb) := by kernel_rfl
theorem z1i4 : LpOk zat zx1 0 := zy (A := zuc) (B := zuu) (f := zxq) (L := zaw none) (zb (z10 z6) (zb (z2 (z3 .i64) z6) z12)) (z13 (z2 zer z6) z7) (enc := zj2) (out := zvs) (outS := zvb) (step := z77 none) (fun _ => rfl) (fun _ _ => by kernel_rfl) (by kernel_rfl) (fun b => by cases b <;> rfl) z193
noncomputable def zx2 : Code := (loopAt (Tryz.f21.body.getD .skip) 0 1).getD .skip
theorem z194 (s : z54) : round zat zyy zx2 1 (zj3 s) = (z78 s).map (sumE zj3 zvc) := by kernel_rfl
theorem z1i5 : LpOk zat zx2 1 := zy (A := zud) (B := zuv) (f := zxr) (L := zax none) (zb (z10 z6) (zb (z2 (z3 .i64) z6) (zb (z2 (z3 .i64) z6) z12))) (z13 (z2 zer z6) z7) (enc := zj3) (out := zvt) (outS := zvc) (step := z78) (fun _ => rfl) (fun _ _ => by kernel_rfl) (by kernel_rfl) (fun b => by cases b <;> rfl) z194
theorem z1l9 (x : Mmu × Unit) (g : Unit) : zk zat Tryz.f21 (z155.enc x) (bNil.enc g) = (zdf none x.1).map z16p := by kernel_rfl
theorem z1pc : FnOk Tryz.prog cd 21 z17e := zm (E := zat) zg z1rk Tryz.func21 (by kernel_rfl) (z14 (z11 z1i4 (z11 z1i5 z1j))) (zu zer (zd)) z7 (T := fun x _ => zdf none x.1) (fun _ _ => rfl) z1l9
noncomputable def fns21 := addF 21 true z17e fns20
theorem z1rl : zF fns21 := za z1pc z1rk
noncomputable def zic (x0 : Clock) : Tree Bool :=
 .ite (decide ((1 : Int) ≤ x0.period))
 (.ite (decide (x0.period ≤ (65535 : Int)))
 (.ite (decide ((1 : Int) ≤ x0.left))
 (.leaf (decide (x0.left ≤ x0.period)))
 (.leaf (false)))
 (.leaf (false)))
 (.leaf (false))
noncomputable def zce (x0 : Clock) : Option Bool := (zic x0).run
noncomputable def z156 : Arg U (Clock × Unit) := aA cClock (aNil)
noncomputable def z16q (r : Bool) : zR := ([vO z8 r], [])
noncomputable def z17f : zS := zf z156 bNil (fun x _ => zce x.1) z16q
noncomputable def z15x : Env U := zE fns21 noL 23 0
theorem z1la (x : Clock × Unit) (g : Unit) : zk z15x Tryz.f22 (z156.enc x) (bNil.enc g) = (zic x.1).map z16q := by kernel_rfl
theorem z1pd : FnOk Tryz.prog cd 22 z17f := zm (E := z15x) zg z1rl Tryz.func22 (by kernel_rfl) (z9 (by kernel_rfl)) (zu zbo (zd)) z7 (T := fun x _ => zic x.1) (fun _ _ => rfl) z1la
noncomputable def fns22 := addF 22 true z17f fns21
theorem z1rm : zF fns22 := za z1pd z1rl
noncomputable def zly (x0 : Int) : Tree Bool :=
 .ite (decide ((0 : Int) ≤ x0))
 (.leaf (decide (x0 ≤ (65535 : Int))))
 (.leaf (false))
noncomputable def zev (x0 : Int) : Option Bool := (zly x0).run
noncomputable def z1as : Arg U (Int × Unit) := aO (cInt .i64) (aNil)
noncomputable def z1c6 (r : Bool) : zR := ([vO z8 r], [])
noncomputable def z1cx : zS := zf z1as bNil (fun x _ => zev x.1) z1c6
noncomputable def z1bh : Env U := zE fns22 noL 9 0
theorem z1q5 (x : Int × Unit) (g : Unit) : zk z1bh Tryz.f55 (z1as.enc x) (bNil.enc g) = (zly x.1).map z1c6 := by kernel_rfl
theorem z1tr : FnOk Tryz.prog cd 55 z1cx := zm (E := z1bh) zg z1rm Tryz.func55 (by kernel_rfl) (z9 (by kernel_rfl)) (ze (z3 .i64) (zd)) z7 (T := fun x _ => zly x.1) (fun _ _ => rfl) z1q5
noncomputable def fns55 := addF 55 true z1cx fns22
theorem z1s4 : zF fns55 := za z1tr z1rm
structure z56 where
  t3 : Int
  b0 : Drive
noncomputable def z7a (s : z56) : Tree (z56 ⊕ ((Bool × Drive) ⊕ Drive)) :=
 .ite (decide (s.t3 < (s.b0.sectors.length : Int)))
 (.ite (decide (0 ≤ s.t3))
 (.opt (List UInt8) (s.b0.sectors[(s.t3).toNat]?) fun y28 =>
 .ite (!decide ((y28.length : Int) = (128 : Int)))
 (.leaf (.inr (.inl (false, s.b0))))
 (.leaf (.inl (z56.mk (IntKind.wrap .i64 (s.t3 + (1 : Int))) s.b0))))
 .fail)
 (.leaf (.inr (.inr s.b0)))
noncomputable def zeg (q : Option Nat) (s : z56) : Option ((Bool × Drive) ⊕ Drive) := limQ q (fun s => (z7a s).run) s
structure z3r where
  t4 : Int
  b0 : Drive
noncomputable def z3t (s : z3r) : Tree (z3r ⊕ (Bool ⊕ Unit)) :=
 .ite (decide (s.t4 < (s.b0.bad.length : Int)))
 (.ite (decide (0 ≤ s.t4))
 (.opt Int (s.b0.bad[(s.t4).toNat]?) fun y32 =>
 .ite (decide (y32 < (0 : Int)))
 (.leaf (.inr (.inl false)))
 (.ite (decide (0 ≤ s.t4))
 (.opt Int (s.b0.bad[(s.t4).toNat]?) fun y33 =>
 .ite (decide ((s.b0.sectors.length : Int) ≤ y33))
 (.leaf (.inr (.inl false)))
 (.ite (decide ((0 : Int) < s.t4))
 (.ite (decide (0 ≤ IntKind.wrap .i64 (s.t4 - (1 : Int))))
 (.opt Int (s.b0.bad[(IntKind.wrap .i64 (s.t4 - (1 : Int))).toNat]?) fun y34 =>
 .ite (decide (0 ≤ s.t4))
 (.opt Int (s.b0.bad[(s.t4).toNat]?) fun y35 =>
 .ite (decide (y35 ≤ y34))
 (.leaf (.inr (.inl false)))
 (.leaf (.inl (z3r.mk (IntKind.wrap .i64 (s.t4 + (1 : Int))) s.b0))))
 .fail)
 .fail)
 (.leaf (.inl (z3r.mk (IntKind.wrap .i64 (s.t4 + (1 : Int))) s.b0)))))
 .fail))
 .fail)
 (.leaf (.inr (.inr ())))
noncomputable def zeh (q : Option Nat) (s : z3r) : Option (Bool ⊕ Unit) := limQ q (fun s => (z3t s).run) s
noncomputable def zie (q : Option Nat) (x0 : Drive) : Tree Bool :=
 .ite (decide ((x0.sectors.length : Int) < (1 : Int)))
 (.leaf (false))
 (.ite (decide ((256 : Int) < (x0.sectors.length : Int)))
 (.leaf (false))
 (.opt ((Bool × Drive) ⊕ Drive) (zeg q (z56.mk (0 : Int) x0)) fun l29 =>
 .ite (l29.isLeft)
 (.opt (Bool × Drive) (l29.getLeft?) fun a30 =>
 .leaf (a30.1))
 (.opt Drive (l29.getRight?) fun b31 =>
 .opt (Bool ⊕ Unit) (zeh q (z3r.mk (0 : Int) b31)) fun l36 =>
 .ite (l36.isLeft)
 (.opt Bool (l36.getLeft?) fun a37 =>
 .leaf (a37))
 (.opt Unit (l36.getRight?) fun b38 =>
 .leaf (true)))))
noncomputable def zfq (q : Option Nat) (x0 : Drive) : Option Bool := (zie q x0).run
noncomputable def z159 : Arg U (Drive × Unit) := aA cDrive (aNil)
noncomputable def z16t (r : Bool) : zR := ([vO z8 r], [])
noncomputable def z17i : zS := zf z159 bNil (fun x _ => zfq none x.1) z16t
noncomputable def zxt (x : (Unit) × (Int × Unit) × Unit) (g : (Drive × Unit) × Unit) : z56 := z56.mk x.2.1.1 g.1.1
noncomputable def zuf : Tms U ((Unit) × (Int × Unit) × Unit) := tO 1 (cK (.ptr 0 0) (z1)) (tO 3 (z0 (cInt .i64) (z1)) (tNil))
noncomputable def zux : Bls U ((Drive × Unit) × Unit) := bC (z0 cDrive (z1)) (bNil)
noncomputable def zj5 (s : z56) : St U := { tm := [(1, .v (vO (cK (.ptr 0 0) (z1)) (()))), (3, .v (vO (z0 (cInt .i64) (z1)) (s.t3, ())))], hp := [.cells ((z0 cDrive (z1) : Cdc U (Drive × Unit)).enc (s.b0, ())) none] }
noncomputable def zve : ((Bool × Drive) ⊕ Drive) → Ex × St U
  | .inl r => (.ret, { tm := [(1, .v (vO (cK (.ptr 0 0) (z1)) (()))), (2, .v (vO (z0 z8 (z1)) (r.1, ())))], hp := [.cells ((z0 cDrive (z1) : Cdc U (Drive × Unit)).enc (r.2, ())) none] })
  | .inr r => (.exit 0, { tm := [(1, .v (vO (cK (.ptr 0 0) (z1)) (())))], hp := [.cells ((z0 cDrive (z1) : Cdc U (Drive × Unit)).enc (r, ())) none] })
noncomputable def zvv (y : ((Bool × Drive) ⊕ Drive)) : Tree (Ex × St U) := .ite y.isLeft (.opt (Bool × Drive) y.getLeft? fun r => .leaf (.ret, { tm := [(1, .v (vO (cK (.ptr 0 0) (z1)) (()))), (2, .v (vO (z0 z8 (z1)) (r.1, ())))], hp := [.cells ((z0 cDrive (z1) : Cdc U (Drive × Unit)).enc (r.2, ())) none] })) (.opt Drive y.getRight? fun r => .leaf (.exit 0, { tm := [(1, .v (vO (cK (.ptr 0 0) (z1)) (())))], hp := [.cells ((z0 cDrive (z1) : Cdc U (Drive × Unit)).enc (r, ())) none] }))
noncomputable def zz0 : Hd := { keep := [1, 3], xkeep := [1, 2], own := false }
noncomputable def zxu (x : (Unit) × (Int × Unit) × Unit) (g : (Drive × Unit) × Unit) : z3r := z3r.mk x.2.1.1 g.1.1
noncomputable def zug : Tms U ((Unit) × (Int × Unit) × Unit) := tO 1 (cK (.ptr 0 0) (z1)) (tO 4 (z0 (cInt .i64) (z1)) (tNil))
noncomputable def zuy : Bls U ((Drive × Unit) × Unit) := bC (z0 cDrive (z1)) (bNil)
noncomputable def zj6 (s : z3r) : St U := { tm := [(1, .v (vO (cK (.ptr 0 0) (z1)) (()))), (4, .v (vO (z0 (cInt .i64) (z1)) (s.t4, ())))], hp := [.cells ((z0 cDrive (z1) : Cdc U (Drive × Unit)).enc (s.b0, ())) none] }
noncomputable def zvf : (Bool ⊕ Unit) → Ex × St U
  | .inl r => (.ret, { tm := [(2, .v (vO (z0 z8 (z1)) (r, ())))], hp := [] })
  | .inr r => (.exit 2, { tm := [], hp := [] })
noncomputable def zvw (y : (Bool ⊕ Unit)) : Tree (Ex × St U) := .ite y.isLeft (.opt Bool y.getLeft? fun r => .leaf (.ret, { tm := [(2, .v (vO (z0 z8 (z1)) (r, ())))], hp := [] })) (.opt Unit y.getRight? fun r => .leaf (.exit 2, { tm := [], hp := [] }))
noncomputable def zz1 : Hd := { keep := [1, 4], xkeep := [2], own := false }
noncomputable def zau : Env U := zE fns55 (addL 0 zz0 (z1f zuf zux zxt (zeg none) zvv) (addL 1 zz1 (z1f zug zuy zxu (zeh none) zvw) noL)) 71 0
noncomputable def zx4 : Code := (loopAt (Tryz.f56.body.getD .skip) 0 0).getD .skip
theorem z196 (s : z56) : round zau zz0 zx4 0 (zj5 s) = (z7a s).map (sumE zj5 zve) := by kernel_rfl
theorem z1i7 : LpOk zau zx4 0 := zy (A := zuf) (B := zux) (f := zxt) (L := zeg none) (zb (z10 z6) (zb (z2 (z3 .i64) z6) z12)) (z13 (z2 z2g z6) z7) (enc := zj5) (out := zvv) (outS := zve) (step := z7a) (fun _ => rfl) (fun _ _ => by kernel_rfl) (by kernel_rfl) (fun b => by cases b <;> rfl) z196
noncomputable def zx5 : Code := (loopAt (Tryz.f56.body.getD .skip) 0 1).getD .skip
theorem z197 (s : z3r) : round zau zz1 zx5 1 (zj6 s) = (z3t s).map (sumE zj6 zvf) := by kernel_rfl
theorem z1i8 : LpOk zau zx5 1 := zy (A := zug) (B := zuy) (f := zxu) (L := zeh none) (zb (z10 z6) (zb (z2 (z3 .i64) z6) z12)) (z13 (z2 z2g z6) z7) (enc := zj6) (out := zvw) (outS := zvf) (step := z3t) (fun _ => rfl) (fun _ _ => by kernel_rfl) (by kernel_rfl) (fun b => by cases b <;> rfl) z197
theorem z1ld (x : Drive × Unit) (g : Unit) : zk zau Tryz.f56 (z159.enc x) (bNil.enc g) = (zie none x.1).map z16t := by kernel_rfl
theorem z1pg : FnOk Tryz.prog cd 56 z17i := zm (E := zau) zg z1s4 Tryz.func56 (by kernel_rfl) (z14 (z11 z1i7 (z11 z1i8 z1j))) (zu z2g (zd)) z7 (T := fun x _ => zie none x.1) (fun _ _ => rfl) z1ld
noncomputable def fns56 := addF 56 true z17i fns55
theorem z1s5 : zF fns56 := za z1pg z1s4
noncomputable def zih (q : Option Nat) (x0 : Disk) : Tree Bool :=
 .ite (decide (x0.command < (0 : Int)))
 (.leaf (false))
 (.ite (decide ((3 : Int) < x0.command))
 (.leaf (false))
 (.opt Bool (zev x0.words) fun r39 =>
 .ite (!r39)
 (.leaf (false))
 (.opt Bool (zev x0.addr) fun r40 =>
 .ite (!r40)
 (.leaf (false))
 (.opt Bool (zev x0.start) fun r41 =>
 .ite (!r41)
 (.leaf (false))
 (.ite (decide ((2 : Int) = 0))
 .fail
 (.ite (!decide (((x0.addr).tmod (2 : Int)) = (0 : Int)))
 (.leaf (false))
 (.ite (decide (x0.left < (0 : Int)))
 (.leaf (false))
 (.ite (decide ((8 : Int) < x0.left))
 (.leaf (false))
 (.ite (!(x0.ready == (decide (x0.left = (0 : Int)))))
 (.leaf (false))
 (.ite (!decide (x0.left = (0 : Int)))
 (.ite (decide (x0.command = (0 : Int)))
 (.leaf (false))
 (.ite (decide (x0.words = (0 : Int)))
 (.leaf (false))
 (.opt Bool (zfq q x0.drive) fun r42 =>
 .leaf (r42))))
 (.opt Bool (zfq q x0.drive) fun r43 =>
 .leaf (r43))))))))))))
noncomputable def zmn (q : Option Nat) (x0 : Disk) : Option Bool := (zih q x0).run
noncomputable def z15c : Arg U (Disk × Unit) := aA cDisk (aNil)
noncomputable def z16w (r : Bool) : zR := ([vO z8 r], [])
noncomputable def z17l : zS := zf z15c bNil (fun x _ => zmn none x.1) z16w
noncomputable def z160 : Env U := zE fns56 noL 69 0
theorem z1lg (x : Disk × Unit) (g : Unit) : zk z160 Tryz.f23 (z15c.enc x) (bNil.enc g) = (zih none x.1).map z16w := by kernel_rfl
theorem z1pj : FnOk Tryz.prog cd 23 z17l := zm (E := z160) zg z1s5 Tryz.func23 (by kernel_rfl) (z9 (by kernel_rfl)) (zu z24 (zd)) z7 (T := fun x _ => zih none x.1) (fun _ _ => rfl) z1lg
noncomputable def fns23 := addF 23 true z17l fns56
theorem z1rn : zF fns23 := za z1pj z1s5
noncomputable def zm3 (x0 : Int) : Tree Bool :=
 .ite (decide ((0 : Int) ≤ x0))
 (.leaf (decide (x0 ≤ (65535 : Int))))
 (.leaf (false))
noncomputable def zjp (x0 : Int) : Option Bool := (zm3 x0).run
noncomputable def z1ax : Arg U (Int × Unit) := aO (cInt .i64) (aNil)
noncomputable def z1cb (r : Bool) : zR := ([vO z8 r], [])
noncomputable def z1d2 : zS := zf z1ax bNil (fun x _ => zjp x.1) z1cb
noncomputable def z1bm : Env U := zE fns23 noL 9 0
theorem z1qa (x : Int × Unit) (g : Unit) : zk z1bm Tryz.f57 (z1ax.enc x) (bNil.enc g) = (zm3 x.1).map z1cb := by kernel_rfl
theorem z1tw : FnOk Tryz.prog cd 57 z1d2 := zm (E := z1bm) zg z1rn Tryz.func57 (by kernel_rfl) (z9 (by kernel_rfl)) (ze (z3 .i64) (zd)) z7 (T := fun x _ => zm3 x.1) (fun _ _ => rfl) z1qa
noncomputable def fns57 := addF 57 true z1d2 fns23
theorem z1s6 : zF fns57 := za z1tw z1rn
structure z57 where
  t3 : Int
  b0 : Tape
noncomputable def z7b (s : z57) : Tree (z57 ⊕ ((Bool × Tape) ⊕ Tape)) :=
 .ite (decide (s.t3 < (s.b0.records.length : Int)))
 (.ite (decide (0 ≤ s.t3))
 (.opt (List UInt8) (s.b0.records[(s.t3).toNat]?) fun y46 =>
 .ite (decide ((512 : Int) < (y46.length : Int)))
 (.leaf (.inr (.inl (false, s.b0))))
 (.leaf (.inl (z57.mk (IntKind.wrap .i64 (s.t3 + (1 : Int))) s.b0))))
 .fail)
 (.leaf (.inr (.inr s.b0)))
noncomputable def zei (q : Option Nat) (s : z57) : Option ((Bool × Tape) ⊕ Tape) := limQ q (fun s => (z7b s).run) s
noncomputable def zii (q : Option Nat) (x0 : Tape) : Tree Bool :=
 .ite (decide ((64 : Int) < (x0.records.length : Int)))
 (.leaf (false))
 (.ite (decide (x0.pos < (0 : Int)))
 (.leaf (false))
 (.ite (decide ((x0.records.length : Int) < x0.pos))
 (.leaf (false))
 (.ite (decide (x0.command < (0 : Int)))
 (.leaf (false))
 (.ite (decide ((6 : Int) < x0.command))
 (.leaf (false))
 (.opt Bool (zjp x0.count) fun r44 =>
 .ite (!r44)
 (.leaf (false))
 (.opt Bool (zjp x0.addr) fun r45 =>
 .ite (!r45)
 (.leaf (false))
 (.opt ((Bool × Tape) ⊕ Tape) (zei q (z57.mk (0 : Int) x0)) fun l47 =>
 .ite (l47.isLeft)
 (.opt (Bool × Tape) (l47.getLeft?) fun a48 =>
 .leaf (a48.1))
 (.opt Tape (l47.getRight?) fun b49 =>
 .ite (decide ((0 : Int) ≤ b49.left))
 (.ite (decide (b49.left ≤ (16 : Int)))
 (.leaf ((b49.ready == (decide (b49.left = (0 : Int))))))
 (.leaf (false)))
 (.leaf (false))))))))))
noncomputable def zmo (q : Option Nat) (x0 : Tape) : Option Bool := (zii q x0).run
noncomputable def z15d : Arg U (Tape × Unit) := aA cTape (aNil)
noncomputable def z16x (r : Bool) : zR := ([vO z8 r], [])
noncomputable def z17m : zS := zf z15d bNil (fun x _ => zmo none x.1) z16x
noncomputable def zxw (x : (Unit) × (Int × Unit) × Unit) (g : (Tape × Unit) × Unit) : z57 := z57.mk x.2.1.1 g.1.1
noncomputable def zui : Tms U ((Unit) × (Int × Unit) × Unit) := tO 1 (cK (.ptr 0 0) (z1)) (tO 3 (z0 (cInt .i64) (z1)) (tNil))
noncomputable def zv0 : Bls U ((Tape × Unit) × Unit) := bC (z0 cTape (z1)) (bNil)
noncomputable def zj8 (s : z57) : St U := { tm := [(1, .v (vO (cK (.ptr 0 0) (z1)) (()))), (3, .v (vO (z0 (cInt .i64) (z1)) (s.t3, ())))], hp := [.cells ((z0 cTape (z1) : Cdc U (Tape × Unit)).enc (s.b0, ())) none] }
noncomputable def zvg : ((Bool × Tape) ⊕ Tape) → Ex × St U
  | .inl r => (.ret, { tm := [(1, .v (vO (cK (.ptr 0 0) (z1)) (()))), (2, .v (vO (z0 z8 (z1)) (r.1, ())))], hp := [.cells ((z0 cTape (z1) : Cdc U (Tape × Unit)).enc (r.2, ())) none] })
  | .inr r => (.exit 0, { tm := [(1, .v (vO (cK (.ptr 0 0) (z1)) (())))], hp := [.cells ((z0 cTape (z1) : Cdc U (Tape × Unit)).enc (r, ())) none] })
noncomputable def zvy (y : ((Bool × Tape) ⊕ Tape)) : Tree (Ex × St U) := .ite y.isLeft (.opt (Bool × Tape) y.getLeft? fun r => .leaf (.ret, { tm := [(1, .v (vO (cK (.ptr 0 0) (z1)) (()))), (2, .v (vO (z0 z8 (z1)) (r.1, ())))], hp := [.cells ((z0 cTape (z1) : Cdc U (Tape × Unit)).enc (r.2, ())) none] })) (.opt Tape y.getRight? fun r => .leaf (.exit 0, { tm := [(1, .v (vO (cK (.ptr 0 0) (z1)) (())))], hp := [.cells ((z0 cTape (z1) : Cdc U (Tape × Unit)).enc (r, ())) none] }))
noncomputable def zz3 : Hd := { keep := [1, 3], xkeep := [1, 2], own := false }
noncomputable def zhv : Env U := zE fns57 (addL 0 zz3 (z1f zui zv0 zxw (zei none) zvy) noL) 73 0
noncomputable def zx7 : Code := (loopAt (Tryz.f24.body.getD .skip) 0 0).getD .skip
theorem z199 (s : z57) : round zhv zz3 zx7 0 (zj8 s) = (z7b s).map (sumE zj8 zvg) := by kernel_rfl
theorem z1ia : LpOk zhv zx7 0 := zy (A := zui) (B := zv0) (f := zxw) (L := zei none) (zb (z10 z6) (zb (z2 (z3 .i64) z6) z12)) (z13 (z2 z2z z6) z7) (enc := zj8) (out := zvy) (outS := zvg) (step := z7b) (fun _ => rfl) (fun _ _ => by kernel_rfl) (by kernel_rfl) (fun b => by cases b <;> rfl) z199
theorem z1lh (x : Tape × Unit) (g : Unit) : zk zhv Tryz.f24 (z15d.enc x) (bNil.enc g) = (zii none x.1).map z16x := by kernel_rfl
theorem z1pk : FnOk Tryz.prog cd 24 z17m := zm (E := zhv) zg z1s6 Tryz.func24 (by kernel_rfl) (z14 (z11 z1ia z1j)) (zu z2z (zd)) z7 (T := fun x _ => zii none x.1) (fun _ _ => rfl) z1lh
noncomputable def fns24 := addF 24 true z17m fns57
theorem z1ro : zF fns24 := za z1pk z1s6
structure z58 where
  t3 : Int
  b0 : Machine
noncomputable def z7d (s : z58) : Tree (z58 ⊕ ((Bool × Machine) ⊕ Machine)) :=
 .ite (decide (s.t3 < (s.b0.lines.length : Int)))
 (.ite (decide (0 ≤ s.t3))
 (.opt Line (s.b0.lines[(s.t3).toNat]?) fun y50 =>
 .opt Bool (zmm y50) fun r51 =>
 .ite (!r51)
 (.leaf (.inr (.inl (false, s.b0))))
 (.leaf (.inl (z58.mk (IntKind.wrap .i64 (s.t3 + (1 : Int))) s.b0))))
 .fail)
 (.leaf (.inr (.inr s.b0)))
noncomputable def zej (q : Option Nat) (s : z58) : Option ((Bool × Machine) ⊕ Machine) := limQ q (fun s => (z7d s).run) s
noncomputable def zik (q : Option Nat) (x0 : Machine) : Tree Bool :=
 .ite (decide ((4 : Int) < (x0.lines.length : Int)))
 (.leaf (false))
 (.opt ((Bool × Machine) ⊕ Machine) (zej q (z58.mk (0 : Int) x0)) fun l52 =>
 .ite (l52.isLeft)
 (.opt (Bool × Machine) (l52.getLeft?) fun a53 =>
 .leaf (a53.1))
 (.opt Machine (l52.getRight?) fun b54 =>
 .opt Bool (zml q b54.mem b54.bad) fun r55 =>
 .ite (r55)
 (.opt Bool (zfp q b54.mmu) fun r56 =>
 .ite (r56)
 (.opt Bool (zce b54.clock) fun r57 =>
 .ite (r57)
 (.opt Bool (zmn q b54.disk) fun r58 =>
 .ite (r58)
 (.opt Bool (zmo q b54.tape) fun r59 =>
 .leaf (r59))
 (.leaf (false)))
 (.leaf (false)))
 (.leaf (false)))
 (.leaf (false))))
noncomputable def zmq (q : Option Nat) (x0 : Machine) : Option Bool := (zik q x0).run
noncomputable def z15f : Arg U (Machine × Unit) := aA zj (aNil)
noncomputable def z16z (r : Bool) : zR := ([vO z8 r], [])
noncomputable def z17o : zS := zf z15f bNil (fun x _ => zmq none x.1) z16z
noncomputable def zxx (x : (Unit) × (Int × Unit) × Unit) (g : (Machine × Unit) × Unit) : z58 := z58.mk x.2.1.1 g.1.1
noncomputable def zuj : Tms U ((Unit) × (Int × Unit) × Unit) := tO 1 (cK (.ptr 0 0) (z1)) (tO 3 (z0 (cInt .i64) (z1)) (tNil))
noncomputable def zv1 : Bls U ((Machine × Unit) × Unit) := bC (z0 zj (z1)) (bNil)
noncomputable def zj9 (s : z58) : St U := { tm := [(1, .v (vO (cK (.ptr 0 0) (z1)) (()))), (3, .v (vO (z0 (cInt .i64) (z1)) (s.t3, ())))], hp := [.cells ((z0 zj (z1) : Cdc U (Machine × Unit)).enc (s.b0, ())) none] }
noncomputable def zvh : ((Bool × Machine) ⊕ Machine) → Ex × St U
  | .inl r => (.ret, { tm := [(1, .v (vO (cK (.ptr 0 0) (z1)) (()))), (2, .v (vO (z0 z8 (z1)) (r.1, ())))], hp := [.cells ((z0 zj (z1) : Cdc U (Machine × Unit)).enc (r.2, ())) none] })
  | .inr r => (.exit 0, { tm := [(1, .v (vO (cK (.ptr 0 0) (z1)) (())))], hp := [.cells ((z0 zj (z1) : Cdc U (Machine × Unit)).enc (r, ())) none] })
noncomputable def zvz (y : ((Bool × Machine) ⊕ Machine)) : Tree (Ex × St U) := .ite y.isLeft (.opt (Bool × Machine) y.getLeft? fun r => .leaf (.ret, { tm := [(1, .v (vO (cK (.ptr 0 0) (z1)) (()))), (2, .v (vO (z0 z8 (z1)) (r.1, ())))], hp := [.cells ((z0 zj (z1) : Cdc U (Machine × Unit)).enc (r.2, ())) none] })) (.opt Machine y.getRight? fun r => .leaf (.exit 0, { tm := [(1, .v (vO (cK (.ptr 0 0) (z1)) (())))], hp := [.cells ((z0 zj (z1) : Cdc U (Machine × Unit)).enc (r, ())) none] }))
noncomputable def zz4 : Hd := { keep := [1, 3], xkeep := [1, 2], own := false }
noncomputable def zhw : Env U := zE fns24 (addL 0 zz4 (z1f zuj zv1 zxx (zej none) zvz) noL) 47 0
noncomputable def zx8 : Code := (loopAt (Tryz.f6.body.getD .skip) 0 0).getD .skip
theorem z19a (s : z58) : round zhw zz4 zx8 0 (zj9 s) = (z7d s).map (sumE zj9 zvh) := by kernel_rfl
theorem z1ib : LpOk zhw zx8 0 := zy (A := zuj) (B := zv1) (f := zxx) (L := zej none) (zb (z10 z6) (zb (z2 (z3 .i64) z6) z12)) (z13 (z2 z19 z6) z7) (enc := zj9) (out := zvz) (outS := zvh) (step := z7d) (fun _ => rfl) (fun _ _ => by kernel_rfl) (by kernel_rfl) (fun b => by cases b <;> rfl) z19a
theorem z1lj (x : Machine × Unit) (g : Unit) : zk zhw Tryz.f6 (z15f.enc x) (bNil.enc g) = (zik none x.1).map z16z := by kernel_rfl
theorem z1pm : FnOk Tryz.prog cd 6 z17o := zm (E := zhw) zg z1ro Tryz.func6 (by kernel_rfl) (z14 (z11 z1ib z1j)) (zu z19 (zd)) z7 (T := fun x _ => zik none x.1) (fun _ _ => rfl) z1lj
noncomputable def fns6 := addF 6 true z17o fns24
theorem z1x1 : zF fns6 := za z1pm z1ro
noncomputable def zzz (x0 : Int) : Tree ((List Int) × Int) :=
 .opt Bool (zjl x0) fun r60 =>
 .ite (!r60)
 (.leaf (([], (1 : Int))))
 (.ite (decide ((2 : Int) = 0))
 .fail
 (.ite (decide (IntKind.wrap .i64 ((x0).tdiv (2 : Int)) = IntKind.wrap .i64 ((x0).tdiv (2 : Int))))
 (.ite (decide (0 ≤ IntKind.wrap .i64 ((x0).tdiv (2 : Int))))
 (.ite (decide ((8 : Int) * (IntKind.wrap .i64 ((x0).tdiv (2 : Int))) ≤ 281474976710656))
 (.leaf ((List.replicate (IntKind.wrap .i64 ((x0).tdiv (2 : Int))).toNat (0 : Int), (0 : Int))))
 .fail)
 .fail)
 .fail))
noncomputable def z1oa (x0 : Int) : Option ((List Int) × Int) := (zzz x0).run
noncomputable def z1fr : Arg U (Int × Unit) := aO (cInt .i64) (aNil)
noncomputable def z1gn (r : ((List Int) × Int)) : zR := ([vO (cSl 3) r.1, vO (cInt .i64) r.2], [])
noncomputable def z1h7 : zS := zf z1fr bNil (fun x _ => z1oa x.1) z1gn
noncomputable def z1g7 : Env U := zE fns6 noL 10 0
theorem z1up (x : Int × Unit) (g : Unit) : zk z1g7 Tryz.f58 (z1fr.enc x) (bNil.enc g) = (zzz x.1).map z1gn := by kernel_rfl
theorem z1vy : FnOk Tryz.prog cd 58 z1h7 := zm (E := z1g7) zg z1x1 Tryz.func58 (by kernel_rfl) (z9 (by kernel_rfl)) (ze (z3 .i64) (zd)) z7 (T := fun x _ => zzz x.1) (fun _ _ => rfl) z1up
noncomputable def fns58 := addF 58 true z1h7 fns6
theorem z1s7 : zF fns58 := za z1vy z1x1
structure z3s where
  t0 : Int
  t4 : Int
  b0 : (List Int)
noncomputable def z8k (s : z3s) : Tree (z3s ⊕ (List Int)) :=
 .ite (decide (s.t4 < s.t0))
 (.ite (decide ((s.b0.length + ([(0 : Int)]).length) * 1 ≤ 140737488355328))
 (.leaf (.inl (z3s.mk s.t0 (IntKind.wrap .i64 (s.t4 + (1 : Int))) (s.b0 ++ ([(0 : Int)])))))
 .fail)
 (.leaf (.inr s.b0))
noncomputable def z6x (q : Option Nat) (s : z3s) : Option (List Int) := limQ q (fun s => (z8k s).run) s
theorem z1e0 (k : Nat) (s : z3s) : Le (z6x (some k) s) (z6x none s) := zhd (fun _ => Le.rfl) s
noncomputable def zig (q : Option Nat) (x0 : Int) : Tree (List UInt8) :=
 .opt (List Int) (z6x q (z3s.mk x0 (0 : Int) ([]))) fun l61 =>
 .leaf (l61.map fun x => UInt8.ofNat x.toNat)
noncomputable def zak (q : Option Nat) (x0 : Int) : Option (List UInt8) := (zig q x0).run
theorem z1op (k : Nat) (x0 : Int) : Le (zak (some k) x0) (zak none x0) := (TLe.opt (z1e0 k _) fun _ => TLe.rfl)
noncomputable def z15b : Arg U (Int × Unit) := aO (cInt .i64) (aNil)
noncomputable def z16v (r : (List UInt8)) : zR := ([vO cStr r], [])
noncomputable def z17k : zS := zf z15b bNil (fun x _ => zak none x.1) z16v
noncomputable def zxv (x : (Int × Unit) × (Unit) × (Int × Unit) × Unit) (g : (List Int) × Unit) : z3s := z3s.mk x.1.1 x.2.2.1.1 g.1
noncomputable def zuh : Tms U ((Int × Unit) × (Unit) × (Int × Unit) × Unit) := tO 0 (z0 (cInt .i64) (z1)) (tO 3 (cK (.row 0 0) (z1)) (tO 4 (z0 (cInt .i64) (z1)) (tNil)))
noncomputable def zuz : Bls U ((List Int) × Unit) := bRv 5 0 (bNil)
noncomputable def zj7 (s : z3s) : St U := { tm := [(0, .v (vO (z0 (cInt .i64) (z1)) (s.t0, ()))), (3, .v (vO (cK (.row 0 0) (z1)) (()))), (4, .v (vO (z0 (cInt .i64) (z1)) (s.t4, ())))], hp := [.row 5 0 s.b0] }
noncomputable def zk7 (r : (List Int)) : Ex × St U := (.exit 0, { tm := [(3, .v (vO (cK (.row 0 0) (z1)) (())))], hp := [.row 5 0 r] })
noncomputable def zvx (r : (List Int)) : Tree (Ex × St U) := .leaf (zk7 r)
noncomputable def zz2 : Hd := { keep := [0, 3, 4], xkeep := [2, 3], own := true }
noncomputable def zhu : Env U := zE fns58 (addL 0 zz2 (z1f zuh zuz zxv (z6x none) zvx) noL) 15 0
noncomputable def zx6 : Code := (loopAt (Tryz.f97.body.getD .skip) 0 0).getD .skip
theorem z198 (s : z3s) : round zhu zz2 zx6 0 (zj7 s) = (z8k s).map (sumE zj7 zk7) := by kernel_rfl
theorem z1i9 : LpOk zhu zx6 0 := zy (A := zuh) (B := zuz) (f := zxv) (L := z6x none) (zb (z2 (z3 .i64) z6) (zb (z10 z6) (zb (z2 (z3 .i64) z6) z12))) (z1m z7) (enc := zj7) (out := zvx) (outS := zk7) (step := z8k) (fun _ => rfl) (fun _ _ => by kernel_rfl) (by kernel_rfl) (fun _ => rfl) z198
theorem z1lf (x : Int × Unit) (g : Unit) : zk zhu Tryz.f97 (z15b.enc x) (bNil.enc g) = (zig none x.1).map z16v := by kernel_rfl
theorem z1pi : FnOk Tryz.prog cd 97 z17k := zm (E := zhu) zg z1s7 Tryz.func97 (by kernel_rfl) (z14 (z11 z1i9 z1j)) (ze (z3 .i64) (zd)) z7 (T := fun x _ => zig none x.1) (fun _ _ => rfl) z1lf
noncomputable def fns97 := addF 97 true z17k fns58
theorem z1t3 : zF fns97 := za z1pi z1s7
structure z5g where
  t0 : Int
  t5 : Int
  b2 : (List (List UInt8))
  b3 : (List Int)
  b4 : (List (List UInt8))
  b5 : (List Int)
noncomputable def zqn (q : Option Nat) (s : z5g) : Tree (z5g ⊕ ((List (List UInt8)) × (List Int) × (List (List UInt8)) × (List Int))) :=
 .ite (decide (s.t5 < s.t0))
 (.opt (List UInt8) (zak q (128 : Int)) fun r62 =>
 .ite (decide ((s.b4.length + ([r62]).length) * 16 ≤ 140737488355328))
 (.leaf (.inl (z5g.mk s.t0 (IntKind.wrap .i64 (s.t5 + (1 : Int))) s.b2 s.b3 (s.b4 ++ ([r62])) s.b5)))
 .fail)
 (.leaf (.inr (s.b2, s.b3, s.b4, s.b5)))
noncomputable def zd8 (q : Option Nat) (s : z5g) : Option ((List (List UInt8)) × (List Int) × (List (List UInt8)) × (List Int)) := limQ q (fun s => (zqn q s).run) s
theorem z1jr (k : Nat) (s : z5g) : Le (zd8 (some k) s) (zd8 none s) := zhd (fun s => (TLe.ite (TLe.opt (z1op k _) fun _ => TLe.rfl) TLe.rfl)) s
noncomputable def z102 (q : Option Nat) (x0 : Int) : Tree (Drive × Int) :=
 .ite (decide (x0 < (1 : Int)))
 (.leaf ((Drive.mk ([]) ([]), (2 : Int))))
 (.ite (decide ((256 : Int) < x0))
 (.leaf ((Drive.mk ([]) ([]), (2 : Int))))
 (.opt ((List (List UInt8)) × (List Int) × (List (List UInt8)) × (List Int)) (zd8 q (z5g.mk x0 (0 : Int) ([]) ([]) ([]) ([]))) fun l63 =>
 .leaf ((Drive.mk l63.2.2.1 l63.2.2.2, (0 : Int)))))
noncomputable def zty (q : Option Nat) (x0 : Int) : Option (Drive × Int) := (z102 q x0).run
theorem z1vn (k : Nat) (x0 : Int) : Le (zty (some k) x0) (zty none x0) := (TLe.ite TLe.rfl (TLe.ite TLe.rfl (TLe.opt (z1jr k _) fun _ => TLe.rfl)))
noncomputable def z1fu : Arg U (Int × Unit) := aO (cInt .i64) (aNil)
noncomputable def z1gq (r : (Drive × Int)) : zR := ([vA cDrive r.1, vO (cInt .i64) r.2], [])
noncomputable def z1hb : zS := zf z1fu bNil (fun x _ => zty none x.1) z1gq
noncomputable def z167 (x : (Int × Unit) × (Unit) × (Unit) × (Int × Unit) × Unit) (g : (Unit) × (Unit) × (List (List UInt8)) × (List Int) × (List (List UInt8)) × (List Int) × Unit) : z5g := z5g.mk x.1.1 x.2.2.2.1.1 g.2.2.1 g.2.2.2.1 g.2.2.2.2.1 g.2.2.2.2.2.1
noncomputable def z13t : Tms U ((Int × Unit) × (Unit) × (Unit) × (Int × Unit) × Unit) := tO 0 (z0 (cInt .i64) (z1)) (tO 2 (cK (.ptr 0 0) (z1)) (tO 4 (cK (.ptr 1 0) (z1)) (tO 5 (z0 (cInt .i64) (z1)) (tNil))))
noncomputable def z140 : Bls U ((Unit) × (Unit) × (List (List UInt8)) × (List Int) × (List (List UInt8)) × (List Int) × Unit) := bC (cK (.row 2 0) (cK (.row 3 0) (z1))) (bC (cK (.row 4 0) (cK (.row 5 0) (z1))) (bRv 9 0 (bRv 3 0 (bRv 9 0 (bRv 3 0 (bNil))))))
noncomputable def zo0 (s : z5g) : St U := { tm := [(0, .v (vO (z0 (cInt .i64) (z1)) (s.t0, ()))), (2, .v (vO (cK (.ptr 0 0) (z1)) (()))), (4, .v (vO (cK (.ptr 1 0) (z1)) (()))), (5, .v (vO (z0 (cInt .i64) (z1)) (s.t5, ())))], hp := [.cells ((cK (.row 2 0) (cK (.row 3 0) (z1)) : Cdc U (Unit)).enc (())) none, .cells ((cK (.row 4 0) (cK (.row 5 0) (z1)) : Cdc U (Unit)).enc (())) none, .row 9 0 s.b2, .row 3 0 s.b3, .row 9 0 s.b4, .row 3 0 s.b5] }
noncomputable def zo9 (r : ((List (List UInt8)) × (List Int) × (List (List UInt8)) × (List Int))) : Ex × St U := (.exit 0, { tm := [(2, .v (vO (cK (.ptr 0 0) (z1)) (()))), (4, .v (vO (cK (.ptr 1 0) (z1)) (())))], hp := [.cells ((cK (.row 2 0) (cK (.row 3 0) (z1)) : Cdc U (Unit)).enc (())) none, .cells ((cK (.row 4 0) (cK (.row 5 0) (z1)) : Cdc U (Unit)).enc (())) none, .row 9 0 r.1, .row 3 0 r.2.1, .row 9 0 r.2.2.1, .row 3 0 r.2.2.2] })
noncomputable def z14c (r : ((List (List UInt8)) × (List Int) × (List (List UInt8)) × (List Int))) : Tree (Ex × St U) := .leaf (zo9 r)
noncomputable def z18c : Hd := { keep := [0, 2, 4, 5], xkeep := [2, 3, 4], own := true }
noncomputable def zox : Env U := zE fns97 (addL 0 z18c (z1f z13t z140 z167 (zd8 none) z14c) noL) 25 0
noncomputable def z15l : Code := (loopAt (Tryz.f59.body.getD .skip) 0 0).getD .skip
theorem z1ev (s : z5g) : round zox z18c z15l 0 (zo0 s) = (zqn none s).map (sumE zo0 zo9) := by kernel_rfl
theorem z1ou : LpOk zox z15l 0 := zy (A := z13t) (B := z140) (f := z167) (L := zd8 none) (zb (z2 (z3 .i64) z6) (zb (z10 z6) (zb (z10 z6) (zb (z2 (z3 .i64) z6) z12)))) (z13 (z10 (z10 z6)) (z13 (z10 (z10 z6)) (z1m (z1m (z1m (z1m z7)))))) (enc := zo0) (out := z14c) (outS := zo9) (step := zqn none) (fun _ => rfl) (fun _ _ => by kernel_rfl) (by kernel_rfl) (fun _ => rfl) z1ev
theorem z1ut (x : Int × Unit) (g : Unit) : zk zox Tryz.f59 (z1fu.enc x) (bNil.enc g) = (z102 none x.1).map z1gq := by kernel_rfl
theorem z1w2 : FnOk Tryz.prog cd 59 z1hb := zm (E := zox) zg z1t3 Tryz.func59 (by kernel_rfl) (z14 (z11 z1ou z1j)) (ze (z3 .i64) (zd)) z7 (T := fun x _ => z102 none x.1) (fun _ _ => rfl) z1ut
noncomputable def fns59 := addF 59 true z1hb fns97
theorem z1s8 : zF fns59 := za z1w2 z1t3
noncomputable def z103 (x0 : Drive) : Tree Disk :=
 .ite (decide ((([] : List (List UInt8)).length + x0.sectors.length) * 16 ≤ 140737488355328))
 (.ite (decide ((([] : List Int).length + x0.bad.length) * 8 ≤ 140737488355328))
 (.leaf (Disk.mk (Drive.mk (([] : List (List UInt8)) ++ x0.sectors) (([] : List Int) ++ x0.bad)) false true false 0 0 0 0 0))
 .fail)
 .fail
noncomputable def z1od (x0 : Drive) : Option Disk := (z103 x0).run
noncomputable def z1fv : Arg U (Drive × Unit) := aA cDrive (aNil)
noncomputable def z1gr (r : Disk) : zR := ([vA cDisk r], [])
noncomputable def z1hc : zS := zf z1fv bNil (fun x _ => z1od x.1) z1gr
noncomputable def z1ga : Env U := zE fns59 noL 15 0
theorem z1uu (x : Drive × Unit) (g : Unit) : zk z1ga Tryz.f60 (z1fv.enc x) (bNil.enc g) = (z103 x.1).map z1gr := by kernel_rfl
theorem z1w3 : FnOk Tryz.prog cd 60 z1hc := zm (E := z1ga) zg z1s8 Tryz.func60 (by kernel_rfl) (z9 (by kernel_rfl)) (zu z2g (zd)) z7 (T := fun x _ => z103 x.1) (fun _ _ => rfl) z1uu
noncomputable def fns60 := addF 60 true z1hc fns59
theorem z1s9 : zF fns60 := za z1w3 z1s8
noncomputable def z100 (x0 : Int) : Tree (Clock × Int) :=
 .ite (decide (x0 < (1 : Int)))
 (.leaf ((Clock.mk false false 0 0, (2 : Int))))
 (.ite (decide ((65535 : Int) < x0))
 (.leaf ((Clock.mk false false 0 0, (2 : Int))))
 (.leaf ((Clock.mk false false x0 x0, (0 : Int)))))
noncomputable def z1ob (x0 : Int) : Option (Clock × Int) := (z100 x0).run
noncomputable def z1fs : Arg U (Int × Unit) := aO (cInt .i64) (aNil)
noncomputable def z1go (r : (Clock × Int)) : zR := ([vA cClock r.1, vO (cInt .i64) r.2], [])
noncomputable def z1h9 : zS := zf z1fs bNil (fun x _ => z1ob x.1) z1go
noncomputable def z1g8 : Env U := zE fns60 noL 14 0
theorem z1ur (x : Int × Unit) (g : Unit) : zk z1g8 Tryz.f61 (z1fs.enc x) (bNil.enc g) = (z100 x.1).map z1go := by kernel_rfl
theorem z1w0 : FnOk Tryz.prog cd 61 z1h9 := zm (E := z1g8) zg z1s9 Tryz.func61 (by kernel_rfl) (z9 (by kernel_rfl)) (ze (z3 .i64) (zd)) z7 (T := fun x _ => z100 x.1) (fun _ _ => rfl) z1ur
noncomputable def fns61 := addF 61 true z1h9 fns60
theorem z1sa : zF fns61 := za z1w0 z1s9
structure z5h where
  t0 : (List (List UInt8))
  t4 : Int
  b0 : Tape
noncomputable def zqo (s : z5h) : Tree (z5h ⊕ (((List (List UInt8)) × Int × Tape) ⊕ ((List (List UInt8)) × Tape))) :=
 .ite (decide (s.t4 < (s.t0.length : Int)))
 (.ite (decide (0 ≤ s.t4))
 (.opt (List UInt8) (s.t0[(s.t4).toNat]?) fun y64 =>
 .ite (decide ((512 : Int) < (y64.length : Int)))
 (.leaf (.inr (.inl (s.t0, (7 : Int), Tape.mk ([]) 0 false false false false false 0 0 0 0))))
 (.leaf (.inl (z5h.mk s.t0 (IntKind.wrap .i64 (s.t4 + (1 : Int))) s.b0))))
 .fail)
 (.leaf (.inr (.inr (s.t0, s.b0))))
noncomputable def zd9 (q : Option Nat) (s : z5h) : Option (((List (List UInt8)) × Int × Tape) ⊕ ((List (List UInt8)) × Tape)) := limQ q (fun s => (zqo s).run) s
theorem z1js (k : Nat) (s : z5h) : Le (zd9 (some k) s) (zd9 none s) := zhd (fun _ => Le.rfl) s
noncomputable def z104 (q : Option Nat) (x0 : (List (List UInt8))) : Tree (Tape × Int) :=
 .ite (decide ((64 : Int) < (x0.length : Int)))
 (.leaf ((Tape.mk ([]) 0 false false false false false 0 0 0 0, (12 : Int))))
 (.opt (((List (List UInt8)) × Int × Tape) ⊕ ((List (List UInt8)) × Tape)) (zd9 q (z5h.mk x0 (0 : Int) (Tape.mk ([]) 0 false false false false false 0 0 0 0))) fun l65 =>
 .ite (l65.isLeft)
 (.opt ((List (List UInt8)) × Int × Tape) (l65.getLeft?) fun a66 =>
 .leaf ((a66.2.2, a66.2.1)))
 (.opt ((List (List UInt8)) × Tape) (l65.getRight?) fun b67 =>
 .ite (decide ((([] : List (List UInt8)).length + b67.1.length) * 16 ≤ 140737488355328))
 (.leaf ((Tape.mk (([] : List (List UInt8)) ++ b67.1) 0 false true false false false 0 0 0 0, (0 : Int))))
 .fail))
noncomputable def ztz (q : Option Nat) (x0 : (List (List UInt8))) : Option (Tape × Int) := (z104 q x0).run
theorem z1vo (k : Nat) (x0 : (List (List UInt8))) : Le (ztz (some k) x0) (ztz none x0) := (TLe.ite TLe.rfl (TLe.opt (z1js k _) fun _ => TLe.rfl))
noncomputable def z1fw : Arg U ((List (List UInt8)) × Unit) := aO (cSl 9) (aNil)
noncomputable def z1gs (r : (Tape × Int)) : zR := ([vA cTape r.1, vO (cInt .i64) r.2], [])
noncomputable def z1hd : zS := zf z1fw bNil (fun x _ => ztz none x.1) z1gs
noncomputable def z168 (x : ((List (List UInt8)) × Unit) × (Unit) × (Int × Unit) × Unit) (g : (Tape × Unit) × Unit) : z5h := z5h.mk x.1.1 x.2.2.1.1 g.1.1
noncomputable def z13u : Tms U (((List (List UInt8)) × Unit) × (Unit) × (Int × Unit) × Unit) := tO 0 (z0 (cSl 9) (z1)) (tO 2 (cK (.ptr 0 0) (z1)) (tO 4 (z0 (cInt .i64) (z1)) (tNil)))
noncomputable def z141 : Bls U ((Tape × Unit) × Unit) := bC (z0 cTape (z1)) (bNil)
noncomputable def zo1 (s : z5h) : St U := { tm := [(0, .v (vO (z0 (cSl 9) (z1)) (s.t0, ()))), (2, .v (vO (cK (.ptr 0 0) (z1)) (()))), (4, .v (vO (z0 (cInt .i64) (z1)) (s.t4, ())))], hp := [.cells ((z0 cTape (z1) : Cdc U (Tape × Unit)).enc (s.b0, ())) none] }
noncomputable def z147 : (((List (List UInt8)) × Int × Tape) ⊕ ((List (List UInt8)) × Tape)) → Ex × St U
  | .inl r => (.ret, { tm := [(0, .v (vO (z0 (cSl 9) (z1)) (r.1, ()))), (2, .v (vO (cK (.ptr 0 0) (z1)) (()))), (3, .v (vO (z0 (cInt .i64) (z1)) (r.2.1, ())))], hp := [.cells ((z0 cTape (z1) : Cdc U (Tape × Unit)).enc (r.2.2, ())) none] })
  | .inr r => (.exit 0, { tm := [(0, .v (vO (z0 (cSl 9) (z1)) (r.1, ()))), (2, .v (vO (cK (.ptr 0 0) (z1)) (())))], hp := [.cells ((z0 cTape (z1) : Cdc U (Tape × Unit)).enc (r.2, ())) none] })
noncomputable def z14d (y : (((List (List UInt8)) × Int × Tape) ⊕ ((List (List UInt8)) × Tape))) : Tree (Ex × St U) := .ite y.isLeft (.opt ((List (List UInt8)) × Int × Tape) y.getLeft? fun r => .leaf (.ret, { tm := [(0, .v (vO (z0 (cSl 9) (z1)) (r.1, ()))), (2, .v (vO (cK (.ptr 0 0) (z1)) (()))), (3, .v (vO (z0 (cInt .i64) (z1)) (r.2.1, ())))], hp := [.cells ((z0 cTape (z1) : Cdc U (Tape × Unit)).enc (r.2.2, ())) none] })) (.opt ((List (List UInt8)) × Tape) y.getRight? fun r => .leaf (.exit 0, { tm := [(0, .v (vO (z0 (cSl 9) (z1)) (r.1, ()))), (2, .v (vO (cK (.ptr 0 0) (z1)) (())))], hp := [.cells ((z0 cTape (z1) : Cdc U (Tape × Unit)).enc (r.2, ())) none] }))
noncomputable def z18d : Hd := { keep := [0, 2, 4], xkeep := [0, 2, 3], own := false }
noncomputable def zoy : Env U := zE fns61 (addL 0 z18d (z1f z13u z141 z168 (zd9 none) z14d) noL) 26 0
noncomputable def z15m : Code := (loopAt (Tryz.f62.body.getD .skip) 0 0).getD .skip
theorem z1ew (s : z5h) : round zoy z18d z15m 0 (zo1 s) = (zqo s).map (sumE zo1 z147) := by kernel_rfl
theorem z1ov : LpOk zoy z15m 0 := zy (A := z13u) (B := z141) (f := z168) (L := zd9 none) (zb (z2 (zi 9) z6) (zb (z10 z6) (zb (z2 (z3 .i64) z6) z12))) (z13 (z2 z2z z6) z7) (enc := zo1) (out := z14d) (outS := z147) (step := zqo) (fun _ => rfl) (fun _ _ => by kernel_rfl) (by kernel_rfl) (fun b => by cases b <;> rfl) z1ew
theorem z1uv (x : (List (List UInt8)) × Unit) (g : Unit) : zk zoy Tryz.f62 (z1fw.enc x) (bNil.enc g) = (z104 none x.1).map z1gs := by kernel_rfl
theorem z1w4 : FnOk Tryz.prog cd 62 z1hd := zm (E := zoy) zg z1sa Tryz.func62 (by kernel_rfl) (z14 (z11 z1ov z1j)) (ze (zi 9) (zd)) z7 (T := fun x _ => z104 none x.1) (fun _ _ => rfl) z1uv
noncomputable def fns62 := addF 62 true z1hd fns61
theorem z1sb : zF fns62 := za z1w4 z1sa
noncomputable def z101  : Tree Line :=
 .leaf (Line.mk false false false 0 false true 0 0 ([]))
noncomputable def z1oc  : Option Line := (z101 ).run
noncomputable def z1ft : Arg U (Unit) := aNil
noncomputable def z1gp (r : Line) : zR := ([vA cLine r], [])
noncomputable def z1ha : zS := zf z1ft bNil (fun x _ => z1oc ) z1gp
noncomputable def z1g9 : Env U := zE fns62 noL 2 0
theorem z1us (x : Unit) (g : Unit) : zk z1g9 Tryz.f63 (z1ft.enc x) (bNil.enc g) = (z101 ).map z1gp := by kernel_rfl
theorem z1w1 : FnOk Tryz.prog cd 63 z1ha := zm (E := z1g9) zg z1sb Tryz.func63 (by kernel_rfl) (z9 (by kernel_rfl)) (zd) z7 (T := fun x _ => z101 ) (fun _ _ => rfl) z1us
noncomputable def fns63 := addF 63 true z1ha fns62
theorem z1sc : zF fns63 := za z1w1 z1sb
structure z5i where
  t1 : Int
  t12 : Int
  b0_0 : (List Int)
  b0_1 : (List Int)
  b0_2 : Int
  b0_3 : Int
  b0_6 : Bool
  b0_7 : (List Page)
  b0_8 : Int
  b0_9 : Int
  b0_10 : Bool
  b0_11 : Bool
  b0_12 : Int
  b0_13 : Int
  b0_17 : Bool
  b0_18 : Bool
  b0_19 : Bool
  b0_20 : Int
  b0_21 : Int
  b0_22 : Int
  b0_23 : Int
  b0_24 : Int
  b0_26 : Int
  b0_27 : Bool
  b0_28 : Bool
  b0_29 : Bool
  b0_30 : Bool
  b0_31 : Bool
  b0_32 : Int
  b0_33 : Int
  b0_34 : Int
  b0_35 : Int
  b0_36 : Int
  b0_37 : Bool
  b0_38 : Bool
  b0_39 : Int
  b0_40 : Bool
  b1_0 : (List Int)
  b1_1 : (List Int)
  b1_2 : Int
  b1_3 : Int
  b1_4 : (List Int)
  b1_6 : Bool
  b1_7 : (List Page)
  b1_8 : Int
  b1_9 : Int
  b1_10 : Bool
  b1_11 : Bool
  b1_12 : Int
  b1_13 : Int
  b1_15 : (List (List UInt8))
  b1_16 : (List Int)
  b1_17 : Bool
  b1_18 : Bool
  b1_19 : Bool
  b1_20 : Int
  b1_21 : Int
  b1_22 : Int
  b1_23 : Int
  b1_24 : Int
  b1_25 : (List (List UInt8))
  b1_26 : Int
  b1_27 : Bool
  b1_28 : Bool
  b1_29 : Bool
  b1_30 : Bool
  b1_31 : Bool
  b1_32 : Int
  b1_33 : Int
  b1_34 : Int
  b1_35 : Int
  b1_36 : Int
  b1_37 : Bool
  b1_38 : Bool
  b1_39 : Int
  b1_40 : Bool
  b2 : (List Int)
  b3 : (List Int)
  b4 : (List Line)
  b5 : (List (List UInt8))
  b6 : (List Int)
  b7 : (List (List UInt8))
  b8 : (List Int)
  b9 : (List Line)
abbrev zta0 : Type := (List Int) × (List Int) × Int × Int × Bool × (List Page) × Int × Int × Bool × Bool × Int × Int × Bool × Bool × Bool × Int × Int × Int × Int × Int × Int × Bool × Bool × Bool × Bool × Bool × Int × Int × Int × Int × Int × Bool × Bool × Int × Bool × (List Int) × (List Int) × Int × Int × (List Int) × Bool × (List Page) × Int × Int × Bool × Bool × Int × Int × (List (List UInt8)) × (List Int) × Bool × Bool × Bool × Int × Int × Int × Int × Int × (List (List UInt8)) × Int × Bool × Bool × Bool × Bool × Bool × Int × Int × Int × Int × Int × Bool × Bool × Int × Bool × (List Int) × (List Int) × (List Line) × (List (List UInt8)) × (List Int) × (List (List UInt8)) × (List Int) × (List Line)
noncomputable def zqp (s : z5i) : Tree (z5i ⊕ zta0) :=
 .ite (decide (s.t12 < s.t1))
 (.opt Line (z1oc) fun r73 =>
 .ite (decide ((s.b9.length + ([r73]).length) * 56 ≤ 140737488355328))
 (.leaf (.inl (z5i.mk s.t1 (IntKind.wrap .i64 (s.t12 + (1 : Int))) s.b0_0 s.b0_1 s.b0_2 s.b0_3 s.b0_6 s.b0_7 s.b0_8 s.b0_9 s.b0_10 s.b0_11 s.b0_12 s.b0_13 s.b0_17 s.b0_18 s.b0_19 s.b0_20 s.b0_21 s.b0_22 s.b0_23 s.b0_24 s.b0_26 s.b0_27 s.b0_28 s.b0_29 s.b0_30 s.b0_31 s.b0_32 s.b0_33 s.b0_34 s.b0_35 s.b0_36 s.b0_37 s.b0_38 s.b0_39 s.b0_40 s.b1_0 s.b1_1 s.b1_2 s.b1_3 s.b1_4 s.b1_6 s.b1_7 s.b1_8 s.b1_9 s.b1_10 s.b1_11 s.b1_12 s.b1_13 s.b1_15 s.b1_16 s.b1_17 s.b1_18 s.b1_19 s.b1_20 s.b1_21 s.b1_22 s.b1_23 s.b1_24 s.b1_25 s.b1_26 s.b1_27 s.b1_28 s.b1_29 s.b1_30 s.b1_31 s.b1_32 s.b1_33 s.b1_34 s.b1_35 s.b1_36 s.b1_37 s.b1_38 s.b1_39 s.b1_40 s.b2 s.b3 s.b4 s.b5 s.b6 s.b7 s.b8 (s.b9 ++ ([r73])))))
 .fail)
 (.leaf (.inr (s.b0_0, s.b0_1, s.b0_2, s.b0_3, s.b0_6, s.b0_7, s.b0_8, s.b0_9, s.b0_10, s.b0_11, s.b0_12, s.b0_13, s.b0_17, s.b0_18, s.b0_19, s.b0_20, s.b0_21, s.b0_22, s.b0_23, s.b0_24, s.b0_26, s.b0_27, s.b0_28, s.b0_29, s.b0_30, s.b0_31, s.b0_32, s.b0_33, s.b0_34, s.b0_35, s.b0_36, s.b0_37, s.b0_38, s.b0_39, s.b0_40, s.b1_0, s.b1_1, s.b1_2, s.b1_3, s.b1_4, s.b1_6, s.b1_7, s.b1_8, s.b1_9, s.b1_10, s.b1_11, s.b1_12, s.b1_13, s.b1_15, s.b1_16, s.b1_17, s.b1_18, s.b1_19, s.b1_20, s.b1_21, s.b1_22, s.b1_23, s.b1_24, s.b1_25, s.b1_26, s.b1_27, s.b1_28, s.b1_29, s.b1_30, s.b1_31, s.b1_32, s.b1_33, s.b1_34, s.b1_35, s.b1_36, s.b1_37, s.b1_38, s.b1_39, s.b1_40, s.b2, s.b3, s.b4, s.b5, s.b6, s.b7, s.b8, s.b9)))
noncomputable def zda (q : Option Nat) (s : z5i) : Option zta0 := limQ q (fun s => (zqp s).run) s
theorem z1jt (k : Nat) (s : z5i) : Le (zda (some k) s) (zda none s) := zhd (fun _ => Le.rfl) s
noncomputable def z105 (q : Option Nat) (x0 : Int) (x1 : Int) (x2 : Int) : Tree (Machine × Int) :=
 .opt ((List Int) × Int) (z1oa x0) fun r68 =>
 .ite (!decide (r68.2 = (0 : Int)))
 (.leaf ((Machine.mk (Cpu.mk (List.replicate 6 (0 : Int)) (List.replicate 2 (0 : Int)) 0 0) ([]) ([]) (Mmu.mk false (List.replicate 16 (Page.mk (0 : Int) (0 : Int) (0 : Int) false)) 0 0) (Clock.mk false false 0 0) ([]) (Disk.mk (Drive.mk ([]) ([])) false false false 0 0 0 0 0) (Tape.mk ([]) 0 false false false false false 0 0 0 0) 0 false false 0 false, r68.2)))
 (.ite (decide (x1 < (0 : Int)))
 (.leaf ((Machine.mk (Cpu.mk (List.replicate 6 (0 : Int)) (List.replicate 2 (0 : Int)) 0 0) ([]) ([]) (Mmu.mk false (List.replicate 16 (Page.mk (0 : Int) (0 : Int) (0 : Int) false)) 0 0) (Clock.mk false false 0 0) ([]) (Disk.mk (Drive.mk ([]) ([])) false false false 0 0 0 0 0) (Tape.mk ([]) 0 false false false false false 0 0 0 0) 0 false false 0 false, (2 : Int))))
 (.ite (decide ((4 : Int) < x1))
 (.leaf ((Machine.mk (Cpu.mk (List.replicate 6 (0 : Int)) (List.replicate 2 (0 : Int)) 0 0) ([]) ([]) (Mmu.mk false (List.replicate 16 (Page.mk (0 : Int) (0 : Int) (0 : Int) false)) 0 0) (Clock.mk false false 0 0) ([]) (Disk.mk (Drive.mk ([]) ([])) false false false 0 0 0 0 0) (Tape.mk ([]) 0 false false false false false 0 0 0 0) 0 false false 0 false, (2 : Int))))
 (.opt (Drive × Int) (zty q x2) fun r69 =>
 .ite (!decide (r69.2 = (0 : Int)))
 (.leaf ((Machine.mk (Cpu.mk (List.replicate 6 (0 : Int)) (List.replicate 2 (0 : Int)) 0 0) ([]) ([]) (Mmu.mk false (List.replicate 16 (Page.mk (0 : Int) (0 : Int) (0 : Int) false)) 0 0) (Clock.mk false false 0 0) ([]) (Disk.mk (Drive.mk ([]) ([])) false false false 0 0 0 0 0) (Tape.mk ([]) 0 false false false false false 0 0 0 0) 0 false false 0 false, r69.2)))
 (.opt Disk (z1od r69.1) fun r70 =>
 .opt (Clock × Int) (z1ob (100 : Int)) fun r71 =>
 .opt (Tape × Int) (ztz q ([])) fun r72 =>
 .opt zta0 (zda q (z5i.mk x1 (0 : Int) (List.replicate 6 (0 : Int)) (List.replicate 2 (0 : Int)) 0 0 false (List.replicate 16 (Page.mk (0 : Int) (0 : Int) (0 : Int) false)) 0 0 false false 0 0 false false false 0 0 0 0 0 0 false false false false false 0 0 0 0 0 false false 0 false (List.replicate 6 (0 : Int)) (List.replicate 2 (0 : Int)) 0 0 r68.1 false (List.replicate 16 (Page.mk (0 : Int) (0 : Int) (0 : Int) false)) 0 0 r71.1.enable r71.1.ready r71.1.period r71.1.left r70.drive.sectors r70.drive.bad r70.enable r70.ready r70.error r70.command r70.words r70.addr r70.start r70.left r72.1.records r72.1.pos r72.1.enable r72.1.ready r72.1.error r72.1.mark r72.1.end_ r72.1.command r72.1.count r72.1.addr r72.1.left 0 false false 0 false ([]) ([]) ([]) ([]) ([]) ([]) ([]) ([]))) fun l74 =>
 .leaf ((Machine.mk (Cpu.mk l74.2.2.2.2.2.2.2.2.2.2.2.2.2.2.2.2.2.2.2.2.2.2.2.2.2.2.2.2.2.2.2.2.2.2.2.1 l74.2.2.2.2.2.2.2.2.2.2.2.2.2.2.2.2.2.2.2.2.2.2.2.2.2.2.2.2.2.2.2.2.2.2.2.2.1 l74.2.2.2.2.2.2.2.2.2.2.2.2.2.2.2.2.2.2.2.2.2.2.2.2.2.2.2.2.2.2.2.2.2.2.2.2.2.1 l74.2.2.2.2.2.2.2.2.2.2.2.2.2.2.2.2.2.2.2.2.2.2.2.2.2.2.2.2.2.2.2.2.2.2.2.2.2.2.1) l74.2.2.2.2.2.2.2.2.2.2.2.2.2.2.2.2.2.2.2.2.2.2.2.2.2.2.2.2.2.2.2.2.2.2.2.2.2.2.2.1 l74.2.2.2.2.2.2.2.2.2.2.2.2.2.2.2.2.2.2.2.2.2.2.2.2.2.2.2.2.2.2.2.2.2.2.2.2.2.2.2.2.2.2.2.2.2.2.2.2.2.2.2.2.2.2.2.2.2.2.2.2.2.2.2.2.2.2.2.2.2.2.2.2.2.2.2.2.2.2.2.2.1 (Mmu.mk l74.2.2.2.2.2.2.2.2.2.2.2.2.2.2.2.2.2.2.2.2.2.2.2.2.2.2.2.2.2.2.2.2.2.2.2.2.2.2.2.2.1 l74.2.2.2.2.2.2.2.2.2.2.2.2.2.2.2.2.2.2.2.2.2.2.2.2.2.2.2.2.2.2.2.2.2.2.2.2.2.2.2.2.2.1 l74.2.2.2.2.2.2.2.2.2.2.2.2.2.2.2.2.2.2.2.2.2.2.2.2.2.2.2.2.2.2.2.2.2.2.2.2.2.2.2.2.2.2.1 l74.2.2.2.2.2.2.2.2.2.2.2.2.2.2.2.2.2.2.2.2.2.2.2.2.2.2.2.2.2.2.2.2.2.2.2.2.2.2.2.2.2.2.2.1) (Clock.mk l74.2.2.2.2.2.2.2.2.2.2.2.2.2.2.2.2.2.2.2.2.2.2.2.2.2.2.2.2.2.2.2.2.2.2.2.2.2.2.2.2.2.2.2.2.1 l74.2.2.2.2.2.2.2.2.2.2.2.2.2.2.2.2.2.2.2.2.2.2.2.2.2.2.2.2.2.2.2.2.2.2.2.2.2.2.2.2.2.2.2.2.2.1 l74.2.2.2.2.2.2.2.2.2.2.2.2.2.2.2.2.2.2.2.2.2.2.2.2.2.2.2.2.2.2.2.2.2.2.2.2.2.2.2.2.2.2.2.2.2.2.1 l74.2.2.2.2.2.2.2.2.2.2.2.2.2.2.2.2.2.2.2.2.2.2.2.2.2.2.2.2.2.2.2.2.2.2.2.2.2.2.2.2.2.2.2.2.2.2.2.1) l74.2.2.2.2.2.2.2.2.2.2.2.2.2.2.2.2.2.2.2.2.2.2.2.2.2.2.2.2.2.2.2.2.2.2.2.2.2.2.2.2.2.2.2.2.2.2.2.2.2.2.2.2.2.2.2.2.2.2.2.2.2.2.2.2.2.2.2.2.2.2.2.2.2.2.2.2.2.2.2.2.2 (Disk.mk (Drive.mk l74.2.2.2.2.2.2.2.2.2.2.2.2.2.2.2.2.2.2.2.2.2.2.2.2.2.2.2.2.2.2.2.2.2.2.2.2.2.2.2.2.2.2.2.2.2.2.2.2.1 l74.2.2.2.2.2.2.2.2.2.2.2.2.2.2.2.2.2.2.2.2.2.2.2.2.2.2.2.2.2.2.2.2.2.2.2.2.2.2.2.2.2.2.2.2.2.2.2.2.2.1) l74.2.2.2.2.2.2.2.2.2.2.2.2.2.2.2.2.2.2.2.2.2.2.2.2.2.2.2.2.2.2.2.2.2.2.2.2.2.2.2.2.2.2.2.2.2.2.2.2.2.2.1 l74.2.2.2.2.2.2.2.2.2.2.2.2.2.2.2.2.2.2.2.2.2.2.2.2.2.2.2.2.2.2.2.2.2.2.2.2.2.2.2.2.2.2.2.2.2.2.2.2.2.2.2.1 l74.2.2.2.2.2.2.2.2.2.2.2.2.2.2.2.2.2.2.2.2.2.2.2.2.2.2.2.2.2.2.2.2.2.2.2.2.2.2.2.2.2.2.2.2.2.2.2.2.2.2.2.2.1 l74.2.2.2.2.2.2.2.2.2.2.2.2.2.2.2.2.2.2.2.2.2.2.2.2.2.2.2.2.2.2.2.2.2.2.2.2.2.2.2.2.2.2.2.2.2.2.2.2.2.2.2.2.2.1 l74.2.2.2.2.2.2.2.2.2.2.2.2.2.2.2.2.2.2.2.2.2.2.2.2.2.2.2.2.2.2.2.2.2.2.2.2.2.2.2.2.2.2.2.2.2.2.2.2.2.2.2.2.2.2.1 l74.2.2.2.2.2.2.2.2.2.2.2.2.2.2.2.2.2.2.2.2.2.2.2.2.2.2.2.2.2.2.2.2.2.2.2.2.2.2.2.2.2.2.2.2.2.2.2.2.2.2.2.2.2.2.2.1 l74.2.2.2.2.2.2.2.2.2.2.2.2.2.2.2.2.2.2.2.2.2.2.2.2.2.2.2.2.2.2.2.2.2.2.2.2.2.2.2.2.2.2.2.2.2.2.2.2.2.2.2.2.2.2.2.2.1 l74.2.2.2.2.2.2.2.2.2.2.2.2.2.2.2.2.2.2.2.2.2.2.2.2.2.2.2.2.2.2.2.2.2.2.2.2.2.2.2.2.2.2.2.2.2.2.2.2.2.2.2.2.2.2.2.2.2.1) (Tape.mk l74.2.2.2.2.2.2.2.2.2.2.2.2.2.2.2.2.2.2.2.2.2.2.2.2.2.2.2.2.2.2.2.2.2.2.2.2.2.2.2.2.2.2.2.2.2.2.2.2.2.2.2.2.2.2.2.2.2.2.1 l74.2.2.2.2.2.2.2.2.2.2.2.2.2.2.2.2.2.2.2.2.2.2.2.2.2.2.2.2.2.2.2.2.2.2.2.2.2.2.2.2.2.2.2.2.2.2.2.2.2.2.2.2.2.2.2.2.2.2.2.1 l74.2.2.2.2.2.2.2.2.2.2.2.2.2.2.2.2.2.2.2.2.2.2.2.2.2.2.2.2.2.2.2.2.2.2.2.2.2.2.2.2.2.2.2.2.2.2.2.2.2.2.2.2.2.2.2.2.2.2.2.2.1 l74.2.2.2.2.2.2.2.2.2.2.2.2.2.2.2.2.2.2.2.2.2.2.2.2.2.2.2.2.2.2.2.2.2.2.2.2.2.2.2.2.2.2.2.2.2.2.2.2.2.2.2.2.2.2.2.2.2.2.2.2.2.1 l74.2.2.2.2.2.2.2.2.2.2.2.2.2.2.2.2.2.2.2.2.2.2.2.2.2.2.2.2.2.2.2.2.2.2.2.2.2.2.2.2.2.2.2.2.2.2.2.2.2.2.2.2.2.2.2.2.2.2.2.2.2.2.1 l74.2.2.2.2.2.2.2.2.2.2.2.2.2.2.2.2.2.2.2.2.2.2.2.2.2.2.2.2.2.2.2.2.2.2.2.2.2.2.2.2.2.2.2.2.2.2.2.2.2.2.2.2.2.2.2.2.2.2.2.2.2.2.2.1 l74.2.2.2.2.2.2.2.2.2.2.2.2.2.2.2.2.2.2.2.2.2.2.2.2.2.2.2.2.2.2.2.2.2.2.2.2.2.2.2.2.2.2.2.2.2.2.2.2.2.2.2.2.2.2.2.2.2.2.2.2.2.2.2.2.1 l74.2.2.2.2.2.2.2.2.2.2.2.2.2.2.2.2.2.2.2.2.2.2.2.2.2.2.2.2.2.2.2.2.2.2.2.2.2.2.2.2.2.2.2.2.2.2.2.2.2.2.2.2.2.2.2.2.2.2.2.2.2.2.2.2.2.1 l74.2.2.2.2.2.2.2.2.2.2.2.2.2.2.2.2.2.2.2.2.2.2.2.2.2.2.2.2.2.2.2.2.2.2.2.2.2.2.2.2.2.2.2.2.2.2.2.2.2.2.2.2.2.2.2.2.2.2.2.2.2.2.2.2.2.2.1 l74.2.2.2.2.2.2.2.2.2.2.2.2.2.2.2.2.2.2.2.2.2.2.2.2.2.2.2.2.2.2.2.2.2.2.2.2.2.2.2.2.2.2.2.2.2.2.2.2.2.2.2.2.2.2.2.2.2.2.2.2.2.2.2.2.2.2.2.1 l74.2.2.2.2.2.2.2.2.2.2.2.2.2.2.2.2.2.2.2.2.2.2.2.2.2.2.2.2.2.2.2.2.2.2.2.2.2.2.2.2.2.2.2.2.2.2.2.2.2.2.2.2.2.2.2.2.2.2.2.2.2.2.2.2.2.2.2.2.1) l74.2.2.2.2.2.2.2.2.2.2.2.2.2.2.2.2.2.2.2.2.2.2.2.2.2.2.2.2.2.2.2.2.2.2.2.2.2.2.2.2.2.2.2.2.2.2.2.2.2.2.2.2.2.2.2.2.2.2.2.2.2.2.2.2.2.2.2.2.2.1 l74.2.2.2.2.2.2.2.2.2.2.2.2.2.2.2.2.2.2.2.2.2.2.2.2.2.2.2.2.2.2.2.2.2.2.2.2.2.2.2.2.2.2.2.2.2.2.2.2.2.2.2.2.2.2.2.2.2.2.2.2.2.2.2.2.2.2.2.2.2.2.1 l74.2.2.2.2.2.2.2.2.2.2.2.2.2.2.2.2.2.2.2.2.2.2.2.2.2.2.2.2.2.2.2.2.2.2.2.2.2.2.2.2.2.2.2.2.2.2.2.2.2.2.2.2.2.2.2.2.2.2.2.2.2.2.2.2.2.2.2.2.2.2.2.1 l74.2.2.2.2.2.2.2.2.2.2.2.2.2.2.2.2.2.2.2.2.2.2.2.2.2.2.2.2.2.2.2.2.2.2.2.2.2.2.2.2.2.2.2.2.2.2.2.2.2.2.2.2.2.2.2.2.2.2.2.2.2.2.2.2.2.2.2.2.2.2.2.2.1 l74.2.2.2.2.2.2.2.2.2.2.2.2.2.2.2.2.2.2.2.2.2.2.2.2.2.2.2.2.2.2.2.2.2.2.2.2.2.2.2.2.2.2.2.2.2.2.2.2.2.2.2.2.2.2.2.2.2.2.2.2.2.2.2.2.2.2.2.2.2.2.2.2.2.1, (0 : Int)))))))
noncomputable def zu0 (q : Option Nat) (x0 : Int) (x1 : Int) (x2 : Int) : Option (Machine × Int) := (z105 q x0 x1 x2).run
theorem z1vp (k : Nat) (x0 : Int) (x1 : Int) (x2 : Int) : Le (zu0 (some k) x0 x1 x2) (zu0 none x0 x1 x2) := (TLe.opt Le.rfl fun _ => (TLe.ite TLe.rfl (TLe.ite TLe.rfl (TLe.ite TLe.rfl (TLe.opt (z1vn k _) fun _ => (TLe.ite TLe.rfl (TLe.opt Le.rfl fun _ => (TLe.opt Le.rfl fun _ => (TLe.opt (z1vo k _) fun _ => (TLe.opt (z1jt k _) fun _ => TLe.rfl))))))))))
noncomputable def z1fx : Arg U (Int × Int × Int × Unit) := aO (cInt .i64) (aO (cInt .i64) (aO (cInt .i64) (aNil)))
noncomputable def z1gt (r : (Machine × Int)) : zR := ([vA zj r.1, vO (cInt .i64) r.2], [])
noncomputable def z1he : zS := zf z1fx bNil (fun x _ => zu0 none x.1 x.2.1 x.2.2.1) z1gt
abbrev zta1 : Type := (List Int) × (List Int) × Int × Int × (List Int) × Bool × (List Page) × Int × Int × Bool × Bool × Int × Int × (List (List UInt8)) × (List Int) × Bool × Bool × Bool × Int × Int × Int × Int × Int × (List (List UInt8)) × Int × Bool × Bool × Bool × Bool × Bool × Int × Int × Int × Int × Int × Bool × Bool × Int × Bool × Unit
abbrev zta2 : Type := (List Int) × (List Int) × Int × Int × Bool × (List Page) × Int × Int × Bool × Bool × Int × Int × Bool × Bool × Bool × Int × Int × Int × Int × Int × Int × Bool × Bool × Bool × Bool × Bool × Int × Int × Int × Int × Int × Bool × Bool × Int × Bool × Unit
noncomputable def z169 (x : (Int × Unit) × (Unit) × (Unit) × (Int × Unit) × Unit) (g : zta2 × zta1 × (List Int) × (List Int) × (List Line) × (List (List UInt8)) × (List Int) × (List (List UInt8)) × (List Int) × (List Line) × Unit) : z5i := z5i.mk x.1.1 x.2.2.2.1.1 g.1.1 g.1.2.1 g.1.2.2.1 g.1.2.2.2.1 g.1.2.2.2.2.1 g.1.2.2.2.2.2.1 g.1.2.2.2.2.2.2.1 g.1.2.2.2.2.2.2.2.1 g.1.2.2.2.2.2.2.2.2.1 g.1.2.2.2.2.2.2.2.2.2.1 g.1.2.2.2.2.2.2.2.2.2.2.1 g.1.2.2.2.2.2.2.2.2.2.2.2.1 g.1.2.2.2.2.2.2.2.2.2.2.2.2.1 g.1.2.2.2.2.2.2.2.2.2.2.2.2.2.1 g.1.2.2.2.2.2.2.2.2.2.2.2.2.2.2.1 g.1.2.2.2.2.2.2.2.2.2.2.2.2.2.2.2.1 g.1.2.2.2.2.2.2.2.2.2.2.2.2.2.2.2.2.1 g.1.2.2.2.2.2.2.2.2.2.2.2.2.2.2.2.2.2.1 g.1.2.2.2.2.2.2.2.2.2.2.2.2.2.2.2.2.2.2.1 g.1.2.2.2.2.2.2.2.2.2.2.2.2.2.2.2.2.2.2.2.1 g.1.2.2.2.2.2.2.2.2.2.2.2.2.2.2.2.2.2.2.2.2.1 g.1.2.2.2.2.2.2.2.2.2.2.2.2.2.2.2.2.2.2.2.2.2.1 g.1.2.2.2.2.2.2.2.2.2.2.2.2.2.2.2.2.2.2.2.2.2.2.1 g.1.2.2.2.2.2.2.2.2.2.2.2.2.2.2.2.2.2.2.2.2.2.2.2.1 g.1.2.2.2.2.2.2.2.2.2.2.2.2.2.2.2.2.2.2.2.2.2.2.2.2.1 g.1.2.2.2.2.2.2.2.2.2.2.2.2.2.2.2.2.2.2.2.2.2.2.2.2.2.1 g.1.2.2.2.2.2.2.2.2.2.2.2.2.2.2.2.2.2.2.2.2.2.2.2.2.2.2.1 g.1.2.2.2.2.2.2.2.2.2.2.2.2.2.2.2.2.2.2.2.2.2.2.2.2.2.2.2.1 g.1.2.2.2.2.2.2.2.2.2.2.2.2.2.2.2.2.2.2.2.2.2.2.2.2.2.2.2.2.1 g.1.2.2.2.2.2.2.2.2.2.2.2.2.2.2.2.2.2.2.2.2.2.2.2.2.2.2.2.2.2.1 g.1.2.2.2.2.2.2.2.2.2.2.2.2.2.2.2.2.2.2.2.2.2.2.2.2.2.2.2.2.2.2.1 g.1.2.2.2.2.2.2.2.2.2.2.2.2.2.2.2.2.2.2.2.2.2.2.2.2.2.2.2.2.2.2.2.1 g.1.2.2.2.2.2.2.2.2.2.2.2.2.2.2.2.2.2.2.2.2.2.2.2.2.2.2.2.2.2.2.2.2.1 g.1.2.2.2.2.2.2.2.2.2.2.2.2.2.2.2.2.2.2.2.2.2.2.2.2.2.2.2.2.2.2.2.2.2.1 g.1.2.2.2.2.2.2.2.2.2.2.2.2.2.2.2.2.2.2.2.2.2.2.2.2.2.2.2.2.2.2.2.2.2.2.1 g.2.1.1 g.2.1.2.1 g.2.1.2.2.1 g.2.1.2.2.2.1 g.2.1.2.2.2.2.1 g.2.1.2.2.2.2.2.1 g.2.1.2.2.2.2.2.2.1 g.2.1.2.2.2.2.2.2.2.1 g.2.1.2.2.2.2.2.2.2.2.1 g.2.1.2.2.2.2.2.2.2.2.2.1 g.2.1.2.2.2.2.2.2.2.2.2.2.1 g.2.1.2.2.2.2.2.2.2.2.2.2.2.1 g.2.1.2.2.2.2.2.2.2.2.2.2.2.2.1 g.2.1.2.2.2.2.2.2.2.2.2.2.2.2.2.1 g.2.1.2.2.2.2.2.2.2.2.2.2.2.2.2.2.1 g.2.1.2.2.2.2.2.2.2.2.2.2.2.2.2.2.2.1 g.2.1.2.2.2.2.2.2.2.2.2.2.2.2.2.2.2.2.1 g.2.1.2.2.2.2.2.2.2.2.2.2.2.2.2.2.2.2.2.1 g.2.1.2.2.2.2.2.2.2.2.2.2.2.2.2.2.2.2.2.2.1 g.2.1.2.2.2.2.2.2.2.2.2.2.2.2.2.2.2.2.2.2.2.1 g.2.1.2.2.2.2.2.2.2.2.2.2.2.2.2.2.2.2.2.2.2.2.1 g.2.1.2.2.2.2.2.2.2.2.2.2.2.2.2.2.2.2.2.2.2.2.2.1 g.2.1.2.2.2.2.2.2.2.2.2.2.2.2.2.2.2.2.2.2.2.2.2.2.1 g.2.1.2.2.2.2.2.2.2.2.2.2.2.2.2.2.2.2.2.2.2.2.2.2.2.1 g.2.1.2.2.2.2.2.2.2.2.2.2.2.2.2.2.2.2.2.2.2.2.2.2.2.2.1 g.2.1.2.2.2.2.2.2.2.2.2.2.2.2.2.2.2.2.2.2.2.2.2.2.2.2.2.1 g.2.1.2.2.2.2.2.2.2.2.2.2.2.2.2.2.2.2.2.2.2.2.2.2.2.2.2.2.1 g.2.1.2.2.2.2.2.2.2.2.2.2.2.2.2.2.2.2.2.2.2.2.2.2.2.2.2.2.2.1 g.2.1.2.2.2.2.2.2.2.2.2.2.2.2.2.2.2.2.2.2.2.2.2.2.2.2.2.2.2.2.1 g.2.1.2.2.2.2.2.2.2.2.2.2.2.2.2.2.2.2.2.2.2.2.2.2.2.2.2.2.2.2.2.1 g.2.1.2.2.2.2.2.2.2.2.2.2.2.2.2.2.2.2.2.2.2.2.2.2.2.2.2.2.2.2.2.2.1 g.2.1.2.2.2.2.2.2.2.2.2.2.2.2.2.2.2.2.2.2.2.2.2.2.2.2.2.2.2.2.2.2.2.1 g.2.1.2.2.2.2.2.2.2.2.2.2.2.2.2.2.2.2.2.2.2.2.2.2.2.2.2.2.2.2.2.2.2.2.1 g.2.1.2.2.2.2.2.2.2.2.2.2.2.2.2.2.2.2.2.2.2.2.2.2.2.2.2.2.2.2.2.2.2.2.2.1 g.2.1.2.2.2.2.2.2.2.2.2.2.2.2.2.2.2.2.2.2.2.2.2.2.2.2.2.2.2.2.2.2.2.2.2.2.1 g.2.1.2.2.2.2.2.2.2.2.2.2.2.2.2.2.2.2.2.2.2.2.2.2.2.2.2.2.2.2.2.2.2.2.2.2.2.1 g.2.1.2.2.2.2.2.2.2.2.2.2.2.2.2.2.2.2.2.2.2.2.2.2.2.2.2.2.2.2.2.2.2.2.2.2.2.2.1 g.2.1.2.2.2.2.2.2.2.2.2.2.2.2.2.2.2.2.2.2.2.2.2.2.2.2.2.2.2.2.2.2.2.2.2.2.2.2.2.1 g.2.1.2.2.2.2.2.2.2.2.2.2.2.2.2.2.2.2.2.2.2.2.2.2.2.2.2.2.2.2.2.2.2.2.2.2.2.2.2.2.1 g.2.2.1 g.2.2.2.1 g.2.2.2.2.1 g.2.2.2.2.2.1 g.2.2.2.2.2.2.1 g.2.2.2.2.2.2.2.1 g.2.2.2.2.2.2.2.2.1 g.2.2.2.2.2.2.2.2.2.1
noncomputable def z13v : Tms U ((Int × Unit) × (Unit) × (Unit) × (Int × Unit) × Unit) := tO 1 (z0 (cInt .i64) (z1)) (tO 6 (cK (.ptr 0 0) (z1)) (tO 11 (cK (.ptr 1 0) (z1)) (tO 12 (z0 (cInt .i64) (z1)) (tNil))))
noncomputable def z142 : Bls U (zta2 × zta1 × (List Int) × (List Int) × (List Line) × (List (List UInt8)) × (List Int) × (List (List UInt8)) × (List Int) × (List Line) × Unit) := bC (z0 (cArr 3 6) (z0 (cArr 3 2) (z0 (cInt .i64) (z0 (cInt .i64) (cK (.row 2 0) (cK (.row 3 0) (z0 z8 (z0 (cArr 28 16) (z0 (cInt .i64) (z0 (cInt .i64) (z0 z8 (z0 z8 (z0 (cInt .i64) (z0 (cInt .i64) (cK (.row 4 0) (cK (.row 5 0) (cK (.row 6 0) (z0 z8 (z0 z8 (z0 z8 (z0 (cInt .i64) (z0 (cInt .i64) (z0 (cInt .i64) (z0 (cInt .i64) (z0 (cInt .i64) (cK (.row 7 0) (z0 (cInt .i64) (z0 z8 (z0 z8 (z0 z8 (z0 z8 (z0 z8 (z0 (cInt .i64) (z0 (cInt .i64) (z0 (cInt .i64) (z0 (cInt .i64) (z0 (cInt .i64) (z0 z8 (z0 z8 (z0 (cInt .i64) (z0 z8 (z1)))))))))))))))))))))))))))))))))))))))))) (bC (z0 (cArr 3 6) (z0 (cArr 3 2) (z0 (cInt .i64) (z0 (cInt .i64) (z0 (cSl 3) (cK (.row 8 0) (z0 z8 (z0 (cArr 28 16) (z0 (cInt .i64) (z0 (cInt .i64) (z0 z8 (z0 z8 (z0 (cInt .i64) (z0 (cInt .i64) (cK (.row 9 0) (z0 (cSl 9) (z0 (cSl 3) (z0 z8 (z0 z8 (z0 z8 (z0 (cInt .i64) (z0 (cInt .i64) (z0 (cInt .i64) (z0 (cInt .i64) (z0 (cInt .i64) (z0 (cSl 9) (z0 (cInt .i64) (z0 z8 (z0 z8 (z0 z8 (z0 z8 (z0 z8 (z0 (cInt .i64) (z0 (cInt .i64) (z0 (cInt .i64) (z0 (cInt .i64) (z0 (cInt .i64) (z0 z8 (z0 z8 (z0 (cInt .i64) (z0 z8 (z1)))))))))))))))))))))))))))))))))))))))))) (bRv 3 0 (bRv 3 0 (bRv 55 0 (bRv 9 0 (bRv 3 0 (bRv 9 0 (bRv 3 0 (bRv 55 0 (bNil))))))))))
noncomputable def zo2 (s : z5i) : St U := { tm := [(1, .v (vO (z0 (cInt .i64) (z1)) (s.t1, ()))), (6, .v (vO (cK (.ptr 0 0) (z1)) (()))), (11, .v (vO (cK (.ptr 1 0) (z1)) (()))), (12, .v (vO (z0 (cInt .i64) (z1)) (s.t12, ())))], hp := [.cells ((z0 (cArr 3 6) (z0 (cArr 3 2) (z0 (cInt .i64) (z0 (cInt .i64) (cK (.row 2 0) (cK (.row 3 0) (z0 z8 (z0 (cArr 28 16) (z0 (cInt .i64) (z0 (cInt .i64) (z0 z8 (z0 z8 (z0 (cInt .i64) (z0 (cInt .i64) (cK (.row 4 0) (cK (.row 5 0) (cK (.row 6 0) (z0 z8 (z0 z8 (z0 z8 (z0 (cInt .i64) (z0 (cInt .i64) (z0 (cInt .i64) (z0 (cInt .i64) (z0 (cInt .i64) (cK (.row 7 0) (z0 (cInt .i64) (z0 z8 (z0 z8 (z0 z8 (z0 z8 (z0 z8 (z0 (cInt .i64) (z0 (cInt .i64) (z0 (cInt .i64) (z0 (cInt .i64) (z0 (cInt .i64) (z0 z8 (z0 z8 (z0 (cInt .i64) (z0 z8 (z1))))))))))))))))))))))))))))))))))))))))) : Cdc U zta2).enc (s.b0_0, s.b0_1, s.b0_2, s.b0_3, s.b0_6, s.b0_7, s.b0_8, s.b0_9, s.b0_10, s.b0_11, s.b0_12, s.b0_13, s.b0_17, s.b0_18, s.b0_19, s.b0_20, s.b0_21, s.b0_22, s.b0_23, s.b0_24, s.b0_26, s.b0_27, s.b0_28, s.b0_29, s.b0_30, s.b0_31, s.b0_32, s.b0_33, s.b0_34, s.b0_35, s.b0_36, s.b0_37, s.b0_38, s.b0_39, s.b0_40, ())) none, .cells ((z0 (cArr 3 6) (z0 (cArr 3 2) (z0 (cInt .i64) (z0 (cInt .i64) (z0 (cSl 3) (cK (.row 8 0) (z0 z8 (z0 (cArr 28 16) (z0 (cInt .i64) (z0 (cInt .i64) (z0 z8 (z0 z8 (z0 (cInt .i64) (z0 (cInt .i64) (cK (.row 9 0) (z0 (cSl 9) (z0 (cSl 3) (z0 z8 (z0 z8 (z0 z8 (z0 (cInt .i64) (z0 (cInt .i64) (z0 (cInt .i64) (z0 (cInt .i64) (z0 (cInt .i64) (z0 (cSl 9) (z0 (cInt .i64) (z0 z8 (z0 z8 (z0 z8 (z0 z8 (z0 z8 (z0 (cInt .i64) (z0 (cInt .i64) (z0 (cInt .i64) (z0 (cInt .i64) (z0 (cInt .i64) (z0 z8 (z0 z8 (z0 (cInt .i64) (z0 z8 (z1))))))))))))))))))))))))))))))))))))))))) : Cdc U zta1).enc (s.b1_0, s.b1_1, s.b1_2, s.b1_3, s.b1_4, s.b1_6, s.b1_7, s.b1_8, s.b1_9, s.b1_10, s.b1_11, s.b1_12, s.b1_13, s.b1_15, s.b1_16, s.b1_17, s.b1_18, s.b1_19, s.b1_20, s.b1_21, s.b1_22, s.b1_23, s.b1_24, s.b1_25, s.b1_26, s.b1_27, s.b1_28, s.b1_29, s.b1_30, s.b1_31, s.b1_32, s.b1_33, s.b1_34, s.b1_35, s.b1_36, s.b1_37, s.b1_38, s.b1_39, s.b1_40, ())) none, .row 3 0 s.b2, .row 3 0 s.b3, .row 55 0 s.b4, .row 9 0 s.b5, .row 3 0 s.b6, .row 9 0 s.b7, .row 3 0 s.b8, .row 55 0 s.b9] }
noncomputable def zoa (r : zta0) : Ex × St U := (.exit 0, { tm := [(6, .v (vO (cK (.ptr 0 0) (z1)) (()))), (11, .v (vO (cK (.ptr 1 0) (z1)) (())))], hp := [.cells ((z0 (cArr 3 6) (z0 (cArr 3 2) (z0 (cInt .i64) (z0 (cInt .i64) (cK (.row 2 0) (cK (.row 3 0) (z0 z8 (z0 (cArr 28 16) (z0 (cInt .i64) (z0 (cInt .i64) (z0 z8 (z0 z8 (z0 (cInt .i64) (z0 (cInt .i64) (cK (.row 4 0) (cK (.row 5 0) (cK (.row 6 0) (z0 z8 (z0 z8 (z0 z8 (z0 (cInt .i64) (z0 (cInt .i64) (z0 (cInt .i64) (z0 (cInt .i64) (z0 (cInt .i64) (cK (.row 7 0) (z0 (cInt .i64) (z0 z8 (z0 z8 (z0 z8 (z0 z8 (z0 z8 (z0 (cInt .i64) (z0 (cInt .i64) (z0 (cInt .i64) (z0 (cInt .i64) (z0 (cInt .i64) (z0 z8 (z0 z8 (z0 (cInt .i64) (z0 z8 (z1))))))))))))))))))))))))))))))))))))))))) : Cdc U zta2).enc (r.1, r.2.1, r.2.2.1, r.2.2.2.1, r.2.2.2.2.1, r.2.2.2.2.2.1, r.2.2.2.2.2.2.1, r.2.2.2.2.2.2.2.1, r.2.2.2.2.2.2.2.2.1, r.2.2.2.2.2.2.2.2.2.1, r.2.2.2.2.2.2.2.2.2.2.1, r.2.2.2.2.2.2.2.2.2.2.2.1, r.2.2.2.2.2.2.2.2.2.2.2.2.1, r.2.2.2.2.2.2.2.2.2.2.2.2.2.1, r.2.2.2.2.2.2.2.2.2.2.2.2.2.2.1, r.2.2.2.2.2.2.2.2.2.2.2.2.2.2.2.1, r.2.2.2.2.2.2.2.2.2.2.2.2.2.2.2.2.1, r.2.2.2.2.2.2.2.2.2.2.2.2.2.2.2.2.2.1, r.2.2.2.2.2.2.2.2.2.2.2.2.2.2.2.2.2.2.1, r.2.2.2.2.2.2.2.2.2.2.2.2.2.2.2.2.2.2.2.1, r.2.2.2.2.2.2.2.2.2.2.2.2.2.2.2.2.2.2.2.2.1, r.2.2.2.2.2.2.2.2.2.2.2.2.2.2.2.2.2.2.2.2.2.1, r.2.2.2.2.2.2.2.2.2.2.2.2.2.2.2.2.2.2.2.2.2.2.1, r.2.2.2.2.2.2.2.2.2.2.2.2.2.2.2.2.2.2.2.2.2.2.2.1, r.2.2.2.2.2.2.2.2.2.2.2.2.2.2.2.2.2.2.2.2.2.2.2.2.1, r.2.2.2.2.2.2.2.2.2.2.2.2.2.2.2.2.2.2.2.2.2.2.2.2.2.1, r.2.2.2.2.2.2.2.2.2.2.2.2.2.2.2.2.2.2.2.2.2.2.2.2.2.2.1, r.2.2.2.2.2.2.2.2.2.2.2.2.2.2.2.2.2.2.2.2.2.2.2.2.2.2.2.1, r.2.2.2.2.2.2.2.2.2.2.2.2.2.2.2.2.2.2.2.2.2.2.2.2.2.2.2.2.1, r.2.2.2.2.2.2.2.2.2.2.2.2.2.2.2.2.2.2.2.2.2.2.2.2.2.2.2.2.2.1, r.2.2.2.2.2.2.2.2.2.2.2.2.2.2.2.2.2.2.2.2.2.2.2.2.2.2.2.2.2.2.1, r.2.2.2.2.2.2.2.2.2.2.2.2.2.2.2.2.2.2.2.2.2.2.2.2.2.2.2.2.2.2.2.1, r.2.2.2.2.2.2.2.2.2.2.2.2.2.2.2.2.2.2.2.2.2.2.2.2.2.2.2.2.2.2.2.2.1, r.2.2.2.2.2.2.2.2.2.2.2.2.2.2.2.2.2.2.2.2.2.2.2.2.2.2.2.2.2.2.2.2.2.1, r.2.2.2.2.2.2.2.2.2.2.2.2.2.2.2.2.2.2.2.2.2.2.2.2.2.2.2.2.2.2.2.2.2.2.1, ())) none, .cells ((z0 (cArr 3 6) (z0 (cArr 3 2) (z0 (cInt .i64) (z0 (cInt .i64) (z0 (cSl 3) (cK (.row 8 0) (z0 z8 (z0 (cArr 28 16) (z0 (cInt .i64) (z0 (cInt .i64) (z0 z8 (z0 z8 (z0 (cInt .i64) (z0 (cInt .i64) (cK (.row 9 0) (z0 (cSl 9) (z0 (cSl 3) (z0 z8 (z0 z8 (z0 z8 (z0 (cInt .i64) (z0 (cInt .i64) (z0 (cInt .i64) (z0 (cInt .i64) (z0 (cInt .i64) (z0 (cSl 9) (z0 (cInt .i64) (z0 z8 (z0 z8 (z0 z8 (z0 z8 (z0 z8 (z0 (cInt .i64) (z0 (cInt .i64) (z0 (cInt .i64) (z0 (cInt .i64) (z0 (cInt .i64) (z0 z8 (z0 z8 (z0 (cInt .i64) (z0 z8 (z1))))))))))))))))))))))))))))))))))))))))) : Cdc U zta1).enc (r.2.2.2.2.2.2.2.2.2.2.2.2.2.2.2.2.2.2.2.2.2.2.2.2.2.2.2.2.2.2.2.2.2.2.2.1, r.2.2.2.2.2.2.2.2.2.2.2.2.2.2.2.2.2.2.2.2.2.2.2.2.2.2.2.2.2.2.2.2.2.2.2.2.1, r.2.2.2.2.2.2.2.2.2.2.2.2.2.2.2.2.2.2.2.2.2.2.2.2.2.2.2.2.2.2.2.2.2.2.2.2.2.1, r.2.2.2.2.2.2.2.2.2.2.2.2.2.2.2.2.2.2.2.2.2.2.2.2.2.2.2.2.2.2.2.2.2.2.2.2.2.2.1, r.2.2.2.2.2.2.2.2.2.2.2.2.2.2.2.2.2.2.2.2.2.2.2.2.2.2.2.2.2.2.2.2.2.2.2.2.2.2.2.1, r.2.2.2.2.2.2.2.2.2.2.2.2.2.2.2.2.2.2.2.2.2.2.2.2.2.2.2.2.2.2.2.2.2.2.2.2.2.2.2.2.1, r.2.2.2.2.2.2.2.2.2.2.2.2.2.2.2.2.2.2.2.2.2.2.2.2.2.2.2.2.2.2.2.2.2.2.2.2.2.2.2.2.2.1, r.2.2.2.2.2.2.2.2.2.2.2.2.2.2.2.2.2.2.2.2.2.2.2.2.2.2.2.2.2.2.2.2.2.2.2.2.2.2.2.2.2.2.1, r.2.2.2.2.2.2.2.2.2.2.2.2.2.2.2.2.2.2.2.2.2.2.2.2.2.2.2.2.2.2.2.2.2.2.2.2.2.2.2.2.2.2.2.1, r.2.2.2.2.2.2.2.2.2.2.2.2.2.2.2.2.2.2.2.2.2.2.2.2.2.2.2.2.2.2.2.2.2.2.2.2.2.2.2.2.2.2.2.2.1, r.2.2.2.2.2.2.2.2.2.2.2.2.2.2.2.2.2.2.2.2.2.2.2.2.2.2.2.2.2.2.2.2.2.2.2.2.2.2.2.2.2.2.2.2.2.1, r.2.2.2.2.2.2.2.2.2.2.2.2.2.2.2.2.2.2.2.2.2.2.2.2.2.2.2.2.2.2.2.2.2.2.2.2.2.2.2.2.2.2.2.2.2.2.1, r.2.2.2.2.2.2.2.2.2.2.2.2.2.2.2.2.2.2.2.2.2.2.2.2.2.2.2.2.2.2.2.2.2.2.2.2.2.2.2.2.2.2.2.2.2.2.2.1, r.2.2.2.2.2.2.2.2.2.2.2.2.2.2.2.2.2.2.2.2.2.2.2.2.2.2.2.2.2.2.2.2.2.2.2.2.2.2.2.2.2.2.2.2.2.2.2.2.1, r.2.2.2.2.2.2.2.2.2.2.2.2.2.2.2.2.2.2.2.2.2.2.2.2.2.2.2.2.2.2.2.2.2.2.2.2.2.2.2.2.2.2.2.2.2.2.2.2.2.1, r.2.2.2.2.2.2.2.2.2.2.2.2.2.2.2.2.2.2.2.2.2.2.2.2.2.2.2.2.2.2.2.2.2.2.2.2.2.2.2.2.2.2.2.2.2.2.2.2.2.2.1, r.2.2.2.2.2.2.2.2.2.2.2.2.2.2.2.2.2.2.2.2.2.2.2.2.2.2.2.2.2.2.2.2.2.2.2.2.2.2.2.2.2.2.2.2.2.2.2.2.2.2.2.1, r.2.2.2.2.2.2.2.2.2.2.2.2.2.2.2.2.2.2.2.2.2.2.2.2.2.2.2.2.2.2.2.2.2.2.2.2.2.2.2.2.2.2.2.2.2.2.2.2.2.2.2.2.1, r.2.2.2.2.2.2.2.2.2.2.2.2.2.2.2.2.2.2.2.2.2.2.2.2.2.2.2.2.2.2.2.2.2.2.2.2.2.2.2.2.2.2.2.2.2.2.2.2.2.2.2.2.2.1, r.2.2.2.2.2.2.2.2.2.2.2.2.2.2.2.2.2.2.2.2.2.2.2.2.2.2.2.2.2.2.2.2.2.2.2.2.2.2.2.2.2.2.2.2.2.2.2.2.2.2.2.2.2.2.1, r.2.2.2.2.2.2.2.2.2.2.2.2.2.2.2.2.2.2.2.2.2.2.2.2.2.2.2.2.2.2.2.2.2.2.2.2.2.2.2.2.2.2.2.2.2.2.2.2.2.2.2.2.2.2.2.1, r.2.2.2.2.2.2.2.2.2.2.2.2.2.2.2.2.2.2.2.2.2.2.2.2.2.2.2.2.2.2.2.2.2.2.2.2.2.2.2.2.2.2.2.2.2.2.2.2.2.2.2.2.2.2.2.2.1, r.2.2.2.2.2.2.2.2.2.2.2.2.2.2.2.2.2.2.2.2.2.2.2.2.2.2.2.2.2.2.2.2.2.2.2.2.2.2.2.2.2.2.2.2.2.2.2.2.2.2.2.2.2.2.2.2.2.1, r.2.2.2.2.2.2.2.2.2.2.2.2.2.2.2.2.2.2.2.2.2.2.2.2.2.2.2.2.2.2.2.2.2.2.2.2.2.2.2.2.2.2.2.2.2.2.2.2.2.2.2.2.2.2.2.2.2.2.1, r.2.2.2.2.2.2.2.2.2.2.2.2.2.2.2.2.2.2.2.2.2.2.2.2.2.2.2.2.2.2.2.2.2.2.2.2.2.2.2.2.2.2.2.2.2.2.2.2.2.2.2.2.2.2.2.2.2.2.2.1, r.2.2.2.2.2.2.2.2.2.2.2.2.2.2.2.2.2.2.2.2.2.2.2.2.2.2.2.2.2.2.2.2.2.2.2.2.2.2.2.2.2.2.2.2.2.2.2.2.2.2.2.2.2.2.2.2.2.2.2.2.1, r.2.2.2.2.2.2.2.2.2.2.2.2.2.2.2.2.2.2.2.2.2.2.2.2.2.2.2.2.2.2.2.2.2.2.2.2.2.2.2.2.2.2.2.2.2.2.2.2.2.2.2.2.2.2.2.2.2.2.2.2.2.1, r.2.2.2.2.2.2.2.2.2.2.2.2.2.2.2.2.2.2.2.2.2.2.2.2.2.2.2.2.2.2.2.2.2.2.2.2.2.2.2.2.2.2.2.2.2.2.2.2.2.2.2.2.2.2.2.2.2.2.2.2.2.2.1, r.2.2.2.2.2.2.2.2.2.2.2.2.2.2.2.2.2.2.2.2.2.2.2.2.2.2.2.2.2.2.2.2.2.2.2.2.2.2.2.2.2.2.2.2.2.2.2.2.2.2.2.2.2.2.2.2.2.2.2.2.2.2.2.1, r.2.2.2.2.2.2.2.2.2.2.2.2.2.2.2.2.2.2.2.2.2.2.2.2.2.2.2.2.2.2.2.2.2.2.2.2.2.2.2.2.2.2.2.2.2.2.2.2.2.2.2.2.2.2.2.2.2.2.2.2.2.2.2.2.1, r.2.2.2.2.2.2.2.2.2.2.2.2.2.2.2.2.2.2.2.2.2.2.2.2.2.2.2.2.2.2.2.2.2.2.2.2.2.2.2.2.2.2.2.2.2.2.2.2.2.2.2.2.2.2.2.2.2.2.2.2.2.2.2.2.2.1, r.2.2.2.2.2.2.2.2.2.2.2.2.2.2.2.2.2.2.2.2.2.2.2.2.2.2.2.2.2.2.2.2.2.2.2.2.2.2.2.2.2.2.2.2.2.2.2.2.2.2.2.2.2.2.2.2.2.2.2.2.2.2.2.2.2.2.1, r.2.2.2.2.2.2.2.2.2.2.2.2.2.2.2.2.2.2.2.2.2.2.2.2.2.2.2.2.2.2.2.2.2.2.2.2.2.2.2.2.2.2.2.2.2.2.2.2.2.2.2.2.2.2.2.2.2.2.2.2.2.2.2.2.2.2.2.1, r.2.2.2.2.2.2.2.2.2.2.2.2.2.2.2.2.2.2.2.2.2.2.2.2.2.2.2.2.2.2.2.2.2.2.2.2.2.2.2.2.2.2.2.2.2.2.2.2.2.2.2.2.2.2.2.2.2.2.2.2.2.2.2.2.2.2.2.2.1, r.2.2.2.2.2.2.2.2.2.2.2.2.2.2.2.2.2.2.2.2.2.2.2.2.2.2.2.2.2.2.2.2.2.2.2.2.2.2.2.2.2.2.2.2.2.2.2.2.2.2.2.2.2.2.2.2.2.2.2.2.2.2.2.2.2.2.2.2.2.1, r.2.2.2.2.2.2.2.2.2.2.2.2.2.2.2.2.2.2.2.2.2.2.2.2.2.2.2.2.2.2.2.2.2.2.2.2.2.2.2.2.2.2.2.2.2.2.2.2.2.2.2.2.2.2.2.2.2.2.2.2.2.2.2.2.2.2.2.2.2.2.1, r.2.2.2.2.2.2.2.2.2.2.2.2.2.2.2.2.2.2.2.2.2.2.2.2.2.2.2.2.2.2.2.2.2.2.2.2.2.2.2.2.2.2.2.2.2.2.2.2.2.2.2.2.2.2.2.2.2.2.2.2.2.2.2.2.2.2.2.2.2.2.2.1, r.2.2.2.2.2.2.2.2.2.2.2.2.2.2.2.2.2.2.2.2.2.2.2.2.2.2.2.2.2.2.2.2.2.2.2.2.2.2.2.2.2.2.2.2.2.2.2.2.2.2.2.2.2.2.2.2.2.2.2.2.2.2.2.2.2.2.2.2.2.2.2.2.1, r.2.2.2.2.2.2.2.2.2.2.2.2.2.2.2.2.2.2.2.2.2.2.2.2.2.2.2.2.2.2.2.2.2.2.2.2.2.2.2.2.2.2.2.2.2.2.2.2.2.2.2.2.2.2.2.2.2.2.2.2.2.2.2.2.2.2.2.2.2.2.2.2.2.1, ())) none, .row 3 0 r.2.2.2.2.2.2.2.2.2.2.2.2.2.2.2.2.2.2.2.2.2.2.2.2.2.2.2.2.2.2.2.2.2.2.2.2.2.2.2.2.2.2.2.2.2.2.2.2.2.2.2.2.2.2.2.2.2.2.2.2.2.2.2.2.2.2.2.2.2.2.2.2.2.2.1, .row 3 0 r.2.2.2.2.2.2.2.2.2.2.2.2.2.2.2.2.2.2.2.2.2.2.2.2.2.2.2.2.2.2.2.2.2.2.2.2.2.2.2.2.2.2.2.2.2.2.2.2.2.2.2.2.2.2.2.2.2.2.2.2.2.2.2.2.2.2.2.2.2.2.2.2.2.2.2.1, .row 55 0 r.2.2.2.2.2.2.2.2.2.2.2.2.2.2.2.2.2.2.2.2.2.2.2.2.2.2.2.2.2.2.2.2.2.2.2.2.2.2.2.2.2.2.2.2.2.2.2.2.2.2.2.2.2.2.2.2.2.2.2.2.2.2.2.2.2.2.2.2.2.2.2.2.2.2.2.2.1, .row 9 0 r.2.2.2.2.2.2.2.2.2.2.2.2.2.2.2.2.2.2.2.2.2.2.2.2.2.2.2.2.2.2.2.2.2.2.2.2.2.2.2.2.2.2.2.2.2.2.2.2.2.2.2.2.2.2.2.2.2.2.2.2.2.2.2.2.2.2.2.2.2.2.2.2.2.2.2.2.2.1, .row 3 0 r.2.2.2.2.2.2.2.2.2.2.2.2.2.2.2.2.2.2.2.2.2.2.2.2.2.2.2.2.2.2.2.2.2.2.2.2.2.2.2.2.2.2.2.2.2.2.2.2.2.2.2.2.2.2.2.2.2.2.2.2.2.2.2.2.2.2.2.2.2.2.2.2.2.2.2.2.2.2.1, .row 9 0 r.2.2.2.2.2.2.2.2.2.2.2.2.2.2.2.2.2.2.2.2.2.2.2.2.2.2.2.2.2.2.2.2.2.2.2.2.2.2.2.2.2.2.2.2.2.2.2.2.2.2.2.2.2.2.2.2.2.2.2.2.2.2.2.2.2.2.2.2.2.2.2.2.2.2.2.2.2.2.2.1, .row 3 0 r.2.2.2.2.2.2.2.2.2.2.2.2.2.2.2.2.2.2.2.2.2.2.2.2.2.2.2.2.2.2.2.2.2.2.2.2.2.2.2.2.2.2.2.2.2.2.2.2.2.2.2.2.2.2.2.2.2.2.2.2.2.2.2.2.2.2.2.2.2.2.2.2.2.2.2.2.2.2.2.2.1, .row 55 0 r.2.2.2.2.2.2.2.2.2.2.2.2.2.2.2.2.2.2.2.2.2.2.2.2.2.2.2.2.2.2.2.2.2.2.2.2.2.2.2.2.2.2.2.2.2.2.2.2.2.2.2.2.2.2.2.2.2.2.2.2.2.2.2.2.2.2.2.2.2.2.2.2.2.2.2.2.2.2.2.2.2] })
noncomputable def z14e (r : zta0) : Tree (Ex × St U) := .leaf (zoa r)
noncomputable def z18e : Hd := { keep := [1, 6, 11, 12], xkeep := [6, 7, 11], own := true }
noncomputable def zoz : Env U := zE fns63 (addL 0 z18e (z1f z13v z142 z169 (zda none) z14e) noL) 64 0
noncomputable def z15n : Code := (loopAt (Tryz.f25.body.getD .skip) 0 0).getD .skip
theorem z1ex (s : z5i) : round zoz z18e z15n 0 (zo2 s) = (zqp s).map (sumE zo2 zoa) := by kernel_rfl
theorem z1ow : LpOk zoz z15n 0 := zy (A := z13v) (B := z142) (f := z169) (L := zda none) (zb (z2 (z3 .i64) z6) (zb (z10 z6) (zb (z10 z6) (zb (z2 (z3 .i64) z6) z12)))) (z13 (z2 (z7g 3 6) (z2 (z7g 3 2) (z2 (z3 .i64) (z2 (z3 .i64) (z10 (z10 (z2 zn (z2 (z7g 28 16) (z2 (z3 .i64) (z2 (z3 .i64) (z2 zn (z2 zn (z2 (z3 .i64) (z2 (z3 .i64) (z10 (z10 (z10 (z2 zn (z2 zn (z2 zn (z2 (z3 .i64) (z2 (z3 .i64) (z2 (z3 .i64) (z2 (z3 .i64) (z2 (z3 .i64) (z10 (z2 (z3 .i64) (z2 zn (z2 zn (z2 zn (z2 zn (z2 zn (z2 (z3 .i64) (z2 (z3 .i64) (z2 (z3 .i64) (z2 (z3 .i64) (z2 (z3 .i64) (z2 zn (z2 zn (z2 (z3 .i64) (z2 zn z6))))))))))))))))))))))))))))))))))))))))) (z13 (z2 (z7g 3 6) (z2 (z7g 3 2) (z2 (z3 .i64) (z2 (z3 .i64) (z2 (zi 3) (z10 (z2 zn (z2 (z7g 28 16) (z2 (z3 .i64) (z2 (z3 .i64) (z2 zn (z2 zn (z2 (z3 .i64) (z2 (z3 .i64) (z10 (z2 (zi 9) (z2 (zi 3) (z2 zn (z2 zn (z2 zn (z2 (z3 .i64) (z2 (z3 .i64) (z2 (z3 .i64) (z2 (z3 .i64) (z2 (z3 .i64) (z2 (zi 9) (z2 (z3 .i64) (z2 zn (z2 zn (z2 zn (z2 zn (z2 zn (z2 (z3 .i64) (z2 (z3 .i64) (z2 (z3 .i64) (z2 (z3 .i64) (z2 (z3 .i64) (z2 zn (z2 zn (z2 (z3 .i64) (z2 zn z6))))))))))))))))))))))))))))))))))))))))) (z1m (z1m (z1m (z1m (z1m (z1m (z1m (z1m z7)))))))))) (enc := zo2) (out := z14e) (outS := zoa) (step := zqp) (fun _ => rfl) (fun _ _ => by kernel_rfl) (by kernel_rfl) (fun _ => rfl) z1ex
theorem z1uw (x : Int × Int × Int × Unit) (g : Unit) : zk zoz Tryz.f25 (z1fx.enc x) (bNil.enc g) = (z105 none x.1 x.2.1 x.2.2.1).map z1gt := by kernel_rfl
theorem z1w5 : FnOk Tryz.prog cd 25 z1he := zm (E := zoz) zg z1sc Tryz.func25 (by kernel_rfl) (z14 (z11 z1ow z1j)) (ze (z3 .i64) (ze (z3 .i64) (ze (z3 .i64) (zd)))) z7 (T := fun x _ => z105 none x.1 x.2.1 x.2.2.1) (fun _ _ => rfl) z1uw
noncomputable def fns25 := addF 25 true z1he fns63
theorem z1rp : zF fns25 := za z1w5 z1sc
noncomputable def zl1 (x0 : (List Int)) (x1 : Int) (x2 : Bool) : Tree Bool :=
 .ite (!x2)
 (.ite (decide ((2 : Int) = 0))
 .fail
 (.ite (!decide (((x1).tmod (2 : Int)) = (0 : Int)))
 (.leaf (true))
 (.ite (decide (x1 < (0 : Int)))
 (.leaf (true))
 (.leaf (decide ((IntKind.wrap .i64 ((2 : Int) * (x0.length : Int))) ≤ x1))))))
 (.ite (decide (x1 < (0 : Int)))
 (.leaf (true))
 (.leaf (decide ((IntKind.wrap .i64 ((2 : Int) * (x0.length : Int))) ≤ x1))))
noncomputable def zo5 (x0 : (List Int)) (x1 : Int) (x2 : Bool) : Option Bool := (zl1 x0 x1 x2).run
noncomputable def zwl : Arg U ((List Int) × Int × Bool × Unit) := aO (cSl 3) (aO (cInt .i64) (aO z8 (aNil)))
noncomputable def zy2 (r : Bool) : zR := ([vO z8 r], [])
noncomputable def zyc : zS := zf zwl bNil (fun x _ => zo5 x.1 x.2.1 x.2.2.1) zy2
noncomputable def zxd : Env U := zE fns25 noL 25 0
theorem z1f4 (x : (List Int) × Int × Bool × Unit) (g : Unit) : zk zxd Tryz.f98 (zwl.enc x) (bNil.enc g) = (zl1 x.1 x.2.1 x.2.2.1).map zy2 := by kernel_rfl
theorem z1ih : FnOk Tryz.prog cd 98 zyc := zm (E := zxd) zg z1rp Tryz.func98 (by kernel_rfl) (z9 (by kernel_rfl)) (ze (zi 3) (ze (z3 .i64) (ze zn (zd)))) z7 (T := fun x _ => zl1 x.1 x.2.1 x.2.2.1) (fun _ _ => rfl) z1f4
noncomputable def fns98 := addF 98 true zyc fns25
theorem zlb : zF fns98 := za z1ih z1rp
noncomputable def z8h (x0 : (List Int)) : Tree (List Int) :=
 .ite (decide ((x0.length : Int) = (x0.length : Int)))
 (.ite (decide (0 ≤ (x0.length : Int)))
 (.ite (decide ((8 : Int) * (x0.length : Int) ≤ 281474976710656))
 (.leaf (x0.take (List.replicate ((x0.length : Int)).toNat (0 : Int)).length ++ (List.replicate ((x0.length : Int)).toNat (0 : Int)).drop x0.length))
 .fail)
 .fail)
 .fail
noncomputable def z81 (x0 : (List Int)) : Option (List Int) := (z8h x0).run
noncomputable def ze0 : Arg U ((List Int) × Unit) := aO (cSl 3) (aNil)
noncomputable def ze7 : Bls U (Unit) := bNil
noncomputable def zkx (_x : (List Int) × Unit) (_g : Unit) (r : (List Int)) : zR := ([vO (cK (.row 0 0) (z1)) (())], [.row 3 0 r])
noncomputable def zkz : zS := mkSpecG ze0 ze7 (fun x _ => z81 x.1) zkx
noncomputable def zku : Env U := zE fns98 noL 11 0
theorem z1is (x0 : (List Int)) : execX true zku Tryz.f99 (ze0.enc (x0, ())) (ze7.enc ()) = (z8h x0).map (zkx (x0, ()) ()) := by kernel_rfl
theorem z1f3 : ∀ (x : (List Int) × Unit) (g : Unit), execX true zku Tryz.f99 (ze0.enc x) (ze7.enc g) = (z8h x.1).map (zkx x g)
  | (x0, ()), () => z1is x0
theorem zts : FnOk Tryz.prog cd 99 zkz := z5y (E := zku) (A := ze0) (B := ze7) true zg zlb Tryz.func99 (by kernel_rfl) (z9 (by kernel_rfl)) (ze (zi 3) (zd)) z7 (T := fun (x : (List Int) × Unit) (_ : Unit) => z8h x.1) (fun _ _ => rfl) z1f3
end Go.Proofs.YtfdndagnolbnhaaGreat
namespace Go.Proofs
shelf_lay_g SlLaysE0.n41 Slgn 41 at Tryz 101 as Tryz.lays101
end Go.Proofs
namespace Go.Proofs.YtfdndagnolbnhaaGreat
open Go Go.Ab
theorem z7i : FnOk Tryz.prog cd 101 (z4h 3 8) := z182 zg Tryz.lays101 Tryz.func101 (by kernel_rfl) (by kernel_rfl) rfl rfl (by kernel_rfl)
noncomputable def zcy (x0 : Int) (g0 : Int) : Tree Bool :=
 .leaf (decide (x0 = (IntKind.wrap .i64 (((BitVec.ofInt 64 g0 &&& ~~~BitVec.ofInt 64 (1 : Int)).toNat : Int)))))
noncomputable def zle (x0 : Int) (g0 : Int) : Option Bool := (zcy x0 g0).run
noncomputable def zco : Arg U (Int × Unit) := aO (cInt .i64) (aP 0 0 (aNil))
noncomputable def zcs : Bls U (Int × Unit) := bC (cInt .i64) (bNil)
noncomputable def zi1 (_x : Int × Unit) (g : Int × Unit) (r : Bool) : zR := ([vO (z0 z8 (z1)) (r, ())], [.cells (((cInt .i64) : Cdc U Int).enc g.1) none])
noncomputable def zi2 : zS := mkSpecG zco zcs (fun x g => zle x.1 g.1) zi1
noncomputable def zhq : Env U := zE fns98 noL 8 1
theorem z1eq (x0 : Int) (g0 : Int) : execX false zhq Tryz.f102 (zco.enc (x0, ())) (zcs.enc (g0, ())) = (zcy x0 g0).map (zi1 (x0, ()) (g0, ())) := by kernel_rfl
theorem z1ac : ∀ (x : Int × Unit) (g : Int × Unit), execX false zhq Tryz.f102 (zco.enc x) (zcs.enc g) = (zcy x.1 g.1).map (zi1 x g)
  | (x0, ()), (g0, ()) => z1eq x0 g0
theorem zr5 : FnOk Tryz.prog cd 102 zi2 := z5y (E := zhq) (A := zco) (B := zcs) false zg zlb Tryz.func102 (by kernel_rfl) (z9 (by kernel_rfl)) (ze (z3 .i64) (z108 (zd))) (z13 (z3 .i64) z7) (T := fun (x : Int × Unit) (g : Int × Unit) => zcy x.1 g.1) (fun _ _ => rfl) z1ac
structure z1e where
  t7 : Int
  t8 : Int
noncomputable def z7o (kk : ((List Int) × Int)) (s : z1e) : Tree (z1e ⊕ (Int ⊕ Unit)) :=
 .ite (decide (s.t8 < s.t7))
 (.ite (decide (0 ≤ s.t8))
 (.ite (decide (s.t8 < (kk.1.length : Int)))
 (.opt Int (kk.1[(s.t8).toNat]?) fun y87 =>
 .opt Bool (zle y87 kk.2) fun r88 =>
 .ite (r88)
 (.leaf (.inr (.inl s.t8)))
 (.leaf (.inl (z1e.mk s.t7 (IntKind.wrap .i64 (s.t8 + (1 : Int)))))))
 .fail)
 .fail)
 (.leaf (.inr (.inr ())))
noncomputable def z3e (q : Option Nat) (kk : ((List Int) × Int)) (s : z1e) : Option (Int ⊕ Unit) := limQ q (fun s => (z7o kk s).run) s
theorem zk9 (k : Nat) (kk : ((List Int) × Int)) (s : z1e) : Le (z3e (some k) kk s) (z3e none kk s) := zhd (fun _ => Le.rfl) s
noncomputable def z61 (q : Option Nat) (g0 : (List Int)) (g1 : Int) : Tree Int :=
 .opt (Int ⊕ Unit) (z3e q (g0, g1) (z1e.mk (g0.length : Int) (0 : Int))) fun l89 =>
 .ite (l89.isLeft)
 (.opt Int (l89.getLeft?) fun a90 =>
 .leaf (a90))
 (.opt Unit (l89.getRight?) fun b91 =>
 .leaf ((-1 : Int)))
noncomputable def z6i (q : Option Nat) (g0 : (List Int)) (g1 : Int) : Option Int := (z61 q g0 g1).run
theorem zo4 (k : Nat) (g0 : (List Int)) (g1 : Int) : Le (z6i (some k) g0 g1) (z6i none g0 g1) := (TLe.opt (zk9 k _ _) fun _ => TLe.rfl)
noncomputable def z5z : Arg U (Unit) := aR 0 (aF 102 [(.ptr 1 0)] (aNil))
noncomputable def z60 : Bls U ((List Int) × Int × Unit) := bR 3 (bC (cInt .i64) (bNil))
noncomputable def z88 (_x : Unit) (g : (List Int) × Int × Unit) (r : Int) : zR := ([vO (z0 (cInt .i64) (z1)) (r, ())], [.row 3 0 g.1, .cells (((cInt .i64) : Cdc U Int).enc g.2.1) none])
noncomputable def zcv : zS := mkSpecG z5z z60 (fun x g => z6i none g.1 g.2.1) z88
noncomputable def zbm (x : (Unit) × (Unit) × (Int × Unit) × (Int × Unit) × Unit) (g : (List Int) × (Int × Unit) × Unit) : ((List Int) × Int) × z1e := ((g.1, g.2.1.1), z1e.mk x.2.2.1.1 x.2.2.2.1.1)
noncomputable def zbh : Tms U ((Unit) × (Unit) × (Int × Unit) × (Int × Unit) × Unit) := tO 0 (cK (.row 0 0) (z1)) (tO 1 (cK2 (.fn 102 [] [(.ptr 1 0)]) (z1)) (tO 7 (z0 (cInt .i64) (z1)) (tO 8 (z0 (cInt .i64) (z1)) (tNil))))
noncomputable def zbi : Bls U ((List Int) × (Int × Unit) × Unit) := bRv 3 0 (bC (z0 (cInt .i64) (z1)) (bNil))
noncomputable def z7h (kk : ((List Int) × Int)) (s : z1e) : St U := { tm := [(0, .v (vO (cK (.row 0 0) (z1)) (()))), (1, .v (vO (cK2 (.fn 102 [] [(.ptr 1 0)]) (z1)) (()))), (7, .v (vO (z0 (cInt .i64) (z1)) (s.t7, ()))), (8, .v (vO (z0 (cInt .i64) (z1)) (s.t8, ())))], hp := [.row 3 0 kk.1, .cells ((z0 (cInt .i64) (z1) : Cdc U (Int × Unit)).enc (kk.2, ())) none] }
noncomputable def zbj (kk : ((List Int) × Int)) : (Int ⊕ Unit) → Ex × St U
  | .inl r => (.ret, { tm := [(4, .v (vO (z0 (cInt .i64) (z1)) (r, ())))], hp := [.row 3 0 kk.1, .cells ((z0 (cInt .i64) (z1) : Cdc U (Int × Unit)).enc (kk.2, ())) none] })
  | .inr r => (.exit 0, { tm := [], hp := [.row 3 0 kk.1, .cells ((z0 (cInt .i64) (z1) : Cdc U (Int × Unit)).enc (kk.2, ())) none] })
noncomputable def zbk (kk : ((List Int) × Int)) (y : (Int ⊕ Unit)) : Tree (Ex × St U) := .ite y.isLeft (.opt Int y.getLeft? fun r => .leaf (.ret, { tm := [(4, .v (vO (z0 (cInt .i64) (z1)) (r, ())))], hp := [.row 3 0 kk.1, .cells ((z0 (cInt .i64) (z1) : Cdc U (Int × Unit)).enc (kk.2, ())) none] })) (.opt Unit y.getRight? fun r => .leaf (.exit 0, { tm := [], hp := [.row 3 0 kk.1, .cells ((z0 (cInt .i64) (z1) : Cdc U (Int × Unit)).enc (kk.2, ())) none] }))
noncomputable def zbp : Hd := { keep := [0, 1, 7, 8], xkeep := [4], own := false }
noncomputable def z3u : Env U := zE (addF 102 false (zi2) fns98) (addL 0 zbp (mkLoopK zbh zbi zbm (z3e none) zbk) noL) 19 2
noncomputable def zbl : Code := (loopAt (Tryz.f160.body.getD .skip) 0 0).getD .skip
theorem zhj (kk : ((List Int) × Int)) (s : z1e) : round z3u zbp zbl 0 (z7h kk s) = (z7o kk s).map (sumE (z7h kk) (zbj kk)) := by kernel_rfl
theorem zld : LpOk z3u zbl 0 := zah (A := zbh) (B := zbi) (f := zbm) (L := z3e none) (zb (z10 z6) (zb (zfk z6) (zb (z2 (z3 .i64) z6) (zb (z2 (z3 .i64) z6) z12)))) (z1m (z13 (z2 (z3 .i64) z6) z7)) (enc := z7h) (out := zbk) (outS := zbj) (step := z7o) (fun _ _ => rfl) (fun _ _ => by kernel_rfl) (by kernel_rfl) (fun _ b => by cases b <;> rfl) zhj
theorem zo7 (g0 : (List Int)) (g1 : Int) : execX false z3u Tryz.f160 (z5z.enc ()) (z60.enc (g0, g1, ())) = (z61 none g0 g1).map (z88 () (g0, g1, ())) := by kernel_rfl
theorem znc : ∀ (x : Unit) (g : (List Int) × Int × Unit), execX false z3u Tryz.f160 (z5z.enc x) (z60.enc g) = (z61 none g.1 g.2.1).map (z88 x g)
  | (), (g0, g1, ()) => zo7 g0 g1
theorem zo6 : FnOk Tryz.prog cd 160 zcv := z5y (E := z3u) (A := z5z) (B := z60) false zg (za zr5 zlb) Tryz.func160 (by kernel_rfl) (z14 (z11 zld z1j)) (z109 (zg8 (zd))) (zbu (z13 (z3 .i64) z7)) (T := fun (x : Unit) (g : (List Int) × Int × Unit) => z61 none g.1 g.2.1) (fun _ _ => rfl) znc
structure z17 where
  t5 : Int
  t6 : Int
  b0 : (List Int)
noncomputable def z7e (kk : Int) (s : z17) : Tree (z17 ⊕ (Int × (List Int))) :=
 .ite (decide (s.t6 < (s.b0.length : Int)))
 (.ite (decide (0 ≤ s.t6))
 (.ite (decide (s.t6 < (s.b0.length : Int)))
 (.opt Int (s.b0[(s.t6).toNat]?) fun y93 =>
 .opt Bool (zle y93 kk) fun r94 =>
 .ite (!r94)
 (.ite (decide (0 ≤ s.t5))
 (.ite (decide (s.t5 < (s.b0.length : Int)))
 (.opt Int (s.b0[(s.t5).toNat]?) fun y95 =>
 .leaf (.inl (z17.mk (IntKind.wrap .i64 (s.t5 + (1 : Int))) (IntKind.wrap .i64 (s.t6 + (1 : Int))) (s.b0.set ((s.t5).toNat) y93))))
 .fail)
 .fail)
 (.leaf (.inl (z17.mk s.t5 (IntKind.wrap .i64 (s.t6 + (1 : Int))) s.b0))))
 .fail)
 .fail)
 (.leaf (.inr (s.t5, s.b0)))
noncomputable def z3b (q : Option Nat) (kk : Int) (s : z17) : Option (Int × (List Int)) := limQ q (fun s => (z7e kk s).run) s
theorem zjd (k : Nat) (kk : Int) (s : z17) : Le (z3b (some k) kk s) (z3b none kk s) := zhd (fun _ => Le.rfl) s
noncomputable def z5m (q : Option Nat) (g0 : (List Int)) (g1 : Int) : Tree (Unit ⊕ ((Nat × Nat) × (List Int))) :=
 .opt Int (z6i q g0 g1) fun r92 =>
 .ite (decide (r92 = (-1 : Int)))
 (.leaf (.inl ()))
 (.opt (Int × (List Int)) (z3b q g1 (z17.mk r92 (IntKind.wrap .i64 (r92 + (1 : Int))) g0)) fun l96 =>
 .ite (decide (0 ≤ l96.1))
 (.ite (decide (l96.1 ≤ ((l96.2.length : Nat) : Int)))
 (.ite (decide (0 ≤ l96.1))
 (.ite (decide (l96.1 ≤ (((l96.2.take ((l96.1).toNat) ++ List.replicate (l96.2.length - (l96.1).toNat) (0 : Int) ++ l96.2.drop ((l96.1).toNat + (l96.2.length - (l96.1).toNat))).length : Nat) : Int)))
 (.leaf (.inr ((0, (l96.1).toNat - 0), l96.2.take ((l96.1).toNat) ++ List.replicate (l96.2.length - (l96.1).toNat) (0 : Int) ++ l96.2.drop ((l96.1).toNat + (l96.2.length - (l96.1).toNat)))))
 .fail)
 .fail)
 .fail)
 .fail)
noncomputable def z49 (q : Option Nat) (g0 : (List Int)) (g1 : Int) : Option (Unit ⊕ ((Nat × Nat) × (List Int))) := (z5m q g0 g1).run
theorem zbq (k : Nat) (g0 : (List Int)) (g1 : Int) : Le (z49 (some k) g0 g1) (z49 none g0 g1) := (TLe.opt (zo4 k _ _) fun _ => (TLe.ite TLe.rfl (TLe.opt (zjd k _ _) fun _ => TLe.rfl)))
noncomputable def z5j : Arg U (Unit) := aR 0 (aF 102 [(.ptr 1 0)] (aNil))
noncomputable def z5k : Bls U ((List Int) × Int × Unit) := bR 3 (bC (cInt .i64) (bNil))
noncomputable def z7w (_x : Unit) (g : (List Int) × Int × Unit) (_r : Unit) : zR := ([vO (cK (.row 0 0) (z1)) (())], [.row 3 0 g.1, .cells (((cInt .i64) : Cdc U Int).enc g.2.1) none])
noncomputable def z7n (_x : Unit) (g : (List Int) × Int × Unit) (r : ((Nat × Nat) × (List Int))) : zR := ([vO (z0 (cOwn 0 0) (z1)) (r.1, ())], [.row 3 0 r.2, .cells (((cInt .i64) : Cdc U Int).enc g.2.1) none])
noncomputable def zc1 : zS := zgt z5j z5k (fun x g => z49 none g.1 g.2.1) z7w z7n
noncomputable def zaz (x : (Unit) × (Unit) × (Int × Unit) × (Int × Unit) × Unit) (g : (List Int) × (Int × Unit) × Unit) : Int × z17 := (g.2.1.1, z17.mk x.2.2.1.1 x.2.2.2.1.1 g.1)
noncomputable def zal : Tms U ((Unit) × (Unit) × (Int × Unit) × (Int × Unit) × Unit) := tO 0 (cK (.row 0 0) (z1)) (tO 1 (cK2 (.fn 102 [] [(.ptr 1 0)]) (z1)) (tO 5 (z0 (cInt .i64) (z1)) (tO 6 (z0 (cInt .i64) (z1)) (tNil))))
noncomputable def zam : Bls U ((List Int) × (Int × Unit) × Unit) := bRv 3 0 (bC (z0 (cInt .i64) (z1)) (bNil))
noncomputable def z6s (kk : Int) (s : z17) : St U := { tm := [(0, .v (vO (cK (.row 0 0) (z1)) (()))), (1, .v (vO (cK2 (.fn 102 [] [(.ptr 1 0)]) (z1)) (()))), (5, .v (vO (z0 (cInt .i64) (z1)) (s.t5, ()))), (6, .v (vO (z0 (cInt .i64) (z1)) (s.t6, ())))], hp := [.row 3 0 s.b0, .cells ((z0 (cInt .i64) (z1) : Cdc U (Int × Unit)).enc (kk, ())) none] }
noncomputable def z6t (kk : Int) (r : (Int × (List Int))) : Ex × St U := (.exit 0, { tm := [(0, .v (vO (cK (.row 0 0) (z1)) (()))), (5, .v (vO (z0 (cInt .i64) (z1)) (r.1, ())))], hp := [.row 3 0 r.2, .cells ((z0 (cInt .i64) (z1) : Cdc U (Int × Unit)).enc (kk, ())) none] })
noncomputable def zan (kk : Int) (r : (Int × (List Int))) : Tree (Ex × St U) := .leaf (z6t kk r)
noncomputable def zbe : Hd := { keep := [0, 1, 5, 6], xkeep := [0, 4, 5], own := false }
noncomputable def z3j : Env U := zE (addF 160 false (zcv) (addF 102 false (zi2) fns98)) (addL 0 zbe (mkLoopK zal zam zaz (z3b none) zan) noL) 42 2
noncomputable def zaq : Code := (loopAt (Tryz.f100.body.getD .skip) 0 0).getD .skip
theorem zgy (kk : Int) (s : z17) : round z3j zbe zaq 0 (z6s kk s) = (z7e kk s).map (sumE (z6s kk) (z6t kk)) := by kernel_rfl
theorem zka : LpOk z3j zaq 0 := zah (A := zal) (B := zam) (f := zaz) (L := z3b none) (zb (z10 z6) (zb (zfk z6) (zb (z2 (z3 .i64) z6) (zb (z2 (z3 .i64) z6) z12)))) (z1m (z13 (z2 (z3 .i64) z6) z7)) (enc := z6s) (out := zan) (outS := z6t) (step := z7e) (fun _ _ => rfl) (fun _ _ => by kernel_rfl) (by kernel_rfl) (fun _ _ => rfl) zgy
theorem zna (g0 : (List Int)) (g1 : Int) : execX false z3j Tryz.f100 (z5j.enc ()) (z5k.enc (g0, g1, ())) = (z5m none g0 g1).map ((Sum.elim (z7w () (g0, g1, ())) (z7n () (g0, g1, ())))) := by kernel_rfl
theorem zli : ∀ (x : Unit) (g : (List Int) × Int × Unit), execX false z3j Tryz.f100 (z5j.enc x) (z5k.enc g) = (z5m none g.1 g.2.1).map ((Sum.elim (z7w x g) (z7n x g)))
  | (), (g0, g1, ()) => zna g0 g1
theorem zn7 : FnOk Tryz.prog cd 100 zc1 := z1jz (E := z3j) (A := z5j) (B := z5k) false zg (za zo6 (za zr5 zlb)) Tryz.func100 (by kernel_rfl) (z14 (z11 zka z1j)) (z109 (zg8 (zd))) (zbu (z13 (z3 .i64) z7)) (T := fun (x : Unit) (g : (List Int) × Int × Unit) => z5m none g.1 g.2.1) (fun _ _ => rfl) zli
noncomputable def znp (q : Option Nat) (x0 : (List Int)) (x1 : (List Int)) (x2 : Int) (x3 : Bool) (x4 : Int) : Tree ((List Int) × (List Int) × Int) :=
 .opt Bool (zo5 x0 x2 x3) fun r97 =>
 .ite (r97)
 (.leaf (([], [], (1 : Int))))
 (.opt (List Int) (z81 x0) fun r98 =>
 .ite (x3)
 (.ite (decide ((2 : Int) = 0))
 .fail
 (.ite (decide ((2 : Int) = 0))
 .fail
 (.ite (decide ((2 : Int) = 0))
 .fail
 (.ite (decide (0 ≤ IntKind.wrap .i64 ((x2).tdiv (2 : Int))))
 (.ite (decide (IntKind.wrap .i64 ((x2).tdiv (2 : Int)) < (r98.length : Int)))
 (.opt Int (r98[(IntKind.wrap .i64 ((x2).tdiv (2 : Int))).toNat]?) fun y99 =>
 .ite (decide (0 ≤ (IntKind.wrap .i64 (((x2).tmod (2 : Int)) * (8 : Int)))))
 (.ite (decide (0 ≤ (IntKind.wrap .i64 (((x2).tmod (2 : Int)) * (8 : Int)))))
 (.ite (decide (0 ≤ IntKind.wrap .i64 ((x2).tdiv (2 : Int))))
 (.ite (decide (IntKind.wrap .i64 ((x2).tdiv (2 : Int)) < (r98.length : Int)))
 (.opt Int (r98[(IntKind.wrap .i64 ((x2).tdiv (2 : Int))).toNat]?) fun y100 =>
 .opt (List Int) (cloneF 8 x1) fun r101 =>
 .opt (Unit ⊕ ((Nat × Nat) × (List Int))) (z49 q r101 x2) fun r102 =>
 .ite (r102.isLeft)
 (.opt Unit (r102.getLeft?) fun a103 =>
 .leaf ((r98.set ((IntKind.wrap .i64 ((x2).tdiv (2 : Int))).toNat) (IntKind.wrap .i64 (((BitVec.ofInt 64 (IntKind.wrap .i64 (((BitVec.ofInt 64 y99 &&& ~~~BitVec.ofInt 64 (IntKind.wrap .i64 ((255 : Int) * 2 ^ (min ((IntKind.wrap .i64 (((x2).tmod (2 : Int)) * (8 : Int)))).toNat 64)))).toNat : Int))) ||| BitVec.ofInt 64 (IntKind.wrap .i64 ((IntKind.wrap .i64 (((BitVec.ofInt 64 x4 &&& BitVec.ofInt 64 (255 : Int)).toNat : Int))) * 2 ^ (min ((IntKind.wrap .i64 (((x2).tmod (2 : Int)) * (8 : Int)))).toNat 64)))).toNat : Int))), r101, (0 : Int))))
 (.opt ((Nat × Nat) × (List Int)) (r102.getRight?) fun b104 =>
 .leaf ((r98.set ((IntKind.wrap .i64 ((x2).tdiv (2 : Int))).toNat) (IntKind.wrap .i64 (((BitVec.ofInt 64 (IntKind.wrap .i64 (((BitVec.ofInt 64 y99 &&& ~~~BitVec.ofInt 64 (IntKind.wrap .i64 ((255 : Int) * 2 ^ (min ((IntKind.wrap .i64 (((x2).tmod (2 : Int)) * (8 : Int)))).toNat 64)))).toNat : Int))) ||| BitVec.ofInt 64 (IntKind.wrap .i64 ((IntKind.wrap .i64 (((BitVec.ofInt 64 x4 &&& BitVec.ofInt 64 (255 : Int)).toNat : Int))) * 2 ^ (min ((IntKind.wrap .i64 (((x2).tmod (2 : Int)) * (8 : Int)))).toNat 64)))).toNat : Int))), (b104.2.drop (b104.1.1)).take (b104.1.2), (0 : Int)))))
 .fail)
 .fail)
 .fail)
 .fail)
 .fail)
 .fail))))
 (.ite (decide ((2 : Int) = 0))
 .fail
 (.ite (decide ((2 : Int) = 0))
 .fail
 (.ite (decide (0 ≤ IntKind.wrap .i64 ((x2).tdiv (2 : Int))))
 (.ite (decide (IntKind.wrap .i64 ((x2).tdiv (2 : Int)) < (r98.length : Int)))
 (.opt Int (r98[(IntKind.wrap .i64 ((x2).tdiv (2 : Int))).toNat]?) fun y105 =>
 .ite (decide (0 ≤ (0 : Int)))
 (.ite (decide (0 ≤ (0 : Int)))
 (.ite (decide (0 ≤ IntKind.wrap .i64 ((x2).tdiv (2 : Int))))
 (.ite (decide (IntKind.wrap .i64 ((x2).tdiv (2 : Int)) < (r98.length : Int)))
 (.opt Int (r98[(IntKind.wrap .i64 ((x2).tdiv (2 : Int))).toNat]?) fun y106 =>
 .opt (List Int) (cloneF 8 x1) fun r107 =>
 .opt (Unit ⊕ ((Nat × Nat) × (List Int))) (z49 q r107 x2) fun r108 =>
 .ite (r108.isLeft)
 (.opt Unit (r108.getLeft?) fun a109 =>
 .leaf ((r98.set ((IntKind.wrap .i64 ((x2).tdiv (2 : Int))).toNat) (IntKind.wrap .i64 (((BitVec.ofInt 64 (IntKind.wrap .i64 (((BitVec.ofInt 64 y105 &&& ~~~BitVec.ofInt 64 (IntKind.wrap .i64 ((65535 : Int) * 2 ^ (min ((0 : Int)).toNat 64)))).toNat : Int))) ||| BitVec.ofInt 64 (IntKind.wrap .i64 ((IntKind.wrap .i64 (((BitVec.ofInt 64 x4 &&& BitVec.ofInt 64 (65535 : Int)).toNat : Int))) * 2 ^ (min ((0 : Int)).toNat 64)))).toNat : Int))), r107, (0 : Int))))
 (.opt ((Nat × Nat) × (List Int)) (r108.getRight?) fun b110 =>
 .leaf ((r98.set ((IntKind.wrap .i64 ((x2).tdiv (2 : Int))).toNat) (IntKind.wrap .i64 (((BitVec.ofInt 64 (IntKind.wrap .i64 (((BitVec.ofInt 64 y105 &&& ~~~BitVec.ofInt 64 (IntKind.wrap .i64 ((65535 : Int) * 2 ^ (min ((0 : Int)).toNat 64)))).toNat : Int))) ||| BitVec.ofInt 64 (IntKind.wrap .i64 ((IntKind.wrap .i64 (((BitVec.ofInt 64 x4 &&& BitVec.ofInt 64 (65535 : Int)).toNat : Int))) * 2 ^ (min ((0 : Int)).toNat 64)))).toNat : Int))), (b110.2.drop (b110.1.1)).take (b110.1.2), (0 : Int)))))
 .fail)
 .fail)
 .fail)
 .fail)
 .fail)
 .fail))))
noncomputable def zdp (q : Option Nat) (x0 : (List Int)) (x1 : (List Int)) (x2 : Int) (x3 : Bool) (x4 : Int) : Option ((List Int) × (List Int) × Int) := (znp q x0 x1 x2 x3 x4).run
theorem zz5 (k : Nat) (x0 : (List Int)) (x1 : (List Int)) (x2 : Int) (x3 : Bool) (x4 : Int) : Le (zdp (some k) x0 x1 x2 x3 x4) (zdp none x0 x1 x2 x3 x4) := (TLe.opt Le.rfl fun _ => (TLe.ite TLe.rfl (TLe.opt Le.rfl fun _ => (TLe.ite (TLe.ite TLe.rfl (TLe.ite TLe.rfl (TLe.ite TLe.rfl (TLe.ite (TLe.ite (TLe.opt Le.rfl fun _ => (TLe.ite (TLe.ite (TLe.ite (TLe.ite (TLe.opt Le.rfl fun _ => (TLe.opt Le.rfl fun _ => (TLe.opt (zbq k _ _) fun _ => TLe.rfl))) TLe.rfl) TLe.rfl) TLe.rfl) TLe.rfl)) TLe.rfl) TLe.rfl)))) (TLe.ite TLe.rfl (TLe.ite TLe.rfl (TLe.ite (TLe.ite (TLe.opt Le.rfl fun _ => (TLe.ite (TLe.ite (TLe.ite (TLe.ite (TLe.opt Le.rfl fun _ => (TLe.opt Le.rfl fun _ => (TLe.opt (zbq k _ _) fun _ => TLe.rfl))) TLe.rfl) TLe.rfl) TLe.rfl) TLe.rfl)) TLe.rfl) TLe.rfl)))))))
noncomputable def z11l : Arg U ((List Int) × (List Int) × Int × Bool × Int × Unit) := aO (cSl 3) (aO (cSl 3) (aO (cInt .i64) (aO z8 (aO (cInt .i64) (aNil)))))
noncomputable def z12l (r : ((List Int) × (List Int) × Int)) : zR := ([vO (cSl 3) r.1, vO (cSl 3) r.2.1, vO (cInt .i64) r.2.2], [])
noncomputable def z133 : zS := zf z11l bNil (fun x _ => zdp none x.1 x.2.1 x.2.2.1 x.2.2.2.1 x.2.2.2.2.1) z12l
noncomputable def z123 : Env U := zE (addF 101 false (z4h 3 8) (addF 100 false (zc1) (addF 99 false (zkz) fns98))) noL 52 0
theorem z1j2 (x : (List Int) × (List Int) × Int × Bool × Int × Unit) (g : Unit) : zk z123 Tryz.f64 (z11l.enc x) (bNil.enc g) = (znp none x.1 x.2.1 x.2.2.1 x.2.2.2.1 x.2.2.2.2.1).map z12l := by kernel_rfl
theorem z1kb : FnOk Tryz.prog cd 64 z133 := zm (E := z123) zg (za z7i (za zn7 (za zts zlb))) Tryz.func64 (by kernel_rfl) (z9 (by kernel_rfl)) (ze (zi 3) (ze (zi 3) (ze (z3 .i64) (ze zn (ze (z3 .i64) (zd)))))) z7 (T := fun x _ => znp none x.1 x.2.1 x.2.2.1 x.2.2.2.1 x.2.2.2.2.1) (fun _ _ => rfl) z1j2
noncomputable def fns64 := addF 64 true z133 fns98
theorem z1sd : zF fns64 := za z1kb zlb
noncomputable def zw1 (x0 : Machine) (x1 : Int) : Tree (Int × Int × Bool) :=
 .ite (decide ((8 : Int) = 0))
 .fail
 (.ite (decide ((8 : Int) = 0))
 .fail
 (.ite (decide ((512 : Int) ≤ x1))
 (.ite (decide (x1 < (768 : Int)))
 (.leaf ((IntKind.wrap .i64 (((IntKind.wrap .i64 (x1 - (512 : Int)))).tdiv (8 : Int)), (x1).tmod (8 : Int), decide ((IntKind.wrap .i64 (((IntKind.wrap .i64 (x1 - (512 : Int)))).tdiv (8 : Int))) < (x0.lines.length : Int)))))
 (.leaf ((IntKind.wrap .i64 (((IntKind.wrap .i64 (x1 - (512 : Int)))).tdiv (8 : Int)), (x1).tmod (8 : Int), false))))
 (.leaf ((IntKind.wrap .i64 (((IntKind.wrap .i64 (x1 - (512 : Int)))).tdiv (8 : Int)), (x1).tmod (8 : Int), false)))))
noncomputable def z10b (x0 : Machine) (x1 : Int) : Option (Int × Int × Bool) := (zw1 x0 x1).run
noncomputable def z1af : Arg U (Machine × Int × Unit) := aA zj (aO (cInt .i64) (aNil))
noncomputable def z1bt (r : (Int × Int × Bool)) : zR := ([vO (cInt .i64) r.1, vO (cInt .i64) r.2.1, vO z8 r.2.2], [])
noncomputable def z1ck : zS := zf z1af bNil (fun x _ => z10b x.1 x.2.1) z1bt
noncomputable def z1b6 : Env U := zE fns64 noL 27 0
theorem z1ps (x : Machine × Int × Unit) (g : Unit) : zk z1b6 Tryz.f103 (z1af.enc x) (bNil.enc g) = (zw1 x.1 x.2.1).map z1bt := by kernel_rfl
theorem z1te : FnOk Tryz.prog cd 103 z1ck := zm (E := z1b6) zg z1sd Tryz.func103 (by kernel_rfl) (z9 (by kernel_rfl)) (zu z19 (ze (z3 .i64) (zd))) z7 (T := fun x _ => zw1 x.1 x.2.1) (fun _ _ => rfl) z1ps
noncomputable def fns103 := addF 103 true z1ck fns64
theorem z1mk : zF fns103 := za z1te z1sd
noncomputable def zw3 (x0 : Line) (x1 : Int) (x2 : Int) : Tree Line :=
 .ite (decide (x1 = (0 : Int)))
 (.leaf (Line.mk (!decide ((IntKind.wrap .i64 (((BitVec.ofInt 64 x2 &&& BitVec.ofInt 64 (64 : Int)).toNat : Int))) = (0 : Int))) x0.rxReady x0.overrun x0.rxData x0.txEnable x0.txReady x0.txData x0.txLeft x0.out))
 (.ite (decide (x1 = (4 : Int)))
 (.leaf (Line.mk x0.rxEnable x0.rxReady x0.overrun x0.rxData (!decide ((IntKind.wrap .i64 (((BitVec.ofInt 64 x2 &&& BitVec.ofInt 64 (64 : Int)).toNat : Int))) = (0 : Int))) x0.txReady x0.txData x0.txLeft x0.out))
 (.ite (decide (x1 = (6 : Int)))
 (.ite (x0.txReady)
 (.leaf (Line.mk x0.rxEnable x0.rxReady x0.overrun x0.rxData x0.txEnable false (IntKind.wrap .i64 (((BitVec.ofInt 64 x2 &&& BitVec.ofInt 64 (255 : Int)).toNat : Int))) (4 : Int) x0.out))
 (.leaf (x0)))
 (.leaf (x0))))
noncomputable def z1ht (x0 : Line) (x1 : Int) (x2 : Int) : Option Line := (zw3 x0 x1 x2).run
noncomputable def z1ak : Arg U (Line × Int × Int × Unit) := aA cLine (aO (cInt .i64) (aO (cInt .i64) (aNil)))
noncomputable def z1by (r : Line) : zR := ([vA cLine r], [])
noncomputable def z1cp : zS := zf z1ak bNil (fun x _ => z1ht x.1 x.2.1 x.2.2.1) z1by
noncomputable def z1bb : Env U := zE fns103 noL 30 0
theorem z1px (x : Line × Int × Int × Unit) (g : Unit) : zk z1bb Tryz.f105 (z1ak.enc x) (bNil.enc g) = (zw3 x.1 x.2.1 x.2.2.1).map z1by := by kernel_rfl
theorem z1tj : FnOk Tryz.prog cd 105 z1cp := zm (E := z1bb) zg z1mk Tryz.func105 (by kernel_rfl) (z9 (by kernel_rfl)) (zu zdj (ze (z3 .i64) (ze (z3 .i64) (zd)))) z7 (T := fun x _ => zw3 x.1 x.2.1 x.2.2.1) (fun _ _ => rfl) z1px
noncomputable def fns105 := addF 105 true z1cp fns103
theorem z1ml : zF fns105 := za z1tj z1mk
noncomputable def zt7 (x0 : Int) (x1 : Int) : Tree Bool :=
 .ite (decide ((0 : Int) ≤ x0))
 (.leaf (decide (x0 ≤ x1)))
 (.leaf (false))
noncomputable def zbv (x0 : Int) (x1 : Int) : Option Bool := (zt7 x0 x1).run
noncomputable def z1lq : Arg U (Int × Int × Unit) := aO (cInt .i64) (aO (cInt .i64) (aNil))
noncomputable def z1m1 (r : Bool) : zR := ([vO z8 r], [])
noncomputable def z1m7 : zS := zf z1lq bNil (fun x _ => zbv x.1 x.2.1) z1m1
noncomputable def z1lv : Env U := zE fns105 noL 12 0
theorem z1we (x : Int × Int × Unit) (g : Unit) : zk z1lv Tryz.f90 (z1lq.enc x) (bNil.enc g) = (zt7 x.1 x.2.1).map z1m1 := by kernel_rfl
theorem z1yb : FnOk Tryz.prog cd 90 z1m7 := zm (E := z1lv) zg z1ml Tryz.func90 (by kernel_rfl) (z9 (by kernel_rfl)) (ze (z3 .i64) (ze (z3 .i64) (zd))) z7 (T := fun x _ => zt7 x.1 x.2.1) (fun _ _ => rfl) z1we
noncomputable def fns90 := addF 90 true z1m7 fns105
theorem z1sy : zF fns90 := za z1yb z1ml
noncomputable def znr (x0 : Int) : Tree (Int × Int × Bool × Bool) :=
 .opt Bool (zbv (IntKind.wrap .i64 (x0 - (16 : Int))) (63 : Int)) fun r111 =>
 .ite (!r111)
 (.leaf (((0 : Int), (0 : Int), false, false)))
 (.ite (decide ((2 : Int) = 0))
 .fail
 (.ite (!decide ((((IntKind.wrap .i64 (x0 - (16 : Int)))).tmod (2 : Int)) = (0 : Int)))
 (.leaf (((0 : Int), (0 : Int), false, false)))
 (.ite (decide ((32 : Int) = 0))
 .fail
 (.ite (decide ((4 : Int) = 0))
 .fail
 (.ite (decide ((8 : Int) = 0))
 .fail
 (.ite (decide ((4 : Int) = 0))
 .fail
 (.leaf ((IntKind.wrap .i64 (((IntKind.wrap .i64 (x0 - (16 : Int)))).tdiv (32 : Int)), ((IntKind.wrap .i64 (((IntKind.wrap .i64 (x0 - (16 : Int)))).tdiv (4 : Int)))).tmod (8 : Int), decide ((((IntKind.wrap .i64 (x0 - (16 : Int)))).tmod (4 : Int)) = (2 : Int)), true)))))))))
noncomputable def zr4 (x0 : Int) : Option (Int × Int × Bool × Bool) := (znr x0).run
noncomputable def z11n : Arg U (Int × Unit) := aO (cInt .i64) (aNil)
noncomputable def z12n (r : (Int × Int × Bool × Bool)) : zR := ([vO (cInt .i64) r.1, vO (cInt .i64) r.2.1, vO z8 r.2.2.1, vO z8 r.2.2.2], [])
noncomputable def z135 : zS := zf z11n bNil (fun x _ => zr4 x.1) z12n
noncomputable def z125 : Env U := zE fns90 noL 25 0
theorem z1j4 (x : Int × Unit) (g : Unit) : zk z125 Tryz.f161 (z11n.enc x) (bNil.enc g) = (znr x.1).map z12n := by kernel_rfl
theorem z1kd : FnOk Tryz.prog cd 161 z135 := zm (E := z125) zg z1sy Tryz.func161 (by kernel_rfl) (z9 (by kernel_rfl)) (ze (z3 .i64) (zd)) z7 (T := fun x _ => znr x.1) (fun _ _ => rfl) z1j4
noncomputable def fns161 := addF 161 true z135 fns90
theorem z1n9 : zF fns161 := za z1kd z1sy
noncomputable def zzy (x0 : Mmu) (x1 : Int) (x2 : Int) : Tree (Mmu × Bool) :=
 .ite (decide (x1 = (0 : Int)))
 (.ite (decide (0 ≤ (1 : Int)))
 (.leaf ((Mmu.mk (decide ((IntKind.wrap .i64 (((BitVec.ofInt 64 x2 &&& BitVec.ofInt 64 (1 : Int)).toNat : Int))) = (1 : Int))) x0.pages (IntKind.wrap .i64 (((BitVec.ofInt 64 ((x2).fdiv (2 ^ (min ((1 : Int)).toNat 64))) &&& BitVec.ofInt 64 (3 : Int)).toNat : Int))) x0.addr, true)))
 .fail)
 (.ite (decide (x1 = (2 : Int)))
 (.leaf ((x0, true)))
 (.opt (Int × Int × Bool × Bool) (zr4 x1) fun r112 =>
 .ite (!r112.2.2.2)
 (.leaf ((x0, false)))
 (.ite (decide (0 ≤ r112.1))
 (.ite (decide (r112.1 < (2 : Int)))
 (.ite (decide (0 ≤ r112.2.1))
 (.ite (decide (r112.2.1 < (8 : Int)))
 (.ite (r112.2.2.1)
 (.ite (decide (0 ≤ (8 : Int)))
 (.opt Page (x0.pages[(r112.1).toNat * 8 + (r112.2.1).toNat * 1]?) fun y113 =>
 .opt Page ((x0.pages.set ((r112.1).toNat * 8 + (r112.2.1).toNat * 1) (Page.mk y113.base (if (128 : Int) < IntKind.wrap .i64 (((BitVec.ofInt 64 x2 &&& BitVec.ofInt 64 (255 : Int)).toNat : Int)) then (128 : Int) else IntKind.wrap .i64 (((BitVec.ofInt 64 x2 &&& BitVec.ofInt 64 (255 : Int)).toNat : Int))) y113.access y113.written))[(r112.1).toNat * 8 + (r112.2.1).toNat * 1]?) fun y114 =>
 .opt Page (((x0.pages.set ((r112.1).toNat * 8 + (r112.2.1).toNat * 1) (Page.mk y113.base (if (128 : Int) < IntKind.wrap .i64 (((BitVec.ofInt 64 x2 &&& BitVec.ofInt 64 (255 : Int)).toNat : Int)) then (128 : Int) else IntKind.wrap .i64 (((BitVec.ofInt 64 x2 &&& BitVec.ofInt 64 (255 : Int)).toNat : Int))) y113.access y113.written)).set ((r112.1).toNat * 8 + (r112.2.1).toNat * 1) (Page.mk y114.base y114.length (if (2 : Int) < IntKind.wrap .i64 (((BitVec.ofInt 64 ((x2).fdiv (2 ^ (min ((8 : Int)).toNat 64))) &&& BitVec.ofInt 64 (3 : Int)).toNat : Int)) then (2 : Int) else IntKind.wrap .i64 (((BitVec.ofInt 64 ((x2).fdiv (2 ^ (min ((8 : Int)).toNat 64))) &&& BitVec.ofInt 64 (3 : Int)).toNat : Int))) y114.written))[(r112.1).toNat * 8 + (r112.2.1).toNat * 1]?) fun y115 =>
 .leaf ((Mmu.mk x0.on (((x0.pages.set ((r112.1).toNat * 8 + (r112.2.1).toNat * 1) (Page.mk y113.base (if (128 : Int) < IntKind.wrap .i64 (((BitVec.ofInt 64 x2 &&& BitVec.ofInt 64 (255 : Int)).toNat : Int)) then (128 : Int) else IntKind.wrap .i64 (((BitVec.ofInt 64 x2 &&& BitVec.ofInt 64 (255 : Int)).toNat : Int))) y113.access y113.written)).set ((r112.1).toNat * 8 + (r112.2.1).toNat * 1) (Page.mk y114.base y114.length (if (2 : Int) < IntKind.wrap .i64 (((BitVec.ofInt 64 ((x2).fdiv (2 ^ (min ((8 : Int)).toNat 64))) &&& BitVec.ofInt 64 (3 : Int)).toNat : Int)) then (2 : Int) else IntKind.wrap .i64 (((BitVec.ofInt 64 ((x2).fdiv (2 ^ (min ((8 : Int)).toNat 64))) &&& BitVec.ofInt 64 (3 : Int)).toNat : Int))) y114.written)).set ((r112.1).toNat * 8 + (r112.2.1).toNat * 1) (Page.mk y115.base y115.length y115.access false)) x0.status x0.addr, true)))
 .fail)
 (.opt Page (x0.pages[(r112.1).toNat * 8 + (r112.2.1).toNat * 1]?) fun y116 =>
 .leaf ((Mmu.mk x0.on (x0.pages.set ((r112.1).toNat * 8 + (r112.2.1).toNat * 1) (Page.mk (IntKind.wrap .i64 (((BitVec.ofInt 64 x2 &&& BitVec.ofInt 64 (4095 : Int)).toNat : Int))) y116.length y116.access y116.written)) x0.status x0.addr, true))))
 .fail)
 .fail)
 .fail)
 .fail)))
noncomputable def z1o2 (x0 : Mmu) (x1 : Int) (x2 : Int) : Option (Mmu × Bool) := (zzy x0 x1 x2).run
noncomputable def z1fp : Arg U (Mmu × Int × Int × Unit) := aA cMmu (aO (cInt .i64) (aO (cInt .i64) (aNil)))
noncomputable def z1gl (r : (Mmu × Bool)) : zR := ([vA cMmu r.1, vO z8 r.2], [])
noncomputable def z1h5 : zS := zf z1fp bNil (fun x _ => z1o2 x.1 x.2.1 x.2.2.1) z1gl
noncomputable def z1g6 : Env U := zE fns161 noL 66 0
theorem z1un (x : Mmu × Int × Int × Unit) (g : Unit) : zk z1g6 Tryz.f106 (z1fp.enc x) (bNil.enc g) = (zzy x.1 x.2.1 x.2.2.1).map z1gl := by kernel_rfl
theorem z1vw : FnOk Tryz.prog cd 106 z1h5 := zm (E := z1g6) zg z1n9 Tryz.func106 (by kernel_rfl) (z9 (by kernel_rfl)) (zu zer (ze (z3 .i64) (ze (z3 .i64) (zd)))) z7 (T := fun x _ => zzy x.1 x.2.1 x.2.2.1) (fun _ _ => rfl) z1un
noncomputable def fns106 := addF 106 true z1h5 fns161
theorem z1mm : zF fns106 := za z1vw z1n9
noncomputable def zqh (x0 : Clock) (x1 : Int) : Tree Clock :=
 .ite (x0.ready)
 (.leaf (Clock.mk (!decide ((IntKind.wrap .i64 (((BitVec.ofInt 64 x1 &&& BitVec.ofInt 64 (64 : Int)).toNat : Int))) = (0 : Int))) (!decide ((IntKind.wrap .i64 (((BitVec.ofInt 64 x1 &&& BitVec.ofInt 64 (128 : Int)).toNat : Int))) = (0 : Int))) x0.period x0.left))
 (.leaf (Clock.mk (!decide ((IntKind.wrap .i64 (((BitVec.ofInt 64 x1 &&& BitVec.ofInt 64 (64 : Int)).toNat : Int))) = (0 : Int))) false x0.period x0.left))
noncomputable def z1de (x0 : Clock) (x1 : Int) : Option Clock := (zqh x0 x1).run
noncomputable def z14r : Arg U (Clock × Int × Unit) := aA cClock (aO (cInt .i64) (aNil))
noncomputable def z16b (r : Clock) : zR := ([vA cClock r], [])
noncomputable def z172 : zS := zf z14r bNil (fun x _ => z1de x.1 x.2.1) z16b
noncomputable def z15p : Env U := zE fns106 noL 18 0
theorem z1kv (x : Clock × Int × Unit) (g : Unit) : zk z15p Tryz.f107 (z14r.enc x) (bNil.enc g) = (zqh x.1 x.2.1).map z16b := by kernel_rfl
theorem z1p0 : FnOk Tryz.prog cd 107 z172 := zm (E := z15p) zg z1mm Tryz.func107 (by kernel_rfl) (z9 (by kernel_rfl)) (zu zbo (ze (z3 .i64) (zd))) z7 (T := fun x _ => zqh x.1 x.2.1) (fun _ _ => rfl) z1kv
noncomputable def fns107 := addF 107 true z172 fns106
theorem z1mn : zF fns107 := za z1p0 z1mm
noncomputable def zge (x0 : Disk) (x1 : Int) : Tree Disk :=
 .ite (!x0.ready)
 (.leaf (Disk.mk x0.drive (!decide ((IntKind.wrap .i64 (((BitVec.ofInt 64 x1 &&& BitVec.ofInt 64 (64 : Int)).toNat : Int))) = (0 : Int))) x0.ready x0.error x0.command x0.words x0.addr x0.start x0.left))
 (.ite (decide ((IntKind.wrap .i64 (((BitVec.ofInt 64 x1 &&& BitVec.ofInt 64 (1 : Int)).toNat : Int))) = (0 : Int)))
 (.leaf (Disk.mk x0.drive (!decide ((IntKind.wrap .i64 (((BitVec.ofInt 64 x1 &&& BitVec.ofInt 64 (64 : Int)).toNat : Int))) = (0 : Int))) x0.ready x0.error x0.command x0.words x0.addr x0.start x0.left))
 (.ite (decide (0 ≤ (1 : Int)))
 (.ite (!decide ((IntKind.wrap .i64 (((BitVec.ofInt 64 ((x1).fdiv (2 ^ (min ((1 : Int)).toNat 64))) &&& BitVec.ofInt 64 (3 : Int)).toNat : Int))) = (0 : Int)))
 (.ite (!decide (x0.words = (0 : Int)))
 (.leaf (Disk.mk x0.drive (!decide ((IntKind.wrap .i64 (((BitVec.ofInt 64 x1 &&& BitVec.ofInt 64 (64 : Int)).toNat : Int))) = (0 : Int))) false false (IntKind.wrap .i64 (((BitVec.ofInt 64 ((x1).fdiv (2 ^ (min ((1 : Int)).toNat 64))) &&& BitVec.ofInt 64 (3 : Int)).toNat : Int))) x0.words x0.addr x0.start (8 : Int)))
 (.leaf (Disk.mk x0.drive (!decide ((IntKind.wrap .i64 (((BitVec.ofInt 64 x1 &&& BitVec.ofInt 64 (64 : Int)).toNat : Int))) = (0 : Int))) x0.ready false (IntKind.wrap .i64 (((BitVec.ofInt 64 ((x1).fdiv (2 ^ (min ((1 : Int)).toNat 64))) &&& BitVec.ofInt 64 (3 : Int)).toNat : Int))) x0.words x0.addr x0.start x0.left)))
 (.leaf (Disk.mk x0.drive (!decide ((IntKind.wrap .i64 (((BitVec.ofInt 64 x1 &&& BitVec.ofInt 64 (64 : Int)).toNat : Int))) = (0 : Int))) x0.ready false (IntKind.wrap .i64 (((BitVec.ofInt 64 ((x1).fdiv (2 ^ (min ((1 : Int)).toNat 64))) &&& BitVec.ofInt 64 (3 : Int)).toNat : Int))) x0.words x0.addr x0.start x0.left)))
 .fail))
noncomputable def ztc (x0 : Disk) (x1 : Int) : Option Disk := (zge x0 x1).run
noncomputable def zpv : Arg U (Disk × Int × Unit) := aA cDisk (aO (cInt .i64) (aNil))
noncomputable def zq6 (r : Disk) : zR := ([vA cDisk r], [])
noncomputable def zqa : zS := zf zpv bNil (fun x _ => ztc x.1 x.2.1) zq6
noncomputable def zq1 : Env U := zE fns107 noL 34 0
theorem z19b (x : Disk × Int × Unit) (g : Unit) : zk zq1 Tryz.f162 (zpv.enc x) (bNil.enc g) = (zge x.1 x.2.1).map zq6 := by kernel_rfl
theorem z19y : FnOk Tryz.prog cd 162 zqa := zm (E := zq1) zg z1mn Tryz.func162 (by kernel_rfl) (z9 (by kernel_rfl)) (zu z24 (ze (z3 .i64) (zd))) z7 (T := fun x _ => zge x.1 x.2.1) (fun _ _ => rfl) z19b
noncomputable def fns162 := addF 162 true zqa fns107
theorem z1na : zF fns162 := za z19y z1mn
noncomputable def zl0 (x0 : Disk) (x1 : Int) (x2 : Int) : Tree (Disk × Bool) :=
 .ite (decide (x1 = (0 : Int)))
 (.opt Disk (ztc x0 (IntKind.wrap .i64 (((BitVec.ofInt 64 x2 &&& BitVec.ofInt 64 (65535 : Int)).toNat : Int)))) fun r117 =>
 .leaf ((r117, true)))
 (.ite (decide (x1 = (2 : Int)))
 (.ite (x0.ready)
 (.leaf ((Disk.mk x0.drive x0.enable x0.ready x0.error x0.command (IntKind.wrap .i64 (((BitVec.ofInt 64 x2 &&& BitVec.ofInt 64 (65535 : Int)).toNat : Int))) x0.addr x0.start x0.left, true)))
 (.leaf ((x0, true))))
 (.ite (decide (x1 = (4 : Int)))
 (.ite (x0.ready)
 (.leaf ((Disk.mk x0.drive x0.enable x0.ready x0.error x0.command x0.words (IntKind.wrap .i64 (((BitVec.ofInt 64 (IntKind.wrap .i64 (((BitVec.ofInt 64 x2 &&& BitVec.ofInt 64 (65535 : Int)).toNat : Int))) &&& ~~~BitVec.ofInt 64 (1 : Int)).toNat : Int))) x0.start x0.left, true)))
 (.leaf ((x0, true))))
 (.ite (decide (x1 = (6 : Int)))
 (.ite (x0.ready)
 (.leaf ((Disk.mk x0.drive x0.enable x0.ready x0.error x0.command x0.words x0.addr (IntKind.wrap .i64 (((BitVec.ofInt 64 x2 &&& BitVec.ofInt 64 (65535 : Int)).toNat : Int))) x0.left, true)))
 (.leaf ((x0, true))))
 (.leaf ((Disk.mk (Drive.mk ([]) ([])) false false false 0 0 0 0 0, false))))))
noncomputable def z13d (x0 : Disk) (x1 : Int) (x2 : Int) : Option (Disk × Bool) := (zl0 x0 x1 x2).run
noncomputable def zwk : Arg U (Disk × Int × Int × Unit) := aA cDisk (aO (cInt .i64) (aO (cInt .i64) (aNil)))
noncomputable def zy1 (r : (Disk × Bool)) : zR := ([vA cDisk r.1, vO z8 r.2], [])
noncomputable def zyb : zS := zf zwk bNil (fun x _ => z13d x.1 x.2.1 x.2.2.1) zy1
noncomputable def zxc : Env U := zE fns162 noL 35 0
theorem z1f2 (x : Disk × Int × Int × Unit) (g : Unit) : zk zxc Tryz.f108 (zwk.enc x) (bNil.enc g) = (zl0 x.1 x.2.1 x.2.2.1).map zy1 := by kernel_rfl
theorem z1ig : FnOk Tryz.prog cd 108 zyb := zm (E := zxc) zg z1na Tryz.func108 (by kernel_rfl) (z9 (by kernel_rfl)) (zu z24 (ze (z3 .i64) (ze (z3 .i64) (zd)))) z7 (T := fun x _ => zl0 x.1 x.2.1 x.2.2.1) (fun _ _ => rfl) z1f2
noncomputable def fns108 := addF 108 true zyb fns162
theorem z1mo : zF fns108 := za z1ig z1na
noncomputable def znu (x0 : Tape) (x1 : Int) : Tree Tape :=
 .ite (!x0.ready)
 (.leaf (Tape.mk x0.records x0.pos (!decide ((IntKind.wrap .i64 (((BitVec.ofInt 64 x1 &&& BitVec.ofInt 64 (64 : Int)).toNat : Int))) = (0 : Int))) x0.ready x0.error x0.mark x0.end_ x0.command x0.count x0.addr x0.left))
 (.ite (decide ((IntKind.wrap .i64 (((BitVec.ofInt 64 x1 &&& BitVec.ofInt 64 (1 : Int)).toNat : Int))) = (0 : Int)))
 (.leaf (Tape.mk x0.records x0.pos (!decide ((IntKind.wrap .i64 (((BitVec.ofInt 64 x1 &&& BitVec.ofInt 64 (64 : Int)).toNat : Int))) = (0 : Int))) x0.ready x0.error x0.mark x0.end_ x0.command x0.count x0.addr x0.left))
 (.ite (decide (0 ≤ (1 : Int)))
 (.ite (decide ((6 : Int) < (IntKind.wrap .i64 (((BitVec.ofInt 64 ((x1).fdiv (2 ^ (min ((1 : Int)).toNat 64))) &&& BitVec.ofInt 64 (7 : Int)).toNat : Int)))))
 (.ite (!decide ((0 : Int) = (0 : Int)))
 (.leaf (Tape.mk x0.records x0.pos (!decide ((IntKind.wrap .i64 (((BitVec.ofInt 64 x1 &&& BitVec.ofInt 64 (64 : Int)).toNat : Int))) = (0 : Int))) false false false false (0 : Int) x0.count x0.addr (16 : Int)))
 (.leaf (Tape.mk x0.records x0.pos (!decide ((IntKind.wrap .i64 (((BitVec.ofInt 64 x1 &&& BitVec.ofInt 64 (64 : Int)).toNat : Int))) = (0 : Int))) x0.ready false false false (0 : Int) x0.count x0.addr x0.left)))
 (.ite (!decide ((IntKind.wrap .i64 (((BitVec.ofInt 64 ((x1).fdiv (2 ^ (min ((1 : Int)).toNat 64))) &&& BitVec.ofInt 64 (7 : Int)).toNat : Int))) = (0 : Int)))
 (.leaf (Tape.mk x0.records x0.pos (!decide ((IntKind.wrap .i64 (((BitVec.ofInt 64 x1 &&& BitVec.ofInt 64 (64 : Int)).toNat : Int))) = (0 : Int))) false false false false (IntKind.wrap .i64 (((BitVec.ofInt 64 ((x1).fdiv (2 ^ (min ((1 : Int)).toNat 64))) &&& BitVec.ofInt 64 (7 : Int)).toNat : Int))) x0.count x0.addr (16 : Int)))
 (.leaf (Tape.mk x0.records x0.pos (!decide ((IntKind.wrap .i64 (((BitVec.ofInt 64 x1 &&& BitVec.ofInt 64 (64 : Int)).toNat : Int))) = (0 : Int))) x0.ready false false false (IntKind.wrap .i64 (((BitVec.ofInt 64 ((x1).fdiv (2 ^ (min ((1 : Int)).toNat 64))) &&& BitVec.ofInt 64 (7 : Int)).toNat : Int))) x0.count x0.addr x0.left))))
 .fail))
noncomputable def z19h (x0 : Tape) (x1 : Int) : Option Tape := (znu x0 x1).run
noncomputable def z11u : Arg U (Tape × Int × Unit) := aA cTape (aO (cInt .i64) (aNil))
noncomputable def z12u (r : Tape) : zR := ([vA cTape r], [])
noncomputable def z13c : zS := zf z11u bNil (fun x _ => z19h x.1 x.2.1) z12u
noncomputable def z129 : Env U := zE fns108 noL 35 0
theorem z1jb (x : Tape × Int × Unit) (g : Unit) : zk z129 Tryz.f163 (z11u.enc x) (bNil.enc g) = (znu x.1 x.2.1).map z12u := by kernel_rfl
theorem z1kk : FnOk Tryz.prog cd 163 z13c := zm (E := z129) zg z1mo Tryz.func163 (by kernel_rfl) (z9 (by kernel_rfl)) (zu z2z (ze (z3 .i64) (zd))) z7 (T := fun x _ => znu x.1 x.2.1) (fun _ _ => rfl) z1jb
noncomputable def fns163 := addF 163 true z13c fns108
theorem z1nb : zF fns163 := za z1kk z1mo
noncomputable def zw4 (x0 : Tape) (x1 : Int) (x2 : Int) : Tree (Tape × Bool) :=
 .ite (decide (x1 = (0 : Int)))
 (.opt Tape (z19h x0 x2) fun r118 =>
 .leaf ((r118, true)))
 (.ite (decide (x1 = (2 : Int)))
 (.ite (x0.ready)
 (.leaf ((Tape.mk x0.records x0.pos x0.enable x0.ready x0.error x0.mark x0.end_ x0.command (IntKind.wrap .i64 (((BitVec.ofInt 64 x2 &&& BitVec.ofInt 64 (65535 : Int)).toNat : Int))) x0.addr x0.left, true)))
 (.leaf ((x0, true))))
 (.ite (decide (x1 = (4 : Int)))
 (.ite (x0.ready)
 (.leaf ((Tape.mk x0.records x0.pos x0.enable x0.ready x0.error x0.mark x0.end_ x0.command x0.count (IntKind.wrap .i64 (((BitVec.ofInt 64 x2 &&& BitVec.ofInt 64 (65535 : Int)).toNat : Int))) x0.left, true)))
 (.leaf ((x0, true))))
 (.leaf ((x0, false)))))
noncomputable def z11c (x0 : Tape) (x1 : Int) (x2 : Int) : Option (Tape × Bool) := (zw4 x0 x1 x2).run
noncomputable def z1b2 : Arg U (Tape × Int × Int × Unit) := aA cTape (aO (cInt .i64) (aO (cInt .i64) (aNil)))
noncomputable def z1cg (r : (Tape × Bool)) : zR := ([vA cTape r.1, vO z8 r.2], [])
noncomputable def z1d7 : zS := zf z1b2 bNil (fun x _ => z11c x.1 x.2.1 x.2.2.1) z1cg
noncomputable def z1bp : Env U := zE fns163 noL 31 0
theorem z1qf (x : Tape × Int × Int × Unit) (g : Unit) : zk z1bp Tryz.f109 (z1b2.enc x) (bNil.enc g) = (zw4 x.1 x.2.1 x.2.2.1).map z1cg := by kernel_rfl
theorem z1u1 : FnOk Tryz.prog cd 109 z1d7 := zm (E := z1bp) zg z1nb Tryz.func109 (by kernel_rfl) (z9 (by kernel_rfl)) (zu z2z (ze (z3 .i64) (ze (z3 .i64) (zd)))) z7 (T := fun x _ => zw4 x.1 x.2.1 x.2.2.1) (fun _ _ => rfl) z1qf
noncomputable def fns109 := addF 109 true z1d7 fns163
theorem z1mp : zF fns109 := za z1u1 z1nb
end Go.Proofs.YtfdndagnolbnhaaGreat
namespace Go.Proofs
shelf_lay_g SlLaysE0.n41 Slgn 41 at Tryz 104 as Tryz.lays104
end Go.Proofs
namespace Go.Proofs.YtfdndagnolbnhaaGreat
open Go Go.Ab
theorem z5r : FnOk Tryz.prog cd 104 (z4h 55 56) := z182 zg Tryz.lays104 Tryz.func104 (by kernel_rfl) (by kernel_rfl) rfl rfl (by kernel_rfl)
noncomputable def z1dq (x0 : Machine) (x1 : Int) (x2 : Int) : Tree (Machine × Bool) :=
 .opt (Int × Int × Bool) (z10b x0 x1) fun r121 =>
 .ite (r121.2.2)
 (.opt (List Line) (cloneF 56 x0.lines) fun r122 =>
 .ite (decide (0 ≤ r121.1))
 (.ite (decide (r121.1 < (r122.length : Int)))
 (.opt Line (r122[(r121.1).toNat]?) fun y123 =>
 .opt Line (z1ht y123 r121.2.1 x2) fun r124 =>
 .ite (decide (0 ≤ r121.1))
 (.ite (decide (r121.1 < (r122.length : Int)))
 (.opt Line (r122[(r121.1).toNat]?) fun y125 =>
 .leaf ((Machine.mk x0.cpu x0.mem x0.bad x0.mmu x0.clock (r122.set ((r121.1).toNat) r124) x0.disk x0.tape x0.now x0.halted x0.waiting x0.power x0.powerTrap, true)))
 .fail)
 .fail)
 .fail)
 .fail)
 (.ite (decide (x1 < (256 : Int)))
 (.opt (Mmu × Bool) (z1o2 x0.mmu x1 x2) fun r126 =>
 .leaf ((Machine.mk x0.cpu x0.mem x0.bad r126.1 x0.clock x0.lines x0.disk x0.tape x0.now x0.halted x0.waiting x0.power x0.powerTrap, r126.2)))
 (.ite (decide (x1 = (256 : Int)))
 (.opt Clock (z1de x0.clock x2) fun r127 =>
 .leaf ((Machine.mk x0.cpu x0.mem x0.bad x0.mmu r127 x0.lines x0.disk x0.tape x0.now x0.halted x0.waiting x0.power x0.powerTrap, true)))
 (.ite (decide ((768 : Int) ≤ x1))
 (.ite (decide (x1 < (800 : Int)))
 (.opt (Disk × Bool) (z13d x0.disk (IntKind.wrap .i64 (x1 - (768 : Int))) x2) fun r128 =>
 .leaf ((Machine.mk x0.cpu x0.mem x0.bad x0.mmu x0.clock x0.lines r128.1 x0.tape x0.now x0.halted x0.waiting x0.power x0.powerTrap, r128.2)))
 (.ite (decide ((800 : Int) ≤ x1))
 (.opt (Tape × Bool) (z11c x0.tape (IntKind.wrap .i64 (x1 - (800 : Int))) x2) fun r129 =>
 .leaf ((Machine.mk x0.cpu x0.mem x0.bad x0.mmu x0.clock x0.lines x0.disk r129.1 x0.now x0.halted x0.waiting x0.power x0.powerTrap, r129.2)))
 (.leaf ((x0, false)))))
 (.ite (decide ((800 : Int) ≤ x1))
 (.opt (Tape × Bool) (z11c x0.tape (IntKind.wrap .i64 (x1 - (800 : Int))) x2) fun r130 =>
 .leaf ((Machine.mk x0.cpu x0.mem x0.bad x0.mmu x0.clock x0.lines x0.disk r130.1 x0.now x0.halted x0.waiting x0.power x0.powerTrap, r130.2)))
 (.leaf ((x0, false)))))))
noncomputable def z1jk (x0 : Machine) (x1 : Int) (x2 : Int) : Option (Machine × Bool) := (z1dq x0 x1 x2).run
noncomputable def z1ql : Arg U (Machine × Int × Int × Unit) := aA zj (aO (cInt .i64) (aO (cInt .i64) (aNil)))
noncomputable def z1qr (r : (Machine × Bool)) : zR := ([vA zj r.1, vO z8 r.2], [])
noncomputable def z1qu : zS := zf z1ql bNil (fun x _ => z1jk x.1 x.2.1 x.2.2.1) z1qr
noncomputable def z1qo : Env U := zE (addF 104 false (z4h 55 56) fns109) noL 89 0
theorem z1yh (x : Machine × Int × Int × Unit) (g : Unit) : zk z1qo Tryz.f65 (z1ql.enc x) (bNil.enc g) = (z1dq x.1 x.2.1 x.2.2.1).map z1qr := by kernel_rfl
theorem z1zt : FnOk Tryz.prog cd 65 z1qu := zm (E := z1qo) zg (za z5r z1mp) Tryz.func65 (by kernel_rfl) (z9 (by kernel_rfl)) (zu z19 (ze (z3 .i64) (ze (z3 .i64) (zd)))) z7 (T := fun x _ => z1dq x.1 x.2.1 x.2.2.1) (fun _ _ => rfl) z1yh
noncomputable def fns65 := addF 65 true z1qu fns109
theorem z1se : zF fns65 := za z1zt z1mp
noncomputable def zzw (q : Option Nat) (x0 : Machine) (x1 : Int) (x2 : Bool) (x3 : Int) : Tree (Machine × Int) :=
 .ite (x2)
 (.ite (decide ((IntKind.wrap .i64 (((BitVec.ofInt 64 x1 &&& BitVec.ofInt 64 (262143 : Int)).toNat : Int))) < (253952 : Int)))
 (.opt ((List Int) × (List Int) × Int) (zdp q x0.mem x0.bad (IntKind.wrap .i64 (((BitVec.ofInt 64 x1 &&& BitVec.ofInt 64 (262143 : Int)).toNat : Int))) x2 (IntKind.wrap .i64 (((BitVec.ofInt 64 (IntKind.wrap .i64 (((BitVec.ofInt 64 x3 &&& BitVec.ofInt 64 (65535 : Int)).toNat : Int))) &&& BitVec.ofInt 64 (255 : Int)).toNat : Int)))) fun r131 =>
 .ite (decide (r131.2.2 = (0 : Int)))
 (.leaf ((Machine.mk x0.cpu r131.1 r131.2.1 x0.mmu x0.clock x0.lines x0.disk x0.tape x0.now x0.halted x0.waiting x0.power x0.powerTrap, r131.2.2)))
 (.leaf ((x0, r131.2.2))))
 (.ite (decide ((2 : Int) = 0))
 .fail
 (.ite (!decide ((((IntKind.wrap .i64 (((BitVec.ofInt 64 x1 &&& BitVec.ofInt 64 (262143 : Int)).toNat : Int)))).tmod (2 : Int)) = (0 : Int)))
 (.leaf ((x0, (1 : Int))))
 (.opt (Machine × Bool) (z1jk x0 (IntKind.wrap .i64 ((IntKind.wrap .i64 (((BitVec.ofInt 64 x1 &&& BitVec.ofInt 64 (262143 : Int)).toNat : Int))) - (253952 : Int))) (IntKind.wrap .i64 (((BitVec.ofInt 64 (IntKind.wrap .i64 (((BitVec.ofInt 64 x3 &&& BitVec.ofInt 64 (65535 : Int)).toNat : Int))) &&& BitVec.ofInt 64 (255 : Int)).toNat : Int)))) fun r132 =>
 .ite (!r132.2)
 (.leaf ((x0, (1 : Int))))
 (.leaf ((r132.1, (0 : Int))))))))
 (.ite (decide ((IntKind.wrap .i64 (((BitVec.ofInt 64 x1 &&& BitVec.ofInt 64 (262143 : Int)).toNat : Int))) < (253952 : Int)))
 (.opt ((List Int) × (List Int) × Int) (zdp q x0.mem x0.bad (IntKind.wrap .i64 (((BitVec.ofInt 64 x1 &&& BitVec.ofInt 64 (262143 : Int)).toNat : Int))) x2 (IntKind.wrap .i64 (((BitVec.ofInt 64 x3 &&& BitVec.ofInt 64 (65535 : Int)).toNat : Int)))) fun r133 =>
 .ite (decide (r133.2.2 = (0 : Int)))
 (.leaf ((Machine.mk x0.cpu r133.1 r133.2.1 x0.mmu x0.clock x0.lines x0.disk x0.tape x0.now x0.halted x0.waiting x0.power x0.powerTrap, r133.2.2)))
 (.leaf ((x0, r133.2.2))))
 (.ite (decide ((2 : Int) = 0))
 .fail
 (.ite (!decide ((((IntKind.wrap .i64 (((BitVec.ofInt 64 x1 &&& BitVec.ofInt 64 (262143 : Int)).toNat : Int)))).tmod (2 : Int)) = (0 : Int)))
 (.leaf ((x0, (1 : Int))))
 (.opt (Machine × Bool) (z1jk x0 (IntKind.wrap .i64 ((IntKind.wrap .i64 (((BitVec.ofInt 64 x1 &&& BitVec.ofInt 64 (262143 : Int)).toNat : Int))) - (253952 : Int))) (IntKind.wrap .i64 (((BitVec.ofInt 64 x3 &&& BitVec.ofInt 64 (65535 : Int)).toNat : Int)))) fun r134 =>
 .ite (!r134.2)
 (.leaf ((x0, (1 : Int))))
 (.leaf ((r134.1, (0 : Int))))))))
noncomputable def zh8 (q : Option Nat) (x0 : Machine) (x1 : Int) (x2 : Bool) (x3 : Int) : Option (Machine × Int) := (zzw q x0 x1 x2 x3).run
theorem zw9 (k : Nat) (x0 : Machine) (x1 : Int) (x2 : Bool) (x3 : Int) : Le (zh8 (some k) x0 x1 x2 x3) (zh8 none x0 x1 x2 x3) := (TLe.ite (TLe.ite (TLe.opt (zz5 k _ _ _ _ _) fun _ => TLe.rfl) TLe.rfl) (TLe.ite (TLe.opt (zz5 k _ _ _ _ _) fun _ => TLe.rfl) TLe.rfl))
noncomputable def z1fk : Arg U (Machine × Int × Bool × Int × Unit) := aA zj (aO (cInt .i64) (aO z8 (aO (cInt .i64) (aNil))))
noncomputable def z1gg (r : (Machine × Int)) : zR := ([vA zj r.1, vO (cInt .i64) r.2], [])
noncomputable def z1gz : zS := zf z1fk bNil (fun x _ => zh8 none x.1 x.2.1 x.2.2.1 x.2.2.2.1) z1gg
noncomputable def z1g2 : Env U := zE fns65 noL 61 0
theorem z1ui (x : Machine × Int × Bool × Int × Unit) (g : Unit) : zk z1g2 Tryz.f26 (z1fk.enc x) (bNil.enc g) = (zzw none x.1 x.2.1 x.2.2.1 x.2.2.2.1).map z1gg := by kernel_rfl
theorem z1vs : FnOk Tryz.prog cd 26 z1gz := zm (E := z1g2) zg z1se Tryz.func26 (by kernel_rfl) (z9 (by kernel_rfl)) (zu z19 (ze (z3 .i64) (ze zn (ze (z3 .i64) (zd))))) z7 (T := fun x _ => zzw none x.1 x.2.1 x.2.2.1 x.2.2.2.1) (fun _ _ => rfl) z1ui
noncomputable def fns26 := addF 26 true z1gz fns65
theorem z1rq : zF fns26 := za z1vs z1se
structure z1l where
  t0 : (List Int)
  t1 : Int
  t7 : Int
  t8 : Int
noncomputable def z9t (s : z1l) : Tree (z1l ⊕ (Int ⊕ Unit)) :=
 .ite (decide (s.t8 < s.t7))
 (.ite (decide (0 ≤ s.t8))
 (.opt Int (s.t0[(s.t8).toNat]?) fun y135 =>
 .ite (decide (s.t1 = y135))
 (.leaf (.inr (.inl s.t8)))
 (.leaf (.inl (z1l.mk s.t0 s.t1 s.t7 (IntKind.wrap .i64 (s.t8 + (1 : Int)))))))
 .fail)
 (.leaf (.inr (.inr ())))
noncomputable def z5b (q : Option Nat) (s : z1l) : Option (Int ⊕ Unit) := limQ q (fun s => (z9t s).run) s
theorem zpb (k : Nat) (s : z1l) : Le (z5b (some k) s) (z5b none s) := zhd (fun _ => Le.rfl) s
noncomputable def zb9 (q : Option Nat) (x0 : (List Int)) (x1 : Int) : Tree Int :=
 .opt (Int ⊕ Unit) (z5b q (z1l.mk x0 x1 (x0.length : Int) (0 : Int))) fun l136 =>
 .ite (l136.isLeft)
 (.opt Int (l136.getLeft?) fun a137 =>
 .leaf (a137))
 (.opt Unit (l136.getRight?) fun b138 =>
 .leaf ((-1 : Int)))
noncomputable def z89 (q : Option Nat) (x0 : (List Int)) (x1 : Int) : Option Int := (zb9 q x0 x1).run
theorem zwa (k : Nat) (x0 : (List Int)) (x1 : Int) : Le (z89 (some k) x0 x1) (z89 none x0 x1) := (TLe.opt (zpb k _) fun _ => TLe.rfl)
noncomputable def zh5 : Arg U ((List Int) × Int × Unit) := aO (cSl 3) (aO (cInt .i64) (aNil))
noncomputable def zh6 (r : Int) : zR := ([vO (cInt .i64) r], [])
noncomputable def zh7 : zS := zf zh5 bNil (fun x _ => z89 none x.1 x.2.1) zh6
noncomputable def zf6 (x : ((List Int) × Unit) × (Int × Unit) × (Int × Unit) × (Int × Unit) × Unit) (_g : Unit) : z1l := z1l.mk x.1.1 x.2.1.1 x.2.2.1.1 x.2.2.2.1.1
noncomputable def zdv : Tms U (((List Int) × Unit) × (Int × Unit) × (Int × Unit) × (Int × Unit) × Unit) := tO 0 (z0 (cSl 3) (z1)) (tO 1 (z0 (cInt .i64) (z1)) (tO 7 (z0 (cInt .i64) (z1)) (tO 8 (z0 (cInt .i64) (z1)) (tNil))))
noncomputable def zdw : Bls U (Unit) := bNil
noncomputable def z8u (s : z1l) : St U := { tm := [(0, .v (vO (z0 (cSl 3) (z1)) (s.t0, ()))), (1, .v (vO (z0 (cInt .i64) (z1)) (s.t1, ()))), (7, .v (vO (z0 (cInt .i64) (z1)) (s.t7, ()))), (8, .v (vO (z0 (cInt .i64) (z1)) (s.t8, ())))], hp := [] }
noncomputable def zdx : (Int ⊕ Unit) → Ex × St U
  | .inl r => (.ret, { tm := [(4, .v (vO (z0 (cInt .i64) (z1)) (r, ())))], hp := [] })
  | .inr r => (.exit 0, { tm := [], hp := [] })
noncomputable def zdy (y : (Int ⊕ Unit)) : Tree (Ex × St U) := .ite y.isLeft (.opt Int y.getLeft? fun r => .leaf (.ret, { tm := [(4, .v (vO (z0 (cInt .i64) (z1)) (r, ())))], hp := [] })) (.opt Unit y.getRight? fun r => .leaf (.exit 0, { tm := [], hp := [] }))
noncomputable def zf7 : Hd := { keep := [0, 1, 7, 8], xkeep := [4], own := false }
noncomputable def z7r : Env U := zE fns26 (addL 0 zf7 (z1f zdv zdw zf6 (z5b none) zdy) noL) 19 0
noncomputable def zf5 : Code := (loopAt (Tryz.f164.body.getD .skip) 0 0).getD .skip
theorem znb (s : z1l) : round z7r zf7 zf5 0 (z8u s) = (z9t s).map (sumE z8u zdx) := by kernel_rfl
theorem zr1 : LpOk z7r zf5 0 := zy (A := zdv) (B := zdw) (f := zf6) (L := z5b none) (zb (z2 (zi 3) z6) (zb (z2 (z3 .i64) z6) (zb (z2 (z3 .i64) z6) (zb (z2 (z3 .i64) z6) z12)))) z7 (enc := z8u) (out := zdy) (outS := zdx) (step := z9t) (fun _ => rfl) (fun _ _ => by kernel_rfl) (by kernel_rfl) (fun b => by cases b <;> rfl) znb
theorem zs6 (x : (List Int) × Int × Unit) (g : Unit) : zk z7r Tryz.f164 (zh5.enc x) (bNil.enc g) = (zb9 none x.1 x.2.1).map zh6 := by kernel_rfl
theorem zwd : FnOk Tryz.prog cd 164 zh7 := zm (E := z7r) zg z1rq Tryz.func164 (by kernel_rfl) (z14 (z11 zr1 z1j)) (ze (zi 3) (ze (z3 .i64) (zd))) z7 (T := fun x _ => zb9 none x.1 x.2.1) (fun _ _ => rfl) zs6
noncomputable def fns164 := addF 164 true zh7 fns26
theorem z1nc : zF fns164 := za zwd z1rq
noncomputable def z8p (q : Option Nat) (x0 : (List Int)) (x1 : Int) : Tree Bool :=
 .opt Int (z89 q x0 x1) fun r139 =>
 .leaf (decide ((0 : Int) ≤ r139))
noncomputable def z6u (q : Option Nat) (x0 : (List Int)) (x1 : Int) : Option Bool := (z8p q x0 x1).run
theorem zpc (k : Nat) (x0 : (List Int)) (x1 : Int) : Le (z6u (some k) x0 x1) (z6u none x0 x1) := (TLe.opt (zwa k _ _) fun _ => TLe.rfl)
noncomputable def zd3 : Arg U ((List Int) × Int × Unit) := aO (cSl 3) (aO (cInt .i64) (aNil))
noncomputable def zdb (r : Bool) : zR := ([vO z8 r], [])
noncomputable def zdc : zS := zf zd3 bNil (fun x _ => z6u none x.1 x.2.1) zdb
noncomputable def zd4 : Env U := zE fns164 noL 9 0
theorem zo8 (x : (List Int) × Int × Unit) (g : Unit) : zk zd4 Tryz.f110 (zd3.enc x) (bNil.enc g) = (z8p none x.1 x.2.1).map zdb := by kernel_rfl
theorem zpe : FnOk Tryz.prog cd 110 zdc := zm (E := zd4) zg z1nc Tryz.func110 (by kernel_rfl) (z9 (by kernel_rfl)) (ze (zi 3) (ze (z3 .i64) (zd))) z7 (T := fun x _ => z8p none x.1 x.2.1) (fun _ _ => rfl) zo8
noncomputable def fns110 := addF 110 true zdc fns164
theorem z1mq : zF fns110 := za zpe z1nc
noncomputable def zqm (q : Option Nat) (x0 : (List Int)) (x1 : (List Int)) (x2 : Int) (x3 : Bool) : Tree (Int × Int) :=
 .opt Bool (zo5 x0 x2 x3) fun r140 =>
 .ite (r140)
 (.leaf (((0 : Int), (1 : Int))))
 (.opt Bool (z6u q x1 (IntKind.wrap .i64 (((BitVec.ofInt 64 x2 &&& ~~~BitVec.ofInt 64 (1 : Int)).toNat : Int)))) fun r141 =>
 .ite (r141)
 (.leaf (((0 : Int), (9 : Int))))
 (.ite (decide ((2 : Int) = 0))
 .fail
 (.ite (decide (0 ≤ IntKind.wrap .i64 ((x2).tdiv (2 : Int))))
 (.opt Int (x0[(IntKind.wrap .i64 ((x2).tdiv (2 : Int))).toNat]?) fun y142 =>
 .ite (x3)
 (.ite (decide ((2 : Int) = 0))
 .fail
 (.ite (decide (0 ≤ (IntKind.wrap .i64 (((x2).tmod (2 : Int)) * (8 : Int)))))
 (.leaf ((IntKind.wrap .i64 (((BitVec.ofInt 64 ((y142).fdiv (2 ^ (min ((IntKind.wrap .i64 (((x2).tmod (2 : Int)) * (8 : Int)))).toNat 64))) &&& BitVec.ofInt 64 (255 : Int)).toNat : Int)), (0 : Int))))
 .fail))
 (.leaf ((y142, (0 : Int)))))
 .fail)))
noncomputable def zmj (q : Option Nat) (x0 : (List Int)) (x1 : (List Int)) (x2 : Int) (x3 : Bool) : Option (Int × Int) := (zqm q x0 x1 x2 x3).run
theorem z1oo (k : Nat) (x0 : (List Int)) (x1 : (List Int)) (x2 : Int) (x3 : Bool) : Le (zmj (some k) x0 x1 x2 x3) (zmj none x0 x1 x2 x3) := (TLe.opt Le.rfl fun _ => (TLe.ite TLe.rfl (TLe.opt (zpc k _ _) fun _ => TLe.rfl)))
noncomputable def z151 : Arg U ((List Int) × (List Int) × Int × Bool × Unit) := aO (cSl 3) (aO (cSl 3) (aO (cInt .i64) (aO z8 (aNil))))
noncomputable def z16l (r : (Int × Int)) : zR := ([vO (cInt .i64) r.1, vO (cInt .i64) r.2], [])
noncomputable def z17a : zS := zf z151 bNil (fun x _ => zmj none x.1 x.2.1 x.2.2.1 x.2.2.2.1) z16l
noncomputable def z15w : Env U := zE fns110 noL 32 0
theorem z1l5 (x : (List Int) × (List Int) × Int × Bool × Unit) (g : Unit) : zk z15w Tryz.f66 (z151.enc x) (bNil.enc g) = (zqm none x.1 x.2.1 x.2.2.1 x.2.2.2.1).map z16l := by kernel_rfl
theorem z1p8 : FnOk Tryz.prog cd 66 z17a := zm (E := z15w) zg z1mq Tryz.func66 (by kernel_rfl) (z9 (by kernel_rfl)) (ze (zi 3) (ze (zi 3) (ze (z3 .i64) (ze zn (zd))))) z7 (T := fun x _ => zqm none x.1 x.2.1 x.2.2.1 x.2.2.2.1) (fun _ _ => rfl) z1l5
noncomputable def fns66 := addF 66 true z17a fns110
theorem z1sf : zF fns66 := za z1p8 z1mq
noncomputable def zql (x0 : Bool) (x1 : Bool) : Tree Int :=
 .ite (x0)
 (.ite (x1)
 (.leaf (IntKind.wrap .i64 ((64 : Int) + (128 : Int))))
 (.leaf ((64 : Int))))
 (.ite (x1)
 (.leaf (IntKind.wrap .i64 ((0 : Int) + (128 : Int))))
 (.leaf ((0 : Int))))
noncomputable def zwb (x0 : Bool) (x1 : Bool) : Option Int := (zql x0 x1).run
noncomputable def z150 : Arg U (Bool × Bool × Unit) := aO z8 (aO z8 (aNil))
noncomputable def z16k (r : Int) : zR := ([vO (cInt .i64) r], [])
noncomputable def z179 : zS := zf z150 bNil (fun x _ => zwb x.1 x.2.1) z16k
noncomputable def z15v : Env U := zE fns66 noL 11 0
theorem z1l4 (x : Bool × Bool × Unit) (g : Unit) : zk z15v Tryz.f165 (z150.enc x) (bNil.enc g) = (zql x.1 x.2.1).map z16k := by kernel_rfl
theorem z1p7 : FnOk Tryz.prog cd 165 z179 := zm (E := z15v) zg z1sf Tryz.func165 (by kernel_rfl) (z9 (by kernel_rfl)) (ze zn (ze zn (zd))) z7 (T := fun x _ => zql x.1 x.2.1) (fun _ _ => rfl) z1l4
noncomputable def fns165 := addF 165 true z179 fns66
theorem z1nd : zF fns165 := za z1p7 z1sf
noncomputable def zzx (x0 : Line) (x1 : Int) : Tree (Line × Int) :=
 .ite (decide (x1 = (0 : Int)))
 (.opt Int (zwb x0.rxEnable x0.rxReady) fun r143 =>
 .leaf ((x0, r143)))
 (.ite (decide (x1 = (4 : Int)))
 (.opt Int (zwb x0.txEnable x0.txReady) fun r144 =>
 .leaf ((x0, r144)))
 (.ite (decide (x1 = (2 : Int)))
 (.ite (x0.overrun)
 (.leaf ((Line.mk x0.rxEnable false false x0.rxData x0.txEnable x0.txReady x0.txData x0.txLeft x0.out, IntKind.wrap .i64 (x0.rxData + (32768 : Int)))))
 (.leaf ((Line.mk x0.rxEnable false false x0.rxData x0.txEnable x0.txReady x0.txData x0.txLeft x0.out, x0.rxData))))
 (.leaf ((x0, (0 : Int))))))
noncomputable def z1ny (x0 : Line) (x1 : Int) : Option (Line × Int) := (zzx x0 x1).run
noncomputable def z1fm : Arg U (Line × Int × Unit) := aA cLine (aO (cInt .i64) (aNil))
noncomputable def z1gi (r : (Line × Int)) : zR := ([vA cLine r.1, vO (cInt .i64) r.2], [])
noncomputable def z1h2 : zS := zf z1fm bNil (fun x _ => z1ny x.1 x.2.1) z1gi
noncomputable def z1g4 : Env U := zE fns165 noL 37 0
theorem z1uk (x : Line × Int × Unit) (g : Unit) : zk z1g4 Tryz.f111 (z1fm.enc x) (bNil.enc g) = (zzx x.1 x.2.1).map z1gi := by kernel_rfl
theorem z1vt : FnOk Tryz.prog cd 111 z1h2 := zm (E := z1g4) zg z1nd Tryz.func111 (by kernel_rfl) (z9 (by kernel_rfl)) (zu zdj (ze (z3 .i64) (zd))) z7 (T := fun x _ => zzx x.1 x.2.1) (fun _ _ => rfl) z1uk
noncomputable def fns111 := addF 111 true z1h2 fns165
theorem z1mr : zF fns111 := za z1vt z1nd
noncomputable def z1dr (x0 : Bool) (x1 : Int) : Tree Int :=
 .ite (x0)
 (.leaf (x1))
 (.leaf ((0 : Int)))
noncomputable def z1k0 (x0 : Bool) (x1 : Int) : Option Int := (z1dr x0 x1).run
noncomputable def z1qm : Arg U (Bool × Int × Unit) := aO z8 (aO (cInt .i64) (aNil))
noncomputable def z1qs (r : Int) : zR := ([vO (cInt .i64) r], [])
noncomputable def z1qw : zS := zf z1qm bNil (fun x _ => z1k0 x.1 x.2.1) z1qs
noncomputable def z1qp : Env U := zE fns111 noL 7 0
theorem z1yi (x : Bool × Int × Unit) (g : Unit) : zk z1qp Tryz.f166 (z1qm.enc x) (bNil.enc g) = (z1dr x.1 x.2.1).map z1qs := by kernel_rfl
theorem z1zu : FnOk Tryz.prog cd 166 z1qw := zm (E := z1qp) zg z1mr Tryz.func166 (by kernel_rfl) (z9 (by kernel_rfl)) (ze zn (ze (z3 .i64) (zd))) z7 (T := fun x _ => z1dr x.1 x.2.1) (fun _ _ => rfl) z1yi
noncomputable def fns166 := addF 166 true z1qw fns111
theorem z1ne : zF fns166 := za z1zu z1mr
noncomputable def z17r (x0 : Mmu) (x1 : Int) : Tree (Int × Bool) :=
 .ite (decide (x1 = (0 : Int)))
 (.opt Int (z1k0 x0.on (1 : Int)) fun r145 =>
 .ite (decide (0 ≤ (1 : Int)))
 (.leaf ((IntKind.wrap .i64 (((BitVec.ofInt 64 r145 ||| BitVec.ofInt 64 (IntKind.wrap .i64 (x0.status * 2 ^ (min ((1 : Int)).toNat 64)))).toNat : Int)), true)))
 .fail)
 (.ite (decide (x1 = (2 : Int)))
 (.leaf ((x0.addr, true)))
 (.opt (Int × Int × Bool × Bool) (zr4 x1) fun r146 =>
 .ite (!r146.2.2.2)
 (.leaf (((0 : Int), false)))
 (.ite (decide (0 ≤ r146.1))
 (.ite (decide (r146.1 < (2 : Int)))
 (.ite (decide (0 ≤ r146.2.1))
 (.ite (decide (r146.2.1 < (8 : Int)))
 (.opt Page (x0.pages[(r146.1).toNat * 8 + (r146.2.1).toNat * 1]?) fun y147 =>
 .ite (r146.2.2.1)
 (.ite (decide (0 ≤ (8 : Int)))
 (.opt Int (z1k0 y147.written (32768 : Int)) fun r148 =>
 .leaf ((IntKind.wrap .i64 (((BitVec.ofInt 64 (IntKind.wrap .i64 (((BitVec.ofInt 64 y147.length ||| BitVec.ofInt 64 (IntKind.wrap .i64 (y147.access * 2 ^ (min ((8 : Int)).toNat 64)))).toNat : Int))) ||| BitVec.ofInt 64 r148).toNat : Int)), true)))
 .fail)
 (.leaf ((y147.base, true))))
 .fail)
 .fail)
 .fail)
 .fail)))
noncomputable def z1tc (x0 : Mmu) (x1 : Int) : Option (Int × Bool) := (z17r x0 x1).run
noncomputable def z1lp : Arg U (Mmu × Int × Unit) := aA cMmu (aO (cInt .i64) (aNil))
noncomputable def z1m0 (r : (Int × Bool)) : zR := ([vO (cInt .i64) r.1, vO z8 r.2], [])
noncomputable def z1m6 : zS := zf z1lp bNil (fun x _ => z1tc x.1 x.2.1) z1m0
noncomputable def z1lu : Env U := zE fns166 noL 53 0
theorem z1wd (x : Mmu × Int × Unit) (g : Unit) : zk z1lu Tryz.f112 (z1lp.enc x) (bNil.enc g) = (z17r x.1 x.2.1).map z1m0 := by kernel_rfl
theorem z1ya : FnOk Tryz.prog cd 112 z1m6 := zm (E := z1lu) zg z1ne Tryz.func112 (by kernel_rfl) (z9 (by kernel_rfl)) (zu zer (ze (z3 .i64) (zd))) z7 (T := fun x _ => z17r x.1 x.2.1) (fun _ _ => rfl) z1wd
noncomputable def fns112 := addF 112 true z1m6 fns166
theorem z1ms : zF fns112 := za z1ya z1ne
noncomputable def zw2 (x0 : Clock) : Tree Int :=
 .ite (x0.enable)
 (.ite (x0.ready)
 (.leaf (IntKind.wrap .i64 ((IntKind.wrap .i64 ((0 : Int) + (64 : Int))) + (128 : Int))))
 (.leaf (IntKind.wrap .i64 ((0 : Int) + (64 : Int)))))
 (.ite (x0.ready)
 (.leaf (IntKind.wrap .i64 ((0 : Int) + (128 : Int))))
 (.leaf ((0 : Int))))
noncomputable def z1hn (x0 : Clock) : Option Int := (zw2 x0).run
noncomputable def z1ag : Arg U (Clock × Unit) := aA cClock (aNil)
noncomputable def z1bu (r : Int) : zR := ([vO (cInt .i64) r], [])
noncomputable def z1cl : zS := zf z1ag bNil (fun x _ => z1hn x.1) z1bu
noncomputable def z1b7 : Env U := zE fns112 noL 13 0
theorem z1pt (x : Clock × Unit) (g : Unit) : zk z1b7 Tryz.f113 (z1ag.enc x) (bNil.enc g) = (zw2 x.1).map z1bu := by kernel_rfl
theorem z1tf : FnOk Tryz.prog cd 113 z1cl := zm (E := z1b7) zg z1ms Tryz.func113 (by kernel_rfl) (z9 (by kernel_rfl)) (zu zbo (zd)) z7 (T := fun x _ => zw2 x.1) (fun _ _ => rfl) z1pt
noncomputable def fns113 := addF 113 true z1cl fns112
theorem z1mt : zF fns113 := za z1tf z1ms
noncomputable def zqi (x0 : Bool) (x1 : Int) : Tree Int :=
 .ite (x0)
 (.leaf (x1))
 (.leaf ((0 : Int)))
noncomputable def zmc (x0 : Bool) (x1 : Int) : Option Int := (zqi x0 x1).run
noncomputable def z14s : Arg U (Bool × Int × Unit) := aO z8 (aO (cInt .i64) (aNil))
noncomputable def z16c (r : Int) : zR := ([vO (cInt .i64) r], [])
noncomputable def z173 : zS := zf z14s bNil (fun x _ => zmc x.1 x.2.1) z16c
noncomputable def z15q : Env U := zE fns113 noL 7 0
theorem z1kw (x : Bool × Int × Unit) (g : Unit) : zk z15q Tryz.f167 (z14s.enc x) (bNil.enc g) = (zqi x.1 x.2.1).map z16c := by kernel_rfl
theorem z1p1 : FnOk Tryz.prog cd 167 z173 := zm (E := z15q) zg z1mt Tryz.func167 (by kernel_rfl) (z9 (by kernel_rfl)) (ze zn (ze (z3 .i64) (zd))) z7 (T := fun x _ => zqi x.1 x.2.1) (fun _ _ => rfl) z1kw
noncomputable def fns167 := addF 167 true z173 fns113
theorem z1nf : zF fns167 := za z1p1 z1mt
noncomputable def zno (x0 : Disk) (x1 : Int) : Tree (Int × Bool) :=
 .ite (decide (x1 = (0 : Int)))
 (.ite (decide (0 ≤ (1 : Int)))
 (.opt Int (zmc x0.enable (64 : Int)) fun r149 =>
 .opt Int (zmc x0.ready (128 : Int)) fun r150 =>
 .opt Int (zmc x0.error (32768 : Int)) fun r151 =>
 .leaf ((IntKind.wrap .i64 (((BitVec.ofInt 64 (IntKind.wrap .i64 (((BitVec.ofInt 64 (IntKind.wrap .i64 (((BitVec.ofInt 64 (IntKind.wrap .i64 (x0.command * 2 ^ (min ((1 : Int)).toNat 64))) ||| BitVec.ofInt 64 r149).toNat : Int))) ||| BitVec.ofInt 64 r150).toNat : Int))) ||| BitVec.ofInt 64 r151).toNat : Int)), true)))
 .fail)
 (.ite (decide (x1 = (2 : Int)))
 (.leaf ((x0.words, true)))
 (.ite (decide (x1 = (4 : Int)))
 (.leaf ((x0.addr, true)))
 (.ite (decide (x1 = (6 : Int)))
 (.leaf ((x0.start, true)))
 (.leaf (((0 : Int), false))))))
noncomputable def z183 (x0 : Disk) (x1 : Int) : Option (Int × Bool) := (zno x0 x1).run
noncomputable def z11g : Arg U (Disk × Int × Unit) := aA cDisk (aO (cInt .i64) (aNil))
noncomputable def z12g (r : (Int × Bool)) : zR := ([vO (cInt .i64) r.1, vO z8 r.2], [])
noncomputable def z12w : zS := zf z11g bNil (fun x _ => z183 x.1 x.2.1) z12g
noncomputable def z121 : Env U := zE fns167 noL 36 0
theorem z1iv (x : Disk × Int × Unit) (g : Unit) : zk z121 Tryz.f114 (z11g.enc x) (bNil.enc g) = (zno x.1 x.2.1).map z12g := by kernel_rfl
theorem z1k4 : FnOk Tryz.prog cd 114 z12w := zm (E := z121) zg z1nf Tryz.func114 (by kernel_rfl) (z9 (by kernel_rfl)) (zu z24 (ze (z3 .i64) (zd))) z7 (T := fun x _ => zno x.1 x.2.1) (fun _ _ => rfl) z1iv
noncomputable def fns114 := addF 114 true z12w fns167
theorem z1mu : zF fns114 := za z1k4 z1nf
noncomputable def z17s (x0 : Bool) (x1 : Int) : Tree Int :=
 .ite (x0)
 (.leaf (x1))
 (.leaf ((0 : Int)))
noncomputable def zlj (x0 : Bool) (x1 : Int) : Option Int := (z17s x0 x1).run
noncomputable def z1ls : Arg U (Bool × Int × Unit) := aO z8 (aO (cInt .i64) (aNil))
noncomputable def z1m3 (r : Int) : zR := ([vO (cInt .i64) r], [])
noncomputable def z1m9 : zS := zf z1ls bNil (fun x _ => zlj x.1 x.2.1) z1m3
noncomputable def z1lx : Env U := zE fns114 noL 7 0
theorem z1wg (x : Bool × Int × Unit) (g : Unit) : zk z1lx Tryz.f168 (z1ls.enc x) (bNil.enc g) = (z17s x.1 x.2.1).map z1m3 := by kernel_rfl
theorem z1yd : FnOk Tryz.prog cd 168 z1m9 := zm (E := z1lx) zg z1mu Tryz.func168 (by kernel_rfl) (z9 (by kernel_rfl)) (ze zn (ze (z3 .i64) (zd))) z7 (T := fun x _ => z17s x.1 x.2.1) (fun _ _ => rfl) z1wg
noncomputable def fns168 := addF 168 true z1m9 fns114
theorem z1ng : zF fns168 := za z1yd z1mu
noncomputable def z106 (x0 : Tape) (x1 : Int) : Tree (Int × Bool) :=
 .ite (decide (x1 = (0 : Int)))
 (.ite (decide (0 ≤ (1 : Int)))
 (.opt Int (zlj x0.enable (64 : Int)) fun r152 =>
 .opt Int (zlj x0.ready (128 : Int)) fun r153 =>
 .opt Int (zlj x0.mark (256 : Int)) fun r154 =>
 .opt Int (zlj x0.end_ (512 : Int)) fun r155 =>
 .opt Int (zlj x0.error (32768 : Int)) fun r156 =>
 .leaf ((IntKind.wrap .i64 (((BitVec.ofInt 64 (IntKind.wrap .i64 (((BitVec.ofInt 64 (IntKind.wrap .i64 (((BitVec.ofInt 64 (IntKind.wrap .i64 (((BitVec.ofInt 64 (IntKind.wrap .i64 (((BitVec.ofInt 64 (IntKind.wrap .i64 (x0.command * 2 ^ (min ((1 : Int)).toNat 64))) ||| BitVec.ofInt 64 r152).toNat : Int))) ||| BitVec.ofInt 64 r153).toNat : Int))) ||| BitVec.ofInt 64 r154).toNat : Int))) ||| BitVec.ofInt 64 r155).toNat : Int))) ||| BitVec.ofInt 64 r156).toNat : Int)), true)))
 .fail)
 (.ite (decide (x1 = (2 : Int)))
 (.leaf ((x0.count, true)))
 (.ite (decide (x1 = (4 : Int)))
 (.leaf ((x0.addr, true)))
 (.leaf (((0 : Int), false)))))
noncomputable def z19g (x0 : Tape) (x1 : Int) : Option (Int × Bool) := (z106 x0 x1).run
noncomputable def z1fy : Arg U (Tape × Int × Unit) := aA cTape (aO (cInt .i64) (aNil))
noncomputable def z1gu (r : (Int × Bool)) : zR := ([vO (cInt .i64) r.1, vO z8 r.2], [])
noncomputable def z1hf : zS := zf z1fy bNil (fun x _ => z19g x.1 x.2.1) z1gu
noncomputable def z1gb : Env U := zE fns168 noL 40 0
theorem z1ux (x : Tape × Int × Unit) (g : Unit) : zk z1gb Tryz.f115 (z1fy.enc x) (bNil.enc g) = (z106 x.1 x.2.1).map z1gu := by kernel_rfl
theorem z1w6 : FnOk Tryz.prog cd 115 z1hf := zm (E := z1gb) zg z1ng Tryz.func115 (by kernel_rfl) (z9 (by kernel_rfl)) (zu z2z (ze (z3 .i64) (zd))) z7 (T := fun x _ => z106 x.1 x.2.1) (fun _ _ => rfl) z1ux
noncomputable def fns115 := addF 115 true z1hf fns168
theorem z1mv : zF fns115 := za z1w6 z1ng
noncomputable def z1dp (x0 : Machine) (x1 : Int) : Tree (Machine × Int × Bool) :=
 .opt (Int × Int × Bool) (z10b x0 x1) fun r157 =>
 .ite (r157.2.2)
 (.ite (decide (0 ≤ r157.1))
 (.opt Line (x0.lines[(r157.1).toNat]?) fun y158 =>
 .opt (Line × Int) (z1ny y158 r157.2.1) fun r159 =>
 .opt (List Line) (cloneF 56 x0.lines) fun r160 =>
 .ite (decide (0 ≤ r157.1))
 (.ite (decide (r157.1 < (r160.length : Int)))
 (.opt Line (r160[(r157.1).toNat]?) fun y161 =>
 .leaf ((Machine.mk x0.cpu x0.mem x0.bad x0.mmu x0.clock (r160.set ((r157.1).toNat) r159.1) x0.disk x0.tape x0.now x0.halted x0.waiting x0.power x0.powerTrap, r159.2, true)))
 .fail)
 .fail)
 .fail)
 (.ite (decide (x1 < (256 : Int)))
 (.opt (Int × Bool) (z1tc x0.mmu x1) fun r162 =>
 .leaf ((x0, r162.1, r162.2)))
 (.ite (decide (x1 = (256 : Int)))
 (.opt Int (z1hn x0.clock) fun r163 =>
 .leaf ((x0, r163, true)))
 (.ite (decide ((768 : Int) ≤ x1))
 (.ite (decide (x1 < (800 : Int)))
 (.opt (Int × Bool) (z183 x0.disk (IntKind.wrap .i64 (x1 - (768 : Int)))) fun r164 =>
 .leaf ((x0, r164.1, r164.2)))
 (.ite (decide ((800 : Int) ≤ x1))
 (.opt (Int × Bool) (z19g x0.tape (IntKind.wrap .i64 (x1 - (800 : Int)))) fun r165 =>
 .leaf ((x0, r165.1, r165.2)))
 (.leaf ((x0, (0 : Int), false)))))
 (.ite (decide ((800 : Int) ≤ x1))
 (.opt (Int × Bool) (z19g x0.tape (IntKind.wrap .i64 (x1 - (800 : Int)))) fun r166 =>
 .leaf ((x0, r166.1, r166.2)))
 (.leaf ((x0, (0 : Int), false)))))))
noncomputable def z1jj (x0 : Machine) (x1 : Int) : Option (Machine × Int × Bool) := (z1dp x0 x1).run
noncomputable def z1qk : Arg U (Machine × Int × Unit) := aA zj (aO (cInt .i64) (aNil))
noncomputable def z1qq (r : (Machine × Int × Bool)) : zR := ([vA zj r.1, vO (cInt .i64) r.2.1, vO z8 r.2.2], [])
noncomputable def z1qt : zS := zf z1qk bNil (fun x _ => z1jj x.1 x.2.1) z1qq
noncomputable def z1qn : Env U := zE (addF 104 false (z4h 55 56) fns115) noL 88 0
theorem z1yg (x : Machine × Int × Unit) (g : Unit) : zk z1qn Tryz.f67 (z1qk.enc x) (bNil.enc g) = (z1dp x.1 x.2.1).map z1qq := by kernel_rfl
theorem z1zs : FnOk Tryz.prog cd 67 z1qt := zm (E := z1qn) zg (za z5r z1mv) Tryz.func67 (by kernel_rfl) (z9 (by kernel_rfl)) (zu z19 (ze (z3 .i64) (zd))) z7 (T := fun x _ => z1dp x.1 x.2.1) (fun _ _ => rfl) z1yg
noncomputable def fns67 := addF 67 true z1qt fns115
theorem z1sg : zF fns67 := za z1zs z1mv
noncomputable def z17q (q : Option Nat) (x0 : Machine) (x1 : Int) (x2 : Bool) : Tree (Machine × Int × Int) :=
 .ite (decide ((IntKind.wrap .i64 (((BitVec.ofInt 64 x1 &&& BitVec.ofInt 64 (262143 : Int)).toNat : Int))) < (253952 : Int)))
 (.opt (Int × Int) (zmj q x0.mem x0.bad (IntKind.wrap .i64 (((BitVec.ofInt 64 x1 &&& BitVec.ofInt 64 (262143 : Int)).toNat : Int))) x2) fun r167 =>
 .leaf ((x0, r167.1, r167.2)))
 (.ite (!x2)
 (.ite (decide ((2 : Int) = 0))
 .fail
 (.ite (!decide ((((IntKind.wrap .i64 (((BitVec.ofInt 64 x1 &&& BitVec.ofInt 64 (262143 : Int)).toNat : Int)))).tmod (2 : Int)) = (0 : Int)))
 (.leaf ((x0, (0 : Int), (1 : Int))))
 (.opt (Machine × Int × Bool) (z1jj x0 (IntKind.wrap .i64 (((BitVec.ofInt 64 (IntKind.wrap .i64 ((IntKind.wrap .i64 (((BitVec.ofInt 64 x1 &&& BitVec.ofInt 64 (262143 : Int)).toNat : Int))) - (253952 : Int))) &&& ~~~BitVec.ofInt 64 (1 : Int)).toNat : Int)))) fun r168 =>
 .ite (!r168.2.2)
 (.leaf ((x0, (0 : Int), (1 : Int))))
 (.ite (x2)
 (.ite (decide ((2 : Int) = 0))
 .fail
 (.ite (!decide ((((IntKind.wrap .i64 (((BitVec.ofInt 64 x1 &&& BitVec.ofInt 64 (262143 : Int)).toNat : Int)))).tmod (2 : Int)) = (0 : Int)))
 (.ite (decide (0 ≤ (8 : Int)))
 (.leaf ((r168.1, (r168.2.1).fdiv (2 ^ (min ((8 : Int)).toNat 64)), (0 : Int))))
 .fail)
 (.ite (x2)
 (.leaf ((r168.1, IntKind.wrap .i64 (((BitVec.ofInt 64 r168.2.1 &&& BitVec.ofInt 64 (255 : Int)).toNat : Int)), (0 : Int))))
 (.leaf ((r168.1, r168.2.1, (0 : Int)))))))
 (.ite (x2)
 (.leaf ((r168.1, IntKind.wrap .i64 (((BitVec.ofInt 64 r168.2.1 &&& BitVec.ofInt 64 (255 : Int)).toNat : Int)), (0 : Int))))
 (.leaf ((r168.1, r168.2.1, (0 : Int)))))))))
 (.opt (Machine × Int × Bool) (z1jj x0 (IntKind.wrap .i64 (((BitVec.ofInt 64 (IntKind.wrap .i64 ((IntKind.wrap .i64 (((BitVec.ofInt 64 x1 &&& BitVec.ofInt 64 (262143 : Int)).toNat : Int))) - (253952 : Int))) &&& ~~~BitVec.ofInt 64 (1 : Int)).toNat : Int)))) fun r169 =>
 .ite (!r169.2.2)
 (.leaf ((x0, (0 : Int), (1 : Int))))
 (.ite (x2)
 (.ite (decide ((2 : Int) = 0))
 .fail
 (.ite (!decide ((((IntKind.wrap .i64 (((BitVec.ofInt 64 x1 &&& BitVec.ofInt 64 (262143 : Int)).toNat : Int)))).tmod (2 : Int)) = (0 : Int)))
 (.ite (decide (0 ≤ (8 : Int)))
 (.leaf ((r169.1, (r169.2.1).fdiv (2 ^ (min ((8 : Int)).toNat 64)), (0 : Int))))
 .fail)
 (.ite (x2)
 (.leaf ((r169.1, IntKind.wrap .i64 (((BitVec.ofInt 64 r169.2.1 &&& BitVec.ofInt 64 (255 : Int)).toNat : Int)), (0 : Int))))
 (.leaf ((r169.1, r169.2.1, (0 : Int)))))))
 (.ite (x2)
 (.leaf ((r169.1, IntKind.wrap .i64 (((BitVec.ofInt 64 r169.2.1 &&& BitVec.ofInt 64 (255 : Int)).toNat : Int)), (0 : Int))))
 (.leaf ((r169.1, r169.2.1, (0 : Int))))))))
noncomputable def zdi (q : Option Nat) (x0 : Machine) (x1 : Int) (x2 : Bool) : Option (Machine × Int × Int) := (z17q q x0 x1 x2).run
theorem zjg (k : Nat) (x0 : Machine) (x1 : Int) (x2 : Bool) : Le (zdi (some k) x0 x1 x2) (zdi none x0 x1 x2) := (TLe.ite (TLe.opt (z1oo k _ _ _ _) fun _ => TLe.rfl) TLe.rfl)
noncomputable def z1lo : Arg U (Machine × Int × Bool × Unit) := aA zj (aO (cInt .i64) (aO z8 (aNil)))
noncomputable def z1lz (r : (Machine × Int × Int)) : zR := ([vA zj r.1, vO (cInt .i64) r.2.1, vO (cInt .i64) r.2.2], [])
noncomputable def z1m4 : zS := zf z1lo bNil (fun x _ => zdi none x.1 x.2.1 x.2.2.1) z1lz
noncomputable def z1lt : Env U := zE fns67 noL 68 0
theorem z1wc (x : Machine × Int × Bool × Unit) (g : Unit) : zk z1lt Tryz.f27 (z1lo.enc x) (bNil.enc g) = (z17q none x.1 x.2.1 x.2.2.1).map z1lz := by kernel_rfl
theorem z1y8 : FnOk Tryz.prog cd 27 z1m4 := zm (E := z1lt) zg z1sg Tryz.func27 (by kernel_rfl) (z9 (by kernel_rfl)) (zu z19 (ze (z3 .i64) (ze zn (zd)))) z7 (T := fun x _ => z17q none x.1 x.2.1 x.2.2.1) (fun _ _ => rfl) z1wc
noncomputable def fns27 := addF 27 true z1m4 fns67
theorem z1rr : zF fns27 := za z1y8 z1sg
noncomputable def zqk (q : Option Nat)  : Tree Bool :=
 .opt (Machine × Int) (zu0 q (256 : Int) (1 : Int) (1 : Int)) fun r170 =>
 .opt (Machine × Int) (zh8 q r170.1 (10 : Int) false (4660 : Int)) fun r171 =>
 .opt (Machine × Int × Int) (zdi q r171.1 (11 : Int) true) fun r172 =>
 .opt (Machine × Int × Int) (zdi q r170.1 (256 : Int) false) fun r173 =>
 .opt (Machine × Int × Int) (zdi q r170.1 (11 : Int) false) fun r174 =>
 .opt (Machine × Int × Int) (zdi q (Machine.mk r170.1.cpu r170.1.mem r170.1.bad r170.1.mmu (Clock.mk true true r170.1.clock.period r170.1.clock.left) r170.1.lines r170.1.disk r170.1.tape r170.1.now r170.1.halted r170.1.waiting r170.1.power r170.1.powerTrap) (254208 : Int) false) fun r175 =>
 .opt (Machine × Int × Int) (zdi q (Machine.mk r170.1.cpu r170.1.mem r170.1.bad r170.1.mmu (Clock.mk true true r170.1.clock.period r170.1.clock.left) r170.1.lines r170.1.disk r170.1.tape r170.1.now r170.1.halted r170.1.waiting r170.1.power r170.1.powerTrap) (254209 : Int) true) fun r176 =>
 .opt (Machine × Int) (zh8 q r170.1 (254208 : Int) true (64 : Int)) fun r177 =>
 .opt (Machine × Int) (zh8 q r170.1 (254209 : Int) true (64 : Int)) fun r178 =>
 .ite (decide (r170.2 = (0 : Int)))
 (.ite (decide (r171.2 = (0 : Int)))
 (.ite (decide (r172.2.2 = (0 : Int)))
 (.ite (decide (r172.2.1 = (18 : Int)))
 (.ite (decide (r173.2.2 = (1 : Int)))
 (.ite (decide (r174.2.2 = (1 : Int)))
 (.ite (decide (r175.2.2 = (0 : Int)))
 (.ite (decide (r175.2.1 = (192 : Int)))
 (.ite (decide (r176.2.2 = (0 : Int)))
 (.ite (decide (r176.2.1 = (0 : Int)))
 (.ite (decide (r177.2 = (0 : Int)))
 (.ite (r177.1.clock.enable)
 (.leaf (decide (r178.2 = (1 : Int))))
 (.leaf (false)))
 (.leaf (false)))
 (.leaf (false)))
 (.leaf (false)))
 (.leaf (false)))
 (.leaf (false)))
 (.leaf (false)))
 (.leaf (false)))
 (.leaf (false)))
 (.leaf (false)))
 (.leaf (false)))
 (.leaf (false))
noncomputable def z8e (q : Option Nat)  : Option Bool := (zqk q ).run
theorem z1on (k : Nat)  : Le (z8e (some k) ) (z8e none ) := (TLe.opt (z1vp k _ _ _) fun _ => (TLe.opt (zw9 k _ _ _ _) fun _ => (TLe.opt (zjg k _ _ _) fun _ => (TLe.opt (zjg k _ _ _) fun _ => (TLe.opt (zjg k _ _ _) fun _ => (TLe.opt (zjg k _ _ _) fun _ => (TLe.opt (zjg k _ _ _) fun _ => (TLe.opt (zw9 k _ _ _ _) fun _ => (TLe.opt (zw9 k _ _ _ _) fun _ => TLe.rfl)))))))))
noncomputable def z14y : Arg U (Unit) := aNil
noncomputable def z16i (r : Bool) : zR := ([vO z8 r], [])
noncomputable def z177 : zS := zf z14y bNil (fun x _ => z8e none ) z16i
noncomputable def z15t : Env U := zE fns27 noL 130 0
theorem z1l2 (x : Unit) (g : Unit) : zk z15t Tryz.f7 (z14y.enc x) (bNil.enc g) = (zqk none ).map z16i := by kernel_rfl
theorem z1p5 : FnOk Tryz.prog cd 7 z177 := zm (E := z15t) zg z1rr Tryz.func7 (by kernel_rfl) (z9 (by kernel_rfl)) (zd) z7 (T := fun x _ => zqk none ) (fun _ _ => rfl) z1l2
noncomputable def fns7 := addF 7 true z177 fns27
theorem z1x2 : zF fns7 := za z1p5 z1rr
noncomputable def zfi (x0 : Clock) : Tree Clock :=
 .ite (decide ((IntKind.wrap .i64 (x0.left - (1 : Int))) = (0 : Int)))
 (.leaf (Clock.mk x0.enable true x0.period x0.period))
 (.leaf (Clock.mk x0.enable x0.ready x0.period (IntKind.wrap .i64 (x0.left - (1 : Int)))))
noncomputable def ziq (x0 : Clock) : Option Clock := (zfi x0).run
noncomputable def z1ah : Arg U (Clock × Unit) := aA cClock (aNil)
noncomputable def z1bv (r : Clock) : zR := ([vA cClock r], [])
noncomputable def z1cm : zS := zf z1ah bNil (fun x _ => ziq x.1) z1bv
noncomputable def z1b8 : Env U := zE fns7 noL 15 0
theorem z1pu (x : Clock × Unit) (g : Unit) : zk z1b8 Tryz.f118 (z1ah.enc x) (bNil.enc g) = (zfi x.1).map z1bv := by kernel_rfl
theorem z1tg : FnOk Tryz.prog cd 118 z1cm := zm (E := z1b8) zg z1x2 Tryz.func118 (by kernel_rfl) (z9 (by kernel_rfl)) (zu zbo (zd)) z7 (T := fun x _ => zfi x.1) (fun _ _ => rfl) z1pu
noncomputable def fns118 := addF 118 true z1cm fns7
theorem z1mx : zF fns118 := za z1tg z1x2
noncomputable def zab (x0 : Machine) (x1 : Clock) : Tree Machine :=
 .leaf (Machine.mk x0.cpu x0.mem x0.bad x0.mmu x1 x0.lines x0.disk x0.tape x0.now x0.halted x0.waiting x0.power x0.powerTrap)
noncomputable def zeq (x0 : Machine) (x1 : Clock) : Option Machine := (zab x0 x1).run
noncomputable def zs7 : Arg U (Machine × Clock × Unit) := aA zj (aA cClock (aNil))
noncomputable def zsw (r : Machine) : zR := ([vA zj r], [])
noncomputable def zt1 : zS := zf zs7 bNil (fun x _ => zeq x.1 x.2.1) zsw
noncomputable def zsj : Env U := zE fns118 noL 8 0
theorem z1a7 (x : Machine × Clock × Unit) (g : Unit) : zk zsj Tryz.f116 (zs7.enc x) (bNil.enc g) = (zab x.1 x.2.1).map zsw := by kernel_rfl
theorem z1ed : FnOk Tryz.prog cd 116 zt1 := zm (E := zsj) zg z1mx Tryz.func116 (by kernel_rfl) (z9 (by kernel_rfl)) (zu z19 (zu zbo (zd))) z7 (T := fun x _ => zab x.1 x.2.1) (fun _ _ => rfl) z1a7
noncomputable def fns116 := addF 116 true zt1 fns118
theorem z1mw : zF fns116 := za z1ed z1mx
noncomputable def zb7 (x0 : (List Int)) (x1 : Int) (x2 : Int) : Tree Bool :=
 .ite (decide ((0 : Int) ≤ x1))
 (.ite (decide ((0 : Int) ≤ x2))
 (.ite (decide (x1 ≤ (IntKind.wrap .i64 ((2 : Int) * (x0.length : Int)))))
 (.leaf (decide (x2 ≤ (IntKind.wrap .i64 ((IntKind.wrap .i64 ((2 : Int) * (x0.length : Int))) - x1)))))
 (.leaf (false)))
 (.leaf (false)))
 (.leaf (false))
noncomputable def z6m (x0 : (List Int)) (x1 : Int) (x2 : Int) : Option Bool := (zb7 x0 x1 x2).run
noncomputable def zwm : Arg U ((List Int) × Int × Int × Unit) := aO (cSl 3) (aO (cInt .i64) (aO (cInt .i64) (aNil)))
noncomputable def zy3 (r : Bool) : zR := ([vO z8 r], [])
noncomputable def zyd : zS := zf zwm bNil (fun x _ => z6m x.1 x.2.1 x.2.2.1) zy3
noncomputable def zxe : Env U := zE fns116 noL 29 0
theorem z1f5 (x : (List Int) × Int × Int × Unit) (g : Unit) : zk zxe Tryz.f188 (zwm.enc x) (bNil.enc g) = (zb7 x.1 x.2.1 x.2.2.1).map zy3 := by kernel_rfl
theorem z1ii : FnOk Tryz.prog cd 188 zyd := zm (E := zxe) zg z1mw Tryz.func188 (by kernel_rfl) (z9 (by kernel_rfl)) (ze (zi 3) (ze (z3 .i64) (ze (z3 .i64) (zd)))) z7 (T := fun x _ => zb7 x.1 x.2.1 x.2.2.1) (fun _ _ => rfl) z1f5
noncomputable def fns188 := addF 188 true zyd fns116
theorem z1np : zF fns188 := za z1ii z1mw
structure z3x where
  t0 : (List Int)
  t1 : Int
  t19 : Int
  t20 : Int
  b0 : (List Int)
noncomputable def z44 (s : z3x) : Tree (z3x ⊕ (List Int)) :=
 .ite (decide (s.t20 < s.t19))
 (.ite (decide ((2 : Int) = 0))
 .fail
 (.ite (decide (0 ≤ IntKind.wrap .i64 (((IntKind.wrap .i64 (s.t1 + s.t20))).tdiv (2 : Int))))
 (.opt Int (s.t0[(IntKind.wrap .i64 (((IntKind.wrap .i64 (s.t1 + s.t20))).tdiv (2 : Int))).toNat]?) fun y180 =>
 .ite (decide ((2 : Int) = 0))
 .fail
 (.ite (decide (0 ≤ (IntKind.wrap .i64 ((((IntKind.wrap .i64 (s.t1 + s.t20))).tmod (2 : Int)) * (8 : Int)))))
 (.ite (decide (0 ≤ s.t20))
 (.ite (decide (s.t20 < (s.b0.length : Int)))
 (.opt Int (s.b0[(s.t20).toNat]?) fun y181 =>
 .leaf (.inl (z3x.mk s.t0 s.t1 s.t19 (IntKind.wrap .i64 (s.t20 + (1 : Int))) (s.b0.set ((s.t20).toNat) (IntKind.wrap .u8 ((y180).fdiv (2 ^ (min ((IntKind.wrap .i64 ((((IntKind.wrap .i64 (s.t1 + s.t20))).tmod (2 : Int)) * (8 : Int)))).toNat 64))))))))
 .fail)
 .fail)
 .fail))
 .fail))
 (.leaf (.inr s.b0))
noncomputable def z3v (q : Option Nat) (s : z3x) : Option (List Int) := limQ q (fun s => (z44 s).run) s
noncomputable def zc4 (q : Option Nat) (x0 : (List Int)) (x1 : Int) (x2 : Int) : Tree ((List UInt8) × Int) :=
 .opt Bool (z6m x0 x1 x2) fun r179 =>
 .ite (!r179)
 (.leaf ((([] : List UInt8), (2 : Int))))
 (.ite (decide (x2 = x2))
 (.ite (decide (0 ≤ x2))
 (.ite (decide ((1 : Int) * x2 ≤ 281474976710656))
 (.opt (List Int) (z3v q (z3x.mk x0 x1 ((List.replicate (x2).toNat (0 : Int)).length : Int) (0 : Int) (List.replicate (x2).toNat (0 : Int)))) fun l182 =>
 .leaf ((l182.map fun x => UInt8.ofNat x.toNat, (0 : Int))))
 .fail)
 .fail)
 .fail)
noncomputable def z8v (q : Option Nat) (x0 : (List Int)) (x1 : Int) (x2 : Int) : Option ((List UInt8) × Int) := (zc4 q x0 x1 x2).run
noncomputable def z11i : Arg U ((List Int) × Int × Int × Unit) := aO (cSl 3) (aO (cInt .i64) (aO (cInt .i64) (aNil)))
noncomputable def z12i (r : ((List UInt8) × Int)) : zR := ([vO cStr r.1, vO (cInt .i64) r.2], [])
noncomputable def z130 : zS := zf z11i bNil (fun x _ => z8v none x.1 x.2.1 x.2.2.1) z12i
noncomputable def zso (x : ((List Int) × Unit) × (Int × Unit) × (Unit) × (Int × Unit) × (Int × Unit) × Unit) (g : (List Int) × Unit) : z3x := z3x.mk x.1.1 x.2.1.1 x.2.2.2.1.1 x.2.2.2.2.1.1 g.1
noncomputable def zrc : Tms U (((List Int) × Unit) × (Int × Unit) × (Unit) × (Int × Unit) × (Int × Unit) × Unit) := tO 0 (z0 (cSl 3) (z1)) (tO 1 (z0 (cInt .i64) (z1)) (tO 8 (cK (.row 0 0) (z1)) (tO 19 (z0 (cInt .i64) (z1)) (tO 20 (z0 (cInt .i64) (z1)) (tNil)))))
noncomputable def zrk : Bls U ((List Int) × Unit) := bRv 5 0 (bNil)
noncomputable def zgh (s : z3x) : St U := { tm := [(0, .v (vO (z0 (cSl 3) (z1)) (s.t0, ()))), (1, .v (vO (z0 (cInt .i64) (z1)) (s.t1, ()))), (8, .v (vO (cK (.row 0 0) (z1)) (()))), (19, .v (vO (z0 (cInt .i64) (z1)) (s.t19, ()))), (20, .v (vO (z0 (cInt .i64) (z1)) (s.t20, ())))], hp := [.row 5 0 s.b0] }
noncomputable def zh1 (r : (List Int)) : Ex × St U := (.exit 0, { tm := [(8, .v (vO (cK (.row 0 0) (z1)) (())))], hp := [.row 5 0 r] })
noncomputable def zry (r : (List Int)) : Tree (Ex × St U) := .leaf (zh1 r)
noncomputable def ztf : Hd := { keep := [0, 1, 8, 19, 20], xkeep := [6, 7, 8], own := false }
noncomputable def zfx : Env U := zE fns188 (addL 0 ztf (z1f zrc zrk zso (z3v none) zry) noL) 42 0
noncomputable def zsb : Code := (loopAt (Tryz.f179.body.getD .skip) 0 0).getD .skip
theorem z14h (s : z3x) : round zfx ztf zsb 0 (zgh s) = (z44 s).map (sumE zgh zh1) := by kernel_rfl
theorem z1e2 : LpOk zfx zsb 0 := zy (A := zrc) (B := zrk) (f := zso) (L := z3v none) (zb (z2 (zi 3) z6) (zb (z2 (z3 .i64) z6) (zb (z10 z6) (zb (z2 (z3 .i64) z6) (zb (z2 (z3 .i64) z6) z12))))) (z1m z7) (enc := zgh) (out := zry) (outS := zh1) (step := z44) (fun _ => rfl) (fun _ _ => by kernel_rfl) (by kernel_rfl) (fun _ => rfl) z14h
theorem z1iz (x : (List Int) × Int × Int × Unit) (g : Unit) : zk zfx Tryz.f179 (z11i.enc x) (bNil.enc g) = (zc4 none x.1 x.2.1 x.2.2.1).map z12i := by kernel_rfl
theorem z1k8 : FnOk Tryz.prog cd 179 z130 := zm (E := zfx) zg z1np Tryz.func179 (by kernel_rfl) (z14 (z11 z1e2 z1j)) (ze (zi 3) (ze (z3 .i64) (ze (z3 .i64) (zd)))) z7 (T := fun x _ => zc4 none x.1 x.2.1 x.2.2.1) (fun _ _ => rfl) z1iz
noncomputable def fns179 := addF 179 true z130 fns188
theorem z1zf : zF fns179 := za z1k8 z1np
noncomputable def z10f (x0 : Drive) : Option (List Int) := wornF x0.bad
noncomputable def zw0 : zS := zf (aA cDrive aNil) bNil (fun x _ => z10f x.1) fun r => ([vO cMp r], [])
section
open Go.RowKit Go.Maps
set_option maxRecDepth 100000 in
theorem z1v9 (s1 : Value) (a : Option Addr) (cap : Nat) (w : World) :
    Calls Tryz.prog 191 #[.agg #[s1, .slice a 0 cap]] w fun e w' => ∃ r, e = .returned (.map (some r)) ∧ w.heap.size ≤ r ∧ TrueMap w' r [] ∧ Below w.heap.size w w' := by
  have hmm := @run_makeMap Tryz.prog
  go_enter Tryz.func191, Tryz.ntmps191
  go_wp2
  refine wp_loop_rounds 1 ?_
  rw [rounds_succ]
  go_wp2
  go_ret
  exact ⟨_, rfl, by simp, z19i _ (by simp), ((Below.refl _ _).alloc (Nat.le_refl _) _).alloc (by simp) _⟩
set_option maxRecDepth 100000 in
theorem z1wl (s1 : Value) (b off cap : Nat) (zs : List Int) (w : World) (hb : b < w.heap.size)
 (hc : ∀ j, j < zs.length → w.cell? ⟨b, off + j, none⟩ = some (.int .i64 (zs.getD j 0))) (hl : zs.length ≤ 140737488355328) :
    Calls Tryz.prog 191 #[.agg #[s1, .slice (some ⟨b, off, none⟩) zs.length cap]] w fun e w' => ∃ r, e = .returned (.map (some r)) ∧ w.heap.size ≤ r ∧ TrueMap w' r zs ∧ Below w.heap.size w w' := by
  have hmm := @run_makeMap Tryz.prog
  go_enter Tryz.func191, Tryz.ntmps191
  go_wp2
  go_loopw [10] (fun i wr => ∃ k : Nat, k ≤ zs.length ∧ i = .int .i64 k ∧ TrueMap wr (w.heap.size + 1) (zs.take k) ∧ Below w.heap.size w wr ∧ w.heap.size + 2 ≤ wr.heap.size)
 (fun i _ => zs.length - (intOf i).toNat)
  case atStart => exact ⟨0, Nat.zero_le _, rfl, z19i _ (by simp), ((Below.refl _ _).alloc (Nat.le_refl _) _).alloc (by simp) _, by simp⟩
  case round =>
    obtain ⟨k, hk, rfl, hown, hnx, hsz⟩ := hrel
    have hcx : k < zs.length → wr.cell? ⟨b, off + k, none⟩ = some (.int .i64 (zs.getD k 0)) := fun h => (hnx.cell (by exact hb)).trans (hc k h)
    go_wp2_with (first
      | (at_mapUpdate; refine zzk _ rfl _ _ _ 193 rfl 3 4 Tryz.underlying193 Tryz.underlying3 (w.heap.size + 1) _ rfl hown _ rfl rfl ?_; intro w1 hown1 hgrow1)
      | go_in)
    · have hlt : k < zs.length := by assumption
      go_roundw
      case rel =>
        have e : zs.take (k + 1) = zs.take k ++ [zs[k]] := by rw [List.take_add_one]; simp [List.getElem?_eq_getElem hlt]
        exact ⟨k + 1, by omega, by go_num, e ▸ hown1, hnx.grown hgrow1 hnx.size (fun j hj => by cases hj; omega), Nat.le_trans hsz hgrow1.size⟩
      case measure => simp [intOf]; omega
    · have : k = zs.length := by omega
      subst this
      go_ret
      exact ⟨_, rfl, by simp, by rw [List.take_length] at hown; exact hown, hnx⟩
theorem z19m (s1 : Value) (a : Option Addr) (l : List Int) (cap : Nat) (w : World) (hl : l.length ≤ 140737488355328) (h : l ≠ [] → ∃ k o, a = some (at0 k o) ∧ k < w.heap.size ∧ ∀ j, j < l.length → w.cell? ⟨k, o + j, none⟩ = some (.int .i64 (l.getD j 0))) :
    Calls Tryz.prog 191 #[.agg #[s1, .slice a l.length cap]] w fun e w' => ∃ r, e = .returned (.map (some r)) ∧ w.heap.size ≤ r ∧ TrueMap w' r l ∧ Below w.heap.size w w' := by
  by_cases hne : l = []
  · subst hne; exact z1v9 s1 a cap w
  · obtain ⟨k, o, rfl, hk, hc⟩ := h hne
    exact z1wl s1 k o cap l w hk hc hl
end
theorem z18p : FnOk Tryz.prog cd 191 zw0 := z22h (c := cDrive) (bad := fun x => x.bad) z2g Tryz.func191 (by kernel_rfl) (by kernel_rfl) (fun x => ⟨9, 3, x.sectors, x.bad, by kernel_rfl, (z1rh (cd := cd) (e := 3) (fun x => x) (fun _ => by kernel_rfl) x.bad).trans (congrArg (List.map fun n => C.int .i64 n) (List.map_id (α := Int) x.bad)), rfl⟩) z19m
noncomputable def fns191 := addF 191 true zw0 fns179
theorem z1ns : zF fns191 := za z18p z1zf
noncomputable def zp2 (x0 : Drive) (x1 : Int) : Tree Bool :=
 .ite (decide ((0 : Int) ≤ x1))
 (.leaf (decide (x1 < (x0.sectors.length : Int))))
 (.leaf (false))
noncomputable def ztd (x0 : Drive) (x1 : Int) : Option Bool := (zp2 x0 x1).run
noncomputable def z1fl : Arg U (Drive × Int × Unit) := aA cDrive (aO (cInt .i64) (aNil))
noncomputable def z1gh (r : Bool) : zR := ([vO z8 r], [])
noncomputable def zzu : zS := zf z1fl bNil (fun x _ => ztd x.1 x.2.1) z1gh
noncomputable def z1g3 : Env U := zE fns191 noL 14 0
theorem z1uj (x : Drive × Int × Unit) (g : Unit) : zk z1g3 Tryz.f190 (z1fl.enc x) (bNil.enc g) = (zp2 x.1 x.2.1).map z1gh := by kernel_rfl
theorem z1dj : FnOk Tryz.prog cd 190 zzu := zm (E := z1g3) zg z1ns Tryz.func190 (by kernel_rfl) (z9 (by kernel_rfl)) (zu z2g (ze (z3 .i64) (zd))) z7 (T := fun x _ => zp2 x.1 x.2.1) (fun _ _ => rfl) z1uj
noncomputable def fns190 := addF 190 true zzu fns191
theorem z1nr : zF fns190 := za z1dj z1ns
noncomputable def zqj (x0 : Drive) (x1 : (List Int)) (x2 : Write) : Tree Int :=
 .opt Bool (ztd x0 x2.sector) fun r183 =>
 .ite (!r183)
 (.leaf ((2 : Int)))
 (.ite (decide ((128 : Int) < (x2.data.length : Int)))
 (.leaf ((7 : Int)))
 (.ite (memI x1 x2.sector)
 (.leaf ((21 : Int)))
 (.leaf ((0 : Int)))))
noncomputable def z1vj (x0 : Drive) (x1 : (List Int)) (x2 : Write) : Option Int := (zqj x0 x1 x2).run
noncomputable def z14w : Arg U (Drive × (List Int) × Write × Unit) := aA cDrive (aO cMp (aA cWrite (aNil)))
noncomputable def z16g (r : Int) : zR := ([vO (cInt .i64) r], [])
noncomputable def zqc : zS := zf z14w bNil (fun x _ => z1vj x.1 x.2.1 x.2.2.1) z16g
noncomputable def z15s : Env U := zE fns190 noL 23 0
theorem z1l0 (x : Drive × (List Int) × Write × Unit) (g : Unit) : zk z15s Tryz.f195 (z14w.enc x) (bNil.enc g) = (zqj x.1 x.2.1 x.2.2.1).map z16g := by kernel_rfl
theorem z13l : FnOk Tryz.prog cd 195 zqc := zm (E := z15s) zg z1nr Tryz.func195 (by kernel_rfl) (z9 (by kernel_rfl)) (zu z2g (ze z1r5 (zu z17y (zd)))) z7 (T := fun x _ => zqj x.1 x.2.1 x.2.2.1) (fun _ _ => rfl) z1l0
noncomputable def fns195 := addF 195 true zqc fns190
theorem z1zg : zF fns195 := za z13l z1nr
noncomputable def strings_Repeat (x0 : (List UInt8)) (x1 : Int) : Option (List UInt8) := repF x0 x1
noncomputable def zt6 : zS := zf (aO cStr (aO (cInt .i64) aNil) : Arg U (List UInt8 × Int × Unit)) bNil (fun x _ => strings_Repeat x.1 x.2.1) fun r => ([vO cStr r], [])
end Go.Proofs.YtfdndagnolbnhaaGreat
namespace Go.Proofs
open Go.Shelf
shelf_lay Lays.n105 Nm 105 at Tryz as Tryz.lays196
theorem Tryz.extra196 : Builder.Extra Tryz.prog Tryz.lays196_ren where
  sizeBuilder := by kernel_rfl
  liesBuilder := by kernel_rfl
  t5 := Tryz.underlying5
  a5 := Tryz.isAgg5
  z5 := Tryz.sizeOf5
  v5 := Tryz.zeroValue5
  infoByte := by kernel_rfl
  cellsByte := by kernel_rfl
  sizeByte := by kernel_rfl
  neB5 := by decide
end Go.Proofs
namespace Go.Proofs.YtfdndagnolbnhaaGreat
open Go Go.Ab
theorem z1ek : FnOk Tryz.prog cd 196 zt6 := z230 Tryz.lays196 Tryz.extra196 Tryz.func196 (by kernel_rfl) (by kernel_rfl) rfl
noncomputable def fns196 := addF 196 true zt6 fns195
theorem zn0 : zF fns196 := za z1ek z1zg
end Go.Proofs.YtfdndagnolbnhaaGreat
namespace Go.Proofs
shelf_lay_g SlLaysE0.n41 Slgn 41 at Tryz 187 as Tryz.lays187
end Go.Proofs
namespace Go.Proofs.YtfdndagnolbnhaaGreat
open Go Go.Ab
theorem zbf : FnOk Tryz.prog cd 187 (z4h 9 16) := z182 zg Tryz.lays187 Tryz.func187 (by kernel_rfl) (by kernel_rfl) rfl rfl (by kernel_rfl)
noncomputable def zc2 (x0 : Drive) : Tree ((List (List UInt8)) × (List Int)) :=
 .opt (List (List UInt8)) (cloneF 16 x0.sectors) fun r185 =>
 .opt (List Int) (cloneF 8 x0.bad) fun r186 =>
 .leaf ((r185, r186))
noncomputable def zir (x0 : Drive) : Option ((List (List UInt8)) × (List Int)) := (zc2 x0).run
noncomputable def zfv : Arg U (Drive × Unit) := aA cDrive (aNil)
noncomputable def zg1 : Bls U (Unit) := bNil
noncomputable def znm (_x : Drive × Unit) (_g : Unit) (r : ((List (List UInt8)) × (List Int))) : zR := ([vA (cK (.row 1 0) (cK (.row 2 0) (z1))) (())], [.cells ((cK (.row 1 0) (cK (.row 2 0) (z1)) : Cdc U (Unit)).enc (())) none, .row 9 0 r.1, .row 3 0 r.2])
noncomputable def z12y : zS := mkSpecG zfv zg1 (fun x _ => zir x.1) znm
noncomputable def znk : Env U := { P := Tryz.prog, cd := cd, fns := (addF 187 false (z4h 9 16) (addF 101 false (z4h 3 8) fns196)), lps := noL, frz := fun _r => false, nt := 10, n0 := 0, fps := fun _r _i => bif Nat.beq _r 1 && Nat.beq _i 2 then .wr [] 2 else bif Nat.beq _r 1 && Nat.beq _i 3 then .rd [] else bif Nat.beq _r 1 && Nat.beq _i 4 then .rd [0] else .none }
theorem z1ks (x0 : Drive) : execX true znk Tryz.f194 (zfv.enc (x0, ())) (zg1.enc ()) = (zc2 x0).map (znm (x0, ()) ()) := by kernel_rfl
theorem z1ix : ∀ (x : Drive × Unit) (g : Unit), execX true znk Tryz.f194 (zfv.enc x) (zg1.enc g) = (zc2 x.1).map (znm x g)
  | (x0, ()), () => z1ks x0
theorem z1k6 : FnOk Tryz.prog cd 194 z12y := z5y (E := znk) (A := zfv) (B := zg1) true zg (za zbf (za z7i zn0)) Tryz.func194 (by kernel_rfl) (z9 (by kernel_rfl)) (zu z2g (zd)) z7 (T := fun (x : Drive × Unit) (_ : Unit) => zc2 x.1) (fun _ _ => rfl) z1ix
theorem z1oy : FnOk Tryz.prog cd 191 (mkSpecG (aA (cK (.row 0 0) (cK (.row 1 0) z1)) aNil : Arg U (Unit × Unit)) (bR 9 (bR 3 bNil)) (fun _ p => wornF (p.2.1.map fun x : U 3 => (x : Int))) fun _ p r => ([vO cMp r], [.row 9 0 p.1, .row 3 0 p.2.1])) := z21m (cd := cd) (e0 := 9) (e := 3) (g := fun x => x) (fun _ => by kernel_rfl) Tryz.func191 (by kernel_rfl) (by kernel_rfl) z19m
noncomputable def zc3 (x1 : Int) (g0 : (List (List UInt8))) (g1 : (List Int)) : Tree Bool :=
 .ite (decide ((0 : Int) ≤ x1))
 (.leaf (decide (x1 < (g0.length : Int))))
 (.leaf (false))
noncomputable def zqr (x1 : Int) (g0 : (List (List UInt8))) (g1 : (List Int)) : Option Bool := (zc3 x1 g0 g1).run
noncomputable def zfw : Arg U ((Unit) × Int × Unit) := aA (cK (.row 0 0) (cK (.row 1 0) (z1))) (aO (cInt .i64) (aNil))
noncomputable def zg2 : Bls U ((List (List UInt8)) × (List Int) × Unit) := bR 9 (bR 3 (bNil))
noncomputable def znn (_x : (Unit) × Int × Unit) (g : (List (List UInt8)) × (List Int) × Unit) (r : Bool) : zR := ([vO (z0 z8 (z1)) (r, ())], [.row 9 0 g.1, .row 3 0 g.2.1])
noncomputable def z12z : zS := mkSpecG zfw zg2 (fun x g => zqr x.2.1 g.1 g.2.1) znn
noncomputable def znl : Env U := zE fns196 noL 14 2
theorem z1kt (x1 : Int) (g0 : (List (List UInt8))) (g1 : (List Int)) : execX false znl Tryz.f190 (zfw.enc ((()), x1, ())) (zg2.enc (g0, g1, ())) = (zc3 x1 g0 g1).map (znn ((()), x1, ()) (g0, g1, ())) := by kernel_rfl
theorem z1iy : ∀ (x : (Unit) × Int × Unit) (g : (List (List UInt8)) × (List Int) × Unit), execX false znl Tryz.f190 (zfw.enc x) (zg2.enc g) = (zc3 x.2.1 g.1 g.2.1).map (znn x g)
  | ((()), x1, ()), (g0, g1, ()) => z1kt x1 g0 g1
theorem z1k7 : FnOk Tryz.prog cd 190 z12z := z5y (E := znl) (A := zfw) (B := zg2) false zg zn0 Tryz.func190 (by kernel_rfl) (z9 (by kernel_rfl)) (zu (z10 (z10 z6)) (ze (z3 .i64) (zd))) (zbu (zbu z7)) (T := fun (x : (Unit) × Int × Unit) (g : (List (List UInt8)) × (List Int) × Unit) => zc3 x.2.1 g.1 g.2.1) (fun _ _ => rfl) z1iy
noncomputable def zac (x1 : (List Int)) (x2 : Write) (g0 : (List (List UInt8))) (g1 : (List Int)) : Tree Int :=
 .opt Bool (zqr x2.sector g0 g1) fun r191 =>
 .ite (!r191)
 (.leaf ((2 : Int)))
 (.ite (decide ((128 : Int) < (x2.data.length : Int)))
 (.leaf ((7 : Int)))
 (.ite (memI x1 x2.sector)
 (.leaf ((21 : Int)))
 (.leaf ((0 : Int)))))
noncomputable def zbd (x1 : (List Int)) (x2 : Write) (g0 : (List (List UInt8))) (g1 : (List Int)) : Option Int := (zac x1 x2 g0 g1).run
noncomputable def zcm : Arg U ((Unit) × (List Int) × Write × Unit) := aA (cK (.row 0 0) (cK (.row 1 0) (z1))) (aO cMp (aA cWrite (aNil)))
noncomputable def zcr : Bls U ((List (List UInt8)) × (List Int) × Unit) := bR 9 (bR 3 (bNil))
noncomputable def zi0 (_x : (Unit) × (List Int) × Write × Unit) (g : (List (List UInt8)) × (List Int) × Unit) (r : Int) : zR := ([vO (z0 (cInt .i64) (z1)) (r, ())], [.row 9 0 g.1, .row 3 0 g.2.1])
noncomputable def zt3 : zS := mkSpecG zcm zcr (fun x g => zbd x.2.1 x.2.2.1 g.1 g.2.1) zi0
noncomputable def zhp : Env U := zE (addF 190 false (orSpec (z12z) (zzu)) fns196) noL 23 2
theorem z1ep (x1 : (List Int)) (x2 : Write) (g0 : (List (List UInt8))) (g1 : (List Int)) : execX false zhp Tryz.f195 (zcm.enc ((()), x1, x2, ())) (zcr.enc (g0, g1, ())) = (zac x1 x2 g0 g1).map (zi0 ((()), x1, x2, ()) (g0, g1, ())) := by kernel_rfl
theorem z1aa : ∀ (x : (Unit) × (List Int) × Write × Unit) (g : (List (List UInt8)) × (List Int) × Unit), execX false zhp Tryz.f195 (zcm.enc x) (zcr.enc g) = (zac x.2.1 x.2.2.1 g.1 g.2.1).map (zi0 x g)
  | ((()), x1, x2, ()), (g0, g1, ()) => z1ep x1 x2 g0 g1
theorem z1eg : FnOk Tryz.prog cd 195 zt3 := z5y (E := zhp) (A := zcm) (B := zcr) false zg (za (z18r z1k7 z1dj) zn0) Tryz.func195 (by kernel_rfl) (z9 (by kernel_rfl)) (zu (z10 (z10 z6)) (ze z1r5 (zu z17y (zd)))) (zbu (zbu z7)) (T := fun (x : (Unit) × (List Int) × Write × Unit) (g : (List (List UInt8)) × (List Int) × Unit) => zac x.2.1 x.2.2.1 g.1 g.2.1) (fun _ _ => rfl) z1aa
structure z4u where
  t1 : (List Write)
  t2 : Int
  t9 : (List Int)
  t17 : (List Write)
  t18 : Int
  t19 : Int
  b1 : Drive
  b2 : (List (List UInt8))
  b3 : (List Int)
noncomputable def z59 (s : z4u) : Tree (z4u ⊕ (((List Write) × Int × Int × (List (List UInt8)) × (List Int)) ⊕ ((List Write) × Drive × (List (List UInt8)) × (List Int)))) :=
 .ite (decide (s.t19 < s.t18))
 (.ite (decide (0 ≤ s.t19))
 (.opt Write (s.t17[(s.t19).toNat]?) fun y194 =>
 .ite (decide (s.t19 = s.t2))
 (.leaf (.inr (.inl (s.t1, s.t19, (0 : Int), s.b2, s.b3))))
 (.opt Int (zbd s.t9 y194 s.b2 s.b3) fun r195 =>
 .ite (!decide (r195 = (0 : Int)))
 (.leaf (.inr (.inl (s.t1, s.t19, r195, s.b2, s.b3))))
 (.opt (List UInt8) (strings_Repeat ([0] : List UInt8) (IntKind.wrap .i64 ((128 : Int) - (y194.data.length : Int)))) fun r196 =>
 .ite (decide (y194.data.length + r196.length ≤ 9223372036854775807))
 (.ite (decide (0 ≤ y194.sector))
 (.ite (decide (y194.sector < (s.b2.length : Int)))
 (.opt (List UInt8) (s.b2[(y194.sector).toNat]?) fun y197 =>
 .leaf (.inl (z4u.mk s.t1 s.t2 s.t9 s.t17 s.t18 (IntKind.wrap .i64 (s.t19 + (1 : Int))) s.b1 (s.b2.set ((y194.sector).toNat) (y194.data ++ r196)) s.b3)))
 .fail)
 .fail)
 .fail)))
 .fail)
 (.leaf (.inr (.inr (s.t1, s.b1, s.b2, s.b3))))
noncomputable def zav (q : Option Nat) (s : z4u) : Option (((List Write) × Int × Int × (List (List UInt8)) × (List Int)) ⊕ ((List Write) × Drive × (List (List UInt8)) × (List Int))) := limQ q (fun s => (z59 s).run) s
noncomputable def zdd (q : Option Nat) (x0 : Drive) (x1 : (List Write)) (x2 : Int) : Tree (Drive × Int × Int) :=
 .opt ((List (List UInt8)) × (List Int)) (zir x0) fun r192 =>
 .opt (List Int) (wornF (r192.2.map fun x : Int => x)) fun r193 =>
 .opt (((List Write) × Int × Int × (List (List UInt8)) × (List Int)) ⊕ ((List Write) × Drive × (List (List UInt8)) × (List Int))) (zav q (z4u.mk x1 x2 r193 x1 (x1.length : Int) (0 : Int) (Drive.mk ([]) ([])) r192.1 r192.2)) fun l198 =>
 .ite (l198.isLeft)
 (.opt ((List Write) × Int × Int × (List (List UInt8)) × (List Int)) (l198.getLeft?) fun a199 =>
 .leaf ((Drive.mk a199.2.2.2.1 a199.2.2.2.2, a199.2.1, a199.2.2.1)))
 (.opt ((List Write) × Drive × (List (List UInt8)) × (List Int)) (l198.getRight?) fun b200 =>
 .leaf ((Drive.mk b200.2.2.1 b200.2.2.2, (b200.1.length : Int), (0 : Int))))
noncomputable def zmd (q : Option Nat) (x0 : Drive) (x1 : (List Write)) (x2 : Int) : Option (Drive × Int × Int) := (zdd q x0 x1 x2).run
noncomputable def z14t : Arg U (Drive × (List Write) × Int × Unit) := aA cDrive (aO (cSl 191) (aO (cInt .i64) (aNil)))
noncomputable def z16d (r : (Drive × Int × Int)) : zR := ([vA cDrive r.1, vO (cInt .i64) r.2.1, vO (cInt .i64) r.2.2], [])
noncomputable def zqb : zS := zf z14t bNil (fun x _ => zmd none x.1 x.2.1 x.2.2.1) z16d
noncomputable def zxg (x : ((List Write) × Unit) × (Int × Unit) × (Unit) × (Unit) × ((List Int) × Unit) × ((List Write) × Unit) × (Int × Unit) × (Int × Unit) × Unit) (g : (Unit) × (Drive × Unit) × (List (List UInt8)) × (List Int) × Unit) : z4u := z4u.mk x.1.1 x.2.1.1 x.2.2.2.2.1.1 x.2.2.2.2.2.1.1 x.2.2.2.2.2.2.1.1 x.2.2.2.2.2.2.2.1.1 g.2.1.1 g.2.2.1 g.2.2.2.1
noncomputable def zu2 : Tms U (((List Write) × Unit) × (Int × Unit) × (Unit) × (Unit) × ((List Int) × Unit) × ((List Write) × Unit) × (Int × Unit) × (Int × Unit) × Unit) := tO 1 (z0 (cSl 191) (z1)) (tO 2 (z0 (cInt .i64) (z1)) (tO 3 (cK (.ptr 0 0) (z1)) (tO 6 (cK (.ptr 1 0) (z1)) (tO 9 (z0 cMp (z1)) (tO 17 (z0 (cSl 191) (z1)) (tO 18 (z0 (cInt .i64) (z1)) (tO 19 (z0 (cInt .i64) (z1)) (tNil))))))))
noncomputable def zuk : Bls U ((Unit) × (Drive × Unit) × (List (List UInt8)) × (List Int) × Unit) := bC (cK (.row 2 0) (cK (.row 3 0) (z1))) (bC (z0 cDrive (z1)) (bRv 9 0 (bRv 3 0 (bNil))))
noncomputable def zis (s : z4u) : St U := { tm := [(1, .v (vO (z0 (cSl 191) (z1)) (s.t1, ()))), (2, .v (vO (z0 (cInt .i64) (z1)) (s.t2, ()))), (3, .v (vO (cK (.ptr 0 0) (z1)) (()))), (6, .v (vO (cK (.ptr 1 0) (z1)) (()))), (9, .v (vO (z0 cMp (z1)) (s.t9, ()))), (17, .v (vO (z0 (cSl 191) (z1)) (s.t17, ()))), (18, .v (vO (z0 (cInt .i64) (z1)) (s.t18, ()))), (19, .v (vO (z0 (cInt .i64) (z1)) (s.t19, ())))], hp := [.cells ((cK (.row 2 0) (cK (.row 3 0) (z1)) : Cdc U (Unit)).enc (())) none, .cells ((z0 cDrive (z1) : Cdc U (Drive × Unit)).enc (s.b1, ())) none, .row 9 0 s.b2, .row 3 0 s.b3] }
noncomputable def zv6 : (((List Write) × Int × Int × (List (List UInt8)) × (List Int)) ⊕ ((List Write) × Drive × (List (List UInt8)) × (List Int))) → Ex × St U
  | .inl r => (.ret, { tm := [(1, .v (vO (z0 (cSl 191) (z1)) (r.1, ()))), (3, .v (vO (cK (.ptr 0 0) (z1)) (()))), (6, .v (vO (cK (.ptr 1 0) (z1)) (()))), (7, .v (vO (z0 (cInt .i64) (z1)) (r.2.1, ()))), (8, .v (vO (z0 (cInt .i64) (z1)) (r.2.2.1, ())))], hp := [.cells ((cK (.row 2 0) (cK (.row 3 0) (z1)) : Cdc U (Unit)).enc (())) none, .cells ((cK (.row 2 0) (cK (.row 3 0) (z1)) : Cdc U (Unit)).enc (())) none, .row 9 0 r.2.2.2.1, .row 3 0 r.2.2.2.2] })
  | .inr r => (.exit 0, { tm := [(1, .v (vO (z0 (cSl 191) (z1)) (r.1, ()))), (3, .v (vO (cK (.ptr 0 0) (z1)) (()))), (6, .v (vO (cK (.ptr 1 0) (z1)) (())))], hp := [.cells ((cK (.row 2 0) (cK (.row 3 0) (z1)) : Cdc U (Unit)).enc (())) none, .cells ((z0 cDrive (z1) : Cdc U (Drive × Unit)).enc (r.2.1, ())) none, .row 9 0 r.2.2.1, .row 3 0 r.2.2.2] })
noncomputable def zvi (y : (((List Write) × Int × Int × (List (List UInt8)) × (List Int)) ⊕ ((List Write) × Drive × (List (List UInt8)) × (List Int)))) : Tree (Ex × St U) := .ite y.isLeft (.opt ((List Write) × Int × Int × (List (List UInt8)) × (List Int)) y.getLeft? fun r => .leaf (.ret, { tm := [(1, .v (vO (z0 (cSl 191) (z1)) (r.1, ()))), (3, .v (vO (cK (.ptr 0 0) (z1)) (()))), (6, .v (vO (cK (.ptr 1 0) (z1)) (()))), (7, .v (vO (z0 (cInt .i64) (z1)) (r.2.1, ()))), (8, .v (vO (z0 (cInt .i64) (z1)) (r.2.2.1, ())))], hp := [.cells ((cK (.row 2 0) (cK (.row 3 0) (z1)) : Cdc U (Unit)).enc (())) none, .cells ((cK (.row 2 0) (cK (.row 3 0) (z1)) : Cdc U (Unit)).enc (())) none, .row 9 0 r.2.2.2.1, .row 3 0 r.2.2.2.2] })) (.opt ((List Write) × Drive × (List (List UInt8)) × (List Int)) y.getRight? fun r => .leaf (.exit 0, { tm := [(1, .v (vO (z0 (cSl 191) (z1)) (r.1, ()))), (3, .v (vO (cK (.ptr 0 0) (z1)) (()))), (6, .v (vO (cK (.ptr 1 0) (z1)) (())))], hp := [.cells ((cK (.row 2 0) (cK (.row 3 0) (z1)) : Cdc U (Unit)).enc (())) none, .cells ((z0 cDrive (z1) : Cdc U (Drive × Unit)).enc (r.2.1, ())) none, .row 9 0 r.2.2.1, .row 3 0 r.2.2.2] }))
noncomputable def zyn : Hd := { keep := [1, 2, 3, 6, 9, 17, 18, 19], xkeep := [1, 3, 6, 7, 8], own := false }
noncomputable def zho : Env U := zE (addF 195 false (orSpec (zt3) (zqc)) (addF 194 false (z12y) (addF 191 false (orSpec ((mkSpecG (aA (cK (.row 0 0) (cK (.row 1 0) z1)) aNil : Arg U (Unit × Unit)) (bR 9 (bR 3 bNil)) (fun _ p => wornF (p.2.1.map fun x : U 3 => (x : Int))) fun _ p r => ([vO cMp r], [.row 9 0 p.1, .row 3 0 p.2.1]))) (zw0)) fns196))) (addL 0 zyn (z1f zu2 zuk zxg (zav none) zvi) noL) 55 0
noncomputable def zwr : Code := (loopAt (Tryz.f189.body.getD .skip) 0 0).getD .skip
theorem z18t (s : z4u) : round zho zyn zwr 0 (zis s) = (z59 s).map (sumE zis zv6) := by kernel_rfl
theorem z1hu : LpOk zho zwr 0 := zy (A := zu2) (B := zuk) (f := zxg) (L := zav none) (zb (z2 (zi 191) z6) (zb (z2 (z3 .i64) z6) (zb (z10 z6) (zb (z10 z6) (zb (z2 z1r5 z6) (zb (z2 (zi 191) z6) (zb (z2 (z3 .i64) z6) (zb (z2 (z3 .i64) z6) z12)))))))) (z13 (z10 (z10 z6)) (z13 (z2 z2g z6) (z1m (z1m z7)))) (enc := zis) (out := zvi) (outS := zv6) (step := z59) (fun _ => rfl) (fun _ _ => by kernel_rfl) (by kernel_rfl) (fun b => by cases b <;> rfl) z18t
theorem z1kx (x : Drive × (List Write) × Int × Unit) (g : Unit) : zk zho Tryz.f189 (z14t.enc x) (bNil.enc g) = (zdd none x.1 x.2.1 x.2.2.1).map z16d := by kernel_rfl
theorem z13k : FnOk Tryz.prog cd 189 zqb := zm (E := zho) zg (za (z18r z1eg z13l) (za z1k6 (za (z18r z1oy z18p) zn0))) Tryz.func189 (by kernel_rfl) (z14 (z11 z1hu z1j)) (zu z2g (ze (zi 191) (ze (z3 .i64) (zd)))) z7 (T := fun x _ => zdd none x.1 x.2.1 x.2.2.1) (fun _ _ => rfl) z1kx
noncomputable def fns189 := addF 189 true zqb fns196
theorem z1nq : zF fns189 := za z13k zn0
noncomputable def zde (q : Option Nat) (x0 : Drive) (x1 : Int) (x2 : (List UInt8)) : Tree (Drive × Int) :=
 .opt (Drive × Int × Int) (zmd q x0 ([Write.mk x1 x2]) (-1 : Int)) fun r201 =>
 .ite (!decide (r201.2.2 = (0 : Int)))
 (.leaf ((Drive.mk ([]) ([]), r201.2.2)))
 (.leaf ((r201.1, (0 : Int))))
noncomputable def zfl (q : Option Nat) (x0 : Drive) (x1 : Int) (x2 : (List UInt8)) : Option (Drive × Int) := (zde q x0 x1 x2).run
noncomputable def z14v : Arg U (Drive × Int × (List UInt8) × Unit) := aA cDrive (aO (cInt .i64) (aO cStr (aNil)))
noncomputable def z16f (r : (Drive × Int)) : zR := ([vA cDrive r.1, vO (cInt .i64) r.2], [])
noncomputable def z175 : zS := zf z14v bNil (fun x _ => zfl none x.1 x.2.1 x.2.2.1) z16f
noncomputable def z15r : Env U := zE (addF 189 false (frzSpec zqb) fns189) noL 26 0
theorem z1kz (x : Drive × Int × (List UInt8) × Unit) (g : Unit) : zk z15r Tryz.f181 (z14v.enc x) (bNil.enc g) = (zde none x.1 x.2.1 x.2.2.1).map z16f := by kernel_rfl
theorem z1p3 : FnOk Tryz.prog cd 181 z175 := zm (E := z15r) zg (za (z20x zg (z1y5 fun _ => rfl) z13k) z1nq) Tryz.func181 (by kernel_rfl) (z9 (by kernel_rfl)) (zu z2g (ze (z3 .i64) (ze z5a (zd)))) z7 (T := fun x _ => zde none x.1 x.2.1 x.2.2.1) (fun _ _ => rfl) z1kz
noncomputable def fns181 := addF 181 true z175 fns189
theorem z1nn : zF fns181 := za z1p3 z1nq
noncomputable def zls (x0 : Drive) (x1 : Int) : Tree ((List UInt8) × Int) :=
 .opt Bool (ztd x0 x1) fun r202 =>
 .ite (!r202)
 (.leaf ((([] : List UInt8), (2 : Int))))
 (.opt (List Int) (z10f x0) fun r203 =>
 .ite (memI r203 x1)
 (.leaf ((([] : List UInt8), (21 : Int))))
 (.ite (decide (0 ≤ x1))
 (.opt (List UInt8) (x0.sectors[(x1).toNat]?) fun y204 =>
 .leaf ((y204, (0 : Int))))
 .fail))
noncomputable def zp7 (x0 : Drive) (x1 : Int) : Option ((List UInt8) × Int) := (zls x0 x1).run
noncomputable def z1ai : Arg U (Drive × Int × Unit) := aA cDrive (aO (cInt .i64) (aNil))
noncomputable def z1bw (r : ((List UInt8) × Int)) : zR := ([vO cStr r.1, vO (cInt .i64) r.2], [])
noncomputable def z1cn : zS := zf z1ai bNil (fun x _ => zp7 x.1 x.2.1) z1bw
noncomputable def z1b9 : Env U := zE fns181 noL 21 0
theorem z1pv (x : Drive × Int × Unit) (g : Unit) : zk z1b9 Tryz.f183 (z1ai.enc x) (bNil.enc g) = (zls x.1 x.2.1).map z1bw := by kernel_rfl
theorem z1th : FnOk Tryz.prog cd 183 z1cn := zm (E := z1b9) zg z1nn Tryz.func183 (by kernel_rfl) (z9 (by kernel_rfl)) (zu z2g (ze (z3 .i64) (zd))) z7 (T := fun x _ => zls x.1 x.2.1) (fun _ _ => rfl) z1pv
noncomputable def fns183 := addF 183 true z1cn fns181
theorem z1no : zF fns183 := za z1th z1nn
structure z40 where
  t1 : Int
  t2 : (List UInt8)
  t21 : Int
  t22 : Int
  b0 : (List Int)
noncomputable def z46 (s : z40) : Tree (z40 ⊕ (List Int)) :=
 .ite (decide (s.t22 < s.t21))
 (.ite (decide ((2 : Int) = 0))
 .fail
 (.ite (decide ((2 : Int) = 0))
 .fail
 (.ite (decide ((2 : Int) = 0))
 .fail
 (.ite (decide (0 ≤ IntKind.wrap .i64 (((IntKind.wrap .i64 (s.t1 + s.t22))).tdiv (2 : Int))))
 (.ite (decide (IntKind.wrap .i64 (((IntKind.wrap .i64 (s.t1 + s.t22))).tdiv (2 : Int)) < (s.b0.length : Int)))
 (.opt Int (s.b0[(IntKind.wrap .i64 (((IntKind.wrap .i64 (s.t1 + s.t22))).tdiv (2 : Int))).toNat]?) fun y207 =>
 .ite (decide (0 ≤ (IntKind.wrap .i64 ((((IntKind.wrap .i64 (s.t1 + s.t22))).tmod (2 : Int)) * (8 : Int)))))
 (.ite (decide (0 ≤ s.t22))
 (.opt UInt8 (s.t2[(s.t22).toNat]?) fun y208 =>
 .ite (decide (0 ≤ (IntKind.wrap .i64 ((((IntKind.wrap .i64 (s.t1 + s.t22))).tmod (2 : Int)) * (8 : Int)))))
 (.ite (decide (0 ≤ IntKind.wrap .i64 (((IntKind.wrap .i64 (s.t1 + s.t22))).tdiv (2 : Int))))
 (.ite (decide (IntKind.wrap .i64 (((IntKind.wrap .i64 (s.t1 + s.t22))).tdiv (2 : Int)) < (s.b0.length : Int)))
 (.opt Int (s.b0[(IntKind.wrap .i64 (((IntKind.wrap .i64 (s.t1 + s.t22))).tdiv (2 : Int))).toNat]?) fun y209 =>
 .leaf (.inl (z40.mk s.t1 s.t2 s.t21 (IntKind.wrap .i64 (s.t22 + (1 : Int))) (s.b0.set ((IntKind.wrap .i64 (((IntKind.wrap .i64 (s.t1 + s.t22))).tdiv (2 : Int))).toNat) (IntKind.wrap .i64 (((BitVec.ofInt 64 (IntKind.wrap .i64 (((BitVec.ofInt 64 y207 &&& ~~~BitVec.ofInt 64 (IntKind.wrap .i64 ((255 : Int) * 2 ^ (min ((IntKind.wrap .i64 ((((IntKind.wrap .i64 (s.t1 + s.t22))).tmod (2 : Int)) * (8 : Int)))).toNat 64)))).toNat : Int))) ||| BitVec.ofInt 64 (IntKind.wrap .i64 ((IntKind.wrap .i64 (y208.toNat : Int)) * 2 ^ (min ((IntKind.wrap .i64 ((((IntKind.wrap .i64 (s.t1 + s.t22))).tmod (2 : Int)) * (8 : Int)))).toNat 64)))).toNat : Int)))))))
 .fail)
 .fail)
 .fail)
 .fail)
 .fail)
 .fail)
 .fail))))
 (.leaf (.inr s.b0))
noncomputable def z3w (q : Option Nat) (s : z40) : Option (List Int) := limQ q (fun s => (z46 s).run) s
noncomputable def zc5 (q : Option Nat) (x0 : (List Int)) (x1 : Int) (x2 : (List UInt8)) : Tree ((List Int) × Int) :=
 .opt Bool (z6m x0 x1 (x2.length : Int)) fun r205 =>
 .ite (!r205)
 (.leaf (([], (2 : Int))))
 (.opt (List Int) (z81 x0) fun r206 =>
 .opt (List Int) (z3w q (z40.mk x1 x2 (x2.length : Int) (0 : Int) r206)) fun l210 =>
 .leaf ((l210, (0 : Int))))
noncomputable def z7p (q : Option Nat) (x0 : (List Int)) (x1 : Int) (x2 : (List UInt8)) : Option ((List Int) × Int) := (zc5 q x0 x1 x2).run
noncomputable def z11k : Arg U ((List Int) × Int × (List UInt8) × Unit) := aO (cSl 3) (aO (cInt .i64) (aO cStr (aNil)))
noncomputable def z12k (r : ((List Int) × Int)) : zR := ([vO (cSl 3) r.1, vO (cInt .i64) r.2], [])
noncomputable def z132 : zS := zf z11k bNil (fun x _ => z7p none x.1 x.2.1 x.2.2.1) z12k
noncomputable def zsr (x : (Int × Unit) × ((List UInt8) × Unit) × (Unit) × (Int × Unit) × (Int × Unit) × Unit) (g : (List Int) × Unit) : z40 := z40.mk x.1.1 x.2.1.1 x.2.2.2.1.1 x.2.2.2.2.1.1 g.1
noncomputable def zrf : Tms U ((Int × Unit) × ((List UInt8) × Unit) × (Unit) × (Int × Unit) × (Int × Unit) × Unit) := tO 1 (z0 (cInt .i64) (z1)) (tO 2 (z0 cStr (z1)) (tO 8 (cK (.row 0 0) (z1)) (tO 21 (z0 (cInt .i64) (z1)) (tO 22 (z0 (cInt .i64) (z1)) (tNil)))))
noncomputable def zrn : Bls U ((List Int) × Unit) := bRv 3 0 (bNil)
noncomputable def zgk (s : z40) : St U := { tm := [(1, .v (vO (z0 (cInt .i64) (z1)) (s.t1, ()))), (2, .v (vO (z0 cStr (z1)) (s.t2, ()))), (8, .v (vO (cK (.row 0 0) (z1)) (()))), (21, .v (vO (z0 (cInt .i64) (z1)) (s.t21, ()))), (22, .v (vO (z0 (cInt .i64) (z1)) (s.t22, ())))], hp := [.row 3 0 s.b0] }
noncomputable def zh2 (r : (List Int)) : Ex × St U := (.exit 0, { tm := [(8, .v (vO (cK (.row 0 0) (z1)) (())))], hp := [.row 3 0 r] })
noncomputable def zs1 (r : (List Int)) : Tree (Ex × St U) := .leaf (zh2 r)
noncomputable def zti : Hd := { keep := [1, 2, 8, 21, 22], xkeep := [6, 7, 8], own := false }
noncomputable def zfy : Env U := zE (addF 99 false (zkz) fns183) (addL 0 zti (z1f zrf zrn zsr (z3w none) zs1) noL) 52 0
noncomputable def zse : Code := (loopAt (Tryz.f184.body.getD .skip) 0 0).getD .skip
theorem z14k (s : z40) : round zfy zti zse 0 (zgk s) = (z46 s).map (sumE zgk zh2) := by kernel_rfl
theorem z1e5 : LpOk zfy zse 0 := zy (A := zrf) (B := zrn) (f := zsr) (L := z3w none) (zb (z2 (z3 .i64) z6) (zb (z2 z5a z6) (zb (z10 z6) (zb (z2 (z3 .i64) z6) (zb (z2 (z3 .i64) z6) z12))))) (z1m z7) (enc := zgk) (out := zs1) (outS := zh2) (step := z46) (fun _ => rfl) (fun _ _ => by kernel_rfl) (by kernel_rfl) (fun _ => rfl) z14k
theorem z1j1 (x : (List Int) × Int × (List UInt8) × Unit) (g : Unit) : zk zfy Tryz.f184 (z11k.enc x) (bNil.enc g) = (zc5 none x.1 x.2.1 x.2.2.1).map z12k := by kernel_rfl
theorem z1ka : FnOk Tryz.prog cd 184 z132 := zm (E := zfy) zg (za zts z1no) Tryz.func184 (by kernel_rfl) (z14 (z11 z1e5 z1j)) (ze (zi 3) (ze (z3 .i64) (ze z5a (zd)))) z7 (T := fun x _ => zc5 none x.1 x.2.1 x.2.2.1) (fun _ _ => rfl) z1j1
noncomputable def fns184 := addF 184 true z132 fns183
theorem zdo : zF fns184 := za z1ka z1no
noncomputable def z6v (x0 : Int) (g0 : Disk) (g1 : Int) : Tree Bool :=
 .ite (decide (g0.addr ≤ x0))
 (.leaf (decide (x0 < (IntKind.wrap .i64 (g0.addr + (IntKind.wrap .i64 ((2 : Int) * g1)))))))
 (.leaf (false))
noncomputable def z5x (x0 : Int) (g0 : Disk) (g1 : Int) : Option Bool := (z6v x0 g0 g1).run
noncomputable def z92 : Arg U (Int × Unit) := aO (cInt .i64) (aP 0 0 (aP 1 0 (aNil)))
noncomputable def z93 : Bls U (Disk × Int × Unit) := bC cDisk (bC (cInt .i64) (bNil))
noncomputable def zci (_x : Int × Unit) (g : Disk × Int × Unit) (r : Bool) : zR := ([vO (z0 z8 (z1)) (r, ())], [.cells ((cDisk : Cdc U Disk).enc g.1) none, .cells (((cInt .i64) : Cdc U Int).enc g.2.1) none])
noncomputable def z94 : zS := mkSpecG z92 z93 (fun x g => z5x x.1 g.1 g.2.1) zci
noncomputable def zch : Env U := zE fns184 noL 18 2
theorem z111 (x0 : Int) (g0 : Disk) (g1 : Int) : execX false zch Tryz.f180 (z92.enc (x0, ())) (z93.enc (g0, g1, ())) = (z6v x0 g0 g1).map (zci (x0, ()) (g0, g1, ())) := by kernel_rfl
theorem zz8 : ∀ (x : Int × Unit) (g : Disk × Int × Unit), execX false zch Tryz.f180 (z92.enc x) (z93.enc g) = (z6v x.1 g.1 g.2.1).map (zci x g)
  | (x0, ()), (g0, g1, ()) => z111 x0 g0 g1
theorem zbw : FnOk Tryz.prog cd 180 z94 := z5y (E := zch) (A := z92) (B := z93) false zg zdo Tryz.func180 (by kernel_rfl) (z9 (by kernel_rfl)) (ze (z3 .i64) (z108 (z108 (zd)))) (z13 z24 (z13 (z3 .i64) z7)) (T := fun (x : Int × Unit) (g : Disk × Int × Unit) => z6v x.1 g.1 g.2.1) (fun _ _ => rfl) zz8
structure z1a where
  t0 : (List Int)
  t7 : Int
  t8 : Int
noncomputable def z1q (kk : (Disk × Int)) (s : z1a) : Tree (z1a ⊕ (Int ⊕ Unit)) :=
 .ite (decide (s.t8 < s.t7))
 (.ite (decide (0 ≤ s.t8))
 (.opt Int (s.t0[(s.t8).toNat]?) fun y214 =>
 .opt Bool (z5x y214 kk.1 kk.2) fun r215 =>
 .ite (r215)
 (.leaf (.inr (.inl s.t8)))
 (.leaf (.inl (z1a.mk s.t0 s.t7 (IntKind.wrap .i64 (s.t8 + (1 : Int)))))))
 .fail)
 (.leaf (.inr (.inr ())))
noncomputable def z2s (q : Option Nat) (kk : (Disk × Int)) (s : z1a) : Option (Int ⊕ Unit) := limQ q (fun s => (z1q kk s).run) s
noncomputable def z2b (q : Option Nat) (x0 : (List Int)) (g0 : Disk) (g1 : Int) : Tree Int :=
 .opt (Int ⊕ Unit) (z2s q (g0, g1) (z1a.mk x0 (x0.length : Int) (0 : Int))) fun l216 =>
 .ite (l216.isLeft)
 (.opt Int (l216.getLeft?) fun a217 =>
 .leaf (a217))
 (.opt Unit (l216.getRight?) fun b218 =>
 .leaf ((-1 : Int)))
noncomputable def z2i (q : Option Nat) (x0 : (List Int)) (g0 : Disk) (g1 : Int) : Option Int := (z2b q x0 g0 g1).run
noncomputable def z4l : Arg U ((List Int) × Unit) := aO (cSl 3) (aF 180 [(.ptr 0 0), (.ptr 1 0)] (aNil))
noncomputable def z4q : Bls U (Disk × Int × Unit) := bC cDisk (bC (cInt .i64) (bNil))
noncomputable def z6z (_x : (List Int) × Unit) (g : Disk × Int × Unit) (r : Int) : zR := ([vO (z0 (cInt .i64) (z1)) (r, ())], [.cells ((cDisk : Cdc U Disk).enc g.1) none, .cells (((cInt .i64) : Cdc U Int).enc g.2.1) none])
noncomputable def zb0 : zS := mkSpecG z4l z4q (fun x g => z2i none x.1 g.1 g.2.1) z6z
noncomputable def za7 (x : ((List Int) × Unit) × (Unit) × (Int × Unit) × (Int × Unit) × Unit) (g : (Disk × Unit) × (Int × Unit) × Unit) : (Disk × Int) × z1a := ((g.1.1, g.2.1.1), z1a.mk x.1.1 x.2.2.1.1 x.2.2.2.1.1)
noncomputable def z9d : Tms U (((List Int) × Unit) × (Unit) × (Int × Unit) × (Int × Unit) × Unit) := tO 0 (z0 (cSl 3) (z1)) (tO 1 (cK2 (.fn 180 [] [(.ptr 0 0), (.ptr 1 0)]) (z1)) (tO 7 (z0 (cInt .i64) (z1)) (tO 8 (z0 (cInt .i64) (z1)) (tNil))))
noncomputable def z9h : Bls U ((Disk × Unit) × (Int × Unit) × Unit) := bC (z0 cDisk (z1)) (bC (z0 (cInt .i64) (z1)) (bNil))
noncomputable def z65 (kk : (Disk × Int)) (s : z1a) : St U := { tm := [(0, .v (vO (z0 (cSl 3) (z1)) (s.t0, ()))), (1, .v (vO (cK2 (.fn 180 [] [(.ptr 0 0), (.ptr 1 0)]) (z1)) (()))), (7, .v (vO (z0 (cInt .i64) (z1)) (s.t7, ()))), (8, .v (vO (z0 (cInt .i64) (z1)) (s.t8, ())))], hp := [.cells ((z0 cDisk (z1) : Cdc U (Disk × Unit)).enc (kk.1, ())) none, .cells ((z0 (cInt .i64) (z1) : Cdc U (Int × Unit)).enc (kk.2, ())) none] }
noncomputable def z9l (kk : (Disk × Int)) : (Int ⊕ Unit) → Ex × St U
  | .inl r => (.ret, { tm := [(4, .v (vO (z0 (cInt .i64) (z1)) (r, ())))], hp := [.cells ((z0 cDisk (z1) : Cdc U (Disk × Unit)).enc (kk.1, ())) none, .cells ((z0 (cInt .i64) (z1) : Cdc U (Int × Unit)).enc (kk.2, ())) none] })
  | .inr r => (.exit 0, { tm := [], hp := [.cells ((z0 cDisk (z1) : Cdc U (Disk × Unit)).enc (kk.1, ())) none, .cells ((z0 (cInt .i64) (z1) : Cdc U (Int × Unit)).enc (kk.2, ())) none] })
noncomputable def z9p (kk : (Disk × Int)) (y : (Int ⊕ Unit)) : Tree (Ex × St U) := .ite y.isLeft (.opt Int y.getLeft? fun r => .leaf (.ret, { tm := [(4, .v (vO (z0 (cInt .i64) (z1)) (r, ())))], hp := [.cells ((z0 cDisk (z1) : Cdc U (Disk × Unit)).enc (kk.1, ())) none, .cells ((z0 (cInt .i64) (z1) : Cdc U (Int × Unit)).enc (kk.2, ())) none] })) (.opt Unit y.getRight? fun r => .leaf (.exit 0, { tm := [], hp := [.cells ((z0 cDisk (z1) : Cdc U (Disk × Unit)).enc (kk.1, ())) none, .cells ((z0 (cInt .i64) (z1) : Cdc U (Int × Unit)).enc (kk.2, ())) none] }))
noncomputable def zad : Hd := { keep := [0, 1, 7, 8], xkeep := [4], own := false }
noncomputable def z37 : Env U := zE (addF 180 false (z94) fns184) (addL 0 zad (mkLoopK z9d z9h za7 (z2s none) z9p) noL) 19 2
noncomputable def za0 : Code := (loopAt (Tryz.f160.body.getD .skip) 0 0).getD .skip
theorem zfc (kk : (Disk × Int)) (s : z1a) : round z37 zad za0 0 (z65 kk s) = (z1q kk s).map (sumE (z65 kk) (z9l kk)) := by kernel_rfl
theorem zhf : LpOk z37 za0 0 := zah (A := z9d) (B := z9h) (f := za7) (L := z2s none) (zb (z2 (zi 3) z6) (zb (zfk z6) (zb (z2 (z3 .i64) z6) (zb (z2 (z3 .i64) z6) z12)))) (z13 (z2 z24 z6) (z13 (z2 (z3 .i64) z6) z7)) (enc := z65) (out := z9p) (outS := z9l) (step := z1q) (fun _ _ => rfl) (fun _ _ => by kernel_rfl) (by kernel_rfl) (fun _ b => by cases b <;> rfl) zfc
theorem zkh (x0 : (List Int)) (g0 : Disk) (g1 : Int) : execX false z37 Tryz.f160 (z4l.enc (x0, ())) (z4q.enc (g0, g1, ())) = (z2b none x0 g0 g1).map (z6z (x0, ()) (g0, g1, ())) := by kernel_rfl
theorem zjv : ∀ (x : (List Int) × Unit) (g : Disk × Int × Unit), execX false z37 Tryz.f160 (z4l.enc x) (z4q.enc g) = (z2b none x.1 g.1 g.2.1).map (z6z x g)
  | (x0, ()), (g0, g1, ()) => zkh x0 g0 g1
theorem zkc : FnOk Tryz.prog cd 160 zb0 := z5y (E := z37) (A := z4l) (B := z4q) false zg (za zbw zdo) Tryz.func160 (by kernel_rfl) (z14 (z11 zhf z1j)) (ze (zi 3) (zg8 (zd))) (z13 z24 (z13 (z3 .i64) z7)) (T := fun (x : (List Int) × Unit) (g : Disk × Int × Unit) => z2b none x.1 g.1 g.2.1) (fun _ _ => rfl) zjv
noncomputable def z2a (q : Option Nat) (x0 : (List Int)) (g0 : Disk) (g1 : Int) : Tree Bool :=
 .opt Int (z2i q x0 g0 g1) fun r219 =>
 .leaf (decide ((0 : Int) ≤ r219))
noncomputable def z2h (q : Option Nat) (x0 : (List Int)) (g0 : Disk) (g1 : Int) : Option Bool := (z2a q x0 g0 g1).run
noncomputable def z4k : Arg U ((List Int) × Unit) := aO (cSl 3) (aF 180 [(.ptr 0 0), (.ptr 1 0)] (aNil))
noncomputable def z4p : Bls U (Disk × Int × Unit) := bC cDisk (bC (cInt .i64) (bNil))
noncomputable def z6y (_x : (List Int) × Unit) (g : Disk × Int × Unit) (r : Bool) : zR := ([vO (z0 z8 (z1)) (r, ())], [.cells ((cDisk : Cdc U Disk).enc g.1) none, .cells (((cInt .i64) : Cdc U Int).enc g.2.1) none])
noncomputable def z73 : zS := mkSpecG z4k z4p (fun x g => z2h none x.1 g.1 g.2.1) z6y
noncomputable def z6w : Env U := zE (addF 160 false (zb0) fns184) noL 9 2
theorem zkg (x0 : (List Int)) (g0 : Disk) (g1 : Int) : execX false z6w Tryz.f182 (z4k.enc (x0, ())) (z4p.enc (g0, g1, ())) = (z2a none x0 g0 g1).map (z6y (x0, ()) (g0, g1, ())) := by kernel_rfl
theorem zju : ∀ (x : (List Int) × Unit) (g : Disk × Int × Unit), execX false z6w Tryz.f182 (z4k.enc x) (z4p.enc g) = (z2a none x.1 g.1 g.2.1).map (z6y x g)
  | (x0, ()), (g0, g1, ()) => zkg x0 g0 g1
theorem zkb : FnOk Tryz.prog cd 182 z73 := z5y (E := z6w) (A := z4k) (B := z4p) false zg (za zkc zdo) Tryz.func182 (by kernel_rfl) (z9 (by kernel_rfl)) (ze (zi 3) (zg8 (zd))) (z13 z24 (z13 (z3 .i64) z7)) (T := fun (x : (List Int) × Unit) (g : Disk × Int × Unit) => z2a none x.1 g.1 g.2.1) (fun _ _ => rfl) zju
theorem zk8 : Keeps z73 [0, 1] := z1ox (z13 z24 (z13 (z3 .i64) z7)) (fun x g y => by kernel_rfl)
structure z1b where
  t7 : Int
  t8 : Int
noncomputable def z1r (kk : ((List Int) × Disk × Int)) (s : z1b) : Tree (z1b ⊕ (Int ⊕ Unit)) :=
 .ite (decide (s.t8 < s.t7))
 (.ite (decide (0 ≤ s.t8))
 (.ite (decide (s.t8 < (kk.1.length : Int)))
 (.opt Int (kk.1[(s.t8).toNat]?) fun y227 =>
 .opt Bool (z5x y227 kk.2.1 kk.2.2) fun r228 =>
 .ite (r228)
 (.leaf (.inr (.inl s.t8)))
 (.leaf (.inl (z1b.mk s.t7 (IntKind.wrap .i64 (s.t8 + (1 : Int)))))))
 .fail)
 .fail)
 (.leaf (.inr (.inr ())))
noncomputable def z2t (q : Option Nat) (kk : ((List Int) × Disk × Int)) (s : z1b) : Option (Int ⊕ Unit) := limQ q (fun s => (z1r kk s).run) s
noncomputable def z2c (q : Option Nat) (g0 : (List Int)) (g1 : Disk) (g2 : Int) : Tree Int :=
 .opt (Int ⊕ Unit) (z2t q (g0, g1, g2) (z1b.mk (g0.length : Int) (0 : Int))) fun l229 =>
 .ite (l229.isLeft)
 (.opt Int (l229.getLeft?) fun a230 =>
 .leaf (a230))
 (.opt Unit (l229.getRight?) fun b231 =>
 .leaf ((-1 : Int)))
noncomputable def z2j (q : Option Nat) (g0 : (List Int)) (g1 : Disk) (g2 : Int) : Option Int := (z2c q g0 g1 g2).run
noncomputable def z4m : Arg U (Unit) := aR 0 (aF 180 [(.ptr 1 0), (.ptr 2 0)] (aNil))
noncomputable def z4r : Bls U ((List Int) × Disk × Int × Unit) := bR 3 (bC cDisk (bC (cInt .i64) (bNil)))
noncomputable def z70 (_x : Unit) (g : (List Int) × Disk × Int × Unit) (r : Int) : zR := ([vO (z0 (cInt .i64) (z1)) (r, ())], [.row 3 0 g.1, .cells ((cDisk : Cdc U Disk).enc g.2.1) none, .cells (((cInt .i64) : Cdc U Int).enc g.2.2.1) none])
noncomputable def zb1 : zS := mkSpecG z4m z4r (fun x g => z2j none g.1 g.2.1 g.2.2.1) z70
noncomputable def za8 (x : (Unit) × (Unit) × (Int × Unit) × (Int × Unit) × Unit) (g : (List Int) × (Disk × Unit) × (Int × Unit) × Unit) : ((List Int) × Disk × Int) × z1b := ((g.1, g.2.1.1, g.2.2.1.1), z1b.mk x.2.2.1.1 x.2.2.2.1.1)
noncomputable def z9e : Tms U ((Unit) × (Unit) × (Int × Unit) × (Int × Unit) × Unit) := tO 0 (cK (.row 0 0) (z1)) (tO 1 (cK2 (.fn 180 [] [(.ptr 1 0), (.ptr 2 0)]) (z1)) (tO 7 (z0 (cInt .i64) (z1)) (tO 8 (z0 (cInt .i64) (z1)) (tNil))))
noncomputable def z9i : Bls U ((List Int) × (Disk × Unit) × (Int × Unit) × Unit) := bRv 3 0 (bC (z0 cDisk (z1)) (bC (z0 (cInt .i64) (z1)) (bNil)))
noncomputable def z66 (kk : ((List Int) × Disk × Int)) (s : z1b) : St U := { tm := [(0, .v (vO (cK (.row 0 0) (z1)) (()))), (1, .v (vO (cK2 (.fn 180 [] [(.ptr 1 0), (.ptr 2 0)]) (z1)) (()))), (7, .v (vO (z0 (cInt .i64) (z1)) (s.t7, ()))), (8, .v (vO (z0 (cInt .i64) (z1)) (s.t8, ())))], hp := [.row 3 0 kk.1, .cells ((z0 cDisk (z1) : Cdc U (Disk × Unit)).enc (kk.2.1, ())) none, .cells ((z0 (cInt .i64) (z1) : Cdc U (Int × Unit)).enc (kk.2.2, ())) none] }
noncomputable def z9m (kk : ((List Int) × Disk × Int)) : (Int ⊕ Unit) → Ex × St U
  | .inl r => (.ret, { tm := [(4, .v (vO (z0 (cInt .i64) (z1)) (r, ())))], hp := [.row 3 0 kk.1, .cells ((z0 cDisk (z1) : Cdc U (Disk × Unit)).enc (kk.2.1, ())) none, .cells ((z0 (cInt .i64) (z1) : Cdc U (Int × Unit)).enc (kk.2.2, ())) none] })
  | .inr r => (.exit 0, { tm := [], hp := [.row 3 0 kk.1, .cells ((z0 cDisk (z1) : Cdc U (Disk × Unit)).enc (kk.2.1, ())) none, .cells ((z0 (cInt .i64) (z1) : Cdc U (Int × Unit)).enc (kk.2.2, ())) none] })
noncomputable def z9q (kk : ((List Int) × Disk × Int)) (y : (Int ⊕ Unit)) : Tree (Ex × St U) := .ite y.isLeft (.opt Int y.getLeft? fun r => .leaf (.ret, { tm := [(4, .v (vO (z0 (cInt .i64) (z1)) (r, ())))], hp := [.row 3 0 kk.1, .cells ((z0 cDisk (z1) : Cdc U (Disk × Unit)).enc (kk.2.1, ())) none, .cells ((z0 (cInt .i64) (z1) : Cdc U (Int × Unit)).enc (kk.2.2, ())) none] })) (.opt Unit y.getRight? fun r => .leaf (.exit 0, { tm := [], hp := [.row 3 0 kk.1, .cells ((z0 cDisk (z1) : Cdc U (Disk × Unit)).enc (kk.2.1, ())) none, .cells ((z0 (cInt .i64) (z1) : Cdc U (Int × Unit)).enc (kk.2.2, ())) none] }))
noncomputable def zae : Hd := { keep := [0, 1, 7, 8], xkeep := [4], own := false }
noncomputable def z38 : Env U := zE (addF 180 false (z94) fns184) (addL 0 zae (mkLoopK z9e z9i za8 (z2t none) z9q) noL) 19 3
noncomputable def za1 : Code := (loopAt (Tryz.f160.body.getD .skip) 0 0).getD .skip
theorem zfd (kk : ((List Int) × Disk × Int)) (s : z1b) : round z38 zae za1 0 (z66 kk s) = (z1r kk s).map (sumE (z66 kk) (z9m kk)) := by kernel_rfl
theorem zhg : LpOk z38 za1 0 := zah (A := z9e) (B := z9i) (f := za8) (L := z2t none) (zb (z10 z6) (zb (zfk z6) (zb (z2 (z3 .i64) z6) (zb (z2 (z3 .i64) z6) z12)))) (z1m (z13 (z2 z24 z6) (z13 (z2 (z3 .i64) z6) z7))) (enc := z66) (out := z9q) (outS := z9m) (step := z1r) (fun _ _ => rfl) (fun _ _ => by kernel_rfl) (by kernel_rfl) (fun _ b => by cases b <;> rfl) zfd
theorem zki (g0 : (List Int)) (g1 : Disk) (g2 : Int) : execX false z38 Tryz.f160 (z4m.enc ()) (z4r.enc (g0, g1, g2, ())) = (z2c none g0 g1 g2).map (z70 () (g0, g1, g2, ())) := by kernel_rfl
theorem zjw : ∀ (x : Unit) (g : (List Int) × Disk × Int × Unit), execX false z38 Tryz.f160 (z4m.enc x) (z4r.enc g) = (z2c none g.1 g.2.1 g.2.2.1).map (z70 x g)
  | (), (g0, g1, g2, ()) => zki g0 g1 g2
theorem zkd : FnOk Tryz.prog cd 160 zb1 := z5y (E := z38) (A := z4m) (B := z4r) false zg (za zbw zdo) Tryz.func160 (by kernel_rfl) (z14 (z11 zhg z1j)) (z109 (zg8 (zd))) (zbu (z13 z24 (z13 (z3 .i64) z7))) (T := fun (x : Unit) (g : (List Int) × Disk × Int × Unit) => z2c none g.1 g.2.1 g.2.2.1) (fun _ _ => rfl) zjw
structure z15 where
  t5 : Int
  t6 : Int
  b0 : (List Int)
noncomputable def z1n (kk : (Disk × Int)) (s : z15) : Tree (z15 ⊕ (Int × (List Int))) :=
 .ite (decide (s.t6 < (s.b0.length : Int)))
 (.ite (decide (0 ≤ s.t6))
 (.ite (decide (s.t6 < (s.b0.length : Int)))
 (.opt Int (s.b0[(s.t6).toNat]?) fun y233 =>
 .opt Bool (z5x y233 kk.1 kk.2) fun r234 =>
 .ite (!r234)
 (.ite (decide (0 ≤ s.t5))
 (.ite (decide (s.t5 < (s.b0.length : Int)))
 (.opt Int (s.b0[(s.t5).toNat]?) fun y235 =>
 .leaf (.inl (z15.mk (IntKind.wrap .i64 (s.t5 + (1 : Int))) (IntKind.wrap .i64 (s.t6 + (1 : Int))) (s.b0.set ((s.t5).toNat) y233))))
 .fail)
 .fail)
 (.leaf (.inl (z15.mk s.t5 (IntKind.wrap .i64 (s.t6 + (1 : Int))) s.b0))))
 .fail)
 .fail)
 (.leaf (.inr (s.t5, s.b0)))
noncomputable def z2m (q : Option Nat) (kk : (Disk × Int)) (s : z15) : Option (Int × (List Int)) := limQ q (fun s => (z1n kk s).run) s
noncomputable def z26 (q : Option Nat) (g0 : (List Int)) (g1 : Disk) (g2 : Int) : Tree (Unit ⊕ ((Nat × Nat) × (List Int))) :=
 .opt Int (z2j q g0 g1 g2) fun r232 =>
 .ite (decide (r232 = (-1 : Int)))
 (.leaf (.inl ()))
 (.opt (Int × (List Int)) (z2m q (g1, g2) (z15.mk r232 (IntKind.wrap .i64 (r232 + (1 : Int))) g0)) fun l236 =>
 .ite (decide (0 ≤ l236.1))
 (.ite (decide (l236.1 ≤ ((l236.2.length : Nat) : Int)))
 (.ite (decide (0 ≤ l236.1))
 (.ite (decide (l236.1 ≤ (((l236.2.take ((l236.1).toNat) ++ List.replicate (l236.2.length - (l236.1).toNat) (0 : Int) ++ l236.2.drop ((l236.1).toNat + (l236.2.length - (l236.1).toNat))).length : Nat) : Int)))
 (.leaf (.inr ((0, (l236.1).toNat - 0), l236.2.take ((l236.1).toNat) ++ List.replicate (l236.2.length - (l236.1).toNat) (0 : Int) ++ l236.2.drop ((l236.1).toNat + (l236.2.length - (l236.1).toNat)))))
 .fail)
 .fail)
 .fail)
 .fail)
noncomputable def z2f (q : Option Nat) (g0 : (List Int)) (g1 : Disk) (g2 : Int) : Option (Unit ⊕ ((Nat × Nat) × (List Int))) := (z26 q g0 g1 g2).run
noncomputable def z4c : Arg U (Unit) := aR 0 (aF 180 [(.ptr 1 0), (.ptr 2 0)] (aNil))
noncomputable def z4e : Bls U ((List Int) × Disk × Int × Unit) := bR 3 (bC cDisk (bC (cInt .i64) (bNil)))
noncomputable def z6o (_x : Unit) (g : (List Int) × Disk × Int × Unit) (_r : Unit) : zR := ([vO (cK (.row 0 0) (z1)) (())], [.row 3 0 g.1, .cells ((cDisk : Cdc U Disk).enc g.2.1) none, .cells (((cInt .i64) : Cdc U Int).enc g.2.2.1) none])
noncomputable def z69 (_x : Unit) (g : (List Int) × Disk × Int × Unit) (r : ((Nat × Nat) × (List Int))) : zR := ([vO (z0 (cOwn 0 0) (z1)) (r.1, ())], [.row 3 0 r.2, .cells ((cDisk : Cdc U Disk).enc g.2.1) none, .cells (((cInt .i64) : Cdc U Int).enc g.2.2.1) none])
noncomputable def z6q : zS := zgt z4c z4e (fun x g => z2f none g.1 g.2.1 g.2.2.1) z6o z69
noncomputable def z97 (x : (Unit) × (Unit) × (Int × Unit) × (Int × Unit) × Unit) (g : (List Int) × (Disk × Unit) × (Int × Unit) × Unit) : (Disk × Int) × z15 := ((g.2.1.1, g.2.2.1.1), z15.mk x.2.2.1.1 x.2.2.2.1.1 g.1)
noncomputable def z8w : Tms U ((Unit) × (Unit) × (Int × Unit) × (Int × Unit) × Unit) := tO 0 (cK (.row 0 0) (z1)) (tO 1 (cK2 (.fn 180 [] [(.ptr 1 0), (.ptr 2 0)]) (z1)) (tO 5 (z0 (cInt .i64) (z1)) (tO 6 (z0 (cInt .i64) (z1)) (tNil))))
noncomputable def z8y : Bls U ((List Int) × (Disk × Unit) × (Int × Unit) × Unit) := bRv 3 0 (bC (z0 cDisk (z1)) (bC (z0 (cInt .i64) (z1)) (bNil)))
noncomputable def z5p (kk : (Disk × Int)) (s : z15) : St U := { tm := [(0, .v (vO (cK (.row 0 0) (z1)) (()))), (1, .v (vO (cK2 (.fn 180 [] [(.ptr 1 0), (.ptr 2 0)]) (z1)) (()))), (5, .v (vO (z0 (cInt .i64) (z1)) (s.t5, ()))), (6, .v (vO (z0 (cInt .i64) (z1)) (s.t6, ())))], hp := [.row 3 0 s.b0, .cells ((z0 cDisk (z1) : Cdc U (Disk × Unit)).enc (kk.1, ())) none, .cells ((z0 (cInt .i64) (z1) : Cdc U (Int × Unit)).enc (kk.2, ())) none] }
noncomputable def z5s (kk : (Disk × Int)) (r : (Int × (List Int))) : Ex × St U := (.exit 0, { tm := [(0, .v (vO (cK (.row 0 0) (z1)) (()))), (5, .v (vO (z0 (cInt .i64) (z1)) (r.1, ())))], hp := [.row 3 0 r.2, .cells ((z0 cDisk (z1) : Cdc U (Disk × Unit)).enc (kk.1, ())) none, .cells ((z0 (cInt .i64) (z1) : Cdc U (Int × Unit)).enc (kk.2, ())) none] })
noncomputable def z90 (kk : (Disk × Int)) (r : (Int × (List Int))) : Tree (Ex × St U) := .leaf (z5s kk r)
noncomputable def z9b : Hd := { keep := [0, 1, 5, 6], xkeep := [0, 4, 5], own := false }
noncomputable def z30 : Env U := zE (addF 180 false (z94) (addF 160 false (zb1) fns184)) (addL 0 z9b (mkLoopK z8w z8y z97 (z2m none) z90) noL) 42 3
noncomputable def z95 : Code := (loopAt (Tryz.f100.body.getD .skip) 0 0).getD .skip
theorem zez (kk : (Disk × Int)) (s : z15) : round z30 z9b z95 0 (z5p kk s) = (z1n kk s).map (sumE (z5p kk) (z5s kk)) := by kernel_rfl
theorem zgr : LpOk z30 z95 0 := zah (A := z8w) (B := z8y) (f := z97) (L := z2m none) (zb (z10 z6) (zb (zfk z6) (zb (z2 (z3 .i64) z6) (zb (z2 (z3 .i64) z6) z12)))) (z1m (z13 (z2 z24 z6) (z13 (z2 (z3 .i64) z6) z7))) (enc := z5p) (out := z90) (outS := z5s) (step := z1n) (fun _ _ => rfl) (fun _ _ => by kernel_rfl) (by kernel_rfl) (fun _ _ => rfl) zez
theorem zjs (g0 : (List Int)) (g1 : Disk) (g2 : Int) : execX false z30 Tryz.f100 (z4c.enc ()) (z4e.enc (g0, g1, g2, ())) = (z26 none g0 g1 g2).map ((Sum.elim (z6o () (g0, g1, g2, ())) (z69 () (g0, g1, g2, ())))) := by kernel_rfl
theorem zhk : ∀ (x : Unit) (g : (List Int) × Disk × Int × Unit), execX false z30 Tryz.f100 (z4c.enc x) (z4e.enc g) = (z26 none g.1 g.2.1 g.2.2.1).map ((Sum.elim (z6o x g) (z69 x g)))
  | (), (g0, g1, g2, ()) => zjs g0 g1 g2
theorem zji : FnOk Tryz.prog cd 100 z6q := z1jz (E := z30) (A := z4c) (B := z4e) false zg (za zbw (za zkd zdo)) Tryz.func100 (by kernel_rfl) (z14 (z11 zgr z1j)) (z109 (zg8 (zd))) (zbu (z13 z24 (z13 (z3 .i64) z7))) (T := fun (x : Unit) (g : (List Int) × Disk × Int × Unit) => z26 none g.1 g.2.1 g.2.2.1) (fun _ _ => rfl) zhk
theorem zjb : Keeps z6q [1, 2] := zz6 (zbu (z13 z24 (z13 (z3 .i64) z7))) (fun x g y => by kernel_rfl) (fun x g y => by kernel_rfl)
noncomputable def zap (q : Option Nat) (x0 : Disk) (x1 : (List Int)) (x2 : (List Int)) (x3 : Int) : Tree (Drive × (List Int) × (List Int) × Bool) :=
 .opt ((List UInt8) × Int) (z8v q x1 x0.addr (IntKind.wrap .i64 ((2 : Int) * x3))) fun r237 =>
 .ite (!decide (r237.2 = (0 : Int)))
 (.leaf ((x0.drive, x1, x2, false)))
 (.ite (decide (x0.command = (2 : Int)))
 (.opt (Drive × Int) (zfl q x0.drive x0.start r237.1) fun r238 =>
 .ite (decide (r238.2 = (0 : Int)))
 (.opt Bool (z2h q x2 x0 x3) fun r239 =>
 .leaf ((r238.1, x1, x2, !r239)))
 (.leaf ((r238.1, x1, x2, false))))
 (.opt ((List UInt8) × Int) (zp7 x0.drive x0.start) fun r240 =>
 .ite (!decide (r240.2 = (0 : Int)))
 (.leaf ((x0.drive, x1, x2, false)))
 (.ite (decide (x0.command = (3 : Int)))
 (.ite (decide (0 ≤ IntKind.wrap .i64 ((2 : Int) * x3)))
 (.ite (decide (IntKind.wrap .i64 ((2 : Int) * x3) ≤ ((r240.1.length : Nat) : Int)))
 (.ite (decide (((r240.1.drop (0)).take ((IntKind.wrap .i64 ((2 : Int) * x3)).toNat - 0)) = r237.1))
 (.opt Bool (z2h q x2 x0 x3) fun r241 =>
 .leaf ((x0.drive, x1, x2, !r241)))
 (.leaf ((x0.drive, x1, x2, false))))
 .fail)
 .fail)
 (.ite (decide (0 ≤ IntKind.wrap .i64 ((2 : Int) * x3)))
 (.ite (decide (IntKind.wrap .i64 ((2 : Int) * x3) ≤ ((r240.1.length : Nat) : Int)))
 (.opt ((List Int) × Int) (z7p q x1 x0.addr ((r240.1.drop (0)).take ((IntKind.wrap .i64 ((2 : Int) * x3)).toNat - 0))) fun r242 =>
 .opt (List Int) (cloneF 8 x2) fun r243 =>
 .opt (Unit ⊕ ((Nat × Nat) × (List Int))) (z2f q r243 x0 x3) fun r244 =>
 .ite (r244.isLeft)
 (.opt Unit (r244.getLeft?) fun a245 =>
 .leaf ((x0.drive, r242.1, r243, decide (r242.2 = (0 : Int)))))
 (.opt ((Nat × Nat) × (List Int)) (r244.getRight?) fun b246 =>
 .leaf ((x0.drive, r242.1, (b246.2.drop (b246.1.1)).take (b246.1.2), decide (r242.2 = (0 : Int))))))
 .fail)
 .fail))))
noncomputable def zgg (q : Option Nat) (x0 : Disk) (x1 : (List Int)) (x2 : (List Int)) (x3 : Int) : Option (Drive × (List Int) × (List Int) × Bool) := (zap q x0 x1 x2 x3).run
noncomputable def zob : Arg U (Disk × (List Int) × (List Int) × Int × Unit) := aA cDisk (aO (cSl 3) (aO (cSl 3) (aO (cInt .i64) (aNil))))
noncomputable def zof (r : (Drive × (List Int) × (List Int) × Bool)) : zR := ([vA cDrive r.1, vO (cSl 3) r.2.1, vO (cSl 3) r.2.2.1, vO z8 r.2.2.2], [])
noncomputable def zog : zS := zf zob bNil (fun x _ => zgg none x.1 x.2.1 x.2.2.1 x.2.2.2.1) zof
noncomputable def zod : Env U := { P := Tryz.prog, cd := cd, fns := (addF 182 false (z73) (addF 101 false (z4h 3 8) (addF 100 false (z6q) fns184))), lps := noL, frz := fun _r => false, nt := 113, n0 := 0, fps := fun _r _i => bif Nat.beq _r 7 && Nat.beq _i 0 then .rd [3] else bif Nat.beq _r 7 && Nat.beq _i 8 then .wr [] 4 else bif Nat.beq _r 12 && Nat.beq _i 0 then .rd [] else bif Nat.beq _r 12 && Nat.beq _i 1 then .rd [0] else bif Nat.beq _r 12 && Nat.beq _i 13 then .wr [] 3 else bif Nat.beq _r 14 && Nat.beq _i 0 then .rd [] else bif Nat.beq _r 14 && Nat.beq _i 1 then .rd [0] else bif Nat.beq _r 14 && Nat.beq _i 4 then .wr [] 3 else bif Nat.beq _r 14 && Nat.beq _i 6 then .wr [3] 4 else .none, kps := fun f => bif Nat.beq f 182 then [0, 1] else (fun f => bif Nat.beq f 100 then [1, 2] else []) f, kok := (z1jq (q0 := false) (by kernel_rfl) zk8 (z1jq (q0 := false) (by kernel_rfl) zjb z1xa)) }
theorem z14p (x : Disk × (List Int) × (List Int) × Int × Unit) (g : Unit) : zk zod Tryz.f169 (zob.enc x) (bNil.enc g) = (zap none x.1 x.2.1 x.2.2.1 x.2.2.2.1).map zof := by kernel_rfl
theorem z18o : FnOk Tryz.prog cd 169 zog := zm (E := zod) zg (za zkb (za z7i (za zji zdo))) Tryz.func169 (by kernel_rfl) (z9 (by kernel_rfl)) (zu z24 (ze (zi 3) (ze (zi 3) (ze (z3 .i64) (zd))))) z7 (T := fun x _ => zap none x.1 x.2.1 x.2.2.1 x.2.2.2.1) (fun _ _ => rfl) z14p
noncomputable def fns169 := addF 169 true zog fns184
theorem z1nh : zF fns169 := za z18o zdo
end Go.Proofs.YtfdndagnolbnhaaGreat
