/- (goes on) -/
import Derived.Test.YtfdndagnolbnhaaGreatYAbA18yp0
set_option linter.unusedSimpArgs false
namespace Go.Proofs.YtfdndagnolbnhaaGreat
open Go Go.Ab
noncomputable def zg4 (q : Option Nat) (x0 : Disk) (x1 : (List Int)) (x2 : (List Int)) : Tree (Disk × (List Int) × (List Int)) :=
 .ite (decide (x0.left = (0 : Int)))
 (.leaf ((x0, x1, x2)))
 (.ite (decide ((0 : Int) < (IntKind.wrap .i64 (x0.left - (1 : Int)))))
 (.leaf ((Disk.mk x0.drive x0.enable x0.ready x0.error x0.command x0.words x0.addr x0.start (IntKind.wrap .i64 (x0.left - (1 : Int))), x1, x2)))
 (.opt (Drive × (List Int) × (List Int) × Bool) (zgg q (Disk.mk x0.drive x0.enable x0.ready x0.error x0.command x0.words x0.addr x0.start (IntKind.wrap .i64 (x0.left - (1 : Int)))) x1 x2 (if (64 : Int) < x0.words then (64 : Int) else x0.words)) fun r247 =>
 .ite (!r247.2.2.2)
 (.leaf ((Disk.mk x0.drive x0.enable true true x0.command x0.words x0.addr x0.start (IntKind.wrap .i64 (x0.left - (1 : Int))), x1, x2)))
 (.ite (decide ((IntKind.wrap .i64 (x0.words - (if (64 : Int) < x0.words then (64 : Int) else x0.words))) = (0 : Int)))
 (.leaf ((Disk.mk r247.1 x0.enable true x0.error x0.command (IntKind.wrap .i64 (x0.words - (if (64 : Int) < x0.words then (64 : Int) else x0.words))) (IntKind.wrap .i64 (((BitVec.ofInt 64 (IntKind.wrap .i64 (x0.addr + (IntKind.wrap .i64 ((2 : Int) * (if (64 : Int) < x0.words then (64 : Int) else x0.words))))) &&& BitVec.ofInt 64 (65535 : Int)).toNat : Int))) (IntKind.wrap .i64 (((BitVec.ofInt 64 (IntKind.wrap .i64 (x0.start + (1 : Int))) &&& BitVec.ofInt 64 (65535 : Int)).toNat : Int))) (IntKind.wrap .i64 (x0.left - (1 : Int))), r247.2.1, r247.2.2.1)))
 (.leaf ((Disk.mk r247.1 x0.enable x0.ready x0.error x0.command (IntKind.wrap .i64 (x0.words - (if (64 : Int) < x0.words then (64 : Int) else x0.words))) (IntKind.wrap .i64 (((BitVec.ofInt 64 (IntKind.wrap .i64 (x0.addr + (IntKind.wrap .i64 ((2 : Int) * (if (64 : Int) < x0.words then (64 : Int) else x0.words))))) &&& BitVec.ofInt 64 (65535 : Int)).toNat : Int))) (IntKind.wrap .i64 (((BitVec.ofInt 64 (IntKind.wrap .i64 (x0.start + (1 : Int))) &&& BitVec.ofInt 64 (65535 : Int)).toNat : Int))) (8 : Int), r247.2.1, r247.2.2.1))))))
noncomputable def zdk (q : Option Nat) (x0 : Disk) (x1 : (List Int)) (x2 : (List Int)) : Option (Disk × (List Int) × (List Int)) := (zg4 q x0 x1 x2).run
noncomputable def z11h : Arg U (Disk × (List Int) × (List Int) × Unit) := aA cDisk (aO (cSl 3) (aO (cSl 3) (aNil)))
noncomputable def z12h (r : (Disk × (List Int) × (List Int))) : zR := ([vA cDisk r.1, vO (cSl 3) r.2.1, vO (cSl 3) r.2.2], [])
noncomputable def z12x : zS := zf z11h bNil (fun x _ => zdk none x.1 x.2.1 x.2.2.1) z12h
noncomputable def z122 : Env U := zE fns169 noL 77 0
theorem z1iw (x : Disk × (List Int) × (List Int) × Unit) (g : Unit) : zk z122 Tryz.f127 (z11h.enc x) (bNil.enc g) = (zg4 none x.1 x.2.1 x.2.2.1).map z12h := by kernel_rfl
theorem z1k5 : FnOk Tryz.prog cd 127 z12x := zm (E := z122) zg z1nh Tryz.func127 (by kernel_rfl) (z9 (by kernel_rfl)) (zu z24 (ze (zi 3) (ze (zi 3) (zd)))) z7 (T := fun x _ => zg4 none x.1 x.2.1 x.2.2.1) (fun _ _ => rfl) z1iw
noncomputable def fns127 := addF 127 true z12x fns169
theorem z1mz : zF fns127 := za z1k5 z1nh
noncomputable def zb4 (q : Option Nat) (x0 : Machine) : Tree Machine :=
 .opt (Disk × (List Int) × (List Int)) (zdk q x0.disk x0.mem x0.bad) fun r248 =>
 .leaf (Machine.mk x0.cpu r248.2.1 r248.2.2 x0.mmu x0.clock x0.lines r248.1 x0.tape x0.now x0.halted x0.waiting x0.power x0.powerTrap)
noncomputable def z7y (q : Option Nat) (x0 : Machine) : Option Machine := (zb4 q x0).run
noncomputable def zwh : Arg U (Machine × Unit) := aA zj (aNil)
noncomputable def zxy (r : Machine) : zR := ([vA zj r], [])
noncomputable def zy8 : zS := zf zwh bNil (fun x _ => z7y none x.1) zxy
noncomputable def zx9 : Env U := zE fns127 noL 18 0
theorem z1ey (x : Machine × Unit) (g : Unit) : zk zx9 Tryz.f126 (zwh.enc x) (bNil.enc g) = (zb4 none x.1).map zxy := by kernel_rfl
theorem ztq : FnOk Tryz.prog cd 126 zy8 := zm (E := zx9) zg z1mz Tryz.func126 (by kernel_rfl) (z9 (by kernel_rfl)) (zu z19 (zd)) z7 (T := fun x _ => zb4 none x.1) (fun _ _ => rfl) z1ey
noncomputable def fns126 := addF 126 true zy8 fns127
theorem z1my : zF fns126 := za ztq z1mz
noncomputable def zp5 (x0 : Tape) : Tree ((List UInt8) × Tape × Bool) :=
 .ite (decide (x0.pos = (x0.records.length : Int)))
 (.leaf ((([] : List UInt8), Tape.mk x0.records x0.pos x0.enable x0.ready true x0.mark true x0.command x0.count x0.addr x0.left, false)))
 (.ite (decide (0 ≤ x0.pos))
 (.opt (List UInt8) (x0.records[(x0.pos).toNat]?) fun y249 =>
 .ite (x0.mark)
 (.leaf ((y249, Tape.mk x0.records (IntKind.wrap .i64 (x0.pos + (1 : Int))) x0.enable x0.ready x0.error true x0.end_ x0.command x0.count x0.addr x0.left, true)))
 (.leaf ((y249, Tape.mk x0.records (IntKind.wrap .i64 (x0.pos + (1 : Int))) x0.enable x0.ready x0.error (decide (y249 = ([] : List UInt8))) x0.end_ x0.command x0.count x0.addr x0.left, true))))
 .fail)
noncomputable def zng (x0 : Tape) : Option ((List UInt8) × Tape × Bool) := (zp5 x0).run
noncomputable def z1g1 : Arg U (Tape × Unit) := aA cTape (aNil)
noncomputable def z1gx (r : ((List UInt8) × Tape × Bool)) : zR := ([vO cStr r.1, vA cTape r.2.1, vO z8 r.2.2], [])
noncomputable def z1hi : zS := zf z1g1 bNil (fun x _ => zng x.1) z1gx
noncomputable def z1ge : Env U := zE fns126 noL 34 0
theorem z1v0 (x : Tape × Unit) (g : Unit) : zk z1ge Tryz.f172 (z1g1.enc x) (bNil.enc g) = (zp5 x.1).map z1gx := by kernel_rfl
theorem z1w9 : FnOk Tryz.prog cd 172 z1hi := zm (E := z1ge) zg z1my Tryz.func172 (by kernel_rfl) (z9 (by kernel_rfl)) (zu z2z (zd)) z7 (T := fun x _ => zp5 x.1) (fun _ _ => rfl) z1v0
noncomputable def fns172 := addF 172 true z1hi fns126
theorem zhb : zF fns172 := za z1w9 z1my
noncomputable def zim (x0 : Int) (x1 : Int) : Tree (Int × Int) :=
 .leaf ((x1, x0))
noncomputable def zcg (x0 : Int) (x1 : Int) : Option (Int × Int) := (zim x0 x1).run
noncomputable def zhm : Arg U (Int × Int × Unit) := aO (cInt .i64) (aO (cInt .i64) (aNil))
noncomputable def zhx : Bls U (Unit) := bNil
noncomputable def zq9 (_x : Int × Int × Unit) (_g : Unit) (r : (Int × Int)) : zR := ([vO (cK2 (.fn 192 [] [(.ptr 0 0), (.ptr 1 0)]) (z1)) (())], [.cells ((z0 (cInt .i64) (z1) : Cdc U (Int × Unit)).enc (r.1, ())) none, .cells ((z0 (cInt .i64) (z1) : Cdc U (Int × Unit)).enc (r.2, ())) none])
noncomputable def zqf : zS := mkSpecG zhm zhx (fun x _ => zcg x.1 x.2.1) zq9
noncomputable def zq2 : Env U := zE fns172 noL 6 0
theorem z1pq (x0 : Int) (x1 : Int) : execX true zq2 Tryz.f185 (zhm.enc (x0, x1, ())) (zhx.enc ()) = (zim x0 x1).map (zq9 (x0, x1, ()) ()) := by kernel_rfl
theorem z1ll : ∀ (x : Int × Int × Unit) (g : Unit), execX true zq2 Tryz.f185 (zhm.enc x) (zhx.enc g) = (zim x.1 x.2.1).map (zq9 x g)
  | (x0, x1, ()), () => z1pq x0 x1
theorem z13m : FnOk Tryz.prog cd 185 zqf := z5y (E := zq2) (A := zhm) (B := zhx) true zg zhb Tryz.func185 (by kernel_rfl) (z9 (by kernel_rfl)) (ze (z3 .i64) (ze (z3 .i64) (zd))) z7 (T := fun (x : Int × Int × Unit) (_ : Unit) => zim x.1 x.2.1) (fun _ _ => rfl) z1ll
noncomputable def zba (x0 : Int) (g0 : Int) (g1 : Int) : Tree Bool :=
 .ite (decide ((0 : Int) < g0))
 (.ite (decide (g1 ≤ (IntKind.wrap .i64 (x0 + (1 : Int)))))
 (.leaf (decide (x0 < (IntKind.wrap .i64 (g1 + g0)))))
 (.leaf (false)))
 (.leaf (false))
noncomputable def z9z (x0 : Int) (g0 : Int) (g1 : Int) : Option Bool := (zba x0 g0 g1).run
noncomputable def ze1 : Arg U (Int × Unit) := aO (cInt .i64) (aP 0 0 (aP 1 0 (aNil)))
noncomputable def ze8 : Bls U (Int × Int × Unit) := bC (cInt .i64) (bC (cInt .i64) (bNil))
noncomputable def zky (_x : Int × Unit) (g : Int × Int × Unit) (r : Bool) : zR := ([vO (z0 z8 (z1)) (r, ())], [.cells (((cInt .i64) : Cdc U Int).enc g.1) none, .cells (((cInt .i64) : Cdc U Int).enc g.2.1) none])
noncomputable def zek : zS := mkSpecG ze1 ze8 (fun x g => z9z x.1 g.1 g.2.1) zky
noncomputable def zkv : Env U := zE fns172 noL 20 2
theorem z1it (x0 : Int) (g0 : Int) (g1 : Int) : execX false zkv Tryz.f192 (ze1.enc (x0, ())) (ze8.enc (g0, g1, ())) = (zba x0 g0 g1).map (zky (x0, ()) (g0, g1, ())) := by kernel_rfl
theorem z1fa : ∀ (x : Int × Unit) (g : Int × Int × Unit), execX false zkv Tryz.f192 (ze1.enc x) (ze8.enc g) = (zba x.1 g.1 g.2.1).map (zky x g)
  | (x0, ()), (g0, g1, ()) => z1it x0 g0 g1
theorem zjk : FnOk Tryz.prog cd 192 zek := z5y (E := zkv) (A := ze1) (B := ze8) false zg zhb Tryz.func192 (by kernel_rfl) (z9 (by kernel_rfl)) (ze (z3 .i64) (z108 (z108 (zd)))) (z13 (z3 .i64) (z13 (z3 .i64) z7)) (T := fun (x : Int × Unit) (g : Int × Int × Unit) => zba x.1 g.1 g.2.1) (fun _ _ => rfl) z1fa
structure z1c where
  t7 : Int
  t8 : Int
noncomputable def z1s (kk : ((List Int) × Int × Int)) (s : z1c) : Tree (z1c ⊕ (Int ⊕ Unit)) :=
 .ite (decide (s.t8 < s.t7))
 (.ite (decide (0 ≤ s.t8))
 (.ite (decide (s.t8 < (kk.1.length : Int)))
 (.opt Int (kk.1[(s.t8).toNat]?) fun y258 =>
 .opt Bool (z9z y258 kk.2.1 kk.2.2) fun r259 =>
 .ite (r259)
 (.leaf (.inr (.inl s.t8)))
 (.leaf (.inl (z1c.mk s.t7 (IntKind.wrap .i64 (s.t8 + (1 : Int)))))))
 .fail)
 .fail)
 (.leaf (.inr (.inr ())))
noncomputable def z2u (q : Option Nat) (kk : ((List Int) × Int × Int)) (s : z1c) : Option (Int ⊕ Unit) := limQ q (fun s => (z1s kk s).run) s
noncomputable def z2d (q : Option Nat) (g0 : (List Int)) (g1 : Int) (g2 : Int) : Tree Int :=
 .opt (Int ⊕ Unit) (z2u q (g0, g1, g2) (z1c.mk (g0.length : Int) (0 : Int))) fun l260 =>
 .ite (l260.isLeft)
 (.opt Int (l260.getLeft?) fun a261 =>
 .leaf (a261))
 (.opt Unit (l260.getRight?) fun b262 =>
 .leaf ((-1 : Int)))
noncomputable def z2k (q : Option Nat) (g0 : (List Int)) (g1 : Int) (g2 : Int) : Option Int := (z2d q g0 g1 g2).run
noncomputable def z4n : Arg U (Unit) := aR 0 (aF 192 [(.ptr 1 0), (.ptr 2 0)] (aNil))
noncomputable def z4s : Bls U ((List Int) × Int × Int × Unit) := bR 3 (bC (cInt .i64) (bC (cInt .i64) (bNil)))
noncomputable def z71 (_x : Unit) (g : (List Int) × Int × Int × Unit) (r : Int) : zR := ([vO (z0 (cInt .i64) (z1)) (r, ())], [.row 3 0 g.1, .cells (((cInt .i64) : Cdc U Int).enc g.2.1) none, .cells (((cInt .i64) : Cdc U Int).enc g.2.2.1) none])
noncomputable def zb2 : zS := mkSpecG z4n z4s (fun x g => z2k none g.1 g.2.1 g.2.2.1) z71
noncomputable def za9 (x : (Unit) × (Unit) × (Int × Unit) × (Int × Unit) × Unit) (g : (List Int) × (Int × Unit) × (Int × Unit) × Unit) : ((List Int) × Int × Int) × z1c := ((g.1, g.2.1.1, g.2.2.1.1), z1c.mk x.2.2.1.1 x.2.2.2.1.1)
noncomputable def z9f : Tms U ((Unit) × (Unit) × (Int × Unit) × (Int × Unit) × Unit) := tO 0 (cK (.row 0 0) (z1)) (tO 1 (cK2 (.fn 192 [] [(.ptr 1 0), (.ptr 2 0)]) (z1)) (tO 7 (z0 (cInt .i64) (z1)) (tO 8 (z0 (cInt .i64) (z1)) (tNil))))
noncomputable def z9j : Bls U ((List Int) × (Int × Unit) × (Int × Unit) × Unit) := bRv 3 0 (bC (z0 (cInt .i64) (z1)) (bC (z0 (cInt .i64) (z1)) (bNil)))
noncomputable def z67 (kk : ((List Int) × Int × Int)) (s : z1c) : St U := { tm := [(0, .v (vO (cK (.row 0 0) (z1)) (()))), (1, .v (vO (cK2 (.fn 192 [] [(.ptr 1 0), (.ptr 2 0)]) (z1)) (()))), (7, .v (vO (z0 (cInt .i64) (z1)) (s.t7, ()))), (8, .v (vO (z0 (cInt .i64) (z1)) (s.t8, ())))], hp := [.row 3 0 kk.1, .cells ((z0 (cInt .i64) (z1) : Cdc U (Int × Unit)).enc (kk.2.1, ())) none, .cells ((z0 (cInt .i64) (z1) : Cdc U (Int × Unit)).enc (kk.2.2, ())) none] }
noncomputable def z9n (kk : ((List Int) × Int × Int)) : (Int ⊕ Unit) → Ex × St U
  | .inl r => (.ret, { tm := [(4, .v (vO (z0 (cInt .i64) (z1)) (r, ())))], hp := [.row 3 0 kk.1, .cells ((z0 (cInt .i64) (z1) : Cdc U (Int × Unit)).enc (kk.2.1, ())) none, .cells ((z0 (cInt .i64) (z1) : Cdc U (Int × Unit)).enc (kk.2.2, ())) none] })
  | .inr r => (.exit 0, { tm := [], hp := [.row 3 0 kk.1, .cells ((z0 (cInt .i64) (z1) : Cdc U (Int × Unit)).enc (kk.2.1, ())) none, .cells ((z0 (cInt .i64) (z1) : Cdc U (Int × Unit)).enc (kk.2.2, ())) none] })
noncomputable def z9r (kk : ((List Int) × Int × Int)) (y : (Int ⊕ Unit)) : Tree (Ex × St U) := .ite y.isLeft (.opt Int y.getLeft? fun r => .leaf (.ret, { tm := [(4, .v (vO (z0 (cInt .i64) (z1)) (r, ())))], hp := [.row 3 0 kk.1, .cells ((z0 (cInt .i64) (z1) : Cdc U (Int × Unit)).enc (kk.2.1, ())) none, .cells ((z0 (cInt .i64) (z1) : Cdc U (Int × Unit)).enc (kk.2.2, ())) none] })) (.opt Unit y.getRight? fun r => .leaf (.exit 0, { tm := [], hp := [.row 3 0 kk.1, .cells ((z0 (cInt .i64) (z1) : Cdc U (Int × Unit)).enc (kk.2.1, ())) none, .cells ((z0 (cInt .i64) (z1) : Cdc U (Int × Unit)).enc (kk.2.2, ())) none] }))
noncomputable def zaf : Hd := { keep := [0, 1, 7, 8], xkeep := [4], own := false }
noncomputable def z39 : Env U := zE (addF 192 false (zek) fns172) (addL 0 zaf (mkLoopK z9f z9j za9 (z2u none) z9r) noL) 19 3
noncomputable def za2 : Code := (loopAt (Tryz.f160.body.getD .skip) 0 0).getD .skip
theorem zfe (kk : ((List Int) × Int × Int)) (s : z1c) : round z39 zaf za2 0 (z67 kk s) = (z1s kk s).map (sumE (z67 kk) (z9n kk)) := by kernel_rfl
theorem zhh : LpOk z39 za2 0 := zah (A := z9f) (B := z9j) (f := za9) (L := z2u none) (zb (z10 z6) (zb (zfk z6) (zb (z2 (z3 .i64) z6) (zb (z2 (z3 .i64) z6) z12)))) (z1m (z13 (z2 (z3 .i64) z6) (z13 (z2 (z3 .i64) z6) z7))) (enc := z67) (out := z9r) (outS := z9n) (step := z1s) (fun _ _ => rfl) (fun _ _ => by kernel_rfl) (by kernel_rfl) (fun _ b => by cases b <;> rfl) zfe
theorem zkj (g0 : (List Int)) (g1 : Int) (g2 : Int) : execX false z39 Tryz.f160 (z4n.enc ()) (z4s.enc (g0, g1, g2, ())) = (z2d none g0 g1 g2).map (z71 () (g0, g1, g2, ())) := by kernel_rfl
theorem zjx : ∀ (x : Unit) (g : (List Int) × Int × Int × Unit), execX false z39 Tryz.f160 (z4n.enc x) (z4s.enc g) = (z2d none g.1 g.2.1 g.2.2.1).map (z71 x g)
  | (), (g0, g1, g2, ()) => zkj g0 g1 g2
theorem zke : FnOk Tryz.prog cd 160 zb2 := z5y (E := z39) (A := z4n) (B := z4s) false zg (za zjk zhb) Tryz.func160 (by kernel_rfl) (z14 (z11 zhh z1j)) (z109 (zg8 (zd))) (zbu (z13 (z3 .i64) (z13 (z3 .i64) z7))) (T := fun (x : Unit) (g : (List Int) × Int × Int × Unit) => z2d none g.1 g.2.1 g.2.2.1) (fun _ _ => rfl) zjx
structure z16 where
  t5 : Int
  t6 : Int
  b0 : (List Int)
noncomputable def z1o (kk : (Int × Int)) (s : z16) : Tree (z16 ⊕ (Int × (List Int))) :=
 .ite (decide (s.t6 < (s.b0.length : Int)))
 (.ite (decide (0 ≤ s.t6))
 (.ite (decide (s.t6 < (s.b0.length : Int)))
 (.opt Int (s.b0[(s.t6).toNat]?) fun y264 =>
 .opt Bool (z9z y264 kk.1 kk.2) fun r265 =>
 .ite (!r265)
 (.ite (decide (0 ≤ s.t5))
 (.ite (decide (s.t5 < (s.b0.length : Int)))
 (.opt Int (s.b0[(s.t5).toNat]?) fun y266 =>
 .leaf (.inl (z16.mk (IntKind.wrap .i64 (s.t5 + (1 : Int))) (IntKind.wrap .i64 (s.t6 + (1 : Int))) (s.b0.set ((s.t5).toNat) y264))))
 .fail)
 .fail)
 (.leaf (.inl (z16.mk s.t5 (IntKind.wrap .i64 (s.t6 + (1 : Int))) s.b0))))
 .fail)
 .fail)
 (.leaf (.inr (s.t5, s.b0)))
noncomputable def z2n (q : Option Nat) (kk : (Int × Int)) (s : z16) : Option (Int × (List Int)) := limQ q (fun s => (z1o kk s).run) s
noncomputable def z27 (q : Option Nat) (g0 : (List Int)) (g1 : Int) (g2 : Int) : Tree (Unit ⊕ ((Nat × Nat) × (List Int))) :=
 .opt Int (z2k q g0 g1 g2) fun r263 =>
 .ite (decide (r263 = (-1 : Int)))
 (.leaf (.inl ()))
 (.opt (Int × (List Int)) (z2n q (g1, g2) (z16.mk r263 (IntKind.wrap .i64 (r263 + (1 : Int))) g0)) fun l267 =>
 .ite (decide (0 ≤ l267.1))
 (.ite (decide (l267.1 ≤ ((l267.2.length : Nat) : Int)))
 (.ite (decide (0 ≤ l267.1))
 (.ite (decide (l267.1 ≤ (((l267.2.take ((l267.1).toNat) ++ List.replicate (l267.2.length - (l267.1).toNat) (0 : Int) ++ l267.2.drop ((l267.1).toNat + (l267.2.length - (l267.1).toNat))).length : Nat) : Int)))
 (.leaf (.inr ((0, (l267.1).toNat - 0), l267.2.take ((l267.1).toNat) ++ List.replicate (l267.2.length - (l267.1).toNat) (0 : Int) ++ l267.2.drop ((l267.1).toNat + (l267.2.length - (l267.1).toNat)))))
 .fail)
 .fail)
 .fail)
 .fail)
noncomputable def z1y (q : Option Nat) (g0 : (List Int)) (g1 : Int) (g2 : Int) : Option (Unit ⊕ ((Nat × Nat) × (List Int))) := (z27 q g0 g1 g2).run
noncomputable def z4d : Arg U (Unit) := aR 0 (aF 192 [(.ptr 1 0), (.ptr 2 0)] (aNil))
noncomputable def z4f : Bls U ((List Int) × Int × Int × Unit) := bR 3 (bC (cInt .i64) (bC (cInt .i64) (bNil)))
noncomputable def z6p (_x : Unit) (g : (List Int) × Int × Int × Unit) (_r : Unit) : zR := ([vO (cK (.row 0 0) (z1)) (())], [.row 3 0 g.1, .cells (((cInt .i64) : Cdc U Int).enc g.2.1) none, .cells (((cInt .i64) : Cdc U Int).enc g.2.2.1) none])
noncomputable def z6a (_x : Unit) (g : (List Int) × Int × Int × Unit) (r : ((Nat × Nat) × (List Int))) : zR := ([vO (z0 (cOwn 0 0) (z1)) (r.1, ())], [.row 3 0 r.2, .cells (((cInt .i64) : Cdc U Int).enc g.2.1) none, .cells (((cInt .i64) : Cdc U Int).enc g.2.2.1) none])
noncomputable def z6r : zS := zgt z4d z4f (fun x g => z1y none g.1 g.2.1 g.2.2.1) z6p z6a
noncomputable def z98 (x : (Unit) × (Unit) × (Int × Unit) × (Int × Unit) × Unit) (g : (List Int) × (Int × Unit) × (Int × Unit) × Unit) : (Int × Int) × z16 := ((g.2.1.1, g.2.2.1.1), z16.mk x.2.2.1.1 x.2.2.2.1.1 g.1)
noncomputable def z8x : Tms U ((Unit) × (Unit) × (Int × Unit) × (Int × Unit) × Unit) := tO 0 (cK (.row 0 0) (z1)) (tO 1 (cK2 (.fn 192 [] [(.ptr 1 0), (.ptr 2 0)]) (z1)) (tO 5 (z0 (cInt .i64) (z1)) (tO 6 (z0 (cInt .i64) (z1)) (tNil))))
noncomputable def z8z : Bls U ((List Int) × (Int × Unit) × (Int × Unit) × Unit) := bRv 3 0 (bC (z0 (cInt .i64) (z1)) (bC (z0 (cInt .i64) (z1)) (bNil)))
noncomputable def z5q (kk : (Int × Int)) (s : z16) : St U := { tm := [(0, .v (vO (cK (.row 0 0) (z1)) (()))), (1, .v (vO (cK2 (.fn 192 [] [(.ptr 1 0), (.ptr 2 0)]) (z1)) (()))), (5, .v (vO (z0 (cInt .i64) (z1)) (s.t5, ()))), (6, .v (vO (z0 (cInt .i64) (z1)) (s.t6, ())))], hp := [.row 3 0 s.b0, .cells ((z0 (cInt .i64) (z1) : Cdc U (Int × Unit)).enc (kk.1, ())) none, .cells ((z0 (cInt .i64) (z1) : Cdc U (Int × Unit)).enc (kk.2, ())) none] }
noncomputable def z5t (kk : (Int × Int)) (r : (Int × (List Int))) : Ex × St U := (.exit 0, { tm := [(0, .v (vO (cK (.row 0 0) (z1)) (()))), (5, .v (vO (z0 (cInt .i64) (z1)) (r.1, ())))], hp := [.row 3 0 r.2, .cells ((z0 (cInt .i64) (z1) : Cdc U (Int × Unit)).enc (kk.1, ())) none, .cells ((z0 (cInt .i64) (z1) : Cdc U (Int × Unit)).enc (kk.2, ())) none] })
noncomputable def z91 (kk : (Int × Int)) (r : (Int × (List Int))) : Tree (Ex × St U) := .leaf (z5t kk r)
noncomputable def z9c : Hd := { keep := [0, 1, 5, 6], xkeep := [0, 4, 5], own := false }
noncomputable def z31 : Env U := zE (addF 192 false (zek) (addF 160 false (zb2) fns172)) (addL 0 z9c (mkLoopK z8x z8z z98 (z2n none) z91) noL) 42 3
noncomputable def z96 : Code := (loopAt (Tryz.f100.body.getD .skip) 0 0).getD .skip
theorem zf0 (kk : (Int × Int)) (s : z16) : round z31 z9c z96 0 (z5q kk s) = (z1o kk s).map (sumE (z5q kk) (z5t kk)) := by kernel_rfl
theorem zgs : LpOk z31 z96 0 := zah (A := z8x) (B := z8z) (f := z98) (L := z2n none) (zb (z10 z6) (zb (zfk z6) (zb (z2 (z3 .i64) z6) (zb (z2 (z3 .i64) z6) z12)))) (z1m (z13 (z2 (z3 .i64) z6) (z13 (z2 (z3 .i64) z6) z7))) (enc := z5q) (out := z91) (outS := z5t) (step := z1o) (fun _ _ => rfl) (fun _ _ => by kernel_rfl) (by kernel_rfl) (fun _ _ => rfl) zf0
theorem zjt (g0 : (List Int)) (g1 : Int) (g2 : Int) : execX false z31 Tryz.f100 (z4d.enc ()) (z4f.enc (g0, g1, g2, ())) = (z27 none g0 g1 g2).map ((Sum.elim (z6p () (g0, g1, g2, ())) (z6a () (g0, g1, g2, ())))) := by kernel_rfl
theorem zhl : ∀ (x : Unit) (g : (List Int) × Int × Int × Unit), execX false z31 Tryz.f100 (z4d.enc x) (z4f.enc g) = (z27 none g.1 g.2.1 g.2.2.1).map ((Sum.elim (z6p x g) (z6a x g)))
  | (), (g0, g1, g2, ()) => zjt g0 g1 g2
theorem zjj : FnOk Tryz.prog cd 100 z6r := z1jz (E := z31) (A := z4d) (B := z4f) false zg (za zjk (za zke zhb)) Tryz.func100 (by kernel_rfl) (z14 (z11 zgs z1j)) (z109 (zg8 (zd))) (zbu (z13 (z3 .i64) (z13 (z3 .i64) z7))) (T := fun (x : Unit) (g : (List Int) × Int × Int × Unit) => z27 none g.1 g.2.1 g.2.2.1) (fun _ _ => rfl) zhl
theorem zjc : Keeps z6r [1, 2] := zz6 (zbu (z13 (z3 .i64) (z13 (z3 .i64) z7))) (fun x g y => by kernel_rfl) (fun x g y => by kernel_rfl)
noncomputable def zm9 (q : Option Nat) (x0 : Tape) (x1 : (List Int)) (x2 : (List Int)) : Tree (Tape × (List Int) × (List Int)) :=
 .opt ((List UInt8) × Tape × Bool) (zng x0) fun r268 =>
 .ite (!r268.2.2)
 (.leaf ((r268.2.1, x1, x2)))
 (.ite (r268.2.1.error)
 (.ite (decide (0 ≤ (if (r268.1.length : Int) < r268.2.1.count then (r268.1.length : Int) else r268.2.1.count)))
 (.ite (decide ((if (r268.1.length : Int) < r268.2.1.count then (r268.1.length : Int) else r268.2.1.count) ≤ ((r268.1.length : Nat) : Int)))
 (.opt ((List Int) × Int) (z7p q x1 r268.2.1.addr ((r268.1.drop (0)).take (((if (r268.1.length : Int) < r268.2.1.count then (r268.1.length : Int) else r268.2.1.count)).toNat - 0))) fun r269 =>
 .ite (!decide (r269.2 = (0 : Int)))
 (.leaf ((Tape.mk r268.2.1.records r268.2.1.pos r268.2.1.enable r268.2.1.ready true r268.2.1.mark r268.2.1.end_ r268.2.1.command r268.2.1.count r268.2.1.addr r268.2.1.left, x1, x2)))
 (.opt (List Int) (cloneF 8 x2) fun r270 =>
 .opt (Int × Int) (zcg r268.2.1.addr (if (r268.1.length : Int) < r268.2.1.count then (r268.1.length : Int) else r268.2.1.count)) fun r271 =>
 .opt (Unit ⊕ ((Nat × Nat) × (List Int))) (z1y q r270 r271.1 r271.2) fun r272 =>
 .ite (r272.isLeft)
 (.opt Unit (r272.getLeft?) fun a273 =>
 .leaf ((Tape.mk r268.2.1.records r268.2.1.pos r268.2.1.enable r268.2.1.ready true r268.2.1.mark r268.2.1.end_ r268.2.1.command (IntKind.wrap .i64 (r268.2.1.count - (if (r268.1.length : Int) < r268.2.1.count then (r268.1.length : Int) else r268.2.1.count))) r268.2.1.addr r268.2.1.left, r269.1, r270)))
 (.opt ((Nat × Nat) × (List Int)) (r272.getRight?) fun b274 =>
 .leaf ((Tape.mk r268.2.1.records r268.2.1.pos r268.2.1.enable r268.2.1.ready true r268.2.1.mark r268.2.1.end_ r268.2.1.command (IntKind.wrap .i64 (r268.2.1.count - (if (r268.1.length : Int) < r268.2.1.count then (r268.1.length : Int) else r268.2.1.count))) r268.2.1.addr r268.2.1.left, r269.1, (b274.2.drop (b274.1.1)).take (b274.1.2))))))
 .fail)
 .fail)
 (.ite (decide (0 ≤ (if (r268.1.length : Int) < r268.2.1.count then (r268.1.length : Int) else r268.2.1.count)))
 (.ite (decide ((if (r268.1.length : Int) < r268.2.1.count then (r268.1.length : Int) else r268.2.1.count) ≤ ((r268.1.length : Nat) : Int)))
 (.opt ((List Int) × Int) (z7p q x1 r268.2.1.addr ((r268.1.drop (0)).take (((if (r268.1.length : Int) < r268.2.1.count then (r268.1.length : Int) else r268.2.1.count)).toNat - 0))) fun r275 =>
 .ite (!decide (r275.2 = (0 : Int)))
 (.leaf ((Tape.mk r268.2.1.records r268.2.1.pos r268.2.1.enable r268.2.1.ready true r268.2.1.mark r268.2.1.end_ r268.2.1.command r268.2.1.count r268.2.1.addr r268.2.1.left, x1, x2)))
 (.opt (List Int) (cloneF 8 x2) fun r276 =>
 .opt (Int × Int) (zcg r268.2.1.addr (if (r268.1.length : Int) < r268.2.1.count then (r268.1.length : Int) else r268.2.1.count)) fun r277 =>
 .opt (Unit ⊕ ((Nat × Nat) × (List Int))) (z1y q r276 r277.1 r277.2) fun r278 =>
 .ite (r278.isLeft)
 (.opt Unit (r278.getLeft?) fun a279 =>
 .leaf ((Tape.mk r268.2.1.records r268.2.1.pos r268.2.1.enable r268.2.1.ready (decide (r268.2.1.count < (r268.1.length : Int))) r268.2.1.mark r268.2.1.end_ r268.2.1.command (IntKind.wrap .i64 (r268.2.1.count - (if (r268.1.length : Int) < r268.2.1.count then (r268.1.length : Int) else r268.2.1.count))) r268.2.1.addr r268.2.1.left, r275.1, r276)))
 (.opt ((Nat × Nat) × (List Int)) (r278.getRight?) fun b280 =>
 .leaf ((Tape.mk r268.2.1.records r268.2.1.pos r268.2.1.enable r268.2.1.ready (decide (r268.2.1.count < (r268.1.length : Int))) r268.2.1.mark r268.2.1.end_ r268.2.1.command (IntKind.wrap .i64 (r268.2.1.count - (if (r268.1.length : Int) < r268.2.1.count then (r268.1.length : Int) else r268.2.1.count))) r268.2.1.addr r268.2.1.left, r275.1, (b280.2.drop (b280.1.1)).take (b280.1.2))))))
 .fail)
 .fail))
noncomputable def zpo (q : Option Nat) (x0 : Tape) (x1 : (List Int)) (x2 : (List Int)) : Option (Tape × (List Int) × (List Int)) := (zm9 q x0 x1 x2).run
noncomputable def z1b4 : Arg U (Tape × (List Int) × (List Int) × Unit) := aA cTape (aO (cSl 3) (aO (cSl 3) (aNil)))
noncomputable def z1ci (r : (Tape × (List Int) × (List Int))) : zR := ([vA cTape r.1, vO (cSl 3) r.2.1, vO (cSl 3) r.2.2], [])
noncomputable def z1d9 : zS := zf z1b4 bNil (fun x _ => zpo none x.1 x.2.1 x.2.2.1) z1ci
noncomputable def z1br : Env U := { P := Tryz.prog, cd := cd, fns := (addF 185 false (zqf) (addF 101 false (z4h 3 8) (addF 100 false (z6r) fns172))), lps := noL, frz := fun _r => false, nt := 70, n0 := 0, fps := fun _r _i => bif Nat.beq _r 11 && Nat.beq _i 0 then .rd [0] else bif Nat.beq _r 11 && Nat.beq _i 3 then .wr [] 2 else bif Nat.beq _r 11 && Nat.beq _i 4 then .rd [] else bif Nat.beq _r 11 && Nat.beq _i 5 then .rd [0] else bif Nat.beq _r 11 && Nat.beq _i 7 then .wr [] 3 else bif Nat.beq _r 11 && Nat.beq _i 8 then .wr [2] 5 else .none, kps := fun f => bif Nat.beq f 100 then [1, 2] else [], kok := (z1jq (q0 := false) (by kernel_rfl) zjc z1xa) }
theorem z1qh (x : Tape × (List Int) × (List Int) × Unit) (g : Unit) : zk z1br Tryz.f170 (z1b4.enc x) (bNil.enc g) = (zm9 none x.1 x.2.1 x.2.2.1).map z1ci := by kernel_rfl
theorem z1u3 : FnOk Tryz.prog cd 170 z1d9 := zm (E := z1br) zg (za z13m (za z7i (za zjj zhb))) Tryz.func170 (by kernel_rfl) (z9 (by kernel_rfl)) (zu z2z (ze (zi 3) (ze (zi 3) (zd)))) z7 (T := fun x _ => zm9 none x.1 x.2.1 x.2.2.1) (fun _ _ => rfl) z1qh
noncomputable def fns170 := addF 170 true z1d9 fns172
theorem z1ni : zF fns170 := za z1u3 zhb
noncomputable def z107 (x0 : (List UInt8)) : Tree Bool :=
 .leaf (decide ((512 : Int) < (x0.length : Int)))
noncomputable def zv2 (x0 : (List UInt8)) : Option Bool := (z107 x0).run
noncomputable def z1g0 : Arg U ((List UInt8) × Unit) := aO cStr (aNil)
noncomputable def z1gw (r : Bool) : zR := ([vO z8 r], [])
noncomputable def z1hh : zS := zf z1g0 bNil (fun x _ => zv2 x.1) z1gw
noncomputable def z1gd : Env U := zE fns170 noL 6 0
theorem z1uz (x : (List UInt8) × Unit) (g : Unit) : zk z1gd Tryz.f95 (z1g0.enc x) (bNil.enc g) = (z107 x.1).map z1gw := by kernel_rfl
theorem z1w8 : FnOk Tryz.prog cd 95 z1hh := zm (E := z1gd) zg z1ni Tryz.func95 (by kernel_rfl) (z9 (by kernel_rfl)) (ze z5a (zd)) z7 (T := fun x _ => z107 x.1) (fun _ _ => rfl) z1uz
noncomputable def fns95 := addF 95 true z1hh fns170
theorem z1t2 : zF fns95 := za z1w8 z1ni
noncomputable def zm8 (x0 : Tape) (x1 : (List UInt8)) : Tree Tape :=
 .ite (decide (x0.pos = (64 : Int)))
 (.leaf (Tape.mk x0.records x0.pos x0.enable x0.ready true x0.mark true x0.command x0.count x0.addr x0.left))
 (.ite (decide (0 ≤ x0.pos))
 (.ite (decide (x0.pos ≤ ((x0.records.length : Nat) : Int)))
 (.opt (List (List UInt8)) (cloneF 16 ((x0.records.drop (0)).take ((x0.pos).toNat - 0))) fun r281 =>
 .ite (decide ((r281.length + ([x1]).length) * 16 ≤ 140737488355328))
 (.leaf (Tape.mk (r281 ++ ([x1])) (IntKind.wrap .i64 (x0.pos + (1 : Int))) x0.enable x0.ready x0.error x0.mark x0.end_ x0.command x0.count x0.addr x0.left))
 .fail)
 .fail)
 .fail)
noncomputable def zk0 (x0 : Tape) (x1 : (List UInt8)) : Option Tape := (zm8 x0 x1).run
noncomputable def z1b3 : Arg U (Tape × (List UInt8) × Unit) := aA cTape (aO cStr (aNil))
noncomputable def z1ch (r : Tape) : zR := ([vA cTape r], [])
noncomputable def z1d8 : zS := zf z1b3 bNil (fun x _ => zk0 x.1 x.2.1) z1ch
noncomputable def z1bq : Env U := zE (addF 187 false (z4h 9 16) fns95) noL 26 0
theorem z1qg (x : Tape × (List UInt8) × Unit) (g : Unit) : zk z1bq Tryz.f173 (z1b3.enc x) (bNil.enc g) = (zm8 x.1 x.2.1).map z1ch := by kernel_rfl
theorem z1u2 : FnOk Tryz.prog cd 173 z1d8 := zm (E := z1bq) zg (za zbf z1t2) Tryz.func173 (by kernel_rfl) (z9 (by kernel_rfl)) (zu z2z (ze z5a (zd))) z7 (T := fun x _ => zm8 x.1 x.2.1) (fun _ _ => rfl) z1qg
noncomputable def fns173 := addF 173 true z1d8 fns95
theorem z1ze : zF fns173 := za z1u2 z1t2
noncomputable def z80 (x0 : (List UInt8)) : Option (List UInt8) := zhe x0
noncomputable def zbn : zS := zf (aO cStr aNil : Arg U (List UInt8 × Unit)) bNil (fun x _ => z80 x.1) fun r => ([vO cStr r], [])
end Go.Proofs.YtfdndagnolbnhaaGreat
namespace Go.Proofs
shelf_lay LaysPu.n25 Mp 25 at Tryz as Tryz.lays193
end Go.Proofs
namespace Go.Proofs.YtfdndagnolbnhaaGreat
open Go Go.Ab
theorem zlf : FnOk Tryz.prog cd 193 zbn := z1wi Tryz.lays193 Tryz.func193 (by kernel_rfl) (by kernel_rfl) rfl
noncomputable def fns193 := addF 193 true zbn fns173
theorem z1nt : zF fns193 := za zlf z1ze
noncomputable def zeo (x0 : (List UInt8)) : Tree (List UInt8) :=
 .opt (List UInt8) (z80 x0) fun r282 =>
 .leaf (r282)
noncomputable def zgd (x0 : (List UInt8)) : Option (List UInt8) := (zeo x0).run
noncomputable def zwq : Arg U ((List UInt8) × Unit) := aO cStr (aNil)
noncomputable def zy7 (r : (List UInt8)) : zR := ([vO cStr r], [])
noncomputable def zyh : zS := zf zwq bNil (fun x _ => zgd x.1) zy7
noncomputable def zxf : Env U := zE fns193 noL 5 0
theorem z1f9 (x : (List UInt8) × Unit) (g : Unit) : zk zxf Tryz.f186 (zwq.enc x) (bNil.enc g) = (zeo x.1).map zy7 := by kernel_rfl
theorem z1im : FnOk Tryz.prog cd 186 zyh := zm (E := zxf) zg z1nt Tryz.func186 (by kernel_rfl) (z9 (by kernel_rfl)) (ze z5a (zd)) z7 (T := fun x _ => zeo x.1) (fun _ _ => rfl) z1f9
noncomputable def fns186 := addF 186 true zyh fns193
theorem zte : zF fns186 := za z1im z1nt
structure z1d where
  t0 : (List Int)
  t7 : Int
  t8 : Int
noncomputable def z1t (kk : (Int × Int)) (s : z1d) : Tree (z1d ⊕ (Int ⊕ Unit)) :=
 .ite (decide (s.t8 < s.t7))
 (.ite (decide (0 ≤ s.t8))
 (.opt Int (s.t0[(s.t8).toNat]?) fun y286 =>
 .opt Bool (z9z y286 kk.1 kk.2) fun r287 =>
 .ite (r287)
 (.leaf (.inr (.inl s.t8)))
 (.leaf (.inl (z1d.mk s.t0 s.t7 (IntKind.wrap .i64 (s.t8 + (1 : Int)))))))
 .fail)
 (.leaf (.inr (.inr ())))
noncomputable def z2v (q : Option Nat) (kk : (Int × Int)) (s : z1d) : Option (Int ⊕ Unit) := limQ q (fun s => (z1t kk s).run) s
noncomputable def z2e (q : Option Nat) (x0 : (List Int)) (g0 : Int) (g1 : Int) : Tree Int :=
 .opt (Int ⊕ Unit) (z2v q (g0, g1) (z1d.mk x0 (x0.length : Int) (0 : Int))) fun l288 =>
 .ite (l288.isLeft)
 (.opt Int (l288.getLeft?) fun a289 =>
 .leaf (a289))
 (.opt Unit (l288.getRight?) fun b290 =>
 .leaf ((-1 : Int)))
noncomputable def z3f (q : Option Nat) (x0 : (List Int)) (g0 : Int) (g1 : Int) : Option Int := (z2e q x0 g0 g1).run
noncomputable def z4o : Arg U ((List Int) × Unit) := aO (cSl 3) (aF 192 [(.ptr 0 0), (.ptr 1 0)] (aNil))
noncomputable def z4t : Bls U (Int × Int × Unit) := bC (cInt .i64) (bC (cInt .i64) (bNil))
noncomputable def z72 (_x : (List Int) × Unit) (g : Int × Int × Unit) (r : Int) : zR := ([vO (z0 (cInt .i64) (z1)) (r, ())], [.cells (((cInt .i64) : Cdc U Int).enc g.1) none, .cells (((cInt .i64) : Cdc U Int).enc g.2.1) none])
noncomputable def zb3 : zS := mkSpecG z4o z4t (fun x g => z3f none x.1 g.1 g.2.1) z72
noncomputable def zaa (x : ((List Int) × Unit) × (Unit) × (Int × Unit) × (Int × Unit) × Unit) (g : (Int × Unit) × (Int × Unit) × Unit) : (Int × Int) × z1d := ((g.1.1, g.2.1.1), z1d.mk x.1.1 x.2.2.1.1 x.2.2.2.1.1)
noncomputable def z9g : Tms U (((List Int) × Unit) × (Unit) × (Int × Unit) × (Int × Unit) × Unit) := tO 0 (z0 (cSl 3) (z1)) (tO 1 (cK2 (.fn 192 [] [(.ptr 0 0), (.ptr 1 0)]) (z1)) (tO 7 (z0 (cInt .i64) (z1)) (tO 8 (z0 (cInt .i64) (z1)) (tNil))))
noncomputable def z9k : Bls U ((Int × Unit) × (Int × Unit) × Unit) := bC (z0 (cInt .i64) (z1)) (bC (z0 (cInt .i64) (z1)) (bNil))
noncomputable def z68 (kk : (Int × Int)) (s : z1d) : St U := { tm := [(0, .v (vO (z0 (cSl 3) (z1)) (s.t0, ()))), (1, .v (vO (cK2 (.fn 192 [] [(.ptr 0 0), (.ptr 1 0)]) (z1)) (()))), (7, .v (vO (z0 (cInt .i64) (z1)) (s.t7, ()))), (8, .v (vO (z0 (cInt .i64) (z1)) (s.t8, ())))], hp := [.cells ((z0 (cInt .i64) (z1) : Cdc U (Int × Unit)).enc (kk.1, ())) none, .cells ((z0 (cInt .i64) (z1) : Cdc U (Int × Unit)).enc (kk.2, ())) none] }
noncomputable def z9o (kk : (Int × Int)) : (Int ⊕ Unit) → Ex × St U
  | .inl r => (.ret, { tm := [(4, .v (vO (z0 (cInt .i64) (z1)) (r, ())))], hp := [.cells ((z0 (cInt .i64) (z1) : Cdc U (Int × Unit)).enc (kk.1, ())) none, .cells ((z0 (cInt .i64) (z1) : Cdc U (Int × Unit)).enc (kk.2, ())) none] })
  | .inr r => (.exit 0, { tm := [], hp := [.cells ((z0 (cInt .i64) (z1) : Cdc U (Int × Unit)).enc (kk.1, ())) none, .cells ((z0 (cInt .i64) (z1) : Cdc U (Int × Unit)).enc (kk.2, ())) none] })
noncomputable def z9s (kk : (Int × Int)) (y : (Int ⊕ Unit)) : Tree (Ex × St U) := .ite y.isLeft (.opt Int y.getLeft? fun r => .leaf (.ret, { tm := [(4, .v (vO (z0 (cInt .i64) (z1)) (r, ())))], hp := [.cells ((z0 (cInt .i64) (z1) : Cdc U (Int × Unit)).enc (kk.1, ())) none, .cells ((z0 (cInt .i64) (z1) : Cdc U (Int × Unit)).enc (kk.2, ())) none] })) (.opt Unit y.getRight? fun r => .leaf (.exit 0, { tm := [], hp := [.cells ((z0 (cInt .i64) (z1) : Cdc U (Int × Unit)).enc (kk.1, ())) none, .cells ((z0 (cInt .i64) (z1) : Cdc U (Int × Unit)).enc (kk.2, ())) none] }))
noncomputable def zag : Hd := { keep := [0, 1, 7, 8], xkeep := [4], own := false }
noncomputable def z3a : Env U := zE (addF 192 false (zek) fns186) (addL 0 zag (mkLoopK z9g z9k zaa (z2v none) z9s) noL) 19 2
noncomputable def za3 : Code := (loopAt (Tryz.f160.body.getD .skip) 0 0).getD .skip
theorem zff (kk : (Int × Int)) (s : z1d) : round z3a zag za3 0 (z68 kk s) = (z1t kk s).map (sumE (z68 kk) (z9o kk)) := by kernel_rfl
theorem zhi : LpOk z3a za3 0 := zah (A := z9g) (B := z9k) (f := zaa) (L := z2v none) (zb (z2 (zi 3) z6) (zb (zfk z6) (zb (z2 (z3 .i64) z6) (zb (z2 (z3 .i64) z6) z12)))) (z13 (z2 (z3 .i64) z6) (z13 (z2 (z3 .i64) z6) z7)) (enc := z68) (out := z9s) (outS := z9o) (step := z1t) (fun _ _ => rfl) (fun _ _ => by kernel_rfl) (by kernel_rfl) (fun _ b => by cases b <;> rfl) zff
theorem zkk (x0 : (List Int)) (g0 : Int) (g1 : Int) : execX false z3a Tryz.f160 (z4o.enc (x0, ())) (z4t.enc (g0, g1, ())) = (z2e none x0 g0 g1).map (z72 (x0, ()) (g0, g1, ())) := by kernel_rfl
theorem zjy : ∀ (x : (List Int) × Unit) (g : Int × Int × Unit), execX false z3a Tryz.f160 (z4o.enc x) (z4t.enc g) = (z2e none x.1 g.1 g.2.1).map (z72 x g)
  | (x0, ()), (g0, g1, ()) => zkk x0 g0 g1
theorem zkf : FnOk Tryz.prog cd 160 zb3 := z5y (E := z3a) (A := z4o) (B := z4t) false zg (za zjk zte) Tryz.func160 (by kernel_rfl) (z14 (z11 zhi z1j)) (ze (zi 3) (zg8 (zd))) (z13 (z3 .i64) (z13 (z3 .i64) z7)) (T := fun (x : (List Int) × Unit) (g : Int × Int × Unit) => z2e none x.1 g.1 g.2.1) (fun _ _ => rfl) zjy
noncomputable def z2o (q : Option Nat) (x0 : (List Int)) (g0 : Int) (g1 : Int) : Tree Bool :=
 .opt Int (z3f q x0 g0 g1) fun r291 =>
 .leaf (decide ((0 : Int) ≤ r291))
noncomputable def z48 (q : Option Nat) (x0 : (List Int)) (g0 : Int) (g1 : Int) : Option Bool := (z2o q x0 g0 g1).run
noncomputable def z3m : Arg U ((List Int) × Unit) := aO (cSl 3) (aF 192 [(.ptr 0 0), (.ptr 1 0)] (aNil))
noncomputable def z3o : Bls U (Int × Int × Unit) := bC (cInt .i64) (bC (cInt .i64) (bNil))
noncomputable def z63 (_x : (List Int) × Unit) (g : Int × Int × Unit) (r : Bool) : zR := ([vO (z0 z8 (z1)) (r, ())], [.cells (((cInt .i64) : Cdc U Int).enc g.1) none, .cells (((cInt .i64) : Cdc U Int).enc g.2.1) none])
noncomputable def z99 : zS := mkSpecG z3m z3o (fun x g => z48 none x.1 g.1 g.2.1) z63
noncomputable def z62 : Env U := zE (addF 160 false (zb3) fns186) noL 9 2
theorem zgw (x0 : (List Int)) (g0 : Int) (g1 : Int) : execX false z62 Tryz.f182 (z3m.enc (x0, ())) (z3o.enc (g0, g1, ())) = (z2o none x0 g0 g1).map (z63 (x0, ()) (g0, g1, ())) := by kernel_rfl
theorem zfr : ∀ (x : (List Int) × Unit) (g : Int × Int × Unit), execX false z62 Tryz.f182 (z3m.enc x) (z3o.enc g) = (z2o none x.1 g.1 g.2.1).map (z63 x g)
  | (x0, ()), (g0, g1, ()) => zgw x0 g0 g1
theorem zgu : FnOk Tryz.prog cd 182 z99 := z5y (E := z62) (A := z3m) (B := z3o) false zg (za zkf zte) Tryz.func182 (by kernel_rfl) (z9 (by kernel_rfl)) (ze (zi 3) (zg8 (zd))) (z13 (z3 .i64) (z13 (z3 .i64) z7)) (T := fun (x : (List Int) × Unit) (g : Int × Int × Unit) => z2o none x.1 g.1 g.2.1) (fun _ _ => rfl) zfr
noncomputable def zma (q : Option Nat) (x0 : Tape) (x1 : (List Int)) (x2 : (List Int)) : Tree Tape :=
 .opt ((List UInt8) × Int) (z8v q x1 x0.addr x0.count) fun r292 =>
 .ite (!decide (r292.2 = (0 : Int)))
 (.leaf (Tape.mk x0.records x0.pos x0.enable x0.ready true x0.mark x0.end_ x0.command x0.count x0.addr x0.left))
 (.ite (decide (r292.1 = ([] : List UInt8)))
 (.leaf (Tape.mk x0.records x0.pos x0.enable x0.ready true x0.mark x0.end_ x0.command x0.count x0.addr x0.left))
 (.opt Bool (zv2 r292.1) fun r293 =>
 .ite (r293)
 (.leaf (Tape.mk x0.records x0.pos x0.enable x0.ready true x0.mark x0.end_ x0.command x0.count x0.addr x0.left))
 (.opt (Int × Int) (zcg x0.addr x0.count) fun r294 =>
 .opt Bool (z48 q x2 r294.1 r294.2) fun r295 =>
 .ite (r295)
 (.leaf (Tape.mk x0.records x0.pos x0.enable x0.ready true x0.mark x0.end_ x0.command x0.count x0.addr x0.left))
 (.opt (List UInt8) (zgd r292.1) fun r296 =>
 .opt Tape (zk0 x0 r296) fun r297 =>
 .leaf (r297)))))
noncomputable def zpp (q : Option Nat) (x0 : Tape) (x1 : (List Int)) (x2 : (List Int)) : Option Tape := (zma q x0 x1 x2).run
noncomputable def z1b5 : Arg U (Tape × (List Int) × (List Int) × Unit) := aA cTape (aO (cSl 3) (aO (cSl 3) (aNil)))
noncomputable def z1cj (r : Tape) : zR := ([vA cTape r], [])
noncomputable def z1da : zS := zf z1b5 bNil (fun x _ => zpp none x.1 x.2.1 x.2.2.1) z1cj
noncomputable def z1bs : Env U := zE (addF 185 false (zqf) (addF 182 false (z99) fns186)) noL 43 0
theorem z1qi (x : Tape × (List Int) × (List Int) × Unit) (g : Unit) : zk z1bs Tryz.f171 (z1b5.enc x) (bNil.enc g) = (zma none x.1 x.2.1 x.2.2.1).map z1cj := by kernel_rfl
theorem z1u4 : FnOk Tryz.prog cd 171 z1da := zm (E := z1bs) zg (za z13m (za zgu zte)) Tryz.func171 (by kernel_rfl) (z9 (by kernel_rfl)) (zu z2z (ze (zi 3) (ze (zi 3) (zd)))) z7 (T := fun x _ => zma none x.1 x.2.1 x.2.2.1) (fun _ _ => rfl) z1qi
noncomputable def fns171 := addF 171 true z1da fns186
theorem z1nj : zF fns171 := za z1u4 zte
noncomputable def zp4 (q : Option Nat) (x0 : Tape) (x1 : (List Int)) (x2 : (List Int)) : Tree (Tape × (List Int) × (List Int)) :=
 .ite (decide (x0.left = (0 : Int)))
 (.leaf ((x0, x1, x2)))
 (.ite (decide ((0 : Int) < (IntKind.wrap .i64 (x0.left - (1 : Int)))))
 (.leaf ((Tape.mk x0.records x0.pos x0.enable x0.ready x0.error x0.mark x0.end_ x0.command x0.count x0.addr (IntKind.wrap .i64 (x0.left - (1 : Int))), x1, x2)))
 (.ite (decide (x0.command = (1 : Int)))
 (.opt (Tape × (List Int) × (List Int)) (zpo q (Tape.mk x0.records x0.pos x0.enable true x0.error x0.mark x0.end_ x0.command x0.count x0.addr (IntKind.wrap .i64 (x0.left - (1 : Int)))) x1 x2) fun r298 =>
 .leaf ((r298.1, r298.2.1, r298.2.2)))
 (.ite (decide (x0.command = (2 : Int)))
 (.opt Tape (zpp q (Tape.mk x0.records x0.pos x0.enable true x0.error x0.mark x0.end_ x0.command x0.count x0.addr (IntKind.wrap .i64 (x0.left - (1 : Int)))) x1 x2) fun r299 =>
 .leaf ((r299, x1, x2)))
 (.ite (decide (x0.command = (3 : Int)))
 (.opt ((List UInt8) × Tape × Bool) (zng (Tape.mk x0.records x0.pos x0.enable true x0.error x0.mark x0.end_ x0.command x0.count x0.addr (IntKind.wrap .i64 (x0.left - (1 : Int))))) fun r300 =>
 .leaf ((r300.2.1, x1, x2)))
 (.ite (decide (x0.command = (4 : Int)))
 (.ite (decide (x0.pos = (0 : Int)))
 (.leaf ((Tape.mk x0.records x0.pos x0.enable true x0.error x0.mark true x0.command x0.count x0.addr (IntKind.wrap .i64 (x0.left - (1 : Int))), x1, x2)))
 (.ite (x0.mark)
 (.leaf ((Tape.mk x0.records (IntKind.wrap .i64 (x0.pos - (1 : Int))) x0.enable true x0.error true x0.end_ x0.command x0.count x0.addr (IntKind.wrap .i64 (x0.left - (1 : Int))), x1, x2)))
 (.ite (decide (0 ≤ IntKind.wrap .i64 (x0.pos - (1 : Int))))
 (.opt (List UInt8) (x0.records[(IntKind.wrap .i64 (x0.pos - (1 : Int))).toNat]?) fun y301 =>
 .leaf ((Tape.mk x0.records (IntKind.wrap .i64 (x0.pos - (1 : Int))) x0.enable true x0.error (decide (y301 = ([] : List UInt8))) x0.end_ x0.command x0.count x0.addr (IntKind.wrap .i64 (x0.left - (1 : Int))), x1, x2)))
 .fail)))
 (.ite (decide (x0.command = (5 : Int)))
 (.leaf ((Tape.mk x0.records (0 : Int) x0.enable true x0.error x0.mark x0.end_ x0.command x0.count x0.addr (IntKind.wrap .i64 (x0.left - (1 : Int))), x1, x2)))
 (.ite (decide (x0.command = (6 : Int)))
 (.opt Tape (zk0 (Tape.mk x0.records x0.pos x0.enable true x0.error x0.mark x0.end_ x0.command x0.count x0.addr (IntKind.wrap .i64 (x0.left - (1 : Int)))) ([] : List UInt8)) fun r302 =>
 .leaf ((r302, x1, x2)))
 (.leaf ((Tape.mk x0.records x0.pos x0.enable true x0.error x0.mark x0.end_ x0.command x0.count x0.addr (IntKind.wrap .i64 (x0.left - (1 : Int))), x1, x2))))))))))
noncomputable def znf (q : Option Nat) (x0 : Tape) (x1 : (List Int)) (x2 : (List Int)) : Option (Tape × (List Int) × (List Int)) := (zp4 q x0 x1 x2).run
noncomputable def z1fz : Arg U (Tape × (List Int) × (List Int) × Unit) := aA cTape (aO (cSl 3) (aO (cSl 3) (aNil)))
noncomputable def z1gv (r : (Tape × (List Int) × (List Int))) : zR := ([vA cTape r.1, vO (cSl 3) r.2.1, vO (cSl 3) r.2.2], [])
noncomputable def z1hg : zS := zf z1fz bNil (fun x _ => znf none x.1 x.2.1 x.2.2.1) z1gv
noncomputable def z1gc : Env U := zE fns171 noL 85 0
theorem z1uy (x : Tape × (List Int) × (List Int) × Unit) (g : Unit) : zk z1gc Tryz.f136 (z1fz.enc x) (bNil.enc g) = (zp4 none x.1 x.2.1 x.2.2.1).map z1gv := by kernel_rfl
theorem z1w7 : FnOk Tryz.prog cd 136 z1hg := zm (E := z1gc) zg z1nj Tryz.func136 (by kernel_rfl) (z9 (by kernel_rfl)) (zu z2z (ze (zi 3) (ze (zi 3) (zd)))) z7 (T := fun x _ => zp4 none x.1 x.2.1 x.2.2.1) (fun _ _ => rfl) z1uy
noncomputable def fns136 := addF 136 true z1hg fns171
theorem z1n1 : zF fns136 := za z1w7 z1nj
noncomputable def zb6 (q : Option Nat) (x0 : Machine) : Tree Machine :=
 .opt (Tape × (List Int) × (List Int)) (znf q x0.tape x0.mem x0.bad) fun r303 =>
 .leaf (Machine.mk x0.cpu r303.2.1 r303.2.2 x0.mmu x0.clock x0.lines x0.disk r303.1 x0.now x0.halted x0.waiting x0.power x0.powerTrap)
noncomputable def z7z (q : Option Nat) (x0 : Machine) : Option Machine := (zb6 q x0).run
noncomputable def zwi : Arg U (Machine × Unit) := aA zj (aNil)
noncomputable def zxz (r : Machine) : zR := ([vA zj r], [])
noncomputable def zy9 : zS := zf zwi bNil (fun x _ => z7z none x.1) zxz
noncomputable def zxa : Env U := zE fns136 noL 18 0
theorem z1f0 (x : Machine × Unit) (g : Unit) : zk zxa Tryz.f135 (zwi.enc x) (bNil.enc g) = (zb6 none x.1).map zxz := by kernel_rfl
theorem ztr : FnOk Tryz.prog cd 135 zy9 := zm (E := zxa) zg z1n1 Tryz.func135 (by kernel_rfl) (z9 (by kernel_rfl)) (zu z19 (zd)) z7 (T := fun x _ => zb6 none x.1) (fun _ _ => rfl) z1f0
noncomputable def fns135 := addF 135 true zy9 fns136
theorem z1n0 : zF fns135 := za ztr z1n1
noncomputable def zg3 (x0 : Machine) (x1 : Int) (x2 : Line) : Tree Machine :=
 .opt (List Line) (cloneF 56 x0.lines) fun r304 =>
 .ite (decide (0 ≤ x1))
 (.ite (decide (x1 < (r304.length : Int)))
 (.opt Line (r304[(x1).toNat]?) fun y305 =>
 .leaf (Machine.mk x0.cpu x0.mem x0.bad x0.mmu x0.clock (r304.set ((x1).toNat) x2) x0.disk x0.tape x0.now x0.halted x0.waiting x0.power x0.powerTrap))
 .fail)
 .fail
noncomputable def zio (x0 : Machine) (x1 : Int) (x2 : Line) : Option Machine := (zg3 x0 x1 x2).run
noncomputable def z11f : Arg U (Machine × Int × Line × Unit) := aA zj (aO (cInt .i64) (aA cLine (aNil)))
noncomputable def z12f (r : Machine) : zR := ([vA zj r], [])
noncomputable def z12v : zS := zf z11f bNil (fun x _ => zio x.1 x.2.1 x.2.2.1) z12f
noncomputable def z120 : Env U := zE (addF 104 false (z4h 55 56) fns135) noL 17 0
theorem z1iu (x : Machine × Int × Line × Unit) (g : Unit) : zk z120 Tryz.f144 (z11f.enc x) (bNil.enc g) = (zg3 x.1 x.2.1 x.2.2.1).map z12f := by kernel_rfl
theorem z1k3 : FnOk Tryz.prog cd 144 z12v := zm (E := z120) zg (za z5r z1n0) Tryz.func144 (by kernel_rfl) (z9 (by kernel_rfl)) (zu z19 (ze (z3 .i64) (zu zdj (zd)))) z7 (T := fun x _ => zg3 x.1 x.2.1 x.2.2.1) (fun _ _ => rfl) z1iu
noncomputable def fns144 := addF 144 true z12v fns135
theorem z1n2 : zF fns144 := za z1k3 z1n0
noncomputable def zp3 (x0 : Line) : Tree Line :=
 .ite (decide (x0.txLeft = (0 : Int)))
 (.leaf (x0))
 (.ite (decide ((IntKind.wrap .i64 (x0.txLeft - (1 : Int))) = (0 : Int)))
 (.ite (decide (x0.out.length + (([IntKind.wrap .u8 x0.txData]).map fun x => UInt8.ofNat x.toNat).length ≤ 9223372036854775807))
 (.ite (decide (0 ≤ (if IntKind.wrap .i64 (((x0.out ++ (([IntKind.wrap .u8 x0.txData]).map fun x => UInt8.ofNat x.toNat)).length : Int) - (4096 : Int)) > (0 : Int) then IntKind.wrap .i64 (((x0.out ++ (([IntKind.wrap .u8 x0.txData]).map fun x => UInt8.ofNat x.toNat)).length : Int) - (4096 : Int)) else (0 : Int))))
 (.ite (decide ((if IntKind.wrap .i64 (((x0.out ++ (([IntKind.wrap .u8 x0.txData]).map fun x => UInt8.ofNat x.toNat)).length : Int) - (4096 : Int)) > (0 : Int) then IntKind.wrap .i64 (((x0.out ++ (([IntKind.wrap .u8 x0.txData]).map fun x => UInt8.ofNat x.toNat)).length : Int) - (4096 : Int)) else (0 : Int)) ≤ (((x0.out ++ (([IntKind.wrap .u8 x0.txData]).map fun x => UInt8.ofNat x.toNat)).length : Nat) : Int)))
 (.leaf (Line.mk x0.rxEnable x0.rxReady x0.overrun x0.rxData x0.txEnable true x0.txData (IntKind.wrap .i64 (x0.txLeft - (1 : Int))) (((x0.out ++ (([IntKind.wrap .u8 x0.txData]).map fun x => UInt8.ofNat x.toNat)).drop (((if IntKind.wrap .i64 (((x0.out ++ (([IntKind.wrap .u8 x0.txData]).map fun x => UInt8.ofNat x.toNat)).length : Int) - (4096 : Int)) > (0 : Int) then IntKind.wrap .i64 (((x0.out ++ (([IntKind.wrap .u8 x0.txData]).map fun x => UInt8.ofNat x.toNat)).length : Int) - (4096 : Int)) else (0 : Int))).toNat)).take ((x0.out ++ (([IntKind.wrap .u8 x0.txData]).map fun x => UInt8.ofNat x.toNat)).length - ((if IntKind.wrap .i64 (((x0.out ++ (([IntKind.wrap .u8 x0.txData]).map fun x => UInt8.ofNat x.toNat)).length : Int) - (4096 : Int)) > (0 : Int) then IntKind.wrap .i64 (((x0.out ++ (([IntKind.wrap .u8 x0.txData]).map fun x => UInt8.ofNat x.toNat)).length : Int) - (4096 : Int)) else (0 : Int))).toNat))))
 .fail)
 .fail)
 .fail)
 (.leaf (Line.mk x0.rxEnable x0.rxReady x0.overrun x0.rxData x0.txEnable x0.txReady x0.txData (IntKind.wrap .i64 (x0.txLeft - (1 : Int))) x0.out)))
noncomputable def zto (x0 : Line) : Option Line := (zp3 x0).run
noncomputable def z1fn : Arg U (Line × Unit) := aA cLine (aNil)
noncomputable def z1gj (r : Line) : zR := ([vA cLine r], [])
noncomputable def z1h3 : zS := zf z1fn bNil (fun x _ => zto x.1) z1gj
noncomputable def z1g5 : Env U := zE fns144 noL 34 0
theorem z1ul (x : Line × Unit) (g : Unit) : zk z1g5 Tryz.f145 (z1fn.enc x) (bNil.enc g) = (zp3 x.1).map z1gj := by kernel_rfl
theorem z1vu : FnOk Tryz.prog cd 145 z1h3 := zm (E := z1g5) zg z1n2 Tryz.func145 (by kernel_rfl) (z9 (by kernel_rfl)) (zu zdj (zd)) z7 (T := fun x _ => zp3 x.1) (fun _ _ => rfl) z1ul
noncomputable def fns145 := addF 145 true z1h3 fns144
theorem z185 : zF fns145 := za z1vu z1n2
noncomputable def z7t (x0 : Machine) (g0 : Unit) : Tree Machine :=
 .opt Clock (ziq x0.clock) fun r306 =>
 .opt Machine (zeq x0 r306) fun r307 =>
 .leaf (r307)
noncomputable def z7f (x0 : Machine) (g0 : Unit) : Option Machine := (z7t x0 g0).run
noncomputable def zcl : Arg U (Machine × Unit) := aA zj (aP 0 0 (aNil))
noncomputable def zcq : Bls U (Unit × Unit) := bT (some 159) (cK2 (.fn 116 [] []) (z1)) (bNil)
noncomputable def zhz (_x : Machine × Unit) (_g : Unit × Unit) (r : Machine) : zR := ([vA (z0 zj (z1)) (r, ())], [.cells ((cK2 (.fn 116 [] []) (z1) : Cdc U Unit).enc ()) (some 159)])
noncomputable def z1h0 : zS := mkSpecG zcl zcq (fun x g => z7f x.1 g.1) zhz
noncomputable def zhn : Env U := zE fns145 noL 10 1
theorem z1eo (x0 : Machine) (g0 : Unit) : execX false zhn Tryz.f117 (zcl.enc (x0, ())) (zcq.enc (g0, ())) = (z7t x0 g0).map (zhz (x0, ()) (g0, ())) := by kernel_rfl
theorem z1a8 : ∀ (x : Machine × Unit) (g : Unit × Unit), execX false zhn Tryz.f117 (zcl.enc x) (zcq.enc g) = (z7t x.1 g.1).map (zhz x g)
  | (x0, ()), (g0, ()) => z1eo x0 g0
theorem z1ee : FnOk Tryz.prog cd 117 z1h0 := z5y (E := zhn) (A := zcl) (B := zcq) false zg z185 Tryz.func117 (by kernel_rfl) (z9 (by kernel_rfl)) (zu z19 (z108 (zd))) (z1xs (zfk z6) z7) (T := fun (x : Machine × Unit) (g : Unit × Unit) => z7t x.1 g.1) (fun _ _ => rfl) z1a8
noncomputable def zb5 (x0 : Machine) (g0 : Int) : Tree Machine :=
 .ite (decide (0 ≤ g0))
 (.opt Line (x0.lines[(g0).toNat]?) fun y308 =>
 .opt Line (zto y308) fun r309 =>
 .opt Machine (zio x0 g0 r309) fun r310 =>
 .leaf (r310))
 .fail
noncomputable def zc8 (x0 : Machine) (g0 : Int) : Option Machine := (zb5 x0 g0).run
noncomputable def zdz : Arg U (Machine × Unit) := aA zj (aP 0 0 (aNil))
noncomputable def ze6 : Bls U (Int × Unit) := bT (some 3) (cInt .i64) (bNil)
noncomputable def zkw (_x : Machine × Unit) (g : Int × Unit) (r : Machine) : zR := ([vA (z0 zj (z1)) (r, ())], [.cells (((cInt .i64) : Cdc U Int).enc g.1) (some 3)])
noncomputable def z1ji : zS := mkSpecG zdz ze6 (fun x g => zc8 x.1 g.1) zkw
noncomputable def zkt : Env U := zE fns145 noL 13 1
theorem z1ir (x0 : Machine) (g0 : Int) : execX false zkt Tryz.f143 (zdz.enc (x0, ())) (ze6.enc (g0, ())) = (zb5 x0 g0).map (zkw (x0, ()) (g0, ())) := by kernel_rfl
theorem z1ez : ∀ (x : Machine × Unit) (g : Int × Unit), execX false zkt Tryz.f143 (zdz.enc x) (ze6.enc g) = (zb5 x.1 g.1).map (zkw x g)
  | (x0, ()), (g0, ()) => z1ir x0 g0
theorem z1ie : FnOk Tryz.prog cd 143 z1ji := z5y (E := zkt) (A := zdz) (B := ze6) false zg z185 Tryz.func143 (by kernel_rfl) (z9 (by kernel_rfl)) (zu z19 (z108 (zd))) (z1xs (z3 .i64) z7) (T := fun (x : Machine × Unit) (g : Int × Unit) => zb5 x.1 g.1) (fun _ _ => rfl) z1ez
end Go.Proofs.YtfdndagnolbnhaaGreat
