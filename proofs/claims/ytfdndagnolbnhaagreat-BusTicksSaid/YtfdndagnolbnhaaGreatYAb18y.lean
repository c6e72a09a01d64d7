/- Functions, behind those of the bus. -/
import Derived.Test.YtfdndagnolbnhaaGreatYAbBus18y
set_option linter.unusedSimpArgs false
namespace Go.Proofs.YtfdndagnolbnhaaGreat
open Go Go.Ab
noncomputable def fns8 := addF 8 true z1m5 fns145
theorem z1x3 : zF fns8 := za z1y9 z185
noncomputable def zfj (x0 : Clock) : Tree Clock :=
 .ite (decide ((IntKind.wrap .i64 (x0.left - (1 : Int))) = (0 : Int)))
 (.leaf (Clock.mk x0.enable true x0.period x0.period))
 (.leaf (Clock.mk x0.enable x0.ready x0.period (IntKind.wrap .i64 (x0.left - (1 : Int)))))
noncomputable def zjn (x0 : Clock) : Option Clock := (zfj x0).run
noncomputable def z1ao : Arg U (Clock × Unit) := aA cClock (aNil)
noncomputable def z1c2 (r : Clock) : zR := ([vA cClock r], [])
noncomputable def z1ct : zS := zf z1ao bNil (fun x _ => zjn x.1) z1c2
noncomputable def z1be : Env U := zE fns8 noL 15 0
theorem z1q1 (x : Clock × Unit) (g : Unit) : zk z1be Tryz.f29 (z1ao.enc x) (bNil.enc g) = (zfj x.1).map z1c2 := by kernel_rfl
theorem z1tn : FnOk Tryz.prog cd 29 z1ct := zm (E := z1be) zg z1x3 Tryz.func29 (by kernel_rfl) (z9 (by kernel_rfl)) (zu zbo (zd)) z7 (T := fun x _ => zfj x.1) (fun _ _ => rfl) z1q1
noncomputable def fns29 := addF 29 true z1ct fns8
theorem z1rs : zF fns29 := za z1tn z1x3
noncomputable def zlw (x0 : Line) : Tree Line :=
 .ite (decide (x0.txLeft ≤ (0 : Int)))
 (.leaf (x0))
 (.ite (decide ((0 : Int) < (IntKind.wrap .i64 (x0.txLeft - (1 : Int)))))
 (.leaf (Line.mk x0.rxEnable x0.rxReady x0.overrun x0.rxData x0.txEnable x0.txReady x0.txData (IntKind.wrap .i64 (x0.txLeft - (1 : Int))) x0.out))
 (.ite (decide (x0.out.length + (([IntKind.wrap .u8 x0.txData]).map fun x => UInt8.ofNat x.toNat).length ≤ 9223372036854775807))
 (.ite (decide ((4096 : Int) < ((x0.out ++ (([IntKind.wrap .u8 x0.txData]).map fun x => UInt8.ofNat x.toNat)).length : Int)))
 (.ite (decide (0 ≤ IntKind.wrap .i64 (((x0.out ++ (([IntKind.wrap .u8 x0.txData]).map fun x => UInt8.ofNat x.toNat)).length : Int) - (4096 : Int))))
 (.ite (decide (IntKind.wrap .i64 (((x0.out ++ (([IntKind.wrap .u8 x0.txData]).map fun x => UInt8.ofNat x.toNat)).length : Int) - (4096 : Int)) ≤ (((x0.out ++ (([IntKind.wrap .u8 x0.txData]).map fun x => UInt8.ofNat x.toNat)).length : Nat) : Int)))
 (.leaf (Line.mk x0.rxEnable x0.rxReady x0.overrun x0.rxData x0.txEnable true x0.txData (IntKind.wrap .i64 (x0.txLeft - (1 : Int))) (((x0.out ++ (([IntKind.wrap .u8 x0.txData]).map fun x => UInt8.ofNat x.toNat)).drop ((IntKind.wrap .i64 (((x0.out ++ (([IntKind.wrap .u8 x0.txData]).map fun x => UInt8.ofNat x.toNat)).length : Int) - (4096 : Int))).toNat)).take ((x0.out ++ (([IntKind.wrap .u8 x0.txData]).map fun x => UInt8.ofNat x.toNat)).length - (IntKind.wrap .i64 (((x0.out ++ (([IntKind.wrap .u8 x0.txData]).map fun x => UInt8.ofNat x.toNat)).length : Int) - (4096 : Int))).toNat))))
 .fail)
 .fail)
 (.leaf (Line.mk x0.rxEnable x0.rxReady x0.overrun x0.rxData x0.txEnable true x0.txData (IntKind.wrap .i64 (x0.txLeft - (1 : Int))) (x0.out ++ (([IntKind.wrap .u8 x0.txData]).map fun x => UInt8.ofNat x.toNat)))))
 .fail))
noncomputable def zph (x0 : Line) : Option Line := (zlw x0).run
noncomputable def z1ap : Arg U (Line × Unit) := aA cLine (aNil)
noncomputable def z1c3 (r : Line) : zR := ([vA cLine r], [])
noncomputable def z1cu : zS := zf z1ap bNil (fun x _ => zph x.1) z1c3
noncomputable def z1bf : Env U := zE fns29 noL 38 0
theorem z1q2 (x : Line × Unit) (g : Unit) : zk z1bf Tryz.f30 (z1ap.enc x) (bNil.enc g) = (zlw x.1).map z1c3 := by kernel_rfl
theorem z1to : FnOk Tryz.prog cd 30 z1cu := zm (E := z1bf) zg z1rs Tryz.func30 (by kernel_rfl) (z9 (by kernel_rfl)) (zu zdj (zd)) z7 (T := fun x _ => zlw x.1) (fun _ _ => rfl) z1q2
noncomputable def fns30 := addF 30 true z1cu fns29
theorem z1rt : zF fns30 := za z1to z1rs
noncomputable def znt (x0 : Disk) : Tree Disk :=
 .leaf (Disk.mk x0.drive x0.enable true true x0.command x0.words x0.addr x0.start x0.left)
noncomputable def zz (x0 : Disk) : Option Disk := (znt x0).run
noncomputable def z11p : Arg U (Disk × Unit) := aA cDisk (aNil)
noncomputable def z12p (r : Disk) : zR := ([vA cDisk r], [])
noncomputable def z137 : zS := zf z11p bNil (fun x _ => zz x.1) z12p
noncomputable def z127 : Env U := zE fns30 noL 6 0
theorem z1j6 (x : Disk × Unit) (g : Unit) : zk z127 Tryz.f73 (z11p.enc x) (bNil.enc g) = (znt x.1).map z12p := by kernel_rfl
theorem z1kf : FnOk Tryz.prog cd 73 z137 := zm (E := z127) zg z1rt Tryz.func73 (by kernel_rfl) (z9 (by kernel_rfl)) (zu z24 (zd)) z7 (T := fun x _ => znt x.1) (fun _ _ => rfl) z1j6
noncomputable def fns73 := addF 73 true z137 fns30
theorem z1sh : zF fns73 := za z1kf z1rt
structure z55 where
  t1 : Int
  t5 : Int
  b0 : Drive
noncomputable def z79 (s : z55) : Tree (z55 ⊕ (Bool ⊕ Unit)) :=
 .ite (decide (s.t5 < (s.b0.bad.length : Int)))
 (.ite (decide (0 ≤ s.t5))
 (.opt Int (s.b0.bad[(s.t5).toNat]?) fun y311 =>
 .ite (decide (y311 = s.t1))
 (.leaf (.inr (.inl true)))
 (.leaf (.inl (z55.mk s.t1 (IntKind.wrap .i64 (s.t5 + (1 : Int))) s.b0))))
 .fail)
 (.leaf (.inr (.inr ())))
noncomputable def zay (q : Option Nat) (s : z55) : Option (Bool ⊕ Unit) := limQ q (fun s => (z79 s).run) s
noncomputable def zdg (q : Option Nat) (x0 : Drive) (x1 : Int) : Tree Bool :=
 .opt (Bool ⊕ Unit) (zay q (z55.mk x1 (0 : Int) x0)) fun l312 =>
 .ite (l312.isLeft)
 (.opt Bool (l312.getLeft?) fun a313 =>
 .leaf (a313))
 (.opt Unit (l312.getRight?) fun b314 =>
 .leaf (false))
noncomputable def zcf (q : Option Nat) (x0 : Drive) (x1 : Int) : Option Bool := (zdg q x0 x1).run
noncomputable def z158 : Arg U (Drive × Int × Unit) := aA cDrive (aO (cInt .i64) (aNil))
noncomputable def z16s (r : Bool) : zR := ([vO z8 r], [])
noncomputable def z17h : zS := zf z158 bNil (fun x _ => zcf none x.1 x.2.1) z16s
noncomputable def zxs (x : (Int × Unit) × (Unit) × (Int × Unit) × Unit) (g : (Drive × Unit) × Unit) : z55 := z55.mk x.1.1 x.2.2.1.1 g.1.1
noncomputable def zue : Tms U ((Int × Unit) × (Unit) × (Int × Unit) × Unit) := tO 1 (z0 (cInt .i64) (z1)) (tO 2 (cK (.ptr 0 0) (z1)) (tO 5 (z0 (cInt .i64) (z1)) (tNil)))
noncomputable def zuw : Bls U ((Drive × Unit) × Unit) := bC (z0 cDrive (z1)) (bNil)
noncomputable def zj4 (s : z55) : St U := { tm := [(1, .v (vO (z0 (cInt .i64) (z1)) (s.t1, ()))), (2, .v (vO (cK (.ptr 0 0) (z1)) (()))), (5, .v (vO (z0 (cInt .i64) (z1)) (s.t5, ())))], hp := [.cells ((z0 cDrive (z1) : Cdc U (Drive × Unit)).enc (s.b0, ())) none] }
noncomputable def zvd : (Bool ⊕ Unit) → Ex × St U
  | .inl r => (.ret, { tm := [(4, .v (vO (z0 z8 (z1)) (r, ())))], hp := [] })
  | .inr r => (.exit 0, { tm := [], hp := [] })
noncomputable def zvu (y : (Bool ⊕ Unit)) : Tree (Ex × St U) := .ite y.isLeft (.opt Bool y.getLeft? fun r => .leaf (.ret, { tm := [(4, .v (vO (z0 z8 (z1)) (r, ())))], hp := [] })) (.opt Unit y.getRight? fun r => .leaf (.exit 0, { tm := [], hp := [] }))
noncomputable def zyz : Hd := { keep := [1, 2, 5], xkeep := [4], own := false }
noncomputable def zht : Env U := zE fns73 (addL 0 zyz (z1f zue zuw zxs (zay none) zvu) noL) 20 0
noncomputable def zx3 : Code := (loopAt (Tryz.f153.body.getD .skip) 0 0).getD .skip
theorem z195 (s : z55) : round zht zyz zx3 0 (zj4 s) = (z79 s).map (sumE zj4 zvd) := by kernel_rfl
theorem z1i6 : LpOk zht zx3 0 := zy (A := zue) (B := zuw) (f := zxs) (L := zay none) (zb (z2 (z3 .i64) z6) (zb (z10 z6) (zb (z2 (z3 .i64) z6) z12))) (z13 (z2 z2g z6) z7) (enc := zj4) (out := zvu) (outS := zvd) (step := z79) (fun _ => rfl) (fun _ _ => by kernel_rfl) (by kernel_rfl) (fun b => by cases b <;> rfl) z195
theorem z1lc (x : Drive × Int × Unit) (g : Unit) : zk zht Tryz.f153 (z158.enc x) (bNil.enc g) = (zdg none x.1 x.2.1).map z16s := by kernel_rfl
theorem z1pf : FnOk Tryz.prog cd 153 z17h := zm (E := zht) zg z1sh Tryz.func153 (by kernel_rfl) (z14 (z11 z1i6 z1j)) (zu z2g (ze (z3 .i64) (zd))) z7 (T := fun x _ => zdg none x.1 x.2.1) (fun _ _ => rfl) z1lc
noncomputable def fns153 := addF 153 true z17h fns73
theorem z1n3 : zF fns153 := za z1pf z1sh
noncomputable def zlx (q : Option Nat) (x0 : Drive) (x1 : Int) : Tree ((List UInt8) × Int) :=
 .ite (decide (x1 < (0 : Int)))
 (.leaf ((([] : List UInt8), (2 : Int))))
 (.ite (decide ((x0.sectors.length : Int) ≤ x1))
 (.leaf ((([] : List UInt8), (2 : Int))))
 (.opt Bool (zcf q x0 x1) fun r315 =>
 .ite (r315)
 (.leaf ((([] : List UInt8), (21 : Int))))
 (.ite (decide (0 ≤ x1))
 (.opt (List UInt8) (x0.sectors[(x1).toNat]?) fun y316 =>
 .leaf ((y316, (0 : Int))))
 .fail)))
noncomputable def zjo (q : Option Nat) (x0 : Drive) (x1 : Int) : Option ((List UInt8) × Int) := (zlx q x0 x1).run
noncomputable def z1aq : Arg U (Drive × Int × Unit) := aA cDrive (aO (cInt .i64) (aNil))
noncomputable def z1c4 (r : ((List UInt8) × Int)) : zR := ([vO cStr r.1, vO (cInt .i64) r.2], [])
noncomputable def z1cv : zS := zf z1aq bNil (fun x _ => zjo none x.1 x.2.1) z1c4
noncomputable def z1bg : Env U := zE fns153 noL 23 0
theorem z1q3 (x : Drive × Int × Unit) (g : Unit) : zk z1bg Tryz.f74 (z1aq.enc x) (bNil.enc g) = (zlx none x.1 x.2.1).map z1c4 := by kernel_rfl
theorem z1tp : FnOk Tryz.prog cd 74 z1cv := zm (E := z1bg) zg z1n3 Tryz.func74 (by kernel_rfl) (z9 (by kernel_rfl)) (zu z2g (ze (z3 .i64) (zd))) z7 (T := fun x _ => zlx none x.1 x.2.1) (fun _ _ => rfl) z1q3
noncomputable def fns74 := addF 74 true z1cv fns153
theorem z1si : zF fns74 := za z1tp z1n3
structure z3d where
  t0 : (List Int)
  t1 : Int
  t2 : Int
  t7 : Int
noncomputable def z5f (s : z3d) : Tree (z3d ⊕ (Bool ⊕ Unit)) :=
 .ite (decide (s.t7 < (s.t0.length : Int)))
 (.ite (decide (0 ≤ s.t7))
 (.opt Int (s.t0[(s.t7).toNat]?) fun y317 =>
 .ite (decide (s.t1 ≤ y317))
 (.ite (decide (0 ≤ s.t7))
 (.opt Int (s.t0[(s.t7).toNat]?) fun y318 =>
 .ite (decide (y318 < (IntKind.wrap .i64 (s.t1 + (IntKind.wrap .i64 ((2 : Int) * s.t2))))))
 (.leaf (.inr (.inl true)))
 (.leaf (.inl (z3d.mk s.t0 s.t1 s.t2 (IntKind.wrap .i64 (s.t7 + (1 : Int)))))))
 .fail)
 (.leaf (.inl (z3d.mk s.t0 s.t1 s.t2 (IntKind.wrap .i64 (s.t7 + (1 : Int)))))))
 .fail)
 (.leaf (.inr (.inr ())))
noncomputable def za5 (q : Option Nat) (s : z3d) : Option (Bool ⊕ Unit) := limQ q (fun s => (z5f s).run) s
noncomputable def zc6 (q : Option Nat) (x0 : (List Int)) (x1 : Int) (x2 : Int) : Tree Bool :=
 .opt (Bool ⊕ Unit) (za5 q (z3d.mk x0 x1 x2 (0 : Int))) fun l319 =>
 .ite (l319.isLeft)
 (.opt Bool (l319.getLeft?) fun a320 =>
 .leaf (a320))
 (.opt Unit (l319.getRight?) fun b321 =>
 .leaf (false))
noncomputable def z7q (q : Option Nat) (x0 : (List Int)) (x1 : Int) (x2 : Int) : Option Bool := (zc6 q x0 x1 x2).run
noncomputable def z11r : Arg U ((List Int) × Int × Int × Unit) := aO (cSl 3) (aO (cInt .i64) (aO (cInt .i64) (aNil)))
noncomputable def z12r (r : Bool) : zR := ([vO z8 r], [])
noncomputable def z139 : zS := zf z11r bNil (fun x _ => z7q none x.1 x.2.1 x.2.2.1) z12r
noncomputable def zsu (x : ((List Int) × Unit) × (Int × Unit) × (Int × Unit) × (Int × Unit) × Unit) (_g : Unit) : z3d := z3d.mk x.1.1 x.2.1.1 x.2.2.1.1 x.2.2.2.1.1
noncomputable def zri : Tms U (((List Int) × Unit) × (Int × Unit) × (Int × Unit) × (Int × Unit) × Unit) := tO 0 (z0 (cSl 3) (z1)) (tO 1 (z0 (cInt .i64) (z1)) (tO 2 (z0 (cInt .i64) (z1)) (tO 7 (z0 (cInt .i64) (z1)) (tNil))))
noncomputable def zrq : Bls U (Unit) := bNil
noncomputable def zgn (s : z3d) : St U := { tm := [(0, .v (vO (z0 (cSl 3) (z1)) (s.t0, ()))), (1, .v (vO (z0 (cInt .i64) (z1)) (s.t1, ()))), (2, .v (vO (z0 (cInt .i64) (z1)) (s.t2, ()))), (7, .v (vO (z0 (cInt .i64) (z1)) (s.t7, ())))], hp := [] }
noncomputable def zrw : (Bool ⊕ Unit) → Ex × St U
  | .inl r => (.ret, { tm := [(6, .v (vO (z0 z8 (z1)) (r, ())))], hp := [] })
  | .inr r => (.exit 0, { tm := [], hp := [] })
noncomputable def zs4 (y : (Bool ⊕ Unit)) : Tree (Ex × St U) := .ite y.isLeft (.opt Bool y.getLeft? fun r => .leaf (.ret, { tm := [(6, .v (vO (z0 z8 (z1)) (r, ())))], hp := [] })) (.opt Unit y.getRight? fun r => .leaf (.exit 0, { tm := [], hp := [] }))
noncomputable def ztl : Hd := { keep := [0, 1, 2, 7], xkeep := [6], own := false }
noncomputable def zfz : Env U := zE fns74 (addL 0 ztl (z1f zri zrq zsu (za5 none) zs4) noL) 31 0
noncomputable def zsh : Code := (loopAt (Tryz.f75.body.getD .skip) 0 0).getD .skip
theorem z14n (s : z3d) : round zfz ztl zsh 0 (zgn s) = (z5f s).map (sumE zgn zrw) := by kernel_rfl
theorem z1e8 : LpOk zfz zsh 0 := zy (A := zri) (B := zrq) (f := zsu) (L := za5 none) (zb (z2 (zi 3) z6) (zb (z2 (z3 .i64) z6) (zb (z2 (z3 .i64) z6) (zb (z2 (z3 .i64) z6) z12)))) z7 (enc := zgn) (out := zs4) (outS := zrw) (step := z5f) (fun _ => rfl) (fun _ _ => by kernel_rfl) (by kernel_rfl) (fun b => by cases b <;> rfl) z14n
theorem z1j8 (x : (List Int) × Int × Int × Unit) (g : Unit) : zk zfz Tryz.f75 (z11r.enc x) (bNil.enc g) = (zc6 none x.1 x.2.1 x.2.2.1).map z12r := by kernel_rfl
theorem z1kh : FnOk Tryz.prog cd 75 z139 := zm (E := zfz) zg z1si Tryz.func75 (by kernel_rfl) (z14 (z11 z1e8 z1j)) (ze (zi 3) (ze (z3 .i64) (ze (z3 .i64) (zd)))) z7 (T := fun x _ => zc6 none x.1 x.2.1 x.2.2.1) (fun _ _ => rfl) z1j8
noncomputable def fns75 := addF 75 true z139 fns74
theorem z1sj : zF fns75 := za z1kh z1si
noncomputable def zt8 (x0 : (List UInt8)) (x1 : Int) : Tree Int :=
 .ite (decide (0 ≤ IntKind.wrap .i64 ((2 : Int) * x1)))
 (.opt UInt8 (x0[(IntKind.wrap .i64 ((2 : Int) * x1)).toNat]?) fun y322 =>
 .ite (decide (0 ≤ IntKind.wrap .i64 ((IntKind.wrap .i64 ((2 : Int) * x1)) + (1 : Int))))
 (.opt UInt8 (x0[(IntKind.wrap .i64 ((IntKind.wrap .i64 ((2 : Int) * x1)) + (1 : Int))).toNat]?) fun y323 =>
 .leaf (IntKind.wrap .i64 ((IntKind.wrap .i64 (y322.toNat : Int)) + (IntKind.wrap .i64 ((256 : Int) * (IntKind.wrap .i64 (y323.toNat : Int)))))))
 .fail)
 .fail
noncomputable def zr7 (x0 : (List UInt8)) (x1 : Int) : Option Int := (zt8 x0 x1).run
noncomputable def z1lr : Arg U ((List UInt8) × Int × Unit) := aO cStr (aO (cInt .i64) (aNil))
noncomputable def z1m2 (r : Int) : zR := ([vO (cInt .i64) r], [])
noncomputable def z1m8 : zS := zf z1lr bNil (fun x _ => zr7 x.1 x.2.1) z1m2
noncomputable def z1lw : Env U := zE fns75 noL 18 0
theorem z1wf (x : (List UInt8) × Int × Unit) (g : Unit) : zk z1lw Tryz.f79 (z1lr.enc x) (bNil.enc g) = (zt8 x.1 x.2.1).map z1m2 := by kernel_rfl
theorem z1yc : FnOk Tryz.prog cd 79 z1m8 := zm (E := z1lw) zg z1sj Tryz.func79 (by kernel_rfl) (z9 (by kernel_rfl)) (ze z5a (ze (z3 .i64) (zd))) z7 (T := fun x _ => zt8 x.1 x.2.1) (fun _ _ => rfl) z1wf
noncomputable def fns79 := addF 79 true z1m8 fns75
theorem z1sn : zF fns79 := za z1yc z1sj
structure z3h where
  t0 : (List Int)
  t1 : Int
  t2 : Int
  t3 : (List UInt8)
  t9 : Int
noncomputable def z5o (s : z3h) : Tree (z3h ⊕ (Bool ⊕ Unit)) :=
 .ite (decide (s.t9 < s.t2))
 (.ite (decide ((2 : Int) = 0))
 .fail
 (.ite (decide (0 ≤ IntKind.wrap .i64 ((IntKind.wrap .i64 ((s.t1).tdiv (2 : Int))) + s.t9)))
 (.opt Int (s.t0[(IntKind.wrap .i64 ((IntKind.wrap .i64 ((s.t1).tdiv (2 : Int))) + s.t9)).toNat]?) fun y324 =>
 .opt Int (zr7 s.t3 s.t9) fun r325 =>
 .ite (!decide (y324 = r325))
 (.leaf (.inr (.inl true)))
 (.leaf (.inl (z3h.mk s.t0 s.t1 s.t2 s.t3 (IntKind.wrap .i64 (s.t9 + (1 : Int)))))))
 .fail))
 (.leaf (.inr (.inr ())))
noncomputable def z8n (q : Option Nat) (s : z3h) : Option (Bool ⊕ Unit) := limQ q (fun s => (z5o s).run) s
noncomputable def zb8 (q : Option Nat) (x0 : (List Int)) (x1 : Int) (x2 : Int) (x3 : (List UInt8)) : Tree Bool :=
 .opt (Bool ⊕ Unit) (z8n q (z3h.mk x0 x1 x2 x3 (0 : Int))) fun l326 =>
 .ite (l326.isLeft)
 (.opt Bool (l326.getLeft?) fun a327 =>
 .leaf (a327))
 (.opt Unit (l326.getRight?) fun b328 =>
 .leaf (false))
noncomputable def z36 (q : Option Nat) (x0 : (List Int)) (x1 : Int) (x2 : Int) (x3 : (List UInt8)) : Option Bool := (zb8 q x0 x1 x2 x3).run
noncomputable def zwo : Arg U ((List Int) × Int × Int × (List UInt8) × Unit) := aO (cSl 3) (aO (cInt .i64) (aO (cInt .i64) (aO cStr (aNil))))
noncomputable def zy5 (r : Bool) : zR := ([vO z8 r], [])
noncomputable def zyf : zS := zf zwo bNil (fun x _ => z36 none x.1 x.2.1 x.2.2.1 x.2.2.2.1) zy5
noncomputable def zq4 (x : ((List Int) × Unit) × (Int × Unit) × (Int × Unit) × ((List UInt8) × Unit) × (Int × Unit) × Unit) (_g : Unit) : z3h := z3h.mk x.1.1 x.2.1.1 x.2.2.1.1 x.2.2.2.1.1 x.2.2.2.2.1.1
noncomputable def zok : Tms U (((List Int) × Unit) × (Int × Unit) × (Int × Unit) × ((List UInt8) × Unit) × (Int × Unit) × Unit) := tO 0 (z0 (cSl 3) (z1)) (tO 1 (z0 (cInt .i64) (z1)) (tO 2 (z0 (cInt .i64) (z1)) (tO 3 (z0 cStr (z1)) (tO 9 (z0 (cInt .i64) (z1)) (tNil)))))
noncomputable def zon : Bls U (Unit) := bNil
noncomputable def zf9 (s : z3h) : St U := { tm := [(0, .v (vO (z0 (cSl 3) (z1)) (s.t0, ()))), (1, .v (vO (z0 (cInt .i64) (z1)) (s.t1, ()))), (2, .v (vO (z0 (cInt .i64) (z1)) (s.t2, ()))), (3, .v (vO (z0 cStr (z1)) (s.t3, ()))), (9, .v (vO (z0 (cInt .i64) (z1)) (s.t9, ())))], hp := [] }
noncomputable def zoq : (Bool ⊕ Unit) → Ex × St U
  | .inl r => (.ret, { tm := [(8, .v (vO (z0 z8 (z1)) (r, ())))], hp := [] })
  | .inr r => (.exit 0, { tm := [], hp := [] })
noncomputable def zos (y : (Bool ⊕ Unit)) : Tree (Ex × St U) := .ite y.isLeft (.opt Bool y.getLeft? fun r => .leaf (.ret, { tm := [(8, .v (vO (z0 z8 (z1)) (r, ())))], hp := [] })) (.opt Unit y.getRight? fun r => .leaf (.exit 0, { tm := [], hp := [] }))
noncomputable def zqw : Hd := { keep := [0, 1, 2, 3, 9], xkeep := [8], own := false }
noncomputable def ze4 : Env U := zE fns79 (addL 0 zqw (z1f zok zon zq4 (z8n none) zos) noL) 26 0
noncomputable def zpz : Code := (loopAt (Tryz.f76.body.getD .skip) 0 0).getD .skip
theorem z113 (s : z3h) : round ze4 zqw zpz 0 (zf9 s) = (z5o s).map (sumE zf9 zoq) := by kernel_rfl
theorem z19w : LpOk ze4 zpz 0 := zy (A := zok) (B := zon) (f := zq4) (L := z8n none) (zb (z2 (zi 3) z6) (zb (z2 (z3 .i64) z6) (zb (z2 (z3 .i64) z6) (zb (z2 z5a z6) (zb (z2 (z3 .i64) z6) z12))))) z7 (enc := zf9) (out := zos) (outS := zoq) (step := z5o) (fun _ => rfl) (fun _ _ => by kernel_rfl) (by kernel_rfl) (fun b => by cases b <;> rfl) z113
theorem z1f7 (x : (List Int) × Int × Int × (List UInt8) × Unit) (g : Unit) : zk ze4 Tryz.f76 (zwo.enc x) (bNil.enc g) = (zb8 none x.1 x.2.1 x.2.2.1 x.2.2.2.1).map zy5 := by kernel_rfl
theorem z1ik : FnOk Tryz.prog cd 76 zyf := zm (E := ze4) zg z1sn Tryz.func76 (by kernel_rfl) (z14 (z11 z19w z1j)) (ze (zi 3) (ze (z3 .i64) (ze (z3 .i64) (ze z5a (zd))))) z7 (T := fun x _ => zb8 none x.1 x.2.1 x.2.2.1 x.2.2.2.1) (fun _ _ => rfl) z1f7
noncomputable def fns76 := addF 76 true zyf fns79
theorem z1sk : zF fns76 := za z1ik z1sn
noncomputable def zif (q : Option Nat) (x0 : Drive) (x1 : Int) (x2 : (List UInt8)) : Tree (Drive × Int) :=
 .ite (decide (x1 < (0 : Int)))
 (.leaf ((Drive.mk ([]) ([]), (2 : Int))))
 (.ite (decide ((x0.sectors.length : Int) ≤ x1))
 (.leaf ((Drive.mk ([]) ([]), (2 : Int))))
 (.ite (decide ((128 : Int) < (x2.length : Int)))
 (.leaf ((Drive.mk ([]) ([]), (7 : Int))))
 (.opt Bool (zcf q x0 x1) fun r329 =>
 .ite (r329)
 (.leaf ((Drive.mk ([]) ([]), (21 : Int))))
 (.ite (decide ((([] : List (List UInt8)).length + x0.sectors.length) * 16 ≤ 140737488355328))
 (.opt (List UInt8) (zak q (IntKind.wrap .i64 ((128 : Int) - (x2.length : Int)))) fun r330 =>
 .ite (decide (x2.length + r330.length ≤ 9223372036854775807))
 (.ite (decide (0 ≤ x1))
 (.ite (decide (x1 < ((([] : List (List UInt8)) ++ x0.sectors).length : Int)))
 (.opt (List UInt8) ((([] : List (List UInt8)) ++ x0.sectors)[(x1).toNat]?) fun y331 =>
 .leaf ((Drive.mk ((([] : List (List UInt8)) ++ x0.sectors).set ((x1).toNat) (x2 ++ r330)) x0.bad, (0 : Int))))
 .fail)
 .fail)
 .fail)
 .fail))))
noncomputable def z1z (q : Option Nat) (x0 : Drive) (x1 : Int) (x2 : (List UInt8)) : Option (Drive × Int) := (zif q x0 x1 x2).run
noncomputable def z15a : Arg U (Drive × Int × (List UInt8) × Unit) := aA cDrive (aO (cInt .i64) (aO cStr (aNil)))
noncomputable def z16u (r : (Drive × Int)) : zR := ([vA cDrive r.1, vO (cInt .i64) r.2], [])
noncomputable def z17j : zS := zf z15a bNil (fun x _ => z1z none x.1 x.2.1 x.2.2.1) z16u
noncomputable def z15z : Env U := zE fns76 noL 43 0
theorem z1le (x : Drive × Int × (List UInt8) × Unit) (g : Unit) : zk z15z Tryz.f77 (z15a.enc x) (bNil.enc g) = (zif none x.1 x.2.1 x.2.2.1).map z16u := by kernel_rfl
theorem z1ph : FnOk Tryz.prog cd 77 z17j := zm (E := z15z) zg z1sk Tryz.func77 (by kernel_rfl) (z9 (by kernel_rfl)) (zu z2g (ze (z3 .i64) (ze z5a (zd)))) z7 (T := fun x _ => zif none x.1 x.2.1 x.2.2.1) (fun _ _ => rfl) z1le
noncomputable def fns77 := addF 77 true z17j fns76
theorem z1sl : zF fns77 := za z1ph z1sk
structure z41 where
  t0 : (List Int)
  t1 : Int
  t2 : Int
  t8 : Int
  b0 : (List Int)
noncomputable def z7u (s : z41) : Tree (z41 ⊕ (List Int)) :=
 .ite (decide (s.t8 < s.t2))
 (.ite (decide ((2 : Int) = 0))
 .fail
 (.ite (decide (0 ≤ IntKind.wrap .i64 ((IntKind.wrap .i64 ((s.t1).tdiv (2 : Int))) + s.t8)))
 (.opt Int (s.t0[(IntKind.wrap .i64 ((IntKind.wrap .i64 ((s.t1).tdiv (2 : Int))) + s.t8)).toNat]?) fun y332 =>
 .ite (decide (0 ≤ (8 : Int)))
 (.ite (decide ((s.b0.length + ([IntKind.wrap .u8 (IntKind.wrap .i64 (((BitVec.ofInt 64 y332 &&& BitVec.ofInt 64 (255 : Int)).toNat : Int))), IntKind.wrap .u8 ((y332).fdiv (2 ^ (min ((8 : Int)).toNat 64)))]).length) * 1 ≤ 140737488355328))
 (.leaf (.inl (z41.mk s.t0 s.t1 s.t2 (IntKind.wrap .i64 (s.t8 + (1 : Int))) (s.b0 ++ ([IntKind.wrap .u8 (IntKind.wrap .i64 (((BitVec.ofInt 64 y332 &&& BitVec.ofInt 64 (255 : Int)).toNat : Int))), IntKind.wrap .u8 ((y332).fdiv (2 ^ (min ((8 : Int)).toNat 64)))])))))
 .fail)
 .fail)
 .fail))
 (.leaf (.inr s.b0))
noncomputable def za4 (q : Option Nat) (s : z41) : Option (List Int) := limQ q (fun s => (z7u s).run) s
structure z42 where
  b0 : (List Int)
noncomputable def z7v (s : z42) : Tree (z42 ⊕ (List Int)) :=
 .ite (decide ((s.b0.length : Int) < (128 : Int)))
 (.ite (decide ((s.b0.length + ([(0 : Int)]).length) * 1 ≤ 140737488355328))
 (.leaf (.inl (z42.mk (s.b0 ++ ([(0 : Int)])))))
 .fail)
 (.leaf (.inr s.b0))
noncomputable def z7s (q : Option Nat) (s : z42) : Option (List Int) := limQ q (fun s => (z7v s).run) s
noncomputable def zg6 (q : Option Nat) (x0 : (List Int)) (x1 : Int) (x2 : Int) : Tree (List UInt8) :=
 .opt (List Int) (za4 q (z41.mk x0 x1 x2 (0 : Int) ([]))) fun l333 =>
 .opt (List Int) (z7s q (z42.mk l333)) fun l334 =>
 .leaf (l334.map fun x => UInt8.ofNat x.toNat)
noncomputable def z1u (q : Option Nat) (x0 : (List Int)) (x1 : Int) (x2 : Int) : Option (List UInt8) := (zg6 q x0 x1 x2).run
noncomputable def z11q : Arg U ((List Int) × Int × Int × Unit) := aO (cSl 3) (aO (cInt .i64) (aO (cInt .i64) (aNil)))
noncomputable def z12q (r : (List UInt8)) : zR := ([vO cStr r], [])
noncomputable def z138 : zS := zf z11q bNil (fun x _ => z1u none x.1 x.2.1 x.2.2.1) z12q
noncomputable def zss (x : ((List Int) × Unit) × (Int × Unit) × (Int × Unit) × (Unit) × (Int × Unit) × Unit) (g : (List Int) × Unit) : z41 := z41.mk x.1.1 x.2.1.1 x.2.2.1.1 x.2.2.2.2.1.1 g.1
noncomputable def zrg : Tms U (((List Int) × Unit) × (Int × Unit) × (Int × Unit) × (Unit) × (Int × Unit) × Unit) := tO 0 (z0 (cSl 3) (z1)) (tO 1 (z0 (cInt .i64) (z1)) (tO 2 (z0 (cInt .i64) (z1)) (tO 7 (cK (.row 0 0) (z1)) (tO 8 (z0 (cInt .i64) (z1)) (tNil)))))
noncomputable def zro : Bls U ((List Int) × Unit) := bRv 5 0 (bNil)
noncomputable def zgl (s : z41) : St U := { tm := [(0, .v (vO (z0 (cSl 3) (z1)) (s.t0, ()))), (1, .v (vO (z0 (cInt .i64) (z1)) (s.t1, ()))), (2, .v (vO (z0 (cInt .i64) (z1)) (s.t2, ()))), (7, .v (vO (cK (.row 0 0) (z1)) (()))), (8, .v (vO (z0 (cInt .i64) (z1)) (s.t8, ())))], hp := [.row 5 0 s.b0] }
noncomputable def zh3 (r : (List Int)) : Ex × St U := (.exit 0, { tm := [(7, .v (vO (cK (.row 0 0) (z1)) (())))], hp := [.row 5 0 r] })
noncomputable def zs2 (r : (List Int)) : Tree (Ex × St U) := .leaf (zh3 r)
noncomputable def ztj : Hd := { keep := [0, 1, 2, 7, 8], xkeep := [6, 7], own := true }
noncomputable def zst (x : (Unit) × Unit) (g : (List Int) × Unit) : z42 := z42.mk g.1
noncomputable def zrh : Tms U ((Unit) × Unit) := tO 7 (cK (.row 0 0) (z1)) (tNil)
noncomputable def zrp : Bls U ((List Int) × Unit) := bRv 5 0 (bNil)
noncomputable def zgm (s : z42) : St U := { tm := [(7, .v (vO (cK (.row 0 0) (z1)) (())))], hp := [.row 5 0 s.b0] }
noncomputable def zh4 (r : (List Int)) : Ex × St U := (.exit 2, { tm := [(7, .v (vO (cK (.row 0 0) (z1)) (())))], hp := [.row 5 0 r] })
noncomputable def zs3 (r : (List Int)) : Tree (Ex × St U) := .leaf (zh4 r)
noncomputable def ztk : Hd := { keep := [7], xkeep := [6, 7], own := false }
noncomputable def z9v : Env U := zE fns77 (addL 0 ztj (z1f zrg zro zss (za4 none) zs2) (addL 1 ztk (z1f zrh zrp zst (z7s none) zs3) noL)) 39 0
noncomputable def zsf : Code := (loopAt (Tryz.f78.body.getD .skip) 0 0).getD .skip
theorem z14l (s : z41) : round z9v ztj zsf 0 (zgl s) = (z7u s).map (sumE zgl zh3) := by kernel_rfl
theorem z1e6 : LpOk z9v zsf 0 := zy (A := zrg) (B := zro) (f := zss) (L := za4 none) (zb (z2 (zi 3) z6) (zb (z2 (z3 .i64) z6) (zb (z2 (z3 .i64) z6) (zb (z10 z6) (zb (z2 (z3 .i64) z6) z12))))) (z1m z7) (enc := zgl) (out := zs2) (outS := zh3) (step := z7u) (fun _ => rfl) (fun _ _ => by kernel_rfl) (by kernel_rfl) (fun _ => rfl) z14l
noncomputable def zsg : Code := (loopAt (Tryz.f78.body.getD .skip) 0 1).getD .skip
theorem z14m (s : z42) : round z9v ztk zsg 1 (zgm s) = (z7v s).map (sumE zgm zh4) := by kernel_rfl
theorem z1e7 : LpOk z9v zsg 1 := zy (A := zrh) (B := zrp) (f := zst) (L := z7s none) (zb (z10 z6) z12) (z1m z7) (enc := zgm) (out := zs3) (outS := zh4) (step := z7v) (fun _ => rfl) (fun _ _ => by kernel_rfl) (by kernel_rfl) (fun _ => rfl) z14m
theorem z1j7 (x : (List Int) × Int × Int × Unit) (g : Unit) : zk z9v Tryz.f78 (z11q.enc x) (bNil.enc g) = (zg6 none x.1 x.2.1 x.2.2.1).map z12q := by kernel_rfl
theorem z1kg : FnOk Tryz.prog cd 78 z138 := zm (E := z9v) zg z1sl Tryz.func78 (by kernel_rfl) (z14 (z11 z1e6 (z11 z1e7 z1j))) (ze (zi 3) (ze (z3 .i64) (ze (z3 .i64) (zd)))) z7 (T := fun x _ => zg6 none x.1 x.2.1 x.2.2.1) (fun _ _ => rfl) z1j7
noncomputable def fns78 := addF 78 true z138 fns77
theorem z1sm : zF fns78 := za z1kg z1sl
structure zp where
  t2 : (List Int)
  t9 : Int
  t10 : (List UInt8)
  t14 : Int
  b0 : (List Int)
  b1 : Disk
  b2 : Disk
noncomputable def z9x (s : zp) : Tree (zp ⊕ ((List Int) × Int × (List Int) × Disk × Disk)) :=
 .ite (decide (s.t14 < s.t9))
 (.ite (decide ((2 : Int) = 0))
 .fail
 (.opt Int (zr7 s.t10 s.t14) fun r345 =>
 .ite (decide (0 ≤ IntKind.wrap .i64 ((IntKind.wrap .i64 ((s.b1.addr).tdiv (2 : Int))) + s.t14)))
 (.ite (decide (IntKind.wrap .i64 ((IntKind.wrap .i64 ((s.b1.addr).tdiv (2 : Int))) + s.t14) < (s.b0.length : Int)))
 (.opt Int (s.b0[(IntKind.wrap .i64 ((IntKind.wrap .i64 ((s.b1.addr).tdiv (2 : Int))) + s.t14)).toNat]?) fun y346 =>
 .leaf (.inl (zp.mk s.t2 s.t9 s.t10 (IntKind.wrap .i64 (s.t14 + (1 : Int))) (s.b0.set ((IntKind.wrap .i64 ((IntKind.wrap .i64 ((s.b1.addr).tdiv (2 : Int))) + s.t14)).toNat) r345) s.b1 s.b2)))
 .fail)
 .fail))
 (.leaf (.inr (s.t2, s.t9, s.b0, s.b1, s.b2)))
noncomputable def zq (q : Option Nat) (s : zp) : Option ((List Int) × Int × (List Int) × Disk × Disk) := limQ q (fun s => (z9x s).run) s
structure zo where
  t2 : (List Int)
  t9 : Int
  t16 : Int
  b0 : (List Int)
  b1 : Disk
  b2 : Disk
  b3 : (List Int)
noncomputable def z6k (s : zo) : Tree (zo ⊕ (Int × (List Int) × Disk × Disk × (List Int))) :=
 .ite (decide (s.t16 < (s.t2.length : Int)))
 (.ite (decide (0 ≤ s.t16))
 (.opt Int (s.t2[(s.t16).toNat]?) fun y348 =>
 .ite (decide (y348 < s.b1.addr))
 (.ite (decide (0 ≤ s.t16))
 (.opt Int (s.t2[(s.t16).toNat]?) fun y350 =>
 .ite (decide ((s.b3.length + ([y350]).length) * 8 ≤ 140737488355328))
 (.leaf (.inl (zo.mk s.t2 s.t9 (IntKind.wrap .i64 (s.t16 + (1 : Int))) s.b0 s.b1 s.b2 (s.b3 ++ ([y350])))))
 .fail)
 .fail)
 (.ite (decide (0 ≤ s.t16))
 (.opt Int (s.t2[(s.t16).toNat]?) fun y349 =>
 .ite (decide ((IntKind.wrap .i64 (s.b1.addr + (IntKind.wrap .i64 ((2 : Int) * s.t9)))) ≤ y349))
 (.ite (decide (0 ≤ s.t16))
 (.opt Int (s.t2[(s.t16).toNat]?) fun y351 =>
 .ite (decide ((s.b3.length + ([y351]).length) * 8 ≤ 140737488355328))
 (.leaf (.inl (zo.mk s.t2 s.t9 (IntKind.wrap .i64 (s.t16 + (1 : Int))) s.b0 s.b1 s.b2 (s.b3 ++ ([y351])))))
 .fail)
 .fail)
 (.leaf (.inl (zo.mk s.t2 s.t9 (IntKind.wrap .i64 (s.t16 + (1 : Int))) s.b0 s.b1 s.b2 s.b3))))
 .fail))
 .fail)
 (.leaf (.inr (s.t9, s.b0, s.b1, s.b2, s.b3)))
noncomputable def zr (q : Option Nat) (s : zo) : Option (Int × (List Int) × Disk × Disk × (List Int)) := limQ q (fun s => (z6k s).run) s
noncomputable def z1g (q : Option Nat) (x0 : Disk) (x1 : (List Int)) (x2 : (List Int)) : Tree (Disk × (List Int) × (List Int)) :=
 .ite (decide (x0.left = (0 : Int)))
 (.leaf ((x0, x1, x2)))
 (.ite (decide ((0 : Int) < (IntKind.wrap .i64 (x0.left - (1 : Int)))))
 (.leaf ((Disk.mk x0.drive x0.enable x0.ready x0.error x0.command x0.words x0.addr x0.start (IntKind.wrap .i64 (x0.left - (1 : Int))), x1, x2)))
 (.ite (decide ((64 : Int) < x0.words))
 (.ite (decide ((IntKind.wrap .i64 ((2 : Int) * (x1.length : Int))) < (IntKind.wrap .i64 (x0.addr + (IntKind.wrap .i64 ((2 : Int) * (64 : Int)))))))
 (.opt Disk (zz (Disk.mk x0.drive x0.enable x0.ready x0.error x0.command x0.words x0.addr x0.start (IntKind.wrap .i64 (x0.left - (1 : Int))))) fun r335 =>
 .leaf ((r335, x1, x2)))
 (.opt ((List UInt8) × Int) (zjo q x0.drive x0.start) fun r336 =>
 .ite (!decide (x0.command = (2 : Int)))
 (.ite (!decide (r336.2 = (0 : Int)))
 (.opt Disk (zz (Disk.mk x0.drive x0.enable x0.ready x0.error x0.command x0.words x0.addr x0.start (IntKind.wrap .i64 (x0.left - (1 : Int))))) fun r337 =>
 .leaf ((r337, x1, x2)))
 (.ite (!decide (x0.command = (1 : Int)))
 (.opt Bool (z7q q x2 x0.addr (64 : Int)) fun r338 =>
 .ite (r338)
 (.opt Disk (zz (Disk.mk x0.drive x0.enable x0.ready x0.error x0.command x0.words x0.addr x0.start (IntKind.wrap .i64 (x0.left - (1 : Int))))) fun r339 =>
 .leaf ((r339, x1, x2)))
 (.ite (decide (x0.command = (3 : Int)))
 (.opt Bool (z36 q x1 x0.addr (64 : Int) r336.1) fun r340 =>
 .ite (r340)
 (.opt Disk (zz (Disk.mk x0.drive x0.enable x0.ready x0.error x0.command x0.words x0.addr x0.start (IntKind.wrap .i64 (x0.left - (1 : Int))))) fun r341 =>
 .leaf ((r341, x1, x2)))
 (.ite (decide (x0.command = (2 : Int)))
 (.opt (List UInt8) (z1u q x1 x0.addr (64 : Int)) fun r342 =>
 .opt (Drive × Int) (z1z q x0.drive x0.start r342) fun r343 =>
 .ite (!decide (r343.2 = (0 : Int)))
 (.opt Disk (zz (Disk.mk x0.drive x0.enable x0.ready x0.error x0.command x0.words x0.addr x0.start (IntKind.wrap .i64 (x0.left - (1 : Int))))) fun r344 =>
 .leaf ((r344, x1, x2)))
 (.ite (decide (x0.command = (1 : Int)))
 (.ite (decide ((([] : List Int).length + x1.length) * 8 ≤ 140737488355328))
 (.opt ((List Int) × Int × (List Int) × Disk × Disk) (zq q (zp.mk x2 (64 : Int) r336.1 (0 : Int) (([] : List Int) ++ x1) (Disk.mk r343.1 x0.enable x0.ready x0.error x0.command x0.words x0.addr x0.start (IntKind.wrap .i64 (x0.left - (1 : Int)))) (Disk.mk (Drive.mk ([]) ([])) false false false 0 0 0 0 0))) fun l347 =>
 .opt (Int × (List Int) × Disk × Disk × (List Int)) (zr q (zo.mk l347.1 l347.2.1 (0 : Int) l347.2.2.1 l347.2.2.2.1 l347.2.2.2.2 ([]))) fun l352 =>
 .ite (decide ((65536 : Int) = 0))
 .fail
 (.ite (decide ((65536 : Int) = 0))
 .fail
 (.ite (decide ((IntKind.wrap .i64 (l352.2.2.1.words - l352.1)) = (0 : Int)))
 (.leaf ((Disk.mk l352.2.2.1.drive l352.2.2.1.enable true l352.2.2.1.error l352.2.2.1.command (IntKind.wrap .i64 (l352.2.2.1.words - l352.1)) (((IntKind.wrap .i64 (l352.2.2.1.addr + (IntKind.wrap .i64 ((2 : Int) * l352.1))))).tmod (65536 : Int)) (((IntKind.wrap .i64 (l352.2.2.1.start + (1 : Int)))).tmod (65536 : Int)) l352.2.2.1.left, l352.2.1, l352.2.2.2.2)))
 (.leaf ((Disk.mk l352.2.2.1.drive l352.2.2.1.enable l352.2.2.1.ready l352.2.2.1.error l352.2.2.1.command (IntKind.wrap .i64 (l352.2.2.1.words - l352.1)) (((IntKind.wrap .i64 (l352.2.2.1.addr + (IntKind.wrap .i64 ((2 : Int) * l352.1))))).tmod (65536 : Int)) (((IntKind.wrap .i64 (l352.2.2.1.start + (1 : Int)))).tmod (65536 : Int)) (8 : Int), l352.2.1, l352.2.2.2.2))))))
 .fail)
 (.ite (decide ((65536 : Int) = 0))
 .fail
 (.ite (decide ((65536 : Int) = 0))
 .fail
 (.ite (decide ((IntKind.wrap .i64 (x0.words - (64 : Int))) = (0 : Int)))
 (.leaf ((Disk.mk r343.1 x0.enable true x0.error x0.command (IntKind.wrap .i64 (x0.words - (64 : Int))) (((IntKind.wrap .i64 (x0.addr + (IntKind.wrap .i64 ((2 : Int) * (64 : Int)))))).tmod (65536 : Int)) (((IntKind.wrap .i64 (x0.start + (1 : Int)))).tmod (65536 : Int)) (IntKind.wrap .i64 (x0.left - (1 : Int))), x1, x2)))
 (.leaf ((Disk.mk r343.1 x0.enable x0.ready x0.error x0.command (IntKind.wrap .i64 (x0.words - (64 : Int))) (((IntKind.wrap .i64 (x0.addr + (IntKind.wrap .i64 ((2 : Int) * (64 : Int)))))).tmod (65536 : Int)) (((IntKind.wrap .i64 (x0.start + (1 : Int)))).tmod (65536 : Int)) (8 : Int), x1, x2))))))))
 (.ite (decide (x0.command = (1 : Int)))
 (.ite (decide ((([] : List Int).length + x1.length) * 8 ≤ 140737488355328))
 (.opt ((List Int) × Int × (List Int) × Disk × Disk) (zq q (zp.mk x2 (64 : Int) r336.1 (0 : Int) (([] : List Int) ++ x1) (Disk.mk x0.drive x0.enable x0.ready x0.error x0.command x0.words x0.addr x0.start (IntKind.wrap .i64 (x0.left - (1 : Int)))) (Disk.mk (Drive.mk ([]) ([])) false false false 0 0 0 0 0))) fun l353 =>
 .opt (Int × (List Int) × Disk × Disk × (List Int)) (zr q (zo.mk l353.1 l353.2.1 (0 : Int) l353.2.2.1 l353.2.2.2.1 l353.2.2.2.2 ([]))) fun l354 =>
 .ite (decide ((65536 : Int) = 0))
 .fail
 (.ite (decide ((65536 : Int) = 0))
 .fail
 (.ite (decide ((IntKind.wrap .i64 (l354.2.2.1.words - l354.1)) = (0 : Int)))
 (.leaf ((Disk.mk l354.2.2.1.drive l354.2.2.1.enable true l354.2.2.1.error l354.2.2.1.command (IntKind.wrap .i64 (l354.2.2.1.words - l354.1)) (((IntKind.wrap .i64 (l354.2.2.1.addr + (IntKind.wrap .i64 ((2 : Int) * l354.1))))).tmod (65536 : Int)) (((IntKind.wrap .i64 (l354.2.2.1.start + (1 : Int)))).tmod (65536 : Int)) l354.2.2.1.left, l354.2.1, l354.2.2.2.2)))
 (.leaf ((Disk.mk l354.2.2.1.drive l354.2.2.1.enable l354.2.2.1.ready l354.2.2.1.error l354.2.2.1.command (IntKind.wrap .i64 (l354.2.2.1.words - l354.1)) (((IntKind.wrap .i64 (l354.2.2.1.addr + (IntKind.wrap .i64 ((2 : Int) * l354.1))))).tmod (65536 : Int)) (((IntKind.wrap .i64 (l354.2.2.1.start + (1 : Int)))).tmod (65536 : Int)) (8 : Int), l354.2.1, l354.2.2.2.2))))))
 .fail)
 (.ite (decide ((65536 : Int) = 0))
 .fail
 (.ite (decide ((65536 : Int) = 0))
 .fail
 (.ite (decide ((IntKind.wrap .i64 (x0.words - (64 : Int))) = (0 : Int)))
 (.leaf ((Disk.mk x0.drive x0.enable true x0.error x0.command (IntKind.wrap .i64 (x0.words - (64 : Int))) (((IntKind.wrap .i64 (x0.addr + (IntKind.wrap .i64 ((2 : Int) * (64 : Int)))))).tmod (65536 : Int)) (((IntKind.wrap .i64 (x0.start + (1 : Int)))).tmod (65536 : Int)) (IntKind.wrap .i64 (x0.left - (1 : Int))), x1, x2)))
 (.leaf ((Disk.mk x0.drive x0.enable x0.ready x0.error x0.command (IntKind.wrap .i64 (x0.words - (64 : Int))) (((IntKind.wrap .i64 (x0.addr + (IntKind.wrap .i64 ((2 : Int) * (64 : Int)))))).tmod (65536 : Int)) (((IntKind.wrap .i64 (x0.start + (1 : Int)))).tmod (65536 : Int)) (8 : Int), x1, x2)))))))))
 (.ite (decide (x0.command = (2 : Int)))
 (.opt (List UInt8) (z1u q x1 x0.addr (64 : Int)) fun r355 =>
 .opt (Drive × Int) (z1z q x0.drive x0.start r355) fun r356 =>
 .ite (!decide (r356.2 = (0 : Int)))
 (.opt Disk (zz (Disk.mk x0.drive x0.enable x0.ready x0.error x0.command x0.words x0.addr x0.start (IntKind.wrap .i64 (x0.left - (1 : Int))))) fun r357 =>
 .leaf ((r357, x1, x2)))
 (.ite (decide (x0.command = (1 : Int)))
 (.ite (decide ((([] : List Int).length + x1.length) * 8 ≤ 140737488355328))
 (.opt ((List Int) × Int × (List Int) × Disk × Disk) (zq q (zp.mk x2 (64 : Int) r336.1 (0 : Int) (([] : List Int) ++ x1) (Disk.mk r356.1 x0.enable x0.ready x0.error x0.command x0.words x0.addr x0.start (IntKind.wrap .i64 (x0.left - (1 : Int)))) (Disk.mk (Drive.mk ([]) ([])) false false false 0 0 0 0 0))) fun l358 =>
 .opt (Int × (List Int) × Disk × Disk × (List Int)) (zr q (zo.mk l358.1 l358.2.1 (0 : Int) l358.2.2.1 l358.2.2.2.1 l358.2.2.2.2 ([]))) fun l359 =>
 .ite (decide ((65536 : Int) = 0))
 .fail
 (.ite (decide ((65536 : Int) = 0))
 .fail
 (.ite (decide ((IntKind.wrap .i64 (l359.2.2.1.words - l359.1)) = (0 : Int)))
 (.leaf ((Disk.mk l359.2.2.1.drive l359.2.2.1.enable true l359.2.2.1.error l359.2.2.1.command (IntKind.wrap .i64 (l359.2.2.1.words - l359.1)) (((IntKind.wrap .i64 (l359.2.2.1.addr + (IntKind.wrap .i64 ((2 : Int) * l359.1))))).tmod (65536 : Int)) (((IntKind.wrap .i64 (l359.2.2.1.start + (1 : Int)))).tmod (65536 : Int)) l359.2.2.1.left, l359.2.1, l359.2.2.2.2)))
 (.leaf ((Disk.mk l359.2.2.1.drive l359.2.2.1.enable l359.2.2.1.ready l359.2.2.1.error l359.2.2.1.command (IntKind.wrap .i64 (l359.2.2.1.words - l359.1)) (((IntKind.wrap .i64 (l359.2.2.1.addr + (IntKind.wrap .i64 ((2 : Int) * l359.1))))).tmod (65536 : Int)) (((IntKind.wrap .i64 (l359.2.2.1.start + (1 : Int)))).tmod (65536 : Int)) (8 : Int), l359.2.1, l359.2.2.2.2))))))
 .fail)
 (.ite (decide ((65536 : Int) = 0))
 .fail
 (.ite (decide ((65536 : Int) = 0))
 .fail
 (.ite (decide ((IntKind.wrap .i64 (x0.words - (64 : Int))) = (0 : Int)))
 (.leaf ((Disk.mk r356.1 x0.enable true x0.error x0.command (IntKind.wrap .i64 (x0.words - (64 : Int))) (((IntKind.wrap .i64 (x0.addr + (IntKind.wrap .i64 ((2 : Int) * (64 : Int)))))).tmod (65536 : Int)) (((IntKind.wrap .i64 (x0.start + (1 : Int)))).tmod (65536 : Int)) (IntKind.wrap .i64 (x0.left - (1 : Int))), x1, x2)))
 (.leaf ((Disk.mk r356.1 x0.enable x0.ready x0.error x0.command (IntKind.wrap .i64 (x0.words - (64 : Int))) (((IntKind.wrap .i64 (x0.addr + (IntKind.wrap .i64 ((2 : Int) * (64 : Int)))))).tmod (65536 : Int)) (((IntKind.wrap .i64 (x0.start + (1 : Int)))).tmod (65536 : Int)) (8 : Int), x1, x2))))))))
 (.ite (decide (x0.command = (1 : Int)))
 (.ite (decide ((([] : List Int).length + x1.length) * 8 ≤ 140737488355328))
 (.opt ((List Int) × Int × (List Int) × Disk × Disk) (zq q (zp.mk x2 (64 : Int) r336.1 (0 : Int) (([] : List Int) ++ x1) (Disk.mk x0.drive x0.enable x0.ready x0.error x0.command x0.words x0.addr x0.start (IntKind.wrap .i64 (x0.left - (1 : Int)))) (Disk.mk (Drive.mk ([]) ([])) false false false 0 0 0 0 0))) fun l360 =>
 .opt (Int × (List Int) × Disk × Disk × (List Int)) (zr q (zo.mk l360.1 l360.2.1 (0 : Int) l360.2.2.1 l360.2.2.2.1 l360.2.2.2.2 ([]))) fun l361 =>
 .ite (decide ((65536 : Int) = 0))
 .fail
 (.ite (decide ((65536 : Int) = 0))
 .fail
 (.ite (decide ((IntKind.wrap .i64 (l361.2.2.1.words - l361.1)) = (0 : Int)))
 (.leaf ((Disk.mk l361.2.2.1.drive l361.2.2.1.enable true l361.2.2.1.error l361.2.2.1.command (IntKind.wrap .i64 (l361.2.2.1.words - l361.1)) (((IntKind.wrap .i64 (l361.2.2.1.addr + (IntKind.wrap .i64 ((2 : Int) * l361.1))))).tmod (65536 : Int)) (((IntKind.wrap .i64 (l361.2.2.1.start + (1 : Int)))).tmod (65536 : Int)) l361.2.2.1.left, l361.2.1, l361.2.2.2.2)))
 (.leaf ((Disk.mk l361.2.2.1.drive l361.2.2.1.enable l361.2.2.1.ready l361.2.2.1.error l361.2.2.1.command (IntKind.wrap .i64 (l361.2.2.1.words - l361.1)) (((IntKind.wrap .i64 (l361.2.2.1.addr + (IntKind.wrap .i64 ((2 : Int) * l361.1))))).tmod (65536 : Int)) (((IntKind.wrap .i64 (l361.2.2.1.start + (1 : Int)))).tmod (65536 : Int)) (8 : Int), l361.2.1, l361.2.2.2.2))))))
 .fail)
 (.ite (decide ((65536 : Int) = 0))
 .fail
 (.ite (decide ((65536 : Int) = 0))
 .fail
 (.ite (decide ((IntKind.wrap .i64 (x0.words - (64 : Int))) = (0 : Int)))
 (.leaf ((Disk.mk x0.drive x0.enable true x0.error x0.command (IntKind.wrap .i64 (x0.words - (64 : Int))) (((IntKind.wrap .i64 (x0.addr + (IntKind.wrap .i64 ((2 : Int) * (64 : Int)))))).tmod (65536 : Int)) (((IntKind.wrap .i64 (x0.start + (1 : Int)))).tmod (65536 : Int)) (IntKind.wrap .i64 (x0.left - (1 : Int))), x1, x2)))
 (.leaf ((Disk.mk x0.drive x0.enable x0.ready x0.error x0.command (IntKind.wrap .i64 (x0.words - (64 : Int))) (((IntKind.wrap .i64 (x0.addr + (IntKind.wrap .i64 ((2 : Int) * (64 : Int)))))).tmod (65536 : Int)) (((IntKind.wrap .i64 (x0.start + (1 : Int)))).tmod (65536 : Int)) (8 : Int), x1, x2))))))))))
 (.ite (decide (x0.command = (3 : Int)))
 (.opt Bool (z36 q x1 x0.addr (64 : Int) r336.1) fun r362 =>
 .ite (r362)
 (.opt Disk (zz (Disk.mk x0.drive x0.enable x0.ready x0.error x0.command x0.words x0.addr x0.start (IntKind.wrap .i64 (x0.left - (1 : Int))))) fun r363 =>
 .leaf ((r363, x1, x2)))
 (.ite (decide (x0.command = (2 : Int)))
 (.opt (List UInt8) (z1u q x1 x0.addr (64 : Int)) fun r364 =>
 .opt (Drive × Int) (z1z q x0.drive x0.start r364) fun r365 =>
 .ite (!decide (r365.2 = (0 : Int)))
 (.opt Disk (zz (Disk.mk x0.drive x0.enable x0.ready x0.error x0.command x0.words x0.addr x0.start (IntKind.wrap .i64 (x0.left - (1 : Int))))) fun r366 =>
 .leaf ((r366, x1, x2)))
 (.ite (decide (x0.command = (1 : Int)))
 (.ite (decide ((([] : List Int).length + x1.length) * 8 ≤ 140737488355328))
 (.opt ((List Int) × Int × (List Int) × Disk × Disk) (zq q (zp.mk x2 (64 : Int) r336.1 (0 : Int) (([] : List Int) ++ x1) (Disk.mk r365.1 x0.enable x0.ready x0.error x0.command x0.words x0.addr x0.start (IntKind.wrap .i64 (x0.left - (1 : Int)))) (Disk.mk (Drive.mk ([]) ([])) false false false 0 0 0 0 0))) fun l367 =>
 .opt (Int × (List Int) × Disk × Disk × (List Int)) (zr q (zo.mk l367.1 l367.2.1 (0 : Int) l367.2.2.1 l367.2.2.2.1 l367.2.2.2.2 ([]))) fun l368 =>
 .ite (decide ((65536 : Int) = 0))
 .fail
 (.ite (decide ((65536 : Int) = 0))
 .fail
 (.ite (decide ((IntKind.wrap .i64 (l368.2.2.1.words - l368.1)) = (0 : Int)))
 (.leaf ((Disk.mk l368.2.2.1.drive l368.2.2.1.enable true l368.2.2.1.error l368.2.2.1.command (IntKind.wrap .i64 (l368.2.2.1.words - l368.1)) (((IntKind.wrap .i64 (l368.2.2.1.addr + (IntKind.wrap .i64 ((2 : Int) * l368.1))))).tmod (65536 : Int)) (((IntKind.wrap .i64 (l368.2.2.1.start + (1 : Int)))).tmod (65536 : Int)) l368.2.2.1.left, l368.2.1, l368.2.2.2.2)))
 (.leaf ((Disk.mk l368.2.2.1.drive l368.2.2.1.enable l368.2.2.1.ready l368.2.2.1.error l368.2.2.1.command (IntKind.wrap .i64 (l368.2.2.1.words - l368.1)) (((IntKind.wrap .i64 (l368.2.2.1.addr + (IntKind.wrap .i64 ((2 : Int) * l368.1))))).tmod (65536 : Int)) (((IntKind.wrap .i64 (l368.2.2.1.start + (1 : Int)))).tmod (65536 : Int)) (8 : Int), l368.2.1, l368.2.2.2.2))))))
 .fail)
 (.ite (decide ((65536 : Int) = 0))
 .fail
 (.ite (decide ((65536 : Int) = 0))
 .fail
 (.ite (decide ((IntKind.wrap .i64 (x0.words - (64 : Int))) = (0 : Int)))
 (.leaf ((Disk.mk r365.1 x0.enable true x0.error x0.command (IntKind.wrap .i64 (x0.words - (64 : Int))) (((IntKind.wrap .i64 (x0.addr + (IntKind.wrap .i64 ((2 : Int) * (64 : Int)))))).tmod (65536 : Int)) (((IntKind.wrap .i64 (x0.start + (1 : Int)))).tmod (65536 : Int)) (IntKind.wrap .i64 (x0.left - (1 : Int))), x1, x2)))
 (.leaf ((Disk.mk r365.1 x0.enable x0.ready x0.error x0.command (IntKind.wrap .i64 (x0.words - (64 : Int))) (((IntKind.wrap .i64 (x0.addr + (IntKind.wrap .i64 ((2 : Int) * (64 : Int)))))).tmod (65536 : Int)) (((IntKind.wrap .i64 (x0.start + (1 : Int)))).tmod (65536 : Int)) (8 : Int), x1, x2))))))))
 (.ite (decide (x0.command = (1 : Int)))
 (.ite (decide ((([] : List Int).length + x1.length) * 8 ≤ 140737488355328))
 (.opt ((List Int) × Int × (List Int) × Disk × Disk) (zq q (zp.mk x2 (64 : Int) r336.1 (0 : Int) (([] : List Int) ++ x1) (Disk.mk x0.drive x0.enable x0.ready x0.error x0.command x0.words x0.addr x0.start (IntKind.wrap .i64 (x0.left - (1 : Int)))) (Disk.mk (Drive.mk ([]) ([])) false false false 0 0 0 0 0))) fun l369 =>
 .opt (Int × (List Int) × Disk × Disk × (List Int)) (zr q (zo.mk l369.1 l369.2.1 (0 : Int) l369.2.2.1 l369.2.2.2.1 l369.2.2.2.2 ([]))) fun l370 =>
 .ite (decide ((65536 : Int) = 0))
 .fail
 (.ite (decide ((65536 : Int) = 0))
 .fail
 (.ite (decide ((IntKind.wrap .i64 (l370.2.2.1.words - l370.1)) = (0 : Int)))
 (.leaf ((Disk.mk l370.2.2.1.drive l370.2.2.1.enable true l370.2.2.1.error l370.2.2.1.command (IntKind.wrap .i64 (l370.2.2.1.words - l370.1)) (((IntKind.wrap .i64 (l370.2.2.1.addr + (IntKind.wrap .i64 ((2 : Int) * l370.1))))).tmod (65536 : Int)) (((IntKind.wrap .i64 (l370.2.2.1.start + (1 : Int)))).tmod (65536 : Int)) l370.2.2.1.left, l370.2.1, l370.2.2.2.2)))
 (.leaf ((Disk.mk l370.2.2.1.drive l370.2.2.1.enable l370.2.2.1.ready l370.2.2.1.error l370.2.2.1.command (IntKind.wrap .i64 (l370.2.2.1.words - l370.1)) (((IntKind.wrap .i64 (l370.2.2.1.addr + (IntKind.wrap .i64 ((2 : Int) * l370.1))))).tmod (65536 : Int)) (((IntKind.wrap .i64 (l370.2.2.1.start + (1 : Int)))).tmod (65536 : Int)) (8 : Int), l370.2.1, l370.2.2.2.2))))))
 .fail)
 (.ite (decide ((65536 : Int) = 0))
 .fail
 (.ite (decide ((65536 : Int) = 0))
 .fail
 (.ite (decide ((IntKind.wrap .i64 (x0.words - (64 : Int))) = (0 : Int)))
 (.leaf ((Disk.mk x0.drive x0.enable true x0.error x0.command (IntKind.wrap .i64 (x0.words - (64 : Int))) (((IntKind.wrap .i64 (x0.addr + (IntKind.wrap .i64 ((2 : Int) * (64 : Int)))))).tmod (65536 : Int)) (((IntKind.wrap .i64 (x0.start + (1 : Int)))).tmod (65536 : Int)) (IntKind.wrap .i64 (x0.left - (1 : Int))), x1, x2)))
 (.leaf ((Disk.mk x0.drive x0.enable x0.ready x0.error x0.command (IntKind.wrap .i64 (x0.words - (64 : Int))) (((IntKind.wrap .i64 (x0.addr + (IntKind.wrap .i64 ((2 : Int) * (64 : Int)))))).tmod (65536 : Int)) (((IntKind.wrap .i64 (x0.start + (1 : Int)))).tmod (65536 : Int)) (8 : Int), x1, x2)))))))))
 (.ite (decide (x0.command = (2 : Int)))
 (.opt (List UInt8) (z1u q x1 x0.addr (64 : Int)) fun r371 =>
 .opt (Drive × Int) (z1z q x0.drive x0.start r371) fun r372 =>
 .ite (!decide (r372.2 = (0 : Int)))
 (.opt Disk (zz (Disk.mk x0.drive x0.enable x0.ready x0.error x0.command x0.words x0.addr x0.start (IntKind.wrap .i64 (x0.left - (1 : Int))))) fun r373 =>
 .leaf ((r373, x1, x2)))
 (.ite (decide (x0.command = (1 : Int)))
 (.ite (decide ((([] : List Int).length + x1.length) * 8 ≤ 140737488355328))
 (.opt ((List Int) × Int × (List Int) × Disk × Disk) (zq q (zp.mk x2 (64 : Int) r336.1 (0 : Int) (([] : List Int) ++ x1) (Disk.mk r372.1 x0.enable x0.ready x0.error x0.command x0.words x0.addr x0.start (IntKind.wrap .i64 (x0.left - (1 : Int)))) (Disk.mk (Drive.mk ([]) ([])) false false false 0 0 0 0 0))) fun l374 =>
 .opt (Int × (List Int) × Disk × Disk × (List Int)) (zr q (zo.mk l374.1 l374.2.1 (0 : Int) l374.2.2.1 l374.2.2.2.1 l374.2.2.2.2 ([]))) fun l375 =>
 .ite (decide ((65536 : Int) = 0))
 .fail
 (.ite (decide ((65536 : Int) = 0))
 .fail
 (.ite (decide ((IntKind.wrap .i64 (l375.2.2.1.words - l375.1)) = (0 : Int)))
 (.leaf ((Disk.mk l375.2.2.1.drive l375.2.2.1.enable true l375.2.2.1.error l375.2.2.1.command (IntKind.wrap .i64 (l375.2.2.1.words - l375.1)) (((IntKind.wrap .i64 (l375.2.2.1.addr + (IntKind.wrap .i64 ((2 : Int) * l375.1))))).tmod (65536 : Int)) (((IntKind.wrap .i64 (l375.2.2.1.start + (1 : Int)))).tmod (65536 : Int)) l375.2.2.1.left, l375.2.1, l375.2.2.2.2)))
 (.leaf ((Disk.mk l375.2.2.1.drive l375.2.2.1.enable l375.2.2.1.ready l375.2.2.1.error l375.2.2.1.command (IntKind.wrap .i64 (l375.2.2.1.words - l375.1)) (((IntKind.wrap .i64 (l375.2.2.1.addr + (IntKind.wrap .i64 ((2 : Int) * l375.1))))).tmod (65536 : Int)) (((IntKind.wrap .i64 (l375.2.2.1.start + (1 : Int)))).tmod (65536 : Int)) (8 : Int), l375.2.1, l375.2.2.2.2))))))
 .fail)
 (.ite (decide ((65536 : Int) = 0))
 .fail
 (.ite (decide ((65536 : Int) = 0))
 .fail
 (.ite (decide ((IntKind.wrap .i64 (x0.words - (64 : Int))) = (0 : Int)))
 (.leaf ((Disk.mk r372.1 x0.enable true x0.error x0.command (IntKind.wrap .i64 (x0.words - (64 : Int))) (((IntKind.wrap .i64 (x0.addr + (IntKind.wrap .i64 ((2 : Int) * (64 : Int)))))).tmod (65536 : Int)) (((IntKind.wrap .i64 (x0.start + (1 : Int)))).tmod (65536 : Int)) (IntKind.wrap .i64 (x0.left - (1 : Int))), x1, x2)))
 (.leaf ((Disk.mk r372.1 x0.enable x0.ready x0.error x0.command (IntKind.wrap .i64 (x0.words - (64 : Int))) (((IntKind.wrap .i64 (x0.addr + (IntKind.wrap .i64 ((2 : Int) * (64 : Int)))))).tmod (65536 : Int)) (((IntKind.wrap .i64 (x0.start + (1 : Int)))).tmod (65536 : Int)) (8 : Int), x1, x2))))))))
 (.ite (decide (x0.command = (1 : Int)))
 (.ite (decide ((([] : List Int).length + x1.length) * 8 ≤ 140737488355328))
 (.opt ((List Int) × Int × (List Int) × Disk × Disk) (zq q (zp.mk x2 (64 : Int) r336.1 (0 : Int) (([] : List Int) ++ x1) (Disk.mk x0.drive x0.enable x0.ready x0.error x0.command x0.words x0.addr x0.start (IntKind.wrap .i64 (x0.left - (1 : Int)))) (Disk.mk (Drive.mk ([]) ([])) false false false 0 0 0 0 0))) fun l376 =>
 .opt (Int × (List Int) × Disk × Disk × (List Int)) (zr q (zo.mk l376.1 l376.2.1 (0 : Int) l376.2.2.1 l376.2.2.2.1 l376.2.2.2.2 ([]))) fun l377 =>
 .ite (decide ((65536 : Int) = 0))
 .fail
 (.ite (decide ((65536 : Int) = 0))
 .fail
 (.ite (decide ((IntKind.wrap .i64 (l377.2.2.1.words - l377.1)) = (0 : Int)))
 (.leaf ((Disk.mk l377.2.2.1.drive l377.2.2.1.enable true l377.2.2.1.error l377.2.2.1.command (IntKind.wrap .i64 (l377.2.2.1.words - l377.1)) (((IntKind.wrap .i64 (l377.2.2.1.addr + (IntKind.wrap .i64 ((2 : Int) * l377.1))))).tmod (65536 : Int)) (((IntKind.wrap .i64 (l377.2.2.1.start + (1 : Int)))).tmod (65536 : Int)) l377.2.2.1.left, l377.2.1, l377.2.2.2.2)))
 (.leaf ((Disk.mk l377.2.2.1.drive l377.2.2.1.enable l377.2.2.1.ready l377.2.2.1.error l377.2.2.1.command (IntKind.wrap .i64 (l377.2.2.1.words - l377.1)) (((IntKind.wrap .i64 (l377.2.2.1.addr + (IntKind.wrap .i64 ((2 : Int) * l377.1))))).tmod (65536 : Int)) (((IntKind.wrap .i64 (l377.2.2.1.start + (1 : Int)))).tmod (65536 : Int)) (8 : Int), l377.2.1, l377.2.2.2.2))))))
 .fail)
 (.ite (decide ((65536 : Int) = 0))
 .fail
 (.ite (decide ((65536 : Int) = 0))
 .fail
 (.ite (decide ((IntKind.wrap .i64 (x0.words - (64 : Int))) = (0 : Int)))
 (.leaf ((Disk.mk x0.drive x0.enable true x0.error x0.command (IntKind.wrap .i64 (x0.words - (64 : Int))) (((IntKind.wrap .i64 (x0.addr + (IntKind.wrap .i64 ((2 : Int) * (64 : Int)))))).tmod (65536 : Int)) (((IntKind.wrap .i64 (x0.start + (1 : Int)))).tmod (65536 : Int)) (IntKind.wrap .i64 (x0.left - (1 : Int))), x1, x2)))
 (.leaf ((Disk.mk x0.drive x0.enable x0.ready x0.error x0.command (IntKind.wrap .i64 (x0.words - (64 : Int))) (((IntKind.wrap .i64 (x0.addr + (IntKind.wrap .i64 ((2 : Int) * (64 : Int)))))).tmod (65536 : Int)) (((IntKind.wrap .i64 (x0.start + (1 : Int)))).tmod (65536 : Int)) (8 : Int), x1, x2)))))))))))
 (.ite (!decide (x0.command = (1 : Int)))
 (.opt Bool (z7q q x2 x0.addr (64 : Int)) fun r378 =>
 .ite (r378)
 (.opt Disk (zz (Disk.mk x0.drive x0.enable x0.ready x0.error x0.command x0.words x0.addr x0.start (IntKind.wrap .i64 (x0.left - (1 : Int))))) fun r379 =>
 .leaf ((r379, x1, x2)))
 (.ite (decide (x0.command = (3 : Int)))
 (.opt Bool (z36 q x1 x0.addr (64 : Int) r336.1) fun r380 =>
 .ite (r380)
 (.opt Disk (zz (Disk.mk x0.drive x0.enable x0.ready x0.error x0.command x0.words x0.addr x0.start (IntKind.wrap .i64 (x0.left - (1 : Int))))) fun r381 =>
 .leaf ((r381, x1, x2)))
 (.ite (decide (x0.command = (2 : Int)))
 (.opt (List UInt8) (z1u q x1 x0.addr (64 : Int)) fun r382 =>
 .opt (Drive × Int) (z1z q x0.drive x0.start r382) fun r383 =>
 .ite (!decide (r383.2 = (0 : Int)))
 (.opt Disk (zz (Disk.mk x0.drive x0.enable x0.ready x0.error x0.command x0.words x0.addr x0.start (IntKind.wrap .i64 (x0.left - (1 : Int))))) fun r384 =>
 .leaf ((r384, x1, x2)))
 (.ite (decide (x0.command = (1 : Int)))
 (.ite (decide ((([] : List Int).length + x1.length) * 8 ≤ 140737488355328))
 (.opt ((List Int) × Int × (List Int) × Disk × Disk) (zq q (zp.mk x2 (64 : Int) r336.1 (0 : Int) (([] : List Int) ++ x1) (Disk.mk r383.1 x0.enable x0.ready x0.error x0.command x0.words x0.addr x0.start (IntKind.wrap .i64 (x0.left - (1 : Int)))) (Disk.mk (Drive.mk ([]) ([])) false false false 0 0 0 0 0))) fun l385 =>
 .opt (Int × (List Int) × Disk × Disk × (List Int)) (zr q (zo.mk l385.1 l385.2.1 (0 : Int) l385.2.2.1 l385.2.2.2.1 l385.2.2.2.2 ([]))) fun l386 =>
 .ite (decide ((65536 : Int) = 0))
 .fail
 (.ite (decide ((65536 : Int) = 0))
 .fail
 (.ite (decide ((IntKind.wrap .i64 (l386.2.2.1.words - l386.1)) = (0 : Int)))
 (.leaf ((Disk.mk l386.2.2.1.drive l386.2.2.1.enable true l386.2.2.1.error l386.2.2.1.command (IntKind.wrap .i64 (l386.2.2.1.words - l386.1)) (((IntKind.wrap .i64 (l386.2.2.1.addr + (IntKind.wrap .i64 ((2 : Int) * l386.1))))).tmod (65536 : Int)) (((IntKind.wrap .i64 (l386.2.2.1.start + (1 : Int)))).tmod (65536 : Int)) l386.2.2.1.left, l386.2.1, l386.2.2.2.2)))
 (.leaf ((Disk.mk l386.2.2.1.drive l386.2.2.1.enable l386.2.2.1.ready l386.2.2.1.error l386.2.2.1.command (IntKind.wrap .i64 (l386.2.2.1.words - l386.1)) (((IntKind.wrap .i64 (l386.2.2.1.addr + (IntKind.wrap .i64 ((2 : Int) * l386.1))))).tmod (65536 : Int)) (((IntKind.wrap .i64 (l386.2.2.1.start + (1 : Int)))).tmod (65536 : Int)) (8 : Int), l386.2.1, l386.2.2.2.2))))))
 .fail)
 (.ite (decide ((65536 : Int) = 0))
 .fail
 (.ite (decide ((65536 : Int) = 0))
 .fail
 (.ite (decide ((IntKind.wrap .i64 (x0.words - (64 : Int))) = (0 : Int)))
 (.leaf ((Disk.mk r383.1 x0.enable true x0.error x0.command (IntKind.wrap .i64 (x0.words - (64 : Int))) (((IntKind.wrap .i64 (x0.addr + (IntKind.wrap .i64 ((2 : Int) * (64 : Int)))))).tmod (65536 : Int)) (((IntKind.wrap .i64 (x0.start + (1 : Int)))).tmod (65536 : Int)) (IntKind.wrap .i64 (x0.left - (1 : Int))), x1, x2)))
 (.leaf ((Disk.mk r383.1 x0.enable x0.ready x0.error x0.command (IntKind.wrap .i64 (x0.words - (64 : Int))) (((IntKind.wrap .i64 (x0.addr + (IntKind.wrap .i64 ((2 : Int) * (64 : Int)))))).tmod (65536 : Int)) (((IntKind.wrap .i64 (x0.start + (1 : Int)))).tmod (65536 : Int)) (8 : Int), x1, x2))))))))
 (.ite (decide (x0.command = (1 : Int)))
 (.ite (decide ((([] : List Int).length + x1.length) * 8 ≤ 140737488355328))
 (.opt ((List Int) × Int × (List Int) × Disk × Disk) (zq q (zp.mk x2 (64 : Int) r336.1 (0 : Int) (([] : List Int) ++ x1) (Disk.mk x0.drive x0.enable x0.ready x0.error x0.command x0.words x0.addr x0.start (IntKind.wrap .i64 (x0.left - (1 : Int)))) (Disk.mk (Drive.mk ([]) ([])) false false false 0 0 0 0 0))) fun l387 =>
 .opt (Int × (List Int) × Disk × Disk × (List Int)) (zr q (zo.mk l387.1 l387.2.1 (0 : Int) l387.2.2.1 l387.2.2.2.1 l387.2.2.2.2 ([]))) fun l388 =>
 .ite (decide ((65536 : Int) = 0))
 .fail
 (.ite (decide ((65536 : Int) = 0))
 .fail
 (.ite (decide ((IntKind.wrap .i64 (l388.2.2.1.words - l388.1)) = (0 : Int)))
 (.leaf ((Disk.mk l388.2.2.1.drive l388.2.2.1.enable true l388.2.2.1.error l388.2.2.1.command (IntKind.wrap .i64 (l388.2.2.1.words - l388.1)) (((IntKind.wrap .i64 (l388.2.2.1.addr + (IntKind.wrap .i64 ((2 : Int) * l388.1))))).tmod (65536 : Int)) (((IntKind.wrap .i64 (l388.2.2.1.start + (1 : Int)))).tmod (65536 : Int)) l388.2.2.1.left, l388.2.1, l388.2.2.2.2)))
 (.leaf ((Disk.mk l388.2.2.1.drive l388.2.2.1.enable l388.2.2.1.ready l388.2.2.1.error l388.2.2.1.command (IntKind.wrap .i64 (l388.2.2.1.words - l388.1)) (((IntKind.wrap .i64 (l388.2.2.1.addr + (IntKind.wrap .i64 ((2 : Int) * l388.1))))).tmod (65536 : Int)) (((IntKind.wrap .i64 (l388.2.2.1.start + (1 : Int)))).tmod (65536 : Int)) (8 : Int), l388.2.1, l388.2.2.2.2))))))
 .fail)
 (.ite (decide ((65536 : Int) = 0))
 .fail
 (.ite (decide ((65536 : Int) = 0))
 .fail
 (.ite (decide ((IntKind.wrap .i64 (x0.words - (64 : Int))) = (0 : Int)))
 (.leaf ((Disk.mk x0.drive x0.enable true x0.error x0.command (IntKind.wrap .i64 (x0.words - (64 : Int))) (((IntKind.wrap .i64 (x0.addr + (IntKind.wrap .i64 ((2 : Int) * (64 : Int)))))).tmod (65536 : Int)) (((IntKind.wrap .i64 (x0.start + (1 : Int)))).tmod (65536 : Int)) (IntKind.wrap .i64 (x0.left - (1 : Int))), x1, x2)))
 (.leaf ((Disk.mk x0.drive x0.enable x0.ready x0.error x0.command (IntKind.wrap .i64 (x0.words - (64 : Int))) (((IntKind.wrap .i64 (x0.addr + (IntKind.wrap .i64 ((2 : Int) * (64 : Int)))))).tmod (65536 : Int)) (((IntKind.wrap .i64 (x0.start + (1 : Int)))).tmod (65536 : Int)) (8 : Int), x1, x2)))))))))
 (.ite (decide (x0.command = (2 : Int)))
 (.opt (List UInt8) (z1u q x1 x0.addr (64 : Int)) fun r389 =>
 .opt (Drive × Int) (z1z q x0.drive x0.start r389) fun r390 =>
 .ite (!decide (r390.2 = (0 : Int)))
 (.opt Disk (zz (Disk.mk x0.drive x0.enable x0.ready x0.error x0.command x0.words x0.addr x0.start (IntKind.wrap .i64 (x0.left - (1 : Int))))) fun r391 =>
 .leaf ((r391, x1, x2)))
 (.ite (decide (x0.command = (1 : Int)))
 (.ite (decide ((([] : List Int).length + x1.length) * 8 ≤ 140737488355328))
 (.opt ((List Int) × Int × (List Int) × Disk × Disk) (zq q (zp.mk x2 (64 : Int) r336.1 (0 : Int) (([] : List Int) ++ x1) (Disk.mk r390.1 x0.enable x0.ready x0.error x0.command x0.words x0.addr x0.start (IntKind.wrap .i64 (x0.left - (1 : Int)))) (Disk.mk (Drive.mk ([]) ([])) false false false 0 0 0 0 0))) fun l392 =>
 .opt (Int × (List Int) × Disk × Disk × (List Int)) (zr q (zo.mk l392.1 l392.2.1 (0 : Int) l392.2.2.1 l392.2.2.2.1 l392.2.2.2.2 ([]))) fun l393 =>
 .ite (decide ((65536 : Int) = 0))
 .fail
 (.ite (decide ((65536 : Int) = 0))
 .fail
 (.ite (decide ((IntKind.wrap .i64 (l393.2.2.1.words - l393.1)) = (0 : Int)))
 (.leaf ((Disk.mk l393.2.2.1.drive l393.2.2.1.enable true l393.2.2.1.error l393.2.2.1.command (IntKind.wrap .i64 (l393.2.2.1.words - l393.1)) (((IntKind.wrap .i64 (l393.2.2.1.addr + (IntKind.wrap .i64 ((2 : Int) * l393.1))))).tmod (65536 : Int)) (((IntKind.wrap .i64 (l393.2.2.1.start + (1 : Int)))).tmod (65536 : Int)) l393.2.2.1.left, l393.2.1, l393.2.2.2.2)))
 (.leaf ((Disk.mk l393.2.2.1.drive l393.2.2.1.enable l393.2.2.1.ready l393.2.2.1.error l393.2.2.1.command (IntKind.wrap .i64 (l393.2.2.1.words - l393.1)) (((IntKind.wrap .i64 (l393.2.2.1.addr + (IntKind.wrap .i64 ((2 : Int) * l393.1))))).tmod (65536 : Int)) (((IntKind.wrap .i64 (l393.2.2.1.start + (1 : Int)))).tmod (65536 : Int)) (8 : Int), l393.2.1, l393.2.2.2.2))))))
 .fail)
 (.ite (decide ((65536 : Int) = 0))
 .fail
 (.ite (decide ((65536 : Int) = 0))
 .fail
 (.ite (decide ((IntKind.wrap .i64 (x0.words - (64 : Int))) = (0 : Int)))
 (.leaf ((Disk.mk r390.1 x0.enable true x0.error x0.command (IntKind.wrap .i64 (x0.words - (64 : Int))) (((IntKind.wrap .i64 (x0.addr + (IntKind.wrap .i64 ((2 : Int) * (64 : Int)))))).tmod (65536 : Int)) (((IntKind.wrap .i64 (x0.start + (1 : Int)))).tmod (65536 : Int)) (IntKind.wrap .i64 (x0.left - (1 : Int))), x1, x2)))
 (.leaf ((Disk.mk r390.1 x0.enable x0.ready x0.error x0.command (IntKind.wrap .i64 (x0.words - (64 : Int))) (((IntKind.wrap .i64 (x0.addr + (IntKind.wrap .i64 ((2 : Int) * (64 : Int)))))).tmod (65536 : Int)) (((IntKind.wrap .i64 (x0.start + (1 : Int)))).tmod (65536 : Int)) (8 : Int), x1, x2))))))))
 (.ite (decide (x0.command = (1 : Int)))
 (.ite (decide ((([] : List Int).length + x1.length) * 8 ≤ 140737488355328))
 (.opt ((List Int) × Int × (List Int) × Disk × Disk) (zq q (zp.mk x2 (64 : Int) r336.1 (0 : Int) (([] : List Int) ++ x1) (Disk.mk x0.drive x0.enable x0.ready x0.error x0.command x0.words x0.addr x0.start (IntKind.wrap .i64 (x0.left - (1 : Int)))) (Disk.mk (Drive.mk ([]) ([])) false false false 0 0 0 0 0))) fun l394 =>
 .opt (Int × (List Int) × Disk × Disk × (List Int)) (zr q (zo.mk l394.1 l394.2.1 (0 : Int) l394.2.2.1 l394.2.2.2.1 l394.2.2.2.2 ([]))) fun l395 =>
 .ite (decide ((65536 : Int) = 0))
 .fail
 (.ite (decide ((65536 : Int) = 0))
 .fail
 (.ite (decide ((IntKind.wrap .i64 (l395.2.2.1.words - l395.1)) = (0 : Int)))
 (.leaf ((Disk.mk l395.2.2.1.drive l395.2.2.1.enable true l395.2.2.1.error l395.2.2.1.command (IntKind.wrap .i64 (l395.2.2.1.words - l395.1)) (((IntKind.wrap .i64 (l395.2.2.1.addr + (IntKind.wrap .i64 ((2 : Int) * l395.1))))).tmod (65536 : Int)) (((IntKind.wrap .i64 (l395.2.2.1.start + (1 : Int)))).tmod (65536 : Int)) l395.2.2.1.left, l395.2.1, l395.2.2.2.2)))
 (.leaf ((Disk.mk l395.2.2.1.drive l395.2.2.1.enable l395.2.2.1.ready l395.2.2.1.error l395.2.2.1.command (IntKind.wrap .i64 (l395.2.2.1.words - l395.1)) (((IntKind.wrap .i64 (l395.2.2.1.addr + (IntKind.wrap .i64 ((2 : Int) * l395.1))))).tmod (65536 : Int)) (((IntKind.wrap .i64 (l395.2.2.1.start + (1 : Int)))).tmod (65536 : Int)) (8 : Int), l395.2.1, l395.2.2.2.2))))))
 .fail)
 (.ite (decide ((65536 : Int) = 0))
 .fail
 (.ite (decide ((65536 : Int) = 0))
 .fail
 (.ite (decide ((IntKind.wrap .i64 (x0.words - (64 : Int))) = (0 : Int)))
 (.leaf ((Disk.mk x0.drive x0.enable true x0.error x0.command (IntKind.wrap .i64 (x0.words - (64 : Int))) (((IntKind.wrap .i64 (x0.addr + (IntKind.wrap .i64 ((2 : Int) * (64 : Int)))))).tmod (65536 : Int)) (((IntKind.wrap .i64 (x0.start + (1 : Int)))).tmod (65536 : Int)) (IntKind.wrap .i64 (x0.left - (1 : Int))), x1, x2)))
 (.leaf ((Disk.mk x0.drive x0.enable x0.ready x0.error x0.command (IntKind.wrap .i64 (x0.words - (64 : Int))) (((IntKind.wrap .i64 (x0.addr + (IntKind.wrap .i64 ((2 : Int) * (64 : Int)))))).tmod (65536 : Int)) (((IntKind.wrap .i64 (x0.start + (1 : Int)))).tmod (65536 : Int)) (8 : Int), x1, x2))))))))))
 (.ite (decide (x0.command = (3 : Int)))
 (.opt Bool (z36 q x1 x0.addr (64 : Int) r336.1) fun r396 =>
 .ite (r396)
 (.opt Disk (zz (Disk.mk x0.drive x0.enable x0.ready x0.error x0.command x0.words x0.addr x0.start (IntKind.wrap .i64 (x0.left - (1 : Int))))) fun r397 =>
 .leaf ((r397, x1, x2)))
 (.ite (decide (x0.command = (2 : Int)))
 (.opt (List UInt8) (z1u q x1 x0.addr (64 : Int)) fun r398 =>
 .opt (Drive × Int) (z1z q x0.drive x0.start r398) fun r399 =>
 .ite (!decide (r399.2 = (0 : Int)))
 (.opt Disk (zz (Disk.mk x0.drive x0.enable x0.ready x0.error x0.command x0.words x0.addr x0.start (IntKind.wrap .i64 (x0.left - (1 : Int))))) fun r400 =>
 .leaf ((r400, x1, x2)))
 (.ite (decide (x0.command = (1 : Int)))
 (.ite (decide ((([] : List Int).length + x1.length) * 8 ≤ 140737488355328))
 (.opt ((List Int) × Int × (List Int) × Disk × Disk) (zq q (zp.mk x2 (64 : Int) r336.1 (0 : Int) (([] : List Int) ++ x1) (Disk.mk r399.1 x0.enable x0.ready x0.error x0.command x0.words x0.addr x0.start (IntKind.wrap .i64 (x0.left - (1 : Int)))) (Disk.mk (Drive.mk ([]) ([])) false false false 0 0 0 0 0))) fun l401 =>
 .opt (Int × (List Int) × Disk × Disk × (List Int)) (zr q (zo.mk l401.1 l401.2.1 (0 : Int) l401.2.2.1 l401.2.2.2.1 l401.2.2.2.2 ([]))) fun l402 =>
 .ite (decide ((65536 : Int) = 0))
 .fail
 (.ite (decide ((65536 : Int) = 0))
 .fail
 (.ite (decide ((IntKind.wrap .i64 (l402.2.2.1.words - l402.1)) = (0 : Int)))
 (.leaf ((Disk.mk l402.2.2.1.drive l402.2.2.1.enable true l402.2.2.1.error l402.2.2.1.command (IntKind.wrap .i64 (l402.2.2.1.words - l402.1)) (((IntKind.wrap .i64 (l402.2.2.1.addr + (IntKind.wrap .i64 ((2 : Int) * l402.1))))).tmod (65536 : Int)) (((IntKind.wrap .i64 (l402.2.2.1.start + (1 : Int)))).tmod (65536 : Int)) l402.2.2.1.left, l402.2.1, l402.2.2.2.2)))
 (.leaf ((Disk.mk l402.2.2.1.drive l402.2.2.1.enable l402.2.2.1.ready l402.2.2.1.error l402.2.2.1.command (IntKind.wrap .i64 (l402.2.2.1.words - l402.1)) (((IntKind.wrap .i64 (l402.2.2.1.addr + (IntKind.wrap .i64 ((2 : Int) * l402.1))))).tmod (65536 : Int)) (((IntKind.wrap .i64 (l402.2.2.1.start + (1 : Int)))).tmod (65536 : Int)) (8 : Int), l402.2.1, l402.2.2.2.2))))))
 .fail)
 (.ite (decide ((65536 : Int) = 0))
 .fail
 (.ite (decide ((65536 : Int) = 0))
 .fail
 (.ite (decide ((IntKind.wrap .i64 (x0.words - (64 : Int))) = (0 : Int)))
 (.leaf ((Disk.mk r399.1 x0.enable true x0.error x0.command (IntKind.wrap .i64 (x0.words - (64 : Int))) (((IntKind.wrap .i64 (x0.addr + (IntKind.wrap .i64 ((2 : Int) * (64 : Int)))))).tmod (65536 : Int)) (((IntKind.wrap .i64 (x0.start + (1 : Int)))).tmod (65536 : Int)) (IntKind.wrap .i64 (x0.left - (1 : Int))), x1, x2)))
 (.leaf ((Disk.mk r399.1 x0.enable x0.ready x0.error x0.command (IntKind.wrap .i64 (x0.words - (64 : Int))) (((IntKind.wrap .i64 (x0.addr + (IntKind.wrap .i64 ((2 : Int) * (64 : Int)))))).tmod (65536 : Int)) (((IntKind.wrap .i64 (x0.start + (1 : Int)))).tmod (65536 : Int)) (8 : Int), x1, x2))))))))
 (.ite (decide (x0.command = (1 : Int)))
 (.ite (decide ((([] : List Int).length + x1.length) * 8 ≤ 140737488355328))
 (.opt ((List Int) × Int × (List Int) × Disk × Disk) (zq q (zp.mk x2 (64 : Int) r336.1 (0 : Int) (([] : List Int) ++ x1) (Disk.mk x0.drive x0.enable x0.ready x0.error x0.command x0.words x0.addr x0.start (IntKind.wrap .i64 (x0.left - (1 : Int)))) (Disk.mk (Drive.mk ([]) ([])) false false false 0 0 0 0 0))) fun l403 =>
 .opt (Int × (List Int) × Disk × Disk × (List Int)) (zr q (zo.mk l403.1 l403.2.1 (0 : Int) l403.2.2.1 l403.2.2.2.1 l403.2.2.2.2 ([]))) fun l404 =>
 .ite (decide ((65536 : Int) = 0))
 .fail
 (.ite (decide ((65536 : Int) = 0))
 .fail
 (.ite (decide ((IntKind.wrap .i64 (l404.2.2.1.words - l404.1)) = (0 : Int)))
 (.leaf ((Disk.mk l404.2.2.1.drive l404.2.2.1.enable true l404.2.2.1.error l404.2.2.1.command (IntKind.wrap .i64 (l404.2.2.1.words - l404.1)) (((IntKind.wrap .i64 (l404.2.2.1.addr + (IntKind.wrap .i64 ((2 : Int) * l404.1))))).tmod (65536 : Int)) (((IntKind.wrap .i64 (l404.2.2.1.start + (1 : Int)))).tmod (65536 : Int)) l404.2.2.1.left, l404.2.1, l404.2.2.2.2)))
 (.leaf ((Disk.mk l404.2.2.1.drive l404.2.2.1.enable l404.2.2.1.ready l404.2.2.1.error l404.2.2.1.command (IntKind.wrap .i64 (l404.2.2.1.words - l404.1)) (((IntKind.wrap .i64 (l404.2.2.1.addr + (IntKind.wrap .i64 ((2 : Int) * l404.1))))).tmod (65536 : Int)) (((IntKind.wrap .i64 (l404.2.2.1.start + (1 : Int)))).tmod (65536 : Int)) (8 : Int), l404.2.1, l404.2.2.2.2))))))
 .fail)
 (.ite (decide ((65536 : Int) = 0))
 .fail
 (.ite (decide ((65536 : Int) = 0))
 .fail
 (.ite (decide ((IntKind.wrap .i64 (x0.words - (64 : Int))) = (0 : Int)))
 (.leaf ((Disk.mk x0.drive x0.enable true x0.error x0.command (IntKind.wrap .i64 (x0.words - (64 : Int))) (((IntKind.wrap .i64 (x0.addr + (IntKind.wrap .i64 ((2 : Int) * (64 : Int)))))).tmod (65536 : Int)) (((IntKind.wrap .i64 (x0.start + (1 : Int)))).tmod (65536 : Int)) (IntKind.wrap .i64 (x0.left - (1 : Int))), x1, x2)))
 (.leaf ((Disk.mk x0.drive x0.enable x0.ready x0.error x0.command (IntKind.wrap .i64 (x0.words - (64 : Int))) (((IntKind.wrap .i64 (x0.addr + (IntKind.wrap .i64 ((2 : Int) * (64 : Int)))))).tmod (65536 : Int)) (((IntKind.wrap .i64 (x0.start + (1 : Int)))).tmod (65536 : Int)) (8 : Int), x1, x2)))))))))
 (.ite (decide (x0.command = (2 : Int)))
 (.opt (List UInt8) (z1u q x1 x0.addr (64 : Int)) fun r405 =>
 .opt (Drive × Int) (z1z q x0.drive x0.start r405) fun r406 =>
 .ite (!decide (r406.2 = (0 : Int)))
 (.opt Disk (zz (Disk.mk x0.drive x0.enable x0.ready x0.error x0.command x0.words x0.addr x0.start (IntKind.wrap .i64 (x0.left - (1 : Int))))) fun r407 =>
 .leaf ((r407, x1, x2)))
 (.ite (decide (x0.command = (1 : Int)))
 (.ite (decide ((([] : List Int).length + x1.length) * 8 ≤ 140737488355328))
 (.opt ((List Int) × Int × (List Int) × Disk × Disk) (zq q (zp.mk x2 (64 : Int) r336.1 (0 : Int) (([] : List Int) ++ x1) (Disk.mk r406.1 x0.enable x0.ready x0.error x0.command x0.words x0.addr x0.start (IntKind.wrap .i64 (x0.left - (1 : Int)))) (Disk.mk (Drive.mk ([]) ([])) false false false 0 0 0 0 0))) fun l408 =>
 .opt (Int × (List Int) × Disk × Disk × (List Int)) (zr q (zo.mk l408.1 l408.2.1 (0 : Int) l408.2.2.1 l408.2.2.2.1 l408.2.2.2.2 ([]))) fun l409 =>
 .ite (decide ((65536 : Int) = 0))
 .fail
 (.ite (decide ((65536 : Int) = 0))
 .fail
 (.ite (decide ((IntKind.wrap .i64 (l409.2.2.1.words - l409.1)) = (0 : Int)))
 (.leaf ((Disk.mk l409.2.2.1.drive l409.2.2.1.enable true l409.2.2.1.error l409.2.2.1.command (IntKind.wrap .i64 (l409.2.2.1.words - l409.1)) (((IntKind.wrap .i64 (l409.2.2.1.addr + (IntKind.wrap .i64 ((2 : Int) * l409.1))))).tmod (65536 : Int)) (((IntKind.wrap .i64 (l409.2.2.1.start + (1 : Int)))).tmod (65536 : Int)) l409.2.2.1.left, l409.2.1, l409.2.2.2.2)))
 (.leaf ((Disk.mk l409.2.2.1.drive l409.2.2.1.enable l409.2.2.1.ready l409.2.2.1.error l409.2.2.1.command (IntKind.wrap .i64 (l409.2.2.1.words - l409.1)) (((IntKind.wrap .i64 (l409.2.2.1.addr + (IntKind.wrap .i64 ((2 : Int) * l409.1))))).tmod (65536 : Int)) (((IntKind.wrap .i64 (l409.2.2.1.start + (1 : Int)))).tmod (65536 : Int)) (8 : Int), l409.2.1, l409.2.2.2.2))))))
 .fail)
 (.ite (decide ((65536 : Int) = 0))
 .fail
 (.ite (decide ((65536 : Int) = 0))
 .fail
 (.ite (decide ((IntKind.wrap .i64 (x0.words - (64 : Int))) = (0 : Int)))
 (.leaf ((Disk.mk r406.1 x0.enable true x0.error x0.command (IntKind.wrap .i64 (x0.words - (64 : Int))) (((IntKind.wrap .i64 (x0.addr + (IntKind.wrap .i64 ((2 : Int) * (64 : Int)))))).tmod (65536 : Int)) (((IntKind.wrap .i64 (x0.start + (1 : Int)))).tmod (65536 : Int)) (IntKind.wrap .i64 (x0.left - (1 : Int))), x1, x2)))
 (.leaf ((Disk.mk r406.1 x0.enable x0.ready x0.error x0.command (IntKind.wrap .i64 (x0.words - (64 : Int))) (((IntKind.wrap .i64 (x0.addr + (IntKind.wrap .i64 ((2 : Int) * (64 : Int)))))).tmod (65536 : Int)) (((IntKind.wrap .i64 (x0.start + (1 : Int)))).tmod (65536 : Int)) (8 : Int), x1, x2))))))))
 (.ite (decide (x0.command = (1 : Int)))
 (.ite (decide ((([] : List Int).length + x1.length) * 8 ≤ 140737488355328))
 (.opt ((List Int) × Int × (List Int) × Disk × Disk) (zq q (zp.mk x2 (64 : Int) r336.1 (0 : Int) (([] : List Int) ++ x1) (Disk.mk x0.drive x0.enable x0.ready x0.error x0.command x0.words x0.addr x0.start (IntKind.wrap .i64 (x0.left - (1 : Int)))) (Disk.mk (Drive.mk ([]) ([])) false false false 0 0 0 0 0))) fun l410 =>
 .opt (Int × (List Int) × Disk × Disk × (List Int)) (zr q (zo.mk l410.1 l410.2.1 (0 : Int) l410.2.2.1 l410.2.2.2.1 l410.2.2.2.2 ([]))) fun l411 =>
 .ite (decide ((65536 : Int) = 0))
 .fail
 (.ite (decide ((65536 : Int) = 0))
 .fail
 (.ite (decide ((IntKind.wrap .i64 (l411.2.2.1.words - l411.1)) = (0 : Int)))
 (.leaf ((Disk.mk l411.2.2.1.drive l411.2.2.1.enable true l411.2.2.1.error l411.2.2.1.command (IntKind.wrap .i64 (l411.2.2.1.words - l411.1)) (((IntKind.wrap .i64 (l411.2.2.1.addr + (IntKind.wrap .i64 ((2 : Int) * l411.1))))).tmod (65536 : Int)) (((IntKind.wrap .i64 (l411.2.2.1.start + (1 : Int)))).tmod (65536 : Int)) l411.2.2.1.left, l411.2.1, l411.2.2.2.2)))
 (.leaf ((Disk.mk l411.2.2.1.drive l411.2.2.1.enable l411.2.2.1.ready l411.2.2.1.error l411.2.2.1.command (IntKind.wrap .i64 (l411.2.2.1.words - l411.1)) (((IntKind.wrap .i64 (l411.2.2.1.addr + (IntKind.wrap .i64 ((2 : Int) * l411.1))))).tmod (65536 : Int)) (((IntKind.wrap .i64 (l411.2.2.1.start + (1 : Int)))).tmod (65536 : Int)) (8 : Int), l411.2.1, l411.2.2.2.2))))))
 .fail)
 (.ite (decide ((65536 : Int) = 0))
 .fail
 (.ite (decide ((65536 : Int) = 0))
 .fail
 (.ite (decide ((IntKind.wrap .i64 (x0.words - (64 : Int))) = (0 : Int)))
 (.leaf ((Disk.mk x0.drive x0.enable true x0.error x0.command (IntKind.wrap .i64 (x0.words - (64 : Int))) (((IntKind.wrap .i64 (x0.addr + (IntKind.wrap .i64 ((2 : Int) * (64 : Int)))))).tmod (65536 : Int)) (((IntKind.wrap .i64 (x0.start + (1 : Int)))).tmod (65536 : Int)) (IntKind.wrap .i64 (x0.left - (1 : Int))), x1, x2)))
 (.leaf ((Disk.mk x0.drive x0.enable x0.ready x0.error x0.command (IntKind.wrap .i64 (x0.words - (64 : Int))) (((IntKind.wrap .i64 (x0.addr + (IntKind.wrap .i64 ((2 : Int) * (64 : Int)))))).tmod (65536 : Int)) (((IntKind.wrap .i64 (x0.start + (1 : Int)))).tmod (65536 : Int)) (8 : Int), x1, x2))))))))))))
 (.ite (decide ((IntKind.wrap .i64 ((2 : Int) * (x1.length : Int))) < (IntKind.wrap .i64 (x0.addr + (IntKind.wrap .i64 ((2 : Int) * x0.words))))))
 (.opt Disk (zz (Disk.mk x0.drive x0.enable x0.ready x0.error x0.command x0.words x0.addr x0.start (IntKind.wrap .i64 (x0.left - (1 : Int))))) fun r412 =>
 .leaf ((r412, x1, x2)))
 (.opt ((List UInt8) × Int) (zjo q x0.drive x0.start) fun r413 =>
 .ite (!decide (x0.command = (2 : Int)))
 (.ite (!decide (r413.2 = (0 : Int)))
 (.opt Disk (zz (Disk.mk x0.drive x0.enable x0.ready x0.error x0.command x0.words x0.addr x0.start (IntKind.wrap .i64 (x0.left - (1 : Int))))) fun r414 =>
 .leaf ((r414, x1, x2)))
 (.ite (!decide (x0.command = (1 : Int)))
 (.opt Bool (z7q q x2 x0.addr x0.words) fun r415 =>
 .ite (r415)
 (.opt Disk (zz (Disk.mk x0.drive x0.enable x0.ready x0.error x0.command x0.words x0.addr x0.start (IntKind.wrap .i64 (x0.left - (1 : Int))))) fun r416 =>
 .leaf ((r416, x1, x2)))
 (.ite (decide (x0.command = (3 : Int)))
 (.opt Bool (z36 q x1 x0.addr x0.words r413.1) fun r417 =>
 .ite (r417)
 (.opt Disk (zz (Disk.mk x0.drive x0.enable x0.ready x0.error x0.command x0.words x0.addr x0.start (IntKind.wrap .i64 (x0.left - (1 : Int))))) fun r418 =>
 .leaf ((r418, x1, x2)))
 (.ite (decide (x0.command = (2 : Int)))
 (.opt (List UInt8) (z1u q x1 x0.addr x0.words) fun r419 =>
 .opt (Drive × Int) (z1z q x0.drive x0.start r419) fun r420 =>
 .ite (!decide (r420.2 = (0 : Int)))
 (.opt Disk (zz (Disk.mk x0.drive x0.enable x0.ready x0.error x0.command x0.words x0.addr x0.start (IntKind.wrap .i64 (x0.left - (1 : Int))))) fun r421 =>
 .leaf ((r421, x1, x2)))
 (.ite (decide (x0.command = (1 : Int)))
 (.ite (decide ((([] : List Int).length + x1.length) * 8 ≤ 140737488355328))
 (.opt ((List Int) × Int × (List Int) × Disk × Disk) (zq q (zp.mk x2 x0.words r413.1 (0 : Int) (([] : List Int) ++ x1) (Disk.mk r420.1 x0.enable x0.ready x0.error x0.command x0.words x0.addr x0.start (IntKind.wrap .i64 (x0.left - (1 : Int)))) (Disk.mk (Drive.mk ([]) ([])) false false false 0 0 0 0 0))) fun l422 =>
 .opt (Int × (List Int) × Disk × Disk × (List Int)) (zr q (zo.mk l422.1 l422.2.1 (0 : Int) l422.2.2.1 l422.2.2.2.1 l422.2.2.2.2 ([]))) fun l423 =>
 .ite (decide ((65536 : Int) = 0))
 .fail
 (.ite (decide ((65536 : Int) = 0))
 .fail
 (.ite (decide ((IntKind.wrap .i64 (l423.2.2.1.words - l423.1)) = (0 : Int)))
 (.leaf ((Disk.mk l423.2.2.1.drive l423.2.2.1.enable true l423.2.2.1.error l423.2.2.1.command (IntKind.wrap .i64 (l423.2.2.1.words - l423.1)) (((IntKind.wrap .i64 (l423.2.2.1.addr + (IntKind.wrap .i64 ((2 : Int) * l423.1))))).tmod (65536 : Int)) (((IntKind.wrap .i64 (l423.2.2.1.start + (1 : Int)))).tmod (65536 : Int)) l423.2.2.1.left, l423.2.1, l423.2.2.2.2)))
 (.leaf ((Disk.mk l423.2.2.1.drive l423.2.2.1.enable l423.2.2.1.ready l423.2.2.1.error l423.2.2.1.command (IntKind.wrap .i64 (l423.2.2.1.words - l423.1)) (((IntKind.wrap .i64 (l423.2.2.1.addr + (IntKind.wrap .i64 ((2 : Int) * l423.1))))).tmod (65536 : Int)) (((IntKind.wrap .i64 (l423.2.2.1.start + (1 : Int)))).tmod (65536 : Int)) (8 : Int), l423.2.1, l423.2.2.2.2))))))
 .fail)
 (.ite (decide ((65536 : Int) = 0))
 .fail
 (.ite (decide ((65536 : Int) = 0))
 .fail
 (.ite (decide ((IntKind.wrap .i64 (x0.words - x0.words)) = (0 : Int)))
 (.leaf ((Disk.mk r420.1 x0.enable true x0.error x0.command (IntKind.wrap .i64 (x0.words - x0.words)) (((IntKind.wrap .i64 (x0.addr + (IntKind.wrap .i64 ((2 : Int) * x0.words))))).tmod (65536 : Int)) (((IntKind.wrap .i64 (x0.start + (1 : Int)))).tmod (65536 : Int)) (IntKind.wrap .i64 (x0.left - (1 : Int))), x1, x2)))
 (.leaf ((Disk.mk r420.1 x0.enable x0.ready x0.error x0.command (IntKind.wrap .i64 (x0.words - x0.words)) (((IntKind.wrap .i64 (x0.addr + (IntKind.wrap .i64 ((2 : Int) * x0.words))))).tmod (65536 : Int)) (((IntKind.wrap .i64 (x0.start + (1 : Int)))).tmod (65536 : Int)) (8 : Int), x1, x2))))))))
 (.ite (decide (x0.command = (1 : Int)))
 (.ite (decide ((([] : List Int).length + x1.length) * 8 ≤ 140737488355328))
 (.opt ((List Int) × Int × (List Int) × Disk × Disk) (zq q (zp.mk x2 x0.words r413.1 (0 : Int) (([] : List Int) ++ x1) (Disk.mk x0.drive x0.enable x0.ready x0.error x0.command x0.words x0.addr x0.start (IntKind.wrap .i64 (x0.left - (1 : Int)))) (Disk.mk (Drive.mk ([]) ([])) false false false 0 0 0 0 0))) fun l424 =>
 .opt (Int × (List Int) × Disk × Disk × (List Int)) (zr q (zo.mk l424.1 l424.2.1 (0 : Int) l424.2.2.1 l424.2.2.2.1 l424.2.2.2.2 ([]))) fun l425 =>
 .ite (decide ((65536 : Int) = 0))
 .fail
 (.ite (decide ((65536 : Int) = 0))
 .fail
 (.ite (decide ((IntKind.wrap .i64 (l425.2.2.1.words - l425.1)) = (0 : Int)))
 (.leaf ((Disk.mk l425.2.2.1.drive l425.2.2.1.enable true l425.2.2.1.error l425.2.2.1.command (IntKind.wrap .i64 (l425.2.2.1.words - l425.1)) (((IntKind.wrap .i64 (l425.2.2.1.addr + (IntKind.wrap .i64 ((2 : Int) * l425.1))))).tmod (65536 : Int)) (((IntKind.wrap .i64 (l425.2.2.1.start + (1 : Int)))).tmod (65536 : Int)) l425.2.2.1.left, l425.2.1, l425.2.2.2.2)))
 (.leaf ((Disk.mk l425.2.2.1.drive l425.2.2.1.enable l425.2.2.1.ready l425.2.2.1.error l425.2.2.1.command (IntKind.wrap .i64 (l425.2.2.1.words - l425.1)) (((IntKind.wrap .i64 (l425.2.2.1.addr + (IntKind.wrap .i64 ((2 : Int) * l425.1))))).tmod (65536 : Int)) (((IntKind.wrap .i64 (l425.2.2.1.start + (1 : Int)))).tmod (65536 : Int)) (8 : Int), l425.2.1, l425.2.2.2.2))))))
 .fail)
 (.ite (decide ((65536 : Int) = 0))
 .fail
 (.ite (decide ((65536 : Int) = 0))
 .fail
 (.ite (decide ((IntKind.wrap .i64 (x0.words - x0.words)) = (0 : Int)))
 (.leaf ((Disk.mk x0.drive x0.enable true x0.error x0.command (IntKind.wrap .i64 (x0.words - x0.words)) (((IntKind.wrap .i64 (x0.addr + (IntKind.wrap .i64 ((2 : Int) * x0.words))))).tmod (65536 : Int)) (((IntKind.wrap .i64 (x0.start + (1 : Int)))).tmod (65536 : Int)) (IntKind.wrap .i64 (x0.left - (1 : Int))), x1, x2)))
 (.leaf ((Disk.mk x0.drive x0.enable x0.ready x0.error x0.command (IntKind.wrap .i64 (x0.words - x0.words)) (((IntKind.wrap .i64 (x0.addr + (IntKind.wrap .i64 ((2 : Int) * x0.words))))).tmod (65536 : Int)) (((IntKind.wrap .i64 (x0.start + (1 : Int)))).tmod (65536 : Int)) (8 : Int), x1, x2)))))))))
 (.ite (decide (x0.command = (2 : Int)))
 (.opt (List UInt8) (z1u q x1 x0.addr x0.words) fun r426 =>
 .opt (Drive × Int) (z1z q x0.drive x0.start r426) fun r427 =>
 .ite (!decide (r427.2 = (0 : Int)))
 (.opt Disk (zz (Disk.mk x0.drive x0.enable x0.ready x0.error x0.command x0.words x0.addr x0.start (IntKind.wrap .i64 (x0.left - (1 : Int))))) fun r428 =>
 .leaf ((r428, x1, x2)))
 (.ite (decide (x0.command = (1 : Int)))
 (.ite (decide ((([] : List Int).length + x1.length) * 8 ≤ 140737488355328))
 (.opt ((List Int) × Int × (List Int) × Disk × Disk) (zq q (zp.mk x2 x0.words r413.1 (0 : Int) (([] : List Int) ++ x1) (Disk.mk r427.1 x0.enable x0.ready x0.error x0.command x0.words x0.addr x0.start (IntKind.wrap .i64 (x0.left - (1 : Int)))) (Disk.mk (Drive.mk ([]) ([])) false false false 0 0 0 0 0))) fun l429 =>
 .opt (Int × (List Int) × Disk × Disk × (List Int)) (zr q (zo.mk l429.1 l429.2.1 (0 : Int) l429.2.2.1 l429.2.2.2.1 l429.2.2.2.2 ([]))) fun l430 =>
 .ite (decide ((65536 : Int) = 0))
 .fail
 (.ite (decide ((65536 : Int) = 0))
 .fail
 (.ite (decide ((IntKind.wrap .i64 (l430.2.2.1.words - l430.1)) = (0 : Int)))
 (.leaf ((Disk.mk l430.2.2.1.drive l430.2.2.1.enable true l430.2.2.1.error l430.2.2.1.command (IntKind.wrap .i64 (l430.2.2.1.words - l430.1)) (((IntKind.wrap .i64 (l430.2.2.1.addr + (IntKind.wrap .i64 ((2 : Int) * l430.1))))).tmod (65536 : Int)) (((IntKind.wrap .i64 (l430.2.2.1.start + (1 : Int)))).tmod (65536 : Int)) l430.2.2.1.left, l430.2.1, l430.2.2.2.2)))
 (.leaf ((Disk.mk l430.2.2.1.drive l430.2.2.1.enable l430.2.2.1.ready l430.2.2.1.error l430.2.2.1.command (IntKind.wrap .i64 (l430.2.2.1.words - l430.1)) (((IntKind.wrap .i64 (l430.2.2.1.addr + (IntKind.wrap .i64 ((2 : Int) * l430.1))))).tmod (65536 : Int)) (((IntKind.wrap .i64 (l430.2.2.1.start + (1 : Int)))).tmod (65536 : Int)) (8 : Int), l430.2.1, l430.2.2.2.2))))))
 .fail)
 (.ite (decide ((65536 : Int) = 0))
 .fail
 (.ite (decide ((65536 : Int) = 0))
 .fail
 (.ite (decide ((IntKind.wrap .i64 (x0.words - x0.words)) = (0 : Int)))
 (.leaf ((Disk.mk r427.1 x0.enable true x0.error x0.command (IntKind.wrap .i64 (x0.words - x0.words)) (((IntKind.wrap .i64 (x0.addr + (IntKind.wrap .i64 ((2 : Int) * x0.words))))).tmod (65536 : Int)) (((IntKind.wrap .i64 (x0.start + (1 : Int)))).tmod (65536 : Int)) (IntKind.wrap .i64 (x0.left - (1 : Int))), x1, x2)))
 (.leaf ((Disk.mk r427.1 x0.enable x0.ready x0.error x0.command (IntKind.wrap .i64 (x0.words - x0.words)) (((IntKind.wrap .i64 (x0.addr + (IntKind.wrap .i64 ((2 : Int) * x0.words))))).tmod (65536 : Int)) (((IntKind.wrap .i64 (x0.start + (1 : Int)))).tmod (65536 : Int)) (8 : Int), x1, x2))))))))
 (.ite (decide (x0.command = (1 : Int)))
 (.ite (decide ((([] : List Int).length + x1.length) * 8 ≤ 140737488355328))
 (.opt ((List Int) × Int × (List Int) × Disk × Disk) (zq q (zp.mk x2 x0.words r413.1 (0 : Int) (([] : List Int) ++ x1) (Disk.mk x0.drive x0.enable x0.ready x0.error x0.command x0.words x0.addr x0.start (IntKind.wrap .i64 (x0.left - (1 : Int)))) (Disk.mk (Drive.mk ([]) ([])) false false false 0 0 0 0 0))) fun l431 =>
 .opt (Int × (List Int) × Disk × Disk × (List Int)) (zr q (zo.mk l431.1 l431.2.1 (0 : Int) l431.2.2.1 l431.2.2.2.1 l431.2.2.2.2 ([]))) fun l432 =>
 .ite (decide ((65536 : Int) = 0))
 .fail
 (.ite (decide ((65536 : Int) = 0))
 .fail
 (.ite (decide ((IntKind.wrap .i64 (l432.2.2.1.words - l432.1)) = (0 : Int)))
 (.leaf ((Disk.mk l432.2.2.1.drive l432.2.2.1.enable true l432.2.2.1.error l432.2.2.1.command (IntKind.wrap .i64 (l432.2.2.1.words - l432.1)) (((IntKind.wrap .i64 (l432.2.2.1.addr + (IntKind.wrap .i64 ((2 : Int) * l432.1))))).tmod (65536 : Int)) (((IntKind.wrap .i64 (l432.2.2.1.start + (1 : Int)))).tmod (65536 : Int)) l432.2.2.1.left, l432.2.1, l432.2.2.2.2)))
 (.leaf ((Disk.mk l432.2.2.1.drive l432.2.2.1.enable l432.2.2.1.ready l432.2.2.1.error l432.2.2.1.command (IntKind.wrap .i64 (l432.2.2.1.words - l432.1)) (((IntKind.wrap .i64 (l432.2.2.1.addr + (IntKind.wrap .i64 ((2 : Int) * l432.1))))).tmod (65536 : Int)) (((IntKind.wrap .i64 (l432.2.2.1.start + (1 : Int)))).tmod (65536 : Int)) (8 : Int), l432.2.1, l432.2.2.2.2))))))
 .fail)
 (.ite (decide ((65536 : Int) = 0))
 .fail
 (.ite (decide ((65536 : Int) = 0))
 .fail
 (.ite (decide ((IntKind.wrap .i64 (x0.words - x0.words)) = (0 : Int)))
 (.leaf ((Disk.mk x0.drive x0.enable true x0.error x0.command (IntKind.wrap .i64 (x0.words - x0.words)) (((IntKind.wrap .i64 (x0.addr + (IntKind.wrap .i64 ((2 : Int) * x0.words))))).tmod (65536 : Int)) (((IntKind.wrap .i64 (x0.start + (1 : Int)))).tmod (65536 : Int)) (IntKind.wrap .i64 (x0.left - (1 : Int))), x1, x2)))
 (.leaf ((Disk.mk x0.drive x0.enable x0.ready x0.error x0.command (IntKind.wrap .i64 (x0.words - x0.words)) (((IntKind.wrap .i64 (x0.addr + (IntKind.wrap .i64 ((2 : Int) * x0.words))))).tmod (65536 : Int)) (((IntKind.wrap .i64 (x0.start + (1 : Int)))).tmod (65536 : Int)) (8 : Int), x1, x2))))))))))
 (.ite (decide (x0.command = (3 : Int)))
 (.opt Bool (z36 q x1 x0.addr x0.words r413.1) fun r433 =>
 .ite (r433)
 (.opt Disk (zz (Disk.mk x0.drive x0.enable x0.ready x0.error x0.command x0.words x0.addr x0.start (IntKind.wrap .i64 (x0.left - (1 : Int))))) fun r434 =>
 .leaf ((r434, x1, x2)))
 (.ite (decide (x0.command = (2 : Int)))
 (.opt (List UInt8) (z1u q x1 x0.addr x0.words) fun r435 =>
 .opt (Drive × Int) (z1z q x0.drive x0.start r435) fun r436 =>
 .ite (!decide (r436.2 = (0 : Int)))
 (.opt Disk (zz (Disk.mk x0.drive x0.enable x0.ready x0.error x0.command x0.words x0.addr x0.start (IntKind.wrap .i64 (x0.left - (1 : Int))))) fun r437 =>
 .leaf ((r437, x1, x2)))
 (.ite (decide (x0.command = (1 : Int)))
 (.ite (decide ((([] : List Int).length + x1.length) * 8 ≤ 140737488355328))
 (.opt ((List Int) × Int × (List Int) × Disk × Disk) (zq q (zp.mk x2 x0.words r413.1 (0 : Int) (([] : List Int) ++ x1) (Disk.mk r436.1 x0.enable x0.ready x0.error x0.command x0.words x0.addr x0.start (IntKind.wrap .i64 (x0.left - (1 : Int)))) (Disk.mk (Drive.mk ([]) ([])) false false false 0 0 0 0 0))) fun l438 =>
 .opt (Int × (List Int) × Disk × Disk × (List Int)) (zr q (zo.mk l438.1 l438.2.1 (0 : Int) l438.2.2.1 l438.2.2.2.1 l438.2.2.2.2 ([]))) fun l439 =>
 .ite (decide ((65536 : Int) = 0))
 .fail
 (.ite (decide ((65536 : Int) = 0))
 .fail
 (.ite (decide ((IntKind.wrap .i64 (l439.2.2.1.words - l439.1)) = (0 : Int)))
 (.leaf ((Disk.mk l439.2.2.1.drive l439.2.2.1.enable true l439.2.2.1.error l439.2.2.1.command (IntKind.wrap .i64 (l439.2.2.1.words - l439.1)) (((IntKind.wrap .i64 (l439.2.2.1.addr + (IntKind.wrap .i64 ((2 : Int) * l439.1))))).tmod (65536 : Int)) (((IntKind.wrap .i64 (l439.2.2.1.start + (1 : Int)))).tmod (65536 : Int)) l439.2.2.1.left, l439.2.1, l439.2.2.2.2)))
 (.leaf ((Disk.mk l439.2.2.1.drive l439.2.2.1.enable l439.2.2.1.ready l439.2.2.1.error l439.2.2.1.command (IntKind.wrap .i64 (l439.2.2.1.words - l439.1)) (((IntKind.wrap .i64 (l439.2.2.1.addr + (IntKind.wrap .i64 ((2 : Int) * l439.1))))).tmod (65536 : Int)) (((IntKind.wrap .i64 (l439.2.2.1.start + (1 : Int)))).tmod (65536 : Int)) (8 : Int), l439.2.1, l439.2.2.2.2))))))
 .fail)
 (.ite (decide ((65536 : Int) = 0))
 .fail
 (.ite (decide ((65536 : Int) = 0))
 .fail
 (.ite (decide ((IntKind.wrap .i64 (x0.words - x0.words)) = (0 : Int)))
 (.leaf ((Disk.mk r436.1 x0.enable true x0.error x0.command (IntKind.wrap .i64 (x0.words - x0.words)) (((IntKind.wrap .i64 (x0.addr + (IntKind.wrap .i64 ((2 : Int) * x0.words))))).tmod (65536 : Int)) (((IntKind.wrap .i64 (x0.start + (1 : Int)))).tmod (65536 : Int)) (IntKind.wrap .i64 (x0.left - (1 : Int))), x1, x2)))
 (.leaf ((Disk.mk r436.1 x0.enable x0.ready x0.error x0.command (IntKind.wrap .i64 (x0.words - x0.words)) (((IntKind.wrap .i64 (x0.addr + (IntKind.wrap .i64 ((2 : Int) * x0.words))))).tmod (65536 : Int)) (((IntKind.wrap .i64 (x0.start + (1 : Int)))).tmod (65536 : Int)) (8 : Int), x1, x2))))))))
 (.ite (decide (x0.command = (1 : Int)))
 (.ite (decide ((([] : List Int).length + x1.length) * 8 ≤ 140737488355328))
 (.opt ((List Int) × Int × (List Int) × Disk × Disk) (zq q (zp.mk x2 x0.words r413.1 (0 : Int) (([] : List Int) ++ x1) (Disk.mk x0.drive x0.enable x0.ready x0.error x0.command x0.words x0.addr x0.start (IntKind.wrap .i64 (x0.left - (1 : Int)))) (Disk.mk (Drive.mk ([]) ([])) false false false 0 0 0 0 0))) fun l440 =>
 .opt (Int × (List Int) × Disk × Disk × (List Int)) (zr q (zo.mk l440.1 l440.2.1 (0 : Int) l440.2.2.1 l440.2.2.2.1 l440.2.2.2.2 ([]))) fun l441 =>
 .ite (decide ((65536 : Int) = 0))
 .fail
 (.ite (decide ((65536 : Int) = 0))
 .fail
 (.ite (decide ((IntKind.wrap .i64 (l441.2.2.1.words - l441.1)) = (0 : Int)))
 (.leaf ((Disk.mk l441.2.2.1.drive l441.2.2.1.enable true l441.2.2.1.error l441.2.2.1.command (IntKind.wrap .i64 (l441.2.2.1.words - l441.1)) (((IntKind.wrap .i64 (l441.2.2.1.addr + (IntKind.wrap .i64 ((2 : Int) * l441.1))))).tmod (65536 : Int)) (((IntKind.wrap .i64 (l441.2.2.1.start + (1 : Int)))).tmod (65536 : Int)) l441.2.2.1.left, l441.2.1, l441.2.2.2.2)))
 (.leaf ((Disk.mk l441.2.2.1.drive l441.2.2.1.enable l441.2.2.1.ready l441.2.2.1.error l441.2.2.1.command (IntKind.wrap .i64 (l441.2.2.1.words - l441.1)) (((IntKind.wrap .i64 (l441.2.2.1.addr + (IntKind.wrap .i64 ((2 : Int) * l441.1))))).tmod (65536 : Int)) (((IntKind.wrap .i64 (l441.2.2.1.start + (1 : Int)))).tmod (65536 : Int)) (8 : Int), l441.2.1, l441.2.2.2.2))))))
 .fail)
 (.ite (decide ((65536 : Int) = 0))
 .fail
 (.ite (decide ((65536 : Int) = 0))
 .fail
 (.ite (decide ((IntKind.wrap .i64 (x0.words - x0.words)) = (0 : Int)))
 (.leaf ((Disk.mk x0.drive x0.enable true x0.error x0.command (IntKind.wrap .i64 (x0.words - x0.words)) (((IntKind.wrap .i64 (x0.addr + (IntKind.wrap .i64 ((2 : Int) * x0.words))))).tmod (65536 : Int)) (((IntKind.wrap .i64 (x0.start + (1 : Int)))).tmod (65536 : Int)) (IntKind.wrap .i64 (x0.left - (1 : Int))), x1, x2)))
 (.leaf ((Disk.mk x0.drive x0.enable x0.ready x0.error x0.command (IntKind.wrap .i64 (x0.words - x0.words)) (((IntKind.wrap .i64 (x0.addr + (IntKind.wrap .i64 ((2 : Int) * x0.words))))).tmod (65536 : Int)) (((IntKind.wrap .i64 (x0.start + (1 : Int)))).tmod (65536 : Int)) (8 : Int), x1, x2)))))))))
 (.ite (decide (x0.command = (2 : Int)))
 (.opt (List UInt8) (z1u q x1 x0.addr x0.words) fun r442 =>
 .opt (Drive × Int) (z1z q x0.drive x0.start r442) fun r443 =>
 .ite (!decide (r443.2 = (0 : Int)))
 (.opt Disk (zz (Disk.mk x0.drive x0.enable x0.ready x0.error x0.command x0.words x0.addr x0.start (IntKind.wrap .i64 (x0.left - (1 : Int))))) fun r444 =>
 .leaf ((r444, x1, x2)))
 (.ite (decide (x0.command = (1 : Int)))
 (.ite (decide ((([] : List Int).length + x1.length) * 8 ≤ 140737488355328))
 (.opt ((List Int) × Int × (List Int) × Disk × Disk) (zq q (zp.mk x2 x0.words r413.1 (0 : Int) (([] : List Int) ++ x1) (Disk.mk r443.1 x0.enable x0.ready x0.error x0.command x0.words x0.addr x0.start (IntKind.wrap .i64 (x0.left - (1 : Int)))) (Disk.mk (Drive.mk ([]) ([])) false false false 0 0 0 0 0))) fun l445 =>
 .opt (Int × (List Int) × Disk × Disk × (List Int)) (zr q (zo.mk l445.1 l445.2.1 (0 : Int) l445.2.2.1 l445.2.2.2.1 l445.2.2.2.2 ([]))) fun l446 =>
 .ite (decide ((65536 : Int) = 0))
 .fail
 (.ite (decide ((65536 : Int) = 0))
 .fail
 (.ite (decide ((IntKind.wrap .i64 (l446.2.2.1.words - l446.1)) = (0 : Int)))
 (.leaf ((Disk.mk l446.2.2.1.drive l446.2.2.1.enable true l446.2.2.1.error l446.2.2.1.command (IntKind.wrap .i64 (l446.2.2.1.words - l446.1)) (((IntKind.wrap .i64 (l446.2.2.1.addr + (IntKind.wrap .i64 ((2 : Int) * l446.1))))).tmod (65536 : Int)) (((IntKind.wrap .i64 (l446.2.2.1.start + (1 : Int)))).tmod (65536 : Int)) l446.2.2.1.left, l446.2.1, l446.2.2.2.2)))
 (.leaf ((Disk.mk l446.2.2.1.drive l446.2.2.1.enable l446.2.2.1.ready l446.2.2.1.error l446.2.2.1.command (IntKind.wrap .i64 (l446.2.2.1.words - l446.1)) (((IntKind.wrap .i64 (l446.2.2.1.addr + (IntKind.wrap .i64 ((2 : Int) * l446.1))))).tmod (65536 : Int)) (((IntKind.wrap .i64 (l446.2.2.1.start + (1 : Int)))).tmod (65536 : Int)) (8 : Int), l446.2.1, l446.2.2.2.2))))))
 .fail)
 (.ite (decide ((65536 : Int) = 0))
 .fail
 (.ite (decide ((65536 : Int) = 0))
 .fail
 (.ite (decide ((IntKind.wrap .i64 (x0.words - x0.words)) = (0 : Int)))
 (.leaf ((Disk.mk r443.1 x0.enable true x0.error x0.command (IntKind.wrap .i64 (x0.words - x0.words)) (((IntKind.wrap .i64 (x0.addr + (IntKind.wrap .i64 ((2 : Int) * x0.words))))).tmod (65536 : Int)) (((IntKind.wrap .i64 (x0.start + (1 : Int)))).tmod (65536 : Int)) (IntKind.wrap .i64 (x0.left - (1 : Int))), x1, x2)))
 (.leaf ((Disk.mk r443.1 x0.enable x0.ready x0.error x0.command (IntKind.wrap .i64 (x0.words - x0.words)) (((IntKind.wrap .i64 (x0.addr + (IntKind.wrap .i64 ((2 : Int) * x0.words))))).tmod (65536 : Int)) (((IntKind.wrap .i64 (x0.start + (1 : Int)))).tmod (65536 : Int)) (8 : Int), x1, x2))))))))
 (.ite (decide (x0.command = (1 : Int)))
 (.ite (decide ((([] : List Int).length + x1.length) * 8 ≤ 140737488355328))
 (.opt ((List Int) × Int × (List Int) × Disk × Disk) (zq q (zp.mk x2 x0.words r413.1 (0 : Int) (([] : List Int) ++ x1) (Disk.mk x0.drive x0.enable x0.ready x0.error x0.command x0.words x0.addr x0.start (IntKind.wrap .i64 (x0.left - (1 : Int)))) (Disk.mk (Drive.mk ([]) ([])) false false false 0 0 0 0 0))) fun l447 =>
 .opt (Int × (List Int) × Disk × Disk × (List Int)) (zr q (zo.mk l447.1 l447.2.1 (0 : Int) l447.2.2.1 l447.2.2.2.1 l447.2.2.2.2 ([]))) fun l448 =>
 .ite (decide ((65536 : Int) = 0))
 .fail
 (.ite (decide ((65536 : Int) = 0))
 .fail
 (.ite (decide ((IntKind.wrap .i64 (l448.2.2.1.words - l448.1)) = (0 : Int)))
 (.leaf ((Disk.mk l448.2.2.1.drive l448.2.2.1.enable true l448.2.2.1.error l448.2.2.1.command (IntKind.wrap .i64 (l448.2.2.1.words - l448.1)) (((IntKind.wrap .i64 (l448.2.2.1.addr + (IntKind.wrap .i64 ((2 : Int) * l448.1))))).tmod (65536 : Int)) (((IntKind.wrap .i64 (l448.2.2.1.start + (1 : Int)))).tmod (65536 : Int)) l448.2.2.1.left, l448.2.1, l448.2.2.2.2)))
 (.leaf ((Disk.mk l448.2.2.1.drive l448.2.2.1.enable l448.2.2.1.ready l448.2.2.1.error l448.2.2.1.command (IntKind.wrap .i64 (l448.2.2.1.words - l448.1)) (((IntKind.wrap .i64 (l448.2.2.1.addr + (IntKind.wrap .i64 ((2 : Int) * l448.1))))).tmod (65536 : Int)) (((IntKind.wrap .i64 (l448.2.2.1.start + (1 : Int)))).tmod (65536 : Int)) (8 : Int), l448.2.1, l448.2.2.2.2))))))
 .fail)
 (.ite (decide ((65536 : Int) = 0))
 .fail
 (.ite (decide ((65536 : Int) = 0))
 .fail
 (.ite (decide ((IntKind.wrap .i64 (x0.words - x0.words)) = (0 : Int)))
 (.leaf ((Disk.mk x0.drive x0.enable true x0.error x0.command (IntKind.wrap .i64 (x0.words - x0.words)) (((IntKind.wrap .i64 (x0.addr + (IntKind.wrap .i64 ((2 : Int) * x0.words))))).tmod (65536 : Int)) (((IntKind.wrap .i64 (x0.start + (1 : Int)))).tmod (65536 : Int)) (IntKind.wrap .i64 (x0.left - (1 : Int))), x1, x2)))
 (.leaf ((Disk.mk x0.drive x0.enable x0.ready x0.error x0.command (IntKind.wrap .i64 (x0.words - x0.words)) (((IntKind.wrap .i64 (x0.addr + (IntKind.wrap .i64 ((2 : Int) * x0.words))))).tmod (65536 : Int)) (((IntKind.wrap .i64 (x0.start + (1 : Int)))).tmod (65536 : Int)) (8 : Int), x1, x2)))))))))))
 (.ite (!decide (x0.command = (1 : Int)))
 (.opt Bool (z7q q x2 x0.addr x0.words) fun r449 =>
 .ite (r449)
 (.opt Disk (zz (Disk.mk x0.drive x0.enable x0.ready x0.error x0.command x0.words x0.addr x0.start (IntKind.wrap .i64 (x0.left - (1 : Int))))) fun r450 =>
 .leaf ((r450, x1, x2)))
 (.ite (decide (x0.command = (3 : Int)))
 (.opt Bool (z36 q x1 x0.addr x0.words r413.1) fun r451 =>
 .ite (r451)
 (.opt Disk (zz (Disk.mk x0.drive x0.enable x0.ready x0.error x0.command x0.words x0.addr x0.start (IntKind.wrap .i64 (x0.left - (1 : Int))))) fun r452 =>
 .leaf ((r452, x1, x2)))
 (.ite (decide (x0.command = (2 : Int)))
 (.opt (List UInt8) (z1u q x1 x0.addr x0.words) fun r453 =>
 .opt (Drive × Int) (z1z q x0.drive x0.start r453) fun r454 =>
 .ite (!decide (r454.2 = (0 : Int)))
 (.opt Disk (zz (Disk.mk x0.drive x0.enable x0.ready x0.error x0.command x0.words x0.addr x0.start (IntKind.wrap .i64 (x0.left - (1 : Int))))) fun r455 =>
 .leaf ((r455, x1, x2)))
 (.ite (decide (x0.command = (1 : Int)))
 (.ite (decide ((([] : List Int).length + x1.length) * 8 ≤ 140737488355328))
 (.opt ((List Int) × Int × (List Int) × Disk × Disk) (zq q (zp.mk x2 x0.words r413.1 (0 : Int) (([] : List Int) ++ x1) (Disk.mk r454.1 x0.enable x0.ready x0.error x0.command x0.words x0.addr x0.start (IntKind.wrap .i64 (x0.left - (1 : Int)))) (Disk.mk (Drive.mk ([]) ([])) false false false 0 0 0 0 0))) fun l456 =>
 .opt (Int × (List Int) × Disk × Disk × (List Int)) (zr q (zo.mk l456.1 l456.2.1 (0 : Int) l456.2.2.1 l456.2.2.2.1 l456.2.2.2.2 ([]))) fun l457 =>
 .ite (decide ((65536 : Int) = 0))
 .fail
 (.ite (decide ((65536 : Int) = 0))
 .fail
 (.ite (decide ((IntKind.wrap .i64 (l457.2.2.1.words - l457.1)) = (0 : Int)))
 (.leaf ((Disk.mk l457.2.2.1.drive l457.2.2.1.enable true l457.2.2.1.error l457.2.2.1.command (IntKind.wrap .i64 (l457.2.2.1.words - l457.1)) (((IntKind.wrap .i64 (l457.2.2.1.addr + (IntKind.wrap .i64 ((2 : Int) * l457.1))))).tmod (65536 : Int)) (((IntKind.wrap .i64 (l457.2.2.1.start + (1 : Int)))).tmod (65536 : Int)) l457.2.2.1.left, l457.2.1, l457.2.2.2.2)))
 (.leaf ((Disk.mk l457.2.2.1.drive l457.2.2.1.enable l457.2.2.1.ready l457.2.2.1.error l457.2.2.1.command (IntKind.wrap .i64 (l457.2.2.1.words - l457.1)) (((IntKind.wrap .i64 (l457.2.2.1.addr + (IntKind.wrap .i64 ((2 : Int) * l457.1))))).tmod (65536 : Int)) (((IntKind.wrap .i64 (l457.2.2.1.start + (1 : Int)))).tmod (65536 : Int)) (8 : Int), l457.2.1, l457.2.2.2.2))))))
 .fail)
 (.ite (decide ((65536 : Int) = 0))
 .fail
 (.ite (decide ((65536 : Int) = 0))
 .fail
 (.ite (decide ((IntKind.wrap .i64 (x0.words - x0.words)) = (0 : Int)))
 (.leaf ((Disk.mk r454.1 x0.enable true x0.error x0.command (IntKind.wrap .i64 (x0.words - x0.words)) (((IntKind.wrap .i64 (x0.addr + (IntKind.wrap .i64 ((2 : Int) * x0.words))))).tmod (65536 : Int)) (((IntKind.wrap .i64 (x0.start + (1 : Int)))).tmod (65536 : Int)) (IntKind.wrap .i64 (x0.left - (1 : Int))), x1, x2)))
 (.leaf ((Disk.mk r454.1 x0.enable x0.ready x0.error x0.command (IntKind.wrap .i64 (x0.words - x0.words)) (((IntKind.wrap .i64 (x0.addr + (IntKind.wrap .i64 ((2 : Int) * x0.words))))).tmod (65536 : Int)) (((IntKind.wrap .i64 (x0.start + (1 : Int)))).tmod (65536 : Int)) (8 : Int), x1, x2))))))))
 (.ite (decide (x0.command = (1 : Int)))
 (.ite (decide ((([] : List Int).length + x1.length) * 8 ≤ 140737488355328))
 (.opt ((List Int) × Int × (List Int) × Disk × Disk) (zq q (zp.mk x2 x0.words r413.1 (0 : Int) (([] : List Int) ++ x1) (Disk.mk x0.drive x0.enable x0.ready x0.error x0.command x0.words x0.addr x0.start (IntKind.wrap .i64 (x0.left - (1 : Int)))) (Disk.mk (Drive.mk ([]) ([])) false false false 0 0 0 0 0))) fun l458 =>
 .opt (Int × (List Int) × Disk × Disk × (List Int)) (zr q (zo.mk l458.1 l458.2.1 (0 : Int) l458.2.2.1 l458.2.2.2.1 l458.2.2.2.2 ([]))) fun l459 =>
 .ite (decide ((65536 : Int) = 0))
 .fail
 (.ite (decide ((65536 : Int) = 0))
 .fail
 (.ite (decide ((IntKind.wrap .i64 (l459.2.2.1.words - l459.1)) = (0 : Int)))
 (.leaf ((Disk.mk l459.2.2.1.drive l459.2.2.1.enable true l459.2.2.1.error l459.2.2.1.command (IntKind.wrap .i64 (l459.2.2.1.words - l459.1)) (((IntKind.wrap .i64 (l459.2.2.1.addr + (IntKind.wrap .i64 ((2 : Int) * l459.1))))).tmod (65536 : Int)) (((IntKind.wrap .i64 (l459.2.2.1.start + (1 : Int)))).tmod (65536 : Int)) l459.2.2.1.left, l459.2.1, l459.2.2.2.2)))
 (.leaf ((Disk.mk l459.2.2.1.drive l459.2.2.1.enable l459.2.2.1.ready l459.2.2.1.error l459.2.2.1.command (IntKind.wrap .i64 (l459.2.2.1.words - l459.1)) (((IntKind.wrap .i64 (l459.2.2.1.addr + (IntKind.wrap .i64 ((2 : Int) * l459.1))))).tmod (65536 : Int)) (((IntKind.wrap .i64 (l459.2.2.1.start + (1 : Int)))).tmod (65536 : Int)) (8 : Int), l459.2.1, l459.2.2.2.2))))))
 .fail)
 (.ite (decide ((65536 : Int) = 0))
 .fail
 (.ite (decide ((65536 : Int) = 0))
 .fail
 (.ite (decide ((IntKind.wrap .i64 (x0.words - x0.words)) = (0 : Int)))
 (.leaf ((Disk.mk x0.drive x0.enable true x0.error x0.command (IntKind.wrap .i64 (x0.words - x0.words)) (((IntKind.wrap .i64 (x0.addr + (IntKind.wrap .i64 ((2 : Int) * x0.words))))).tmod (65536 : Int)) (((IntKind.wrap .i64 (x0.start + (1 : Int)))).tmod (65536 : Int)) (IntKind.wrap .i64 (x0.left - (1 : Int))), x1, x2)))
 (.leaf ((Disk.mk x0.drive x0.enable x0.ready x0.error x0.command (IntKind.wrap .i64 (x0.words - x0.words)) (((IntKind.wrap .i64 (x0.addr + (IntKind.wrap .i64 ((2 : Int) * x0.words))))).tmod (65536 : Int)) (((IntKind.wrap .i64 (x0.start + (1 : Int)))).tmod (65536 : Int)) (8 : Int), x1, x2)))))))))
 (.ite (decide (x0.command = (2 : Int)))
 (.opt (List UInt8) (z1u q x1 x0.addr x0.words) fun r460 =>
 .opt (Drive × Int) (z1z q x0.drive x0.start r460) fun r461 =>
 .ite (!decide (r461.2 = (0 : Int)))
 (.opt Disk (zz (Disk.mk x0.drive x0.enable x0.ready x0.error x0.command x0.words x0.addr x0.start (IntKind.wrap .i64 (x0.left - (1 : Int))))) fun r462 =>
 .leaf ((r462, x1, x2)))
 (.ite (decide (x0.command = (1 : Int)))
 (.ite (decide ((([] : List Int).length + x1.length) * 8 ≤ 140737488355328))
 (.opt ((List Int) × Int × (List Int) × Disk × Disk) (zq q (zp.mk x2 x0.words r413.1 (0 : Int) (([] : List Int) ++ x1) (Disk.mk r461.1 x0.enable x0.ready x0.error x0.command x0.words x0.addr x0.start (IntKind.wrap .i64 (x0.left - (1 : Int)))) (Disk.mk (Drive.mk ([]) ([])) false false false 0 0 0 0 0))) fun l463 =>
 .opt (Int × (List Int) × Disk × Disk × (List Int)) (zr q (zo.mk l463.1 l463.2.1 (0 : Int) l463.2.2.1 l463.2.2.2.1 l463.2.2.2.2 ([]))) fun l464 =>
 .ite (decide ((65536 : Int) = 0))
 .fail
 (.ite (decide ((65536 : Int) = 0))
 .fail
 (.ite (decide ((IntKind.wrap .i64 (l464.2.2.1.words - l464.1)) = (0 : Int)))
 (.leaf ((Disk.mk l464.2.2.1.drive l464.2.2.1.enable true l464.2.2.1.error l464.2.2.1.command (IntKind.wrap .i64 (l464.2.2.1.words - l464.1)) (((IntKind.wrap .i64 (l464.2.2.1.addr + (IntKind.wrap .i64 ((2 : Int) * l464.1))))).tmod (65536 : Int)) (((IntKind.wrap .i64 (l464.2.2.1.start + (1 : Int)))).tmod (65536 : Int)) l464.2.2.1.left, l464.2.1, l464.2.2.2.2)))
 (.leaf ((Disk.mk l464.2.2.1.drive l464.2.2.1.enable l464.2.2.1.ready l464.2.2.1.error l464.2.2.1.command (IntKind.wrap .i64 (l464.2.2.1.words - l464.1)) (((IntKind.wrap .i64 (l464.2.2.1.addr + (IntKind.wrap .i64 ((2 : Int) * l464.1))))).tmod (65536 : Int)) (((IntKind.wrap .i64 (l464.2.2.1.start + (1 : Int)))).tmod (65536 : Int)) (8 : Int), l464.2.1, l464.2.2.2.2))))))
 .fail)
 (.ite (decide ((65536 : Int) = 0))
 .fail
 (.ite (decide ((65536 : Int) = 0))
 .fail
 (.ite (decide ((IntKind.wrap .i64 (x0.words - x0.words)) = (0 : Int)))
 (.leaf ((Disk.mk r461.1 x0.enable true x0.error x0.command (IntKind.wrap .i64 (x0.words - x0.words)) (((IntKind.wrap .i64 (x0.addr + (IntKind.wrap .i64 ((2 : Int) * x0.words))))).tmod (65536 : Int)) (((IntKind.wrap .i64 (x0.start + (1 : Int)))).tmod (65536 : Int)) (IntKind.wrap .i64 (x0.left - (1 : Int))), x1, x2)))
 (.leaf ((Disk.mk r461.1 x0.enable x0.ready x0.error x0.command (IntKind.wrap .i64 (x0.words - x0.words)) (((IntKind.wrap .i64 (x0.addr + (IntKind.wrap .i64 ((2 : Int) * x0.words))))).tmod (65536 : Int)) (((IntKind.wrap .i64 (x0.start + (1 : Int)))).tmod (65536 : Int)) (8 : Int), x1, x2))))))))
 (.ite (decide (x0.command = (1 : Int)))
 (.ite (decide ((([] : List Int).length + x1.length) * 8 ≤ 140737488355328))
 (.opt ((List Int) × Int × (List Int) × Disk × Disk) (zq q (zp.mk x2 x0.words r413.1 (0 : Int) (([] : List Int) ++ x1) (Disk.mk x0.drive x0.enable x0.ready x0.error x0.command x0.words x0.addr x0.start (IntKind.wrap .i64 (x0.left - (1 : Int)))) (Disk.mk (Drive.mk ([]) ([])) false false false 0 0 0 0 0))) fun l465 =>
 .opt (Int × (List Int) × Disk × Disk × (List Int)) (zr q (zo.mk l465.1 l465.2.1 (0 : Int) l465.2.2.1 l465.2.2.2.1 l465.2.2.2.2 ([]))) fun l466 =>
 .ite (decide ((65536 : Int) = 0))
 .fail
 (.ite (decide ((65536 : Int) = 0))
 .fail
 (.ite (decide ((IntKind.wrap .i64 (l466.2.2.1.words - l466.1)) = (0 : Int)))
 (.leaf ((Disk.mk l466.2.2.1.drive l466.2.2.1.enable true l466.2.2.1.error l466.2.2.1.command (IntKind.wrap .i64 (l466.2.2.1.words - l466.1)) (((IntKind.wrap .i64 (l466.2.2.1.addr + (IntKind.wrap .i64 ((2 : Int) * l466.1))))).tmod (65536 : Int)) (((IntKind.wrap .i64 (l466.2.2.1.start + (1 : Int)))).tmod (65536 : Int)) l466.2.2.1.left, l466.2.1, l466.2.2.2.2)))
 (.leaf ((Disk.mk l466.2.2.1.drive l466.2.2.1.enable l466.2.2.1.ready l466.2.2.1.error l466.2.2.1.command (IntKind.wrap .i64 (l466.2.2.1.words - l466.1)) (((IntKind.wrap .i64 (l466.2.2.1.addr + (IntKind.wrap .i64 ((2 : Int) * l466.1))))).tmod (65536 : Int)) (((IntKind.wrap .i64 (l466.2.2.1.start + (1 : Int)))).tmod (65536 : Int)) (8 : Int), l466.2.1, l466.2.2.2.2))))))
 .fail)
 (.ite (decide ((65536 : Int) = 0))
 .fail
 (.ite (decide ((65536 : Int) = 0))
 .fail
 (.ite (decide ((IntKind.wrap .i64 (x0.words - x0.words)) = (0 : Int)))
 (.leaf ((Disk.mk x0.drive x0.enable true x0.error x0.command (IntKind.wrap .i64 (x0.words - x0.words)) (((IntKind.wrap .i64 (x0.addr + (IntKind.wrap .i64 ((2 : Int) * x0.words))))).tmod (65536 : Int)) (((IntKind.wrap .i64 (x0.start + (1 : Int)))).tmod (65536 : Int)) (IntKind.wrap .i64 (x0.left - (1 : Int))), x1, x2)))
 (.leaf ((Disk.mk x0.drive x0.enable x0.ready x0.error x0.command (IntKind.wrap .i64 (x0.words - x0.words)) (((IntKind.wrap .i64 (x0.addr + (IntKind.wrap .i64 ((2 : Int) * x0.words))))).tmod (65536 : Int)) (((IntKind.wrap .i64 (x0.start + (1 : Int)))).tmod (65536 : Int)) (8 : Int), x1, x2))))))))))
 (.ite (decide (x0.command = (3 : Int)))
 (.opt Bool (z36 q x1 x0.addr x0.words r413.1) fun r467 =>
 .ite (r467)
 (.opt Disk (zz (Disk.mk x0.drive x0.enable x0.ready x0.error x0.command x0.words x0.addr x0.start (IntKind.wrap .i64 (x0.left - (1 : Int))))) fun r468 =>
 .leaf ((r468, x1, x2)))
 (.ite (decide (x0.command = (2 : Int)))
 (.opt (List UInt8) (z1u q x1 x0.addr x0.words) fun r469 =>
 .opt (Drive × Int) (z1z q x0.drive x0.start r469) fun r470 =>
 .ite (!decide (r470.2 = (0 : Int)))
 (.opt Disk (zz (Disk.mk x0.drive x0.enable x0.ready x0.error x0.command x0.words x0.addr x0.start (IntKind.wrap .i64 (x0.left - (1 : Int))))) fun r471 =>
 .leaf ((r471, x1, x2)))
 (.ite (decide (x0.command = (1 : Int)))
 (.ite (decide ((([] : List Int).length + x1.length) * 8 ≤ 140737488355328))
 (.opt ((List Int) × Int × (List Int) × Disk × Disk) (zq q (zp.mk x2 x0.words r413.1 (0 : Int) (([] : List Int) ++ x1) (Disk.mk r470.1 x0.enable x0.ready x0.error x0.command x0.words x0.addr x0.start (IntKind.wrap .i64 (x0.left - (1 : Int)))) (Disk.mk (Drive.mk ([]) ([])) false false false 0 0 0 0 0))) fun l472 =>
 .opt (Int × (List Int) × Disk × Disk × (List Int)) (zr q (zo.mk l472.1 l472.2.1 (0 : Int) l472.2.2.1 l472.2.2.2.1 l472.2.2.2.2 ([]))) fun l473 =>
 .ite (decide ((65536 : Int) = 0))
 .fail
 (.ite (decide ((65536 : Int) = 0))
 .fail
 (.ite (decide ((IntKind.wrap .i64 (l473.2.2.1.words - l473.1)) = (0 : Int)))
 (.leaf ((Disk.mk l473.2.2.1.drive l473.2.2.1.enable true l473.2.2.1.error l473.2.2.1.command (IntKind.wrap .i64 (l473.2.2.1.words - l473.1)) (((IntKind.wrap .i64 (l473.2.2.1.addr + (IntKind.wrap .i64 ((2 : Int) * l473.1))))).tmod (65536 : Int)) (((IntKind.wrap .i64 (l473.2.2.1.start + (1 : Int)))).tmod (65536 : Int)) l473.2.2.1.left, l473.2.1, l473.2.2.2.2)))
 (.leaf ((Disk.mk l473.2.2.1.drive l473.2.2.1.enable l473.2.2.1.ready l473.2.2.1.error l473.2.2.1.command (IntKind.wrap .i64 (l473.2.2.1.words - l473.1)) (((IntKind.wrap .i64 (l473.2.2.1.addr + (IntKind.wrap .i64 ((2 : Int) * l473.1))))).tmod (65536 : Int)) (((IntKind.wrap .i64 (l473.2.2.1.start + (1 : Int)))).tmod (65536 : Int)) (8 : Int), l473.2.1, l473.2.2.2.2))))))
 .fail)
 (.ite (decide ((65536 : Int) = 0))
 .fail
 (.ite (decide ((65536 : Int) = 0))
 .fail
 (.ite (decide ((IntKind.wrap .i64 (x0.words - x0.words)) = (0 : Int)))
 (.leaf ((Disk.mk r470.1 x0.enable true x0.error x0.command (IntKind.wrap .i64 (x0.words - x0.words)) (((IntKind.wrap .i64 (x0.addr + (IntKind.wrap .i64 ((2 : Int) * x0.words))))).tmod (65536 : Int)) (((IntKind.wrap .i64 (x0.start + (1 : Int)))).tmod (65536 : Int)) (IntKind.wrap .i64 (x0.left - (1 : Int))), x1, x2)))
 (.leaf ((Disk.mk r470.1 x0.enable x0.ready x0.error x0.command (IntKind.wrap .i64 (x0.words - x0.words)) (((IntKind.wrap .i64 (x0.addr + (IntKind.wrap .i64 ((2 : Int) * x0.words))))).tmod (65536 : Int)) (((IntKind.wrap .i64 (x0.start + (1 : Int)))).tmod (65536 : Int)) (8 : Int), x1, x2))))))))
 (.ite (decide (x0.command = (1 : Int)))
 (.ite (decide ((([] : List Int).length + x1.length) * 8 ≤ 140737488355328))
 (.opt ((List Int) × Int × (List Int) × Disk × Disk) (zq q (zp.mk x2 x0.words r413.1 (0 : Int) (([] : List Int) ++ x1) (Disk.mk x0.drive x0.enable x0.ready x0.error x0.command x0.words x0.addr x0.start (IntKind.wrap .i64 (x0.left - (1 : Int)))) (Disk.mk (Drive.mk ([]) ([])) false false false 0 0 0 0 0))) fun l474 =>
 .opt (Int × (List Int) × Disk × Disk × (List Int)) (zr q (zo.mk l474.1 l474.2.1 (0 : Int) l474.2.2.1 l474.2.2.2.1 l474.2.2.2.2 ([]))) fun l475 =>
 .ite (decide ((65536 : Int) = 0))
 .fail
 (.ite (decide ((65536 : Int) = 0))
 .fail
 (.ite (decide ((IntKind.wrap .i64 (l475.2.2.1.words - l475.1)) = (0 : Int)))
 (.leaf ((Disk.mk l475.2.2.1.drive l475.2.2.1.enable true l475.2.2.1.error l475.2.2.1.command (IntKind.wrap .i64 (l475.2.2.1.words - l475.1)) (((IntKind.wrap .i64 (l475.2.2.1.addr + (IntKind.wrap .i64 ((2 : Int) * l475.1))))).tmod (65536 : Int)) (((IntKind.wrap .i64 (l475.2.2.1.start + (1 : Int)))).tmod (65536 : Int)) l475.2.2.1.left, l475.2.1, l475.2.2.2.2)))
 (.leaf ((Disk.mk l475.2.2.1.drive l475.2.2.1.enable l475.2.2.1.ready l475.2.2.1.error l475.2.2.1.command (IntKind.wrap .i64 (l475.2.2.1.words - l475.1)) (((IntKind.wrap .i64 (l475.2.2.1.addr + (IntKind.wrap .i64 ((2 : Int) * l475.1))))).tmod (65536 : Int)) (((IntKind.wrap .i64 (l475.2.2.1.start + (1 : Int)))).tmod (65536 : Int)) (8 : Int), l475.2.1, l475.2.2.2.2))))))
 .fail)
 (.ite (decide ((65536 : Int) = 0))
 .fail
 (.ite (decide ((65536 : Int) = 0))
 .fail
 (.ite (decide ((IntKind.wrap .i64 (x0.words - x0.words)) = (0 : Int)))
 (.leaf ((Disk.mk x0.drive x0.enable true x0.error x0.command (IntKind.wrap .i64 (x0.words - x0.words)) (((IntKind.wrap .i64 (x0.addr + (IntKind.wrap .i64 ((2 : Int) * x0.words))))).tmod (65536 : Int)) (((IntKind.wrap .i64 (x0.start + (1 : Int)))).tmod (65536 : Int)) (IntKind.wrap .i64 (x0.left - (1 : Int))), x1, x2)))
 (.leaf ((Disk.mk x0.drive x0.enable x0.ready x0.error x0.command (IntKind.wrap .i64 (x0.words - x0.words)) (((IntKind.wrap .i64 (x0.addr + (IntKind.wrap .i64 ((2 : Int) * x0.words))))).tmod (65536 : Int)) (((IntKind.wrap .i64 (x0.start + (1 : Int)))).tmod (65536 : Int)) (8 : Int), x1, x2)))))))))
 (.ite (decide (x0.command = (2 : Int)))
 (.opt (List UInt8) (z1u q x1 x0.addr x0.words) fun r476 =>
 .opt (Drive × Int) (z1z q x0.drive x0.start r476) fun r477 =>
 .ite (!decide (r477.2 = (0 : Int)))
 (.opt Disk (zz (Disk.mk x0.drive x0.enable x0.ready x0.error x0.command x0.words x0.addr x0.start (IntKind.wrap .i64 (x0.left - (1 : Int))))) fun r478 =>
 .leaf ((r478, x1, x2)))
 (.ite (decide (x0.command = (1 : Int)))
 (.ite (decide ((([] : List Int).length + x1.length) * 8 ≤ 140737488355328))
 (.opt ((List Int) × Int × (List Int) × Disk × Disk) (zq q (zp.mk x2 x0.words r413.1 (0 : Int) (([] : List Int) ++ x1) (Disk.mk r477.1 x0.enable x0.ready x0.error x0.command x0.words x0.addr x0.start (IntKind.wrap .i64 (x0.left - (1 : Int)))) (Disk.mk (Drive.mk ([]) ([])) false false false 0 0 0 0 0))) fun l479 =>
 .opt (Int × (List Int) × Disk × Disk × (List Int)) (zr q (zo.mk l479.1 l479.2.1 (0 : Int) l479.2.2.1 l479.2.2.2.1 l479.2.2.2.2 ([]))) fun l480 =>
 .ite (decide ((65536 : Int) = 0))
 .fail
 (.ite (decide ((65536 : Int) = 0))
 .fail
 (.ite (decide ((IntKind.wrap .i64 (l480.2.2.1.words - l480.1)) = (0 : Int)))
 (.leaf ((Disk.mk l480.2.2.1.drive l480.2.2.1.enable true l480.2.2.1.error l480.2.2.1.command (IntKind.wrap .i64 (l480.2.2.1.words - l480.1)) (((IntKind.wrap .i64 (l480.2.2.1.addr + (IntKind.wrap .i64 ((2 : Int) * l480.1))))).tmod (65536 : Int)) (((IntKind.wrap .i64 (l480.2.2.1.start + (1 : Int)))).tmod (65536 : Int)) l480.2.2.1.left, l480.2.1, l480.2.2.2.2)))
 (.leaf ((Disk.mk l480.2.2.1.drive l480.2.2.1.enable l480.2.2.1.ready l480.2.2.1.error l480.2.2.1.command (IntKind.wrap .i64 (l480.2.2.1.words - l480.1)) (((IntKind.wrap .i64 (l480.2.2.1.addr + (IntKind.wrap .i64 ((2 : Int) * l480.1))))).tmod (65536 : Int)) (((IntKind.wrap .i64 (l480.2.2.1.start + (1 : Int)))).tmod (65536 : Int)) (8 : Int), l480.2.1, l480.2.2.2.2))))))
 .fail)
 (.ite (decide ((65536 : Int) = 0))
 .fail
 (.ite (decide ((65536 : Int) = 0))
 .fail
 (.ite (decide ((IntKind.wrap .i64 (x0.words - x0.words)) = (0 : Int)))
 (.leaf ((Disk.mk r477.1 x0.enable true x0.error x0.command (IntKind.wrap .i64 (x0.words - x0.words)) (((IntKind.wrap .i64 (x0.addr + (IntKind.wrap .i64 ((2 : Int) * x0.words))))).tmod (65536 : Int)) (((IntKind.wrap .i64 (x0.start + (1 : Int)))).tmod (65536 : Int)) (IntKind.wrap .i64 (x0.left - (1 : Int))), x1, x2)))
 (.leaf ((Disk.mk r477.1 x0.enable x0.ready x0.error x0.command (IntKind.wrap .i64 (x0.words - x0.words)) (((IntKind.wrap .i64 (x0.addr + (IntKind.wrap .i64 ((2 : Int) * x0.words))))).tmod (65536 : Int)) (((IntKind.wrap .i64 (x0.start + (1 : Int)))).tmod (65536 : Int)) (8 : Int), x1, x2))))))))
 (.ite (decide (x0.command = (1 : Int)))
 (.ite (decide ((([] : List Int).length + x1.length) * 8 ≤ 140737488355328))
 (.opt ((List Int) × Int × (List Int) × Disk × Disk) (zq q (zp.mk x2 x0.words r413.1 (0 : Int) (([] : List Int) ++ x1) (Disk.mk x0.drive x0.enable x0.ready x0.error x0.command x0.words x0.addr x0.start (IntKind.wrap .i64 (x0.left - (1 : Int)))) (Disk.mk (Drive.mk ([]) ([])) false false false 0 0 0 0 0))) fun l481 =>
 .opt (Int × (List Int) × Disk × Disk × (List Int)) (zr q (zo.mk l481.1 l481.2.1 (0 : Int) l481.2.2.1 l481.2.2.2.1 l481.2.2.2.2 ([]))) fun l482 =>
 .ite (decide ((65536 : Int) = 0))
 .fail
 (.ite (decide ((65536 : Int) = 0))
 .fail
 (.ite (decide ((IntKind.wrap .i64 (l482.2.2.1.words - l482.1)) = (0 : Int)))
 (.leaf ((Disk.mk l482.2.2.1.drive l482.2.2.1.enable true l482.2.2.1.error l482.2.2.1.command (IntKind.wrap .i64 (l482.2.2.1.words - l482.1)) (((IntKind.wrap .i64 (l482.2.2.1.addr + (IntKind.wrap .i64 ((2 : Int) * l482.1))))).tmod (65536 : Int)) (((IntKind.wrap .i64 (l482.2.2.1.start + (1 : Int)))).tmod (65536 : Int)) l482.2.2.1.left, l482.2.1, l482.2.2.2.2)))
 (.leaf ((Disk.mk l482.2.2.1.drive l482.2.2.1.enable l482.2.2.1.ready l482.2.2.1.error l482.2.2.1.command (IntKind.wrap .i64 (l482.2.2.1.words - l482.1)) (((IntKind.wrap .i64 (l482.2.2.1.addr + (IntKind.wrap .i64 ((2 : Int) * l482.1))))).tmod (65536 : Int)) (((IntKind.wrap .i64 (l482.2.2.1.start + (1 : Int)))).tmod (65536 : Int)) (8 : Int), l482.2.1, l482.2.2.2.2))))))
 .fail)
 (.ite (decide ((65536 : Int) = 0))
 .fail
 (.ite (decide ((65536 : Int) = 0))
 .fail
 (.ite (decide ((IntKind.wrap .i64 (x0.words - x0.words)) = (0 : Int)))
 (.leaf ((Disk.mk x0.drive x0.enable true x0.error x0.command (IntKind.wrap .i64 (x0.words - x0.words)) (((IntKind.wrap .i64 (x0.addr + (IntKind.wrap .i64 ((2 : Int) * x0.words))))).tmod (65536 : Int)) (((IntKind.wrap .i64 (x0.start + (1 : Int)))).tmod (65536 : Int)) (IntKind.wrap .i64 (x0.left - (1 : Int))), x1, x2)))
 (.leaf ((Disk.mk x0.drive x0.enable x0.ready x0.error x0.command (IntKind.wrap .i64 (x0.words - x0.words)) (((IntKind.wrap .i64 (x0.addr + (IntKind.wrap .i64 ((2 : Int) * x0.words))))).tmod (65536 : Int)) (((IntKind.wrap .i64 (x0.start + (1 : Int)))).tmod (65536 : Int)) (8 : Int), x1, x2))))))))))))))
noncomputable def z1h (q : Option Nat) (x0 : Disk) (x1 : (List Int)) (x2 : (List Int)) : Option (Disk × (List Int) × (List Int)) := (z1g q x0 x1 x2).run
noncomputable def z1ar : Arg U (Disk × (List Int) × (List Int) × Unit) := aA cDisk (aO (cSl 3) (aO (cSl 3) (aNil)))
noncomputable def z1c5 (r : (Disk × (List Int) × (List Int))) : zR := ([vA cDisk r.1, vO (cSl 3) r.2.1, vO (cSl 3) r.2.2], [])
noncomputable def z1cw : zS := zf z1ar bNil (fun x _ => z1h none x.1 x.2.1 x.2.2.1) z1c5
noncomputable def z12b (x : (Unit) × ((List Int) × Unit) × (Unit) × (Unit) × (Int × Unit) × ((List UInt8) × Unit) × (Int × Unit) × Unit) (g : (List Int) × (Disk × Unit) × (Disk × Unit) × Unit) : zp := zp.mk x.2.1.1 x.2.2.2.2.1.1 x.2.2.2.2.2.1.1 x.2.2.2.2.2.2.1.1 g.1 g.2.1.1 g.2.2.1.1
noncomputable def zza : Tms U ((Unit) × ((List Int) × Unit) × (Unit) × (Unit) × (Int × Unit) × ((List UInt8) × Unit) × (Int × Unit) × Unit) := tO 1 (cK (.row 0 0) (z1)) (tO 2 (z0 (cSl 3) (z1)) (tO 3 (cK (.ptr 1 0) (z1)) (tO 6 (cK (.ptr 2 0) (z1)) (tO 9 (z0 (cInt .i64) (z1)) (tO 10 (z0 cStr (z1)) (tO 14 (z0 (cInt .i64) (z1)) (tNil)))))))
noncomputable def zzf : Bls U ((List Int) × (Disk × Unit) × (Disk × Unit) × Unit) := bRv 3 0 (bC (z0 cDisk (z1)) (bC (z0 cDisk (z1)) (bNil)))
noncomputable def zl6 (s : zp) : St U := { tm := [(1, .v (vO (cK (.row 0 0) (z1)) (()))), (2, .v (vO (z0 (cSl 3) (z1)) (s.t2, ()))), (3, .v (vO (cK (.ptr 1 0) (z1)) (()))), (6, .v (vO (cK (.ptr 2 0) (z1)) (()))), (9, .v (vO (z0 (cInt .i64) (z1)) (s.t9, ()))), (10, .v (vO (z0 cStr (z1)) (s.t10, ()))), (14, .v (vO (z0 (cInt .i64) (z1)) (s.t14, ())))], hp := [.row 3 0 s.b0, .cells ((z0 cDisk (z1) : Cdc U (Disk × Unit)).enc (s.b1, ())) none, .cells ((z0 cDisk (z1) : Cdc U (Disk × Unit)).enc (s.b2, ())) none] }
noncomputable def zll (r : ((List Int) × Int × (List Int) × Disk × Disk)) : Ex × St U := (.exit 0, { tm := [(1, .v (vO (cK (.row 0 0) (z1)) (()))), (2, .v (vO (z0 (cSl 3) (z1)) (r.1, ()))), (3, .v (vO (cK (.ptr 1 0) (z1)) (()))), (6, .v (vO (cK (.ptr 2 0) (z1)) (()))), (9, .v (vO (z0 (cInt .i64) (z1)) (r.2.1, ())))], hp := [.row 3 0 r.2.2.1, .cells ((z0 cDisk (z1) : Cdc U (Disk × Unit)).enc (r.2.2.2.1, ())) none, .cells ((z0 cDisk (z1) : Cdc U (Disk × Unit)).enc (r.2.2.2.2, ())) none] })
noncomputable def zzn (r : ((List Int) × Int × (List Int) × Disk × Disk)) : Tree (Ex × St U) := .leaf (zll r)
noncomputable def z13f : Hd := { keep := [1, 2, 3, 6, 9, 10, 14], xkeep := [1, 2, 3, 6, 7, 8, 9], own := false }
noncomputable def z12c (x : (Unit) × ((List Int) × Unit) × (Unit) × (Unit) × (Int × Unit) × (Unit) × (Int × Unit) × Unit) (g : (List Int) × (Disk × Unit) × (Disk × Unit) × (List Int) × Unit) : zo := zo.mk x.2.1.1 x.2.2.2.2.1.1 x.2.2.2.2.2.2.1.1 g.1 g.2.1.1 g.2.2.1.1 g.2.2.2.1
noncomputable def zzb : Tms U ((Unit) × ((List Int) × Unit) × (Unit) × (Unit) × (Int × Unit) × (Unit) × (Int × Unit) × Unit) := tO 1 (cK (.row 0 0) (z1)) (tO 2 (z0 (cSl 3) (z1)) (tO 3 (cK (.ptr 1 0) (z1)) (tO 6 (cK (.ptr 2 0) (z1)) (tO 9 (z0 (cInt .i64) (z1)) (tO 15 (cK (.row 3 0) (z1)) (tO 16 (z0 (cInt .i64) (z1)) (tNil)))))))
noncomputable def zzg : Bls U ((List Int) × (Disk × Unit) × (Disk × Unit) × (List Int) × Unit) := bRv 3 0 (bC (z0 cDisk (z1)) (bC (z0 cDisk (z1)) (bRv 3 0 (bNil))))
noncomputable def zl7 (s : zo) : St U := { tm := [(1, .v (vO (cK (.row 0 0) (z1)) (()))), (2, .v (vO (z0 (cSl 3) (z1)) (s.t2, ()))), (3, .v (vO (cK (.ptr 1 0) (z1)) (()))), (6, .v (vO (cK (.ptr 2 0) (z1)) (()))), (9, .v (vO (z0 (cInt .i64) (z1)) (s.t9, ()))), (15, .v (vO (cK (.row 3 0) (z1)) (()))), (16, .v (vO (z0 (cInt .i64) (z1)) (s.t16, ())))], hp := [.row 3 0 s.b0, .cells ((z0 cDisk (z1) : Cdc U (Disk × Unit)).enc (s.b1, ())) none, .cells ((z0 cDisk (z1) : Cdc U (Disk × Unit)).enc (s.b2, ())) none, .row 3 0 s.b3] }
noncomputable def zlm (r : (Int × (List Int) × Disk × Disk × (List Int))) : Ex × St U := (.exit 2, { tm := [(1, .v (vO (cK (.row 0 0) (z1)) (()))), (3, .v (vO (cK (.ptr 1 0) (z1)) (()))), (6, .v (vO (cK (.ptr 2 0) (z1)) (()))), (9, .v (vO (z0 (cInt .i64) (z1)) (r.1, ()))), (15, .v (vO (cK (.row 3 0) (z1)) (())))], hp := [.row 3 0 r.2.1, .cells ((z0 cDisk (z1) : Cdc U (Disk × Unit)).enc (r.2.2.1, ())) none, .cells ((z0 cDisk (z1) : Cdc U (Disk × Unit)).enc (r.2.2.2.1, ())) none, .row 3 0 r.2.2.2.2] })
noncomputable def zzo (r : (Int × (List Int) × Disk × Disk × (List Int))) : Tree (Ex × St U) := .leaf (zlm r)
noncomputable def z13g : Hd := { keep := [1, 2, 3, 6, 9, 15, 16], xkeep := [1, 3, 6, 7, 8, 9, 15], own := true }
noncomputable def zcb : Env U := zE fns78 (addL 0 z13f (z1f zza zzf z12b (zq none) zzn) (addL 1 z13g (z1f zzb zzg z12c (zr none) zzo) noL)) 201 0
noncomputable def z11w : Code := (loopAt (Tryz.f31.body.getD .skip) 0 0).getD .skip
theorem z1a3 (s : zp) : round zcb z13f z11w 0 (zl6 s) = (z9x s).map (sumE zl6 zll) := by kernel_rfl
theorem z1jv : LpOk zcb z11w 0 := zy (A := zza) (B := zzf) (f := z12b) (L := zq none) (zb (z10 z6) (zb (z2 (zi 3) z6) (zb (z10 z6) (zb (z10 z6) (zb (z2 (z3 .i64) z6) (zb (z2 z5a z6) (zb (z2 (z3 .i64) z6) z12))))))) (z1m (z13 (z2 z24 z6) (z13 (z2 z24 z6) z7))) (enc := zl6) (out := zzn) (outS := zll) (step := z9x) (fun _ => rfl) (fun _ _ => by kernel_rfl) (by kernel_rfl) (fun _ => rfl) z1a3
noncomputable def z11x : Code := (loopAt (Tryz.f31.body.getD .skip) 0 1).getD .skip
theorem z1a4 (s : zo) : round zcb z13g z11x 1 (zl7 s) = (z6k s).map (sumE zl7 zlm) := by kernel_rfl
theorem z1jw : LpOk zcb z11x 1 := zy (A := zzb) (B := zzg) (f := z12c) (L := zr none) (zb (z10 z6) (zb (z2 (zi 3) z6) (zb (z10 z6) (zb (z10 z6) (zb (z2 (z3 .i64) z6) (zb (z10 z6) (zb (z2 (z3 .i64) z6) z12))))))) (z1m (z13 (z2 z24 z6) (z13 (z2 z24 z6) (z1m z7)))) (enc := zl7) (out := zzo) (outS := zlm) (step := z6k) (fun _ => rfl) (fun _ _ => by kernel_rfl) (by kernel_rfl) (fun _ => rfl) z1a4
theorem z1q4 (x : Disk × (List Int) × (List Int) × Unit) (g : Unit) : zk zcb Tryz.f31 (z1ar.enc x) (bNil.enc g) = (z1g none x.1 x.2.1 x.2.2.1).map z1c5 := by kernel_rfl
theorem z1tq : FnOk Tryz.prog cd 31 z1cw := zm (E := zcb) zg z1sm Tryz.func31 (by kernel_rfl) (z14 (z11 z1jv (z11 z1jw z1j))) (zu z24 (ze (zi 3) (ze (zi 3) (zd)))) z7 (T := fun x _ => z1g none x.1 x.2.1 x.2.2.1) (fun _ _ => rfl) z1q4
noncomputable def fns31 := addF 31 true z1cw fns78
theorem z1ru : zF fns31 := za z1tq z1sm
noncomputable def zg7 (x0 : Tape) : Tree (Tape × Bool) :=
 .ite (decide ((x0.records.length : Int) ≤ x0.pos))
 (.leaf ((Tape.mk x0.records x0.pos x0.enable x0.ready true x0.mark true x0.command x0.count x0.addr x0.left, false)))
 (.ite (x0.mark)
 (.leaf ((Tape.mk x0.records (IntKind.wrap .i64 (x0.pos + (1 : Int))) x0.enable x0.ready x0.error true x0.end_ x0.command x0.count x0.addr x0.left, true)))
 (.ite (decide (0 ≤ x0.pos))
 (.opt (List UInt8) (x0.records[(x0.pos).toNat]?) fun y483 =>
 .leaf ((Tape.mk x0.records (IntKind.wrap .i64 (x0.pos + (1 : Int))) x0.enable x0.ready x0.error (decide (y483 = ([] : List UInt8))) x0.end_ x0.command x0.count x0.addr x0.left, true)))
 .fail))
noncomputable def zdr (x0 : Tape) : Option (Tape × Bool) := (zg7 x0).run
noncomputable def z11s : Arg U (Tape × Unit) := aA cTape (aNil)
noncomputable def z12s (r : (Tape × Bool)) : zR := ([vA cTape r.1, vO z8 r.2], [])
noncomputable def z13a : zS := zf z11s bNil (fun x _ => zdr x.1) z12s
noncomputable def z128 : Env U := zE fns31 noL 30 0
theorem z1j9 (x : Tape × Unit) (g : Unit) : zk z128 Tryz.f82 (z11s.enc x) (bNil.enc g) = (zg7 x.1).map z12s := by kernel_rfl
theorem z1ki : FnOk Tryz.prog cd 82 z13a := zm (E := z128) zg z1ru Tryz.func82 (by kernel_rfl) (z9 (by kernel_rfl)) (zu z2z (zd)) z7 (T := fun x _ => zg7 x.1) (fun _ _ => rfl) z1j9
noncomputable def fns82 := addF 82 true z13a fns31
theorem z1sq : zF fns82 := za z1ki z1ru
noncomputable def zns (x0 : (List Int)) (x1 : Int) (x2 : Int) : Tree Bool :=
 .ite (decide ((0 : Int) ≤ x1))
 (.ite (decide ((0 : Int) ≤ x2))
 (.ite (decide (x1 ≤ (IntKind.wrap .i64 ((2 : Int) * (x0.length : Int)))))
 (.leaf (decide (x2 ≤ (IntKind.wrap .i64 ((IntKind.wrap .i64 ((2 : Int) * (x0.length : Int))) - x1)))))
 (.leaf (false)))
 (.leaf (false)))
 (.leaf (false))
noncomputable def zjm (x0 : (List Int)) (x1 : Int) (x2 : Int) : Option Bool := (zns x0 x1 x2).run
noncomputable def z11o : Arg U ((List Int) × Int × Int × Unit) := aO (cSl 3) (aO (cInt .i64) (aO (cInt .i64) (aNil)))
noncomputable def z12o (r : Bool) : zR := ([vO z8 r], [])
noncomputable def z136 : zS := zf z11o bNil (fun x _ => zjm x.1 x.2.1 x.2.2.1) z12o
noncomputable def z126 : Env U := zE fns82 noL 29 0
theorem z1j5 (x : (List Int) × Int × Int × Unit) (g : Unit) : zk z126 Tryz.f174 (z11o.enc x) (bNil.enc g) = (zns x.1 x.2.1 x.2.2.1).map z12o := by kernel_rfl
theorem z1ke : FnOk Tryz.prog cd 174 z136 := zm (E := z126) zg z1sq Tryz.func174 (by kernel_rfl) (z9 (by kernel_rfl)) (ze (zi 3) (ze (z3 .i64) (ze (z3 .i64) (zd)))) z7 (T := fun x _ => zns x.1 x.2.1 x.2.2.1) (fun _ _ => rfl) z1j5
noncomputable def fns174 := addF 174 true z136 fns82
theorem z186 : zF fns174 := za z1ke z1sq
noncomputable def zib (x1 : Int) (x2 : Int) (g0 : (List Int)) : Tree (List Int) :=
 .ite (decide ((2 : Int) = 0))
 .fail
 (.ite (decide (0 ≤ IntKind.wrap .i64 ((x1).tdiv (2 : Int))))
 (.ite (decide (IntKind.wrap .i64 ((x1).tdiv (2 : Int)) < (g0.length : Int)))
 (.opt Int (g0[(IntKind.wrap .i64 ((x1).tdiv (2 : Int))).toNat]?) fun y489 =>
 .ite (decide ((2 : Int) = 0))
 .fail
 (.ite (decide (((x1).tmod (2 : Int)) = (0 : Int)))
 (.ite (decide ((2 : Int) = 0))
 .fail
 (.ite (decide (0 ≤ IntKind.wrap .i64 ((x1).tdiv (2 : Int))))
 (.ite (decide (IntKind.wrap .i64 ((x1).tdiv (2 : Int)) < (g0.length : Int)))
 (.opt Int (g0[(IntKind.wrap .i64 ((x1).tdiv (2 : Int))).toNat]?) fun y490 =>
 .leaf (g0.set ((IntKind.wrap .i64 ((x1).tdiv (2 : Int))).toNat) (IntKind.wrap .i64 (((BitVec.ofInt 64 (IntKind.wrap .i64 (((BitVec.ofInt 64 y489 &&& BitVec.ofInt 64 (65280 : Int)).toNat : Int))) ||| BitVec.ofInt 64 x2).toNat : Int)))))
 .fail)
 .fail))
 (.ite (decide ((2 : Int) = 0))
 .fail
 (.ite (decide (0 ≤ (8 : Int)))
 (.ite (decide (0 ≤ IntKind.wrap .i64 ((x1).tdiv (2 : Int))))
 (.ite (decide (IntKind.wrap .i64 ((x1).tdiv (2 : Int)) < (g0.length : Int)))
 (.opt Int (g0[(IntKind.wrap .i64 ((x1).tdiv (2 : Int))).toNat]?) fun y491 =>
 .leaf (g0.set ((IntKind.wrap .i64 ((x1).tdiv (2 : Int))).toNat) (IntKind.wrap .i64 (((BitVec.ofInt 64 (IntKind.wrap .i64 (((BitVec.ofInt 64 y489 &&& BitVec.ofInt 64 (255 : Int)).toNat : Int))) ||| BitVec.ofInt 64 (IntKind.wrap .i64 (x2 * 2 ^ (min ((8 : Int)).toNat 64)))).toNat : Int)))))
 .fail)
 .fail)
 .fail))))
 .fail)
 .fail)
noncomputable def ztx (x1 : Int) (x2 : Int) (g0 : (List Int)) : Option (List Int) := (zib x1 x2 g0).run
noncomputable def zou : Arg U (Int × Int × Unit) := aR 0 (aO (cInt .i64) (aO (cInt .i64) (aNil)))
noncomputable def zp0 : Bls U ((List Int) × Unit) := bR 3 (bNil)
noncomputable def zzt (_x : Int × Int × Unit) (_g : (List Int) × Unit) (r : (List Int)) : zR := ([], [.row 3 0 r])
noncomputable def z1h8 : zS := mkSpecG zou zp0 (fun x g => ztx x.1 x.2.1 g.1) zzt
noncomputable def zzs : Env U := zE fns174 noL 32 1
theorem z1wb (x1 : Int) (x2 : Int) (g0 : (List Int)) : execX false zzs Tryz.f175 (zou.enc (x1, x2, ())) (zp0.enc (g0, ())) = (zib x1 x2 g0).map (zzt (x1, x2, ()) (g0, ())) := by kernel_rfl
theorem z1uq : ∀ (x : Int × Int × Unit) (g : (List Int) × Unit), execX false zzs Tryz.f175 (zou.enc x) (zp0.enc g) = (zib x.1 x.2.1 g.1).map (zzt x g)
  | (x1, x2, ()), (g0, ()) => z1wb x1 x2 g0
theorem z1vz : FnOk Tryz.prog cd 175 z1h8 := z5y (E := zzs) (A := zou) (B := zp0) false zg z186 Tryz.func175 (by kernel_rfl) (z9 (by kernel_rfl)) (z109 (ze (z3 .i64) (ze (z3 .i64) (zd)))) (zbu z7) (T := fun (x : Int × Int × Unit) (g : (List Int) × Unit) => zib x.1 x.2.1 g.1) (fun _ _ => rfl) z1uq
structure z52 where
  t1 : Int
  t2 : (List UInt8)
  t9 : Int
  b0 : (List Int)
noncomputable def z8j (s : z52) : Tree (z52 ⊕ (List Int)) :=
 .ite (decide (s.t9 < (s.t2.length : Int)))
 (.ite (decide (0 ≤ s.t9))
 (.opt UInt8 (s.t2[(s.t9).toNat]?) fun y493 =>
 .opt (List Int) (ztx (IntKind.wrap .i64 (s.t1 + s.t9)) (IntKind.wrap .i64 (y493.toNat : Int)) s.b0) fun r494 =>
 .leaf (.inl (z52.mk s.t1 s.t2 (IntKind.wrap .i64 (s.t9 + (1 : Int))) r494)))
 .fail)
 (.leaf (.inr s.b0))
noncomputable def z8g (q : Option Nat) (s : z52) : Option (List Int) := limQ q (fun s => (z8j s).run) s
noncomputable def zia (q : Option Nat) (x0 : (List Int)) (x1 : Int) (x2 : (List UInt8)) : Tree ((List Int) × Int) :=
 .opt Bool (zjm x0 x1 (x2.length : Int)) fun r492 =>
 .ite (!r492)
 (.leaf (([], (2 : Int))))
 (.ite (decide ((([] : List Int).length + x0.length) * 8 ≤ 140737488355328))
 (.opt (List Int) (z8g q (z52.mk x1 x2 (0 : Int) (([] : List Int) ++ x0))) fun l495 =>
 .leaf ((l495, (0 : Int))))
 .fail)
noncomputable def zfo (q : Option Nat) (x0 : (List Int)) (x1 : Int) (x2 : (List UInt8)) : Option ((List Int) × Int) := (zia q x0 x1 x2).run
noncomputable def z154 : Arg U ((List Int) × Int × (List UInt8) × Unit) := aO (cSl 3) (aO (cInt .i64) (aO cStr (aNil)))
noncomputable def z16o (r : ((List Int) × Int)) : zR := ([vO (cSl 3) r.1, vO (cInt .i64) r.2], [])
noncomputable def z17d : zS := zf z154 bNil (fun x _ => zfo none x.1 x.2.1 x.2.2.1) z16o
noncomputable def zxp (x : (Int × Unit) × ((List UInt8) × Unit) × (Unit) × (Int × Unit) × Unit) (g : (List Int) × Unit) : z52 := z52.mk x.1.1 x.2.1.1 x.2.2.2.1.1 g.1
noncomputable def zub : Tms U ((Int × Unit) × ((List UInt8) × Unit) × (Unit) × (Int × Unit) × Unit) := tO 1 (z0 (cInt .i64) (z1)) (tO 2 (z0 cStr (z1)) (tO 8 (cK (.row 0 0) (z1)) (tO 9 (z0 (cInt .i64) (z1)) (tNil))))
noncomputable def zut : Bls U ((List Int) × Unit) := bRv 3 0 (bNil)
noncomputable def zj1 (s : z52) : St U := { tm := [(1, .v (vO (z0 (cInt .i64) (z1)) (s.t1, ()))), (2, .v (vO (z0 cStr (z1)) (s.t2, ()))), (8, .v (vO (cK (.row 0 0) (z1)) (()))), (9, .v (vO (z0 (cInt .i64) (z1)) (s.t9, ())))], hp := [.row 3 0 s.b0] }
noncomputable def zk6 (r : (List Int)) : Ex × St U := (.exit 0, { tm := [(8, .v (vO (cK (.row 0 0) (z1)) (())))], hp := [.row 3 0 r] })
noncomputable def zvr (r : (List Int)) : Tree (Ex × St U) := .leaf (zk6 r)
noncomputable def zyw : Hd := { keep := [1, 2, 8, 9], xkeep := [6, 7, 8], own := false }
noncomputable def zhs : Env U := zE (addF 175 false (z1h8) fns174) (addL 0 zyw (z1f zub zut zxp (z8g none) zvr) noL) 35 0
noncomputable def zx0 : Code := (loopAt (Tryz.f154.body.getD .skip) 0 0).getD .skip
theorem z192 (s : z52) : round zhs zyw zx0 0 (zj1 s) = (z8j s).map (sumE zj1 zk6) := by kernel_rfl
theorem z1i3 : LpOk zhs zx0 0 := zy (A := zub) (B := zut) (f := zxp) (L := z8g none) (zb (z2 (z3 .i64) z6) (zb (z2 z5a z6) (zb (z10 z6) (zb (z2 (z3 .i64) z6) z12)))) (z1m z7) (enc := zj1) (out := zvr) (outS := zk6) (step := z8j) (fun _ => rfl) (fun _ _ => by kernel_rfl) (by kernel_rfl) (fun _ => rfl) z192
theorem z1l8 (x : (List Int) × Int × (List UInt8) × Unit) (g : Unit) : zk zhs Tryz.f154 (z154.enc x) (bNil.enc g) = (zia none x.1 x.2.1 x.2.2.1).map z16o := by kernel_rfl
theorem z1pb : FnOk Tryz.prog cd 154 z17d := zm (E := zhs) zg (za z1vz z186) Tryz.func154 (by kernel_rfl) (z14 (z11 z1i3 z1j)) (ze (zi 3) (ze (z3 .i64) (ze z5a (zd)))) z7 (T := fun x _ => zia none x.1 x.2.1 x.2.2.1) (fun _ _ => rfl) z1l8
noncomputable def fns154 := addF 154 true z17d fns174
theorem z1n4 : zF fns154 := za z1pb z186
structure z2y where
  t0 : (List Int)
  t1 : Int
  t6 : Int
  b0 : (List Int)
noncomputable def z5n (s : z2y) : Tree (z2y ⊕ (List Int)) :=
 .ite (decide (s.t6 < (s.t0.length : Int)))
 (.ite (decide (0 ≤ s.t6))
 (.opt Int (s.t0[(s.t6).toNat]?) fun y496 =>
 .ite (!decide (y496 = s.t1))
 (.ite (decide (0 ≤ s.t6))
 (.opt Int (s.t0[(s.t6).toNat]?) fun y497 =>
 .ite (decide ((s.b0.length + ([y497]).length) * 8 ≤ 140737488355328))
 (.leaf (.inl (z2y.mk s.t0 s.t1 (IntKind.wrap .i64 (s.t6 + (1 : Int))) (s.b0 ++ ([y497])))))
 .fail)
 .fail)
 (.leaf (.inl (z2y.mk s.t0 s.t1 (IntKind.wrap .i64 (s.t6 + (1 : Int))) s.b0))))
 .fail)
 (.leaf (.inr s.b0))
noncomputable def z8m (q : Option Nat) (s : z2y) : Option (List Int) := limQ q (fun s => (z5n s).run) s
noncomputable def zem (q : Option Nat) (x0 : (List Int)) (x1 : Int) : Tree (List Int) :=
 .opt (List Int) (z8m q (z2y.mk x0 x1 (0 : Int) ([]))) fun l498 =>
 .leaf (l498)
noncomputable def zgc (q : Option Nat) (x0 : (List Int)) (x1 : Int) : Option (List Int) := (zem q x0 x1).run
noncomputable def zwn : Arg U ((List Int) × Int × Unit) := aO (cSl 3) (aO (cInt .i64) (aNil))
noncomputable def zy4 (r : (List Int)) : zR := ([vO (cSl 3) r], [])
noncomputable def zye : zS := zf zwn bNil (fun x _ => zgc none x.1 x.2.1) zy4
noncomputable def zq3 (x : ((List Int) × Unit) × (Int × Unit) × (Unit) × (Int × Unit) × Unit) (g : (List Int) × Unit) : z2y := z2y.mk x.1.1 x.2.1.1 x.2.2.2.1.1 g.1
noncomputable def zoj : Tms U (((List Int) × Unit) × (Int × Unit) × (Unit) × (Int × Unit) × Unit) := tO 0 (z0 (cSl 3) (z1)) (tO 1 (z0 (cInt .i64) (z1)) (tO 5 (cK (.row 0 0) (z1)) (tO 6 (z0 (cInt .i64) (z1)) (tNil))))
noncomputable def zom : Bls U ((List Int) × Unit) := bRv 3 0 (bNil)
noncomputable def zf8 (s : z2y) : St U := { tm := [(0, .v (vO (z0 (cSl 3) (z1)) (s.t0, ()))), (1, .v (vO (z0 (cInt .i64) (z1)) (s.t1, ()))), (5, .v (vO (cK (.row 0 0) (z1)) (()))), (6, .v (vO (z0 (cInt .i64) (z1)) (s.t6, ())))], hp := [.row 3 0 s.b0] }
noncomputable def zfg (r : (List Int)) : Ex × St U := (.exit 0, { tm := [(5, .v (vO (cK (.row 0 0) (z1)) (())))], hp := [.row 3 0 r] })
noncomputable def zor (r : (List Int)) : Tree (Ex × St U) := .leaf (zfg r)
noncomputable def zqv : Hd := { keep := [0, 1, 5, 6], xkeep := [4, 5], own := true }
noncomputable def ze3 : Env U := zE fns154 (addL 0 zqv (z1f zoj zom zq3 (z8m none) zor) noL) 27 0
noncomputable def zpy : Code := (loopAt (Tryz.f176.body.getD .skip) 0 0).getD .skip
theorem z112 (s : z2y) : round ze3 zqv zpy 0 (zf8 s) = (z5n s).map (sumE zf8 zfg) := by kernel_rfl
theorem z19v : LpOk ze3 zpy 0 := zy (A := zoj) (B := zom) (f := zq3) (L := z8m none) (zb (z2 (zi 3) z6) (zb (z2 (z3 .i64) z6) (zb (z10 z6) (zb (z2 (z3 .i64) z6) z12)))) (z1m z7) (enc := zf8) (out := zor) (outS := zfg) (step := z5n) (fun _ => rfl) (fun _ _ => by kernel_rfl) (by kernel_rfl) (fun _ => rfl) z112
theorem z1f6 (x : (List Int) × Int × Unit) (g : Unit) : zk ze3 Tryz.f176 (zwn.enc x) (bNil.enc g) = (zem none x.1 x.2.1).map zy4 := by kernel_rfl
theorem z1ij : FnOk Tryz.prog cd 176 zye := zm (E := ze3) zg z1n4 Tryz.func176 (by kernel_rfl) (z14 (z11 z19v z1j)) (ze (zi 3) (ze (z3 .i64) (zd))) z7 (T := fun x _ => zem none x.1 x.2.1) (fun _ _ => rfl) z1f6
noncomputable def fns176 := addF 176 true zye fns154
theorem z1nk : zF fns176 := za z1ij z1n4
structure z3i where
  t0 : (List Int)
  t1 : Int
  t2 : Int
  t7 : Int
noncomputable def z7c (q : Option Nat) (s : z3i) : Tree (z3i ⊕ (List Int)) :=
 .ite (decide (s.t7 < s.t2))
 (.ite (decide ((2 : Int) = 0))
 .fail
 (.opt (List Int) (zgc q s.t0 (IntKind.wrap .i64 ((IntKind.wrap .i64 (((IntKind.wrap .i64 (s.t1 + s.t7))).tdiv (2 : Int))) * (2 : Int)))) fun r499 =>
 .leaf (.inl (z3i.mk r499 s.t1 s.t2 (IntKind.wrap .i64 (s.t7 + (1 : Int)))))))
 (.leaf (.inr s.t0))
noncomputable def z8o (q : Option Nat) (s : z3i) : Option (List Int) := limQ q (fun s => (z7c q s).run) s
noncomputable def zen (q : Option Nat) (x0 : (List Int)) (x1 : Int) (x2 : Int) : Tree (List Int) :=
 .opt (List Int) (z8o q (z3i.mk x0 x1 x2 (0 : Int))) fun l500 =>
 .leaf (l500)
noncomputable def zca (q : Option Nat) (x0 : (List Int)) (x1 : Int) (x2 : Int) : Option (List Int) := (zen q x0 x1 x2).run
noncomputable def zwp : Arg U ((List Int) × Int × Int × Unit) := aO (cSl 3) (aO (cInt .i64) (aO (cInt .i64) (aNil)))
noncomputable def zy6 (r : (List Int)) : zR := ([vO (cSl 3) r], [])
noncomputable def zyg : zS := zf zwp bNil (fun x _ => zca none x.1 x.2.1 x.2.2.1) zy6
noncomputable def zq5 (x : ((List Int) × Unit) × (Int × Unit) × (Int × Unit) × (Int × Unit) × Unit) (_g : Unit) : z3i := z3i.mk x.1.1 x.2.1.1 x.2.2.1.1 x.2.2.2.1.1
noncomputable def zol : Tms U (((List Int) × Unit) × (Int × Unit) × (Int × Unit) × (Int × Unit) × Unit) := tO 0 (z0 (cSl 3) (z1)) (tO 1 (z0 (cInt .i64) (z1)) (tO 2 (z0 (cInt .i64) (z1)) (tO 7 (z0 (cInt .i64) (z1)) (tNil))))
noncomputable def zoo : Bls U (Unit) := bNil
noncomputable def zfa (s : z3i) : St U := { tm := [(0, .v (vO (z0 (cSl 3) (z1)) (s.t0, ()))), (1, .v (vO (z0 (cInt .i64) (z1)) (s.t1, ()))), (2, .v (vO (z0 (cInt .i64) (z1)) (s.t2, ()))), (7, .v (vO (z0 (cInt .i64) (z1)) (s.t7, ())))], hp := [] }
noncomputable def zfh (r : (List Int)) : Ex × St U := (.exit 0, { tm := [(0, .v (vO (z0 (cSl 3) (z1)) (r, ())))], hp := [] })
noncomputable def zot (r : (List Int)) : Tree (Ex × St U) := .leaf (zfh r)
noncomputable def zqx : Hd := { keep := [0, 1, 2, 7], xkeep := [0, 6], own := false }
noncomputable def ze5 : Env U := zE fns176 (addL 0 zqx (z1f zol zoo zq5 (z8o none) zot) noL) 21 0
noncomputable def zq0 : Code := (loopAt (Tryz.f155.body.getD .skip) 0 0).getD .skip
theorem z114 (s : z3i) : round ze5 zqx zq0 0 (zfa s) = (z7c none s).map (sumE zfa zfh) := by kernel_rfl
theorem z19x : LpOk ze5 zq0 0 := zy (A := zol) (B := zoo) (f := zq5) (L := z8o none) (zb (z2 (zi 3) z6) (zb (z2 (z3 .i64) z6) (zb (z2 (z3 .i64) z6) (zb (z2 (z3 .i64) z6) z12)))) z7 (enc := zfa) (out := zot) (outS := zfh) (step := z7c none) (fun _ => rfl) (fun _ _ => by kernel_rfl) (by kernel_rfl) (fun _ => rfl) z114
theorem z1f8 (x : (List Int) × Int × Int × Unit) (g : Unit) : zk ze5 Tryz.f155 (zwp.enc x) (bNil.enc g) = (zen none x.1 x.2.1 x.2.2.1).map zy6 := by kernel_rfl
theorem z1il : FnOk Tryz.prog cd 155 zyg := zm (E := ze5) zg z1nk Tryz.func155 (by kernel_rfl) (z14 (z11 z19x z1j)) (ze (zi 3) (ze (z3 .i64) (ze (z3 .i64) (zd)))) z7 (T := fun x _ => zen none x.1 x.2.1 x.2.2.1) (fun _ _ => rfl) z1f8
noncomputable def fns155 := addF 155 true zyg fns176
theorem z1n5 : zF fns155 := za z1il z1nk
noncomputable def zm2 (q : Option Nat) (x0 : Tape) (x1 : (List Int)) (x2 : (List Int)) : Tree (Tape × (List Int) × (List Int)) :=
 .opt (Tape × Bool) (zdr x0) fun r501 =>
 .ite (!r501.2)
 (.leaf ((r501.1, x1, x2)))
 (.ite (decide (0 ≤ IntKind.wrap .i64 (r501.1.pos - (1 : Int))))
 (.opt (List UInt8) (r501.1.records[(IntKind.wrap .i64 (r501.1.pos - (1 : Int))).toNat]?) fun y502 =>
 .ite (r501.1.error)
 (.ite (decide (0 ≤ (if (y502.length : Int) < r501.1.count then (y502.length : Int) else r501.1.count)))
 (.ite (decide ((if (y502.length : Int) < r501.1.count then (y502.length : Int) else r501.1.count) ≤ ((y502.length : Nat) : Int)))
 (.opt ((List Int) × Int) (zfo q x1 r501.1.addr ((y502.drop (0)).take (((if (y502.length : Int) < r501.1.count then (y502.length : Int) else r501.1.count)).toNat - 0))) fun r503 =>
 .ite (!decide (r503.2 = (0 : Int)))
 (.leaf ((Tape.mk r501.1.records r501.1.pos r501.1.enable r501.1.ready true r501.1.mark r501.1.end_ r501.1.command r501.1.count r501.1.addr r501.1.left, x1, x2)))
 (.opt (List Int) (zca q x2 r501.1.addr (if (y502.length : Int) < r501.1.count then (y502.length : Int) else r501.1.count)) fun r504 =>
 .leaf ((Tape.mk r501.1.records r501.1.pos r501.1.enable r501.1.ready true r501.1.mark r501.1.end_ r501.1.command (IntKind.wrap .i64 (r501.1.count - (if (y502.length : Int) < r501.1.count then (y502.length : Int) else r501.1.count))) r501.1.addr r501.1.left, r503.1, r504))))
 .fail)
 .fail)
 (.ite (decide (0 ≤ (if (y502.length : Int) < r501.1.count then (y502.length : Int) else r501.1.count)))
 (.ite (decide ((if (y502.length : Int) < r501.1.count then (y502.length : Int) else r501.1.count) ≤ ((y502.length : Nat) : Int)))
 (.opt ((List Int) × Int) (zfo q x1 r501.1.addr ((y502.drop (0)).take (((if (y502.length : Int) < r501.1.count then (y502.length : Int) else r501.1.count)).toNat - 0))) fun r505 =>
 .ite (!decide (r505.2 = (0 : Int)))
 (.leaf ((Tape.mk r501.1.records r501.1.pos r501.1.enable r501.1.ready true r501.1.mark r501.1.end_ r501.1.command r501.1.count r501.1.addr r501.1.left, x1, x2)))
 (.opt (List Int) (zca q x2 r501.1.addr (if (y502.length : Int) < r501.1.count then (y502.length : Int) else r501.1.count)) fun r506 =>
 .leaf ((Tape.mk r501.1.records r501.1.pos r501.1.enable r501.1.ready (decide (r501.1.count < (y502.length : Int))) r501.1.mark r501.1.end_ r501.1.command (IntKind.wrap .i64 (r501.1.count - (if (y502.length : Int) < r501.1.count then (y502.length : Int) else r501.1.count))) r501.1.addr r501.1.left, r505.1, r506))))
 .fail)
 .fail))
 .fail)
noncomputable def zpk (q : Option Nat) (x0 : Tape) (x1 : (List Int)) (x2 : (List Int)) : Option (Tape × (List Int) × (List Int)) := (zm2 q x0 x1 x2).run
noncomputable def z1aw : Arg U (Tape × (List Int) × (List Int) × Unit) := aA cTape (aO (cSl 3) (aO (cSl 3) (aNil)))
noncomputable def z1ca (r : (Tape × (List Int) × (List Int))) : zR := ([vA cTape r.1, vO (cSl 3) r.2.1, vO (cSl 3) r.2.2], [])
noncomputable def z1d1 : zS := zf z1aw bNil (fun x _ => zpk none x.1 x.2.1 x.2.2.1) z1ca
noncomputable def z1bl : Env U := zE fns155 noL 74 0
theorem z1q9 (x : Tape × (List Int) × (List Int) × Unit) (g : Unit) : zk z1bl Tryz.f80 (z1aw.enc x) (bNil.enc g) = (zm2 none x.1 x.2.1 x.2.2.1).map z1ca := by kernel_rfl
theorem z1tv : FnOk Tryz.prog cd 80 z1d1 := zm (E := z1bl) zg z1n5 Tryz.func80 (by kernel_rfl) (z9 (by kernel_rfl)) (zu z2z (ze (zi 3) (ze (zi 3) (zd)))) z7 (T := fun x _ => zm2 none x.1 x.2.1 x.2.2.1) (fun _ _ => rfl) z1q9
noncomputable def fns80 := addF 80 true z1d1 fns155
theorem z1so : zF fns80 := za z1tv z1n5
noncomputable def zcz (x0 : Tape) (x1 : (List UInt8)) : Tree Tape :=
 .ite (decide ((64 : Int) ≤ x0.pos))
 (.leaf (Tape.mk x0.records x0.pos x0.enable x0.ready true x0.mark true x0.command x0.count x0.addr x0.left))
 (.ite (decide (0 ≤ x0.pos))
 (.ite (decide (x0.pos ≤ ((x0.records.length : Nat) : Int)))
 (.ite (decide ((([] : List (List UInt8)).length + ((x0.records.drop (0)).take ((x0.pos).toNat - 0)).length) * 16 ≤ 140737488355328))
 (.ite (decide (((([] : List (List UInt8)) ++ ((x0.records.drop (0)).take ((x0.pos).toNat - 0))).length + ([x1]).length) * 16 ≤ 140737488355328))
 (.leaf (Tape.mk ((([] : List (List UInt8)) ++ ((x0.records.drop (0)).take ((x0.pos).toNat - 0))) ++ ([x1])) (IntKind.wrap .i64 (x0.pos + (1 : Int))) x0.enable x0.ready x0.error x0.mark x0.end_ x0.command x0.count x0.addr x0.left))
 .fail)
 .fail)
 .fail)
 .fail)
noncomputable def zbg (x0 : Tape) (x1 : (List UInt8)) : Option Tape := (zcz x0 x1).run
noncomputable def zs9 : Arg U (Tape × (List UInt8) × Unit) := aA cTape (aO cStr (aNil))
noncomputable def zsz (r : Tape) : zR := ([vA cTape r], [])
noncomputable def zt4 : zS := zf zs9 bNil (fun x _ => zbg x.1 x.2.1) zsz
noncomputable def zsl : Env U := zE fns80 noL 27 0
theorem z1ad (x : Tape × (List UInt8) × Unit) (g : Unit) : zk zsl Tryz.f84 (zs9.enc x) (bNil.enc g) = (zcz x.1 x.2.1).map zsz := by kernel_rfl
theorem z1ei : FnOk Tryz.prog cd 84 zt4 := zm (E := zsl) zg z1so Tryz.func84 (by kernel_rfl) (z9 (by kernel_rfl)) (zu z2z (ze z5a (zd))) z7 (T := fun x _ => zcz x.1 x.2.1) (fun _ _ => rfl) z1ad
noncomputable def fns84 := addF 84 true zt4 fns80
theorem z1ss : zF fns84 := za z1ei z1so
noncomputable def zlu (x0 : (List Int)) (x1 : Int) : Tree Int :=
 .ite (decide ((2 : Int) = 0))
 .fail
 (.ite (decide (((x1).tmod (2 : Int)) = (0 : Int)))
 (.ite (decide ((2 : Int) = 0))
 .fail
 (.ite (decide (0 ≤ IntKind.wrap .i64 ((x1).tdiv (2 : Int))))
 (.opt Int (x0[(IntKind.wrap .i64 ((x1).tdiv (2 : Int))).toNat]?) fun y507 =>
 .leaf (IntKind.wrap .i64 (((BitVec.ofInt 64 y507 &&& BitVec.ofInt 64 (255 : Int)).toNat : Int))))
 .fail))
 (.ite (decide ((2 : Int) = 0))
 .fail
 (.ite (decide (0 ≤ IntKind.wrap .i64 ((x1).tdiv (2 : Int))))
 (.opt Int (x0[(IntKind.wrap .i64 ((x1).tdiv (2 : Int))).toNat]?) fun y508 =>
 .ite (decide (0 ≤ (8 : Int)))
 (.leaf (IntKind.wrap .i64 (((BitVec.ofInt 64 ((y508).fdiv (2 ^ (min ((8 : Int)).toNat 64))) &&& BitVec.ofInt 64 (255 : Int)).toNat : Int))))
 .fail)
 .fail)))
noncomputable def zpg (x0 : (List Int)) (x1 : Int) : Option Int := (zlu x0 x1).run
noncomputable def z1al : Arg U ((List Int) × Int × Unit) := aO (cSl 3) (aO (cInt .i64) (aNil))
noncomputable def z1bz (r : Int) : zR := ([vO (cInt .i64) r], [])
noncomputable def z1cq : zS := zf z1al bNil (fun x _ => zpg x.1 x.2.1) z1bz
noncomputable def z1bc : Env U := zE fns84 noL 21 0
theorem z1py (x : (List Int) × Int × Unit) (g : Unit) : zk z1bc Tryz.f177 (z1al.enc x) (bNil.enc g) = (zlu x.1 x.2.1).map z1bz := by kernel_rfl
theorem z1tk : FnOk Tryz.prog cd 177 z1cq := zm (E := z1bc) zg z1ss Tryz.func177 (by kernel_rfl) (z9 (by kernel_rfl)) (ze (zi 3) (ze (z3 .i64) (zd))) z7 (T := fun x _ => zlu x.1 x.2.1) (fun _ _ => rfl) z1py
noncomputable def fns177 := addF 177 true z1cq fns84
theorem z1nl : zF fns177 := za z1tk z1ss
structure z50 where
  t0 : (List Int)
  t1 : Int
  t2 : Int
  t9 : Int
  b0 : (List Int)
noncomputable def z8i (s : z50) : Tree (z50 ⊕ (List Int)) :=
 .ite (decide (s.t9 < s.t2))
 (.opt Int (zpg s.t0 (IntKind.wrap .i64 (s.t1 + s.t9))) fun r510 =>
 .ite (decide ((s.b0.length + ([IntKind.wrap .u8 r510]).length) * 1 ≤ 140737488355328))
 (.leaf (.inl (z50.mk s.t0 s.t1 s.t2 (IntKind.wrap .i64 (s.t9 + (1 : Int))) (s.b0 ++ ([IntKind.wrap .u8 r510])))))
 .fail)
 (.leaf (.inr s.b0))
noncomputable def z8f (q : Option Nat) (s : z50) : Option (List Int) := limQ q (fun s => (z8i s).run) s
noncomputable def zi7 (q : Option Nat) (x0 : (List Int)) (x1 : Int) (x2 : Int) : Tree ((List UInt8) × Int) :=
 .opt Bool (zjm x0 x1 x2) fun r509 =>
 .ite (!r509)
 (.leaf ((([] : List UInt8), (2 : Int))))
 (.opt (List Int) (z8f q (z50.mk x0 x1 x2 (0 : Int) ([]))) fun l511 =>
 .leaf ((l511.map fun x => UInt8.ofNat x.toNat, (0 : Int))))
noncomputable def zmk (q : Option Nat) (x0 : (List Int)) (x1 : Int) (x2 : Int) : Option ((List UInt8) × Int) := (zi7 q x0 x1 x2).run
noncomputable def z152 : Arg U ((List Int) × Int × Int × Unit) := aO (cSl 3) (aO (cInt .i64) (aO (cInt .i64) (aNil)))
noncomputable def z16m (r : ((List UInt8) × Int)) : zR := ([vO cStr r.1, vO (cInt .i64) r.2], [])
noncomputable def z17b : zS := zf z152 bNil (fun x _ => zmk none x.1 x.2.1 x.2.2.1) z16m
noncomputable def zxm (x : ((List Int) × Unit) × (Int × Unit) × (Int × Unit) × (Unit) × (Int × Unit) × Unit) (g : (List Int) × Unit) : z50 := z50.mk x.1.1 x.2.1.1 x.2.2.1.1 x.2.2.2.2.1.1 g.1
noncomputable def zu8 : Tms U (((List Int) × Unit) × (Int × Unit) × (Int × Unit) × (Unit) × (Int × Unit) × Unit) := tO 0 (z0 (cSl 3) (z1)) (tO 1 (z0 (cInt .i64) (z1)) (tO 2 (z0 (cInt .i64) (z1)) (tO 8 (cK (.row 0 0) (z1)) (tO 9 (z0 (cInt .i64) (z1)) (tNil)))))
noncomputable def zuq : Bls U ((List Int) × Unit) := bRv 5 0 (bNil)
noncomputable def ziy (s : z50) : St U := { tm := [(0, .v (vO (z0 (cSl 3) (z1)) (s.t0, ()))), (1, .v (vO (z0 (cInt .i64) (z1)) (s.t1, ()))), (2, .v (vO (z0 (cInt .i64) (z1)) (s.t2, ()))), (8, .v (vO (cK (.row 0 0) (z1)) (()))), (9, .v (vO (z0 (cInt .i64) (z1)) (s.t9, ())))], hp := [.row 5 0 s.b0] }
noncomputable def zk5 (r : (List Int)) : Ex × St U := (.exit 0, { tm := [(8, .v (vO (cK (.row 0 0) (z1)) (())))], hp := [.row 5 0 r] })
noncomputable def zvo (r : (List Int)) : Tree (Ex × St U) := .leaf (zk5 r)
noncomputable def zyt : Hd := { keep := [0, 1, 2, 8, 9], xkeep := [6, 7, 8], own := true }
noncomputable def zhr : Env U := zE fns177 (addL 0 zyt (z1f zu8 zuq zxm (z8f none) zvo) noL) 31 0
noncomputable def zwx : Code := (loopAt (Tryz.f156.body.getD .skip) 0 0).getD .skip
theorem z18z (s : z50) : round zhr zyt zwx 0 (ziy s) = (z8i s).map (sumE ziy zk5) := by kernel_rfl
theorem z1i0 : LpOk zhr zwx 0 := zy (A := zu8) (B := zuq) (f := zxm) (L := z8f none) (zb (z2 (zi 3) z6) (zb (z2 (z3 .i64) z6) (zb (z2 (z3 .i64) z6) (zb (z10 z6) (zb (z2 (z3 .i64) z6) z12))))) (z1m z7) (enc := ziy) (out := zvo) (outS := zk5) (step := z8i) (fun _ => rfl) (fun _ _ => by kernel_rfl) (by kernel_rfl) (fun _ => rfl) z18z
theorem z1l6 (x : (List Int) × Int × Int × Unit) (g : Unit) : zk zhr Tryz.f156 (z152.enc x) (bNil.enc g) = (zi7 none x.1 x.2.1 x.2.2.1).map z16m := by kernel_rfl
theorem z1p9 : FnOk Tryz.prog cd 156 z17b := zm (E := zhr) zg z1nl Tryz.func156 (by kernel_rfl) (z14 (z11 z1i0 z1j)) (ze (zi 3) (ze (z3 .i64) (ze (z3 .i64) (zd)))) z7 (T := fun x _ => zi7 none x.1 x.2.1 x.2.2.1) (fun _ _ => rfl) z1l6
noncomputable def fns156 := addF 156 true z17b fns177
theorem z1n6 : zF fns156 := za z1p9 z1nl
structure z6e where
  t0 : (List Int)
  t1 : Int
  t5 : Int
noncomputable def z8t (s : z6e) : Tree (z6e ⊕ (Bool ⊕ Unit)) :=
 .ite (decide (s.t5 < (s.t0.length : Int)))
 (.ite (decide (0 ≤ s.t5))
 (.opt Int (s.t0[(s.t5).toNat]?) fun y512 =>
 .ite (decide (y512 = s.t1))
 (.leaf (.inr (.inl true)))
 (.leaf (.inl (z6e.mk s.t0 s.t1 (IntKind.wrap .i64 (s.t5 + (1 : Int)))))))
 .fail)
 (.leaf (.inr (.inr ())))
noncomputable def zd7 (q : Option Nat) (s : z6e) : Option (Bool ⊕ Unit) := limQ q (fun s => (z8t s).run) s
noncomputable def zi8 (q : Option Nat) (x0 : (List Int)) (x1 : Int) : Tree Bool :=
 .opt (Bool ⊕ Unit) (zd7 q (z6e.mk x0 x1 (0 : Int))) fun l513 =>
 .ite (l513.isLeft)
 (.opt Bool (l513.getLeft?) fun a514 =>
 .leaf (a514))
 (.opt Unit (l513.getRight?) fun b515 =>
 .leaf (false))
noncomputable def zn9 (q : Option Nat) (x0 : (List Int)) (x1 : Int) : Option Bool := (zi8 q x0 x1).run
noncomputable def z1fq : Arg U ((List Int) × Int × Unit) := aO (cSl 3) (aO (cInt .i64) (aNil))
noncomputable def z1gm (r : Bool) : zR := ([vO z8 r], [])
noncomputable def z1h6 : zS := zf z1fq bNil (fun x _ => zn9 none x.1 x.2.1) z1gm
noncomputable def z166 (x : ((List Int) × Unit) × (Int × Unit) × (Int × Unit) × Unit) (_g : Unit) : z6e := z6e.mk x.1.1 x.2.1.1 x.2.2.1.1
noncomputable def z13s : Tms U (((List Int) × Unit) × (Int × Unit) × (Int × Unit) × Unit) := tO 0 (z0 (cSl 3) (z1)) (tO 1 (z0 (cInt .i64) (z1)) (tO 5 (z0 (cInt .i64) (z1)) (tNil)))
noncomputable def z13z : Bls U (Unit) := bNil
noncomputable def znz (s : z6e) : St U := { tm := [(0, .v (vO (z0 (cSl 3) (z1)) (s.t0, ()))), (1, .v (vO (z0 (cInt .i64) (z1)) (s.t1, ()))), (5, .v (vO (z0 (cInt .i64) (z1)) (s.t5, ())))], hp := [] }
noncomputable def z146 : (Bool ⊕ Unit) → Ex × St U
  | .inl r => (.ret, { tm := [(4, .v (vO (z0 z8 (z1)) (r, ())))], hp := [] })
  | .inr r => (.exit 0, { tm := [], hp := [] })
noncomputable def z14b (y : (Bool ⊕ Unit)) : Tree (Ex × St U) := .ite y.isLeft (.opt Bool y.getLeft? fun r => .leaf (.ret, { tm := [(4, .v (vO (z0 z8 (z1)) (r, ())))], hp := [] })) (.opt Unit y.getRight? fun r => .leaf (.exit 0, { tm := [], hp := [] }))
noncomputable def z18b : Hd := { keep := [0, 1, 5], xkeep := [4], own := false }
noncomputable def zow : Env U := zE fns156 (addL 0 z18b (z1f z13s z13z z166 (zd7 none) z14b) noL) 18 0
noncomputable def z15k : Code := (loopAt (Tryz.f178.body.getD .skip) 0 0).getD .skip
theorem z1eu (s : z6e) : round zow z18b z15k 0 (znz s) = (z8t s).map (sumE znz z146) := by kernel_rfl
theorem z1ot : LpOk zow z15k 0 := zy (A := z13s) (B := z13z) (f := z166) (L := zd7 none) (zb (z2 (zi 3) z6) (zb (z2 (z3 .i64) z6) (zb (z2 (z3 .i64) z6) z12))) z7 (enc := znz) (out := z14b) (outS := z146) (step := z8t) (fun _ => rfl) (fun _ _ => by kernel_rfl) (by kernel_rfl) (fun b => by cases b <;> rfl) z1eu
theorem z1uo (x : (List Int) × Int × Unit) (g : Unit) : zk zow Tryz.f178 (z1fq.enc x) (bNil.enc g) = (zi8 none x.1 x.2.1).map z1gm := by kernel_rfl
theorem z1vx : FnOk Tryz.prog cd 178 z1h6 := zm (E := zow) zg z1n6 Tryz.func178 (by kernel_rfl) (z14 (z11 z1ot z1j)) (ze (zi 3) (ze (z3 .i64) (zd))) z7 (T := fun x _ => zi8 none x.1 x.2.1) (fun _ _ => rfl) z1uo
noncomputable def fns178 := addF 178 true z1h6 fns156
theorem z1nm : zF fns178 := za z1vx z1n6
structure z43 where
  t0 : (List Int)
  t1 : Int
  t2 : Int
  t7 : Int
noncomputable def z6g (q : Option Nat) (s : z43) : Tree (z43 ⊕ (Bool ⊕ Unit)) :=
 .ite (decide (s.t7 < s.t2))
 (.ite (decide ((2 : Int) = 0))
 .fail
 (.opt Bool (zn9 q s.t0 (IntKind.wrap .i64 ((IntKind.wrap .i64 (((IntKind.wrap .i64 (s.t1 + s.t7))).tdiv (2 : Int))) * (2 : Int)))) fun r516 =>
 .ite (r516)
 (.leaf (.inr (.inl true)))
 (.leaf (.inl (z43.mk s.t0 s.t1 s.t2 (IntKind.wrap .i64 (s.t7 + (1 : Int))))))))
 (.leaf (.inr (.inr ())))
noncomputable def za6 (q : Option Nat) (s : z43) : Option (Bool ⊕ Unit) := limQ q (fun s => (z6g q s).run) s
noncomputable def zc7 (q : Option Nat) (x0 : (List Int)) (x1 : Int) (x2 : Int) : Tree Bool :=
 .opt (Bool ⊕ Unit) (za6 q (z43.mk x0 x1 x2 (0 : Int))) fun l517 =>
 .ite (l517.isLeft)
 (.opt Bool (l517.getLeft?) fun a518 =>
 .leaf (a518))
 (.opt Unit (l517.getRight?) fun b519 =>
 .leaf (false))
noncomputable def zds (q : Option Nat) (x0 : (List Int)) (x1 : Int) (x2 : Int) : Option Bool := (zc7 q x0 x1 x2).run
noncomputable def z11t : Arg U ((List Int) × Int × Int × Unit) := aO (cSl 3) (aO (cInt .i64) (aO (cInt .i64) (aNil)))
noncomputable def z12t (r : Bool) : zR := ([vO z8 r], [])
noncomputable def z13b : zS := zf z11t bNil (fun x _ => zds none x.1 x.2.1 x.2.2.1) z12t
noncomputable def zsv (x : ((List Int) × Unit) × (Int × Unit) × (Int × Unit) × (Int × Unit) × Unit) (_g : Unit) : z43 := z43.mk x.1.1 x.2.1.1 x.2.2.1.1 x.2.2.2.1.1
noncomputable def zrj : Tms U (((List Int) × Unit) × (Int × Unit) × (Int × Unit) × (Int × Unit) × Unit) := tO 0 (z0 (cSl 3) (z1)) (tO 1 (z0 (cInt .i64) (z1)) (tO 2 (z0 (cInt .i64) (z1)) (tO 7 (z0 (cInt .i64) (z1)) (tNil))))
noncomputable def zrr : Bls U (Unit) := bNil
noncomputable def zgo (s : z43) : St U := { tm := [(0, .v (vO (z0 (cSl 3) (z1)) (s.t0, ()))), (1, .v (vO (z0 (cInt .i64) (z1)) (s.t1, ()))), (2, .v (vO (z0 (cInt .i64) (z1)) (s.t2, ()))), (7, .v (vO (z0 (cInt .i64) (z1)) (s.t7, ())))], hp := [] }
noncomputable def zrx : (Bool ⊕ Unit) → Ex × St U
  | .inl r => (.ret, { tm := [(6, .v (vO (z0 z8 (z1)) (r, ())))], hp := [] })
  | .inr r => (.exit 0, { tm := [], hp := [] })
noncomputable def zs5 (y : (Bool ⊕ Unit)) : Tree (Ex × St U) := .ite y.isLeft (.opt Bool y.getLeft? fun r => .leaf (.ret, { tm := [(6, .v (vO (z0 z8 (z1)) (r, ())))], hp := [] })) (.opt Unit y.getRight? fun r => .leaf (.exit 0, { tm := [], hp := [] }))
noncomputable def ztm : Hd := { keep := [0, 1, 2, 7], xkeep := [6], own := false }
noncomputable def zg0 : Env U := zE fns178 (addL 0 ztm (z1f zrj zrr zsv (za6 none) zs5) noL) 20 0
noncomputable def zsi : Code := (loopAt (Tryz.f157.body.getD .skip) 0 0).getD .skip
theorem z14o (s : z43) : round zg0 ztm zsi 0 (zgo s) = (z6g none s).map (sumE zgo zrx) := by kernel_rfl
theorem z1e9 : LpOk zg0 zsi 0 := zy (A := zrj) (B := zrr) (f := zsv) (L := za6 none) (zb (z2 (zi 3) z6) (zb (z2 (z3 .i64) z6) (zb (z2 (z3 .i64) z6) (zb (z2 (z3 .i64) z6) z12)))) z7 (enc := zgo) (out := zs5) (outS := zrx) (step := z6g none) (fun _ => rfl) (fun _ _ => by kernel_rfl) (by kernel_rfl) (fun b => by cases b <;> rfl) z14o
theorem z1ja (x : (List Int) × Int × Int × Unit) (g : Unit) : zk zg0 Tryz.f157 (z11t.enc x) (bNil.enc g) = (zc7 none x.1 x.2.1 x.2.2.1).map z12t := by kernel_rfl
theorem z1kj : FnOk Tryz.prog cd 157 z13b := zm (E := zg0) zg z1nm Tryz.func157 (by kernel_rfl) (z14 (z11 z1e9 z1j)) (ze (zi 3) (ze (z3 .i64) (ze (z3 .i64) (zd)))) z7 (T := fun x _ => zc7 none x.1 x.2.1 x.2.2.1) (fun _ _ => rfl) z1ja
noncomputable def fns157 := addF 157 true z13b fns178
theorem z1n7 : zF fns157 := za z1kj z1nm
noncomputable def zij (q : Option Nat) (x0 : Tape) (x1 : (List Int)) (x2 : (List Int)) : Tree Tape :=
 .opt ((List UInt8) × Int) (zmk q x1 x0.addr x0.count) fun r520 =>
 .ite (decide (x0.count < (1 : Int)))
 (.leaf (Tape.mk x0.records x0.pos x0.enable x0.ready true x0.mark x0.end_ x0.command x0.count x0.addr x0.left))
 (.ite (decide ((512 : Int) < x0.count))
 (.leaf (Tape.mk x0.records x0.pos x0.enable x0.ready true x0.mark x0.end_ x0.command x0.count x0.addr x0.left))
 (.ite (!decide (r520.2 = (0 : Int)))
 (.leaf (Tape.mk x0.records x0.pos x0.enable x0.ready true x0.mark x0.end_ x0.command x0.count x0.addr x0.left))
 (.opt Bool (zds q x2 x0.addr x0.count) fun r521 =>
 .ite (r521)
 (.leaf (Tape.mk x0.records x0.pos x0.enable x0.ready true x0.mark x0.end_ x0.command x0.count x0.addr x0.left))
 (.opt Tape (zbg x0 r520.1) fun r522 =>
 .leaf (r522)))))
noncomputable def zmp (q : Option Nat) (x0 : Tape) (x1 : (List Int)) (x2 : (List Int)) : Option Tape := (zij q x0 x1 x2).run
noncomputable def z15e : Arg U (Tape × (List Int) × (List Int) × Unit) := aA cTape (aO (cSl 3) (aO (cSl 3) (aNil)))
noncomputable def z16y (r : Tape) : zR := ([vA cTape r], [])
noncomputable def z17n : zS := zf z15e bNil (fun x _ => zmp none x.1 x.2.1 x.2.2.1) z16y
noncomputable def z161 : Env U := zE fns157 noL 43 0
theorem z1li (x : Tape × (List Int) × (List Int) × Unit) (g : Unit) : zk z161 Tryz.f81 (z15e.enc x) (bNil.enc g) = (zij none x.1 x.2.1 x.2.2.1).map z16y := by kernel_rfl
theorem z1pl : FnOk Tryz.prog cd 81 z17n := zm (E := z161) zg z1n7 Tryz.func81 (by kernel_rfl) (z9 (by kernel_rfl)) (zu z2z (ze (zi 3) (ze (zi 3) (zd)))) z7 (T := fun x _ => zij none x.1 x.2.1 x.2.2.1) (fun _ _ => rfl) z1li
noncomputable def fns81 := addF 81 true z17n fns157
theorem z1sp : zF fns81 := za z1pl z1n7
noncomputable def zm1 (x0 : Tape) : Tree Tape :=
 .ite (decide (x0.pos = (0 : Int)))
 (.leaf (Tape.mk x0.records x0.pos x0.enable x0.ready x0.error x0.mark true x0.command x0.count x0.addr x0.left))
 (.ite (x0.mark)
 (.leaf (Tape.mk x0.records (IntKind.wrap .i64 (x0.pos - (1 : Int))) x0.enable x0.ready x0.error true x0.end_ x0.command x0.count x0.addr x0.left))
 (.ite (decide (0 ≤ IntKind.wrap .i64 (x0.pos - (1 : Int))))
 (.opt (List UInt8) (x0.records[(IntKind.wrap .i64 (x0.pos - (1 : Int))).toNat]?) fun y523 =>
 .leaf (Tape.mk x0.records (IntKind.wrap .i64 (x0.pos - (1 : Int))) x0.enable x0.ready x0.error (decide (y523 = ([] : List UInt8))) x0.end_ x0.command x0.count x0.addr x0.left))
 .fail))
noncomputable def zpj (x0 : Tape) : Option Tape := (zm1 x0).run
noncomputable def z1av : Arg U (Tape × Unit) := aA cTape (aNil)
noncomputable def z1c9 (r : Tape) : zR := ([vA cTape r], [])
noncomputable def z1d0 : zS := zf z1av bNil (fun x _ => zpj x.1) z1c9
noncomputable def z1bk : Env U := zE fns81 noL 25 0
theorem z1q8 (x : Tape × Unit) (g : Unit) : zk z1bk Tryz.f83 (z1av.enc x) (bNil.enc g) = (zm1 x.1).map z1c9 := by kernel_rfl
theorem z1tu : FnOk Tryz.prog cd 83 z1d0 := zm (E := z1bk) zg z1sp Tryz.func83 (by kernel_rfl) (z9 (by kernel_rfl)) (zu z2z (zd)) z7 (T := fun x _ => zm1 x.1) (fun _ _ => rfl) z1q8
noncomputable def fns83 := addF 83 true z1d0 fns81
theorem z1sr : zF fns83 := za z1tu z1sp
noncomputable def zm0 (q : Option Nat) (x0 : Tape) (x1 : (List Int)) (x2 : (List Int)) : Tree (Tape × (List Int) × (List Int)) :=
 .ite (decide (x0.left ≤ (0 : Int)))
 (.leaf ((x0, x1, x2)))
 (.ite (decide ((0 : Int) < (IntKind.wrap .i64 (x0.left - (1 : Int)))))
 (.leaf ((Tape.mk x0.records x0.pos x0.enable x0.ready x0.error x0.mark x0.end_ x0.command x0.count x0.addr (IntKind.wrap .i64 (x0.left - (1 : Int))), x1, x2)))
 (.ite (decide (x0.command = (1 : Int)))
 (.opt (Tape × (List Int) × (List Int)) (zpk q (Tape.mk x0.records x0.pos x0.enable true x0.error x0.mark x0.end_ x0.command x0.count x0.addr (IntKind.wrap .i64 (x0.left - (1 : Int)))) x1 x2) fun r524 =>
 .leaf ((r524.1, r524.2.1, r524.2.2)))
 (.ite (decide (x0.command = (2 : Int)))
 (.opt Tape (zmp q (Tape.mk x0.records x0.pos x0.enable true x0.error x0.mark x0.end_ x0.command x0.count x0.addr (IntKind.wrap .i64 (x0.left - (1 : Int)))) x1 x2) fun r525 =>
 .leaf ((r525, x1, x2)))
 (.ite (decide (x0.command = (3 : Int)))
 (.opt (Tape × Bool) (zdr (Tape.mk x0.records x0.pos x0.enable true x0.error x0.mark x0.end_ x0.command x0.count x0.addr (IntKind.wrap .i64 (x0.left - (1 : Int))))) fun r526 =>
 .leaf ((r526.1, x1, x2)))
 (.ite (decide (x0.command = (4 : Int)))
 (.opt Tape (zpj (Tape.mk x0.records x0.pos x0.enable true x0.error x0.mark x0.end_ x0.command x0.count x0.addr (IntKind.wrap .i64 (x0.left - (1 : Int))))) fun r527 =>
 .leaf ((r527, x1, x2)))
 (.ite (decide (x0.command = (5 : Int)))
 (.leaf ((Tape.mk x0.records (0 : Int) x0.enable true x0.error x0.mark x0.end_ x0.command x0.count x0.addr (IntKind.wrap .i64 (x0.left - (1 : Int))), x1, x2)))
 (.ite (decide (x0.command = (6 : Int)))
 (.opt Tape (zbg (Tape.mk x0.records x0.pos x0.enable true x0.error x0.mark x0.end_ x0.command x0.count x0.addr (IntKind.wrap .i64 (x0.left - (1 : Int)))) ([] : List UInt8)) fun r528 =>
 .leaf ((r528, x1, x2)))
 (.leaf ((Tape.mk x0.records x0.pos x0.enable true x0.error x0.mark x0.end_ x0.command x0.count x0.addr (IntKind.wrap .i64 (x0.left - (1 : Int))), x1, x2))))))))))
noncomputable def zew (q : Option Nat) (x0 : Tape) (x1 : (List Int)) (x2 : (List Int)) : Option (Tape × (List Int) × (List Int)) := (zm0 q x0 x1 x2).run
noncomputable def z1au : Arg U (Tape × (List Int) × (List Int) × Unit) := aA cTape (aO (cSl 3) (aO (cSl 3) (aNil)))
noncomputable def z1c8 (r : (Tape × (List Int) × (List Int))) : zR := ([vA cTape r.1, vO (cSl 3) r.2.1, vO (cSl 3) r.2.2], [])
noncomputable def z1cz : zS := zf z1au bNil (fun x _ => zew none x.1 x.2.1 x.2.2.1) z1c8
noncomputable def z1bj : Env U := zE fns83 noL 66 0
theorem z1q7 (x : Tape × (List Int) × (List Int) × Unit) (g : Unit) : zk z1bj Tryz.f32 (z1au.enc x) (bNil.enc g) = (zm0 none x.1 x.2.1 x.2.2.1).map z1c8 := by kernel_rfl
theorem z1tt : FnOk Tryz.prog cd 32 z1cz := zm (E := z1bj) zg z1sr Tryz.func32 (by kernel_rfl) (z9 (by kernel_rfl)) (zu z2z (ze (zi 3) (ze (zi 3) (zd)))) z7 (T := fun x _ => zm0 none x.1 x.2.1 x.2.2.1) (fun _ _ => rfl) z1q7
noncomputable def fns32 := addF 32 true z1cz fns83
theorem z1rv : zF fns32 := za z1tt z1sr
structure z3k where
  t4 : Int
  b0 : Machine
  b1_0 : (List Int)
  b1_1 : (List Int)
  b1_2 : Int
  b1_3 : Int
  b1_6 : Bool
  b1_7 : (List Page)
  b1_8 : Int
  b1_9 : Int
  b1_10 : Bool
  b1_11 : Bool
  b1_12 : Int
  b1_13 : Int
  b1_17 : Bool
  b1_18 : Bool
  b1_19 : Bool
  b1_20 : Int
  b1_21 : Int
  b1_22 : Int
  b1_23 : Int
  b1_24 : Int
  b1_26 : Int
  b1_27 : Bool
  b1_28 : Bool
  b1_29 : Bool
  b1_30 : Bool
  b1_31 : Bool
  b1_32 : Int
  b1_33 : Int
  b1_34 : Int
  b1_35 : Int
  b1_36 : Int
  b1_37 : Bool
  b1_38 : Bool
  b1_39 : Int
  b1_40 : Bool
  b2 : (List Line)
  b3 : (List Int)
  b4 : (List Int)
  b5 : (List Line)
  b6 : (List (List UInt8))
  b7 : (List Int)
  b8 : (List (List UInt8))
abbrev ztb0 : Type := Machine × (List Int) × (List Int) × Int × Int × Bool × (List Page) × Int × Int × Bool × Bool × Int × Int × Bool × Bool × Bool × Int × Int × Int × Int × Int × Int × Bool × Bool × Bool × Bool × Bool × Int × Int × Int × Int × Int × Bool × Bool × Int × Bool × (List Line) × (List Int) × (List Int) × (List Line) × (List (List UInt8)) × (List Int) × (List (List UInt8))
noncomputable def z6l (s : z3k) : Tree (z3k ⊕ ztb0) :=
 .ite (decide (s.t4 < (s.b0.lines.length : Int)))
 (.ite (decide (0 ≤ s.t4))
 (.opt Line (s.b0.lines[(s.t4).toNat]?) fun y530 =>
 .opt Line (zph y530) fun r531 =>
 .ite (decide ((s.b2.length + ([r531]).length) * 56 ≤ 140737488355328))
 (.leaf (.inl (z3k.mk (IntKind.wrap .i64 (s.t4 + (1 : Int))) s.b0 s.b1_0 s.b1_1 s.b1_2 s.b1_3 s.b1_6 s.b1_7 s.b1_8 s.b1_9 s.b1_10 s.b1_11 s.b1_12 s.b1_13 s.b1_17 s.b1_18 s.b1_19 s.b1_20 s.b1_21 s.b1_22 s.b1_23 s.b1_24 s.b1_26 s.b1_27 s.b1_28 s.b1_29 s.b1_30 s.b1_31 s.b1_32 s.b1_33 s.b1_34 s.b1_35 s.b1_36 s.b1_37 s.b1_38 s.b1_39 s.b1_40 (s.b2 ++ ([r531])) s.b3 s.b4 s.b5 s.b6 s.b7 s.b8)))
 .fail)
 .fail)
 (.leaf (.inr (s.b0, s.b1_0, s.b1_1, s.b1_2, s.b1_3, s.b1_6, s.b1_7, s.b1_8, s.b1_9, s.b1_10, s.b1_11, s.b1_12, s.b1_13, s.b1_17, s.b1_18, s.b1_19, s.b1_20, s.b1_21, s.b1_22, s.b1_23, s.b1_24, s.b1_26, s.b1_27, s.b1_28, s.b1_29, s.b1_30, s.b1_31, s.b1_32, s.b1_33, s.b1_34, s.b1_35, s.b1_36, s.b1_37, s.b1_38, s.b1_39, s.b1_40, s.b2, s.b3, s.b4, s.b5, s.b6, s.b7, s.b8)))
noncomputable def zc0 (q : Option Nat) (s : z3k) : Option ztb0 := limQ q (fun s => (z6l s).run) s
noncomputable def zm4 (q : Option Nat) (x0 : Machine) : Tree Machine :=
 .opt Clock (zjn x0.clock) fun r529 =>
 .opt ztb0 (zc0 q (z3k.mk (0 : Int) (Machine.mk x0.cpu x0.mem x0.bad x0.mmu r529 x0.lines x0.disk x0.tape x0.now x0.halted x0.waiting x0.power x0.powerTrap) (List.replicate 6 (0 : Int)) (List.replicate 2 (0 : Int)) 0 0 false (List.replicate 16 (Page.mk (0 : Int) (0 : Int) (0 : Int) false)) 0 0 false false 0 0 false false false 0 0 0 0 0 0 false false false false false 0 0 0 0 0 false false 0 false ([]) ([]) ([]) ([]) ([]) ([]) ([]))) fun l532 =>
 .opt (Disk × (List Int) × (List Int)) (z1h q l532.1.disk l532.1.mem l532.1.bad) fun r533 =>
 .opt (Tape × (List Int) × (List Int)) (zew q l532.1.tape r533.2.1 r533.2.2) fun r534 =>
 .leaf (Machine.mk l532.1.cpu r534.2.1 r534.2.2 l532.1.mmu l532.1.clock l532.2.2.2.2.2.2.2.2.2.2.2.2.2.2.2.2.2.2.2.2.2.2.2.2.2.2.2.2.2.2.2.2.2.2.2.2.1 r533.1 r534.1 l532.1.now l532.1.halted l532.1.waiting l532.1.power l532.1.powerTrap)
noncomputable def zpl (q : Option Nat) (x0 : Machine) : Option Machine := (zm4 q x0).run
noncomputable def z1ay : Arg U (Machine × Unit) := aA zj (aNil)
noncomputable def z1cc (r : Machine) : zR := ([vA zj r], [])
noncomputable def z1d3 : zS := zf z1ay bNil (fun x _ => zpl none x.1) z1cc
abbrev ztb1 : Type := (List Int) × (List Int) × Int × Int × Bool × (List Page) × Int × Int × Bool × Bool × Int × Int × Bool × Bool × Bool × Int × Int × Int × Int × Int × Int × Bool × Bool × Bool × Bool × Bool × Int × Int × Int × Int × Int × Bool × Bool × Int × Bool × Unit
noncomputable def z12d (x : (Unit) × (Unit) × (Unit) × (Int × Unit) × Unit) (g : (Machine × Unit) × ztb1 × (List Line) × (List Int) × (List Int) × (List Line) × (List (List UInt8)) × (List Int) × (List (List UInt8)) × Unit) : z3k := z3k.mk x.2.2.2.1.1 g.1.1 g.2.1.1 g.2.1.2.1 g.2.1.2.2.1 g.2.1.2.2.2.1 g.2.1.2.2.2.2.1 g.2.1.2.2.2.2.2.1 g.2.1.2.2.2.2.2.2.1 g.2.1.2.2.2.2.2.2.2.1 g.2.1.2.2.2.2.2.2.2.2.1 g.2.1.2.2.2.2.2.2.2.2.2.1 g.2.1.2.2.2.2.2.2.2.2.2.2.1 g.2.1.2.2.2.2.2.2.2.2.2.2.2.1 g.2.1.2.2.2.2.2.2.2.2.2.2.2.2.1 g.2.1.2.2.2.2.2.2.2.2.2.2.2.2.2.1 g.2.1.2.2.2.2.2.2.2.2.2.2.2.2.2.2.1 g.2.1.2.2.2.2.2.2.2.2.2.2.2.2.2.2.2.1 g.2.1.2.2.2.2.2.2.2.2.2.2.2.2.2.2.2.2.1 g.2.1.2.2.2.2.2.2.2.2.2.2.2.2.2.2.2.2.2.1 g.2.1.2.2.2.2.2.2.2.2.2.2.2.2.2.2.2.2.2.2.1 g.2.1.2.2.2.2.2.2.2.2.2.2.2.2.2.2.2.2.2.2.2.1 g.2.1.2.2.2.2.2.2.2.2.2.2.2.2.2.2.2.2.2.2.2.2.1 g.2.1.2.2.2.2.2.2.2.2.2.2.2.2.2.2.2.2.2.2.2.2.2.1 g.2.1.2.2.2.2.2.2.2.2.2.2.2.2.2.2.2.2.2.2.2.2.2.2.1 g.2.1.2.2.2.2.2.2.2.2.2.2.2.2.2.2.2.2.2.2.2.2.2.2.2.1 g.2.1.2.2.2.2.2.2.2.2.2.2.2.2.2.2.2.2.2.2.2.2.2.2.2.2.1 g.2.1.2.2.2.2.2.2.2.2.2.2.2.2.2.2.2.2.2.2.2.2.2.2.2.2.2.1 g.2.1.2.2.2.2.2.2.2.2.2.2.2.2.2.2.2.2.2.2.2.2.2.2.2.2.2.2.1 g.2.1.2.2.2.2.2.2.2.2.2.2.2.2.2.2.2.2.2.2.2.2.2.2.2.2.2.2.2.1 g.2.1.2.2.2.2.2.2.2.2.2.2.2.2.2.2.2.2.2.2.2.2.2.2.2.2.2.2.2.2.1 g.2.1.2.2.2.2.2.2.2.2.2.2.2.2.2.2.2.2.2.2.2.2.2.2.2.2.2.2.2.2.2.1 g.2.1.2.2.2.2.2.2.2.2.2.2.2.2.2.2.2.2.2.2.2.2.2.2.2.2.2.2.2.2.2.2.1 g.2.1.2.2.2.2.2.2.2.2.2.2.2.2.2.2.2.2.2.2.2.2.2.2.2.2.2.2.2.2.2.2.2.1 g.2.1.2.2.2.2.2.2.2.2.2.2.2.2.2.2.2.2.2.2.2.2.2.2.2.2.2.2.2.2.2.2.2.2.1 g.2.1.2.2.2.2.2.2.2.2.2.2.2.2.2.2.2.2.2.2.2.2.2.2.2.2.2.2.2.2.2.2.2.2.2.1 g.2.1.2.2.2.2.2.2.2.2.2.2.2.2.2.2.2.2.2.2.2.2.2.2.2.2.2.2.2.2.2.2.2.2.2.2.1 g.2.2.1 g.2.2.2.1 g.2.2.2.2.1 g.2.2.2.2.2.1 g.2.2.2.2.2.2.1 g.2.2.2.2.2.2.2.1 g.2.2.2.2.2.2.2.2.1
noncomputable def zzc : Tms U ((Unit) × (Unit) × (Unit) × (Int × Unit) × Unit) := tO 1 (cK (.ptr 0 0) (z1)) (tO 2 (cK (.ptr 1 0) (z1)) (tO 3 (cK (.row 2 0) (z1)) (tO 4 (z0 (cInt .i64) (z1)) (tNil))))
noncomputable def zzh : Bls U ((Machine × Unit) × ztb1 × (List Line) × (List Int) × (List Int) × (List Line) × (List (List UInt8)) × (List Int) × (List (List UInt8)) × Unit) := bC (z0 zj (z1)) (bC (z0 (cArr 3 6) (z0 (cArr 3 2) (z0 (cInt .i64) (z0 (cInt .i64) (cK (.row 3 0) (cK (.row 4 0) (z0 z8 (z0 (cArr 28 16) (z0 (cInt .i64) (z0 (cInt .i64) (z0 z8 (z0 z8 (z0 (cInt .i64) (z0 (cInt .i64) (cK (.row 5 0) (cK (.row 6 0) (cK (.row 7 0) (z0 z8 (z0 z8 (z0 z8 (z0 (cInt .i64) (z0 (cInt .i64) (z0 (cInt .i64) (z0 (cInt .i64) (z0 (cInt .i64) (cK (.row 8 0) (z0 (cInt .i64) (z0 z8 (z0 z8 (z0 z8 (z0 z8 (z0 z8 (z0 (cInt .i64) (z0 (cInt .i64) (z0 (cInt .i64) (z0 (cInt .i64) (z0 (cInt .i64) (z0 z8 (z0 z8 (z0 (cInt .i64) (z0 z8 (z1)))))))))))))))))))))))))))))))))))))))))) (bRv 55 0 (bRv 3 0 (bRv 3 0 (bRv 55 0 (bRv 9 0 (bRv 3 0 (bRv 9 0 (bNil)))))))))
noncomputable def zl8 (s : z3k) : St U := { tm := [(1, .v (vO (cK (.ptr 0 0) (z1)) (()))), (2, .v (vO (cK (.ptr 1 0) (z1)) (()))), (3, .v (vO (cK (.row 2 0) (z1)) (()))), (4, .v (vO (z0 (cInt .i64) (z1)) (s.t4, ())))], hp := [.cells ((z0 zj (z1) : Cdc U (Machine × Unit)).enc (s.b0, ())) none, .cells ((z0 (cArr 3 6) (z0 (cArr 3 2) (z0 (cInt .i64) (z0 (cInt .i64) (cK (.row 3 0) (cK (.row 4 0) (z0 z8 (z0 (cArr 28 16) (z0 (cInt .i64) (z0 (cInt .i64) (z0 z8 (z0 z8 (z0 (cInt .i64) (z0 (cInt .i64) (cK (.row 5 0) (cK (.row 6 0) (cK (.row 7 0) (z0 z8 (z0 z8 (z0 z8 (z0 (cInt .i64) (z0 (cInt .i64) (z0 (cInt .i64) (z0 (cInt .i64) (z0 (cInt .i64) (cK (.row 8 0) (z0 (cInt .i64) (z0 z8 (z0 z8 (z0 z8 (z0 z8 (z0 z8 (z0 (cInt .i64) (z0 (cInt .i64) (z0 (cInt .i64) (z0 (cInt .i64) (z0 (cInt .i64) (z0 z8 (z0 z8 (z0 (cInt .i64) (z0 z8 (z1))))))))))))))))))))))))))))))))))))))))) : Cdc U ztb1).enc (s.b1_0, s.b1_1, s.b1_2, s.b1_3, s.b1_6, s.b1_7, s.b1_8, s.b1_9, s.b1_10, s.b1_11, s.b1_12, s.b1_13, s.b1_17, s.b1_18, s.b1_19, s.b1_20, s.b1_21, s.b1_22, s.b1_23, s.b1_24, s.b1_26, s.b1_27, s.b1_28, s.b1_29, s.b1_30, s.b1_31, s.b1_32, s.b1_33, s.b1_34, s.b1_35, s.b1_36, s.b1_37, s.b1_38, s.b1_39, s.b1_40, ())) none, .row 55 0 s.b2, .row 3 0 s.b3, .row 3 0 s.b4, .row 55 0 s.b5, .row 9 0 s.b6, .row 3 0 s.b7, .row 9 0 s.b8] }
noncomputable def zln (r : ztb0) : Ex × St U := (.exit 0, { tm := [(1, .v (vO (cK (.ptr 0 0) (z1)) (()))), (2, .v (vO (cK (.ptr 1 0) (z1)) (()))), (3, .v (vO (cK (.row 2 0) (z1)) (())))], hp := [.cells ((z0 zj (z1) : Cdc U (Machine × Unit)).enc (r.1, ())) none, .cells ((z0 (cArr 3 6) (z0 (cArr 3 2) (z0 (cInt .i64) (z0 (cInt .i64) (cK (.row 3 0) (cK (.row 4 0) (z0 z8 (z0 (cArr 28 16) (z0 (cInt .i64) (z0 (cInt .i64) (z0 z8 (z0 z8 (z0 (cInt .i64) (z0 (cInt .i64) (cK (.row 5 0) (cK (.row 6 0) (cK (.row 7 0) (z0 z8 (z0 z8 (z0 z8 (z0 (cInt .i64) (z0 (cInt .i64) (z0 (cInt .i64) (z0 (cInt .i64) (z0 (cInt .i64) (cK (.row 8 0) (z0 (cInt .i64) (z0 z8 (z0 z8 (z0 z8 (z0 z8 (z0 z8 (z0 (cInt .i64) (z0 (cInt .i64) (z0 (cInt .i64) (z0 (cInt .i64) (z0 (cInt .i64) (z0 z8 (z0 z8 (z0 (cInt .i64) (z0 z8 (z1))))))))))))))))))))))))))))))))))))))))) : Cdc U ztb1).enc (r.2.1, r.2.2.1, r.2.2.2.1, r.2.2.2.2.1, r.2.2.2.2.2.1, r.2.2.2.2.2.2.1, r.2.2.2.2.2.2.2.1, r.2.2.2.2.2.2.2.2.1, r.2.2.2.2.2.2.2.2.2.1, r.2.2.2.2.2.2.2.2.2.2.1, r.2.2.2.2.2.2.2.2.2.2.2.1, r.2.2.2.2.2.2.2.2.2.2.2.2.1, r.2.2.2.2.2.2.2.2.2.2.2.2.2.1, r.2.2.2.2.2.2.2.2.2.2.2.2.2.2.1, r.2.2.2.2.2.2.2.2.2.2.2.2.2.2.2.1, r.2.2.2.2.2.2.2.2.2.2.2.2.2.2.2.2.1, r.2.2.2.2.2.2.2.2.2.2.2.2.2.2.2.2.2.1, r.2.2.2.2.2.2.2.2.2.2.2.2.2.2.2.2.2.2.1, r.2.2.2.2.2.2.2.2.2.2.2.2.2.2.2.2.2.2.2.1, r.2.2.2.2.2.2.2.2.2.2.2.2.2.2.2.2.2.2.2.2.1, r.2.2.2.2.2.2.2.2.2.2.2.2.2.2.2.2.2.2.2.2.2.1, r.2.2.2.2.2.2.2.2.2.2.2.2.2.2.2.2.2.2.2.2.2.2.1, r.2.2.2.2.2.2.2.2.2.2.2.2.2.2.2.2.2.2.2.2.2.2.2.1, r.2.2.2.2.2.2.2.2.2.2.2.2.2.2.2.2.2.2.2.2.2.2.2.2.1, r.2.2.2.2.2.2.2.2.2.2.2.2.2.2.2.2.2.2.2.2.2.2.2.2.2.1, r.2.2.2.2.2.2.2.2.2.2.2.2.2.2.2.2.2.2.2.2.2.2.2.2.2.2.1, r.2.2.2.2.2.2.2.2.2.2.2.2.2.2.2.2.2.2.2.2.2.2.2.2.2.2.2.1, r.2.2.2.2.2.2.2.2.2.2.2.2.2.2.2.2.2.2.2.2.2.2.2.2.2.2.2.2.1, r.2.2.2.2.2.2.2.2.2.2.2.2.2.2.2.2.2.2.2.2.2.2.2.2.2.2.2.2.2.1, r.2.2.2.2.2.2.2.2.2.2.2.2.2.2.2.2.2.2.2.2.2.2.2.2.2.2.2.2.2.2.1, r.2.2.2.2.2.2.2.2.2.2.2.2.2.2.2.2.2.2.2.2.2.2.2.2.2.2.2.2.2.2.2.1, r.2.2.2.2.2.2.2.2.2.2.2.2.2.2.2.2.2.2.2.2.2.2.2.2.2.2.2.2.2.2.2.2.1, r.2.2.2.2.2.2.2.2.2.2.2.2.2.2.2.2.2.2.2.2.2.2.2.2.2.2.2.2.2.2.2.2.2.1, r.2.2.2.2.2.2.2.2.2.2.2.2.2.2.2.2.2.2.2.2.2.2.2.2.2.2.2.2.2.2.2.2.2.2.1, r.2.2.2.2.2.2.2.2.2.2.2.2.2.2.2.2.2.2.2.2.2.2.2.2.2.2.2.2.2.2.2.2.2.2.2.1, ())) none, .row 55 0 r.2.2.2.2.2.2.2.2.2.2.2.2.2.2.2.2.2.2.2.2.2.2.2.2.2.2.2.2.2.2.2.2.2.2.2.2.1, .row 3 0 r.2.2.2.2.2.2.2.2.2.2.2.2.2.2.2.2.2.2.2.2.2.2.2.2.2.2.2.2.2.2.2.2.2.2.2.2.2.1, .row 3 0 r.2.2.2.2.2.2.2.2.2.2.2.2.2.2.2.2.2.2.2.2.2.2.2.2.2.2.2.2.2.2.2.2.2.2.2.2.2.2.1, .row 55 0 r.2.2.2.2.2.2.2.2.2.2.2.2.2.2.2.2.2.2.2.2.2.2.2.2.2.2.2.2.2.2.2.2.2.2.2.2.2.2.2.1, .row 9 0 r.2.2.2.2.2.2.2.2.2.2.2.2.2.2.2.2.2.2.2.2.2.2.2.2.2.2.2.2.2.2.2.2.2.2.2.2.2.2.2.2.1, .row 3 0 r.2.2.2.2.2.2.2.2.2.2.2.2.2.2.2.2.2.2.2.2.2.2.2.2.2.2.2.2.2.2.2.2.2.2.2.2.2.2.2.2.2.1, .row 9 0 r.2.2.2.2.2.2.2.2.2.2.2.2.2.2.2.2.2.2.2.2.2.2.2.2.2.2.2.2.2.2.2.2.2.2.2.2.2.2.2.2.2.2] })
noncomputable def zzp (r : ztb0) : Tree (Ex × St U) := .leaf (zln r)
noncomputable def z13h : Hd := { keep := [1, 2, 3, 4], xkeep := [1, 2, 3], own := true }
noncomputable def zlq : Env U := zE fns32 (addL 0 z13h (z1f zzc zzh z12d (zc0 none) zzp) noL) 62 0
noncomputable def z11y : Code := (loopAt (Tryz.f9.body.getD .skip) 0 0).getD .skip
theorem z1a5 (s : z3k) : round zlq z13h z11y 0 (zl8 s) = (z6l s).map (sumE zl8 zln) := by kernel_rfl
theorem z1jx : LpOk zlq z11y 0 := zy (A := zzc) (B := zzh) (f := z12d) (L := zc0 none) (zb (z10 z6) (zb (z10 z6) (zb (z10 z6) (zb (z2 (z3 .i64) z6) z12)))) (z13 (z2 z19 z6) (z13 (z2 (z7g 3 6) (z2 (z7g 3 2) (z2 (z3 .i64) (z2 (z3 .i64) (z10 (z10 (z2 zn (z2 (z7g 28 16) (z2 (z3 .i64) (z2 (z3 .i64) (z2 zn (z2 zn (z2 (z3 .i64) (z2 (z3 .i64) (z10 (z10 (z10 (z2 zn (z2 zn (z2 zn (z2 (z3 .i64) (z2 (z3 .i64) (z2 (z3 .i64) (z2 (z3 .i64) (z2 (z3 .i64) (z10 (z2 (z3 .i64) (z2 zn (z2 zn (z2 zn (z2 zn (z2 zn (z2 (z3 .i64) (z2 (z3 .i64) (z2 (z3 .i64) (z2 (z3 .i64) (z2 (z3 .i64) (z2 zn (z2 zn (z2 (z3 .i64) (z2 zn z6))))))))))))))))))))))))))))))))))))))))) (z1m (z1m (z1m (z1m (z1m (z1m (z1m z7))))))))) (enc := zl8) (out := zzp) (outS := zln) (step := z6l) (fun _ => rfl) (fun _ _ => by kernel_rfl) (by kernel_rfl) (fun _ => rfl) z1a5
theorem z1qb (x : Machine × Unit) (g : Unit) : zk zlq Tryz.f9 (z1ay.enc x) (bNil.enc g) = (zm4 none x.1).map z1cc := by kernel_rfl
theorem z1tx : FnOk Tryz.prog cd 9 z1d3 := zm (E := zlq) zg z1rv Tryz.func9 (by kernel_rfl) (z14 (z11 z1jx z1j)) (zu z19 (zd)) z7 (T := fun x _ => zm4 none x.1) (fun _ _ => rfl) z1qb
noncomputable def fns9 := addF 9 true z1d3 fns32
theorem z1x4 : zF fns9 := za z1tx z1rv
structure z5l where
  t0 : (List Int)
  t1 : (List Int)
  t5 : Int
noncomputable def z7x (s : z5l) : Tree (z5l ⊕ (Bool ⊕ Unit)) :=
 .ite (decide (s.t5 < (s.t0.length : Int)))
 (.ite (decide (0 ≤ s.t5))
 (.opt Int (s.t0[(s.t5).toNat]?) fun y535 =>
 .ite (decide (0 ≤ s.t5))
 (.opt Int (s.t1[(s.t5).toNat]?) fun y536 =>
 .ite (!decide (y535 = y536))
 (.leaf (.inr (.inl false)))
 (.leaf (.inl (z5l.mk s.t0 s.t1 (IntKind.wrap .i64 (s.t5 + (1 : Int)))))))
 .fail)
 .fail)
 (.leaf (.inr (.inr ())))
noncomputable def zbz (q : Option Nat) (s : z5l) : Option (Bool ⊕ Unit) := limQ q (fun s => (z7x s).run) s
noncomputable def zcc (q : Option Nat) (x0 : (List Int)) (x1 : (List Int)) : Tree Bool :=
 .ite (!decide ((x0.length : Int) = (x1.length : Int)))
 (.leaf (false))
 (.opt (Bool ⊕ Unit) (zbz q (z5l.mk x0 x1 (0 : Int))) fun l537 =>
 .ite (l537.isLeft)
 (.opt Bool (l537.getLeft?) fun a538 =>
 .leaf (a538))
 (.opt Unit (l537.getRight?) fun b539 =>
 .leaf (true)))
noncomputable def zaj (q : Option Nat) (x0 : (List Int)) (x1 : (List Int)) : Option Bool := (zcc q x0 x1).run
noncomputable def z1am : Arg U ((List Int) × (List Int) × Unit) := aO (cSl 3) (aO (cSl 3) (aNil))
noncomputable def z1c0 (r : Bool) : zR := ([vO z8 r], [])
noncomputable def z1cr : zS := zf z1am bNil (fun x _ => zaj none x.1 x.2.1) z1c0
noncomputable def z12a (x : ((List Int) × Unit) × ((List Int) × Unit) × (Int × Unit) × Unit) (_g : Unit) : z5l := z5l.mk x.1.1 x.2.1.1 x.2.2.1.1
noncomputable def zz9 : Tms U (((List Int) × Unit) × ((List Int) × Unit) × (Int × Unit) × Unit) := tO 0 (z0 (cSl 3) (z1)) (tO 1 (z0 (cSl 3) (z1)) (tO 5 (z0 (cInt .i64) (z1)) (tNil)))
noncomputable def zze : Bls U (Unit) := bNil
noncomputable def zl5 (s : z5l) : St U := { tm := [(0, .v (vO (z0 (cSl 3) (z1)) (s.t0, ()))), (1, .v (vO (z0 (cSl 3) (z1)) (s.t1, ()))), (5, .v (vO (z0 (cInt .i64) (z1)) (s.t5, ())))], hp := [] }
noncomputable def zzl : (Bool ⊕ Unit) → Ex × St U
  | .inl r => (.ret, { tm := [(4, .v (vO (z0 z8 (z1)) (r, ())))], hp := [] })
  | .inr r => (.exit 0, { tm := [], hp := [] })
noncomputable def zzm (y : (Bool ⊕ Unit)) : Tree (Ex × St U) := .ite y.isLeft (.opt Bool y.getLeft? fun r => .leaf (.ret, { tm := [(4, .v (vO (z0 z8 (z1)) (r, ())))], hp := [] })) (.opt Unit y.getRight? fun r => .leaf (.exit 0, { tm := [], hp := [] }))
noncomputable def z13e : Hd := { keep := [0, 1, 5], xkeep := [4], own := false }
noncomputable def zlp : Env U := zE fns9 (addL 0 z13e (z1f zz9 zze z12a (zbz none) zzm) noL) 26 0
noncomputable def z11v : Code := (loopAt (Tryz.f85.body.getD .skip) 0 0).getD .skip
theorem z1a2 (s : z5l) : round zlp z13e z11v 0 (zl5 s) = (z7x s).map (sumE zl5 zzl) := by kernel_rfl
theorem z1ju : LpOk zlp z11v 0 := zy (A := zz9) (B := zze) (f := z12a) (L := zbz none) (zb (z2 (zi 3) z6) (zb (z2 (zi 3) z6) (zb (z2 (z3 .i64) z6) z12))) z7 (enc := zl5) (out := zzm) (outS := zzl) (step := z7x) (fun _ => rfl) (fun _ _ => by kernel_rfl) (by kernel_rfl) (fun b => by cases b <;> rfl) z1a2
theorem z1pz (x : (List Int) × (List Int) × Unit) (g : Unit) : zk zlp Tryz.f85 (z1am.enc x) (bNil.enc g) = (zcc none x.1 x.2.1).map z1c0 := by kernel_rfl
theorem z1tl : FnOk Tryz.prog cd 85 z1cr := zm (E := zlp) zg z1x4 Tryz.func85 (by kernel_rfl) (z14 (z11 z1ju z1j)) (ze (zi 3) (ze (zi 3) (zd))) z7 (T := fun x _ => zcc none x.1 x.2.1) (fun _ _ => rfl) z1pz
noncomputable def fns85 := addF 85 true z1cr fns9
theorem z1st : zF fns85 := za z1tl z1x4
structure z2x where
  t0 : (List Line)
  t1 : (List Line)
  t5 : Int
noncomputable def z5w (s : z2x) : Tree (z2x ⊕ (Bool ⊕ Unit)) :=
 .ite (decide (s.t5 < (s.t0.length : Int)))
 (.ite (decide (0 ≤ s.t5))
 (.opt Line (s.t0[(s.t5).toNat]?) fun y540 =>
 .ite (decide (0 ≤ s.t5))
 (.opt Line (s.t1[(s.t5).toNat]?) fun y541 =>
 .ite (!((y540.rxEnable == y541.rxEnable) && ((y540.rxReady == y541.rxReady) && ((y540.overrun == y541.overrun) && ((decide (y540.rxData = y541.rxData)) && ((y540.txEnable == y541.txEnable) && ((y540.txReady == y541.txReady) && ((decide (y540.txData = y541.txData)) && ((decide (y540.txLeft = y541.txLeft)) && (decide (y540.out = y541.out)))))))))))
 (.leaf (.inr (.inl false)))
 (.leaf (.inl (z2x.mk s.t0 s.t1 (IntKind.wrap .i64 (s.t5 + (1 : Int)))))))
 .fail)
 .fail)
 (.leaf (.inr (.inr ())))
noncomputable def z7m (q : Option Nat) (s : z2x) : Option (Bool ⊕ Unit) := limQ q (fun s => (z5w s).run) s
noncomputable def zbt (q : Option Nat) (x0 : (List Line)) (x1 : (List Line)) : Tree Bool :=
 .ite (!decide ((x0.length : Int) = (x1.length : Int)))
 (.leaf (false))
 (.opt (Bool ⊕ Unit) (z7m q (z2x.mk x0 x1 (0 : Int))) fun l542 =>
 .ite (l542.isLeft)
 (.opt Bool (l542.getLeft?) fun a543 =>
 .leaf (a543))
 (.opt Unit (l542.getRight?) fun b544 =>
 .leaf (true)))
noncomputable def zd1 (q : Option Nat) (x0 : (List Line)) (x1 : (List Line)) : Option Bool := (zbt q x0 x1).run
noncomputable def zpx : Arg U ((List Line) × (List Line) × Unit) := aO (cSl 55) (aO (cSl 55) (aNil))
noncomputable def zq8 (r : Bool) : zR := ([vO z8 r], [])
noncomputable def zqe : zS := zf zpx bNil (fun x _ => zd1 none x.1 x.2.1) zq8
noncomputable def zmw (x : ((List Line) × Unit) × ((List Line) × Unit) × (Int × Unit) × Unit) (_g : Unit) : z2x := z2x.mk x.1.1 x.2.1.1 x.2.2.1.1
noncomputable def zkm : Tms U (((List Line) × Unit) × ((List Line) × Unit) × (Int × Unit) × Unit) := tO 0 (z0 (cSl 55) (z1)) (tO 1 (z0 (cSl 55) (z1)) (tO 5 (z0 (cInt .i64) (z1)) (tNil)))
noncomputable def zko : Bls U (Unit) := bNil
noncomputable def zck (s : z2x) : St U := { tm := [(0, .v (vO (z0 (cSl 55) (z1)) (s.t0, ()))), (1, .v (vO (z0 (cSl 55) (z1)) (s.t1, ()))), (5, .v (vO (z0 (cInt .i64) (z1)) (s.t5, ())))], hp := [] }
noncomputable def zkq : (Bool ⊕ Unit) → Ex × St U
  | .inl r => (.ret, { tm := [(4, .v (vO (z0 z8 (z1)) (r, ())))], hp := [] })
  | .inr r => (.exit 0, { tm := [], hp := [] })
noncomputable def zks (y : (Bool ⊕ Unit)) : Tree (Ex × St U) := .ite y.isLeft (.opt Bool y.getLeft? fun r => .leaf (.ret, { tm := [(4, .v (vO (z0 z8 (z1)) (r, ())))], hp := [] })) (.opt Unit y.getRight? fun r => .leaf (.exit 0, { tm := [], hp := [] }))
noncomputable def zn2 : Hd := { keep := [0, 1, 5], xkeep := [4], own := false }
noncomputable def zbs : Env U := zE fns85 (addL 0 zn2 (z1f zkm zko zmw (z7m none) zks) noL) 26 0
noncomputable def zmu : Code := (loopAt (Tryz.f86.body.getD .skip) 0 0).getD .skip
theorem zwf (s : z2x) : round zbs zn2 zmu 0 (zck s) = (z5w s).map (sumE zck zkq) := by kernel_rfl
theorem z14g : LpOk zbs zmu 0 := zy (A := zkm) (B := zko) (f := zmw) (L := z7m none) (zb (z2 (zi 55) z6) (zb (z2 (zi 55) z6) (zb (z2 (z3 .i64) z6) z12))) z7 (enc := zck) (out := zks) (outS := zkq) (step := z5w) (fun _ => rfl) (fun _ _ => by kernel_rfl) (by kernel_rfl) (fun b => by cases b <;> rfl) zwf
theorem z19d (x : (List Line) × (List Line) × Unit) (g : Unit) : zk zbs Tryz.f86 (zpx.enc x) (bNil.enc g) = (zbt none x.1 x.2.1).map zq8 := by kernel_rfl
theorem z1a0 : FnOk Tryz.prog cd 86 zqe := zm (E := zbs) zg z1st Tryz.func86 (by kernel_rfl) (z14 (z11 z14g z1j)) (ze (zi 55) (ze (zi 55) (zd))) z7 (T := fun x _ => zbt none x.1 x.2.1) (fun _ _ => rfl) z19d
noncomputable def fns86 := addF 86 true zqe fns85
theorem z1su : zF fns86 := za z1a0 z1st
structure z2w where
  t0 : (List (List UInt8))
  t1 : (List (List UInt8))
  t5 : Int
noncomputable def z4g (s : z2w) : Tree (z2w ⊕ (Bool ⊕ Unit)) :=
 .ite (decide (s.t5 < (s.t0.length : Int)))
 (.ite (decide (0 ≤ s.t5))
 (.opt (List UInt8) (s.t0[(s.t5).toNat]?) fun y545 =>
 .ite (decide (0 ≤ s.t5))
 (.opt (List UInt8) (s.t1[(s.t5).toNat]?) fun y546 =>
 .ite (!decide (y545 = y546))
 (.leaf (.inr (.inl false)))
 (.leaf (.inl (z2w.mk s.t0 s.t1 (IntKind.wrap .i64 (s.t5 + (1 : Int)))))))
 .fail)
 .fail)
 (.leaf (.inr (.inr ())))
noncomputable def z7l (q : Option Nat) (s : z2w) : Option (Bool ⊕ Unit) := limQ q (fun s => (z4g s).run) s
noncomputable def z74 (q : Option Nat) (x0 : (List (List UInt8))) (x1 : (List (List UInt8))) : Tree Bool :=
 .ite (!decide ((x0.length : Int) = (x1.length : Int)))
 (.leaf (false))
 (.opt (Bool ⊕ Unit) (z7l q (z2w.mk x0 x1 (0 : Int))) fun l547 =>
 .ite (l547.isLeft)
 (.opt Bool (l547.getLeft?) fun a548 =>
 .leaf (a548))
 (.opt Unit (l547.getRight?) fun b549 =>
 .leaf (true)))
noncomputable def z6h (q : Option Nat) (x0 : (List (List UInt8))) (x1 : (List (List UInt8))) : Option Bool := (z74 q x0 x1).run
noncomputable def zpw : Arg U ((List (List UInt8)) × (List (List UInt8)) × Unit) := aO (cSl 9) (aO (cSl 9) (aNil))
noncomputable def zq7 (r : Bool) : zR := ([vO z8 r], [])
noncomputable def zqd : zS := zf zpw bNil (fun x _ => z6h none x.1 x.2.1) zq7
noncomputable def zmv (x : ((List (List UInt8)) × Unit) × ((List (List UInt8)) × Unit) × (Int × Unit) × Unit) (_g : Unit) : z2w := z2w.mk x.1.1 x.2.1.1 x.2.2.1.1
noncomputable def zkl : Tms U (((List (List UInt8)) × Unit) × ((List (List UInt8)) × Unit) × (Int × Unit) × Unit) := tO 0 (z0 (cSl 9) (z1)) (tO 1 (z0 (cSl 9) (z1)) (tO 5 (z0 (cInt .i64) (z1)) (tNil)))
noncomputable def zkn : Bls U (Unit) := bNil
noncomputable def zcj (s : z2w) : St U := { tm := [(0, .v (vO (z0 (cSl 9) (z1)) (s.t0, ()))), (1, .v (vO (z0 (cSl 9) (z1)) (s.t1, ()))), (5, .v (vO (z0 (cInt .i64) (z1)) (s.t5, ())))], hp := [] }
noncomputable def zkp : (Bool ⊕ Unit) → Ex × St U
  | .inl r => (.ret, { tm := [(4, .v (vO (z0 z8 (z1)) (r, ())))], hp := [] })
  | .inr r => (.exit 0, { tm := [], hp := [] })
noncomputable def zkr (y : (Bool ⊕ Unit)) : Tree (Ex × St U) := .ite y.isLeft (.opt Bool y.getLeft? fun r => .leaf (.ret, { tm := [(4, .v (vO (z0 z8 (z1)) (r, ())))], hp := [] })) (.opt Unit y.getRight? fun r => .leaf (.exit 0, { tm := [], hp := [] }))
noncomputable def zn1 : Hd := { keep := [0, 1, 5], xkeep := [4], own := false }
noncomputable def zbr : Env U := zE fns86 (addL 0 zn1 (z1f zkl zkn zmv (z7l none) zkr) noL) 26 0
noncomputable def zmt : Code := (loopAt (Tryz.f158.body.getD .skip) 0 0).getD .skip
theorem zwe (s : z2w) : round zbr zn1 zmt 0 (zcj s) = (z4g s).map (sumE zcj zkp) := by kernel_rfl
theorem z14f : LpOk zbr zmt 0 := zy (A := zkl) (B := zkn) (f := zmv) (L := z7l none) (zb (z2 (zi 9) z6) (zb (z2 (zi 9) z6) (zb (z2 (z3 .i64) z6) z12))) z7 (enc := zcj) (out := zkr) (outS := zkp) (step := z4g) (fun _ => rfl) (fun _ _ => by kernel_rfl) (by kernel_rfl) (fun b => by cases b <;> rfl) zwe
theorem z19c (x : (List (List UInt8)) × (List (List UInt8)) × Unit) (g : Unit) : zk zbr Tryz.f158 (zpw.enc x) (bNil.enc g) = (z74 none x.1 x.2.1).map zq7 := by kernel_rfl
theorem z19z : FnOk Tryz.prog cd 158 zqd := zm (E := zbr) zg z1su Tryz.func158 (by kernel_rfl) (z14 (z11 z14f z1j)) (ze (zi 9) (ze (zi 9) (zd))) z7 (T := fun x _ => z74 none x.1 x.2.1) (fun _ _ => rfl) z19c
noncomputable def fns158 := addF 158 true zqd fns86
theorem z1n8 : zF fns158 := za z19z z1su
noncomputable def zd0 (q : Option Nat) (x0 : Disk) (x1 : Disk) : Tree Bool :=
 .opt Bool (z6h q x0.drive.sectors x1.drive.sectors) fun r550 =>
 .ite (!r550)
 (.leaf (false))
 (.opt Bool (zaj q x0.drive.bad x1.drive.bad) fun r551 =>
 .ite (!r551)
 (.leaf (false))
 (.ite (!(x0.enable == x1.enable))
 (.leaf (false))
 (.ite (!(x0.ready == x1.ready))
 (.leaf (false))
 (.ite (!(x0.error == x1.error))
 (.leaf (false))
 (.ite (decide (x0.command = x1.command))
 (.ite (decide (x0.words = x1.words))
 (.ite (decide (x0.addr = x1.addr))
 (.ite (decide (x0.start = x1.start))
 (.leaf (decide (x0.left = x1.left)))
 (.leaf (false)))
 (.leaf (false)))
 (.leaf (false)))
 (.leaf (false)))))))
noncomputable def zex (q : Option Nat) (x0 : Disk) (x1 : Disk) : Option Bool := (zd0 q x0 x1).run
noncomputable def zsa : Arg U (Disk × Disk × Unit) := aA cDisk (aA cDisk (aNil))
noncomputable def zt0 (r : Bool) : zR := ([vO z8 r], [])
noncomputable def zt5 : zS := zf zsa bNil (fun x _ => zex none x.1 x.2.1) zt0
noncomputable def zsm : Env U := zE fns158 noL 77 0
theorem z1ae (x : Disk × Disk × Unit) (g : Unit) : zk zsm Tryz.f87 (zsa.enc x) (bNil.enc g) = (zd0 none x.1 x.2.1).map zt0 := by kernel_rfl
theorem z1ej : FnOk Tryz.prog cd 87 zt5 := zm (E := zsm) zg z1n8 Tryz.func87 (by kernel_rfl) (z9 (by kernel_rfl)) (zu z24 (zu z24 (zd))) z7 (T := fun x _ => zd0 none x.1 x.2.1) (fun _ _ => rfl) z1ae
noncomputable def fns87 := addF 87 true zt5 fns158
theorem z1sv : zF fns87 := za z1ej z1n8
noncomputable def zlz (q : Option Nat) (x0 : Tape) (x1 : Tape) : Tree Bool :=
 .opt Bool (z6h q x0.records x1.records) fun r552 =>
 .ite (!r552)
 (.leaf (false))
 (.ite (!decide (x0.pos = x1.pos))
 (.leaf (false))
 (.ite (!(x0.enable == x1.enable))
 (.leaf (false))
 (.ite (!(x0.ready == x1.ready))
 (.leaf (false))
 (.ite (!(x0.error == x1.error))
 (.leaf (false))
 (.ite ((x0.mark == x1.mark))
 (.ite ((x0.end_ == x1.end_))
 (.ite (decide (x0.command = x1.command))
 (.ite (decide (x0.count = x1.count))
 (.ite (decide (x0.addr = x1.addr))
 (.leaf (decide (x0.left = x1.left)))
 (.leaf (false)))
 (.leaf (false)))
 (.leaf (false)))
 (.leaf (false)))
 (.leaf (false)))))))
noncomputable def zpi (q : Option Nat) (x0 : Tape) (x1 : Tape) : Option Bool := (zlz q x0 x1).run
noncomputable def z1at : Arg U (Tape × Tape × Unit) := aA cTape (aA cTape (aNil))
noncomputable def z1c7 (r : Bool) : zR := ([vO z8 r], [])
noncomputable def z1cy : zS := zf z1at bNil (fun x _ => zpi none x.1 x.2.1) z1c7
noncomputable def z1bi : Env U := zE fns87 noL 79 0
theorem z1q6 (x : Tape × Tape × Unit) (g : Unit) : zk z1bi Tryz.f88 (z1at.enc x) (bNil.enc g) = (zlz none x.1 x.2.1).map z1c7 := by kernel_rfl
theorem z1ts : FnOk Tryz.prog cd 88 z1cy := zm (E := z1bi) zg z1sv Tryz.func88 (by kernel_rfl) (z9 (by kernel_rfl)) (zu z2z (zu z2z (zd))) z7 (T := fun x _ => zlz none x.1 x.2.1) (fun _ _ => rfl) z1q6
noncomputable def fns88 := addF 88 true z1cy fns87
theorem z1sw : zF fns88 := za z1ts z1sv
structure z35 where
  t8 : Int
  b0 : (List (List UInt8))
  b1 : (List Bool)
  b2 : (List (List UInt8))
noncomputable def znv (s : z35) : Tree (z35 ⊕ (List (List UInt8))) :=
 .ite (decide (s.t8 < (s.b0.length : Int)))
 (.ite (decide (0 ≤ s.t8))
 (.ite (decide (s.t8 < (s.b1.length : Int)))
 (.opt Bool (s.b1[(s.t8).toNat]?) fun y558 =>
 .ite (!y558)
 (.ite (decide (0 ≤ s.t8))
 (.ite (decide (s.t8 < (s.b0.length : Int)))
 (.opt (List UInt8) (s.b0[(s.t8).toNat]?) fun y559 =>
 .ite (decide ((s.b2.length + ([y559]).length) * 16 ≤ 140737488355328))
 (.leaf (.inl (z35.mk (IntKind.wrap .i64 (s.t8 + (1 : Int))) s.b0 s.b1 (s.b2 ++ ([y559])))))
 .fail)
 .fail)
 .fail)
 (.leaf (.inl (z35.mk (IntKind.wrap .i64 (s.t8 + (1 : Int))) s.b0 s.b1 s.b2))))
 .fail)
 .fail)
 (.leaf (.inr s.b2))
noncomputable def z9w (q : Option Nat) (s : z35) : Option (List (List UInt8)) := limQ q (fun s => (znv s).run) s
theorem z1hr (k : Nat) (s : z35) : Le (z9w (some k) s) (z9w none s) := zhd (fun _ => Le.rfl) s
noncomputable def zm5 (q : Option Nat) (x0 : Machine) (x1 : Machine) : Tree (List (List UInt8)) :=
 .opt Bool (zaj q x0.mem x1.mem) fun r553 =>
 .opt Bool (zaj q x0.bad x1.bad) fun r554 =>
 .opt Bool (zd1 q x0.lines x1.lines) fun r555 =>
 .opt Bool (zex q x0.disk x1.disk) fun r556 =>
 .opt Bool (zpi q x0.tape x1.tape) fun r557 =>
 .opt (List (List UInt8)) (z9w q (z35.mk (0 : Int) ([([67, 112, 117] : List UInt8), ([77, 101, 109] : List UInt8), ([66, 97, 100] : List UInt8), ([77, 109, 117] : List UInt8), ([67, 108, 111, 99, 107] : List UInt8), ([76, 105, 110, 101, 115] : List UInt8), ([68, 105, 115, 107] : List UInt8), ([84, 97, 112, 101] : List UInt8), ([78, 111, 119] : List UInt8), ([72, 97, 108, 116, 101, 100] : List UInt8), ([87, 97, 105, 116, 105, 110, 103] : List UInt8), ([80, 111, 119, 101, 114] : List UInt8), ([80, 111, 119, 101, 114, 84, 114, 97, 112] : List UInt8)]) ([((decide (x0.cpu.r = x1.cpu.r)) && ((decide (x0.cpu.sP = x1.cpu.sP)) && ((decide (x0.cpu.pC = x1.cpu.pC)) && (decide (x0.cpu.pSW = x1.cpu.pSW))))), r553, r554, ((x0.mmu.on == x1.mmu.on) && ((decide (x0.mmu.pages = x1.mmu.pages)) && ((decide (x0.mmu.status = x1.mmu.status)) && (decide (x0.mmu.addr = x1.mmu.addr))))), ((x0.clock.enable == x1.clock.enable) && ((x0.clock.ready == x1.clock.ready) && ((decide (x0.clock.period = x1.clock.period)) && (decide (x0.clock.left = x1.clock.left))))), r555, r556, r557, decide (x0.now = x1.now), (x0.halted == x1.halted), (x0.waiting == x1.waiting), decide (x0.power = x1.power), (x0.powerTrap == x1.powerTrap)]) ([]))) fun l560 =>
 .leaf (l560)
noncomputable def z10y (q : Option Nat) (x0 : Machine) (x1 : Machine) : Option (List (List UInt8)) := (zm5 q x0 x1).run
noncomputable def z1az : Arg U (Machine × Machine × Unit) := aA zj (aA zj (aNil))
noncomputable def z1cd (r : (List (List UInt8))) : zR := ([vO (cSl 9) r], [])
noncomputable def z1d4 : zS := zf z1az bNil (fun x _ => z10y none x.1 x.2.1) z1cd
noncomputable def z12e (x : (Unit) × (Unit) × (Unit) × (Int × Unit) × Unit) (g : (List (List UInt8)) × (List Bool) × (List (List UInt8)) × Unit) : z35 := z35.mk x.2.2.2.1.1 g.1 g.2.1 g.2.2.1
noncomputable def zzd : Tms U ((Unit) × (Unit) × (Unit) × (Int × Unit) × Unit) := tO 5 (cK (.row 0 0) (z1)) (tO 6 (cK (.row 1 0) (z1)) (tO 7 (cK (.row 2 0) (z1)) (tO 8 (z0 (cInt .i64) (z1)) (tNil))))
noncomputable def zzi : Bls U ((List (List UInt8)) × (List Bool) × (List (List UInt8)) × Unit) := bRv 9 0 (bRv 4 0 (bRv 9 0 (bNil)))
noncomputable def zl9 (s : z35) : St U := { tm := [(5, .v (vO (cK (.row 0 0) (z1)) (()))), (6, .v (vO (cK (.row 1 0) (z1)) (()))), (7, .v (vO (cK (.row 2 0) (z1)) (()))), (8, .v (vO (z0 (cInt .i64) (z1)) (s.t8, ())))], hp := [.row 9 0 s.b0, .row 4 0 s.b1, .row 9 0 s.b2] }
noncomputable def zlo (r : (List (List UInt8))) : Ex × St U := (.exit 0, { tm := [(7, .v (vO (cK (.row 0 0) (z1)) (())))], hp := [.row 9 0 r] })
noncomputable def zzq (r : (List (List UInt8))) : Tree (Ex × St U) := .leaf (zlo r)
noncomputable def z13i : Hd := { keep := [5, 6, 7, 8], xkeep := [4, 7], own := true }
noncomputable def zlr : Env U := zE fns88 (addL 0 z13i (z1f zzd zzi z12e (z9w none) zzq) noL) 95 0
noncomputable def z11z : Code := (loopAt (Tryz.f33.body.getD .skip) 0 0).getD .skip
theorem z1a6 (s : z35) : round zlr z13i z11z 0 (zl9 s) = (znv s).map (sumE zl9 zlo) := by kernel_rfl
theorem z1jy : LpOk zlr z11z 0 := zy (A := zzd) (B := zzi) (f := z12e) (L := z9w none) (zb (z10 z6) (zb (z10 z6) (zb (z10 z6) (zb (z2 (z3 .i64) z6) z12)))) (z1m (z1m (z1m z7))) (enc := zl9) (out := zzq) (outS := zlo) (step := znv) (fun _ => rfl) (fun _ _ => by kernel_rfl) (by kernel_rfl) (fun _ => rfl) z1a6
theorem z1qc (x : Machine × Machine × Unit) (g : Unit) : zk zlr Tryz.f33 (z1az.enc x) (bNil.enc g) = (zm5 none x.1 x.2.1).map z1cd := by kernel_rfl
theorem z1ty : FnOk Tryz.prog cd 33 z1d4 := zm (E := zlr) zg z1sw Tryz.func33 (by kernel_rfl) (z14 (z11 z1jy z1j)) (zu z19 (zu z19 (zd))) z7 (T := fun x _ => zm5 none x.1 x.2.1) (fun _ _ => rfl) z1qc
noncomputable def fns33 := addF 33 true z1d4 fns88
theorem z1rw : zF fns33 := za z1ty z1sw
noncomputable def zm6 (q : Option Nat) (x0 : Machine) (x1 : Machine) : Tree Bool :=
 .opt (List (List UInt8)) (z10y q x0 x1) fun r561 =>
 .leaf (decide ((r561.length : Int) = (0 : Int)))
noncomputable def zjq (q : Option Nat) (x0 : Machine) (x1 : Machine) : Option Bool := (zm6 q x0 x1).run
noncomputable def z1b0 : Arg U (Machine × Machine × Unit) := aA zj (aA zj (aNil))
noncomputable def z1ce (r : Bool) : zR := ([vO z8 r], [])
noncomputable def z1d5 : zS := zf z1b0 bNil (fun x _ => zjq none x.1 x.2.1) z1ce
noncomputable def z1bn : Env U := zE fns33 noL 10 0
theorem z1qd (x : Machine × Machine × Unit) (g : Unit) : zk z1bn Tryz.f10 (z1b0.enc x) (bNil.enc g) = (zm6 none x.1 x.2.1).map z1ce := by kernel_rfl
theorem z1tz : FnOk Tryz.prog cd 10 z1d5 := zm (E := z1bn) zg z1rw Tryz.func10 (by kernel_rfl) (z9 (by kernel_rfl)) (zu z19 (zu z19 (zd))) z7 (T := fun x _ => zm6 none x.1 x.2.1) (fun _ _ => rfl) z1qd
noncomputable def fns10 := addF 10 true z1d5 fns33
theorem z1ri : zF fns10 := za z1tz z1rw
noncomputable def znq (x0 : Int) : Tree Bool :=
 .ite (decide ((256 : Int) ≤ x0))
 (.ite (decide (x0 ≤ (32768 : Int)))
 (.ite (decide ((64 : Int) = 0))
 .fail
 (.leaf (decide (((x0).tmod (64 : Int)) = (0 : Int)))))
 (.leaf (false)))
 (.leaf (false))
noncomputable def zr3 (x0 : Int) : Option Bool := (znq x0).run
noncomputable def z11m : Arg U (Int × Unit) := aO (cInt .i64) (aNil)
noncomputable def z12m (r : Bool) : zR := ([vO z8 r], [])
noncomputable def z134 : zS := zf z11m bNil (fun x _ => zr3 x.1) z12m
noncomputable def z124 : Env U := zE fns10 noL 14 0
theorem z1j3 (x : Int × Unit) (g : Unit) : zk z124 Tryz.f89 (z11m.enc x) (bNil.enc g) = (znq x.1).map z12m := by kernel_rfl
theorem z1kc : FnOk Tryz.prog cd 89 z134 := zm (E := z124) zg z1ri Tryz.func89 (by kernel_rfl) (z9 (by kernel_rfl)) (ze (z3 .i64) (zd)) z7 (T := fun x _ => znq x.1) (fun _ _ => rfl) z1j3
noncomputable def fns89 := addF 89 true z134 fns10
theorem z1sx : zF fns89 := za z1kc z1ri
structure z3y where
  t0 : (List Int)
  t1 : (List Int)
  t15 : (List Int)
  t16 : Int
  t17 : Int
noncomputable def z6f (s : z3y) : Tree (z3y ⊕ (((List Int) × (List Int) × Bool) ⊕ ((List Int) × (List Int)))) :=
 .ite (decide (s.t17 < s.t16))
 (.ite (decide (0 ≤ s.t17))
 (.opt Int (s.t15[(s.t17).toNat]?) fun y563 =>
 .ite (!decide ((IntKind.wrap .i64 (((BitVec.ofInt 64 y563 &&& BitVec.ofInt 64 (65535 : Int)).toNat : Int))) = y563))
 (.leaf (.inr (.inl (s.t0, s.t1, false))))
 (.leaf (.inl (z3y.mk s.t0 s.t1 s.t15 s.t16 (IntKind.wrap .i64 (s.t17 + (1 : Int)))))))
 .fail)
 (.leaf (.inr (.inr (s.t0, s.t1))))
noncomputable def zct (q : Option Nat) (s : z3y) : Option (((List Int) × (List Int) × Bool) ⊕ ((List Int) × (List Int))) := limQ q (fun s => (z6f s).run) s
structure z3z where
  t0 : (List Int)
  t7 : Int
  t26 : (List Int)
  t27 : Int
  t28 : Int
noncomputable def z45 (s : z3z) : Tree (z3z ⊕ (Bool ⊕ Unit)) :=
 .ite (decide (s.t28 < s.t27))
 (.ite (decide (0 ≤ s.t28))
 (.opt Int (s.t26[(s.t28).toNat]?) fun y567 =>
 .ite (decide (y567 ≤ s.t7))
 (.leaf (.inr (.inl false)))
 (.ite (decide ((2 : Int) = 0))
 .fail
 (.ite (!decide (((y567).tmod (2 : Int)) = (0 : Int)))
 (.leaf (.inr (.inl false)))
 (.ite (decide ((IntKind.wrap .i64 ((2 : Int) * (s.t0.length : Int))) ≤ y567))
 (.leaf (.inr (.inl false)))
 (.leaf (.inl (z3z.mk s.t0 y567 s.t26 s.t27 (IntKind.wrap .i64 (s.t28 + (1 : Int))))))))))
 .fail)
 (.leaf (.inr (.inr ())))
noncomputable def zcu (q : Option Nat) (s : z3z) : Option (Bool ⊕ Unit) := limQ q (fun s => (z45 s).run) s
noncomputable def zg5 (q : Option Nat) (x0 : (List Int)) (x1 : (List Int)) : Tree Bool :=
 .opt Bool (zr3 (IntKind.wrap .i64 ((2 : Int) * (x0.length : Int)))) fun r562 =>
 .ite (!r562)
 (.leaf (false))
 (.opt (((List Int) × (List Int) × Bool) ⊕ ((List Int) × (List Int))) (zct q (z3y.mk x0 x1 x0 (x0.length : Int) (0 : Int))) fun l564 =>
 .ite (l564.isLeft)
 (.opt ((List Int) × (List Int) × Bool) (l564.getLeft?) fun a565 =>
 .leaf (a565.2.2))
 (.opt ((List Int) × (List Int)) (l564.getRight?) fun b566 =>
 .opt (Bool ⊕ Unit) (zcu q (z3z.mk b566.1 (-1 : Int) b566.2 (b566.2.length : Int) (0 : Int))) fun l568 =>
 .ite (l568.isLeft)
 (.opt Bool (l568.getLeft?) fun a569 =>
 .leaf (a569))
 (.opt Unit (l568.getRight?) fun b570 =>
 .leaf (true))))
noncomputable def zjh (q : Option Nat) (x0 : (List Int)) (x1 : (List Int)) : Option Bool := (zg5 q x0 x1).run
noncomputable def z11j : Arg U ((List Int) × (List Int) × Unit) := aO (cSl 3) (aO (cSl 3) (aNil))
noncomputable def z12j (r : Bool) : zR := ([vO z8 r], [])
noncomputable def z131 : zS := zf z11j bNil (fun x _ => zjh none x.1 x.2.1) z12j
noncomputable def zsp (x : ((List Int) × Unit) × ((List Int) × Unit) × ((List Int) × Unit) × (Int × Unit) × (Int × Unit) × Unit) (_g : Unit) : z3y := z3y.mk x.1.1 x.2.1.1 x.2.2.1.1 x.2.2.2.1.1 x.2.2.2.2.1.1
noncomputable def zrd : Tms U (((List Int) × Unit) × ((List Int) × Unit) × ((List Int) × Unit) × (Int × Unit) × (Int × Unit) × Unit) := tO 0 (z0 (cSl 3) (z1)) (tO 1 (z0 (cSl 3) (z1)) (tO 15 (z0 (cSl 3) (z1)) (tO 16 (z0 (cInt .i64) (z1)) (tO 17 (z0 (cInt .i64) (z1)) (tNil)))))
noncomputable def zrl : Bls U (Unit) := bNil
noncomputable def zgi (s : z3y) : St U := { tm := [(0, .v (vO (z0 (cSl 3) (z1)) (s.t0, ()))), (1, .v (vO (z0 (cSl 3) (z1)) (s.t1, ()))), (15, .v (vO (z0 (cSl 3) (z1)) (s.t15, ()))), (16, .v (vO (z0 (cInt .i64) (z1)) (s.t16, ()))), (17, .v (vO (z0 (cInt .i64) (z1)) (s.t17, ())))], hp := [] }
noncomputable def zru : (((List Int) × (List Int) × Bool) ⊕ ((List Int) × (List Int))) → Ex × St U
  | .inl r => (.ret, { tm := [(0, .v (vO (z0 (cSl 3) (z1)) (r.1, ()))), (1, .v (vO (z0 (cSl 3) (z1)) (r.2.1, ()))), (4, .v (vO (z0 z8 (z1)) (r.2.2, ())))], hp := [] })
  | .inr r => (.exit 0, { tm := [(0, .v (vO (z0 (cSl 3) (z1)) (r.1, ()))), (1, .v (vO (z0 (cSl 3) (z1)) (r.2, ())))], hp := [] })
noncomputable def zrz (y : (((List Int) × (List Int) × Bool) ⊕ ((List Int) × (List Int)))) : Tree (Ex × St U) := .ite y.isLeft (.opt ((List Int) × (List Int) × Bool) y.getLeft? fun r => .leaf (.ret, { tm := [(0, .v (vO (z0 (cSl 3) (z1)) (r.1, ()))), (1, .v (vO (z0 (cSl 3) (z1)) (r.2.1, ()))), (4, .v (vO (z0 z8 (z1)) (r.2.2, ())))], hp := [] })) (.opt ((List Int) × (List Int)) y.getRight? fun r => .leaf (.exit 0, { tm := [(0, .v (vO (z0 (cSl 3) (z1)) (r.1, ()))), (1, .v (vO (z0 (cSl 3) (z1)) (r.2, ())))], hp := [] }))
noncomputable def ztg : Hd := { keep := [0, 1, 15, 16, 17], xkeep := [0, 1, 4], own := false }
noncomputable def zsq (x : ((List Int) × Unit) × (Int × Unit) × ((List Int) × Unit) × (Int × Unit) × (Int × Unit) × Unit) (_g : Unit) : z3z := z3z.mk x.1.1 x.2.1.1 x.2.2.1.1 x.2.2.2.1.1 x.2.2.2.2.1.1
noncomputable def zre : Tms U (((List Int) × Unit) × (Int × Unit) × ((List Int) × Unit) × (Int × Unit) × (Int × Unit) × Unit) := tO 0 (z0 (cSl 3) (z1)) (tO 7 (z0 (cInt .i64) (z1)) (tO 26 (z0 (cSl 3) (z1)) (tO 27 (z0 (cInt .i64) (z1)) (tO 28 (z0 (cInt .i64) (z1)) (tNil)))))
noncomputable def zrm : Bls U (Unit) := bNil
noncomputable def zgj (s : z3z) : St U := { tm := [(0, .v (vO (z0 (cSl 3) (z1)) (s.t0, ()))), (7, .v (vO (z0 (cInt .i64) (z1)) (s.t7, ()))), (26, .v (vO (z0 (cSl 3) (z1)) (s.t26, ()))), (27, .v (vO (z0 (cInt .i64) (z1)) (s.t27, ()))), (28, .v (vO (z0 (cInt .i64) (z1)) (s.t28, ())))], hp := [] }
noncomputable def zrv : (Bool ⊕ Unit) → Ex × St U
  | .inl r => (.ret, { tm := [(4, .v (vO (z0 z8 (z1)) (r, ())))], hp := [] })
  | .inr r => (.exit 2, { tm := [], hp := [] })
noncomputable def zs0 (y : (Bool ⊕ Unit)) : Tree (Ex × St U) := .ite y.isLeft (.opt Bool y.getLeft? fun r => .leaf (.ret, { tm := [(4, .v (vO (z0 z8 (z1)) (r, ())))], hp := [] })) (.opt Unit y.getRight? fun r => .leaf (.exit 2, { tm := [], hp := [] }))
noncomputable def zth : Hd := { keep := [0, 7, 26, 27, 28], xkeep := [4], own := false }
noncomputable def z9u : Env U := zE fns89 (addL 0 ztg (z1f zrd zrl zsp (zct none) zrz) (addL 1 zth (z1f zre zrm zsq (zcu none) zs0) noL)) 49 0
noncomputable def zsc : Code := (loopAt (Tryz.f34.body.getD .skip) 0 0).getD .skip
theorem z14i (s : z3y) : round z9u ztg zsc 0 (zgi s) = (z6f s).map (sumE zgi zru) := by kernel_rfl
theorem z1e3 : LpOk z9u zsc 0 := zy (A := zrd) (B := zrl) (f := zsp) (L := zct none) (zb (z2 (zi 3) z6) (zb (z2 (zi 3) z6) (zb (z2 (zi 3) z6) (zb (z2 (z3 .i64) z6) (zb (z2 (z3 .i64) z6) z12))))) z7 (enc := zgi) (out := zrz) (outS := zru) (step := z6f) (fun _ => rfl) (fun _ _ => by kernel_rfl) (by kernel_rfl) (fun b => by cases b <;> rfl) z14i
noncomputable def zsd : Code := (loopAt (Tryz.f34.body.getD .skip) 0 1).getD .skip
theorem z14j (s : z3z) : round z9u zth zsd 1 (zgj s) = (z45 s).map (sumE zgj zrv) := by kernel_rfl
theorem z1e4 : LpOk z9u zsd 1 := zy (A := zre) (B := zrm) (f := zsq) (L := zcu none) (zb (z2 (zi 3) z6) (zb (z2 (z3 .i64) z6) (zb (z2 (zi 3) z6) (zb (z2 (z3 .i64) z6) (zb (z2 (z3 .i64) z6) z12))))) z7 (enc := zgj) (out := zs0) (outS := zrv) (step := z45) (fun _ => rfl) (fun _ _ => by kernel_rfl) (by kernel_rfl) (fun b => by cases b <;> rfl) z14j
theorem z1j0 (x : (List Int) × (List Int) × Unit) (g : Unit) : zk z9u Tryz.f34 (z11j.enc x) (bNil.enc g) = (zg5 none x.1 x.2.1).map z12j := by kernel_rfl
theorem z1k9 : FnOk Tryz.prog cd 34 z131 := zm (E := z9u) zg z1sx Tryz.func34 (by kernel_rfl) (z14 (z11 z1e3 (z11 z1e4 z1j))) (ze (zi 3) (ze (zi 3) (zd))) z7 (T := fun x _ => zg5 none x.1 x.2.1) (fun _ _ => rfl) z1j0
noncomputable def fns34 := addF 34 true z131 fns89
theorem z1rx : zF fns34 := za z1k9 z1sx
structure z6d where
  t8_0 : (List Page)
  t9 : Int
  t12_0 : (List Page)
  t13 : Int
  b0 : Mmu
noncomputable def z8s (s : z6d) : Tree (z6d ⊕ ((Bool × (List Page) × Int × Mmu) ⊕ ((List Page) × Int × Mmu))) :=
 .ite (decide (s.t13 < (8 : Int)))
 (.ite (decide (0 ≤ s.t13))
 (.ite (decide (s.t13 < (8 : Int)))
 (.opt Page (s.t12_0[(s.t13).toNat]?) fun y571 =>
 .opt Bool (zbv y571.base (4095 : Int)) fun r572 =>
 .ite (!r572)
 (.leaf (.inr (.inl (false, s.t8_0, s.t9, s.b0))))
 (.opt Bool (zbv y571.length (128 : Int)) fun r573 =>
 .ite (!r573)
 (.leaf (.inr (.inl (false, s.t8_0, s.t9, s.b0))))
 (.opt Bool (zbv y571.access (2 : Int)) fun r574 =>
 .ite (!r574)
 (.leaf (.inr (.inl (false, s.t8_0, s.t9, s.b0))))
 (.leaf (.inl (z6d.mk s.t8_0 s.t9 s.t12_0 (IntKind.wrap .i64 (s.t13 + (1 : Int))) s.b0))))))
 .fail)
 .fail)
 (.leaf (.inr (.inr (s.t8_0, s.t9, s.b0))))
noncomputable def zd6 (q : Option Nat) (s : z6d) : Option ((Bool × (List Page) × Int × Mmu) ⊕ ((List Page) × Int × Mmu)) := limQ q (fun s => (z8s s).run) s
structure z6c where
  t8_0 : (List Page)
  t9 : Int
  b0 : Mmu
noncomputable def z8r (q : Option Nat) (s : z6c) : Tree (z6c ⊕ ((Bool × Mmu) ⊕ Mmu)) :=
 .ite (decide (s.t9 < (2 : Int)))
 (.ite (decide (0 ≤ s.t9))
 (.ite (decide (s.t9 < (2 : Int)))
 (.ite (decide ((s.t9).toNat * 8 + 8 ≤ s.t8_0.length))
 (.opt ((Bool × (List Page) × Int × Mmu) ⊕ ((List Page) × Int × Mmu)) (zd6 q (z6d.mk s.t8_0 s.t9 ((s.t8_0.drop ((s.t9).toNat * 8)).take 8) (0 : Int) s.b0)) fun l575 =>
 .ite (l575.isLeft)
 (.opt (Bool × (List Page) × Int × Mmu) (l575.getLeft?) fun a576 =>
 .leaf (.inr (.inl (a576.1, a576.2.2.2))))
 (.opt ((List Page) × Int × Mmu) (l575.getRight?) fun b577 =>
 .leaf (.inl (z6c.mk b577.1 (IntKind.wrap .i64 (b577.2.1 + (1 : Int))) b577.2.2))))
 .fail)
 .fail)
 .fail)
 (.leaf (.inr (.inr s.b0)))
noncomputable def zd5 (q : Option Nat) (s : z6c) : Option ((Bool × Mmu) ⊕ Mmu) := limQ q (fun s => (z8r q s).run) s
noncomputable def zi6 (q : Option Nat) (x0 : Mmu) : Tree Bool :=
 .opt ((Bool × Mmu) ⊕ Mmu) (zd5 q (z6c.mk x0.pages (0 : Int) x0)) fun l578 =>
 .ite (l578.isLeft)
 (.opt (Bool × Mmu) (l578.getLeft?) fun a579 =>
 .leaf (a579.1))
 (.opt Mmu (l578.getRight?) fun b580 =>
 .opt Bool (zbv b580.status (3 : Int)) fun r581 =>
 .ite (r581)
 (.opt Bool (zbv b580.addr (65535 : Int)) fun r582 =>
 .leaf (r582))
 (.leaf (false)))
noncomputable def zn5 (q : Option Nat) (x0 : Mmu) : Option Bool := (zi6 q x0).run
noncomputable def z1fo : Arg U (Mmu × Unit) := aA cMmu (aNil)
noncomputable def z1gk (r : Bool) : zR := ([vO z8 r], [])
noncomputable def z1h4 : zS := zf z1fo bNil (fun x _ => zn5 none x.1) z1gk
noncomputable def z164 (x : (Unit) × ((List Page) × Unit) × (Int × Unit) × Unit) (g : (Mmu × Unit) × Unit) : z6c := z6c.mk x.2.1.1 x.2.2.1.1 g.1.1
noncomputable def z13q : Tms U ((Unit) × ((List Page) × Unit) × (Int × Unit) × Unit) := tO 1 (cK (.ptr 0 0) (z1)) (tA 8 (z0 (cArr 28 16) (z1)) (tO 9 (z0 (cInt .i64) (z1)) (tNil)))
noncomputable def z13x : Bls U ((Mmu × Unit) × Unit) := bC (z0 cMmu (z1)) (bNil)
noncomputable def znx (s : z6c) : St U := { tm := [(1, .v (vO (cK (.ptr 0 0) (z1)) (()))), (8, .v (vA (z0 (cArr 28 16) (z1)) (s.t8_0, ()))), (9, .v (vO (z0 (cInt .i64) (z1)) (s.t9, ())))], hp := [.cells ((z0 cMmu (z1) : Cdc U (Mmu × Unit)).enc (s.b0, ())) none] }
noncomputable def z144 : ((Bool × Mmu) ⊕ Mmu) → Ex × St U
  | .inl r => (.ret, { tm := [(1, .v (vO (cK (.ptr 0 0) (z1)) (()))), (2, .v (vO (z0 z8 (z1)) (r.1, ())))], hp := [.cells ((z0 cMmu (z1) : Cdc U (Mmu × Unit)).enc (r.2, ())) none] })
  | .inr r => (.exit 0, { tm := [(1, .v (vO (cK (.ptr 0 0) (z1)) (())))], hp := [.cells ((z0 cMmu (z1) : Cdc U (Mmu × Unit)).enc (r, ())) none] })
noncomputable def z149 (y : ((Bool × Mmu) ⊕ Mmu)) : Tree (Ex × St U) := .ite y.isLeft (.opt (Bool × Mmu) y.getLeft? fun r => .leaf (.ret, { tm := [(1, .v (vO (cK (.ptr 0 0) (z1)) (()))), (2, .v (vO (z0 z8 (z1)) (r.1, ())))], hp := [.cells ((z0 cMmu (z1) : Cdc U (Mmu × Unit)).enc (r.2, ())) none] })) (.opt Mmu y.getRight? fun r => .leaf (.exit 0, { tm := [(1, .v (vO (cK (.ptr 0 0) (z1)) (())))], hp := [.cells ((z0 cMmu (z1) : Cdc U (Mmu × Unit)).enc (r, ())) none] }))
noncomputable def z189 : Hd := { keep := [1, 8, 9], xkeep := [1, 2], own := false }
noncomputable def z165 (x : (Unit) × ((List Page) × Unit) × (Int × Unit) × ((List Page) × Unit) × (Int × Unit) × Unit) (g : (Mmu × Unit) × Unit) : z6d := z6d.mk x.2.1.1 x.2.2.1.1 x.2.2.2.1.1 x.2.2.2.2.1.1 g.1.1
noncomputable def z13r : Tms U ((Unit) × ((List Page) × Unit) × (Int × Unit) × ((List Page) × Unit) × (Int × Unit) × Unit) := tO 1 (cK (.ptr 0 0) (z1)) (tA 8 (z0 (cArr 28 16) (z1)) (tO 9 (z0 (cInt .i64) (z1)) (tA 12 (z0 (cArr 28 8) (z1)) (tO 13 (z0 (cInt .i64) (z1)) (tNil)))))
noncomputable def z13y : Bls U ((Mmu × Unit) × Unit) := bC (z0 cMmu (z1)) (bNil)
noncomputable def zny (s : z6d) : St U := { tm := [(1, .v (vO (cK (.ptr 0 0) (z1)) (()))), (8, .v (vA (z0 (cArr 28 16) (z1)) (s.t8_0, ()))), (9, .v (vO (z0 (cInt .i64) (z1)) (s.t9, ()))), (12, .v (vA (z0 (cArr 28 8) (z1)) (s.t12_0, ()))), (13, .v (vO (z0 (cInt .i64) (z1)) (s.t13, ())))], hp := [.cells ((z0 cMmu (z1) : Cdc U (Mmu × Unit)).enc (s.b0, ())) none] }
noncomputable def z145 : ((Bool × (List Page) × Int × Mmu) ⊕ ((List Page) × Int × Mmu)) → Ex × St U
  | .inl r => (.ret, { tm := [(1, .v (vO (cK (.ptr 0 0) (z1)) (()))), (2, .v (vO (z0 z8 (z1)) (r.1, ()))), (8, .v (vA (z0 (cArr 28 16) (z1)) (r.2.1, ()))), (9, .v (vO (z0 (cInt .i64) (z1)) (r.2.2.1, ())))], hp := [.cells ((z0 cMmu (z1) : Cdc U (Mmu × Unit)).enc (r.2.2.2, ())) none] })
  | .inr r => (.exit 2, { tm := [(1, .v (vO (cK (.ptr 0 0) (z1)) (()))), (8, .v (vA (z0 (cArr 28 16) (z1)) (r.1, ()))), (9, .v (vO (z0 (cInt .i64) (z1)) (r.2.1, ())))], hp := [.cells ((z0 cMmu (z1) : Cdc U (Mmu × Unit)).enc (r.2.2, ())) none] })
noncomputable def z14a (y : ((Bool × (List Page) × Int × Mmu) ⊕ ((List Page) × Int × Mmu))) : Tree (Ex × St U) := .ite y.isLeft (.opt (Bool × (List Page) × Int × Mmu) y.getLeft? fun r => .leaf (.ret, { tm := [(1, .v (vO (cK (.ptr 0 0) (z1)) (()))), (2, .v (vO (z0 z8 (z1)) (r.1, ()))), (8, .v (vA (z0 (cArr 28 16) (z1)) (r.2.1, ()))), (9, .v (vO (z0 (cInt .i64) (z1)) (r.2.2.1, ())))], hp := [.cells ((z0 cMmu (z1) : Cdc U (Mmu × Unit)).enc (r.2.2.2, ())) none] })) (.opt ((List Page) × Int × Mmu) y.getRight? fun r => .leaf (.exit 2, { tm := [(1, .v (vO (cK (.ptr 0 0) (z1)) (()))), (8, .v (vA (z0 (cArr 28 16) (z1)) (r.1, ()))), (9, .v (vO (z0 (cInt .i64) (z1)) (r.2.1, ())))], hp := [.cells ((z0 cMmu (z1) : Cdc U (Mmu × Unit)).enc (r.2.2, ())) none] }))
noncomputable def z18a : Hd := { keep := [1, 8, 9, 12, 13], xkeep := [1, 2, 8, 9], own := false }
noncomputable def ze2 : Env U := zE fns34 (addL 0 z189 (z1f z13q z13x z164 (zd5 none) z149) (addL 1 z18a (z1f z13r z13y z165 (zd6 none) z14a) noL)) 42 0
noncomputable def z15i : Code := (loopAt (Tryz.f35.body.getD .skip) 0 0).getD .skip
theorem z1es (s : z6c) : round ze2 z189 z15i 0 (znx s) = (z8r none s).map (sumE znx z144) := by kernel_rfl
theorem z1or : LpOk ze2 z15i 0 := zy (A := z13q) (B := z13x) (f := z164) (L := zd5 none) (zb (z10 z6) (z1yn (z2 (z7g 28 16) z6) (zb (z2 (z3 .i64) z6) z12))) (z13 (z2 zer z6) z7) (enc := znx) (out := z149) (outS := z144) (step := z8r none) (fun _ => rfl) (fun _ _ => by kernel_rfl) (by kernel_rfl) (fun b => by cases b <;> rfl) z1es
noncomputable def z15j : Code := (loopAt (Tryz.f35.body.getD .skip) 0 1).getD .skip
theorem z1et (s : z6d) : round ze2 z18a z15j 1 (zny s) = (z8s s).map (sumE zny z145) := by kernel_rfl
theorem z1os : LpOk ze2 z15j 1 := zy (A := z13r) (B := z13y) (f := z165) (L := zd6 none) (zb (z10 z6) (z1yn (z2 (z7g 28 16) z6) (zb (z2 (z3 .i64) z6) (z1yn (z2 (z7g 28 8) z6) (zb (z2 (z3 .i64) z6) z12))))) (z13 (z2 zer z6) z7) (enc := zny) (out := z14a) (outS := z145) (step := z8s) (fun _ => rfl) (fun _ _ => by kernel_rfl) (by kernel_rfl) (fun b => by cases b <;> rfl) z1et
theorem z1um (x : Mmu × Unit) (g : Unit) : zk ze2 Tryz.f35 (z1fo.enc x) (bNil.enc g) = (zi6 none x.1).map z1gk := by kernel_rfl
theorem z1vv : FnOk Tryz.prog cd 35 z1h4 := zm (E := ze2) zg z1rx Tryz.func35 (by kernel_rfl) (z14 (z11 z1or (z11 z1os z1j))) (zu zer (zd)) z7 (T := fun x _ => zi6 none x.1) (fun _ _ => rfl) z1um
noncomputable def fns35 := addF 35 true z1h4 fns34
theorem z1ry : zF fns35 := za z1vv z1rx
noncomputable def zqg (x0 : Clock) : Tree Bool :=
 .ite (decide ((1 : Int) ≤ x0.period))
 (.ite (decide (x0.period ≤ (65535 : Int)))
 (.ite (decide ((1 : Int) ≤ x0.left))
 (.leaf (decide (x0.left ≤ x0.period)))
 (.leaf (false)))
 (.leaf (false)))
 (.leaf (false))
noncomputable def zw7 (x0 : Clock) : Option Bool := (zqg x0).run
noncomputable def z14q : Arg U (Clock × Unit) := aA cClock (aNil)
noncomputable def z16a (r : Bool) : zR := ([vO z8 r], [])
noncomputable def z171 : zS := zf z14q bNil (fun x _ => zw7 x.1) z16a
noncomputable def z15o : Env U := zE fns35 noL 23 0
theorem z1ku (x : Clock × Unit) (g : Unit) : zk z15o Tryz.f36 (z14q.enc x) (bNil.enc g) = (zqg x.1).map z16a := by kernel_rfl
theorem z1oz : FnOk Tryz.prog cd 36 z171 := zm (E := z15o) zg z1ry Tryz.func36 (by kernel_rfl) (z9 (by kernel_rfl)) (zu zbo (zd)) z7 (T := fun x _ => zqg x.1) (fun _ _ => rfl) z1ku
noncomputable def fns36 := addF 36 true z171 fns35
theorem z1rz : zF fns36 := za z1oz z1ry
noncomputable def zi5 (x0 : Int) : Tree Bool :=
 .leaf (decide ((IntKind.wrap .i64 (((BitVec.ofInt 64 x0 &&& BitVec.ofInt 64 (255 : Int)).toNat : Int))) = x0))
noncomputable def zfn (x0 : Int) : Option Bool := (zi5 x0).run
noncomputable def z14z : Arg U (Int × Unit) := aO (cInt .i64) (aNil)
noncomputable def z16j (r : Bool) : zR := ([vO z8 r], [])
noncomputable def z178 : zS := zf z14z bNil (fun x _ => zfn x.1) z16j
noncomputable def z15u : Env U := zE fns36 noL 7 0
theorem z1l3 (x : Int × Unit) (g : Unit) : zk z15u Tryz.f91 (z14z.enc x) (bNil.enc g) = (zi5 x.1).map z16j := by kernel_rfl
theorem z1p6 : FnOk Tryz.prog cd 91 z178 := zm (E := z15u) zg z1rz Tryz.func91 (by kernel_rfl) (z9 (by kernel_rfl)) (ze (z3 .i64) (zd)) z7 (T := fun x _ => zi5 x.1) (fun _ _ => rfl) z1l3
noncomputable def fns91 := addF 91 true z178 fns36
theorem z1sz : zF fns91 := za z1p6 z1rz
noncomputable def zlt (x0 : Line) : Tree Bool :=
 .opt Bool (zfn x0.rxData) fun r583 =>
 .ite (r583)
 (.opt Bool (zfn x0.txData) fun r584 =>
 .ite (r584)
 (.ite (decide ((0 : Int) ≤ x0.txLeft))
 (.ite (decide (x0.txLeft ≤ (4 : Int)))
 (.ite ((x0.txReady == (decide (x0.txLeft = (0 : Int)))))
 (.leaf (decide ((x0.out.length : Int) ≤ (4096 : Int))))
 (.leaf (false)))
 (.leaf (false)))
 (.leaf (false)))
 (.leaf (false)))
 (.leaf (false))
noncomputable def zpd (x0 : Line) : Option Bool := (zlt x0).run
noncomputable def z1aj : Arg U (Line × Unit) := aA cLine (aNil)
noncomputable def z1bx (r : Bool) : zR := ([vO z8 r], [])
noncomputable def z1co : zS := zf z1aj bNil (fun x _ => zpd x.1) z1bx
noncomputable def z1ba : Env U := zE fns91 noL 35 0
theorem z1pw (x : Line × Unit) (g : Unit) : zk z1ba Tryz.f37 (z1aj.enc x) (bNil.enc g) = (zlt x.1).map z1bx := by kernel_rfl
theorem z1ti : FnOk Tryz.prog cd 37 z1co := zm (E := z1ba) zg z1sz Tryz.func37 (by kernel_rfl) (z9 (by kernel_rfl)) (zu zdj (zd)) z7 (T := fun x _ => zlt x.1) (fun _ _ => rfl) z1pw
noncomputable def fns37 := addF 37 true z1co fns91
theorem z1s0 : zF fns37 := za z1ti z1sz
structure z4v where
  t19 : (List (List UInt8))
  t20 : Int
  t21 : Int
  b0 : Drive
noncomputable def z75 (s : z4v) : Tree (z4v ⊕ ((Bool × Drive) ⊕ Drive)) :=
 .ite (decide (s.t21 < s.t20))
 (.ite (decide (0 ≤ s.t21))
 (.opt (List UInt8) (s.t19[(s.t21).toNat]?) fun y585 =>
 .ite (!decide ((y585.length : Int) = (128 : Int)))
 (.leaf (.inr (.inl (false, s.b0))))
 (.leaf (.inl (z4v.mk s.t19 s.t20 (IntKind.wrap .i64 (s.t21 + (1 : Int))) s.b0))))
 .fail)
 (.leaf (.inr (.inr s.b0)))
noncomputable def ze9 (q : Option Nat) (s : z4v) : Option ((Bool × Drive) ⊕ Drive) := limQ q (fun s => (z75 s).run) s
structure z4w where
  t5 : Int
  t30 : (List Int)
  t31 : Int
  t32 : Int
  b0 : Drive
noncomputable def z5u (s : z4w) : Tree (z4w ⊕ (Bool ⊕ Unit)) :=
 .ite (decide (s.t32 < s.t31))
 (.ite (decide (0 ≤ s.t32))
 (.opt Int (s.t30[(s.t32).toNat]?) fun y589 =>
 .ite (decide (y589 ≤ s.t5))
 (.leaf (.inr (.inl false)))
 (.ite (decide ((s.b0.sectors.length : Int) ≤ y589))
 (.leaf (.inr (.inl false)))
 (.leaf (.inl (z4w.mk y589 s.t30 s.t31 (IntKind.wrap .i64 (s.t32 + (1 : Int))) s.b0)))))
 .fail)
 (.leaf (.inr (.inr ())))
noncomputable def zea (q : Option Nat) (s : z4w) : Option (Bool ⊕ Unit) := limQ q (fun s => (z5u s).run) s
noncomputable def zi3 (q : Option Nat) (x0 : Drive) : Tree Bool :=
 .ite (decide ((x0.sectors.length : Int) < (1 : Int)))
 (.leaf (false))
 (.ite (decide ((256 : Int) < (x0.sectors.length : Int)))
 (.leaf (false))
 (.opt ((Bool × Drive) ⊕ Drive) (ze9 q (z4v.mk x0.sectors (x0.sectors.length : Int) (0 : Int) x0)) fun l586 =>
 .ite (l586.isLeft)
 (.opt (Bool × Drive) (l586.getLeft?) fun a587 =>
 .leaf (a587.1))
 (.opt Drive (l586.getRight?) fun b588 =>
 .opt (Bool ⊕ Unit) (zea q (z4w.mk (-1 : Int) b588.bad (b588.bad.length : Int) (0 : Int) b588)) fun l590 =>
 .ite (l590.isLeft)
 (.opt Bool (l590.getLeft?) fun a591 =>
 .leaf (a591))
 (.opt Unit (l590.getRight?) fun b592 =>
 .leaf (true)))))
noncomputable def zme (q : Option Nat) (x0 : Drive) : Option Bool := (zi3 q x0).run
noncomputable def z14u : Arg U (Drive × Unit) := aA cDrive (aNil)
noncomputable def z16e (r : Bool) : zR := ([vO z8 r], [])
noncomputable def z174 : zS := zf z14u bNil (fun x _ => zme none x.1) z16e
noncomputable def zxh (x : (Unit) × ((List (List UInt8)) × Unit) × (Int × Unit) × (Int × Unit) × Unit) (g : (Drive × Unit) × Unit) : z4v := z4v.mk x.2.1.1 x.2.2.1.1 x.2.2.2.1.1 g.1.1
noncomputable def zu3 : Tms U ((Unit) × ((List (List UInt8)) × Unit) × (Int × Unit) × (Int × Unit) × Unit) := tO 1 (cK (.ptr 0 0) (z1)) (tO 19 (z0 (cSl 9) (z1)) (tO 20 (z0 (cInt .i64) (z1)) (tO 21 (z0 (cInt .i64) (z1)) (tNil))))
noncomputable def zul : Bls U ((Drive × Unit) × Unit) := bC (z0 cDrive (z1)) (bNil)
noncomputable def zit (s : z4v) : St U := { tm := [(1, .v (vO (cK (.ptr 0 0) (z1)) (()))), (19, .v (vO (z0 (cSl 9) (z1)) (s.t19, ()))), (20, .v (vO (z0 (cInt .i64) (z1)) (s.t20, ()))), (21, .v (vO (z0 (cInt .i64) (z1)) (s.t21, ())))], hp := [.cells ((z0 cDrive (z1) : Cdc U (Drive × Unit)).enc (s.b0, ())) none] }
noncomputable def zv7 : ((Bool × Drive) ⊕ Drive) → Ex × St U
  | .inl r => (.ret, { tm := [(1, .v (vO (cK (.ptr 0 0) (z1)) (()))), (2, .v (vO (z0 z8 (z1)) (r.1, ())))], hp := [.cells ((z0 cDrive (z1) : Cdc U (Drive × Unit)).enc (r.2, ())) none] })
  | .inr r => (.exit 0, { tm := [(1, .v (vO (cK (.ptr 0 0) (z1)) (())))], hp := [.cells ((z0 cDrive (z1) : Cdc U (Drive × Unit)).enc (r, ())) none] })
noncomputable def zvj (y : ((Bool × Drive) ⊕ Drive)) : Tree (Ex × St U) := .ite y.isLeft (.opt (Bool × Drive) y.getLeft? fun r => .leaf (.ret, { tm := [(1, .v (vO (cK (.ptr 0 0) (z1)) (()))), (2, .v (vO (z0 z8 (z1)) (r.1, ())))], hp := [.cells ((z0 cDrive (z1) : Cdc U (Drive × Unit)).enc (r.2, ())) none] })) (.opt Drive y.getRight? fun r => .leaf (.exit 0, { tm := [(1, .v (vO (cK (.ptr 0 0) (z1)) (())))], hp := [.cells ((z0 cDrive (z1) : Cdc U (Drive × Unit)).enc (r, ())) none] }))
noncomputable def zyo : Hd := { keep := [1, 19, 20, 21], xkeep := [1, 2], own := false }
noncomputable def zxi (x : (Unit) × (Int × Unit) × ((List Int) × Unit) × (Int × Unit) × (Int × Unit) × Unit) (g : (Drive × Unit) × Unit) : z4w := z4w.mk x.2.1.1 x.2.2.1.1 x.2.2.2.1.1 x.2.2.2.2.1.1 g.1.1
noncomputable def zu4 : Tms U ((Unit) × (Int × Unit) × ((List Int) × Unit) × (Int × Unit) × (Int × Unit) × Unit) := tO 1 (cK (.ptr 0 0) (z1)) (tO 5 (z0 (cInt .i64) (z1)) (tO 30 (z0 (cSl 3) (z1)) (tO 31 (z0 (cInt .i64) (z1)) (tO 32 (z0 (cInt .i64) (z1)) (tNil)))))
noncomputable def zum : Bls U ((Drive × Unit) × Unit) := bC (z0 cDrive (z1)) (bNil)
noncomputable def ziu (s : z4w) : St U := { tm := [(1, .v (vO (cK (.ptr 0 0) (z1)) (()))), (5, .v (vO (z0 (cInt .i64) (z1)) (s.t5, ()))), (30, .v (vO (z0 (cSl 3) (z1)) (s.t30, ()))), (31, .v (vO (z0 (cInt .i64) (z1)) (s.t31, ()))), (32, .v (vO (z0 (cInt .i64) (z1)) (s.t32, ())))], hp := [.cells ((z0 cDrive (z1) : Cdc U (Drive × Unit)).enc (s.b0, ())) none] }
noncomputable def zv8 : (Bool ⊕ Unit) → Ex × St U
  | .inl r => (.ret, { tm := [(2, .v (vO (z0 z8 (z1)) (r, ())))], hp := [] })
  | .inr r => (.exit 2, { tm := [], hp := [] })
noncomputable def zvk (y : (Bool ⊕ Unit)) : Tree (Ex × St U) := .ite y.isLeft (.opt Bool y.getLeft? fun r => .leaf (.ret, { tm := [(2, .v (vO (z0 z8 (z1)) (r, ())))], hp := [] })) (.opt Unit y.getRight? fun r => .leaf (.exit 2, { tm := [], hp := [] }))
noncomputable def zyp : Hd := { keep := [1, 5, 30, 31, 32], xkeep := [2], own := false }
noncomputable def zar : Env U := zE fns37 (addL 0 zyo (z1f zu3 zul zxh (ze9 none) zvj) (addL 1 zyp (z1f zu4 zum zxi (zea none) zvk) noL)) 48 0
noncomputable def zws : Code := (loopAt (Tryz.f92.body.getD .skip) 0 0).getD .skip
theorem z18u (s : z4v) : round zar zyo zws 0 (zit s) = (z75 s).map (sumE zit zv7) := by kernel_rfl
theorem z1hv : LpOk zar zws 0 := zy (A := zu3) (B := zul) (f := zxh) (L := ze9 none) (zb (z10 z6) (zb (z2 (zi 9) z6) (zb (z2 (z3 .i64) z6) (zb (z2 (z3 .i64) z6) z12)))) (z13 (z2 z2g z6) z7) (enc := zit) (out := zvj) (outS := zv7) (step := z75) (fun _ => rfl) (fun _ _ => by kernel_rfl) (by kernel_rfl) (fun b => by cases b <;> rfl) z18u
noncomputable def zwt : Code := (loopAt (Tryz.f92.body.getD .skip) 0 1).getD .skip
theorem z18v (s : z4w) : round zar zyp zwt 1 (ziu s) = (z5u s).map (sumE ziu zv8) := by kernel_rfl
theorem z1hw : LpOk zar zwt 1 := zy (A := zu4) (B := zum) (f := zxi) (L := zea none) (zb (z10 z6) (zb (z2 (z3 .i64) z6) (zb (z2 (zi 3) z6) (zb (z2 (z3 .i64) z6) (zb (z2 (z3 .i64) z6) z12))))) (z13 (z2 z2g z6) z7) (enc := ziu) (out := zvk) (outS := zv8) (step := z5u) (fun _ => rfl) (fun _ _ => by kernel_rfl) (by kernel_rfl) (fun b => by cases b <;> rfl) z18v
theorem z1ky (x : Drive × Unit) (g : Unit) : zk zar Tryz.f92 (z14u.enc x) (bNil.enc g) = (zi3 none x.1).map z16e := by kernel_rfl
theorem z1p2 : FnOk Tryz.prog cd 92 z174 := zm (E := zar) zg z1s0 Tryz.func92 (by kernel_rfl) (z14 (z11 z1hv (z11 z1hw z1j))) (zu z2g (zd)) z7 (T := fun x _ => zi3 none x.1) (fun _ _ => rfl) z1ky
noncomputable def fns92 := addF 92 true z174 fns37
theorem z1t0 : zF fns92 := za z1p2 z1s0
noncomputable def zcw (x0 : Int) : Tree Bool :=
 .leaf (decide ((IntKind.wrap .i64 (((BitVec.ofInt 64 x0 &&& BitVec.ofInt 64 (65535 : Int)).toNat : Int))) = x0))
noncomputable def z8l (x0 : Int) : Option Bool := (zcw x0).run
noncomputable def zs8 : Arg U (Int × Unit) := aO (cInt .i64) (aNil)
noncomputable def zsx (r : Bool) : zR := ([vO z8 r], [])
noncomputable def zt2 : zS := zf zs8 bNil (fun x _ => z8l x.1) zsx
noncomputable def zsk : Env U := zE fns92 noL 7 0
theorem z1a9 (x : Int × Unit) (g : Unit) : zk zsk Tryz.f93 (zs8.enc x) (bNil.enc g) = (zcw x.1).map zsx := by kernel_rfl
theorem z1ef : FnOk Tryz.prog cd 93 zt2 := zm (E := zsk) zg z1t0 Tryz.func93 (by kernel_rfl) (z9 (by kernel_rfl)) (ze (z3 .i64) (zd)) z7 (T := fun x _ => zcw x.1) (fun _ _ => rfl) z1a9
noncomputable def fns93 := addF 93 true zt2 fns92
theorem z1t1 : zF fns93 := za z1ef z1t0
noncomputable def zel (q : Option Nat) (x0 : Disk) : Tree Bool :=
 .opt Bool (zme q x0.drive) fun r593 =>
 .ite (!r593)
 (.leaf (false))
 (.ite (decide (x0.command < (0 : Int)))
 (.leaf (false))
 (.ite (decide ((3 : Int) < x0.command))
 (.leaf (false))
 (.opt Bool (z8l x0.words) fun r594 =>
 .ite (!r594)
 (.leaf (false))
 (.opt Bool (z8l x0.addr) fun r595 =>
 .ite (!r595)
 (.leaf (false))
 (.opt Bool (z8l x0.start) fun r596 =>
 .ite (!r596)
 (.leaf (false))
 (.ite (decide ((2 : Int) = 0))
 .fail
 (.ite (decide (((x0.addr).tmod (2 : Int)) = (1 : Int)))
 (.leaf (false))
 (.ite (decide (x0.left < (0 : Int)))
 (.leaf (false))
 (.ite (decide ((8 : Int) < x0.left))
 (.leaf (false))
 (.ite (!(x0.ready == (decide (x0.left = (0 : Int)))))
 (.leaf (false))
 (.ite (decide (x0.left = (0 : Int)))
 (.leaf (true))
 (.ite (!decide (x0.command = (0 : Int)))
 (.leaf (!decide (x0.words = (0 : Int))))
 (.leaf (false))))))))))))))
noncomputable def zga (q : Option Nat) (x0 : Disk) : Option Bool := (zel q x0).run
noncomputable def zwj : Arg U (Disk × Unit) := aA cDisk (aNil)
noncomputable def zy0 (r : Bool) : zR := ([vO z8 r], [])
noncomputable def zya : zS := zf zwj bNil (fun x _ => zga none x.1) zy0
noncomputable def zxb : Env U := zE fns93 noL 70 0
theorem z1f1 (x : Disk × Unit) (g : Unit) : zk zxb Tryz.f38 (zwj.enc x) (bNil.enc g) = (zel none x.1).map zy0 := by kernel_rfl
theorem z1if : FnOk Tryz.prog cd 38 zya := zm (E := zxb) zg z1t1 Tryz.func38 (by kernel_rfl) (z9 (by kernel_rfl)) (zu z24 (zd)) z7 (T := fun x _ => zel none x.1) (fun _ _ => rfl) z1f1
noncomputable def fns38 := addF 38 true zya fns93
theorem z1s1 : zF fns38 := za z1if z1t1
noncomputable def zil (x0 : Int) : Tree Bool :=
 .leaf (decide ((IntKind.wrap .i64 (((BitVec.ofInt 64 x0 &&& BitVec.ofInt 64 (65535 : Int)).toNat : Int))) = x0))
noncomputable def zft (x0 : Int) : Option Bool := (zil x0).run
noncomputable def z15g : Arg U (Int × Unit) := aO (cInt .i64) (aNil)
noncomputable def z170 (r : Bool) : zR := ([vO z8 r], [])
noncomputable def z17p : zS := zf z15g bNil (fun x _ => zft x.1) z170
noncomputable def z162 : Env U := zE fns38 noL 7 0
theorem z1lk (x : Int × Unit) (g : Unit) : zk z162 Tryz.f96 (z15g.enc x) (bNil.enc g) = (zil x.1).map z170 := by kernel_rfl
theorem z1pn : FnOk Tryz.prog cd 96 z17p := zm (E := z162) zg z1s1 Tryz.func96 (by kernel_rfl) (z9 (by kernel_rfl)) (ze (z3 .i64) (zd)) z7 (T := fun x _ => zil x.1) (fun _ _ => rfl) z1lk
noncomputable def fns96 := addF 96 true z17p fns38
theorem z10j : zF fns96 := za z1pn z1s1
structure z18 where
  t0 : (List (List UInt8))
  t7 : Int
  t8 : Int
noncomputable def z1k (s : z18) : Tree (z18 ⊕ (Int ⊕ Unit)) :=
 .ite (decide (s.t8 < s.t7))
 (.ite (decide (0 ≤ s.t8))
 (.opt (List UInt8) (s.t0[(s.t8).toNat]?) fun y597 =>
 .opt Bool (zv2 y597) fun r598 =>
 .ite (r598)
 (.leaf (.inr (.inl s.t8)))
 (.leaf (.inl (z18.mk s.t0 s.t7 (IntKind.wrap .i64 (s.t8 + (1 : Int)))))))
 .fail)
 (.leaf (.inr (.inr ())))
noncomputable def z28 (q : Option Nat) (s : z18) : Option (Int ⊕ Unit) := limQ q (fun s => (z1k s).run) s
noncomputable def z20 (q : Option Nat) (x0 : (List (List UInt8))) : Tree Int :=
 .opt (Int ⊕ Unit) (z28 q (z18.mk x0 (x0.length : Int) (0 : Int))) fun l599 =>
 .ite (l599.isLeft)
 (.opt Int (l599.getLeft?) fun a600 =>
 .leaf (a600))
 (.opt Unit (l599.getRight?) fun b601 =>
 .leaf ((-1 : Int)))
noncomputable def z4a (q : Option Nat) (x0 : (List (List UInt8))) : Option Int := (z20 q x0).run
noncomputable def z3n : Arg U ((List (List UInt8)) × Unit) := aO (cSl 9) (aF 95 [] (aNil))
noncomputable def z3p : Bls U (Unit) := bNil
noncomputable def z64 (_x : (List (List UInt8)) × Unit) (_g : Unit) (r : Int) : zR := ([vO (z0 (cInt .i64) (z1)) (r, ())], [])
noncomputable def z9a : zS := mkSpecG z3n z3p (fun x _ => z4a none x.1) z64
noncomputable def z8b (x : ((List (List UInt8)) × Unit) × (Unit) × (Int × Unit) × (Int × Unit) × Unit) (_g : Unit) : z18 := z18.mk x.1.1 x.2.2.1.1 x.2.2.2.1.1
noncomputable def z84 : Tms U (((List (List UInt8)) × Unit) × (Unit) × (Int × Unit) × (Int × Unit) × Unit) := tO 0 (z0 (cSl 9) (z1)) (tO 1 (cK2 (.fn 95 [] []) (z1)) (tO 7 (z0 (cInt .i64) (z1)) (tO 8 (z0 (cInt .i64) (z1)) (tNil))))
noncomputable def z85 : Bls U (Unit) := bNil
noncomputable def z5e (s : z18) : St U := { tm := [(0, .v (vO (z0 (cSl 9) (z1)) (s.t0, ()))), (1, .v (vO (cK2 (.fn 95 [] []) (z1)) (()))), (7, .v (vO (z0 (cInt .i64) (z1)) (s.t7, ()))), (8, .v (vO (z0 (cInt .i64) (z1)) (s.t8, ())))], hp := [] }
noncomputable def z86 : (Int ⊕ Unit) → Ex × St U
  | .inl r => (.ret, { tm := [(4, .v (vO (z0 (cInt .i64) (z1)) (r, ())))], hp := [] })
  | .inr r => (.exit 0, { tm := [], hp := [] })
noncomputable def z87 (y : (Int ⊕ Unit)) : Tree (Ex × St U) := .ite y.isLeft (.opt Int y.getLeft? fun r => .leaf (.ret, { tm := [(4, .v (vO (z0 (cInt .i64) (z1)) (r, ())))], hp := [] })) (.opt Unit y.getRight? fun r => .leaf (.exit 0, { tm := [], hp := [] }))
noncomputable def z8d : Hd := { keep := [0, 1, 7, 8], xkeep := [4], own := false }
noncomputable def z2l : Env U := zE fns96 (addL 0 z8d (z1f z84 z85 z8b (z28 none) z87) noL) 19 0
noncomputable def z8a : Code := (loopAt (Tryz.f159.body.getD .skip) 0 0).getD .skip
theorem zd2 (s : z18) : round z2l z8d z8a 0 (z5e s) = (z1k s).map (sumE z5e z86) := by kernel_rfl
theorem zfb : LpOk z2l z8a 0 := zy (A := z84) (B := z85) (f := z8b) (L := z28 none) (zb (z2 (zi 9) z6) (zb (zfk z6) (zb (z2 (z3 .i64) z6) (zb (z2 (z3 .i64) z6) z12)))) z7 (enc := z5e) (out := z87) (outS := z86) (step := z1k) (fun _ => rfl) (fun _ _ => by kernel_rfl) (by kernel_rfl) (fun b => by cases b <;> rfl) zd2
theorem zgx (x0 : (List (List UInt8))) : execX false z2l Tryz.f159 (z3n.enc (x0, ())) (z3p.enc ()) = (z20 none x0).map (z64 (x0, ()) ()) := by kernel_rfl
theorem zfs : ∀ (x : (List (List UInt8)) × Unit) (g : Unit), execX false z2l Tryz.f159 (z3n.enc x) (z3p.enc g) = (z20 none x.1).map (z64 x g)
  | (x0, ()), () => zgx x0
theorem zgv : FnOk Tryz.prog cd 159 z9a := z5y (E := z2l) (A := z3n) (B := z3p) false zg z10j Tryz.func159 (by kernel_rfl) (z14 (z11 zfb z1j)) (ze (zi 9) (zg8 (zd))) z7 (T := fun (x : (List (List UInt8)) × Unit) (_ : Unit) => z20 none x.1) (fun _ _ => rfl) zfs
noncomputable def z1v (q : Option Nat) (x0 : (List (List UInt8))) : Tree Bool :=
 .opt Int (z4a q x0) fun r602 =>
 .leaf (decide ((0 : Int) ≤ r602))
noncomputable def z29 (q : Option Nat) (x0 : (List (List UInt8))) : Option Bool := (z1v q x0).run
noncomputable def z32 : Arg U ((List (List UInt8)) × Unit) := aO (cSl 9) (aF 95 [] (aNil))
noncomputable def z33 : Bls U (Unit) := bNil
noncomputable def z5d (_x : (List (List UInt8)) × Unit) (_g : Unit) (r : Bool) : zR := ([vO (z0 z8 (z1)) (r, ())], [])
noncomputable def z83 : zS := mkSpecG z32 z33 (fun x _ => z29 none x.1) z5d
noncomputable def z5c : Env U := zE (addF 159 false (z9a) fns96) noL 9 0
theorem zey (x0 : (List (List UInt8))) : execX false z5c Tryz.f94 (z32.enc (x0, ())) (z33.enc ()) = (z1v none x0).map (z5d (x0, ()) ()) := by kernel_rfl
theorem zdu : ∀ (x : (List (List UInt8)) × Unit) (g : Unit), execX false z5c Tryz.f94 (z32.enc x) (z33.enc g) = (z1v none x.1).map (z5d x g)
  | (x0, ()), () => zey x0
theorem zeu : FnOk Tryz.prog cd 94 z83 := z5y (E := z5c) (A := z32) (B := z33) false zg (za zgv z10j) Tryz.func94 (by kernel_rfl) (z9 (by kernel_rfl)) (ze (zi 9) (zg8 (zd))) z7 (T := fun (x : (List (List UInt8)) × Unit) (_ : Unit) => z1v none x.1) (fun _ _ => rfl) zdu
noncomputable def zm7 (q : Option Nat) (x0 : Tape) : Tree Bool :=
 .ite (decide ((64 : Int) < (x0.records.length : Int)))
 (.leaf (false))
 (.opt Bool (z29 q x0.records) fun r603 =>
 .ite (r603)
 (.leaf (false))
 (.ite (decide (x0.pos < (0 : Int)))
 (.leaf (false))
 (.ite (decide ((x0.records.length : Int) < x0.pos))
 (.leaf (false))
 (.ite (decide ((0 : Int) ≤ x0.command))
 (.ite (decide (x0.command ≤ (6 : Int)))
 (.opt Bool (zft x0.count) fun r604 =>
 .ite (r604)
 (.opt Bool (zft x0.addr) fun r605 =>
 .ite (r605)
 (.ite (decide ((0 : Int) ≤ x0.left))
 (.ite (decide (x0.left ≤ (16 : Int)))
 (.leaf ((x0.ready == (decide (x0.left = (0 : Int))))))
 (.leaf (false)))
 (.leaf (false)))
 (.leaf (false)))
 (.leaf (false)))
 (.leaf (false)))
 (.leaf (false))))))
noncomputable def zpn (q : Option Nat) (x0 : Tape) : Option Bool := (zm7 q x0).run
noncomputable def z1b1 : Arg U (Tape × Unit) := aA cTape (aNil)
noncomputable def z1cf (r : Bool) : zR := ([vO z8 r], [])
noncomputable def z1d6 : zS := zf z1b1 bNil (fun x _ => zpn none x.1) z1cf
noncomputable def z1bo : Env U := zE (addF 94 false (z83) fns96) noL 61 0
theorem z1qe (x : Tape × Unit) (g : Unit) : zk z1bo Tryz.f39 (z1b1.enc x) (bNil.enc g) = (zm7 none x.1).map z1cf := by kernel_rfl
theorem z1u0 : FnOk Tryz.prog cd 39 z1d6 := zm (E := z1bo) zg (za zeu z10j) Tryz.func39 (by kernel_rfl) (z9 (by kernel_rfl)) (zu z2z (zd)) z7 (T := fun x _ => zm7 none x.1) (fun _ _ => rfl) z1qe
noncomputable def fns39 := addF 39 true z1d6 fns96
theorem z1s2 : zF fns39 := za z1u0 z10j
structure z6b where
  t30 : (List Line)
  t31 : Int
  t32 : Int
  b0 : Machine
noncomputable def z8q (s : z6b) : Tree (z6b ⊕ ((Bool × Machine) ⊕ Machine)) :=
 .ite (decide (s.t32 < s.t31))
 (.ite (decide (0 ≤ s.t32))
 (.opt Line (s.t30[(s.t32).toNat]?) fun y609 =>
 .opt Bool (zpd y609) fun r610 =>
 .ite (!r610)
 (.leaf (.inr (.inl (false, s.b0))))
 (.leaf (.inl (z6b.mk s.t30 s.t31 (IntKind.wrap .i64 (s.t32 + (1 : Int))) s.b0))))
 .fail)
 (.leaf (.inr (.inr s.b0)))
noncomputable def zhy (q : Option Nat) (s : z6b) : Option ((Bool × Machine) ⊕ Machine) := limQ q (fun s => (z8q s).run) s
noncomputable def zp1 (q : Option Nat) (x0 : Machine) : Tree Bool :=
 .ite (decide ((4 : Int) < (x0.lines.length : Int)))
 (.leaf (false))
 (.opt Bool (zjh q x0.mem x0.bad) fun r606 =>
 .ite (!r606)
 (.leaf (false))
 (.opt Bool (zn5 q x0.mmu) fun r607 =>
 .ite (!r607)
 (.leaf (false))
 (.opt Bool (zw7 x0.clock) fun r608 =>
 .ite (!r608)
 (.leaf (false))
 (.opt ((Bool × Machine) ⊕ Machine) (zhy q (z6b.mk x0.lines (x0.lines.length : Int) (0 : Int) x0)) fun l611 =>
 .ite (l611.isLeft)
 (.opt (Bool × Machine) (l611.getLeft?) fun a612 =>
 .leaf (a612.1))
 (.opt Machine (l611.getRight?) fun b613 =>
 .opt Bool (zga q b613.disk) fun r614 =>
 .ite (r614)
 (.opt Bool (zpn q b613.tape) fun r615 =>
 .leaf (r615))
 (.leaf (false)))))))
noncomputable def zmz (q : Option Nat) (x0 : Machine) : Option Bool := (zp1 q x0).run
noncomputable def z1fj : Arg U (Machine × Unit) := aA zj (aNil)
noncomputable def z1gf (r : Bool) : zR := ([vO z8 r], [])
noncomputable def z1gy : zS := zf z1fj bNil (fun x _ => zmz none x.1) z1gf
noncomputable def z163 (x : (Unit) × ((List Line) × Unit) × (Int × Unit) × (Int × Unit) × Unit) (g : (Machine × Unit) × Unit) : z6b := z6b.mk x.2.1.1 x.2.2.1.1 x.2.2.2.1.1 g.1.1
noncomputable def z13p : Tms U ((Unit) × ((List Line) × Unit) × (Int × Unit) × (Int × Unit) × Unit) := tO 1 (cK (.ptr 0 0) (z1)) (tO 30 (z0 (cSl 55) (z1)) (tO 31 (z0 (cInt .i64) (z1)) (tO 32 (z0 (cInt .i64) (z1)) (tNil))))
noncomputable def z13w : Bls U ((Machine × Unit) × Unit) := bC (z0 zj (z1)) (bNil)
noncomputable def znw (s : z6b) : St U := { tm := [(1, .v (vO (cK (.ptr 0 0) (z1)) (()))), (30, .v (vO (z0 (cSl 55) (z1)) (s.t30, ()))), (31, .v (vO (z0 (cInt .i64) (z1)) (s.t31, ()))), (32, .v (vO (z0 (cInt .i64) (z1)) (s.t32, ())))], hp := [.cells ((z0 zj (z1) : Cdc U (Machine × Unit)).enc (s.b0, ())) none] }
noncomputable def z143 : ((Bool × Machine) ⊕ Machine) → Ex × St U
  | .inl r => (.ret, { tm := [(1, .v (vO (cK (.ptr 0 0) (z1)) (()))), (2, .v (vO (z0 z8 (z1)) (r.1, ())))], hp := [.cells ((z0 zj (z1) : Cdc U (Machine × Unit)).enc (r.2, ())) none] })
  | .inr r => (.exit 0, { tm := [(1, .v (vO (cK (.ptr 0 0) (z1)) (())))], hp := [.cells ((z0 zj (z1) : Cdc U (Machine × Unit)).enc (r, ())) none] })
noncomputable def z148 (y : ((Bool × Machine) ⊕ Machine)) : Tree (Ex × St U) := .ite y.isLeft (.opt (Bool × Machine) y.getLeft? fun r => .leaf (.ret, { tm := [(1, .v (vO (cK (.ptr 0 0) (z1)) (()))), (2, .v (vO (z0 z8 (z1)) (r.1, ())))], hp := [.cells ((z0 zj (z1) : Cdc U (Machine × Unit)).enc (r.2, ())) none] })) (.opt Machine y.getRight? fun r => .leaf (.exit 0, { tm := [(1, .v (vO (cK (.ptr 0 0) (z1)) (())))], hp := [.cells ((z0 zj (z1) : Cdc U (Machine × Unit)).enc (r, ())) none] }))
noncomputable def z188 : Hd := { keep := [1, 30, 31, 32], xkeep := [1, 2], own := false }
noncomputable def zov : Env U := zE fns39 (addL 0 z188 (z1f z13p z13w z163 (zhy none) z148) noL) 48 0
noncomputable def z15h : Code := (loopAt (Tryz.f11.body.getD .skip) 0 0).getD .skip
theorem z1er (s : z6b) : round zov z188 z15h 0 (znw s) = (z8q s).map (sumE znw z143) := by kernel_rfl
theorem z1oq : LpOk zov z15h 0 := zy (A := z13p) (B := z13w) (f := z163) (L := zhy none) (zb (z10 z6) (zb (z2 (zi 55) z6) (zb (z2 (z3 .i64) z6) (zb (z2 (z3 .i64) z6) z12)))) (z13 (z2 z19 z6) z7) (enc := znw) (out := z148) (outS := z143) (step := z8q) (fun _ => rfl) (fun _ _ => by kernel_rfl) (by kernel_rfl) (fun b => by cases b <;> rfl) z1er
theorem z1uh (x : Machine × Unit) (g : Unit) : zk zov Tryz.f11 (z1fj.enc x) (bNil.enc g) = (zp1 none x.1).map z1gf := by kernel_rfl
theorem z1vr : FnOk Tryz.prog cd 11 z1gy := zm (E := zov) zg z1s2 Tryz.func11 (by kernel_rfl) (z14 (z11 z1oq z1j)) (zu z19 (zd)) z7 (T := fun x _ => zp1 none x.1) (fun _ _ => rfl) z1uh
noncomputable def fns11 := addF 11 true z1gy fns39
theorem z20y : zF fns11 := za z1vr z1s2
structure z34 where
  t1 : Int
  t6 : Int
  b0 : Machine
  b1 : Machine
noncomputable def z6j (q : Option Nat) (s : z34) : Tree (z34 ⊕ (Bool ⊕ Unit)) :=
 .ite (decide (s.t6 < s.t1))
 (.opt Machine (zl3 q s.b1) fun r621 =>
 .opt Machine (zpl q s.b0) fun r622 =>
 .opt Bool (zjq q r621 r622) fun r623 =>
 .ite (!r623)
 (.leaf (.inr (.inl false)))
 (.opt Bool (zmz q r621) fun r624 =>
 .ite (!r624)
 (.leaf (.inr (.inl false)))
 (.leaf (.inl (z34.mk s.t1 (IntKind.wrap .i64 (s.t6 + (1 : Int))) r622 r621)))))
 (.leaf (.inr (.inr ())))
noncomputable def zao (q : Option Nat) (s : z34) : Option (Bool ⊕ Unit) := limQ q (fun s => (z6j q s).run) s
noncomputable def zcx (q : Option Nat) (x0 : Machine) (x1 : Int) : Tree Bool :=
 .opt Bool (zmh q x0) fun r616 =>
 .ite (!r616)
 (.opt Bool (z8e q) fun r618 =>
 .leaf (r618))
 (.opt Bool (zmq q x0) fun r617 =>
 .ite (!r617)
 (.opt Bool (z8e q) fun r619 =>
 .leaf (r619))
 (.ite (decide ((60 : Int) < x1))
 (.opt Bool (z8e q) fun r620 =>
 .leaf (r620))
 (.opt (Bool ⊕ Unit) (zao q (z34.mk x1 (0 : Int) x0 x0)) fun l625 =>
 .ite (l625.isLeft)
 (.opt Bool (l625.getLeft?) fun a626 =>
 .leaf (a626))
 (.opt Unit (l625.getRight?) fun b627 =>
 .opt Bool (z8e q) fun r628 =>
 .leaf (r628)))))
noncomputable def zet (q : Option Nat) (x0 : Machine) (x1 : Int) : Option Bool := (zcx q x0 x1).run
noncomputable def zcn : Arg U (Machine × Int × Unit) := aA zj (aO (cInt .i64) (aNil))
noncomputable def zsy (r : Bool) : zR := ([vO z8 r], [])
noncomputable def z1h1 : zS := zf zcn bNil (fun x _ => zet none x.1 x.2.1) zsy
noncomputable def zoe (x : (Int × Unit) × (Unit) × (Unit) × (Int × Unit) × Unit) (g : (Machine × Unit) × (Machine × Unit) × Unit) : z34 := z34.mk x.1.1 x.2.2.2.1.1 g.1.1 g.2.1.1
noncomputable def znd : Tms U ((Int × Unit) × (Unit) × (Unit) × (Int × Unit) × Unit) := tO 1 (z0 (cInt .i64) (z1)) (tO 2 (cK (.ptr 0 0) (z1)) (tO 5 (cK (.ptr 1 0) (z1)) (tO 6 (z0 (cInt .i64) (z1)) (tNil))))
noncomputable def zne : Bls U ((Machine × Unit) × (Machine × Unit) × Unit) := bC (z0 zj (z1)) (bC (z0 zj (z1)) (bNil))
noncomputable def zdl (s : z34) : St U := { tm := [(1, .v (vO (z0 (cInt .i64) (z1)) (s.t1, ()))), (2, .v (vO (cK (.ptr 0 0) (z1)) (()))), (5, .v (vO (cK (.ptr 1 0) (z1)) (()))), (6, .v (vO (z0 (cInt .i64) (z1)) (s.t6, ())))], hp := [.cells ((z0 zj (z1) : Cdc U (Machine × Unit)).enc (s.b0, ())) none, .cells ((z0 zj (z1) : Cdc U (Machine × Unit)).enc (s.b1, ())) none] }
noncomputable def zni : (Bool ⊕ Unit) → Ex × St U
  | .inl r => (.ret, { tm := [(4, .v (vO (z0 z8 (z1)) (r, ())))], hp := [] })
  | .inr r => (.exit 0, { tm := [], hp := [] })
noncomputable def znj (y : (Bool ⊕ Unit)) : Tree (Ex × St U) := .ite y.isLeft (.opt Bool y.getLeft? fun r => .leaf (.ret, { tm := [(4, .v (vO (z0 z8 (z1)) (r, ())))], hp := [] })) (.opt Unit y.getRight? fun r => .leaf (.exit 0, { tm := [], hp := [] }))
noncomputable def zoi : Hd := { keep := [1, 2, 5, 6], xkeep := [4], own := false }
noncomputable def zcp : Env U := zE fns11 (addL 0 zoi (z1f znd zne zoe (zao none) znj) noL) 40 0
noncomputable def zoc : Code := (loopAt (Tryz.f3.body.getD .skip) 0 0).getD .skip
theorem zz7 (s : z34) : round zcp zoi zoc 0 (zdl s) = (z6j none s).map (sumE zdl zni) := by kernel_rfl
theorem z18h : LpOk zcp zoc 0 := zy (A := znd) (B := zne) (f := zoe) (L := zao none) (zb (z2 (z3 .i64) z6) (zb (z10 z6) (zb (z10 z6) (zb (z2 (z3 .i64) z6) z12)))) (z13 (z2 z19 z6) (z13 (z2 z19 z6) z7)) (enc := zdl) (out := znj) (outS := zni) (step := z6j none) (fun _ => rfl) (fun _ _ => by kernel_rfl) (by kernel_rfl) (fun b => by cases b <;> rfl) zz7
theorem z1ab (x : Machine × Int × Unit) (g : Unit) : zk zcp Tryz.f3 (zcn.enc x) (bNil.enc g) = (zcx none x.1 x.2.1).map zsy := by kernel_rfl
theorem z1eh : FnOk Tryz.prog cd 3 z1h1 := zm (E := zcp) zg z20y Tryz.func3 (by kernel_rfl) (z14 (z11 z18h z1j)) (zu z19 (ze (z3 .i64) (zd))) z7 (T := fun x _ => zcx none x.1 x.2.1) (fun _ _ => rfl) z1ab
end Go.Proofs.YtfdndagnolbnhaaGreat
