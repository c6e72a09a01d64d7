/- (goes on) -/
import Derived.Test.YtiafliookmnjoaaGreatDoorXAb23xp0
set_option linter.unusedSimpArgs false
namespace Go.Proofs.YtiafliookmnjoaaGreatDoor
open Go Go.Ab
/-- emulator/save.Same -/
noncomputable def zd2 (q : Option Nat) (x0 : Machine) (x1 : Machine) : Tree Bool :=
  .opt (List (List UInt8)) (z6m q x0 x1) fun r411 =>
    .leaf (decide ((r411.length : Int) = (0 : Int)))
noncomputable def z6u (q : Option Nat) (x0 : Machine) (x1 : Machine) : Option Bool := (zd2 q x0 x1).run
noncomputable def z13f : Arg U (Machine × Machine × Unit) := aA cMachine (aA cMachine (aNil))
noncomputable def z104 (r : Bool) : List (V U) × List (Blk U) := ([vO cBool r], [])
noncomputable def z116 : List (V U) → List (Blk U) → Option (FnOut U) := mkSpec z13f bNil (fun x _ => z6u none x.1 x.2.1) z104
noncomputable def zoy : Env U := { P := Tryz.prog, cd := cd, fns := fns37, lps := noL, frz := fun _r => false, nt := 10, n0 := 0 }
theorem z1fd (x : Machine × Machine × Unit) (g : Unit) : execF zoy Tryz.f17 (z13f.enc x) (bNil.enc g) = (zd2 none x.1 x.2.1).map z104 := by kernel_rfl
theorem z1fl : FnOk Tryz.prog cd 17 z116 := mk_ok (E := zoy) cd_ok zq2 Tryz.func17 (by kernel_rfl) (noLoops_body (by kernel_rfl)) (aA_ok ze (aA_ok ze (aNil_ok))) bNil_ok (T := fun x _ => zd2 none x.1 x.2.1) (fun _ _ => rfl) z1fd
noncomputable def fns17 := addF 17 true z116 fns37
theorem zow : ∀ f q t, fns17 f = some (q, t) → FnOk Tryz.prog cd f t := addF_ok z1fl zq2
/-- emulator/memory.New -/
noncomputable def zi5 (x0 : Int) : Tree ((List Int) × Int) :=
  .opt Bool (zdq x0) fun r412 =>
    .ite (!r412)
      (.leaf (([], (1 : Int))))
      (.ite (decide ((2 : Int) = 0))
        .fail
        (.ite (decide (IntKind.wrap .i64 ((x0).tdiv (2 : Int)) = IntKind.wrap .i64 ((x0).tdiv (2 : Int))))
          (.ite (decide (0 ≤ IntKind.wrap .i64 ((x0).tdiv (2 : Int))))
            (.ite (decide ((8 : Int) * (IntKind.wrap .i64 ((x0).tdiv (2 : Int))) ≤ 281474976710656))
              (.leaf ((List.replicate (IntKind.wrap .i64 ((x0).tdiv (2 : Int))).toNat (0 : Int), (0 : Int))))
              .fail)
            .fail)
          .fail))
noncomputable def zxi (x0 : Int) : Option ((List Int) × Int) := (zi5 x0).run
noncomputable def zz1 : Arg U (Int × Unit) := aO (cInt .i64) (aNil)
noncomputable def zr4 (r : ((List Int) × Int)) : List (V U) × List (Blk U) := ([vO (cSl 3) r.1, vO (cInt .i64) r.2], [])
noncomputable def z14u : List (V U) → List (Blk U) → Option (FnOut U) := mkSpec zz1 bNil (fun x _ => zxi x.1) zr4
noncomputable def zsg : Env U := { P := Tryz.prog, cd := cd, fns := fns17, lps := noL, frz := fun _r => false, nt := 10, n0 := 0 }
theorem z1e0 (x : Int × Unit) (g : Unit) : execF zsg Tryz.f74 (zz1.enc x) (bNil.enc g) = (zi5 x.1).map zr4 := by kernel_rfl
theorem z19l : FnOk Tryz.prog cd 74 z14u := mk_ok (E := zsg) cd_ok zow Tryz.func74 (by kernel_rfl) (noLoops_body (by kernel_rfl)) (aO_ok (cInt_ok .i64) (aNil_ok)) bNil_ok (T := fun x _ => zi5 x.1) (fun _ _ => rfl) z1e0
noncomputable def fns74 := addF 74 true z14u fns17
theorem z19n : ∀ f q t, fns74 f = some (q, t) → FnOk Tryz.prog cd f t := addF_ok z19l zow
/-- strings.Repeat -/
noncomputable def zi1 (x0 : (List UInt8)) (x1 : Int) : Option (List UInt8) := repF x0 x1
noncomputable def ztm : List (V U) → List (Blk U) → Option (FnOut U) := mkSpec (aO cStr (aO (cInt .i64) aNil) : Arg U (List UInt8 × Int × Unit)) bNil (fun x _ => zi1 x.1 x.2.1) fun r => ([vO cStr r], [])
end Go.Proofs.YtiafliookmnjoaaGreatDoor
namespace Go.Proofs
open Go.Shelf
shelf_lay Lays.n105 Nm 105 at Tryz as Tryz.lays122
theorem Tryz.extra122 : Builder.Extra Tryz.prog Tryz.lays122_ren where
  sizeBuilder := by kernel_rfl
  liesBuilder := by kernel_rfl
  t5 := Tryz.underlying5
  a5 := Tryz.isAgg5
  z5 := Tryz.sizeOf5
  v5 := Tryz.zeroValue5
  infoByte := by kernel_rfl
  cellsByte := by kernel_rfl
  sizeByte := by kernel_rfl
  neB5 := by decide
end Go.Proofs
namespace Go.Proofs.YtiafliookmnjoaaGreatDoor
open Go Go.Ab
theorem z1fz : FnOk Tryz.prog cd 122 ztm := rep_ok Tryz.lays122 Tryz.extra122 Tryz.func122 (by kernel_rfl) (by kernel_rfl) rfl
noncomputable def fns122 := addF 122 true ztm fns74
theorem zxs : ∀ f q t, fns122 f = some (q, t) → FnOk Tryz.prog cd f t := addF_ok z1fz z19n
/-- math/bits.Mul32 -/
noncomputable def zer (x0 : Int) (x1 : Int) : Tree (Int × Int) :=
  .ite (decide (0 ≤ (32 : Int)))
    (.leaf ((IntKind.wrap .u32 (((IntKind.wrap .u64 ((IntKind.wrap .u64 x0) * (IntKind.wrap .u64 x1)))).fdiv (2 ^ (min ((32 : Int)).toNat 64))), IntKind.wrap .u32 (IntKind.wrap .u64 ((IntKind.wrap .u64 x0) * (IntKind.wrap .u64 x1))))))
    .fail
noncomputable def z1f4 (x0 : Int) (x1 : Int) : Option (Int × Int) := (zer x0 x1).run
noncomputable def zlj : Arg U (Int × Int × Unit) := aO (cInt .u32) (aO (cInt .u32) (aNil))
noncomputable def zqp (r : (Int × Int)) : List (V U) × List (Blk U) := ([vO (cInt .u32) r.1, vO (cInt .u32) r.2], [])
noncomputable def zod : List (V U) → List (Blk U) → Option (FnOut U) := mkSpec zlj bNil (fun x _ => z1f4 x.1 x.2.1) zqp
noncomputable def zr3 : Env U := { P := Tryz.prog, cd := cd, fns := fns122, lps := noL, frz := fun _r => false, nt := 17, n0 := 0 }
theorem z1d2 (x : Int × Int × Unit) (g : Unit) : execF zr3 Tryz.f149 (zlj.enc x) (bNil.enc g) = (zer x.1 x.2.1).map zqp := by kernel_rfl
theorem z1ds : FnOk Tryz.prog cd 149 zod := mk_ok (E := zr3) cd_ok zxs Tryz.func149 (by kernel_rfl) (noLoops_body (by kernel_rfl)) (aO_ok (cInt_ok .u32) (aO_ok (cInt_ok .u32) (aNil_ok))) bNil_ok (T := fun x _ => zer x.1 x.2.1) (fun _ _ => rfl) z1d2
noncomputable def fns149 := addF 149 true zod fns122
theorem z14d : ∀ f q t, fns149 f = some (q, t) → FnOk Tryz.prog cd f t := addF_ok z1ds zxs
/-- math/bits.Mul64 -/
noncomputable def zf0 (x0 : Int) (x1 : Int) : Tree (Int × Int) :=
  .ite (decide (0 ≤ (32 : Int)))
    (.ite (decide (0 ≤ (32 : Int)))
      (.ite (decide (0 ≤ (32 : Int)))
        (.ite (decide (0 ≤ (32 : Int)))
          (.ite (decide (0 ≤ (32 : Int)))
            (.leaf ((IntKind.wrap .u64 ((IntKind.wrap .u64 ((IntKind.wrap .u64 (((x0).fdiv (2 ^ (min ((32 : Int)).toNat 64))) * ((x1).fdiv (2 ^ (min ((32 : Int)).toNat 64))))) + (((IntKind.wrap .u64 ((IntKind.wrap .u64 (((x0).fdiv (2 ^ (min ((32 : Int)).toNat 64))) * (IntKind.wrap .u64 (((BitVec.ofInt 64 x1 &&& BitVec.ofInt 64 (4294967295 : Int)).toNat : Int))))) + (((IntKind.wrap .u64 ((IntKind.wrap .u64 (((BitVec.ofInt 64 x0 &&& BitVec.ofInt 64 (4294967295 : Int)).toNat : Int))) * (IntKind.wrap .u64 (((BitVec.ofInt 64 x1 &&& BitVec.ofInt 64 (4294967295 : Int)).toNat : Int)))))).fdiv (2 ^ (min ((32 : Int)).toNat 64)))))).fdiv (2 ^ (min ((32 : Int)).toNat 64))))) + (((IntKind.wrap .u64 ((IntKind.wrap .u64 (((BitVec.ofInt 64 (IntKind.wrap .u64 ((IntKind.wrap .u64 (((x0).fdiv (2 ^ (min ((32 : Int)).toNat 64))) * (IntKind.wrap .u64 (((BitVec.ofInt 64 x1 &&& BitVec.ofInt 64 (4294967295 : Int)).toNat : Int))))) + (((IntKind.wrap .u64 ((IntKind.wrap .u64 (((BitVec.ofInt 64 x0 &&& BitVec.ofInt 64 (4294967295 : Int)).toNat : Int))) * (IntKind.wrap .u64 (((BitVec.ofInt 64 x1 &&& BitVec.ofInt 64 (4294967295 : Int)).toNat : Int)))))).fdiv (2 ^ (min ((32 : Int)).toNat 64))))) &&& BitVec.ofInt 64 (4294967295 : Int)).toNat : Int))) + (IntKind.wrap .u64 ((IntKind.wrap .u64 (((BitVec.ofInt 64 x0 &&& BitVec.ofInt 64 (4294967295 : Int)).toNat : Int))) * ((x1).fdiv (2 ^ (min ((32 : Int)).toNat 64)))))))).fdiv (2 ^ (min ((32 : Int)).toNat 64)))), IntKind.wrap .u64 (x0 * x1))))
            .fail)
          .fail)
        .fail)
      .fail)
    .fail
noncomputable def zkt (x0 : Int) (x1 : Int) : Option (Int × Int) := (zf0 x0 x1).run
noncomputable def z11f : Arg U (Int × Int × Unit) := aO (cInt .u64) (aO (cInt .u64) (aNil))
noncomputable def z12k (r : (Int × Int)) : List (V U) × List (Blk U) := ([vO (cInt .u64) r.1, vO (cInt .u64) r.2], [])
noncomputable def zv3 : List (V U) → List (Blk U) → Option (FnOut U) := mkSpec z11f bNil (fun x _ => zkt x.1 x.2.1) z12k
noncomputable def zxk : Env U := { P := Tryz.prog, cd := cd, fns := fns149, lps := noL, frz := fun _r => false, nt := 51, n0 := 0 }
theorem z1a8 (x : Int × Int × Unit) (g : Unit) : execF zxk Tryz.f150 (z11f.enc x) (bNil.enc g) = (zf0 x.1 x.2.1).map z12k := by kernel_rfl
theorem z15e : FnOk Tryz.prog cd 150 zv3 := mk_ok (E := zxk) cd_ok z14d Tryz.func150 (by kernel_rfl) (noLoops_body (by kernel_rfl)) (aO_ok (cInt_ok .u64) (aO_ok (cInt_ok .u64) (aNil_ok))) bNil_ok (T := fun x _ => zf0 x.1 x.2.1) (fun _ _ => rfl) z1a8
noncomputable def fns150 := addF 150 true zv3 fns149
theorem zzn : ∀ f q t, fns150 f = some (q, t) → FnOk Tryz.prog cd f t := addF_ok z15e z14d
/-- math/bits.Mul -/
noncomputable def zhq (x0 : Int) (x1 : Int) : Tree (Int × Int) :=
  .opt (Int × Int) (zkt x0 x1) fun r413 =>
    .leaf ((r413.1, r413.2))
noncomputable def zyx (x0 : Int) (x1 : Int) : Option (Int × Int) := (zhq x0 x1).run
noncomputable def zrj : Arg U (Int × Int × Unit) := aO (cInt .u64) (aO (cInt .u64) (aNil))
noncomputable def ztf (r : (Int × Int)) : List (V U) × List (Blk U) := ([vO (cInt .u64) r.1, vO (cInt .u64) r.2], [])
noncomputable def z131 : List (V U) → List (Blk U) → Option (FnOut U) := mkSpec zrj bNil (fun x _ => zyx x.1 x.2.1) ztf
noncomputable def zl0 : Env U := { P := Tryz.prog, cd := cd, fns := fns150, lps := noL, frz := fun _r => false, nt := 30, n0 := 0 }
theorem z1ap (x : Int × Int × Unit) (g : Unit) : execF zl0 Tryz.f142 (zrj.enc x) (bNil.enc g) = (zhq x.1 x.2.1).map ztf := by kernel_rfl
theorem z17n : FnOk Tryz.prog cd 142 z131 := mk_ok (E := zl0) cd_ok zzn Tryz.func142 (by kernel_rfl) (noLoops_body (by kernel_rfl)) (aO_ok (cInt_ok .u64) (aO_ok (cInt_ok .u64) (aNil_ok))) bNil_ok (T := fun x _ => zhq x.1 x.2.1) (fun _ _ => rfl) z1ap
noncomputable def fns142 := addF 142 true z131 fns150
theorem zn2 : ∀ f q t, fns142 f = some (q, t) → FnOk Tryz.prog cd f t := addF_ok z17n zzn
/-- slices.Repeat[[]string,string] -/
structure z1v where
  t8 : Int
  b0 : (List (List UInt8))
noncomputable def zh3 (s : z1v) : Tree (z1v ⊕ (List (List UInt8))) :=
  .ite (decide (s.t8 < (s.b0.length : Int)))
    (.ite (decide (0 ≤ s.t8))
      (.ite (decide (s.t8 ≤ ((s.b0.length : Nat) : Int)))
        (.ite (decide (0 ≤ s.t8))
          (.ite (decide (s.t8 ≤ ((s.b0.length : Nat) : Int)))
            .fail
            .fail)
          .fail)
        .fail)
      .fail)
    (.leaf (.inr s.b0))
noncomputable def z78 (q : Option Nat) (s : z1v) : Option (List (List UInt8)) := limQ q (fun s => (zh3 s).run) s
theorem z1e1 (k : Nat) (s : z1v) : Le (z78 (some k) s) (z78 none s) := limQ_le (fun _ => Le.rfl) s
noncomputable def zel (q : Option Nat) (x0 : (List (List UInt8))) (x1 : Int) : Tree (List (List UInt8)) :=
  .ite (decide (x1 < (0 : Int)))
    .fail
    (.opt (Int × Int) (zyx (IntKind.wrap .u64 (x0.length : Int)) (IntKind.wrap .u64 x1)) fun r414 =>
      .ite (decide ((0 : Int) < r414.1))
        .fail
        (.ite (decide ((9223372036854775807 : Int) < r414.2))
          .fail
          (.ite (decide (IntKind.wrap .i64 r414.2 = IntKind.wrap .i64 r414.2))
            (.ite (decide (0 ≤ IntKind.wrap .i64 r414.2))
              (.ite (decide ((16 : Int) * (IntKind.wrap .i64 r414.2) ≤ 281474976710656))
                (.opt (List (List UInt8)) (z78 q (z1v.mk ((Nat.min x0.length (List.replicate (IntKind.wrap .i64 r414.2).toNat ([] : List UInt8)).length : Nat) : Int) (x0.take (List.replicate (IntKind.wrap .i64 r414.2).toNat ([] : List UInt8)).length ++ (List.replicate (IntKind.wrap .i64 r414.2).toNat ([] : List UInt8)).drop x0.length))) fun l415 =>
                  .leaf (l415))
                .fail)
              .fail)
            .fail)))
noncomputable def zds (q : Option Nat) (x0 : (List (List UInt8))) (x1 : Int) : Option (List (List UInt8)) := (zel q x0 x1).run
theorem z15s (k : Nat) (x0 : (List (List UInt8))) (x1 : Int) : Le (zds (some k) x0 x1) (zds none x0 x1) := (TLe.ite TLe.rfl (TLe.opt Le.rfl fun _ => (TLe.ite TLe.rfl (TLe.ite TLe.rfl (TLe.ite (TLe.ite (TLe.ite (TLe.opt (z1e1 k _) fun _ => TLe.rfl) TLe.rfl) TLe.rfl) TLe.rfl)))))
noncomputable def zk3 : Arg U ((List (List UInt8)) × Int × Unit) := aO (cSl 9) (aO (cInt .i64) (aNil))
noncomputable def zwy (r : (List (List UInt8))) : List (V U) × List (Blk U) := ([vO (cSl 9) r], [])
noncomputable def zjb : List (V U) → List (Blk U) → Option (FnOut U) := mkSpec zk3 bNil (fun x _ => zds none x.1 x.2.1) zwy
noncomputable def zre (x : (Unit) × (Int × Unit) × Unit) (g : (List (List UInt8)) × Unit) : z1v := z1v.mk x.2.1.1 g.1
noncomputable def zjs : Tms U ((Unit) × (Int × Unit) × Unit) := tO 7 (cK (.row 0 0) (cUnit)) (tO 8 (cPair (cInt .i64) (cUnit)) (tNil))
noncomputable def zo5 : Bls U ((List (List UInt8)) × Unit) := bRv 9 0 (bNil)
noncomputable def zfg (s : z1v) : St U := { tm := [(7, .v (vO (cK (.row 0 0) (cUnit)) (()))), (8, .v (vO (cPair (cInt .i64) (cUnit)) (s.t8, ())))], hp := [.row 9 0 s.b0] }
noncomputable def zj1 (r : (List (List UInt8))) : Ex × St U := (.exit 0, { tm := [(7, .v (vO (cK (.row 0 0) (cUnit)) (())))], hp := [.row 9 0 r] })
noncomputable def zxv (r : (List (List UInt8))) : Tree (Ex × St U) := .leaf (zj1 r)
noncomputable def z14q : Hd := { keep := [7, 8], xkeep := [4, 7], own := false }
noncomputable def zco : Env U := { P := Tryz.prog, cd := cd, fns := fns142, lps := (addL 0 z14q (mkLoop zjs zo5 zre (z78 none) zxv) noL), frz := fun _r => false, nt := 48, n0 := 0 }
noncomputable def z10r : Code := (loopAt (Tryz.f123.body.getD .skip) 0 0).getD .skip
theorem z18g (s : z1v) : round zco z14q z10r 0 (zfg s) = (zh3 s).map (sumE zfg zj1) := by kernel_rfl
theorem z177 : LpOk zco z10r 0 := mkLoop_ok (A := zjs) (B := zo5) (f := zre) (L := z78 none) (tO_ok (cK_ok cUnit_ok) (tO_ok (cPair_ok (cInt_ok .i64) cUnit_ok) tNil_ok)) (bRv_ok bNil_ok) (enc := zfg) (out := zxv) (outS := zj1) (step := zh3) (fun _ => rfl) (fun _ _ => by kernel_rfl) (by kernel_rfl) (fun _ => rfl) z18g
theorem z192 (x : (List (List UInt8)) × Int × Unit) (g : Unit) : execF zco Tryz.f123 (zk3.enc x) (bNil.enc g) = (zel none x.1 x.2.1).map zwy := by kernel_rfl
theorem zp9 : FnOk Tryz.prog cd 123 zjb := mk_ok (E := zco) cd_ok zn2 Tryz.func123 (by kernel_rfl) (loops_of (addL_ok z177 noL_ok)) (aO_ok (cSl_ok 9) (aO_ok (cInt_ok .i64) (aNil_ok))) bNil_ok (T := fun x _ => zel none x.1 x.2.1) (fun _ _ => rfl) z192
noncomputable def fns123 := addF 123 true zjb fns142
theorem zml : ∀ f q t, fns123 f = some (q, t) → FnOk Tryz.prog cd f t := addF_ok zp9 zn2
/-- emulator/drive.New -/
noncomputable def zeo (q : Option Nat) (x0 : Int) : Tree (Drive × Int) :=
  .ite (decide (x0 < (1 : Int)))
    (.leaf ((Drive.mk ([]) ([]), (2 : Int))))
    (.ite (decide ((256 : Int) < x0))
      (.leaf ((Drive.mk ([]) ([]), (2 : Int))))
      (.opt (List UInt8) (zi1 ([0] : List UInt8) (128 : Int)) fun r417 =>
        .opt (List (List UInt8)) (zds q ([r417]) x0) fun r418 =>
          .leaf ((Drive.mk r418 ([]), (0 : Int)))))
noncomputable def zcv (q : Option Nat) (x0 : Int) : Option (Drive × Int) := (zeo q x0).run
theorem z1bf (k : Nat) (x0 : Int) : Le (zcv (some k) x0) (zcv none x0) := (TLe.ite TLe.rfl (TLe.ite TLe.rfl (TLe.opt Le.rfl fun _ => (TLe.opt (z15s k _ _) fun _ => TLe.rfl))))
noncomputable def zz9 : Arg U (Int × Unit) := aO (cInt .i64) (aNil)
noncomputable def z117 (r : (Drive × Int)) : List (V U) × List (Blk U) := ([vA cDrive r.1, vO (cInt .i64) r.2], [])
noncomputable def zzp : List (V U) → List (Blk U) → Option (FnOut U) := mkSpec zz9 bNil (fun x _ => zcv none x.1) z117
noncomputable def zyl : Env U := { P := Tryz.prog, cd := cd, fns := (addF 123 false (frzSpec zjb) fns123), lps := noL, frz := fun _r => false, nt := 18, n0 := 0 }
theorem z1cd (x : Int × Unit) (g : Unit) : execF zyl Tryz.f75 (zz9.enc x) (bNil.enc g) = (zeo none x.1).map z117 := by kernel_rfl
theorem z1by : FnOk Tryz.prog cd 75 zzp := mk_ok (E := zyl) cd_ok (addF_ok (fnOk_frz cd_ok (mkSpec_out fun _ => rfl) zp9) zml) Tryz.func75 (by kernel_rfl) (noLoops_body (by kernel_rfl)) (aO_ok (cInt_ok .i64) (aNil_ok)) bNil_ok (T := fun x _ => zeo none x.1) (fun _ _ => rfl) z1cd
noncomputable def fns75 := addF 75 true zzp fns123
theorem z11l : ∀ f q t, fns75 f = some (q, t) → FnOk Tryz.prog cd f t := addF_ok z1by zml
end Go.Proofs.YtiafliookmnjoaaGreatDoor
namespace Go.Proofs
shelf_lay_g SlLaysE0.n41 Slgn 41 at Tryz 127 as Tryz.lays127
end Go.Proofs
namespace Go.Proofs.YtiafliookmnjoaaGreatDoor
open Go Go.Ab
theorem zmf : FnOk Tryz.prog cd 127 (cloneSpec 9 16) := clone_ok2 cd_ok Tryz.lays127 Tryz.func127 (by kernel_rfl) (by kernel_rfl) rfl rfl (by kernel_rfl)
end Go.Proofs.YtiafliookmnjoaaGreatDoor
namespace Go.Proofs
shelf_lay_g SlLaysE0.n41 Slgn 41 at Tryz 145 as Tryz.lays145
end Go.Proofs
namespace Go.Proofs.YtiafliookmnjoaaGreatDoor
open Go Go.Ab
theorem z17p : FnOk Tryz.prog cd 145 (cloneSpec 3 8) := clone_ok2 cd_ok Tryz.lays145 Tryz.func145 (by kernel_rfl) (by kernel_rfl) rfl rfl (by kernel_rfl)
/-- emulator/diskctl.cloned -/
noncomputable def zfv (x0 : Drive) : Tree Drive :=
  .opt (List (List UInt8)) (cloneF 16 x0.sectors) fun r422 =>
    .opt (List Int) (cloneF 8 x0.bad) fun r423 =>
      .leaf (Drive.mk r422 r423)
noncomputable def ztt (x0 : Drive) : Option Drive := (zfv x0).run
noncomputable def zu7 : Arg U (Drive × Unit) := aA cDrive (aNil)
noncomputable def z11t (r : Drive) : List (V U) × List (Blk U) := ([vA cDrive r], [])
noncomputable def zjl : List (V U) → List (Blk U) → Option (FnOut U) := mkSpec zu7 bNil (fun x _ => ztt x.1) z11t
noncomputable def z11r : Env U := { P := Tryz.prog, cd := cd, fns := (addF 145 false (cloneSpec 3 8) (addF 127 false (cloneSpec 9 16) fns75)), lps := noL, frz := fun _r => false, nt := 10, n0 := 0, fps := fun _r _i => bif Nat.beq _r 1 && Nat.beq _i 2 then .wr [] 2 else bif Nat.beq _r 1 && Nat.beq _i 3 then .rd [] else bif Nat.beq _r 1 && Nat.beq _i 4 then .rd [0] else .none }
theorem z1fk (x : Drive × Unit) (g : Unit) : execF z11r Tryz.f124 (zu7.enc x) (bNil.enc g) = (zfv x.1).map z11t := by kernel_rfl
theorem z1ea : FnOk Tryz.prog cd 124 zjl := mk_ok (E := z11r) cd_ok (addF_ok z17p (addF_ok zmf z11l)) Tryz.func124 (by kernel_rfl) (noLoops_body (by kernel_rfl)) (aA_ok z24 (aNil_ok)) bNil_ok (T := fun x _ => zfv x.1) (fun _ _ => rfl) z1fk
noncomputable def fns124 := addF 124 true zjl fns75
theorem zvo : ∀ f q t, fns124 f = some (q, t) → FnOk Tryz.prog cd f t := addF_ok z1ea z11l
/-- emulator/diskctl.New -/
noncomputable def zic (x0 : Drive) : Tree Disk :=
  .opt Drive (ztt x0) fun r424 =>
    .leaf (Disk.mk r424 false true false 0 0 0 0 0)
noncomputable def z142 (x0 : Drive) : Option Disk := (zic x0).run
noncomputable def zqm : Arg U (Drive × Unit) := aA cDrive (aNil)
noncomputable def zjk (r : Disk) : List (V U) × List (Blk U) := ([vA cDisk r], [])
noncomputable def zke : List (V U) → List (Blk U) → Option (FnOut U) := mkSpec zqm bNil (fun x _ => z142 x.1) zjk
noncomputable def zw8 : Env U := { P := Tryz.prog, cd := cd, fns := fns124, lps := noL, frz := fun _r => false, nt := 6, n0 := 0 }
theorem z1ci (x : Drive × Unit) (g : Unit) : execF zw8 Tryz.f76 (zqm.enc x) (bNil.enc g) = (zic x.1).map zjk := by kernel_rfl
theorem z1ej : FnOk Tryz.prog cd 76 zke := mk_ok (E := zw8) cd_ok zvo Tryz.func76 (by kernel_rfl) (noLoops_body (by kernel_rfl)) (aA_ok z24 (aNil_ok)) bNil_ok (T := fun x _ => zic x.1) (fun _ _ => rfl) z1ci
noncomputable def fns76 := addF 76 true zke fns124
theorem zqv : ∀ f q t, fns76 f = some (q, t) → FnOk Tryz.prog cd f t := addF_ok z1ej zvo
/-- emulator/clock.New -/
noncomputable def zgo (x0 : Int) : Tree (Clock × Int) :=
  .ite (decide (x0 < (1 : Int)))
    (.leaf ((Clock.mk false false 0 0, (2 : Int))))
    (.ite (decide ((65535 : Int) < x0))
      (.leaf ((Clock.mk false false 0 0, (2 : Int))))
      (.leaf ((Clock.mk false false x0 x0, (0 : Int)))))
noncomputable def zps (x0 : Int) : Option (Clock × Int) := (zgo x0).run
noncomputable def zvj : Arg U (Int × Unit) := aO (cInt .i64) (aNil)
noncomputable def zr7 (r : (Clock × Int)) : List (V U) × List (Blk U) := ([vA cClock r.1, vO (cInt .i64) r.2], [])
noncomputable def z122 : List (V U) → List (Blk U) → Option (FnOut U) := mkSpec zvj bNil (fun x _ => zps x.1) zr7
noncomputable def z106 : Env U := { P := Tryz.prog, cd := cd, fns := fns76, lps := noL, frz := fun _r => false, nt := 14, n0 := 0 }
theorem z181 (x : Int × Unit) (g : Unit) : execF z106 Tryz.f77 (zvj.enc x) (bNil.enc g) = (zgo x.1).map zr7 := by kernel_rfl
theorem z1dc : FnOk Tryz.prog cd 77 z122 := mk_ok (E := z106) cd_ok zqv Tryz.func77 (by kernel_rfl) (noLoops_body (by kernel_rfl)) (aO_ok (cInt_ok .i64) (aNil_ok)) bNil_ok (T := fun x _ => zgo x.1) (fun _ _ => rfl) z181
noncomputable def fns77 := addF 77 true z122 fns76
theorem zkg : ∀ f q t, fns77 f = some (q, t) → FnOk Tryz.prog cd f t := addF_ok z1dc zqv
/-- emulator/tape.New -/
noncomputable def zem (q : Option Nat) (x0 : (List (List UInt8))) : Tree (Tape × Int) :=
  .ite (decide ((64 : Int) < (x0.length : Int)))
    (.leaf ((Tape.mk ([]) 0 false false false false false 0 0 0 0, (12 : Int))))
    (.opt Bool (z31 q x0) fun r425 =>
      .ite (r425)
        (.leaf ((Tape.mk ([]) 0 false false false false false 0 0 0 0, (7 : Int))))
        (.opt (List (List UInt8)) (cloneF 16 x0) fun r426 =>
          .leaf ((Tape.mk r426 0 false true false false false 0 0 0 0, (0 : Int)))))
noncomputable def zbg (q : Option Nat) (x0 : (List (List UInt8))) : Option (Tape × Int) := (zem q x0).run
theorem z1dv (k : Nat) (x0 : (List (List UInt8))) : Le (zbg (some k) x0) (zbg none x0) := (TLe.ite TLe.rfl (TLe.opt (zp0 k _) fun _ => TLe.rfl))
noncomputable def zyc : Arg U ((List (List UInt8)) × Unit) := aO (cSl 9) (aNil)
noncomputable def z10e (r : (Tape × Int)) : List (V U) × List (Blk U) := ([vA cTape r.1, vO (cInt .i64) r.2], [])
noncomputable def zpv : List (V U) → List (Blk U) → Option (FnOut U) := mkSpec zyc bNil (fun x _ => zbg none x.1) z10e
noncomputable def zlo : Env U := { P := Tryz.prog, cd := cd, fns := (addF 127 false (cloneSpec 9 16) (addF 125 false (zf1) fns77)), lps := noL, frz := fun _r => false, nt := 14, n0 := 0 }
theorem z17z (x : (List (List UInt8)) × Unit) (g : Unit) : execF zlo Tryz.f78 (zyc.enc x) (bNil.enc g) = (zem none x.1).map z10e := by kernel_rfl
theorem z1ca : FnOk Tryz.prog cd 78 zpv := mk_ok (E := zlo) cd_ok (addF_ok zmf (addF_ok zte zkg)) Tryz.func78 (by kernel_rfl) (noLoops_body (by kernel_rfl)) (aO_ok (cSl_ok 9) (aNil_ok)) bNil_ok (T := fun x _ => zem none x.1) (fun _ _ => rfl) z17z
noncomputable def fns78 := addF 78 true zpv fns77
theorem z14b : ∀ f q t, fns78 f = some (q, t) → FnOk Tryz.prog cd f t := addF_ok z1ca zkg
/-- emulator/line.New -/
noncomputable def zeq  : Tree Line :=
  .leaf (Line.mk false false false 0 false true 0 0 ([]))
noncomputable def zk9  : Option Line := (zeq ).run
noncomputable def zrx : Arg U (Unit) := aNil
noncomputable def z12t (r : Line) : List (V U) × List (Blk U) := ([vA cLine r], [])
noncomputable def zx6 : List (V U) → List (Blk U) → Option (FnOut U) := mkSpec zrx bNil (fun x _ => zk9 ) z12t
noncomputable def zwb : Env U := { P := Tryz.prog, cd := cd, fns := fns78, lps := noL, frz := fun _r => false, nt := 2, n0 := 0 }
theorem z1am (x : Unit) (g : Unit) : execF zwb Tryz.f79 (zrx.enc x) (bNil.enc g) = (zeq ).map z12t := by kernel_rfl
theorem z16a : FnOk Tryz.prog cd 79 zx6 := mk_ok (E := zwb) cd_ok z14b Tryz.func79 (by kernel_rfl) (noLoops_body (by kernel_rfl)) (aNil_ok) bNil_ok (T := fun x _ => zeq ) (fun _ _ => rfl) z1am
noncomputable def fns79 := addF 79 true zx6 fns78
theorem zyt : ∀ f q t, fns79 f = some (q, t) → FnOk Tryz.prog cd f t := addF_ok z16a z14b
/-- emulator/machine.New -/
structure z13 where
  t51 : Int
  t52 : Int
  b0_0 : (List Int)
  b0_1 : (List Int)
  b0_2 : Int
  b0_3 : Int
  b0_6 : Bool
  b0_7 : (List Page)
  b0_8 : Int
  b0_9 : Int
  b0_10 : Bool
  b0_11 : Bool
  b0_12 : Int
  b0_13 : Int
  b0_17 : Bool
  b0_18 : Bool
  b0_19 : Bool
  b0_20 : Int
  b0_21 : Int
  b0_22 : Int
  b0_23 : Int
  b0_24 : Int
  b0_26 : Int
  b0_27 : Bool
  b0_28 : Bool
  b0_29 : Bool
  b0_30 : Bool
  b0_31 : Bool
  b0_32 : Int
  b0_33 : Int
  b0_34 : Int
  b0_35 : Int
  b0_36 : Int
  b0_37 : Bool
  b0_38 : Bool
  b0_39 : Int
  b0_40 : Bool
  b1_0 : (List Int)
  b1_1 : (List Int)
  b1_2 : Int
  b1_3 : Int
  b1_4 : (List Int)
  b1_6 : Bool
  b1_7 : (List Page)
  b1_8 : Int
  b1_9 : Int
  b1_10 : Bool
  b1_11 : Bool
  b1_12 : Int
  b1_13 : Int
  b1_15 : (List (List UInt8))
  b1_16 : (List Int)
  b1_17 : Bool
  b1_18 : Bool
  b1_19 : Bool
  b1_20 : Int
  b1_21 : Int
  b1_22 : Int
  b1_23 : Int
  b1_24 : Int
  b1_25 : (List (List UInt8))
  b1_26 : Int
  b1_27 : Bool
  b1_28 : Bool
  b1_29 : Bool
  b1_30 : Bool
  b1_31 : Bool
  b1_32 : Int
  b1_33 : Int
  b1_34 : Int
  b1_35 : Int
  b1_36 : Int
  b1_37 : Bool
  b1_38 : Bool
  b1_39 : Int
  b1_40 : Bool
  b2 : (List Int)
  b3 : (List Int)
  b4 : (List Line)
  b5 : (List (List UInt8))
  b6 : (List Int)
  b7 : (List (List UInt8))
  b8 : (List Int)
  b9 : (List Line)
noncomputable def zhy (s : z13) : Tree (z13 ⊕ ((List Int) × (List Int) × Int × Int × Bool × (List Page) × Int × Int × Bool × Bool × Int × Int × Bool × Bool × Bool × Int × Int × Int × Int × Int × Int × Bool × Bool × Bool × Bool × Bool × Int × Int × Int × Int × Int × Bool × Bool × Int × Bool × (List Int) × (List Int) × Int × Int × (List Int) × Bool × (List Page) × Int × Int × Bool × Bool × Int × Int × (List (List UInt8)) × (List Int) × Bool × Bool × Bool × Int × Int × Int × Int × Int × (List (List UInt8)) × Int × Bool × Bool × Bool × Bool × Bool × Int × Int × Int × Int × Int × Bool × Bool × Int × Bool × (List Int) × (List Int) × (List Line) × (List (List UInt8)) × (List Int) × (List (List UInt8)) × (List Int) × (List Line))) :=
  .ite (decide (s.t52 < s.t51))
    (.opt Line (zk9) fun r432 =>
      .ite (decide ((s.b9.length + ([r432]).length) * 56 ≤ 140737488355328))
        (.leaf (.inl (z13.mk s.t51 (IntKind.wrap .i64 (s.t52 + (1 : Int))) s.b0_0 s.b0_1 s.b0_2 s.b0_3 s.b0_6 s.b0_7 s.b0_8 s.b0_9 s.b0_10 s.b0_11 s.b0_12 s.b0_13 s.b0_17 s.b0_18 s.b0_19 s.b0_20 s.b0_21 s.b0_22 s.b0_23 s.b0_24 s.b0_26 s.b0_27 s.b0_28 s.b0_29 s.b0_30 s.b0_31 s.b0_32 s.b0_33 s.b0_34 s.b0_35 s.b0_36 s.b0_37 s.b0_38 s.b0_39 s.b0_40 s.b1_0 s.b1_1 s.b1_2 s.b1_3 s.b1_4 s.b1_6 s.b1_7 s.b1_8 s.b1_9 s.b1_10 s.b1_11 s.b1_12 s.b1_13 s.b1_15 s.b1_16 s.b1_17 s.b1_18 s.b1_19 s.b1_20 s.b1_21 s.b1_22 s.b1_23 s.b1_24 s.b1_25 s.b1_26 s.b1_27 s.b1_28 s.b1_29 s.b1_30 s.b1_31 s.b1_32 s.b1_33 s.b1_34 s.b1_35 s.b1_36 s.b1_37 s.b1_38 s.b1_39 s.b1_40 s.b2 s.b3 s.b4 s.b5 s.b6 s.b7 s.b8 (s.b9 ++ ([r432])))))
        .fail)
    (.leaf (.inr (s.b0_0, s.b0_1, s.b0_2, s.b0_3, s.b0_6, s.b0_7, s.b0_8, s.b0_9, s.b0_10, s.b0_11, s.b0_12, s.b0_13, s.b0_17, s.b0_18, s.b0_19, s.b0_20, s.b0_21, s.b0_22, s.b0_23, s.b0_24, s.b0_26, s.b0_27, s.b0_28, s.b0_29, s.b0_30, s.b0_31, s.b0_32, s.b0_33, s.b0_34, s.b0_35, s.b0_36, s.b0_37, s.b0_38, s.b0_39, s.b0_40, s.b1_0, s.b1_1, s.b1_2, s.b1_3, s.b1_4, s.b1_6, s.b1_7, s.b1_8, s.b1_9, s.b1_10, s.b1_11, s.b1_12, s.b1_13, s.b1_15, s.b1_16, s.b1_17, s.b1_18, s.b1_19, s.b1_20, s.b1_21, s.b1_22, s.b1_23, s.b1_24, s.b1_25, s.b1_26, s.b1_27, s.b1_28, s.b1_29, s.b1_30, s.b1_31, s.b1_32, s.b1_33, s.b1_34, s.b1_35, s.b1_36, s.b1_37, s.b1_38, s.b1_39, s.b1_40, s.b2, s.b3, s.b4, s.b5, s.b6, s.b7, s.b8, s.b9)))
noncomputable def z88 (q : Option Nat) (s : z13) : Option ((List Int) × (List Int) × Int × Int × Bool × (List Page) × Int × Int × Bool × Bool × Int × Int × Bool × Bool × Bool × Int × Int × Int × Int × Int × Int × Bool × Bool × Bool × Bool × Bool × Int × Int × Int × Int × Int × Bool × Bool × Int × Bool × (List Int) × (List Int) × Int × Int × (List Int) × Bool × (List Page) × Int × Int × Bool × Bool × Int × Int × (List (List UInt8)) × (List Int) × Bool × Bool × Bool × Int × Int × Int × Int × Int × (List (List UInt8)) × Int × Bool × Bool × Bool × Bool × Bool × Int × Int × Int × Int × Int × Bool × Bool × Int × Bool × (List Int) × (List Int) × (List Line) × (List (List UInt8)) × (List Int) × (List (List UInt8)) × (List Int) × (List Line)) := limQ q (fun s => (zhy s).run) s
theorem z1dn (k : Nat) (s : z13) : Le (z88 (some k) s) (z88 none s) := limQ_le (fun _ => Le.rfl) s
noncomputable def zge (q : Option Nat) (x0 : Int) (x1 : Int) (x2 : Int) : Tree (Machine × Int) :=
  .opt ((List Int) × Int) (zxi x0) fun r427 =>
    .ite (!decide (r427.2 = (0 : Int)))
      (.leaf ((Machine.mk (Cpu.mk (List.replicate 6 (0 : Int)) (List.replicate 2 (0 : Int)) 0 0) ([]) ([]) (Mmu.mk false (List.replicate 16 (Page.mk (0 : Int) (0 : Int) (0 : Int) false)) 0 0) (Clock.mk false false 0 0) ([]) (Disk.mk (Drive.mk ([]) ([])) false false false 0 0 0 0 0) (Tape.mk ([]) 0 false false false false false 0 0 0 0) 0 false false 0 false, r427.2)))
      (.ite (decide (x1 < (0 : Int)))
        (.leaf ((Machine.mk (Cpu.mk (List.replicate 6 (0 : Int)) (List.replicate 2 (0 : Int)) 0 0) ([]) ([]) (Mmu.mk false (List.replicate 16 (Page.mk (0 : Int) (0 : Int) (0 : Int) false)) 0 0) (Clock.mk false false 0 0) ([]) (Disk.mk (Drive.mk ([]) ([])) false false false 0 0 0 0 0) (Tape.mk ([]) 0 false false false false false 0 0 0 0) 0 false false 0 false, (2 : Int))))
        (.ite (decide ((4 : Int) < x1))
          (.leaf ((Machine.mk (Cpu.mk (List.replicate 6 (0 : Int)) (List.replicate 2 (0 : Int)) 0 0) ([]) ([]) (Mmu.mk false (List.replicate 16 (Page.mk (0 : Int) (0 : Int) (0 : Int) false)) 0 0) (Clock.mk false false 0 0) ([]) (Disk.mk (Drive.mk ([]) ([])) false false false 0 0 0 0 0) (Tape.mk ([]) 0 false false false false false 0 0 0 0) 0 false false 0 false, (2 : Int))))
          (.opt (Drive × Int) (zcv q x2) fun r428 =>
            .ite (!decide (r428.2 = (0 : Int)))
              (.leaf ((Machine.mk (Cpu.mk (List.replicate 6 (0 : Int)) (List.replicate 2 (0 : Int)) 0 0) ([]) ([]) (Mmu.mk false (List.replicate 16 (Page.mk (0 : Int) (0 : Int) (0 : Int) false)) 0 0) (Clock.mk false false 0 0) ([]) (Disk.mk (Drive.mk ([]) ([])) false false false 0 0 0 0 0) (Tape.mk ([]) 0 false false false false false 0 0 0 0) 0 false false 0 false, r428.2)))
              (.opt Disk (z142 r428.1) fun r429 =>
                .opt (Clock × Int) (zps (100 : Int)) fun r430 =>
                  .opt (Tape × Int) (zbg q ([])) fun r431 =>
                    .opt ((List Int) × (List Int) × Int × Int × Bool × (List Page) × Int × Int × Bool × Bool × Int × Int × Bool × Bool × Bool × Int × Int × Int × Int × Int × Int × Bool × Bool × Bool × Bool × Bool × Int × Int × Int × Int × Int × Bool × Bool × Int × Bool × (List Int) × (List Int) × Int × Int × (List Int) × Bool × (List Page) × Int × Int × Bool × Bool × Int × Int × (List (List UInt8)) × (List Int) × Bool × Bool × Bool × Int × Int × Int × Int × Int × (List (List UInt8)) × Int × Bool × Bool × Bool × Bool × Bool × Int × Int × Int × Int × Int × Bool × Bool × Int × Bool × (List Int) × (List Int) × (List Line) × (List (List UInt8)) × (List Int) × (List (List UInt8)) × (List Int) × (List Line)) (z88 q (z13.mk x1 (0 : Int) (List.replicate 6 (0 : Int)) (List.replicate 2 (0 : Int)) 0 0 false (List.replicate 16 (Page.mk (0 : Int) (0 : Int) (0 : Int) false)) 0 0 false false 0 0 false false false 0 0 0 0 0 0 false false false false false 0 0 0 0 0 false false 0 false (List.replicate 6 (0 : Int)) (List.replicate 2 (0 : Int)) 0 0 r427.1 false (List.replicate 16 (Page.mk (0 : Int) (0 : Int) (0 : Int) false)) 0 0 r430.1.enable r430.1.ready r430.1.period r430.1.left r429.drive.sectors r429.drive.bad r429.enable r429.ready r429.error r429.command r429.words r429.addr r429.start r429.left r431.1.records r431.1.pos r431.1.enable r431.1.ready r431.1.error r431.1.mark r431.1.end_ r431.1.command r431.1.count r431.1.addr r431.1.left 0 false false 0 false ([]) ([]) ([]) ([]) ([]) ([]) ([]) ([]))) fun l433 =>
                      .leaf ((Machine.mk (Cpu.mk l433.2.2.2.2.2.2.2.2.2.2.2.2.2.2.2.2.2.2.2.2.2.2.2.2.2.2.2.2.2.2.2.2.2.2.2.1 l433.2.2.2.2.2.2.2.2.2.2.2.2.2.2.2.2.2.2.2.2.2.2.2.2.2.2.2.2.2.2.2.2.2.2.2.2.1 l433.2.2.2.2.2.2.2.2.2.2.2.2.2.2.2.2.2.2.2.2.2.2.2.2.2.2.2.2.2.2.2.2.2.2.2.2.2.1 l433.2.2.2.2.2.2.2.2.2.2.2.2.2.2.2.2.2.2.2.2.2.2.2.2.2.2.2.2.2.2.2.2.2.2.2.2.2.2.1) l433.2.2.2.2.2.2.2.2.2.2.2.2.2.2.2.2.2.2.2.2.2.2.2.2.2.2.2.2.2.2.2.2.2.2.2.2.2.2.2.1 l433.2.2.2.2.2.2.2.2.2.2.2.2.2.2.2.2.2.2.2.2.2.2.2.2.2.2.2.2.2.2.2.2.2.2.2.2.2.2.2.2.2.2.2.2.2.2.2.2.2.2.2.2.2.2.2.2.2.2.2.2.2.2.2.2.2.2.2.2.2.2.2.2.2.2.2.2.2.2.2.2.1 (Mmu.mk l433.2.2.2.2.2.2.2.2.2.2.2.2.2.2.2.2.2.2.2.2.2.2.2.2.2.2.2.2.2.2.2.2.2.2.2.2.2.2.2.2.1 l433.2.2.2.2.2.2.2.2.2.2.2.2.2.2.2.2.2.2.2.2.2.2.2.2.2.2.2.2.2.2.2.2.2.2.2.2.2.2.2.2.2.1 l433.2.2.2.2.2.2.2.2.2.2.2.2.2.2.2.2.2.2.2.2.2.2.2.2.2.2.2.2.2.2.2.2.2.2.2.2.2.2.2.2.2.2.1 l433.2.2.2.2.2.2.2.2.2.2.2.2.2.2.2.2.2.2.2.2.2.2.2.2.2.2.2.2.2.2.2.2.2.2.2.2.2.2.2.2.2.2.2.1) (Clock.mk l433.2.2.2.2.2.2.2.2.2.2.2.2.2.2.2.2.2.2.2.2.2.2.2.2.2.2.2.2.2.2.2.2.2.2.2.2.2.2.2.2.2.2.2.2.1 l433.2.2.2.2.2.2.2.2.2.2.2.2.2.2.2.2.2.2.2.2.2.2.2.2.2.2.2.2.2.2.2.2.2.2.2.2.2.2.2.2.2.2.2.2.2.1 l433.2.2.2.2.2.2.2.2.2.2.2.2.2.2.2.2.2.2.2.2.2.2.2.2.2.2.2.2.2.2.2.2.2.2.2.2.2.2.2.2.2.2.2.2.2.2.1 l433.2.2.2.2.2.2.2.2.2.2.2.2.2.2.2.2.2.2.2.2.2.2.2.2.2.2.2.2.2.2.2.2.2.2.2.2.2.2.2.2.2.2.2.2.2.2.2.1) l433.2.2.2.2.2.2.2.2.2.2.2.2.2.2.2.2.2.2.2.2.2.2.2.2.2.2.2.2.2.2.2.2.2.2.2.2.2.2.2.2.2.2.2.2.2.2.2.2.2.2.2.2.2.2.2.2.2.2.2.2.2.2.2.2.2.2.2.2.2.2.2.2.2.2.2.2.2.2.2.2.2 (Disk.mk (Drive.mk l433.2.2.2.2.2.2.2.2.2.2.2.2.2.2.2.2.2.2.2.2.2.2.2.2.2.2.2.2.2.2.2.2.2.2.2.2.2.2.2.2.2.2.2.2.2.2.2.2.1 l433.2.2.2.2.2.2.2.2.2.2.2.2.2.2.2.2.2.2.2.2.2.2.2.2.2.2.2.2.2.2.2.2.2.2.2.2.2.2.2.2.2.2.2.2.2.2.2.2.2.1) l433.2.2.2.2.2.2.2.2.2.2.2.2.2.2.2.2.2.2.2.2.2.2.2.2.2.2.2.2.2.2.2.2.2.2.2.2.2.2.2.2.2.2.2.2.2.2.2.2.2.2.1 l433.2.2.2.2.2.2.2.2.2.2.2.2.2.2.2.2.2.2.2.2.2.2.2.2.2.2.2.2.2.2.2.2.2.2.2.2.2.2.2.2.2.2.2.2.2.2.2.2.2.2.2.1 l433.2.2.2.2.2.2.2.2.2.2.2.2.2.2.2.2.2.2.2.2.2.2.2.2.2.2.2.2.2.2.2.2.2.2.2.2.2.2.2.2.2.2.2.2.2.2.2.2.2.2.2.2.1 l433.2.2.2.2.2.2.2.2.2.2.2.2.2.2.2.2.2.2.2.2.2.2.2.2.2.2.2.2.2.2.2.2.2.2.2.2.2.2.2.2.2.2.2.2.2.2.2.2.2.2.2.2.2.1 l433.2.2.2.2.2.2.2.2.2.2.2.2.2.2.2.2.2.2.2.2.2.2.2.2.2.2.2.2.2.2.2.2.2.2.2.2.2.2.2.2.2.2.2.2.2.2.2.2.2.2.2.2.2.2.1 l433.2.2.2.2.2.2.2.2.2.2.2.2.2.2.2.2.2.2.2.2.2.2.2.2.2.2.2.2.2.2.2.2.2.2.2.2.2.2.2.2.2.2.2.2.2.2.2.2.2.2.2.2.2.2.2.1 l433.2.2.2.2.2.2.2.2.2.2.2.2.2.2.2.2.2.2.2.2.2.2.2.2.2.2.2.2.2.2.2.2.2.2.2.2.2.2.2.2.2.2.2.2.2.2.2.2.2.2.2.2.2.2.2.2.1 l433.2.2.2.2.2.2.2.2.2.2.2.2.2.2.2.2.2.2.2.2.2.2.2.2.2.2.2.2.2.2.2.2.2.2.2.2.2.2.2.2.2.2.2.2.2.2.2.2.2.2.2.2.2.2.2.2.2.1) (Tape.mk l433.2.2.2.2.2.2.2.2.2.2.2.2.2.2.2.2.2.2.2.2.2.2.2.2.2.2.2.2.2.2.2.2.2.2.2.2.2.2.2.2.2.2.2.2.2.2.2.2.2.2.2.2.2.2.2.2.2.2.1 l433.2.2.2.2.2.2.2.2.2.2.2.2.2.2.2.2.2.2.2.2.2.2.2.2.2.2.2.2.2.2.2.2.2.2.2.2.2.2.2.2.2.2.2.2.2.2.2.2.2.2.2.2.2.2.2.2.2.2.2.1 l433.2.2.2.2.2.2.2.2.2.2.2.2.2.2.2.2.2.2.2.2.2.2.2.2.2.2.2.2.2.2.2.2.2.2.2.2.2.2.2.2.2.2.2.2.2.2.2.2.2.2.2.2.2.2.2.2.2.2.2.2.1 l433.2.2.2.2.2.2.2.2.2.2.2.2.2.2.2.2.2.2.2.2.2.2.2.2.2.2.2.2.2.2.2.2.2.2.2.2.2.2.2.2.2.2.2.2.2.2.2.2.2.2.2.2.2.2.2.2.2.2.2.2.2.1 l433.2.2.2.2.2.2.2.2.2.2.2.2.2.2.2.2.2.2.2.2.2.2.2.2.2.2.2.2.2.2.2.2.2.2.2.2.2.2.2.2.2.2.2.2.2.2.2.2.2.2.2.2.2.2.2.2.2.2.2.2.2.2.1 l433.2.2.2.2.2.2.2.2.2.2.2.2.2.2.2.2.2.2.2.2.2.2.2.2.2.2.2.2.2.2.2.2.2.2.2.2.2.2.2.2.2.2.2.2.2.2.2.2.2.2.2.2.2.2.2.2.2.2.2.2.2.2.2.1 l433.2.2.2.2.2.2.2.2.2.2.2.2.2.2.2.2.2.2.2.2.2.2.2.2.2.2.2.2.2.2.2.2.2.2.2.2.2.2.2.2.2.2.2.2.2.2.2.2.2.2.2.2.2.2.2.2.2.2.2.2.2.2.2.2.1 l433.2.2.2.2.2.2.2.2.2.2.2.2.2.2.2.2.2.2.2.2.2.2.2.2.2.2.2.2.2.2.2.2.2.2.2.2.2.2.2.2.2.2.2.2.2.2.2.2.2.2.2.2.2.2.2.2.2.2.2.2.2.2.2.2.2.1 l433.2.2.2.2.2.2.2.2.2.2.2.2.2.2.2.2.2.2.2.2.2.2.2.2.2.2.2.2.2.2.2.2.2.2.2.2.2.2.2.2.2.2.2.2.2.2.2.2.2.2.2.2.2.2.2.2.2.2.2.2.2.2.2.2.2.2.1 l433.2.2.2.2.2.2.2.2.2.2.2.2.2.2.2.2.2.2.2.2.2.2.2.2.2.2.2.2.2.2.2.2.2.2.2.2.2.2.2.2.2.2.2.2.2.2.2.2.2.2.2.2.2.2.2.2.2.2.2.2.2.2.2.2.2.2.2.1 l433.2.2.2.2.2.2.2.2.2.2.2.2.2.2.2.2.2.2.2.2.2.2.2.2.2.2.2.2.2.2.2.2.2.2.2.2.2.2.2.2.2.2.2.2.2.2.2.2.2.2.2.2.2.2.2.2.2.2.2.2.2.2.2.2.2.2.2.2.1) l433.2.2.2.2.2.2.2.2.2.2.2.2.2.2.2.2.2.2.2.2.2.2.2.2.2.2.2.2.2.2.2.2.2.2.2.2.2.2.2.2.2.2.2.2.2.2.2.2.2.2.2.2.2.2.2.2.2.2.2.2.2.2.2.2.2.2.2.2.2.1 l433.2.2.2.2.2.2.2.2.2.2.2.2.2.2.2.2.2.2.2.2.2.2.2.2.2.2.2.2.2.2.2.2.2.2.2.2.2.2.2.2.2.2.2.2.2.2.2.2.2.2.2.2.2.2.2.2.2.2.2.2.2.2.2.2.2.2.2.2.2.2.1 l433.2.2.2.2.2.2.2.2.2.2.2.2.2.2.2.2.2.2.2.2.2.2.2.2.2.2.2.2.2.2.2.2.2.2.2.2.2.2.2.2.2.2.2.2.2.2.2.2.2.2.2.2.2.2.2.2.2.2.2.2.2.2.2.2.2.2.2.2.2.2.2.1 l433.2.2.2.2.2.2.2.2.2.2.2.2.2.2.2.2.2.2.2.2.2.2.2.2.2.2.2.2.2.2.2.2.2.2.2.2.2.2.2.2.2.2.2.2.2.2.2.2.2.2.2.2.2.2.2.2.2.2.2.2.2.2.2.2.2.2.2.2.2.2.2.2.1 l433.2.2.2.2.2.2.2.2.2.2.2.2.2.2.2.2.2.2.2.2.2.2.2.2.2.2.2.2.2.2.2.2.2.2.2.2.2.2.2.2.2.2.2.2.2.2.2.2.2.2.2.2.2.2.2.2.2.2.2.2.2.2.2.2.2.2.2.2.2.2.2.2.2.1, (0 : Int)))))))
noncomputable def z7z (q : Option Nat) (x0 : Int) (x1 : Int) (x2 : Int) : Option (Machine × Int) := (zge q x0 x1 x2).run
theorem z1f0 (k : Nat) (x0 : Int) (x1 : Int) (x2 : Int) : Le (z7z (some k) x0 x1 x2) (z7z none x0 x1 x2) := (TLe.opt Le.rfl fun _ => (TLe.ite TLe.rfl (TLe.ite TLe.rfl (TLe.ite TLe.rfl (TLe.opt (z1bf k _) fun _ => (TLe.ite TLe.rfl (TLe.opt Le.rfl fun _ => (TLe.opt Le.rfl fun _ => (TLe.opt (z1dv k _) fun _ => (TLe.opt (z1dn k _) fun _ => TLe.rfl))))))))))
noncomputable def zyh : Arg U (Int × Int × Int × Unit) := aO (cInt .i64) (aO (cInt .i64) (aO (cInt .i64) (aNil)))
noncomputable def z12w (r : (Machine × Int)) : List (V U) × List (Blk U) := ([vA cMachine r.1, vO (cInt .i64) r.2], [])
noncomputable def znh : List (V U) → List (Blk U) → Option (FnOut U) := mkSpec zyh bNil (fun x _ => z7z none x.1 x.2.1 x.2.2.1) z12w
noncomputable def zq1 (x : (Unit) × (Unit) × (Int × Unit) × (Int × Unit) × Unit) (g : ((List Int) × (List Int) × Int × Int × Bool × (List Page) × Int × Int × Bool × Bool × Int × Int × Bool × Bool × Bool × Int × Int × Int × Int × Int × Int × Bool × Bool × Bool × Bool × Bool × Int × Int × Int × Int × Int × Bool × Bool × Int × Bool × Unit) × ((List Int) × (List Int) × Int × Int × (List Int) × Bool × (List Page) × Int × Int × Bool × Bool × Int × Int × (List (List UInt8)) × (List Int) × Bool × Bool × Bool × Int × Int × Int × Int × Int × (List (List UInt8)) × Int × Bool × Bool × Bool × Bool × Bool × Int × Int × Int × Int × Int × Bool × Bool × Int × Bool × Unit) × (List Int) × (List Int) × (List Line) × (List (List UInt8)) × (List Int) × (List (List UInt8)) × (List Int) × (List Line) × Unit) : z13 := z13.mk x.2.2.1.1 x.2.2.2.1.1 g.1.1 g.1.2.1 g.1.2.2.1 g.1.2.2.2.1 g.1.2.2.2.2.1 g.1.2.2.2.2.2.1 g.1.2.2.2.2.2.2.1 g.1.2.2.2.2.2.2.2.1 g.1.2.2.2.2.2.2.2.2.1 g.1.2.2.2.2.2.2.2.2.2.1 g.1.2.2.2.2.2.2.2.2.2.2.1 g.1.2.2.2.2.2.2.2.2.2.2.2.1 g.1.2.2.2.2.2.2.2.2.2.2.2.2.1 g.1.2.2.2.2.2.2.2.2.2.2.2.2.2.1 g.1.2.2.2.2.2.2.2.2.2.2.2.2.2.2.1 g.1.2.2.2.2.2.2.2.2.2.2.2.2.2.2.2.1 g.1.2.2.2.2.2.2.2.2.2.2.2.2.2.2.2.2.1 g.1.2.2.2.2.2.2.2.2.2.2.2.2.2.2.2.2.2.1 g.1.2.2.2.2.2.2.2.2.2.2.2.2.2.2.2.2.2.2.1 g.1.2.2.2.2.2.2.2.2.2.2.2.2.2.2.2.2.2.2.2.1 g.1.2.2.2.2.2.2.2.2.2.2.2.2.2.2.2.2.2.2.2.2.1 g.1.2.2.2.2.2.2.2.2.2.2.2.2.2.2.2.2.2.2.2.2.2.1 g.1.2.2.2.2.2.2.2.2.2.2.2.2.2.2.2.2.2.2.2.2.2.2.1 g.1.2.2.2.2.2.2.2.2.2.2.2.2.2.2.2.2.2.2.2.2.2.2.2.1 g.1.2.2.2.2.2.2.2.2.2.2.2.2.2.2.2.2.2.2.2.2.2.2.2.2.1 g.1.2.2.2.2.2.2.2.2.2.2.2.2.2.2.2.2.2.2.2.2.2.2.2.2.2.1 g.1.2.2.2.2.2.2.2.2.2.2.2.2.2.2.2.2.2.2.2.2.2.2.2.2.2.2.1 g.1.2.2.2.2.2.2.2.2.2.2.2.2.2.2.2.2.2.2.2.2.2.2.2.2.2.2.2.1 g.1.2.2.2.2.2.2.2.2.2.2.2.2.2.2.2.2.2.2.2.2.2.2.2.2.2.2.2.2.1 g.1.2.2.2.2.2.2.2.2.2.2.2.2.2.2.2.2.2.2.2.2.2.2.2.2.2.2.2.2.2.1 g.1.2.2.2.2.2.2.2.2.2.2.2.2.2.2.2.2.2.2.2.2.2.2.2.2.2.2.2.2.2.2.1 g.1.2.2.2.2.2.2.2.2.2.2.2.2.2.2.2.2.2.2.2.2.2.2.2.2.2.2.2.2.2.2.2.1 g.1.2.2.2.2.2.2.2.2.2.2.2.2.2.2.2.2.2.2.2.2.2.2.2.2.2.2.2.2.2.2.2.2.1 g.1.2.2.2.2.2.2.2.2.2.2.2.2.2.2.2.2.2.2.2.2.2.2.2.2.2.2.2.2.2.2.2.2.2.1 g.1.2.2.2.2.2.2.2.2.2.2.2.2.2.2.2.2.2.2.2.2.2.2.2.2.2.2.2.2.2.2.2.2.2.2.1 g.2.1.1 g.2.1.2.1 g.2.1.2.2.1 g.2.1.2.2.2.1 g.2.1.2.2.2.2.1 g.2.1.2.2.2.2.2.1 g.2.1.2.2.2.2.2.2.1 g.2.1.2.2.2.2.2.2.2.1 g.2.1.2.2.2.2.2.2.2.2.1 g.2.1.2.2.2.2.2.2.2.2.2.1 g.2.1.2.2.2.2.2.2.2.2.2.2.1 g.2.1.2.2.2.2.2.2.2.2.2.2.2.1 g.2.1.2.2.2.2.2.2.2.2.2.2.2.2.1 g.2.1.2.2.2.2.2.2.2.2.2.2.2.2.2.1 g.2.1.2.2.2.2.2.2.2.2.2.2.2.2.2.2.1 g.2.1.2.2.2.2.2.2.2.2.2.2.2.2.2.2.2.1 g.2.1.2.2.2.2.2.2.2.2.2.2.2.2.2.2.2.2.1 g.2.1.2.2.2.2.2.2.2.2.2.2.2.2.2.2.2.2.2.1 g.2.1.2.2.2.2.2.2.2.2.2.2.2.2.2.2.2.2.2.2.1 g.2.1.2.2.2.2.2.2.2.2.2.2.2.2.2.2.2.2.2.2.2.1 g.2.1.2.2.2.2.2.2.2.2.2.2.2.2.2.2.2.2.2.2.2.2.1 g.2.1.2.2.2.2.2.2.2.2.2.2.2.2.2.2.2.2.2.2.2.2.2.1 g.2.1.2.2.2.2.2.2.2.2.2.2.2.2.2.2.2.2.2.2.2.2.2.2.1 g.2.1.2.2.2.2.2.2.2.2.2.2.2.2.2.2.2.2.2.2.2.2.2.2.2.1 g.2.1.2.2.2.2.2.2.2.2.2.2.2.2.2.2.2.2.2.2.2.2.2.2.2.2.1 g.2.1.2.2.2.2.2.2.2.2.2.2.2.2.2.2.2.2.2.2.2.2.2.2.2.2.2.1 g.2.1.2.2.2.2.2.2.2.2.2.2.2.2.2.2.2.2.2.2.2.2.2.2.2.2.2.2.1 g.2.1.2.2.2.2.2.2.2.2.2.2.2.2.2.2.2.2.2.2.2.2.2.2.2.2.2.2.2.1 g.2.1.2.2.2.2.2.2.2.2.2.2.2.2.2.2.2.2.2.2.2.2.2.2.2.2.2.2.2.2.1 g.2.1.2.2.2.2.2.2.2.2.2.2.2.2.2.2.2.2.2.2.2.2.2.2.2.2.2.2.2.2.2.1 g.2.1.2.2.2.2.2.2.2.2.2.2.2.2.2.2.2.2.2.2.2.2.2.2.2.2.2.2.2.2.2.2.1 g.2.1.2.2.2.2.2.2.2.2.2.2.2.2.2.2.2.2.2.2.2.2.2.2.2.2.2.2.2.2.2.2.2.1 g.2.1.2.2.2.2.2.2.2.2.2.2.2.2.2.2.2.2.2.2.2.2.2.2.2.2.2.2.2.2.2.2.2.2.1 g.2.1.2.2.2.2.2.2.2.2.2.2.2.2.2.2.2.2.2.2.2.2.2.2.2.2.2.2.2.2.2.2.2.2.2.1 g.2.1.2.2.2.2.2.2.2.2.2.2.2.2.2.2.2.2.2.2.2.2.2.2.2.2.2.2.2.2.2.2.2.2.2.2.1 g.2.1.2.2.2.2.2.2.2.2.2.2.2.2.2.2.2.2.2.2.2.2.2.2.2.2.2.2.2.2.2.2.2.2.2.2.2.1 g.2.1.2.2.2.2.2.2.2.2.2.2.2.2.2.2.2.2.2.2.2.2.2.2.2.2.2.2.2.2.2.2.2.2.2.2.2.2.1 g.2.1.2.2.2.2.2.2.2.2.2.2.2.2.2.2.2.2.2.2.2.2.2.2.2.2.2.2.2.2.2.2.2.2.2.2.2.2.2.1 g.2.1.2.2.2.2.2.2.2.2.2.2.2.2.2.2.2.2.2.2.2.2.2.2.2.2.2.2.2.2.2.2.2.2.2.2.2.2.2.2.1 g.2.2.1 g.2.2.2.1 g.2.2.2.2.1 g.2.2.2.2.2.1 g.2.2.2.2.2.2.1 g.2.2.2.2.2.2.2.1 g.2.2.2.2.2.2.2.2.1 g.2.2.2.2.2.2.2.2.2.1
noncomputable def zq8 : Tms U ((Unit) × (Unit) × (Int × Unit) × (Int × Unit) × Unit) := tO 6 (cK (.ptr 0 0) (cUnit)) (tO 11 (cK (.ptr 1 0) (cUnit)) (tO 51 (cPair (cInt .i64) (cUnit)) (tO 52 (cPair (cInt .i64) (cUnit)) (tNil))))
noncomputable def zpx : Bls U (((List Int) × (List Int) × Int × Int × Bool × (List Page) × Int × Int × Bool × Bool × Int × Int × Bool × Bool × Bool × Int × Int × Int × Int × Int × Int × Bool × Bool × Bool × Bool × Bool × Int × Int × Int × Int × Int × Bool × Bool × Int × Bool × Unit) × ((List Int) × (List Int) × Int × Int × (List Int) × Bool × (List Page) × Int × Int × Bool × Bool × Int × Int × (List (List UInt8)) × (List Int) × Bool × Bool × Bool × Int × Int × Int × Int × Int × (List (List UInt8)) × Int × Bool × Bool × Bool × Bool × Bool × Int × Int × Int × Int × Int × Bool × Bool × Int × Bool × Unit) × (List Int) × (List Int) × (List Line) × (List (List UInt8)) × (List Int) × (List (List UInt8)) × (List Int) × (List Line) × Unit) := bC (cPair (cArr 3 6) (cPair (cArr 3 2) (cPair (cInt .i64) (cPair (cInt .i64) (cK (.row 2 0) (cK (.row 3 0) (cPair cBool (cPair (cArr 28 16) (cPair (cInt .i64) (cPair (cInt .i64) (cPair cBool (cPair cBool (cPair (cInt .i64) (cPair (cInt .i64) (cK (.row 4 0) (cK (.row 5 0) (cK (.row 6 0) (cPair cBool (cPair cBool (cPair cBool (cPair (cInt .i64) (cPair (cInt .i64) (cPair (cInt .i64) (cPair (cInt .i64) (cPair (cInt .i64) (cK (.row 7 0) (cPair (cInt .i64) (cPair cBool (cPair cBool (cPair cBool (cPair cBool (cPair cBool (cPair (cInt .i64) (cPair (cInt .i64) (cPair (cInt .i64) (cPair (cInt .i64) (cPair (cInt .i64) (cPair cBool (cPair cBool (cPair (cInt .i64) (cPair cBool (cUnit)))))))))))))))))))))))))))))))))))))))))) (bC (cPair (cArr 3 6) (cPair (cArr 3 2) (cPair (cInt .i64) (cPair (cInt .i64) (cPair (cSl 3) (cK (.row 8 0) (cPair cBool (cPair (cArr 28 16) (cPair (cInt .i64) (cPair (cInt .i64) (cPair cBool (cPair cBool (cPair (cInt .i64) (cPair (cInt .i64) (cK (.row 9 0) (cPair (cSl 9) (cPair (cSl 3) (cPair cBool (cPair cBool (cPair cBool (cPair (cInt .i64) (cPair (cInt .i64) (cPair (cInt .i64) (cPair (cInt .i64) (cPair (cInt .i64) (cPair (cSl 9) (cPair (cInt .i64) (cPair cBool (cPair cBool (cPair cBool (cPair cBool (cPair cBool (cPair (cInt .i64) (cPair (cInt .i64) (cPair (cInt .i64) (cPair (cInt .i64) (cPair (cInt .i64) (cPair cBool (cPair cBool (cPair (cInt .i64) (cPair cBool (cUnit)))))))))))))))))))))))))))))))))))))))))) (bRv 3 0 (bRv 3 0 (bRv 66 0 (bRv 9 0 (bRv 3 0 (bRv 9 0 (bRv 3 0 (bRv 66 0 (bNil))))))))))
noncomputable def zg2 (s : z13) : St U := { tm := [(6, .v (vO (cK (.ptr 0 0) (cUnit)) (()))), (11, .v (vO (cK (.ptr 1 0) (cUnit)) (()))), (51, .v (vO (cPair (cInt .i64) (cUnit)) (s.t51, ()))), (52, .v (vO (cPair (cInt .i64) (cUnit)) (s.t52, ())))], hp := [.cells ((cPair (cArr 3 6) (cPair (cArr 3 2) (cPair (cInt .i64) (cPair (cInt .i64) (cK (.row 2 0) (cK (.row 3 0) (cPair cBool (cPair (cArr 28 16) (cPair (cInt .i64) (cPair (cInt .i64) (cPair cBool (cPair cBool (cPair (cInt .i64) (cPair (cInt .i64) (cK (.row 4 0) (cK (.row 5 0) (cK (.row 6 0) (cPair cBool (cPair cBool (cPair cBool (cPair (cInt .i64) (cPair (cInt .i64) (cPair (cInt .i64) (cPair (cInt .i64) (cPair (cInt .i64) (cK (.row 7 0) (cPair (cInt .i64) (cPair cBool (cPair cBool (cPair cBool (cPair cBool (cPair cBool (cPair (cInt .i64) (cPair (cInt .i64) (cPair (cInt .i64) (cPair (cInt .i64) (cPair (cInt .i64) (cPair cBool (cPair cBool (cPair (cInt .i64) (cPair cBool (cUnit))))))))))))))))))))))))))))))))))))))))) : Cdc U ((List Int) × (List Int) × Int × Int × Bool × (List Page) × Int × Int × Bool × Bool × Int × Int × Bool × Bool × Bool × Int × Int × Int × Int × Int × Int × Bool × Bool × Bool × Bool × Bool × Int × Int × Int × Int × Int × Bool × Bool × Int × Bool × Unit)).enc (s.b0_0, s.b0_1, s.b0_2, s.b0_3, s.b0_6, s.b0_7, s.b0_8, s.b0_9, s.b0_10, s.b0_11, s.b0_12, s.b0_13, s.b0_17, s.b0_18, s.b0_19, s.b0_20, s.b0_21, s.b0_22, s.b0_23, s.b0_24, s.b0_26, s.b0_27, s.b0_28, s.b0_29, s.b0_30, s.b0_31, s.b0_32, s.b0_33, s.b0_34, s.b0_35, s.b0_36, s.b0_37, s.b0_38, s.b0_39, s.b0_40, ())) none, .cells ((cPair (cArr 3 6) (cPair (cArr 3 2) (cPair (cInt .i64) (cPair (cInt .i64) (cPair (cSl 3) (cK (.row 8 0) (cPair cBool (cPair (cArr 28 16) (cPair (cInt .i64) (cPair (cInt .i64) (cPair cBool (cPair cBool (cPair (cInt .i64) (cPair (cInt .i64) (cK (.row 9 0) (cPair (cSl 9) (cPair (cSl 3) (cPair cBool (cPair cBool (cPair cBool (cPair (cInt .i64) (cPair (cInt .i64) (cPair (cInt .i64) (cPair (cInt .i64) (cPair (cInt .i64) (cPair (cSl 9) (cPair (cInt .i64) (cPair cBool (cPair cBool (cPair cBool (cPair cBool (cPair cBool (cPair (cInt .i64) (cPair (cInt .i64) (cPair (cInt .i64) (cPair (cInt .i64) (cPair (cInt .i64) (cPair cBool (cPair cBool (cPair (cInt .i64) (cPair cBool (cUnit))))))))))))))))))))))))))))))))))))))))) : Cdc U ((List Int) × (List Int) × Int × Int × (List Int) × Bool × (List Page) × Int × Int × Bool × Bool × Int × Int × (List (List UInt8)) × (List Int) × Bool × Bool × Bool × Int × Int × Int × Int × Int × (List (List UInt8)) × Int × Bool × Bool × Bool × Bool × Bool × Int × Int × Int × Int × Int × Bool × Bool × Int × Bool × Unit)).enc (s.b1_0, s.b1_1, s.b1_2, s.b1_3, s.b1_4, s.b1_6, s.b1_7, s.b1_8, s.b1_9, s.b1_10, s.b1_11, s.b1_12, s.b1_13, s.b1_15, s.b1_16, s.b1_17, s.b1_18, s.b1_19, s.b1_20, s.b1_21, s.b1_22, s.b1_23, s.b1_24, s.b1_25, s.b1_26, s.b1_27, s.b1_28, s.b1_29, s.b1_30, s.b1_31, s.b1_32, s.b1_33, s.b1_34, s.b1_35, s.b1_36, s.b1_37, s.b1_38, s.b1_39, s.b1_40, ())) none, .row 3 0 s.b2, .row 3 0 s.b3, .row 66 0 s.b4, .row 9 0 s.b5, .row 3 0 s.b6, .row 9 0 s.b7, .row 3 0 s.b8, .row 66 0 s.b9] }
noncomputable def zhn (r : ((List Int) × (List Int) × Int × Int × Bool × (List Page) × Int × Int × Bool × Bool × Int × Int × Bool × Bool × Bool × Int × Int × Int × Int × Int × Int × Bool × Bool × Bool × Bool × Bool × Int × Int × Int × Int × Int × Bool × Bool × Int × Bool × (List Int) × (List Int) × Int × Int × (List Int) × Bool × (List Page) × Int × Int × Bool × Bool × Int × Int × (List (List UInt8)) × (List Int) × Bool × Bool × Bool × Int × Int × Int × Int × Int × (List (List UInt8)) × Int × Bool × Bool × Bool × Bool × Bool × Int × Int × Int × Int × Int × Bool × Bool × Int × Bool × (List Int) × (List Int) × (List Line) × (List (List UInt8)) × (List Int) × (List (List UInt8)) × (List Int) × (List Line))) : Ex × St U := (.exit 0, { tm := [(6, .v (vO (cK (.ptr 0 0) (cUnit)) (()))), (11, .v (vO (cK (.ptr 1 0) (cUnit)) (())))], hp := [.cells ((cPair (cArr 3 6) (cPair (cArr 3 2) (cPair (cInt .i64) (cPair (cInt .i64) (cK (.row 2 0) (cK (.row 3 0) (cPair cBool (cPair (cArr 28 16) (cPair (cInt .i64) (cPair (cInt .i64) (cPair cBool (cPair cBool (cPair (cInt .i64) (cPair (cInt .i64) (cK (.row 4 0) (cK (.row 5 0) (cK (.row 6 0) (cPair cBool (cPair cBool (cPair cBool (cPair (cInt .i64) (cPair (cInt .i64) (cPair (cInt .i64) (cPair (cInt .i64) (cPair (cInt .i64) (cK (.row 7 0) (cPair (cInt .i64) (cPair cBool (cPair cBool (cPair cBool (cPair cBool (cPair cBool (cPair (cInt .i64) (cPair (cInt .i64) (cPair (cInt .i64) (cPair (cInt .i64) (cPair (cInt .i64) (cPair cBool (cPair cBool (cPair (cInt .i64) (cPair cBool (cUnit))))))))))))))))))))))))))))))))))))))))) : Cdc U ((List Int) × (List Int) × Int × Int × Bool × (List Page) × Int × Int × Bool × Bool × Int × Int × Bool × Bool × Bool × Int × Int × Int × Int × Int × Int × Bool × Bool × Bool × Bool × Bool × Int × Int × Int × Int × Int × Bool × Bool × Int × Bool × Unit)).enc (r.1, r.2.1, r.2.2.1, r.2.2.2.1, r.2.2.2.2.1, r.2.2.2.2.2.1, r.2.2.2.2.2.2.1, r.2.2.2.2.2.2.2.1, r.2.2.2.2.2.2.2.2.1, r.2.2.2.2.2.2.2.2.2.1, r.2.2.2.2.2.2.2.2.2.2.1, r.2.2.2.2.2.2.2.2.2.2.2.1, r.2.2.2.2.2.2.2.2.2.2.2.2.1, r.2.2.2.2.2.2.2.2.2.2.2.2.2.1, r.2.2.2.2.2.2.2.2.2.2.2.2.2.2.1, r.2.2.2.2.2.2.2.2.2.2.2.2.2.2.2.1, r.2.2.2.2.2.2.2.2.2.2.2.2.2.2.2.2.1, r.2.2.2.2.2.2.2.2.2.2.2.2.2.2.2.2.2.1, r.2.2.2.2.2.2.2.2.2.2.2.2.2.2.2.2.2.2.1, r.2.2.2.2.2.2.2.2.2.2.2.2.2.2.2.2.2.2.2.1, r.2.2.2.2.2.2.2.2.2.2.2.2.2.2.2.2.2.2.2.2.1, r.2.2.2.2.2.2.2.2.2.2.2.2.2.2.2.2.2.2.2.2.2.1, r.2.2.2.2.2.2.2.2.2.2.2.2.2.2.2.2.2.2.2.2.2.2.1, r.2.2.2.2.2.2.2.2.2.2.2.2.2.2.2.2.2.2.2.2.2.2.2.1, r.2.2.2.2.2.2.2.2.2.2.2.2.2.2.2.2.2.2.2.2.2.2.2.2.1, r.2.2.2.2.2.2.2.2.2.2.2.2.2.2.2.2.2.2.2.2.2.2.2.2.2.1, r.2.2.2.2.2.2.2.2.2.2.2.2.2.2.2.2.2.2.2.2.2.2.2.2.2.2.1, r.2.2.2.2.2.2.2.2.2.2.2.2.2.2.2.2.2.2.2.2.2.2.2.2.2.2.2.1, r.2.2.2.2.2.2.2.2.2.2.2.2.2.2.2.2.2.2.2.2.2.2.2.2.2.2.2.2.1, r.2.2.2.2.2.2.2.2.2.2.2.2.2.2.2.2.2.2.2.2.2.2.2.2.2.2.2.2.2.1, r.2.2.2.2.2.2.2.2.2.2.2.2.2.2.2.2.2.2.2.2.2.2.2.2.2.2.2.2.2.2.1, r.2.2.2.2.2.2.2.2.2.2.2.2.2.2.2.2.2.2.2.2.2.2.2.2.2.2.2.2.2.2.2.1, r.2.2.2.2.2.2.2.2.2.2.2.2.2.2.2.2.2.2.2.2.2.2.2.2.2.2.2.2.2.2.2.2.1, r.2.2.2.2.2.2.2.2.2.2.2.2.2.2.2.2.2.2.2.2.2.2.2.2.2.2.2.2.2.2.2.2.2.1, r.2.2.2.2.2.2.2.2.2.2.2.2.2.2.2.2.2.2.2.2.2.2.2.2.2.2.2.2.2.2.2.2.2.2.1, ())) none, .cells ((cPair (cArr 3 6) (cPair (cArr 3 2) (cPair (cInt .i64) (cPair (cInt .i64) (cPair (cSl 3) (cK (.row 8 0) (cPair cBool (cPair (cArr 28 16) (cPair (cInt .i64) (cPair (cInt .i64) (cPair cBool (cPair cBool (cPair (cInt .i64) (cPair (cInt .i64) (cK (.row 9 0) (cPair (cSl 9) (cPair (cSl 3) (cPair cBool (cPair cBool (cPair cBool (cPair (cInt .i64) (cPair (cInt .i64) (cPair (cInt .i64) (cPair (cInt .i64) (cPair (cInt .i64) (cPair (cSl 9) (cPair (cInt .i64) (cPair cBool (cPair cBool (cPair cBool (cPair cBool (cPair cBool (cPair (cInt .i64) (cPair (cInt .i64) (cPair (cInt .i64) (cPair (cInt .i64) (cPair (cInt .i64) (cPair cBool (cPair cBool (cPair (cInt .i64) (cPair cBool (cUnit))))))))))))))))))))))))))))))))))))))))) : Cdc U ((List Int) × (List Int) × Int × Int × (List Int) × Bool × (List Page) × Int × Int × Bool × Bool × Int × Int × (List (List UInt8)) × (List Int) × Bool × Bool × Bool × Int × Int × Int × Int × Int × (List (List UInt8)) × Int × Bool × Bool × Bool × Bool × Bool × Int × Int × Int × Int × Int × Bool × Bool × Int × Bool × Unit)).enc (r.2.2.2.2.2.2.2.2.2.2.2.2.2.2.2.2.2.2.2.2.2.2.2.2.2.2.2.2.2.2.2.2.2.2.2.1, r.2.2.2.2.2.2.2.2.2.2.2.2.2.2.2.2.2.2.2.2.2.2.2.2.2.2.2.2.2.2.2.2.2.2.2.2.1, r.2.2.2.2.2.2.2.2.2.2.2.2.2.2.2.2.2.2.2.2.2.2.2.2.2.2.2.2.2.2.2.2.2.2.2.2.2.1, r.2.2.2.2.2.2.2.2.2.2.2.2.2.2.2.2.2.2.2.2.2.2.2.2.2.2.2.2.2.2.2.2.2.2.2.2.2.2.1, r.2.2.2.2.2.2.2.2.2.2.2.2.2.2.2.2.2.2.2.2.2.2.2.2.2.2.2.2.2.2.2.2.2.2.2.2.2.2.2.1, r.2.2.2.2.2.2.2.2.2.2.2.2.2.2.2.2.2.2.2.2.2.2.2.2.2.2.2.2.2.2.2.2.2.2.2.2.2.2.2.2.1, r.2.2.2.2.2.2.2.2.2.2.2.2.2.2.2.2.2.2.2.2.2.2.2.2.2.2.2.2.2.2.2.2.2.2.2.2.2.2.2.2.2.1, r.2.2.2.2.2.2.2.2.2.2.2.2.2.2.2.2.2.2.2.2.2.2.2.2.2.2.2.2.2.2.2.2.2.2.2.2.2.2.2.2.2.2.1, r.2.2.2.2.2.2.2.2.2.2.2.2.2.2.2.2.2.2.2.2.2.2.2.2.2.2.2.2.2.2.2.2.2.2.2.2.2.2.2.2.2.2.2.1, r.2.2.2.2.2.2.2.2.2.2.2.2.2.2.2.2.2.2.2.2.2.2.2.2.2.2.2.2.2.2.2.2.2.2.2.2.2.2.2.2.2.2.2.2.1, r.2.2.2.2.2.2.2.2.2.2.2.2.2.2.2.2.2.2.2.2.2.2.2.2.2.2.2.2.2.2.2.2.2.2.2.2.2.2.2.2.2.2.2.2.2.1, r.2.2.2.2.2.2.2.2.2.2.2.2.2.2.2.2.2.2.2.2.2.2.2.2.2.2.2.2.2.2.2.2.2.2.2.2.2.2.2.2.2.2.2.2.2.2.1, r.2.2.2.2.2.2.2.2.2.2.2.2.2.2.2.2.2.2.2.2.2.2.2.2.2.2.2.2.2.2.2.2.2.2.2.2.2.2.2.2.2.2.2.2.2.2.2.1, r.2.2.2.2.2.2.2.2.2.2.2.2.2.2.2.2.2.2.2.2.2.2.2.2.2.2.2.2.2.2.2.2.2.2.2.2.2.2.2.2.2.2.2.2.2.2.2.2.1, r.2.2.2.2.2.2.2.2.2.2.2.2.2.2.2.2.2.2.2.2.2.2.2.2.2.2.2.2.2.2.2.2.2.2.2.2.2.2.2.2.2.2.2.2.2.2.2.2.2.1, r.2.2.2.2.2.2.2.2.2.2.2.2.2.2.2.2.2.2.2.2.2.2.2.2.2.2.2.2.2.2.2.2.2.2.2.2.2.2.2.2.2.2.2.2.2.2.2.2.2.2.1, r.2.2.2.2.2.2.2.2.2.2.2.2.2.2.2.2.2.2.2.2.2.2.2.2.2.2.2.2.2.2.2.2.2.2.2.2.2.2.2.2.2.2.2.2.2.2.2.2.2.2.2.1, r.2.2.2.2.2.2.2.2.2.2.2.2.2.2.2.2.2.2.2.2.2.2.2.2.2.2.2.2.2.2.2.2.2.2.2.2.2.2.2.2.2.2.2.2.2.2.2.2.2.2.2.2.1, r.2.2.2.2.2.2.2.2.2.2.2.2.2.2.2.2.2.2.2.2.2.2.2.2.2.2.2.2.2.2.2.2.2.2.2.2.2.2.2.2.2.2.2.2.2.2.2.2.2.2.2.2.2.1, r.2.2.2.2.2.2.2.2.2.2.2.2.2.2.2.2.2.2.2.2.2.2.2.2.2.2.2.2.2.2.2.2.2.2.2.2.2.2.2.2.2.2.2.2.2.2.2.2.2.2.2.2.2.2.1, r.2.2.2.2.2.2.2.2.2.2.2.2.2.2.2.2.2.2.2.2.2.2.2.2.2.2.2.2.2.2.2.2.2.2.2.2.2.2.2.2.2.2.2.2.2.2.2.2.2.2.2.2.2.2.2.1, r.2.2.2.2.2.2.2.2.2.2.2.2.2.2.2.2.2.2.2.2.2.2.2.2.2.2.2.2.2.2.2.2.2.2.2.2.2.2.2.2.2.2.2.2.2.2.2.2.2.2.2.2.2.2.2.2.1, r.2.2.2.2.2.2.2.2.2.2.2.2.2.2.2.2.2.2.2.2.2.2.2.2.2.2.2.2.2.2.2.2.2.2.2.2.2.2.2.2.2.2.2.2.2.2.2.2.2.2.2.2.2.2.2.2.2.1, r.2.2.2.2.2.2.2.2.2.2.2.2.2.2.2.2.2.2.2.2.2.2.2.2.2.2.2.2.2.2.2.2.2.2.2.2.2.2.2.2.2.2.2.2.2.2.2.2.2.2.2.2.2.2.2.2.2.2.1, r.2.2.2.2.2.2.2.2.2.2.2.2.2.2.2.2.2.2.2.2.2.2.2.2.2.2.2.2.2.2.2.2.2.2.2.2.2.2.2.2.2.2.2.2.2.2.2.2.2.2.2.2.2.2.2.2.2.2.2.1, r.2.2.2.2.2.2.2.2.2.2.2.2.2.2.2.2.2.2.2.2.2.2.2.2.2.2.2.2.2.2.2.2.2.2.2.2.2.2.2.2.2.2.2.2.2.2.2.2.2.2.2.2.2.2.2.2.2.2.2.2.1, r.2.2.2.2.2.2.2.2.2.2.2.2.2.2.2.2.2.2.2.2.2.2.2.2.2.2.2.2.2.2.2.2.2.2.2.2.2.2.2.2.2.2.2.2.2.2.2.2.2.2.2.2.2.2.2.2.2.2.2.2.2.1, r.2.2.2.2.2.2.2.2.2.2.2.2.2.2.2.2.2.2.2.2.2.2.2.2.2.2.2.2.2.2.2.2.2.2.2.2.2.2.2.2.2.2.2.2.2.2.2.2.2.2.2.2.2.2.2.2.2.2.2.2.2.2.1, r.2.2.2.2.2.2.2.2.2.2.2.2.2.2.2.2.2.2.2.2.2.2.2.2.2.2.2.2.2.2.2.2.2.2.2.2.2.2.2.2.2.2.2.2.2.2.2.2.2.2.2.2.2.2.2.2.2.2.2.2.2.2.2.1, r.2.2.2.2.2.2.2.2.2.2.2.2.2.2.2.2.2.2.2.2.2.2.2.2.2.2.2.2.2.2.2.2.2.2.2.2.2.2.2.2.2.2.2.2.2.2.2.2.2.2.2.2.2.2.2.2.2.2.2.2.2.2.2.2.1, r.2.2.2.2.2.2.2.2.2.2.2.2.2.2.2.2.2.2.2.2.2.2.2.2.2.2.2.2.2.2.2.2.2.2.2.2.2.2.2.2.2.2.2.2.2.2.2.2.2.2.2.2.2.2.2.2.2.2.2.2.2.2.2.2.2.1, r.2.2.2.2.2.2.2.2.2.2.2.2.2.2.2.2.2.2.2.2.2.2.2.2.2.2.2.2.2.2.2.2.2.2.2.2.2.2.2.2.2.2.2.2.2.2.2.2.2.2.2.2.2.2.2.2.2.2.2.2.2.2.2.2.2.2.1, r.2.2.2.2.2.2.2.2.2.2.2.2.2.2.2.2.2.2.2.2.2.2.2.2.2.2.2.2.2.2.2.2.2.2.2.2.2.2.2.2.2.2.2.2.2.2.2.2.2.2.2.2.2.2.2.2.2.2.2.2.2.2.2.2.2.2.2.1, r.2.2.2.2.2.2.2.2.2.2.2.2.2.2.2.2.2.2.2.2.2.2.2.2.2.2.2.2.2.2.2.2.2.2.2.2.2.2.2.2.2.2.2.2.2.2.2.2.2.2.2.2.2.2.2.2.2.2.2.2.2.2.2.2.2.2.2.2.1, r.2.2.2.2.2.2.2.2.2.2.2.2.2.2.2.2.2.2.2.2.2.2.2.2.2.2.2.2.2.2.2.2.2.2.2.2.2.2.2.2.2.2.2.2.2.2.2.2.2.2.2.2.2.2.2.2.2.2.2.2.2.2.2.2.2.2.2.2.2.1, r.2.2.2.2.2.2.2.2.2.2.2.2.2.2.2.2.2.2.2.2.2.2.2.2.2.2.2.2.2.2.2.2.2.2.2.2.2.2.2.2.2.2.2.2.2.2.2.2.2.2.2.2.2.2.2.2.2.2.2.2.2.2.2.2.2.2.2.2.2.2.1, r.2.2.2.2.2.2.2.2.2.2.2.2.2.2.2.2.2.2.2.2.2.2.2.2.2.2.2.2.2.2.2.2.2.2.2.2.2.2.2.2.2.2.2.2.2.2.2.2.2.2.2.2.2.2.2.2.2.2.2.2.2.2.2.2.2.2.2.2.2.2.2.1, r.2.2.2.2.2.2.2.2.2.2.2.2.2.2.2.2.2.2.2.2.2.2.2.2.2.2.2.2.2.2.2.2.2.2.2.2.2.2.2.2.2.2.2.2.2.2.2.2.2.2.2.2.2.2.2.2.2.2.2.2.2.2.2.2.2.2.2.2.2.2.2.2.1, r.2.2.2.2.2.2.2.2.2.2.2.2.2.2.2.2.2.2.2.2.2.2.2.2.2.2.2.2.2.2.2.2.2.2.2.2.2.2.2.2.2.2.2.2.2.2.2.2.2.2.2.2.2.2.2.2.2.2.2.2.2.2.2.2.2.2.2.2.2.2.2.2.2.1, ())) none, .row 3 0 r.2.2.2.2.2.2.2.2.2.2.2.2.2.2.2.2.2.2.2.2.2.2.2.2.2.2.2.2.2.2.2.2.2.2.2.2.2.2.2.2.2.2.2.2.2.2.2.2.2.2.2.2.2.2.2.2.2.2.2.2.2.2.2.2.2.2.2.2.2.2.2.2.2.2.1, .row 3 0 r.2.2.2.2.2.2.2.2.2.2.2.2.2.2.2.2.2.2.2.2.2.2.2.2.2.2.2.2.2.2.2.2.2.2.2.2.2.2.2.2.2.2.2.2.2.2.2.2.2.2.2.2.2.2.2.2.2.2.2.2.2.2.2.2.2.2.2.2.2.2.2.2.2.2.2.1, .row 66 0 r.2.2.2.2.2.2.2.2.2.2.2.2.2.2.2.2.2.2.2.2.2.2.2.2.2.2.2.2.2.2.2.2.2.2.2.2.2.2.2.2.2.2.2.2.2.2.2.2.2.2.2.2.2.2.2.2.2.2.2.2.2.2.2.2.2.2.2.2.2.2.2.2.2.2.2.2.1, .row 9 0 r.2.2.2.2.2.2.2.2.2.2.2.2.2.2.2.2.2.2.2.2.2.2.2.2.2.2.2.2.2.2.2.2.2.2.2.2.2.2.2.2.2.2.2.2.2.2.2.2.2.2.2.2.2.2.2.2.2.2.2.2.2.2.2.2.2.2.2.2.2.2.2.2.2.2.2.2.2.1, .row 3 0 r.2.2.2.2.2.2.2.2.2.2.2.2.2.2.2.2.2.2.2.2.2.2.2.2.2.2.2.2.2.2.2.2.2.2.2.2.2.2.2.2.2.2.2.2.2.2.2.2.2.2.2.2.2.2.2.2.2.2.2.2.2.2.2.2.2.2.2.2.2.2.2.2.2.2.2.2.2.2.1, .row 9 0 r.2.2.2.2.2.2.2.2.2.2.2.2.2.2.2.2.2.2.2.2.2.2.2.2.2.2.2.2.2.2.2.2.2.2.2.2.2.2.2.2.2.2.2.2.2.2.2.2.2.2.2.2.2.2.2.2.2.2.2.2.2.2.2.2.2.2.2.2.2.2.2.2.2.2.2.2.2.2.2.1, .row 3 0 r.2.2.2.2.2.2.2.2.2.2.2.2.2.2.2.2.2.2.2.2.2.2.2.2.2.2.2.2.2.2.2.2.2.2.2.2.2.2.2.2.2.2.2.2.2.2.2.2.2.2.2.2.2.2.2.2.2.2.2.2.2.2.2.2.2.2.2.2.2.2.2.2.2.2.2.2.2.2.2.2.1, .row 66 0 r.2.2.2.2.2.2.2.2.2.2.2.2.2.2.2.2.2.2.2.2.2.2.2.2.2.2.2.2.2.2.2.2.2.2.2.2.2.2.2.2.2.2.2.2.2.2.2.2.2.2.2.2.2.2.2.2.2.2.2.2.2.2.2.2.2.2.2.2.2.2.2.2.2.2.2.2.2.2.2.2.2] })
noncomputable def z125 (r : ((List Int) × (List Int) × Int × Int × Bool × (List Page) × Int × Int × Bool × Bool × Int × Int × Bool × Bool × Bool × Int × Int × Int × Int × Int × Int × Bool × Bool × Bool × Bool × Bool × Int × Int × Int × Int × Int × Bool × Bool × Int × Bool × (List Int) × (List Int) × Int × Int × (List Int) × Bool × (List Page) × Int × Int × Bool × Bool × Int × Int × (List (List UInt8)) × (List Int) × Bool × Bool × Bool × Int × Int × Int × Int × Int × (List (List UInt8)) × Int × Bool × Bool × Bool × Bool × Bool × Int × Int × Int × Int × Int × Bool × Bool × Int × Bool × (List Int) × (List Int) × (List Line) × (List (List UInt8)) × (List Int) × (List (List UInt8)) × (List Int) × (List Line))) : Tree (Ex × St U) := .leaf (zhn r)
noncomputable def zn0 : Hd := { keep := [6, 11, 51, 52], xkeep := [6, 7, 11], own := true }
noncomputable def zbr : Env U := { P := Tryz.prog, cd := cd, fns := fns79, lps := (addL 0 zn0 (mkLoop zq8 zpx zq1 (z88 none) z125) noL), frz := fun _r => false, nt := 62, n0 := 0 }
noncomputable def zr6 : Code := (loopAt (Tryz.f35.body.getD .skip) 0 0).getD .skip
theorem z1fi (s : z13) : round zbr zn0 zr6 0 (zg2 s) = (zhy s).map (sumE zg2 zhn) := by kernel_rfl
theorem z19f : LpOk zbr zr6 0 := mkLoop_ok (A := zq8) (B := zpx) (f := zq1) (L := z88 none) (tO_ok (cK_ok cUnit_ok) (tO_ok (cK_ok cUnit_ok) (tO_ok (cPair_ok (cInt_ok .i64) cUnit_ok) (tO_ok (cPair_ok (cInt_ok .i64) cUnit_ok) tNil_ok)))) (bC_ok (cPair_ok (cArr_ok 3 6) (cPair_ok (cArr_ok 3 2) (cPair_ok (cInt_ok .i64) (cPair_ok (cInt_ok .i64) (cK_ok (cK_ok (cPair_ok cBool_ok (cPair_ok (cArr_ok 28 16) (cPair_ok (cInt_ok .i64) (cPair_ok (cInt_ok .i64) (cPair_ok cBool_ok (cPair_ok cBool_ok (cPair_ok (cInt_ok .i64) (cPair_ok (cInt_ok .i64) (cK_ok (cK_ok (cK_ok (cPair_ok cBool_ok (cPair_ok cBool_ok (cPair_ok cBool_ok (cPair_ok (cInt_ok .i64) (cPair_ok (cInt_ok .i64) (cPair_ok (cInt_ok .i64) (cPair_ok (cInt_ok .i64) (cPair_ok (cInt_ok .i64) (cK_ok (cPair_ok (cInt_ok .i64) (cPair_ok cBool_ok (cPair_ok cBool_ok (cPair_ok cBool_ok (cPair_ok cBool_ok (cPair_ok cBool_ok (cPair_ok (cInt_ok .i64) (cPair_ok (cInt_ok .i64) (cPair_ok (cInt_ok .i64) (cPair_ok (cInt_ok .i64) (cPair_ok (cInt_ok .i64) (cPair_ok cBool_ok (cPair_ok cBool_ok (cPair_ok (cInt_ok .i64) (cPair_ok cBool_ok cUnit_ok))))))))))))))))))))))))))))))))))))))))) (bC_ok (cPair_ok (cArr_ok 3 6) (cPair_ok (cArr_ok 3 2) (cPair_ok (cInt_ok .i64) (cPair_ok (cInt_ok .i64) (cPair_ok (cSl_ok 3) (cK_ok (cPair_ok cBool_ok (cPair_ok (cArr_ok 28 16) (cPair_ok (cInt_ok .i64) (cPair_ok (cInt_ok .i64) (cPair_ok cBool_ok (cPair_ok cBool_ok (cPair_ok (cInt_ok .i64) (cPair_ok (cInt_ok .i64) (cK_ok (cPair_ok (cSl_ok 9) (cPair_ok (cSl_ok 3) (cPair_ok cBool_ok (cPair_ok cBool_ok (cPair_ok cBool_ok (cPair_ok (cInt_ok .i64) (cPair_ok (cInt_ok .i64) (cPair_ok (cInt_ok .i64) (cPair_ok (cInt_ok .i64) (cPair_ok (cInt_ok .i64) (cPair_ok (cSl_ok 9) (cPair_ok (cInt_ok .i64) (cPair_ok cBool_ok (cPair_ok cBool_ok (cPair_ok cBool_ok (cPair_ok cBool_ok (cPair_ok cBool_ok (cPair_ok (cInt_ok .i64) (cPair_ok (cInt_ok .i64) (cPair_ok (cInt_ok .i64) (cPair_ok (cInt_ok .i64) (cPair_ok (cInt_ok .i64) (cPair_ok cBool_ok (cPair_ok cBool_ok (cPair_ok (cInt_ok .i64) (cPair_ok cBool_ok cUnit_ok))))))))))))))))))))))))))))))))))))))))) (bRv_ok (bRv_ok (bRv_ok (bRv_ok (bRv_ok (bRv_ok (bRv_ok (bRv_ok bNil_ok)))))))))) (enc := zg2) (out := z125) (outS := zhn) (step := zhy) (fun _ => rfl) (fun _ _ => by kernel_rfl) (by kernel_rfl) (fun _ => rfl) z1fi
theorem z1ft (x : Int × Int × Int × Unit) (g : Unit) : execF zbr Tryz.f35 (zyh.enc x) (bNil.enc g) = (zge none x.1 x.2.1 x.2.2.1).map z12w := by kernel_rfl
theorem z159 : FnOk Tryz.prog cd 35 znh := mk_ok (E := zbr) cd_ok zyt Tryz.func35 (by kernel_rfl) (loops_of (addL_ok z19f noL_ok)) (aO_ok (cInt_ok .i64) (aO_ok (cInt_ok .i64) (aO_ok (cInt_ok .i64) (aNil_ok)))) bNil_ok (T := fun x _ => zge none x.1 x.2.1 x.2.2.1) (fun _ _ => rfl) z1ft
noncomputable def fns35 := addF 35 true znh fns79
theorem zry : ∀ f q t, fns35 f = some (q, t) → FnOk Tryz.prog cd f t := addF_ok z159 zyt
/-- emulator/emulatorref02.Same -/
structure z1h where
  t0 : (List (List UInt8))
  t1 : (List (List UInt8))
  t5 : Int
noncomputable def z3g (s : z1h) : Tree (z1h ⊕ (Bool ⊕ Unit)) :=
  .ite (decide (s.t5 < (s.t0.length : Int)))
    (.ite (decide (0 ≤ s.t5))
      (.opt (List UInt8) (s.t0[(s.t5).toNat]?) fun y434 =>
        .ite (decide (0 ≤ s.t5))
          (.opt (List UInt8) (s.t1[(s.t5).toNat]?) fun y435 =>
            .ite (!decide (y434 = y435))
              (.leaf (.inr (.inl false)))
              (.leaf (.inl (z1h.mk s.t0 s.t1 (IntKind.wrap .i64 (s.t5 + (1 : Int)))))))
          .fail)
      .fail)
    (.leaf (.inr (.inr ())))
noncomputable def zce (q : Option Nat) (s : z1h) : Option (Bool ⊕ Unit) := limQ q (fun s => (z3g s).run) s
noncomputable def z92 (q : Option Nat) (x0 : (List (List UInt8))) (x1 : (List (List UInt8))) : Tree Bool :=
  .ite (!decide ((x0.length : Int) = (x1.length : Int)))
    (.leaf (false))
    (.opt (Bool ⊕ Unit) (zce q (z1h.mk x0 x1 (0 : Int))) fun l436 =>
      .ite (l436.isLeft)
        (.opt Bool (l436.getLeft?) fun a437 =>
          .leaf (a437))
        (.opt Unit (l436.getRight?) fun b438 =>
          .leaf (true)))
noncomputable def za4 (q : Option Nat) (x0 : (List (List UInt8))) (x1 : (List (List UInt8))) : Option Bool := (z92 q x0 x1).run
noncomputable def z11p : Arg U ((List (List UInt8)) × (List (List UInt8)) × Unit) := aO (cSl 9) (aO (cSl 9) (aNil))
noncomputable def zwd (r : Bool) : List (V U) × List (Blk U) := ([vO cBool r], [])
noncomputable def zgs : List (V U) → List (Blk U) → Option (FnOut U) := mkSpec z11p bNil (fun x _ => za4 none x.1 x.2.1) zwd
noncomputable def zq5 (x : ((List (List UInt8)) × Unit) × ((List (List UInt8)) × Unit) × (Int × Unit) × Unit) (_g : Unit) : z1h := z1h.mk x.1.1 x.2.1.1 x.2.2.1.1
noncomputable def zqg : Tms U (((List (List UInt8)) × Unit) × ((List (List UInt8)) × Unit) × (Int × Unit) × Unit) := tO 0 (cPair (cSl 9) (cUnit)) (tO 1 (cPair (cSl 9) (cUnit)) (tO 5 (cPair (cInt .i64) (cUnit)) (tNil)))
noncomputable def z11e : Bls U (Unit) := bNil
noncomputable def zhp (s : z1h) : St U := { tm := [(0, .v (vO (cPair (cSl 9) (cUnit)) (s.t0, ()))), (1, .v (vO (cPair (cSl 9) (cUnit)) (s.t1, ()))), (5, .v (vO (cPair (cInt .i64) (cUnit)) (s.t5, ())))], hp := [] }
noncomputable def zts : (Bool ⊕ Unit) → Ex × St U
  | .inl r => (.ret, { tm := [(4, .v (vO (cPair cBool (cUnit)) (r, ())))], hp := [] })
  | .inr r => (.exit 0, { tm := [], hp := [] })
noncomputable def z14t (y : (Bool ⊕ Unit)) : Tree (Ex × St U) := .ite y.isLeft (.opt Bool y.getLeft? fun r => .leaf (.ret, { tm := [(4, .v (vO (cPair cBool (cUnit)) (r, ())))], hp := [] })) (.opt Unit y.getRight? fun r => .leaf (.exit 0, { tm := [], hp := [] }))
noncomputable def zkf : Hd := { keep := [0, 1, 5], xkeep := [4], own := false }
noncomputable def zbs : Env U := { P := Tryz.prog, cd := cd, fns := fns35, lps := (addL 0 zkf (mkLoop zqg z11e zq5 (zce none) z14t) noL), frz := fun _r => false, nt := 26, n0 := 0 }
noncomputable def zvm : Code := (loopAt (Tryz.f36.body.getD .skip) 0 0).getD .skip
theorem z16k (s : z1h) : round zbs zkf zvm 0 (zhp s) = (z3g s).map (sumE zhp zts) := by kernel_rfl
theorem z1fm : LpOk zbs zvm 0 := mkLoop_ok (A := zqg) (B := z11e) (f := zq5) (L := zce none) (tO_ok (cPair_ok (cSl_ok 9) cUnit_ok) (tO_ok (cPair_ok (cSl_ok 9) cUnit_ok) (tO_ok (cPair_ok (cInt_ok .i64) cUnit_ok) tNil_ok))) bNil_ok (enc := zhp) (out := z14t) (outS := zts) (step := z3g) (fun _ => rfl) (fun _ _ => by kernel_rfl) (by kernel_rfl) (fun b => by cases b <;> rfl) z16k
theorem z1bp (x : (List (List UInt8)) × (List (List UInt8)) × Unit) (g : Unit) : execF zbs Tryz.f36 (z11p.enc x) (bNil.enc g) = (z92 none x.1 x.2.1).map zwd := by kernel_rfl
theorem z129 : FnOk Tryz.prog cd 36 zgs := mk_ok (E := zbs) cd_ok zry Tryz.func36 (by kernel_rfl) (loops_of (addL_ok z1fm noL_ok)) (aO_ok (cSl_ok 9) (aO_ok (cSl_ok 9) (aNil_ok))) bNil_ok (T := fun x _ => z92 none x.1 x.2.1) (fun _ _ => rfl) z1bp
noncomputable def fns36 := addF 36 true zgs fns35
theorem zt7 : ∀ f q t, fns36 f = some (q, t) → FnOk Tryz.prog cd f t := addF_ok z129 zry
/-- emulator/emulatorlaw23.alive -/
noncomputable def zcd (q : Option Nat)  : Tree Bool :=
  .opt (Machine × Int) (z7z q (256 : Int) (0 : Int) (1 : Int)) fun r446 =>
    .opt ((List UInt8) × Int) (z2r q r446.1) fun r447 =>
      .ite (!decide (r446.2 = (0 : Int)))
        (.leaf (false))
        (.ite (!decide (r447.2 = (0 : Int)))
          (.leaf (false))
          (.ite (decide ((r447.1.length : Int) < (28 : Int)))
            (.leaf (false))
            (.opt (Machine × Int) (zt q r447.1) fun r448 =>
              .ite (decide (0 ≤ (10 : Int)))
                (.ite (decide ((10 : Int) ≤ ((r447.1.length : Nat) : Int)))
                  (.ite (decide (((r447.1.drop (0)).take (((10 : Int)).toNat - 0)).length + ([1] : List UInt8).length ≤ 9223372036854775807))
                    (.ite (decide (0 ≤ (11 : Int)))
                      (.ite (decide ((11 : Int) ≤ ((r447.1.length : Nat) : Int)))
                        (.ite (decide ((((r447.1.drop (0)).take (((10 : Int)).toNat - 0)) ++ ([1] : List UInt8)).length + ((r447.1.drop (((11 : Int)).toNat)).take (r447.1.length - ((11 : Int)).toNat)).length ≤ 9223372036854775807))
                          (.opt (Machine × Int) (zt q ((((r447.1.drop (0)).take (((10 : Int)).toNat - 0)) ++ ([1] : List UInt8)) ++ ((r447.1.drop (((11 : Int)).toNat)).take (r447.1.length - ((11 : Int)).toNat)))) fun r449 =>
                            .opt (Machine × Int) (zt q ([] : List UInt8)) fun r450 =>
                              .ite (decide (0 ≤ (24 : Int)))
                                (.ite (decide ((24 : Int) ≤ ((r447.1.length : Nat) : Int)))
                                  (.ite (decide (((r447.1.drop (0)).take (((24 : Int)).toNat - 0)) = ([69, 77, 85, 49, 0, 0, 0, 0, 0, 0, 0, 0, 0, 0, 0, 0, 0, 0, 0, 0, 0, 0, 0, 0] : List UInt8)))
                                    (.ite (decide (r448.2 = (0 : Int)))
                                      (.opt Bool (z6u q r446.1 r448.1) fun r451 =>
                                        .ite (r451)
                                          (.ite (decide (r449.2 = (10 : Int)))
                                            (.ite (decide (r450.2 = (8 : Int)))
                                              (.opt (List (List UInt8)) (z6m q r446.1 (Machine.mk (Cpu.mk r446.1.cpu.r r446.1.cpu.sP (2 : Int) r446.1.cpu.pSW) r446.1.mem r446.1.bad r446.1.mmu r446.1.clock r446.1.lines r446.1.disk r446.1.tape (1 : Int) r446.1.halted r446.1.waiting r446.1.power r446.1.powerTrap)) fun r452 =>
                                                .opt Bool (za4 q r452 ([([67, 112, 117] : List UInt8), ([78, 111, 119] : List UInt8)])) fun r453 =>
                                                  .ite (r453)
                                                    (.opt Bool (z6u q r446.1 (Machine.mk (Cpu.mk r446.1.cpu.r r446.1.cpu.sP (2 : Int) r446.1.cpu.pSW) r446.1.mem r446.1.bad r446.1.mmu r446.1.clock r446.1.lines r446.1.disk r446.1.tape (1 : Int) r446.1.halted r446.1.waiting r446.1.power r446.1.powerTrap)) fun r454 =>
                                                      .leaf (!r454))
                                                    (.leaf (false)))
                                              (.leaf (false)))
                                            (.leaf (false)))
                                          (.leaf (false)))
                                      (.leaf (false)))
                                    (.leaf (false)))
                                  .fail)
                                .fail)
                          .fail)
                        .fail)
                      .fail)
                    .fail)
                  .fail)
                .fail)))
noncomputable def z99 (q : Option Nat)  : Option Bool := (zcd q ).run
noncomputable def zqz : Arg U (Unit) := aNil
noncomputable def zo8 (r : Bool) : List (V U) × List (Blk U) := ([vO cBool r], [])
noncomputable def zlz : List (V U) → List (Blk U) → Option (FnOut U) := mkSpec zqz bNil (fun x _ => z99 none ) zo8
noncomputable def zky : Env U := { P := Tryz.prog, cd := cd, fns := (addF 36 false (frzSpec zgs) fns36), lps := noL, frz := fun _r => false, nt := 88, n0 := 0 }
theorem z16z (x : Unit) (g : Unit) : execF zky Tryz.f10 (zqz.enc x) (bNil.enc g) = (zcd none ).map zo8 := by kernel_rfl
theorem z179 : FnOk Tryz.prog cd 10 zlz := mk_ok (E := zky) cd_ok (addF_ok (fnOk_frz cd_ok (mkSpec_out fun _ => rfl) z129) zt7) Tryz.func10 (by kernel_rfl) (noLoops_body (by kernel_rfl)) (aNil_ok) bNil_ok (T := fun x _ => zcd none ) (fun _ _ => rfl) z16z
noncomputable def fns10 := addF 10 true zlz fns36
theorem z14r : ∀ f q t, fns10 f = some (q, t) → FnOk Tryz.prog cd f t := addF_ok z179 zt7
/-- emulator/emulatorref23.Great -/
structure z1e where
  t3 : Int
  b0 : Machine
noncomputable def z3y (s : z1e) : Tree (z1e ⊕ ((Bool × Machine) ⊕ Machine)) :=
  .ite (decide (s.t3 < (s.b0.lines.length : Int)))
    (.ite (decide (0 ≤ s.t3))
      (.opt Line (s.b0.lines[(s.t3).toNat]?) fun y455 =>
        .ite (decide ((600 : Int) < (y455.out.length : Int)))
          (.leaf (.inr (.inl (true, s.b0))))
          (.leaf (.inl (z1e.mk (IntKind.wrap .i64 (s.t3 + (1 : Int))) s.b0))))
      .fail)
    (.leaf (.inr (.inr s.b0)))
noncomputable def z7x (q : Option Nat) (s : z1e) : Option ((Bool × Machine) ⊕ Machine) := limQ q (fun s => (z3y s).run) s
structure z25 where
  t4 : Int
  b0 : Machine
noncomputable def z3l (s : z25) : Tree (z25 ⊕ ((Bool × Machine) ⊕ Machine)) :=
  .ite (decide (s.t4 < (s.b0.disk.drive.sectors.length : Int)))
    (.ite (decide (0 ≤ s.t4))
      (.opt (List UInt8) (s.b0.disk.drive.sectors[(s.t4).toNat]?) fun y459 =>
        .ite (decide ((600 : Int) < (y459.length : Int)))
          (.leaf (.inr (.inl (true, s.b0))))
          (.leaf (.inl (z25.mk (IntKind.wrap .i64 (s.t4 + (1 : Int))) s.b0))))
      .fail)
    (.leaf (.inr (.inr s.b0)))
noncomputable def z8r (q : Option Nat) (s : z25) : Option ((Bool × Machine) ⊕ Machine) := limQ q (fun s => (z3l s).run) s
structure z1g where
  t5 : Int
  b0 : Machine
noncomputable def z3q (s : z1g) : Tree (z1g ⊕ (Bool ⊕ Unit)) :=
  .ite (decide (s.t5 < (s.b0.tape.records.length : Int)))
    (.ite (decide (0 ≤ s.t5))
      (.opt (List UInt8) (s.b0.tape.records[(s.t5).toNat]?) fun y463 =>
        .ite (decide ((600 : Int) < (y463.length : Int)))
          (.leaf (.inr (.inl true)))
          (.leaf (.inl (z1g.mk (IntKind.wrap .i64 (s.t5 + (1 : Int))) s.b0))))
      .fail)
    (.leaf (.inr (.inr ())))
noncomputable def z8n (q : Option Nat) (s : z1g) : Option (Bool ⊕ Unit) := limQ q (fun s => (z3q s).run) s
noncomputable def zdz (q : Option Nat) (x0 : Machine) : Tree Bool :=
  .ite (decide ((2048 : Int) < (x0.mem.length : Int)))
    (.leaf (true))
    (.ite (decide ((100 : Int) < (x0.bad.length : Int)))
      (.leaf (true))
      (.ite (decide ((10 : Int) < (x0.lines.length : Int)))
        (.leaf (true))
        (.ite (decide ((64 : Int) < (x0.disk.drive.sectors.length : Int)))
          (.leaf (true))
          (.ite (decide ((100 : Int) < (x0.disk.drive.bad.length : Int)))
            (.leaf (true))
            (.ite (decide ((10 : Int) < (x0.tape.records.length : Int)))
              (.leaf (true))
              (.opt ((Bool × Machine) ⊕ Machine) (z7x q (z1e.mk (0 : Int) x0)) fun l456 =>
                .ite (l456.isLeft)
                  (.opt (Bool × Machine) (l456.getLeft?) fun a457 =>
                    .leaf (a457.1))
                  (.opt Machine (l456.getRight?) fun b458 =>
                    .opt ((Bool × Machine) ⊕ Machine) (z8r q (z25.mk (0 : Int) b458)) fun l460 =>
                      .ite (l460.isLeft)
                        (.opt (Bool × Machine) (l460.getLeft?) fun a461 =>
                          .leaf (a461.1))
                        (.opt Machine (l460.getRight?) fun b462 =>
                          .opt (Bool ⊕ Unit) (z8n q (z1g.mk (0 : Int) b462)) fun l464 =>
                            .ite (l464.isLeft)
                              (.opt Bool (l464.getLeft?) fun a465 =>
                                .leaf (a465))
                              (.opt Unit (l464.getRight?) fun b466 =>
                                .leaf (false))))))))))
noncomputable def zca (q : Option Nat) (x0 : Machine) : Option Bool := (zdz q x0).run
noncomputable def z13l : Arg U (Machine × Unit) := aA cMachine (aNil)
noncomputable def zzw (r : Bool) : List (V U) × List (Blk U) := ([vO cBool r], [])
noncomputable def zmx : List (V U) → List (Blk U) → Option (FnOut U) := mkSpec z13l bNil (fun x _ => zca none x.1) zzw
noncomputable def z11w (x : (Unit) × (Int × Unit) × Unit) (g : (Machine × Unit) × Unit) : z1e := z1e.mk x.2.1.1 g.1.1
noncomputable def zrt : Tms U ((Unit) × (Int × Unit) × Unit) := tO 1 (cK (.ptr 0 0) (cUnit)) (tO 3 (cPair (cInt .i64) (cUnit)) (tNil))
noncomputable def zp7 : Bls U ((Machine × Unit) × Unit) := bC (cPair cMachine (cUnit)) (bNil)
noncomputable def zfq (s : z1e) : St U := { tm := [(1, .v (vO (cK (.ptr 0 0) (cUnit)) (()))), (3, .v (vO (cPair (cInt .i64) (cUnit)) (s.t3, ())))], hp := [.cells ((cPair cMachine (cUnit) : Cdc U (Machine × Unit)).enc (s.b0, ())) none] }
noncomputable def zm3 : ((Bool × Machine) ⊕ Machine) → Ex × St U
  | .inl r => (.ret, { tm := [(1, .v (vO (cK (.ptr 0 0) (cUnit)) (()))), (2, .v (vO (cPair cBool (cUnit)) (r.1, ())))], hp := [.cells ((cPair cMachine (cUnit) : Cdc U (Machine × Unit)).enc (r.2, ())) none] })
  | .inr r => (.exit 0, { tm := [(1, .v (vO (cK (.ptr 0 0) (cUnit)) (())))], hp := [.cells ((cPair cMachine (cUnit) : Cdc U (Machine × Unit)).enc (r, ())) none] })
noncomputable def zrd (y : ((Bool × Machine) ⊕ Machine)) : Tree (Ex × St U) := .ite y.isLeft (.opt (Bool × Machine) y.getLeft? fun r => .leaf (.ret, { tm := [(1, .v (vO (cK (.ptr 0 0) (cUnit)) (()))), (2, .v (vO (cPair cBool (cUnit)) (r.1, ())))], hp := [.cells ((cPair cMachine (cUnit) : Cdc U (Machine × Unit)).enc (r.2, ())) none] })) (.opt Machine y.getRight? fun r => .leaf (.exit 0, { tm := [(1, .v (vO (cK (.ptr 0 0) (cUnit)) (())))], hp := [.cells ((cPair cMachine (cUnit) : Cdc U (Machine × Unit)).enc (r, ())) none] }))
noncomputable def zou : Hd := { keep := [1, 3], xkeep := [1, 2], own := false }
noncomputable def zqh (x : (Unit) × (Int × Unit) × Unit) (g : (Machine × Unit) × Unit) : z25 := z25.mk x.2.1.1 g.1.1
noncomputable def zpi : Tms U ((Unit) × (Int × Unit) × Unit) := tO 1 (cK (.ptr 0 0) (cUnit)) (tO 4 (cPair (cInt .i64) (cUnit)) (tNil))
noncomputable def zl7 : Bls U ((Machine × Unit) × Unit) := bC (cPair cMachine (cUnit)) (bNil)
noncomputable def zfj (s : z25) : St U := { tm := [(1, .v (vO (cK (.ptr 0 0) (cUnit)) (()))), (4, .v (vO (cPair (cInt .i64) (cUnit)) (s.t4, ())))], hp := [.cells ((cPair cMachine (cUnit) : Cdc U (Machine × Unit)).enc (s.b0, ())) none] }
noncomputable def znq : ((Bool × Machine) ⊕ Machine) → Ex × St U
  | .inl r => (.ret, { tm := [(1, .v (vO (cK (.ptr 0 0) (cUnit)) (()))), (2, .v (vO (cPair cBool (cUnit)) (r.1, ())))], hp := [.cells ((cPair cMachine (cUnit) : Cdc U (Machine × Unit)).enc (r.2, ())) none] })
  | .inr r => (.exit 2, { tm := [(1, .v (vO (cK (.ptr 0 0) (cUnit)) (())))], hp := [.cells ((cPair cMachine (cUnit) : Cdc U (Machine × Unit)).enc (r, ())) none] })
noncomputable def zje (y : ((Bool × Machine) ⊕ Machine)) : Tree (Ex × St U) := .ite y.isLeft (.opt (Bool × Machine) y.getLeft? fun r => .leaf (.ret, { tm := [(1, .v (vO (cK (.ptr 0 0) (cUnit)) (()))), (2, .v (vO (cPair cBool (cUnit)) (r.1, ())))], hp := [.cells ((cPair cMachine (cUnit) : Cdc U (Machine × Unit)).enc (r.2, ())) none] })) (.opt Machine y.getRight? fun r => .leaf (.exit 2, { tm := [(1, .v (vO (cK (.ptr 0 0) (cUnit)) (())))], hp := [.cells ((cPair cMachine (cUnit) : Cdc U (Machine × Unit)).enc (r, ())) none] }))
noncomputable def zp6 : Hd := { keep := [1, 4], xkeep := [1, 2], own := false }
noncomputable def zol (x : (Unit) × (Int × Unit) × Unit) (g : (Machine × Unit) × Unit) : z1g := z1g.mk x.2.1.1 g.1.1
noncomputable def zon : Tms U ((Unit) × (Int × Unit) × Unit) := tO 1 (cK (.ptr 0 0) (cUnit)) (tO 5 (cPair (cInt .i64) (cUnit)) (tNil))
noncomputable def zlp : Bls U ((Machine × Unit) × Unit) := bC (cPair cMachine (cUnit)) (bNil)
noncomputable def zgj (s : z1g) : St U := { tm := [(1, .v (vO (cK (.ptr 0 0) (cUnit)) (()))), (5, .v (vO (cPair (cInt .i64) (cUnit)) (s.t5, ())))], hp := [.cells ((cPair cMachine (cUnit) : Cdc U (Machine × Unit)).enc (s.b0, ())) none] }
noncomputable def zox : (Bool ⊕ Unit) → Ex × St U
  | .inl r => (.ret, { tm := [(2, .v (vO (cPair cBool (cUnit)) (r, ())))], hp := [] })
  | .inr r => (.exit 4, { tm := [], hp := [] })
noncomputable def z14k (y : (Bool ⊕ Unit)) : Tree (Ex × St U) := .ite y.isLeft (.opt Bool y.getLeft? fun r => .leaf (.ret, { tm := [(2, .v (vO (cPair cBool (cUnit)) (r, ())))], hp := [] })) (.opt Unit y.getRight? fun r => .leaf (.exit 4, { tm := [], hp := [] }))
noncomputable def zsf : Hd := { keep := [1, 5], xkeep := [2], own := false }
noncomputable def z2u : Env U := { P := Tryz.prog, cd := cd, fns := fns10, lps := (addL 0 zou (mkLoop zrt zp7 z11w (z7x none) zrd) (addL 1 zp6 (mkLoop zpi zl7 zqh (z8r none) zje) (addL 2 zsf (mkLoop zon zlp zol (z8n none) z14k) noL))), frz := fun _r => false, nt := 94, n0 := 0 }
noncomputable def zy5 : Code := (loopAt (Tryz.f11.body.getD .skip) 0 0).getD .skip
theorem z1e9 (s : z1e) : round z2u zou zy5 0 (zfq s) = (z3y s).map (sumE zfq zm3) := by kernel_rfl
theorem z155 : LpOk z2u zy5 0 := mkLoop_ok (A := zrt) (B := zp7) (f := z11w) (L := z7x none) (tO_ok (cK_ok cUnit_ok) (tO_ok (cPair_ok (cInt_ok .i64) cUnit_ok) tNil_ok)) (bC_ok (cPair_ok ze cUnit_ok) bNil_ok) (enc := zfq) (out := zrd) (outS := zm3) (step := z3y) (fun _ => rfl) (fun _ _ => by kernel_rfl) (by kernel_rfl) (fun b => by cases b <;> rfl) z1e9
noncomputable def zun : Code := (loopAt (Tryz.f11.body.getD .skip) 0 1).getD .skip
theorem z1g1 (s : z25) : round z2u zp6 zun 1 (zfj s) = (z3l s).map (sumE zfj znq) := by kernel_rfl
theorem z1aq : LpOk z2u zun 1 := mkLoop_ok (A := zpi) (B := zl7) (f := zqh) (L := z8r none) (tO_ok (cK_ok cUnit_ok) (tO_ok (cPair_ok (cInt_ok .i64) cUnit_ok) tNil_ok)) (bC_ok (cPair_ok ze cUnit_ok) bNil_ok) (enc := zfj) (out := zje) (outS := znq) (step := z3l) (fun _ => rfl) (fun _ _ => by kernel_rfl) (by kernel_rfl) (fun b => by cases b <;> rfl) z1g1
noncomputable def z139 : Code := (loopAt (Tryz.f11.body.getD .skip) 0 2).getD .skip
theorem z17g (s : z1g) : round z2u zsf z139 2 (zgj s) = (z3q s).map (sumE zgj zox) := by kernel_rfl
theorem z18o : LpOk z2u z139 2 := mkLoop_ok (A := zon) (B := zlp) (f := zol) (L := z8n none) (tO_ok (cK_ok cUnit_ok) (tO_ok (cPair_ok (cInt_ok .i64) cUnit_ok) tNil_ok)) (bC_ok (cPair_ok ze cUnit_ok) bNil_ok) (enc := zgj) (out := z14k) (outS := zox) (step := z3q) (fun _ => rfl) (fun _ _ => by kernel_rfl) (by kernel_rfl) (fun b => by cases b <;> rfl) z17g
theorem z1d1 (x : Machine × Unit) (g : Unit) : execF z2u Tryz.f11 (z13l.enc x) (bNil.enc g) = (zdz none x.1).map zzw := by kernel_rfl
theorem z16v : FnOk Tryz.prog cd 11 zmx := mk_ok (E := z2u) cd_ok z14r Tryz.func11 (by kernel_rfl) (loops_of (addL_ok z155 (addL_ok z1aq (addL_ok z18o noL_ok)))) (aA_ok ze (aNil_ok)) bNil_ok (T := fun x _ => zdz none x.1) (fun _ _ => rfl) z1d1
noncomputable def fns11 := addF 11 true zmx fns10
theorem zv4 : ∀ f q t, fns11 f = some (q, t) → FnOk Tryz.prog cd f t := addF_ok z16v z14r
/-- emulator/emulatorref14.Right -/
noncomputable def z9y (x0 : Line) : Tree Bool :=
  .ite (decide (x0.rxData < (0 : Int)))
    (.leaf (false))
    (.ite (decide ((255 : Int) < x0.rxData))
      (.leaf (false))
      (.ite (decide (x0.txData < (0 : Int)))
        (.leaf (false))
        (.ite (decide ((255 : Int) < x0.txData))
          (.leaf (false))
          (.ite (decide ((4096 : Int) < (x0.out.length : Int)))
            (.leaf (false))
            (.ite (decide ((0 : Int) ≤ x0.txLeft))
              (.ite (decide (x0.txLeft ≤ (4 : Int)))
                (.leaf ((x0.txReady == (decide (x0.txLeft = (0 : Int))))))
                (.leaf (false)))
              (.leaf (false)))))))
noncomputable def za2 (x0 : Line) : Option Bool := (z9y x0).run
noncomputable def zvc : Arg U (Line × Unit) := aA cLine (aNil)
noncomputable def zm5 (r : Bool) : List (V U) × List (Blk U) := ([vO cBool r], [])
noncomputable def zw6 : List (V U) → List (Blk U) → Option (FnOut U) := mkSpec zvc bNil (fun x _ => za2 x.1) zm5
noncomputable def z10x : Env U := { P := Tryz.prog, cd := cd, fns := fns11, lps := noL, frz := fun _r => false, nt := 43, n0 := 0 }
theorem z19e (x : Line × Unit) (g : Unit) : execF z10x Tryz.f98 (zvc.enc x) (bNil.enc g) = (z9y x.1).map zm5 := by kernel_rfl
theorem z1ax : FnOk Tryz.prog cd 98 zw6 := mk_ok (E := z10x) cd_ok zv4 Tryz.func98 (by kernel_rfl) (noLoops_body (by kernel_rfl)) (aA_ok zd3 (aNil_ok)) bNil_ok (T := fun x _ => z9y x.1) (fun _ _ => rfl) z19e
noncomputable def fns98 := addF 98 true zw6 fns11
theorem zx1 : ∀ f q t, fns98 f = some (q, t) → FnOk Tryz.prog cd f t := addF_ok z1ax zv4
/-- emulator/emulatorref08.Size -/
noncomputable def z9o (x0 : Int) : Tree Bool :=
  .ite (decide ((256 : Int) ≤ x0))
    (.ite (decide (x0 ≤ (32768 : Int)))
      (.ite (decide ((64 : Int) = 0))
        .fail
        (.leaf (decide (((x0).tmod (64 : Int)) = (0 : Int)))))
      (.leaf (false)))
    (.leaf (false))
noncomputable def zd8 (x0 : Int) : Option Bool := (z9o x0).run
noncomputable def ztj : Arg U (Int × Unit) := aO (cInt .i64) (aNil)
noncomputable def zqk (r : Bool) : List (V U) × List (Blk U) := ([vO cBool r], [])
noncomputable def ztz : List (V U) → List (Blk U) → Option (FnOut U) := mkSpec ztj bNil (fun x _ => zd8 x.1) zqk
noncomputable def zs7 : Env U := { P := Tryz.prog, cd := cd, fns := fns98, lps := noL, frz := fun _r => false, nt := 14, n0 := 0 }
theorem z1d9 (x : Int × Unit) (g : Unit) : execF zs7 Tryz.f132 (ztj.enc x) (bNil.enc g) = (z9o x.1).map zqk := by kernel_rfl
theorem z19i : FnOk Tryz.prog cd 132 ztz := mk_ok (E := zs7) cd_ok zx1 Tryz.func132 (by kernel_rfl) (noLoops_body (by kernel_rfl)) (aO_ok (cInt_ok .i64) (aNil_ok)) bNil_ok (T := fun x _ => z9o x.1) (fun _ _ => rfl) z1d9
noncomputable def fns132 := addF 132 true ztz fns98
theorem z105 : ∀ f q t, fns132 f = some (q, t) → FnOk Tryz.prog cd f t := addF_ok z19i zx1
/-- emulator/emulatorref08.Right -/
structure z28 where
  t0 : (List Int)
  t1 : (List Int)
  t5 : Int
noncomputable def z2p (s : z28) : Tree (z28 ⊕ (((List Int) × (List Int) × Bool) ⊕ ((List Int) × (List Int)))) :=
  .ite (decide (s.t5 < (s.t0.length : Int)))
    (.ite (decide (0 ≤ s.t5))
      (.opt Int (s.t0[(s.t5).toNat]?) fun y468 =>
        .ite (decide (y468 < (0 : Int)))
          (.leaf (.inr (.inl (s.t0, s.t1, false))))
          (.ite (decide (0 ≤ s.t5))
            (.opt Int (s.t0[(s.t5).toNat]?) fun y469 =>
              .ite (decide ((65535 : Int) < y469))
                (.leaf (.inr (.inl (s.t0, s.t1, false))))
                (.leaf (.inl (z28.mk s.t0 s.t1 (IntKind.wrap .i64 (s.t5 + (1 : Int)))))))
            .fail))
      .fail)
    (.leaf (.inr (.inr (s.t0, s.t1))))
noncomputable def zcz (q : Option Nat) (s : z28) : Option (((List Int) × (List Int) × Bool) ⊕ ((List Int) × (List Int))) := limQ q (fun s => (z2p s).run) s
structure zz where
  t0 : (List Int)
  t1 : (List Int)
  t6 : Int
noncomputable def zq (s : zz) : Tree (zz ⊕ (Bool ⊕ Unit)) :=
  .ite (decide (s.t6 < (s.t1.length : Int)))
    (.ite (decide (0 ≤ s.t6))
      (.opt Int (s.t1[(s.t6).toNat]?) fun y473 =>
        .ite (decide (y473 < (0 : Int)))
          (.leaf (.inr (.inl false)))
          (.ite (decide (0 ≤ s.t6))
            (.opt Int (s.t1[(s.t6).toNat]?) fun y474 =>
              .ite (decide ((IntKind.wrap .i64 ((2 : Int) * (s.t0.length : Int))) ≤ y474))
                (.leaf (.inr (.inl false)))
                (.ite (decide (0 ≤ s.t6))
                  (.opt Int (s.t1[(s.t6).toNat]?) fun y475 =>
                    .ite (decide ((2 : Int) = 0))
                      .fail
                      (.ite (!decide (((y475).tmod (2 : Int)) = (0 : Int)))
                        (.leaf (.inr (.inl false)))
                        (.ite (decide ((0 : Int) < s.t6))
                          (.ite (decide (0 ≤ s.t6))
                            (.opt Int (s.t1[(s.t6).toNat]?) fun y476 =>
                              .ite (decide (0 ≤ IntKind.wrap .i64 (s.t6 - (1 : Int))))
                                (.opt Int (s.t1[(IntKind.wrap .i64 (s.t6 - (1 : Int))).toNat]?) fun y477 =>
                                  .ite (decide (y476 ≤ y477))
                                    (.leaf (.inr (.inl false)))
                                    (.leaf (.inl (zz.mk s.t0 s.t1 (IntKind.wrap .i64 (s.t6 + (1 : Int)))))))
                                .fail)
                            .fail)
                          (.leaf (.inl (zz.mk s.t0 s.t1 (IntKind.wrap .i64 (s.t6 + (1 : Int)))))))))
                  .fail))
            .fail))
      .fail)
    (.leaf (.inr (.inr ())))
noncomputable def zb9 (q : Option Nat) (s : zz) : Option (Bool ⊕ Unit) := limQ q (fun s => (zq s).run) s
noncomputable def ze2 (q : Option Nat) (x0 : (List Int)) (x1 : (List Int)) : Tree Bool :=
  .opt Bool (zd8 (IntKind.wrap .i64 ((2 : Int) * (x0.length : Int)))) fun r467 =>
    .ite (!r467)
      (.leaf (false))
      (.opt (((List Int) × (List Int) × Bool) ⊕ ((List Int) × (List Int))) (zcz q (z28.mk x0 x1 (0 : Int))) fun l470 =>
        .ite (l470.isLeft)
          (.opt ((List Int) × (List Int) × Bool) (l470.getLeft?) fun a471 =>
            .leaf (a471.2.2))
          (.opt ((List Int) × (List Int)) (l470.getRight?) fun b472 =>
            .opt (Bool ⊕ Unit) (zb9 q (zz.mk b472.1 b472.2 (0 : Int))) fun l478 =>
              .ite (l478.isLeft)
                (.opt Bool (l478.getLeft?) fun a479 =>
                  .leaf (a479))
                (.opt Unit (l478.getRight?) fun b480 =>
                  .leaf (true))))
noncomputable def zah (q : Option Nat) (x0 : (List Int)) (x1 : (List Int)) : Option Bool := (ze2 q x0 x1).run
noncomputable def zyz : Arg U ((List Int) × (List Int) × Unit) := aO (cSl 3) (aO (cSl 3) (aNil))
noncomputable def z13r (r : Bool) : List (V U) × List (Blk U) := ([vO cBool r], [])
noncomputable def z12l : List (V U) → List (Blk U) → Option (FnOut U) := mkSpec zyz bNil (fun x _ => zah none x.1 x.2.1) z13r
noncomputable def z12h (x : ((List Int) × Unit) × ((List Int) × Unit) × (Int × Unit) × Unit) (_g : Unit) : z28 := z28.mk x.1.1 x.2.1.1 x.2.2.1.1
noncomputable def z11s : Tms U (((List Int) × Unit) × ((List Int) × Unit) × (Int × Unit) × Unit) := tO 0 (cPair (cSl 3) (cUnit)) (tO 1 (cPair (cSl 3) (cUnit)) (tO 5 (cPair (cInt .i64) (cUnit)) (tNil)))
noncomputable def zng : Bls U (Unit) := bNil
noncomputable def zhf (s : z28) : St U := { tm := [(0, .v (vO (cPair (cSl 3) (cUnit)) (s.t0, ()))), (1, .v (vO (cPair (cSl 3) (cUnit)) (s.t1, ()))), (5, .v (vO (cPair (cInt .i64) (cUnit)) (s.t5, ())))], hp := [] }
noncomputable def zlw : (((List Int) × (List Int) × Bool) ⊕ ((List Int) × (List Int))) → Ex × St U
  | .inl r => (.ret, { tm := [(0, .v (vO (cPair (cSl 3) (cUnit)) (r.1, ()))), (1, .v (vO (cPair (cSl 3) (cUnit)) (r.2.1, ()))), (4, .v (vO (cPair cBool (cUnit)) (r.2.2, ())))], hp := [] })
  | .inr r => (.exit 0, { tm := [(0, .v (vO (cPair (cSl 3) (cUnit)) (r.1, ()))), (1, .v (vO (cPair (cSl 3) (cUnit)) (r.2, ())))], hp := [] })
noncomputable def zxq (y : (((List Int) × (List Int) × Bool) ⊕ ((List Int) × (List Int)))) : Tree (Ex × St U) := .ite y.isLeft (.opt ((List Int) × (List Int) × Bool) y.getLeft? fun r => .leaf (.ret, { tm := [(0, .v (vO (cPair (cSl 3) (cUnit)) (r.1, ()))), (1, .v (vO (cPair (cSl 3) (cUnit)) (r.2.1, ()))), (4, .v (vO (cPair cBool (cUnit)) (r.2.2, ())))], hp := [] })) (.opt ((List Int) × (List Int)) y.getRight? fun r => .leaf (.exit 0, { tm := [(0, .v (vO (cPair (cSl 3) (cUnit)) (r.1, ()))), (1, .v (vO (cPair (cSl 3) (cUnit)) (r.2, ())))], hp := [] }))
noncomputable def zmt : Hd := { keep := [0, 1, 5], xkeep := [0, 1, 4], own := false }
noncomputable def zyw (x : ((List Int) × Unit) × ((List Int) × Unit) × (Int × Unit) × Unit) (_g : Unit) : zz := zz.mk x.1.1 x.2.1.1 x.2.2.1.1
noncomputable def zp4 : Tms U (((List Int) × Unit) × ((List Int) × Unit) × (Int × Unit) × Unit) := tO 0 (cPair (cSl 3) (cUnit)) (tO 1 (cPair (cSl 3) (cUnit)) (tO 6 (cPair (cInt .i64) (cUnit)) (tNil)))
noncomputable def zu9 : Bls U (Unit) := bNil
noncomputable def zho (s : zz) : St U := { tm := [(0, .v (vO (cPair (cSl 3) (cUnit)) (s.t0, ()))), (1, .v (vO (cPair (cSl 3) (cUnit)) (s.t1, ()))), (6, .v (vO (cPair (cInt .i64) (cUnit)) (s.t6, ())))], hp := [] }
noncomputable def zux : (Bool ⊕ Unit) → Ex × St U
  | .inl r => (.ret, { tm := [(4, .v (vO (cPair cBool (cUnit)) (r, ())))], hp := [] })
  | .inr r => (.exit 2, { tm := [], hp := [] })
noncomputable def zv9 (y : (Bool ⊕ Unit)) : Tree (Ex × St U) := .ite y.isLeft (.opt Bool y.getLeft? fun r => .leaf (.ret, { tm := [(4, .v (vO (cPair cBool (cUnit)) (r, ())))], hp := [] })) (.opt Unit y.getRight? fun r => .leaf (.exit 2, { tm := [], hp := [] }))
noncomputable def zm4 : Hd := { keep := [0, 1, 6], xkeep := [4], own := false }
noncomputable def z5r : Env U := { P := Tryz.prog, cd := cd, fns := fns132, lps := (addL 0 zmt (mkLoop z11s zng z12h (zcz none) zxq) (addL 1 zm4 (mkLoop zp4 zu9 zyw (zb9 none) zv9) noL)), frz := fun _r => false, nt := 75, n0 := 0 }
noncomputable def zph : Code := (loopAt (Tryz.f99.body.getD .skip) 0 0).getD .skip
theorem z1cg (s : z28) : round z5r zmt zph 0 (zhf s) = (z2p s).map (sumE zhf zlw) := by kernel_rfl
theorem z15k : LpOk z5r zph 0 := mkLoop_ok (A := z11s) (B := zng) (f := z12h) (L := zcz none) (tO_ok (cPair_ok (cSl_ok 3) cUnit_ok) (tO_ok (cPair_ok (cSl_ok 3) cUnit_ok) (tO_ok (cPair_ok (cInt_ok .i64) cUnit_ok) tNil_ok))) bNil_ok (enc := zhf) (out := zxq) (outS := zlw) (step := z2p) (fun _ => rfl) (fun _ _ => by kernel_rfl) (by kernel_rfl) (fun b => by cases b <;> rfl) z1cg
noncomputable def zll : Code := (loopAt (Tryz.f99.body.getD .skip) 0 1).getD .skip
theorem z174 (s : zz) : round z5r zm4 zll 1 (zho s) = (zq s).map (sumE zho zux) := by kernel_rfl
theorem z1ac : LpOk z5r zll 1 := mkLoop_ok (A := zp4) (B := zu9) (f := zyw) (L := zb9 none) (tO_ok (cPair_ok (cSl_ok 3) cUnit_ok) (tO_ok (cPair_ok (cSl_ok 3) cUnit_ok) (tO_ok (cPair_ok (cInt_ok .i64) cUnit_ok) tNil_ok))) bNil_ok (enc := zho) (out := zv9) (outS := zux) (step := zq) (fun _ => rfl) (fun _ _ => by kernel_rfl) (by kernel_rfl) (fun b => by cases b <;> rfl) z174
theorem z1c1 (x : (List Int) × (List Int) × Unit) (g : Unit) : execF z5r Tryz.f99 (zyz.enc x) (bNil.enc g) = (ze2 none x.1 x.2.1).map z13r := by kernel_rfl
theorem z19z : FnOk Tryz.prog cd 99 z12l := mk_ok (E := z5r) cd_ok z105 Tryz.func99 (by kernel_rfl) (loops_of (addL_ok z15k (addL_ok z1ac noL_ok))) (aO_ok (cSl_ok 3) (aO_ok (cSl_ok 3) (aNil_ok))) bNil_ok (T := fun x _ => ze2 none x.1 x.2.1) (fun _ _ => rfl) z1c1
noncomputable def fns99 := addF 99 true z12l fns132
theorem zme : ∀ f q t, fns99 f = some (q, t) → FnOk Tryz.prog cd f t := addF_ok z19z z105
/-- emulator/emulatorref09.Right -/
structure z1k where
  t3 : Int
  t4 : Int
  b0 : Mmu
noncomputable def z3x (s : z1k) : Tree (z1k ⊕ ((Bool × Int × Mmu) ⊕ (Int × Mmu))) :=
  .ite (decide (s.t4 < (8 : Int)))
    (.ite (decide (0 ≤ s.t3))
      (.ite (decide (s.t3 < (2 : Int)))
        (.ite (decide (0 ≤ s.t4))
          (.ite (decide (s.t4 < (8 : Int)))
            (.opt Page (s.b0.pages[(s.t3).toNat * 8 + (s.t4).toNat * 1]?) fun y481 =>
              .ite (decide (y481.base < (0 : Int)))
                (.leaf (.inr (.inl (false, s.t3, s.b0))))
                (.ite (decide ((4095 : Int) < y481.base))
                  (.leaf (.inr (.inl (false, s.t3, s.b0))))
                  (.ite (decide (y481.length < (0 : Int)))
                    (.leaf (.inr (.inl (false, s.t3, s.b0))))
                    (.ite (decide ((128 : Int) < y481.length))
                      (.leaf (.inr (.inl (false, s.t3, s.b0))))
                      (.ite (decide (y481.access < (0 : Int)))
                        (.leaf (.inr (.inl (false, s.t3, s.b0))))
                        (.ite (decide ((2 : Int) < y481.access))
                          (.leaf (.inr (.inl (false, s.t3, s.b0))))
                          (.leaf (.inl (z1k.mk s.t3 (IntKind.wrap .i64 (s.t4 + (1 : Int))) s.b0)))))))))
            .fail)
          .fail)
        .fail)
      .fail)
    (.leaf (.inr (.inr (s.t3, s.b0))))
noncomputable def z7i (q : Option Nat) (s : z1k) : Option ((Bool × Int × Mmu) ⊕ (Int × Mmu)) := limQ q (fun s => (z3x s).run) s
structure z1w where
  t3 : Int
  b0 : Mmu
noncomputable def z34 (q : Option Nat) (s : z1w) : Tree (z1w ⊕ ((Bool × Mmu) ⊕ Mmu)) :=
  .ite (decide (s.t3 < (2 : Int)))
    (.opt ((Bool × Int × Mmu) ⊕ (Int × Mmu)) (z7i q (z1k.mk s.t3 (0 : Int) s.b0)) fun l482 =>
      .ite (l482.isLeft)
        (.opt (Bool × Int × Mmu) (l482.getLeft?) fun a483 =>
          .leaf (.inr (.inl (a483.1, a483.2.2))))
        (.opt (Int × Mmu) (l482.getRight?) fun b484 =>
          .leaf (.inl (z1w.mk (IntKind.wrap .i64 (b484.1 + (1 : Int))) b484.2))))
    (.leaf (.inr (.inr s.b0)))
noncomputable def z7y (q : Option Nat) (s : z1w) : Option ((Bool × Mmu) ⊕ Mmu) := limQ q (fun s => (z34 q s).run) s
noncomputable def z7o (q : Option Nat) (x0 : Mmu) : Tree Bool :=
  .opt ((Bool × Mmu) ⊕ Mmu) (z7y q (z1w.mk (0 : Int) x0)) fun l485 =>
    .ite (l485.isLeft)
      (.opt (Bool × Mmu) (l485.getLeft?) fun a486 =>
        .leaf (a486.1))
      (.opt Mmu (l485.getRight?) fun b487 =>
        .ite (decide ((0 : Int) ≤ b487.status))
          (.ite (decide (b487.status ≤ (3 : Int)))
            (.ite (decide ((0 : Int) ≤ b487.addr))
              (.leaf (decide (b487.addr < (65536 : Int))))
              (.leaf (false)))
            (.leaf (false)))
          (.leaf (false)))
noncomputable def z8m (q : Option Nat) (x0 : Mmu) : Option Bool := (z7o q x0).run
noncomputable def zks : Arg U (Mmu × Unit) := aA cMmu (aNil)
noncomputable def z11n (r : Bool) : List (V U) × List (Blk U) := ([vO cBool r], [])
noncomputable def zym : List (V U) → List (Blk U) → Option (FnOut U) := mkSpec zks bNil (fun x _ => z8m none x.1) z11n
noncomputable def zxm (x : (Unit) × (Int × Unit) × Unit) (g : (Mmu × Unit) × Unit) : z1w := z1w.mk x.2.1.1 g.1.1
noncomputable def z14m : Tms U ((Unit) × (Int × Unit) × Unit) := tO 1 (cK (.ptr 0 0) (cUnit)) (tO 3 (cPair (cInt .i64) (cUnit)) (tNil))
noncomputable def zkn : Bls U ((Mmu × Unit) × Unit) := bC (cPair cMmu (cUnit)) (bNil)
noncomputable def zi6 (s : z1w) : St U := { tm := [(1, .v (vO (cK (.ptr 0 0) (cUnit)) (()))), (3, .v (vO (cPair (cInt .i64) (cUnit)) (s.t3, ())))], hp := [.cells ((cPair cMmu (cUnit) : Cdc U (Mmu × Unit)).enc (s.b0, ())) none] }
noncomputable def zo6 : ((Bool × Mmu) ⊕ Mmu) → Ex × St U
  | .inl r => (.ret, { tm := [(1, .v (vO (cK (.ptr 0 0) (cUnit)) (()))), (2, .v (vO (cPair cBool (cUnit)) (r.1, ())))], hp := [.cells ((cPair cMmu (cUnit) : Cdc U (Mmu × Unit)).enc (r.2, ())) none] })
  | .inr r => (.exit 0, { tm := [(1, .v (vO (cK (.ptr 0 0) (cUnit)) (())))], hp := [.cells ((cPair cMmu (cUnit) : Cdc U (Mmu × Unit)).enc (r, ())) none] })
noncomputable def znn (y : ((Bool × Mmu) ⊕ Mmu)) : Tree (Ex × St U) := .ite y.isLeft (.opt (Bool × Mmu) y.getLeft? fun r => .leaf (.ret, { tm := [(1, .v (vO (cK (.ptr 0 0) (cUnit)) (()))), (2, .v (vO (cPair cBool (cUnit)) (r.1, ())))], hp := [.cells ((cPair cMmu (cUnit) : Cdc U (Mmu × Unit)).enc (r.2, ())) none] })) (.opt Mmu y.getRight? fun r => .leaf (.exit 0, { tm := [(1, .v (vO (cK (.ptr 0 0) (cUnit)) (())))], hp := [.cells ((cPair cMmu (cUnit) : Cdc U (Mmu × Unit)).enc (r, ())) none] }))
noncomputable def zsb : Hd := { keep := [1, 3], xkeep := [1, 2], own := false }
noncomputable def zof (x : (Unit) × (Int × Unit) × (Int × Unit) × Unit) (g : (Mmu × Unit) × Unit) : z1k := z1k.mk x.2.1.1 x.2.2.1.1 g.1.1
noncomputable def z102 : Tms U ((Unit) × (Int × Unit) × (Int × Unit) × Unit) := tO 1 (cK (.ptr 0 0) (cUnit)) (tO 3 (cPair (cInt .i64) (cUnit)) (tO 4 (cPair (cInt .i64) (cUnit)) (tNil)))
noncomputable def z13j : Bls U ((Mmu × Unit) × Unit) := bC (cPair cMmu (cUnit)) (bNil)
noncomputable def zhi (s : z1k) : St U := { tm := [(1, .v (vO (cK (.ptr 0 0) (cUnit)) (()))), (3, .v (vO (cPair (cInt .i64) (cUnit)) (s.t3, ()))), (4, .v (vO (cPair (cInt .i64) (cUnit)) (s.t4, ())))], hp := [.cells ((cPair cMmu (cUnit) : Cdc U (Mmu × Unit)).enc (s.b0, ())) none] }
noncomputable def zvq : ((Bool × Int × Mmu) ⊕ (Int × Mmu)) → Ex × St U
  | .inl r => (.ret, { tm := [(1, .v (vO (cK (.ptr 0 0) (cUnit)) (()))), (2, .v (vO (cPair cBool (cUnit)) (r.1, ()))), (3, .v (vO (cPair (cInt .i64) (cUnit)) (r.2.1, ())))], hp := [.cells ((cPair cMmu (cUnit) : Cdc U (Mmu × Unit)).enc (r.2.2, ())) none] })
  | .inr r => (.exit 2, { tm := [(1, .v (vO (cK (.ptr 0 0) (cUnit)) (()))), (3, .v (vO (cPair (cInt .i64) (cUnit)) (r.1, ())))], hp := [.cells ((cPair cMmu (cUnit) : Cdc U (Mmu × Unit)).enc (r.2, ())) none] })
noncomputable def zm2 (y : ((Bool × Int × Mmu) ⊕ (Int × Mmu))) : Tree (Ex × St U) := .ite y.isLeft (.opt (Bool × Int × Mmu) y.getLeft? fun r => .leaf (.ret, { tm := [(1, .v (vO (cK (.ptr 0 0) (cUnit)) (()))), (2, .v (vO (cPair cBool (cUnit)) (r.1, ()))), (3, .v (vO (cPair (cInt .i64) (cUnit)) (r.2.1, ())))], hp := [.cells ((cPair cMmu (cUnit) : Cdc U (Mmu × Unit)).enc (r.2.2, ())) none] })) (.opt (Int × Mmu) y.getRight? fun r => .leaf (.exit 2, { tm := [(1, .v (vO (cK (.ptr 0 0) (cUnit)) (()))), (3, .v (vO (cPair (cInt .i64) (cUnit)) (r.1, ())))], hp := [.cells ((cPair cMmu (cUnit) : Cdc U (Mmu × Unit)).enc (r.2, ())) none] }))
noncomputable def zpf : Hd := { keep := [1, 3, 4], xkeep := [1, 2, 3], own := false }
noncomputable def z5g : Env U := { P := Tryz.prog, cd := cd, fns := fns99, lps := (addL 0 zsb (mkLoop z14m zkn zxm (z7y none) znn) (addL 1 zpf (mkLoop z102 z13j zof (z7i none) zm2) noL)), frz := fun _r => false, nt := 66, n0 := 0 }
noncomputable def ztn : Code := (loopAt (Tryz.f100.body.getD .skip) 0 0).getD .skip
theorem z17b (s : z1w) : round z5g zsb ztn 0 (zi6 s) = (z34 none s).map (sumE zi6 zo6) := by kernel_rfl
theorem z1b8 : LpOk z5g ztn 0 := mkLoop_ok (A := z14m) (B := zkn) (f := zxm) (L := z7y none) (tO_ok (cK_ok cUnit_ok) (tO_ok (cPair_ok (cInt_ok .i64) cUnit_ok) tNil_ok)) (bC_ok (cPair_ok zj cUnit_ok) bNil_ok) (enc := zi6) (out := znn) (outS := zo6) (step := z34 none) (fun _ => rfl) (fun _ _ => by kernel_rfl) (by kernel_rfl) (fun b => by cases b <;> rfl) z17b
noncomputable def zoo : Code := (loopAt (Tryz.f100.body.getD .skip) 0 1).getD .skip
theorem z16h (s : z1k) : round z5g zpf zoo 1 (zhi s) = (z3x s).map (sumE zhi zvq) := by kernel_rfl
theorem z1et : LpOk z5g zoo 1 := mkLoop_ok (A := z102) (B := z13j) (f := zof) (L := z7i none) (tO_ok (cK_ok cUnit_ok) (tO_ok (cPair_ok (cInt_ok .i64) cUnit_ok) (tO_ok (cPair_ok (cInt_ok .i64) cUnit_ok) tNil_ok))) (bC_ok (cPair_ok zj cUnit_ok) bNil_ok) (enc := zhi) (out := zm2) (outS := zvq) (step := z3x) (fun _ => rfl) (fun _ _ => by kernel_rfl) (by kernel_rfl) (fun b => by cases b <;> rfl) z16h
theorem z1a7 (x : Mmu × Unit) (g : Unit) : execF z5g Tryz.f100 (zks.enc x) (bNil.enc g) = (z7o none x.1).map z11n := by kernel_rfl
theorem z16d : FnOk Tryz.prog cd 100 zym := mk_ok (E := z5g) cd_ok zme Tryz.func100 (by kernel_rfl) (loops_of (addL_ok z1b8 (addL_ok z1et noL_ok))) (aA_ok zj (aNil_ok)) bNil_ok (T := fun x _ => z7o none x.1) (fun _ _ => rfl) z1a7
noncomputable def fns100 := addF 100 true zym fns99
theorem zpb : ∀ f q t, fns100 f = some (q, t) → FnOk Tryz.prog cd f t := addF_ok z16d zme
/-- emulator/emulatorref13.Right -/
noncomputable def za8 (x0 : Clock) : Tree Bool :=
  .ite (decide ((1 : Int) ≤ x0.period))
    (.ite (decide (x0.period ≤ (65535 : Int)))
      (.ite (decide ((1 : Int) ≤ x0.left))
        (.leaf (decide (x0.left ≤ x0.period)))
        (.leaf (false)))
      (.leaf (false)))
    (.leaf (false))
noncomputable def z5j (x0 : Clock) : Option Bool := (za8 x0).run
noncomputable def z14x : Arg U (Clock × Unit) := aA cClock (aNil)
noncomputable def zmc (r : Bool) : List (V U) × List (Blk U) := ([vO cBool r], [])
noncomputable def z13k : List (V U) → List (Blk U) → Option (FnOut U) := mkSpec z14x bNil (fun x _ => z5j x.1) zmc
noncomputable def z14w : Env U := { P := Tryz.prog, cd := cd, fns := fns100, lps := noL, frz := fun _r => false, nt := 23, n0 := 0 }
theorem z17w (x : Clock × Unit) (g : Unit) : execF z14w Tryz.f101 (z14x.enc x) (bNil.enc g) = (za8 x.1).map zmc := by kernel_rfl
theorem z1d0 : FnOk Tryz.prog cd 101 z13k := mk_ok (E := z14w) cd_ok zpb Tryz.func101 (by kernel_rfl) (noLoops_body (by kernel_rfl)) (aA_ok zig (aNil_ok)) bNil_ok (T := fun x _ => za8 x.1) (fun _ _ => rfl) z17w
noncomputable def fns101 := addF 101 true z13k fns100
theorem z10k : ∀ f q t, fns101 f = some (q, t) → FnOk Tryz.prog cd f t := addF_ok z1d0 zpb
/-- emulator/emulatorref16.word -/
noncomputable def zed (x0 : Int) : Tree Bool :=
  .ite (decide ((0 : Int) ≤ x0))
    (.leaf (decide (x0 ≤ (65535 : Int))))
    (.leaf (false))
noncomputable def z5x (x0 : Int) : Option Bool := (zed x0).run
noncomputable def zq0 : Arg U (Int × Unit) := aO (cInt .i64) (aNil)
noncomputable def zys (r : Bool) : List (V U) × List (Blk U) := ([vO cBool r], [])
noncomputable def zz8 : List (V U) → List (Blk U) → Option (FnOut U) := mkSpec zq0 bNil (fun x _ => z5x x.1) zys
noncomputable def znj : Env U := { P := Tryz.prog, cd := cd, fns := fns101, lps := noL, frz := fun _r => false, nt := 9, n0 := 0 }
theorem z1dl (x : Int × Unit) (g : Unit) : execF znj Tryz.f133 (zq0.enc x) (bNil.enc g) = (zed x.1).map zys := by kernel_rfl
theorem z1dh : FnOk Tryz.prog cd 133 zz8 := mk_ok (E := znj) cd_ok z10k Tryz.func133 (by kernel_rfl) (noLoops_body (by kernel_rfl)) (aO_ok (cInt_ok .i64) (aNil_ok)) bNil_ok (T := fun x _ => zed x.1) (fun _ _ => rfl) z1dl
noncomputable def fns133 := addF 133 true zz8 fns101
theorem zst : ∀ f q t, fns133 f = some (q, t) → FnOk Tryz.prog cd f t := addF_ok z1dh z10k
/-- emulator/emulatorref15.Right -/
structure z2b where
  t3 : Int
  b0 : Drive
noncomputable def z4a (s : z2b) : Tree (z2b ⊕ ((Bool × Drive) ⊕ Drive)) :=
  .ite (decide (s.t3 < (s.b0.sectors.length : Int)))
    (.ite (decide (0 ≤ s.t3))
      (.opt (List UInt8) (s.b0.sectors[(s.t3).toNat]?) fun y488 =>
        .ite (!decide ((y488.length : Int) = (128 : Int)))
          (.leaf (.inr (.inl (false, s.b0))))
          (.leaf (.inl (z2b.mk (IntKind.wrap .i64 (s.t3 + (1 : Int))) s.b0))))
      .fail)
    (.leaf (.inr (.inr s.b0)))
noncomputable def zcw (q : Option Nat) (s : z2b) : Option ((Bool × Drive) ⊕ Drive) := limQ q (fun s => (z4a s).run) s
structure zy where
  t4 : Int
  b0 : Drive
noncomputable def z12 (s : zy) : Tree (zy ⊕ (Bool ⊕ Unit)) :=
  .ite (decide (s.t4 < (s.b0.bad.length : Int)))
    (.ite (decide (0 ≤ s.t4))
      (.opt Int (s.b0.bad[(s.t4).toNat]?) fun y492 =>
        .ite (decide (y492 < (0 : Int)))
          (.leaf (.inr (.inl false)))
          (.ite (decide (0 ≤ s.t4))
            (.opt Int (s.b0.bad[(s.t4).toNat]?) fun y493 =>
              .ite (decide ((s.b0.sectors.length : Int) ≤ y493))
                (.leaf (.inr (.inl false)))
                (.ite (decide ((0 : Int) < s.t4))
                  (.ite (decide (0 ≤ IntKind.wrap .i64 (s.t4 - (1 : Int))))
                    (.opt Int (s.b0.bad[(IntKind.wrap .i64 (s.t4 - (1 : Int))).toNat]?) fun y494 =>
                      .ite (decide (0 ≤ s.t4))
                        (.opt Int (s.b0.bad[(s.t4).toNat]?) fun y495 =>
                          .ite (decide (y495 ≤ y494))
                            (.leaf (.inr (.inl false)))
                            (.leaf (.inl (zy.mk (IntKind.wrap .i64 (s.t4 + (1 : Int))) s.b0))))
                        .fail)
                    .fail)
                  (.leaf (.inl (zy.mk (IntKind.wrap .i64 (s.t4 + (1 : Int))) s.b0)))))
            .fail))
      .fail)
    (.leaf (.inr (.inr ())))
noncomputable def zcj (q : Option Nat) (s : zy) : Option (Bool ⊕ Unit) := limQ q (fun s => (z12 s).run) s
noncomputable def z9c (q : Option Nat) (x0 : Drive) : Tree Bool :=
  .ite (decide ((x0.sectors.length : Int) < (1 : Int)))
    (.leaf (false))
    (.ite (decide ((256 : Int) < (x0.sectors.length : Int)))
      (.leaf (false))
      (.opt ((Bool × Drive) ⊕ Drive) (zcw q (z2b.mk (0 : Int) x0)) fun l489 =>
        .ite (l489.isLeft)
          (.opt (Bool × Drive) (l489.getLeft?) fun a490 =>
            .leaf (a490.1))
          (.opt Drive (l489.getRight?) fun b491 =>
            .opt (Bool ⊕ Unit) (zcj q (zy.mk (0 : Int) b491)) fun l496 =>
              .ite (l496.isLeft)
                (.opt Bool (l496.getLeft?) fun a497 =>
                  .leaf (a497))
                (.opt Unit (l496.getRight?) fun b498 =>
                  .leaf (true)))))
noncomputable def z84 (q : Option Nat) (x0 : Drive) : Option Bool := (z9c q x0).run
noncomputable def ztw : Arg U (Drive × Unit) := aA cDrive (aNil)
noncomputable def z146 (r : Bool) : List (V U) × List (Blk U) := ([vO cBool r], [])
noncomputable def zzc : List (V U) → List (Blk U) → Option (FnOut U) := mkSpec ztw bNil (fun x _ => z84 none x.1) z146
noncomputable def zqe (x : (Unit) × (Int × Unit) × Unit) (g : (Drive × Unit) × Unit) : z2b := z2b.mk x.2.1.1 g.1.1
noncomputable def z11i : Tms U ((Unit) × (Int × Unit) × Unit) := tO 1 (cK (.ptr 0 0) (cUnit)) (tO 3 (cPair (cInt .i64) (cUnit)) (tNil))
noncomputable def zmh : Bls U ((Drive × Unit) × Unit) := bC (cPair cDrive (cUnit)) (bNil)
noncomputable def zh1 (s : z2b) : St U := { tm := [(1, .v (vO (cK (.ptr 0 0) (cUnit)) (()))), (3, .v (vO (cPair (cInt .i64) (cUnit)) (s.t3, ())))], hp := [.cells ((cPair cDrive (cUnit) : Cdc U (Drive × Unit)).enc (s.b0, ())) none] }
noncomputable def zzm : ((Bool × Drive) ⊕ Drive) → Ex × St U
  | .inl r => (.ret, { tm := [(1, .v (vO (cK (.ptr 0 0) (cUnit)) (()))), (2, .v (vO (cPair cBool (cUnit)) (r.1, ())))], hp := [.cells ((cPair cDrive (cUnit) : Cdc U (Drive × Unit)).enc (r.2, ())) none] })
  | .inr r => (.exit 0, { tm := [(1, .v (vO (cK (.ptr 0 0) (cUnit)) (())))], hp := [.cells ((cPair cDrive (cUnit) : Cdc U (Drive × Unit)).enc (r, ())) none] })
noncomputable def zv0 (y : ((Bool × Drive) ⊕ Drive)) : Tree (Ex × St U) := .ite y.isLeft (.opt (Bool × Drive) y.getLeft? fun r => .leaf (.ret, { tm := [(1, .v (vO (cK (.ptr 0 0) (cUnit)) (()))), (2, .v (vO (cPair cBool (cUnit)) (r.1, ())))], hp := [.cells ((cPair cDrive (cUnit) : Cdc U (Drive × Unit)).enc (r.2, ())) none] })) (.opt Drive y.getRight? fun r => .leaf (.exit 0, { tm := [(1, .v (vO (cK (.ptr 0 0) (cUnit)) (())))], hp := [.cells ((cPair cDrive (cUnit) : Cdc U (Drive × Unit)).enc (r, ())) none] }))
noncomputable def zv7 : Hd := { keep := [1, 3], xkeep := [1, 2], own := false }
noncomputable def zrm (x : (Unit) × (Int × Unit) × Unit) (g : (Drive × Unit) × Unit) : zy := zy.mk x.2.1.1 g.1.1
noncomputable def zvw : Tms U ((Unit) × (Int × Unit) × Unit) := tO 1 (cK (.ptr 0 0) (cUnit)) (tO 4 (cPair (cInt .i64) (cUnit)) (tNil))
noncomputable def zua : Bls U ((Drive × Unit) × Unit) := bC (cPair cDrive (cUnit)) (bNil)
noncomputable def zex (s : zy) : St U := { tm := [(1, .v (vO (cK (.ptr 0 0) (cUnit)) (()))), (4, .v (vO (cPair (cInt .i64) (cUnit)) (s.t4, ())))], hp := [.cells ((cPair cDrive (cUnit) : Cdc U (Drive × Unit)).enc (s.b0, ())) none] }
noncomputable def zjp : (Bool ⊕ Unit) → Ex × St U
  | .inl r => (.ret, { tm := [(2, .v (vO (cPair cBool (cUnit)) (r, ())))], hp := [] })
  | .inr r => (.exit 2, { tm := [], hp := [] })
noncomputable def zpy (y : (Bool ⊕ Unit)) : Tree (Ex × St U) := .ite y.isLeft (.opt Bool y.getLeft? fun r => .leaf (.ret, { tm := [(2, .v (vO (cPair cBool (cUnit)) (r, ())))], hp := [] })) (.opt Unit y.getRight? fun r => .leaf (.exit 2, { tm := [], hp := [] }))
noncomputable def zsy : Hd := { keep := [1, 4], xkeep := [2], own := false }
noncomputable def z5y : Env U := { P := Tryz.prog, cd := cd, fns := fns133, lps := (addL 0 zv7 (mkLoop z11i zmh zqe (zcw none) zv0) (addL 1 zsy (mkLoop zvw zua zrm (zcj none) zpy) noL)), frz := fun _r => false, nt := 71, n0 := 0 }
noncomputable def z12j : Code := (loopAt (Tryz.f134.body.getD .skip) 0 0).getD .skip
theorem z15y (s : z2b) : round z5y zv7 z12j 0 (zh1 s) = (z4a s).map (sumE zh1 zzm) := by kernel_rfl
theorem z1b0 : LpOk z5y z12j 0 := mkLoop_ok (A := z11i) (B := zmh) (f := zqe) (L := zcw none) (tO_ok (cK_ok cUnit_ok) (tO_ok (cPair_ok (cInt_ok .i64) cUnit_ok) tNil_ok)) (bC_ok (cPair_ok z24 cUnit_ok) bNil_ok) (enc := zh1) (out := zv0) (outS := zzm) (step := z4a) (fun _ => rfl) (fun _ _ => by kernel_rfl) (by kernel_rfl) (fun b => by cases b <;> rfl) z15y
noncomputable def z14f : Code := (loopAt (Tryz.f134.body.getD .skip) 0 1).getD .skip
theorem z1fn (s : zy) : round z5y zsy z14f 1 (zex s) = (z12 s).map (sumE zex zjp) := by kernel_rfl
theorem z1fe : LpOk z5y z14f 1 := mkLoop_ok (A := zvw) (B := zua) (f := zrm) (L := zcj none) (tO_ok (cK_ok cUnit_ok) (tO_ok (cPair_ok (cInt_ok .i64) cUnit_ok) tNil_ok)) (bC_ok (cPair_ok z24 cUnit_ok) bNil_ok) (enc := zex) (out := zpy) (outS := zjp) (step := z12) (fun _ => rfl) (fun _ _ => by kernel_rfl) (by kernel_rfl) (fun b => by cases b <;> rfl) z1fn
theorem z1c5 (x : Drive × Unit) (g : Unit) : execF z5y Tryz.f134 (ztw.enc x) (bNil.enc g) = (z9c none x.1).map z146 := by kernel_rfl
theorem z1a2 : FnOk Tryz.prog cd 134 zzc := mk_ok (E := z5y) cd_ok zst Tryz.func134 (by kernel_rfl) (loops_of (addL_ok z1b0 (addL_ok z1fe noL_ok))) (aA_ok z24 (aNil_ok)) bNil_ok (T := fun x _ => z9c none x.1) (fun _ _ => rfl) z1c5
noncomputable def fns134 := addF 134 true zzc fns133
theorem zwu : ∀ f q t, fns134 f = some (q, t) → FnOk Tryz.prog cd f t := addF_ok z1a2 zst
/-- emulator/emulatorref16.Right -/
noncomputable def zd0 (q : Option Nat) (x0 : Disk) : Tree Bool :=
  .ite (decide (x0.command < (0 : Int)))
    (.leaf (false))
    (.ite (decide ((3 : Int) < x0.command))
      (.leaf (false))
      (.opt Bool (z5x x0.words) fun r499 =>
        .ite (!r499)
          (.leaf (false))
          (.opt Bool (z5x x0.addr) fun r500 =>
            .ite (!r500)
              (.leaf (false))
              (.opt Bool (z5x x0.start) fun r501 =>
                .ite (!r501)
                  (.leaf (false))
                  (.ite (decide ((2 : Int) = 0))
                    .fail
                    (.ite (!decide (((x0.addr).tmod (2 : Int)) = (0 : Int)))
                      (.leaf (false))
                      (.ite (decide (x0.left < (0 : Int)))
                        (.leaf (false))
                        (.ite (decide ((8 : Int) < x0.left))
                          (.leaf (false))
                          (.ite (!(x0.ready == (decide (x0.left = (0 : Int)))))
                            (.leaf (false))
                            (.ite (!decide (x0.left = (0 : Int)))
                              (.ite (decide (x0.command = (0 : Int)))
                                (.leaf (false))
                                (.ite (decide (x0.words = (0 : Int)))
                                  (.leaf (false))
                                  (.opt Bool (z84 q x0.drive) fun r502 =>
                                    .leaf (r502))))
                              (.opt Bool (z84 q x0.drive) fun r503 =>
                                .leaf (r503))))))))))))
noncomputable def z96 (q : Option Nat) (x0 : Disk) : Option Bool := (zd0 q x0).run
noncomputable def zwg : Arg U (Disk × Unit) := aA cDisk (aNil)
noncomputable def zye (r : Bool) : List (V U) × List (Blk U) := ([vO cBool r], [])
noncomputable def zup : List (V U) → List (Blk U) → Option (FnOut U) := mkSpec zwg bNil (fun x _ => z96 none x.1) zye
noncomputable def zub : Env U := { P := Tryz.prog, cd := cd, fns := fns134, lps := noL, frz := fun _r => false, nt := 69, n0 := 0 }
theorem z19t (x : Disk × Unit) (g : Unit) : execF zub Tryz.f102 (zwg.enc x) (bNil.enc g) = (zd0 none x.1).map zye := by kernel_rfl
theorem z1fp : FnOk Tryz.prog cd 102 zup := mk_ok (E := zub) cd_ok zwu Tryz.func102 (by kernel_rfl) (noLoops_body (by kernel_rfl)) (aA_ok z4c (aNil_ok)) bNil_ok (T := fun x _ => zd0 none x.1) (fun _ _ => rfl) z19t
noncomputable def fns102 := addF 102 true zup fns134
theorem zl6 : ∀ f q t, fns102 f = some (q, t) → FnOk Tryz.prog cd f t := addF_ok z1fp zwu
/-- emulator/emulatorref17.word -/
noncomputable def zdu (x0 : Int) : Tree Bool :=
  .ite (decide ((0 : Int) ≤ x0))
    (.leaf (decide (x0 ≤ (65535 : Int))))
    (.leaf (false))
noncomputable def z7k (x0 : Int) : Option Bool := (zdu x0).run
noncomputable def z111 : Arg U (Int × Unit) := aO (cInt .i64) (aNil)
noncomputable def zp2 (r : Bool) : List (V U) × List (Blk U) := ([vO cBool r], [])
noncomputable def z151 : List (V U) → List (Blk U) → Option (FnOut U) := mkSpec z111 bNil (fun x _ => z7k x.1) zp2
noncomputable def zxt : Env U := { P := Tryz.prog, cd := cd, fns := fns102, lps := noL, frz := fun _r => false, nt := 9, n0 := 0 }
theorem z1du (x : Int × Unit) (g : Unit) : execF zxt Tryz.f135 (z111.enc x) (bNil.enc g) = (zdu x.1).map zp2 := by kernel_rfl
theorem z17i : FnOk Tryz.prog cd 135 z151 := mk_ok (E := zxt) cd_ok zl6 Tryz.func135 (by kernel_rfl) (noLoops_body (by kernel_rfl)) (aO_ok (cInt_ok .i64) (aNil_ok)) bNil_ok (T := fun x _ => zdu x.1) (fun _ _ => rfl) z1du
noncomputable def fns135 := addF 135 true z151 fns102
theorem z10o : ∀ f q t, fns135 f = some (q, t) → FnOk Tryz.prog cd f t := addF_ok z17i zl6
/-- emulator/emulatorref17.Right -/
structure z2a where
  t3 : Int
  b0 : Tape
noncomputable def z3n (s : z2a) : Tree (z2a ⊕ ((Bool × Tape) ⊕ Tape)) :=
  .ite (decide (s.t3 < (s.b0.records.length : Int)))
    (.ite (decide (0 ≤ s.t3))
      (.opt (List UInt8) (s.b0.records[(s.t3).toNat]?) fun y506 =>
        .ite (decide ((512 : Int) < (y506.length : Int)))
          (.leaf (.inr (.inl (false, s.b0))))
          (.leaf (.inl (z2a.mk (IntKind.wrap .i64 (s.t3 + (1 : Int))) s.b0))))
      .fail)
    (.leaf (.inr (.inr s.b0)))
noncomputable def z91 (q : Option Nat) (s : z2a) : Option ((Bool × Tape) ⊕ Tape) := limQ q (fun s => (z3n s).run) s
noncomputable def zd6 (q : Option Nat) (x0 : Tape) : Tree Bool :=
  .ite (decide ((64 : Int) < (x0.records.length : Int)))
    (.leaf (false))
    (.ite (decide (x0.pos < (0 : Int)))
      (.leaf (false))
      (.ite (decide ((x0.records.length : Int) < x0.pos))
        (.leaf (false))
        (.ite (decide (x0.command < (0 : Int)))
          (.leaf (false))
          (.ite (decide ((6 : Int) < x0.command))
            (.leaf (false))
            (.opt Bool (z7k x0.count) fun r504 =>
              .ite (!r504)
                (.leaf (false))
                (.opt Bool (z7k x0.addr) fun r505 =>
                  .ite (!r505)
                    (.leaf (false))
                    (.opt ((Bool × Tape) ⊕ Tape) (z91 q (z2a.mk (0 : Int) x0)) fun l507 =>
                      .ite (l507.isLeft)
                        (.opt (Bool × Tape) (l507.getLeft?) fun a508 =>
                          .leaf (a508.1))
                        (.opt Tape (l507.getRight?) fun b509 =>
                          .ite (decide ((0 : Int) ≤ b509.left))
                            (.ite (decide (b509.left ≤ (16 : Int)))
                              (.leaf ((b509.ready == (decide (b509.left = (0 : Int))))))
                              (.leaf (false)))
                            (.leaf (false))))))))))
noncomputable def zbu (q : Option Nat) (x0 : Tape) : Option Bool := (zd6 q x0).run
noncomputable def zl1 : Arg U (Tape × Unit) := aA cTape (aNil)
noncomputable def zq9 (r : Bool) : List (V U) × List (Blk U) := ([vO cBool r], [])
noncomputable def zzv : List (V U) → List (Blk U) → Option (FnOut U) := mkSpec zl1 bNil (fun x _ => zbu none x.1) zq9
noncomputable def zw9 (x : (Unit) × (Int × Unit) × Unit) (g : (Tape × Unit) × Unit) : z2a := z2a.mk x.2.1.1 g.1.1
noncomputable def zvl : Tms U ((Unit) × (Int × Unit) × Unit) := tO 1 (cK (.ptr 0 0) (cUnit)) (tO 3 (cPair (cInt .i64) (cUnit)) (tNil))
noncomputable def zrg : Bls U ((Tape × Unit) × Unit) := bC (cPair cTape (cUnit)) (bNil)
noncomputable def zgp (s : z2a) : St U := { tm := [(1, .v (vO (cK (.ptr 0 0) (cUnit)) (()))), (3, .v (vO (cPair (cInt .i64) (cUnit)) (s.t3, ())))], hp := [.cells ((cPair cTape (cUnit) : Cdc U (Tape × Unit)).enc (s.b0, ())) none] }
noncomputable def z11a : ((Bool × Tape) ⊕ Tape) → Ex × St U
  | .inl r => (.ret, { tm := [(1, .v (vO (cK (.ptr 0 0) (cUnit)) (()))), (2, .v (vO (cPair cBool (cUnit)) (r.1, ())))], hp := [.cells ((cPair cTape (cUnit) : Cdc U (Tape × Unit)).enc (r.2, ())) none] })
  | .inr r => (.exit 0, { tm := [(1, .v (vO (cK (.ptr 0 0) (cUnit)) (())))], hp := [.cells ((cPair cTape (cUnit) : Cdc U (Tape × Unit)).enc (r, ())) none] })
noncomputable def z13w (y : ((Bool × Tape) ⊕ Tape)) : Tree (Ex × St U) := .ite y.isLeft (.opt (Bool × Tape) y.getLeft? fun r => .leaf (.ret, { tm := [(1, .v (vO (cK (.ptr 0 0) (cUnit)) (()))), (2, .v (vO (cPair cBool (cUnit)) (r.1, ())))], hp := [.cells ((cPair cTape (cUnit) : Cdc U (Tape × Unit)).enc (r.2, ())) none] })) (.opt Tape y.getRight? fun r => .leaf (.exit 0, { tm := [(1, .v (vO (cK (.ptr 0 0) (cUnit)) (())))], hp := [.cells ((cPair cTape (cUnit) : Cdc U (Tape × Unit)).enc (r, ())) none] }))
noncomputable def ztr : Hd := { keep := [1, 3], xkeep := [1, 2], own := false }
noncomputable def za9 : Env U := { P := Tryz.prog, cd := cd, fns := fns135, lps := (addL 0 ztr (mkLoop zvl zrg zw9 (z91 none) z13w) noL), frz := fun _r => false, nt := 73, n0 := 0 }
noncomputable def zmu : Code := (loopAt (Tryz.f103.body.getD .skip) 0 0).getD .skip
theorem z1ay (s : z2a) : round za9 ztr zmu 0 (zgp s) = (z3n s).map (sumE zgp z11a) := by kernel_rfl
theorem z1cv : LpOk za9 zmu 0 := mkLoop_ok (A := zvl) (B := zrg) (f := zw9) (L := z91 none) (tO_ok (cK_ok cUnit_ok) (tO_ok (cPair_ok (cInt_ok .i64) cUnit_ok) tNil_ok)) (bC_ok (cPair_ok z2s cUnit_ok) bNil_ok) (enc := zgp) (out := z13w) (outS := z11a) (step := z3n) (fun _ => rfl) (fun _ _ => by kernel_rfl) (by kernel_rfl) (fun b => by cases b <;> rfl) z1ay
theorem z1g0 (x : Tape × Unit) (g : Unit) : execF za9 Tryz.f103 (zl1.enc x) (bNil.enc g) = (zd6 none x.1).map zq9 := by kernel_rfl
theorem z184 : FnOk Tryz.prog cd 103 zzv := mk_ok (E := za9) cd_ok z10o Tryz.func103 (by kernel_rfl) (loops_of (addL_ok z1cv noL_ok)) (aA_ok z2s (aNil_ok)) bNil_ok (T := fun x _ => zd6 none x.1) (fun _ _ => rfl) z1g0
noncomputable def fns103 := addF 103 true zzv fns135
theorem zsd : ∀ f q t, fns103 f = some (q, t) → FnOk Tryz.prog cd f t := addF_ok z184 z10o
/-- emulator/emulatorref18.Right -/
structure z1l where
  t3 : Int
  b0 : Machine
noncomputable def z4b (s : z1l) : Tree (z1l ⊕ ((Bool × Machine) ⊕ Machine)) :=
  .ite (decide (s.t3 < (s.b0.lines.length : Int)))
    (.ite (decide (0 ≤ s.t3))
      (.opt Line (s.b0.lines[(s.t3).toNat]?) fun y510 =>
        .opt Bool (za2 y510) fun r511 =>
          .ite (!r511)
            (.leaf (.inr (.inl (false, s.b0))))
            (.leaf (.inl (z1l.mk (IntKind.wrap .i64 (s.t3 + (1 : Int))) s.b0))))
      .fail)
    (.leaf (.inr (.inr s.b0)))
noncomputable def zb0 (q : Option Nat) (s : z1l) : Option ((Bool × Machine) ⊕ Machine) := limQ q (fun s => (z4b s).run) s
noncomputable def zdg (q : Option Nat) (x0 : Machine) : Tree Bool :=
  .ite (decide ((4 : Int) < (x0.lines.length : Int)))
    (.leaf (false))
    (.opt ((Bool × Machine) ⊕ Machine) (zb0 q (z1l.mk (0 : Int) x0)) fun l512 =>
      .ite (l512.isLeft)
        (.opt (Bool × Machine) (l512.getLeft?) fun a513 =>
          .leaf (a513.1))
        (.opt Machine (l512.getRight?) fun b514 =>
          .opt Bool (zah q b514.mem b514.bad) fun r515 =>
            .ite (r515)
              (.opt Bool (z8m q b514.mmu) fun r516 =>
                .ite (r516)
                  (.opt Bool (z5j b514.clock) fun r517 =>
                    .ite (r517)
                      (.opt Bool (z96 q b514.disk) fun r518 =>
                        .ite (r518)
                          (.opt Bool (zbu q b514.tape) fun r519 =>
                            .leaf (r519))
                          (.leaf (false)))
                      (.leaf (false)))
                  (.leaf (false)))
              (.leaf (false))))
noncomputable def z8l (q : Option Nat) (x0 : Machine) : Option Bool := (zdg q x0).run
noncomputable def zva : Arg U (Machine × Unit) := aA cMachine (aNil)
noncomputable def z10y (r : Bool) : List (V U) × List (Blk U) := ([vO cBool r], [])
noncomputable def zjc : List (V U) → List (Blk U) → Option (FnOut U) := mkSpec zva bNil (fun x _ => z8l none x.1) z10y
noncomputable def zn1 (x : (Unit) × (Int × Unit) × Unit) (g : (Machine × Unit) × Unit) : z1l := z1l.mk x.2.1.1 g.1.1
noncomputable def zx0 : Tms U ((Unit) × (Int × Unit) × Unit) := tO 1 (cK (.ptr 0 0) (cUnit)) (tO 3 (cPair (cInt .i64) (cUnit)) (tNil))
noncomputable def zna : Bls U ((Machine × Unit) × Unit) := bC (cPair cMachine (cUnit)) (bNil)
noncomputable def zew (s : z1l) : St U := { tm := [(1, .v (vO (cK (.ptr 0 0) (cUnit)) (()))), (3, .v (vO (cPair (cInt .i64) (cUnit)) (s.t3, ())))], hp := [.cells ((cPair cMachine (cUnit) : Cdc U (Machine × Unit)).enc (s.b0, ())) none] }
noncomputable def zt1 : ((Bool × Machine) ⊕ Machine) → Ex × St U
  | .inl r => (.ret, { tm := [(1, .v (vO (cK (.ptr 0 0) (cUnit)) (()))), (2, .v (vO (cPair cBool (cUnit)) (r.1, ())))], hp := [.cells ((cPair cMachine (cUnit) : Cdc U (Machine × Unit)).enc (r.2, ())) none] })
  | .inr r => (.exit 0, { tm := [(1, .v (vO (cK (.ptr 0 0) (cUnit)) (())))], hp := [.cells ((cPair cMachine (cUnit) : Cdc U (Machine × Unit)).enc (r, ())) none] })
noncomputable def zp1 (y : ((Bool × Machine) ⊕ Machine)) : Tree (Ex × St U) := .ite y.isLeft (.opt (Bool × Machine) y.getLeft? fun r => .leaf (.ret, { tm := [(1, .v (vO (cK (.ptr 0 0) (cUnit)) (()))), (2, .v (vO (cPair cBool (cUnit)) (r.1, ())))], hp := [.cells ((cPair cMachine (cUnit) : Cdc U (Machine × Unit)).enc (r.2, ())) none] })) (.opt Machine y.getRight? fun r => .leaf (.exit 0, { tm := [(1, .v (vO (cK (.ptr 0 0) (cUnit)) (())))], hp := [.cells ((cPair cMachine (cUnit) : Cdc U (Machine × Unit)).enc (r, ())) none] }))
noncomputable def zz3 : Hd := { keep := [1, 3], xkeep := [1, 2], own := false }
noncomputable def zbf : Env U := { P := Tryz.prog, cd := cd, fns := fns103, lps := (addL 0 zz3 (mkLoop zx0 zna zn1 (zb0 none) zp1) noL), frz := fun _r => false, nt := 47, n0 := 0 }
noncomputable def z10m : Code := (loopAt (Tryz.f43.body.getD .skip) 0 0).getD .skip
theorem z1ec (s : z1l) : round zbf zz3 z10m 0 (zew s) = (z4b s).map (sumE zew zt1) := by kernel_rfl
theorem z1b2 : LpOk zbf z10m 0 := mkLoop_ok (A := zx0) (B := zna) (f := zn1) (L := zb0 none) (tO_ok (cK_ok cUnit_ok) (tO_ok (cPair_ok (cInt_ok .i64) cUnit_ok) tNil_ok)) (bC_ok (cPair_ok ze cUnit_ok) bNil_ok) (enc := zew) (out := zp1) (outS := zt1) (step := z4b) (fun _ => rfl) (fun _ _ => by kernel_rfl) (by kernel_rfl) (fun b => by cases b <;> rfl) z1ec
theorem z1d6 (x : Machine × Unit) (g : Unit) : execF zbf Tryz.f43 (zva.enc x) (bNil.enc g) = (zdg none x.1).map z10y := by kernel_rfl
theorem z19m : FnOk Tryz.prog cd 43 zjc := mk_ok (E := zbf) cd_ok zsd Tryz.func43 (by kernel_rfl) (loops_of (addL_ok z1b2 noL_ok)) (aA_ok ze (aNil_ok)) bNil_ok (T := fun x _ => zdg none x.1) (fun _ _ => rfl) z1d6
noncomputable def fns43 := addF 43 true zjc fns103
theorem zqo : ∀ f q t, fns43 f = some (q, t) → FnOk Tryz.prog cd f t := addF_ok z19m zsd
/-- emulator/emulatorref19.word -/
noncomputable def zdt (x0 : Int) : Tree Bool :=
  .ite (decide ((0 : Int) ≤ x0))
    (.leaf (decide (x0 < (65536 : Int))))
    (.leaf (false))
noncomputable def z4d (x0 : Int) : Option Bool := (zdt x0).run
noncomputable def zlb : Arg U (Int × Unit) := aO (cInt .i64) (aNil)
noncomputable def zwc (r : Bool) : List (V U) × List (Blk U) := ([vO cBool r], [])
noncomputable def zyr : List (V U) → List (Blk U) → Option (FnOut U) := mkSpec zlb bNil (fun x _ => z4d x.1) zwc
noncomputable def zo4 : Env U := { P := Tryz.prog, cd := cd, fns := fns43, lps := noL, frz := fun _r => false, nt := 9, n0 := 0 }
theorem z1dd (x : Int × Unit) (g : Unit) : execF zo4 Tryz.f104 (zlb.enc x) (bNil.enc g) = (zdt x.1).map zwc := by kernel_rfl
theorem z15h : FnOk Tryz.prog cd 104 zyr := mk_ok (E := zo4) cd_ok zqo Tryz.func104 (by kernel_rfl) (noLoops_body (by kernel_rfl)) (aO_ok (cInt_ok .i64) (aNil_ok)) bNil_ok (T := fun x _ => zdt x.1) (fun _ _ => rfl) z1dd
noncomputable def fns104 := addF 104 true zyr fns43
theorem zxe : ∀ f q t, fns104 f = some (q, t) → FnOk Tryz.prog cd f t := addF_ok z15h zqo
/-- emulator/emulatorref04.Valid -/
noncomputable def z9u (x0 : Int) : Tree Bool :=
  .ite (decide ((0 : Int) ≤ x0))
    (.ite (decide (x0 ≤ (65535 : Int)))
      (.leaf (decide ((IntKind.wrap .i64 (((BitVec.ofInt 64 x0 &&& ~~~BitVec.ofInt 64 (49407 : Int)).toNat : Int))) = (0 : Int))))
      (.leaf (false)))
    (.leaf (false))
noncomputable def zaw (x0 : Int) : Option Bool := (z9u x0).run
noncomputable def zyp : Arg U (Int × Unit) := aO (cInt .i64) (aNil)
noncomputable def zyy (r : Bool) : List (V U) × List (Blk U) := ([vO cBool r], [])
noncomputable def zjy : List (V U) → List (Blk U) → Option (FnOut U) := mkSpec zyp bNil (fun x _ => zaw x.1) zyy
noncomputable def zpo : Env U := { P := Tryz.prog, cd := cd, fns := fns104, lps := noL, frz := fun _r => false, nt := 14, n0 := 0 }
theorem z183 (x : Int × Unit) (g : Unit) : execF zpo Tryz.f105 (zyp.enc x) (bNil.enc g) = (z9u x.1).map zyy := by kernel_rfl
theorem z16r : FnOk Tryz.prog cd 105 zjy := mk_ok (E := zpo) cd_ok zxe Tryz.func105 (by kernel_rfl) (noLoops_body (by kernel_rfl)) (aO_ok (cInt_ok .i64) (aNil_ok)) bNil_ok (T := fun x _ => z9u x.1) (fun _ _ => rfl) z183
noncomputable def fns105 := addF 105 true zjy fns104
theorem zto : ∀ f q t, fns105 f = some (q, t) → FnOk Tryz.prog cd f t := addF_ok z16r zxe
/-- emulator/emulatorref19.Right -/
structure z1r where
  t3 : Int
  b0 : Cpu
noncomputable def z3o (s : z1r) : Tree (z1r ⊕ ((Bool × Cpu) ⊕ Cpu)) :=
  .ite (decide (s.t3 < (6 : Int)))
    (.ite (decide (0 ≤ s.t3))
      (.ite (decide (s.t3 < (6 : Int)))
        (.opt Int (s.b0.r[(s.t3).toNat * 1]?) fun y520 =>
          .opt Bool (z4d y520) fun r521 =>
            .ite (!r521)
              (.leaf (.inr (.inl (false, s.b0))))
              (.leaf (.inl (z1r.mk (IntKind.wrap .i64 (s.t3 + (1 : Int))) s.b0))))
        .fail)
      .fail)
    (.leaf (.inr (.inr s.b0)))
noncomputable def zb3 (q : Option Nat) (s : z1r) : Option ((Bool × Cpu) ⊕ Cpu) := limQ q (fun s => (z3o s).run) s
noncomputable def z94 (q : Option Nat) (x0 : Cpu) : Tree Bool :=
  .opt ((Bool × Cpu) ⊕ Cpu) (zb3 q (z1r.mk (0 : Int) x0)) fun l522 =>
    .ite (l522.isLeft)
      (.opt (Bool × Cpu) (l522.getLeft?) fun a523 =>
        .leaf (a523.1))
      (.opt Cpu (l522.getRight?) fun b524 =>
        .ite (decide (0 ≤ (0 : Int)))
          (.ite (decide ((0 : Int) < (2 : Int)))
            (.opt Int (b524.sP[((0 : Int)).toNat * 1]?) fun y525 =>
              .opt Bool (z4d y525) fun r526 =>
                .ite (r526)
                  (.ite (decide (0 ≤ (1 : Int)))
                    (.ite (decide ((1 : Int) < (2 : Int)))
                      (.opt Int (b524.sP[((1 : Int)).toNat * 1]?) fun y527 =>
                        .opt Bool (z4d y527) fun r528 =>
                          .ite (r528)
                            (.opt Bool (z4d b524.pC) fun r529 =>
                              .ite (r529)
                                (.opt Bool (zaw b524.pSW) fun r530 =>
                                  .leaf (r530))
                                (.leaf (false)))
                            (.leaf (false)))
                      .fail)
                    .fail)
                  (.leaf (false)))
            .fail)
          .fail)
noncomputable def z7b (q : Option Nat) (x0 : Cpu) : Option Bool := (z94 q x0).run
noncomputable def z13h : Arg U (Cpu × Unit) := aA cCpu (aNil)
noncomputable def zy1 (r : Bool) : List (V U) × List (Blk U) := ([vO cBool r], [])
noncomputable def zuj : List (V U) → List (Blk U) → Option (FnOut U) := mkSpec z13h bNil (fun x _ => z7b none x.1) zy1
noncomputable def z11o (x : (Unit) × (Int × Unit) × Unit) (g : (Cpu × Unit) × Unit) : z1r := z1r.mk x.2.1.1 g.1.1
noncomputable def z10i : Tms U ((Unit) × (Int × Unit) × Unit) := tO 1 (cK (.ptr 0 0) (cUnit)) (tO 3 (cPair (cInt .i64) (cUnit)) (tNil))
noncomputable def zjn : Bls U ((Cpu × Unit) × Unit) := bC (cPair cCpu (cUnit)) (bNil)
noncomputable def zen (s : z1r) : St U := { tm := [(1, .v (vO (cK (.ptr 0 0) (cUnit)) (()))), (3, .v (vO (cPair (cInt .i64) (cUnit)) (s.t3, ())))], hp := [.cells ((cPair cCpu (cUnit) : Cdc U (Cpu × Unit)).enc (s.b0, ())) none] }
noncomputable def z13b : ((Bool × Cpu) ⊕ Cpu) → Ex × St U
  | .inl r => (.ret, { tm := [(1, .v (vO (cK (.ptr 0 0) (cUnit)) (()))), (2, .v (vO (cPair cBool (cUnit)) (r.1, ())))], hp := [.cells ((cPair cCpu (cUnit) : Cdc U (Cpu × Unit)).enc (r.2, ())) none] })
  | .inr r => (.exit 0, { tm := [(1, .v (vO (cK (.ptr 0 0) (cUnit)) (())))], hp := [.cells ((cPair cCpu (cUnit) : Cdc U (Cpu × Unit)).enc (r, ())) none] })
noncomputable def z13p (y : ((Bool × Cpu) ⊕ Cpu)) : Tree (Ex × St U) := .ite y.isLeft (.opt (Bool × Cpu) y.getLeft? fun r => .leaf (.ret, { tm := [(1, .v (vO (cK (.ptr 0 0) (cUnit)) (()))), (2, .v (vO (cPair cBool (cUnit)) (r.1, ())))], hp := [.cells ((cPair cCpu (cUnit) : Cdc U (Cpu × Unit)).enc (r.2, ())) none] })) (.opt Cpu y.getRight? fun r => .leaf (.exit 0, { tm := [(1, .v (vO (cK (.ptr 0 0) (cUnit)) (())))], hp := [.cells ((cPair cCpu (cUnit) : Cdc U (Cpu × Unit)).enc (r, ())) none] }))
noncomputable def zvk : Hd := { keep := [1, 3], xkeep := [1, 2], own := false }
noncomputable def zas : Env U := { P := Tryz.prog, cd := cd, fns := fns105, lps := (addL 0 zvk (mkLoop z10i zjn z11o (zb3 none) z13p) noL), frz := fun _r => false, nt := 34, n0 := 0 }
noncomputable def z11q : Code := (loopAt (Tryz.f44.body.getD .skip) 0 0).getD .skip
theorem z1fx (s : z1r) : round zas zvk z11q 0 (zen s) = (z3o s).map (sumE zen z13b) := by kernel_rfl
theorem z1at : LpOk zas z11q 0 := mkLoop_ok (A := z10i) (B := zjn) (f := z11o) (L := zb3 none) (tO_ok (cK_ok cUnit_ok) (tO_ok (cPair_ok (cInt_ok .i64) cUnit_ok) tNil_ok)) (bC_ok (cPair_ok zp cUnit_ok) bNil_ok) (enc := zen) (out := z13p) (outS := z13b) (step := z3o) (fun _ => rfl) (fun _ _ => by kernel_rfl) (by kernel_rfl) (fun b => by cases b <;> rfl) z1fx
theorem z157 (x : Cpu × Unit) (g : Unit) : execF zas Tryz.f44 (z13h.enc x) (bNil.enc g) = (z94 none x.1).map zy1 := by kernel_rfl
theorem z1b9 : FnOk Tryz.prog cd 44 zuj := mk_ok (E := zas) cd_ok zto Tryz.func44 (by kernel_rfl) (loops_of (addL_ok z1at noL_ok)) (aA_ok zp (aNil_ok)) bNil_ok (T := fun x _ => z94 none x.1) (fun _ _ => rfl) z157
noncomputable def fns44 := addF 44 true zuj fns105
theorem zjt : ∀ f q t, fns44 f = some (q, t) → FnOk Tryz.prog cd f t := addF_ok z1b9 zto
/-- emulator/emulatorref20.Right -/
noncomputable def zdj (q : Option Nat) (x0 : Machine) : Tree Bool :=
  .ite (decide (x0.now < (0 : Int)))
    (.leaf (false))
    (.ite (decide ((1099511627776 : Int) < x0.now))
      (.leaf (false))
      (.ite (decide (x0.power < (0 : Int)))
        (.leaf (false))
        (.ite (decide ((10000 : Int) < x0.power))
          (.leaf (false))
          (.ite (x0.halted)
            (.ite (x0.waiting)
              (.leaf (false))
              (.ite (!decide (x0.power = (0 : Int)))
                (.leaf (false))
                (.ite (x0.powerTrap)
                  (.leaf (false))
                  (.opt Bool (z8l q x0) fun r531 =>
                    .ite (r531)
                      (.opt Bool (z7b q x0.cpu) fun r532 =>
                        .leaf (r532))
                      (.leaf (false))))))
            (.opt Bool (z8l q x0) fun r533 =>
              .ite (r533)
                (.opt Bool (z7b q x0.cpu) fun r534 =>
                  .leaf (r534))
                (.leaf (false)))))))
noncomputable def z76 (q : Option Nat) (x0 : Machine) : Option Bool := (zdj q x0).run
noncomputable def zjf : Arg U (Machine × Unit) := aA cMachine (aNil)
noncomputable def zt5 (r : Bool) : List (V U) × List (Blk U) := ([vO cBool r], [])
noncomputable def z12n : List (V U) → List (Blk U) → Option (FnOut U) := mkSpec zjf bNil (fun x _ => z76 none x.1) zt5
noncomputable def zrz : Env U := { P := Tryz.prog, cd := cd, fns := fns44, lps := noL, frz := fun _r => false, nt := 43, n0 := 0 }
theorem z16u (x : Machine × Unit) (g : Unit) : execF zrz Tryz.f16 (zjf.enc x) (bNil.enc g) = (zdj none x.1).map zt5 := by kernel_rfl
theorem z15f : FnOk Tryz.prog cd 16 z12n := mk_ok (E := zrz) cd_ok zjt Tryz.func16 (by kernel_rfl) (noLoops_body (by kernel_rfl)) (aA_ok ze (aNil_ok)) bNil_ok (T := fun x _ => zdj none x.1) (fun _ _ => rfl) z16u
noncomputable def fns16 := addF 16 true z12n fns44
theorem zp8 : ∀ f q t, fns16 f = some (q, t) → FnOk Tryz.prog cd f t := addF_ok z15f zjt
/-- emulator/emulatorref03.Put -/
structure zu where
  t0 : Int
  t1 : Int
  t6 : Int
  b0 : (List Int)
noncomputable def z55 (s : zu) : Tree (zu ⊕ (List Int)) :=
  .ite (decide (s.t6 < s.t1))
    (.ite (decide (s.t6 < (8 : Int)))
      (.ite (decide ((256 : Int) = 0))
        .fail
        (.ite (decide ((s.b0.length + ([IntKind.wrap .u8 ((s.t0).tmod (256 : Int))]).length) * 1 ≤ 140737488355328))
          (.ite (decide ((256 : Int) = 0))
            .fail
            (.leaf (.inl (zu.mk (IntKind.wrap .i64 ((s.t0).tdiv (256 : Int))) s.t1 (IntKind.wrap .i64 (s.t6 + (1 : Int))) (s.b0 ++ ([IntKind.wrap .u8 ((s.t0).tmod (256 : Int))]))))))
          .fail))
      (.leaf (.inr s.b0)))
    (.leaf (.inr s.b0))
noncomputable def z3e (q : Option Nat) (s : zu) : Option (List Int) := limQ q (fun s => (z55 s).run) s
noncomputable def zda (q : Option Nat) (x0 : Int) (x1 : Int) : Tree (List UInt8) :=
  .ite (decide (x0 < (0 : Int)))
    (.opt (List Int) (z3e q (zu.mk (0 : Int) x1 (0 : Int) ([]))) fun l535 =>
      .leaf (l535.map fun x => UInt8.ofNat x.toNat))
    (.opt (List Int) (z3e q (zu.mk x0 x1 (0 : Int) ([]))) fun l536 =>
      .leaf (l536.map fun x => UInt8.ofNat x.toNat))
noncomputable def z6 (q : Option Nat) (x0 : Int) (x1 : Int) : Option (List UInt8) := (zda q x0 x1).run
noncomputable def z10c : Arg U (Int × Int × Unit) := aO (cInt .i64) (aO (cInt .i64) (aNil))
noncomputable def z118 (r : (List UInt8)) : List (V U) × List (Blk U) := ([vO cStr r], [])
noncomputable def zpe : List (V U) → List (Blk U) → Option (FnOut U) := mkSpec z10c bNil (fun x _ => z6 none x.1 x.2.1) z118
noncomputable def ztq (x : (Int × Unit) × (Int × Unit) × (Unit) × (Int × Unit) × Unit) (g : (List Int) × Unit) : zu := zu.mk x.1.1 x.2.1.1 x.2.2.2.1.1 g.1
noncomputable def zyb : Tms U ((Int × Unit) × (Int × Unit) × (Unit) × (Int × Unit) × Unit) := tO 0 (cPair (cInt .i64) (cUnit)) (tO 1 (cPair (cInt .i64) (cUnit)) (tO 5 (cK (.row 0 0) (cUnit)) (tO 6 (cPair (cInt .i64) (cUnit)) (tNil))))
noncomputable def z14a : Bls U ((List Int) × Unit) := bRv 5 0 (bNil)
noncomputable def zhl (s : zu) : St U := { tm := [(0, .v (vO (cPair (cInt .i64) (cUnit)) (s.t0, ()))), (1, .v (vO (cPair (cInt .i64) (cUnit)) (s.t1, ()))), (5, .v (vO (cK (.row 0 0) (cUnit)) (()))), (6, .v (vO (cPair (cInt .i64) (cUnit)) (s.t6, ())))], hp := [.row 5 0 s.b0] }
noncomputable def zgq (r : (List Int)) : Ex × St U := (.exit 0, { tm := [(5, .v (vO (cK (.row 0 0) (cUnit)) (())))], hp := [.row 5 0 r] })
noncomputable def zy6 (r : (List Int)) : Tree (Ex × St U) := .leaf (zgq r)
noncomputable def z12q : Hd := { keep := [0, 1, 5, 6], xkeep := [4, 5], own := true }
noncomputable def zba : Env U := { P := Tryz.prog, cd := cd, fns := fns16, lps := (addL 0 z12q (mkLoop zyb z14a ztq (z3e none) zy6) noL), frz := fun _r => false, nt := 28, n0 := 0 }
noncomputable def zqc : Code := (loopAt (Tryz.f54.body.getD .skip) 0 0).getD .skip
theorem z1fv (s : zu) : round zba z12q zqc 0 (zhl s) = (z55 s).map (sumE zhl zgq) := by kernel_rfl
theorem z19p : LpOk zba zqc 0 := mkLoop_ok (A := zyb) (B := z14a) (f := ztq) (L := z3e none) (tO_ok (cPair_ok (cInt_ok .i64) cUnit_ok) (tO_ok (cPair_ok (cInt_ok .i64) cUnit_ok) (tO_ok (cK_ok cUnit_ok) (tO_ok (cPair_ok (cInt_ok .i64) cUnit_ok) tNil_ok)))) (bRv_ok bNil_ok) (enc := zhl) (out := zy6) (outS := zgq) (step := z55) (fun _ => rfl) (fun _ _ => by kernel_rfl) (by kernel_rfl) (fun _ => rfl) z1fv
theorem z1ey (x : Int × Int × Unit) (g : Unit) : execF zba Tryz.f54 (z10c.enc x) (bNil.enc g) = (zda none x.1 x.2.1).map z118 := by kernel_rfl
theorem z1ae : FnOk Tryz.prog cd 54 zpe := mk_ok (E := zba) cd_ok zp8 Tryz.func54 (by kernel_rfl) (loops_of (addL_ok z19p noL_ok)) (aO_ok (cInt_ok .i64) (aO_ok (cInt_ok .i64) (aNil_ok))) bNil_ok (T := fun x _ => zda none x.1 x.2.1) (fun _ _ => rfl) z1ey
noncomputable def fns54 := addF 54 true zpe fns16
theorem zxl : ∀ f q t, fns54 f = some (q, t) → FnOk Tryz.prog cd f t := addF_ok z1ae zp8
/-- emulator/emulatorref23.cpu -/
structure z1q where
  t3 : (List UInt8)
  t4 : Int
  b0 : Cpu
noncomputable def z65 (q : Option Nat) (s : z1q) : Tree (z1q ⊕ ((List UInt8) × Cpu)) :=
  .ite (decide (s.t4 < (6 : Int)))
    (.ite (decide (0 ≤ s.t4))
      (.ite (decide (s.t4 < (6 : Int)))
        (.opt Int (s.b0.r[(s.t4).toNat * 1]?) fun y537 =>
          .opt (List UInt8) (z6 q y537 (2 : Int)) fun r538 =>
            .ite (decide (s.t3.length + r538.length ≤ 9223372036854775807))
              (.leaf (.inl (z1q.mk (s.t3 ++ r538) (IntKind.wrap .i64 (s.t4 + (1 : Int))) s.b0)))
              .fail)
        .fail)
      .fail)
    (.leaf (.inr (s.t3, s.b0)))
noncomputable def z6j (q : Option Nat) (s : z1q) : Option ((List UInt8) × Cpu) := limQ q (fun s => (z65 q s).run) s
noncomputable def zau (q : Option Nat) (x0 : Cpu) : Tree (List UInt8) :=
  .opt ((List UInt8) × Cpu) (z6j q (z1q.mk ([] : List UInt8) (0 : Int) x0)) fun l539 =>
    .ite (decide (0 ≤ (0 : Int)))
      (.ite (decide ((0 : Int) < (2 : Int)))
        (.opt Int (l539.2.sP[((0 : Int)).toNat * 1]?) fun y540 =>
          .opt (List UInt8) (z6 q y540 (2 : Int)) fun r541 =>
            .ite (decide (l539.1.length + r541.length ≤ 9223372036854775807))
              (.ite (decide (0 ≤ (1 : Int)))
                (.ite (decide ((1 : Int) < (2 : Int)))
                  (.opt Int (l539.2.sP[((1 : Int)).toNat * 1]?) fun y542 =>
                    .opt (List UInt8) (z6 q y542 (2 : Int)) fun r543 =>
                      .ite (decide ((l539.1 ++ r541).length + r543.length ≤ 9223372036854775807))
                        (.opt (List UInt8) (z6 q l539.2.pC (2 : Int)) fun r544 =>
                          .ite (decide (((l539.1 ++ r541) ++ r543).length + r544.length ≤ 9223372036854775807))
                            (.opt (List UInt8) (z6 q l539.2.pSW (2 : Int)) fun r545 =>
                              .ite (decide ((((l539.1 ++ r541) ++ r543) ++ r544).length + r545.length ≤ 9223372036854775807))
                                (.leaf ((((l539.1 ++ r541) ++ r543) ++ r544) ++ r545))
                                .fail)
                            .fail)
                        .fail)
                  .fail)
                .fail)
              .fail)
        .fail)
      .fail
noncomputable def z7f (q : Option Nat) (x0 : Cpu) : Option (List UInt8) := (zau q x0).run
noncomputable def zju : Arg U (Cpu × Unit) := aA cCpu (aNil)
noncomputable def znf (r : (List UInt8)) : List (V U) × List (Blk U) := ([vO cStr r], [])
noncomputable def zy8 : List (V U) → List (Blk U) → Option (FnOut U) := mkSpec zju bNil (fun x _ => z7f none x.1) znf
noncomputable def zsv (x : (Unit) × ((List UInt8) × Unit) × (Int × Unit) × Unit) (g : (Cpu × Unit) × Unit) : z1q := z1q.mk x.2.1.1 x.2.2.1.1 g.1.1
noncomputable def z12s : Tms U ((Unit) × ((List UInt8) × Unit) × (Int × Unit) × Unit) := tO 1 (cK (.ptr 0 0) (cUnit)) (tO 3 (cPair cStr (cUnit)) (tO 4 (cPair (cInt .i64) (cUnit)) (tNil)))
noncomputable def zkl : Bls U ((Cpu × Unit) × Unit) := bC (cPair cCpu (cUnit)) (bNil)
noncomputable def zij (s : z1q) : St U := { tm := [(1, .v (vO (cK (.ptr 0 0) (cUnit)) (()))), (3, .v (vO (cPair cStr (cUnit)) (s.t3, ()))), (4, .v (vO (cPair (cInt .i64) (cUnit)) (s.t4, ())))], hp := [.cells ((cPair cCpu (cUnit) : Cdc U (Cpu × Unit)).enc (s.b0, ())) none] }
noncomputable def zf4 (r : ((List UInt8) × Cpu)) : Ex × St U := (.exit 0, { tm := [(1, .v (vO (cK (.ptr 0 0) (cUnit)) (()))), (3, .v (vO (cPair cStr (cUnit)) (r.1, ())))], hp := [.cells ((cPair cCpu (cUnit) : Cdc U (Cpu × Unit)).enc (r.2, ())) none] })
noncomputable def z13v (r : ((List UInt8) × Cpu)) : Tree (Ex × St U) := .leaf (zf4 r)
noncomputable def zzb : Hd := { keep := [1, 3, 4], xkeep := [1, 2, 3], own := false }
noncomputable def zc1 : Env U := { P := Tryz.prog, cd := cd, fns := fns54, lps := (addL 0 zzb (mkLoop z12s zkl zsv (z6j none) z13v) noL), frz := fun _r => false, nt := 35, n0 := 0 }
noncomputable def zk6 : Code := (loopAt (Tryz.f63.body.getD .skip) 0 0).getD .skip
theorem z19r (s : z1q) : round zc1 zzb zk6 0 (zij s) = (z65 none s).map (sumE zij zf4) := by kernel_rfl
theorem z1c0 : LpOk zc1 zk6 0 := mkLoop_ok (A := z12s) (B := zkl) (f := zsv) (L := z6j none) (tO_ok (cK_ok cUnit_ok) (tO_ok (cPair_ok cStr_ok cUnit_ok) (tO_ok (cPair_ok (cInt_ok .i64) cUnit_ok) tNil_ok))) (bC_ok (cPair_ok zp cUnit_ok) bNil_ok) (enc := zij) (out := z13v) (outS := zf4) (step := z65 none) (fun _ => rfl) (fun _ _ => by kernel_rfl) (by kernel_rfl) (fun _ => rfl) z19r
theorem z16i (x : Cpu × Unit) (g : Unit) : execF zc1 Tryz.f63 (zju.enc x) (bNil.enc g) = (zau none x.1).map znf := by kernel_rfl
theorem z1di : FnOk Tryz.prog cd 63 zy8 := mk_ok (E := zc1) cd_ok zxl Tryz.func63 (by kernel_rfl) (loops_of (addL_ok z1c0 noL_ok)) (aA_ok zp (aNil_ok)) bNil_ok (T := fun x _ => zau none x.1) (fun _ _ => rfl) z16i
noncomputable def fns63 := addF 63 true zy8 fns54
theorem zoi : ∀ f q t, fns63 f = some (q, t) → FnOk Tryz.prog cd f t := addF_ok z1di zxl
/-- emulator/emulatorref23.numbers -/
structure z1z where
  t0 : (List Int)
  t3 : (List UInt8)
  t4 : Int
noncomputable def z5d (q : Option Nat) (s : z1z) : Tree (z1z ⊕ (List UInt8)) :=
  .ite (decide (s.t4 < (s.t0.length : Int)))
    (.ite (decide (0 ≤ s.t4))
      (.opt Int (s.t0[(s.t4).toNat]?) fun y547 =>
        .opt (List UInt8) (z6 q y547 (2 : Int)) fun r548 =>
          .ite (decide (s.t3.length + r548.length ≤ 9223372036854775807))
            (.leaf (.inl (z1z.mk s.t0 (s.t3 ++ r548) (IntKind.wrap .i64 (s.t4 + (1 : Int))))))
            .fail)
      .fail)
    (.leaf (.inr s.t3))
noncomputable def z8q (q : Option Nat) (s : z1z) : Option (List UInt8) := limQ q (fun s => (z5d q s).run) s
noncomputable def zb4 (q : Option Nat) (x0 : (List Int)) : Tree (List UInt8) :=
  .opt (List UInt8) (z6 q (x0.length : Int) (2 : Int)) fun r546 =>
    .opt (List UInt8) (z8q q (z1z.mk x0 r546 (0 : Int))) fun l549 =>
      .leaf (l549)
noncomputable def z1i (q : Option Nat) (x0 : (List Int)) : Option (List UInt8) := (zb4 q x0).run
noncomputable def zle : Arg U ((List Int) × Unit) := aO (cSl 3) (aNil)
noncomputable def z13t (r : (List UInt8)) : List (V U) × List (Blk U) := ([vO cStr r], [])
noncomputable def zld : List (V U) → List (Blk U) → Option (FnOut U) := mkSpec zle bNil (fun x _ => z1i none x.1) z13t
noncomputable def zla (x : ((List Int) × Unit) × ((List UInt8) × Unit) × (Int × Unit) × Unit) (_g : Unit) : z1z := z1z.mk x.1.1 x.2.1.1 x.2.2.1.1
noncomputable def z13x : Tms U (((List Int) × Unit) × ((List UInt8) × Unit) × (Int × Unit) × Unit) := tO 0 (cPair (cSl 3) (cUnit)) (tO 3 (cPair cStr (cUnit)) (tO 4 (cPair (cInt .i64) (cUnit)) (tNil)))
noncomputable def zzq : Bls U (Unit) := bNil
noncomputable def zhx (s : z1z) : St U := { tm := [(0, .v (vO (cPair (cSl 3) (cUnit)) (s.t0, ()))), (3, .v (vO (cPair cStr (cUnit)) (s.t3, ()))), (4, .v (vO (cPair (cInt .i64) (cUnit)) (s.t4, ())))], hp := [] }
noncomputable def zgf (r : (List UInt8)) : Ex × St U := (.exit 0, { tm := [(3, .v (vO (cPair cStr (cUnit)) (r, ())))], hp := [] })
noncomputable def z10d (r : (List UInt8)) : Tree (Ex × St U) := .leaf (zgf r)
noncomputable def z14z : Hd := { keep := [0, 3, 4], xkeep := [2, 3], own := false }
noncomputable def z9i : Env U := { P := Tryz.prog, cd := cd, fns := fns63, lps := (addL 0 z14z (mkLoop z13x zzq zla (z8q none) z10d) noL), frz := fun _r => false, nt := 22, n0 := 0 }
noncomputable def zk7 : Code := (loopAt (Tryz.f64.body.getD .skip) 0 0).getD .skip
theorem z1ep (s : z1z) : round z9i z14z zk7 0 (zhx s) = (z5d none s).map (sumE zhx zgf) := by kernel_rfl
theorem z170 : LpOk z9i zk7 0 := mkLoop_ok (A := z13x) (B := zzq) (f := zla) (L := z8q none) (tO_ok (cPair_ok (cSl_ok 3) cUnit_ok) (tO_ok (cPair_ok cStr_ok cUnit_ok) (tO_ok (cPair_ok (cInt_ok .i64) cUnit_ok) tNil_ok))) bNil_ok (enc := zhx) (out := z10d) (outS := zgf) (step := z5d none) (fun _ => rfl) (fun _ _ => by kernel_rfl) (by kernel_rfl) (fun _ => rfl) z1ep
theorem z1cs (x : (List Int) × Unit) (g : Unit) : execF z9i Tryz.f64 (zle.enc x) (bNil.enc g) = (zb4 none x.1).map z13t := by kernel_rfl
theorem z16t : FnOk Tryz.prog cd 64 zld := mk_ok (E := z9i) cd_ok zoi Tryz.func64 (by kernel_rfl) (loops_of (addL_ok z170 noL_ok)) (aO_ok (cSl_ok 3) (aNil_ok)) bNil_ok (T := fun x _ => zb4 none x.1) (fun _ _ => rfl) z1cs
noncomputable def fns64 := addF 64 true zld fns63
theorem zs9 : ∀ f q t, fns64 f = some (q, t) → FnOk Tryz.prog cd f t := addF_ok z16t zoi
/-- emulator/emulatorref23.flag -/
noncomputable def z83 (q : Option Nat) (x0 : Bool) : Tree (List UInt8) :=
  .ite (x0)
    (.opt (List UInt8) (z6 q (1 : Int) (1 : Int)) fun r550 =>
      .leaf (r550))
    (.opt (List UInt8) (z6 q (0 : Int) (1 : Int)) fun r551 =>
      .leaf (r551))
noncomputable def z8 (q : Option Nat) (x0 : Bool) : Option (List UInt8) := (z83 q x0).run
noncomputable def z11y : Arg U (Bool × Unit) := aO cBool (aNil)
noncomputable def zvi (r : (List UInt8)) : List (V U) × List (Blk U) := ([vO cStr r], [])
noncomputable def znv : List (V U) → List (Blk U) → Option (FnOut U) := mkSpec z11y bNil (fun x _ => z8 none x.1) zvi
noncomputable def zjw : Env U := { P := Tryz.prog, cd := cd, fns := fns64, lps := noL, frz := fun _r => false, nt := 6, n0 := 0 }
theorem z18m (x : Bool × Unit) (g : Unit) : execF zjw Tryz.f66 (z11y.enc x) (bNil.enc g) = (z83 none x.1).map zvi := by kernel_rfl
theorem z1ff : FnOk Tryz.prog cd 66 znv := mk_ok (E := zjw) cd_ok zs9 Tryz.func66 (by kernel_rfl) (noLoops_body (by kernel_rfl)) (aO_ok cBool_ok (aNil_ok)) bNil_ok (T := fun x _ => z83 none x.1) (fun _ _ => rfl) z18m
noncomputable def fns66 := addF 66 true znv fns64
theorem zlk : ∀ f q t, fns66 f = some (q, t) → FnOk Tryz.prog cd f t := addF_ok z1ff zs9
/-- emulator/emulatorref23.mmu -/
structure z1p where
  t3 : (List UInt8)
  t4 : Int
  t5 : Int
  b0 : Mmu
noncomputable def z6b (q : Option Nat) (s : z1p) : Tree (z1p ⊕ ((List UInt8) × Int × Mmu)) :=
  .ite (decide (s.t5 < (8 : Int)))
    (.ite (decide (0 ≤ s.t4))
      (.ite (decide (s.t4 < (2 : Int)))
        (.ite (decide (0 ≤ s.t5))
          (.ite (decide (s.t5 < (8 : Int)))
            (.opt Page (s.b0.pages[(s.t4).toNat * 8 + (s.t5).toNat * 1]?) fun y553 =>
              .opt (List UInt8) (z6 q y553.base (2 : Int)) fun r554 =>
                .ite (decide (s.t3.length + r554.length ≤ 9223372036854775807))
                  (.opt (List UInt8) (z6 q y553.length (1 : Int)) fun r555 =>
                    .ite (decide ((s.t3 ++ r554).length + r555.length ≤ 9223372036854775807))
                      (.opt (List UInt8) (z6 q y553.access (1 : Int)) fun r556 =>
                        .ite (decide (((s.t3 ++ r554) ++ r555).length + r556.length ≤ 9223372036854775807))
                          (.opt (List UInt8) (z8 q y553.written) fun r557 =>
                            .ite (decide ((((s.t3 ++ r554) ++ r555) ++ r556).length + r557.length ≤ 9223372036854775807))
                              (.leaf (.inl (z1p.mk ((((s.t3 ++ r554) ++ r555) ++ r556) ++ r557) s.t4 (IntKind.wrap .i64 (s.t5 + (1 : Int))) s.b0)))
                              .fail)
                          .fail)
                      .fail)
                  .fail)
            .fail)
          .fail)
        .fail)
      .fail)
    (.leaf (.inr (s.t3, s.t4, s.b0)))
noncomputable def z3z (q : Option Nat) (s : z1p) : Option ((List UInt8) × Int × Mmu) := limQ q (fun s => (z6b q s).run) s
structure z2h where
  t3 : (List UInt8)
  t4 : Int
  b0 : Mmu
noncomputable def z32 (q : Option Nat) (s : z2h) : Tree (z2h ⊕ ((List UInt8) × Mmu)) :=
  .ite (decide (s.t4 < (2 : Int)))
    (.opt ((List UInt8) × Int × Mmu) (z3z q (z1p.mk s.t3 s.t4 (0 : Int) s.b0)) fun l558 =>
      .leaf (.inl (z2h.mk l558.1 (IntKind.wrap .i64 (l558.2.1 + (1 : Int))) l558.2.2)))
    (.leaf (.inr (s.t3, s.b0)))
noncomputable def z9a (q : Option Nat) (s : z2h) : Option ((List UInt8) × Mmu) := limQ q (fun s => (z32 q s).run) s
noncomputable def ze9 (q : Option Nat) (x0 : Mmu) : Tree (List UInt8) :=
  .opt (List UInt8) (z8 q x0.on) fun r552 =>
    .opt ((List UInt8) × Mmu) (z9a q (z2h.mk r552 (0 : Int) x0)) fun l559 =>
      .opt (List UInt8) (z6 q l559.2.status (1 : Int)) fun r560 =>
        .ite (decide (l559.1.length + r560.length ≤ 9223372036854775807))
          (.opt (List UInt8) (z6 q l559.2.addr (2 : Int)) fun r561 =>
            .ite (decide ((l559.1 ++ r560).length + r561.length ≤ 9223372036854775807))
              (.leaf ((l559.1 ++ r560) ++ r561))
              .fail)
          .fail
noncomputable def z87 (q : Option Nat) (x0 : Mmu) : Option (List UInt8) := (ze9 q x0).run
noncomputable def zkh : Arg U (Mmu × Unit) := aA cMmu (aNil)
noncomputable def z14p (r : (List UInt8)) : List (V U) × List (Blk U) := ([vO cStr r], [])
noncomputable def zu6 : List (V U) → List (Blk U) → Option (FnOut U) := mkSpec zkh bNil (fun x _ => z87 none x.1) z14p
noncomputable def zjx (x : (Unit) × ((List UInt8) × Unit) × (Int × Unit) × Unit) (g : (Mmu × Unit) × Unit) : z2h := z2h.mk x.2.1.1 x.2.2.1.1 g.1.1
noncomputable def zmi : Tms U ((Unit) × ((List UInt8) × Unit) × (Int × Unit) × Unit) := tO 1 (cK (.ptr 0 0) (cUnit)) (tO 3 (cPair cStr (cUnit)) (tO 4 (cPair (cInt .i64) (cUnit)) (tNil)))
noncomputable def z10g : Bls U ((Mmu × Unit) × Unit) := bC (cPair cMmu (cUnit)) (bNil)
noncomputable def zey (s : z2h) : St U := { tm := [(1, .v (vO (cK (.ptr 0 0) (cUnit)) (()))), (3, .v (vO (cPair cStr (cUnit)) (s.t3, ()))), (4, .v (vO (cPair (cInt .i64) (cUnit)) (s.t4, ())))], hp := [.cells ((cPair cMmu (cUnit) : Cdc U (Mmu × Unit)).enc (s.b0, ())) none] }
noncomputable def zh2 (r : ((List UInt8) × Mmu)) : Ex × St U := (.exit 0, { tm := [(1, .v (vO (cK (.ptr 0 0) (cUnit)) (()))), (3, .v (vO (cPair cStr (cUnit)) (r.1, ())))], hp := [.cells ((cPair cMmu (cUnit) : Cdc U (Mmu × Unit)).enc (r.2, ())) none] })
noncomputable def zvr (r : ((List UInt8) × Mmu)) : Tree (Ex × St U) := .leaf (zh2 r)
noncomputable def z14i : Hd := { keep := [1, 3, 4], xkeep := [1, 2, 3], own := false }
noncomputable def zmd (x : (Unit) × ((List UInt8) × Unit) × (Int × Unit) × (Int × Unit) × Unit) (g : (Mmu × Unit) × Unit) : z1p := z1p.mk x.2.1.1 x.2.2.1.1 x.2.2.2.1.1 g.1.1
noncomputable def zo0 : Tms U ((Unit) × ((List UInt8) × Unit) × (Int × Unit) × (Int × Unit) × Unit) := tO 1 (cK (.ptr 0 0) (cUnit)) (tO 3 (cPair cStr (cUnit)) (tO 4 (cPair (cInt .i64) (cUnit)) (tO 5 (cPair (cInt .i64) (cUnit)) (tNil))))
noncomputable def zuc : Bls U ((Mmu × Unit) × Unit) := bC (cPair cMmu (cUnit)) (bNil)
noncomputable def zg9 (s : z1p) : St U := { tm := [(1, .v (vO (cK (.ptr 0 0) (cUnit)) (()))), (3, .v (vO (cPair cStr (cUnit)) (s.t3, ()))), (4, .v (vO (cPair (cInt .i64) (cUnit)) (s.t4, ()))), (5, .v (vO (cPair (cInt .i64) (cUnit)) (s.t5, ())))], hp := [.cells ((cPair cMmu (cUnit) : Cdc U (Mmu × Unit)).enc (s.b0, ())) none] }
noncomputable def ziv (r : ((List UInt8) × Int × Mmu)) : Ex × St U := (.exit 2, { tm := [(1, .v (vO (cK (.ptr 0 0) (cUnit)) (()))), (3, .v (vO (cPair cStr (cUnit)) (r.1, ()))), (4, .v (vO (cPair (cInt .i64) (cUnit)) (r.2.1, ())))], hp := [.cells ((cPair cMmu (cUnit) : Cdc U (Mmu × Unit)).enc (r.2.2, ())) none] })
noncomputable def z12d (r : ((List UInt8) × Int × Mmu)) : Tree (Ex × St U) := .leaf (ziv r)
noncomputable def z141 : Hd := { keep := [1, 3, 4, 5], xkeep := [1, 2, 3, 4], own := false }
noncomputable def z5i : Env U := { P := Tryz.prog, cd := cd, fns := fns66, lps := (addL 0 z14i (mkLoop zmi z10g zjx (z9a none) zvr) (addL 1 z141 (mkLoop zo0 zuc zmd (z3z none) z12d) noL)), frz := fun _r => false, nt := 50, n0 := 0 }
noncomputable def zmk : Code := (loopAt (Tryz.f65.body.getD .skip) 0 0).getD .skip
theorem z18t (s : z2h) : round z5i z14i zmk 0 (zey s) = (z32 none s).map (sumE zey zh2) := by kernel_rfl
theorem z1ef : LpOk z5i zmk 0 := mkLoop_ok (A := zmi) (B := z10g) (f := zjx) (L := z9a none) (tO_ok (cK_ok cUnit_ok) (tO_ok (cPair_ok cStr_ok cUnit_ok) (tO_ok (cPair_ok (cInt_ok .i64) cUnit_ok) tNil_ok))) (bC_ok (cPair_ok zj cUnit_ok) bNil_ok) (enc := zey) (out := zvr) (outS := zh2) (step := z32 none) (fun _ => rfl) (fun _ _ => by kernel_rfl) (by kernel_rfl) (fun _ => rfl) z18t
noncomputable def zx4 : Code := (loopAt (Tryz.f65.body.getD .skip) 0 1).getD .skip
theorem z17j (s : z1p) : round z5i z141 zx4 1 (zg9 s) = (z6b none s).map (sumE zg9 ziv) := by kernel_rfl
theorem z1e3 : LpOk z5i zx4 1 := mkLoop_ok (A := zo0) (B := zuc) (f := zmd) (L := z3z none) (tO_ok (cK_ok cUnit_ok) (tO_ok (cPair_ok cStr_ok cUnit_ok) (tO_ok (cPair_ok (cInt_ok .i64) cUnit_ok) (tO_ok (cPair_ok (cInt_ok .i64) cUnit_ok) tNil_ok)))) (bC_ok (cPair_ok zj cUnit_ok) bNil_ok) (enc := zg9) (out := z12d) (outS := ziv) (step := z6b none) (fun _ => rfl) (fun _ _ => by kernel_rfl) (by kernel_rfl) (fun _ => rfl) z17j
theorem z167 (x : Mmu × Unit) (g : Unit) : execF z5i Tryz.f65 (zkh.enc x) (bNil.enc g) = (ze9 none x.1).map z14p := by kernel_rfl
theorem z1fy : FnOk Tryz.prog cd 65 zu6 := mk_ok (E := z5i) cd_ok zlk Tryz.func65 (by kernel_rfl) (loops_of (addL_ok z1ef (addL_ok z1e3 noL_ok))) (aA_ok zj (aNil_ok)) bNil_ok (T := fun x _ => ze9 none x.1) (fun _ _ => rfl) z167
noncomputable def fns65 := addF 65 true zu6 fns66
theorem zl9 : ∀ f q t, fns65 f = some (q, t) → FnOk Tryz.prog cd f t := addF_ok z1fy zlk
/-- emulator/emulatorref03.PutText -/
noncomputable def z9w (q : Option Nat) (x0 : (List UInt8)) : Tree (List UInt8) :=
  .ite (decide ((65535 : Int) < (x0.length : Int)))
    (.ite (decide (0 ≤ (65535 : Int)))
      (.ite (decide ((65535 : Int) ≤ ((x0.length : Nat) : Int)))
        (.opt (List UInt8) (z6 q (((x0.drop (0)).take (((65535 : Int)).toNat - 0)).length : Int) (2 : Int)) fun r562 =>
          .ite (decide (r562.length + ((x0.drop (0)).take (((65535 : Int)).toNat - 0)).length ≤ 9223372036854775807))
            (.leaf (r562 ++ ((x0.drop (0)).take (((65535 : Int)).toNat - 0))))
            .fail)
        .fail)
      .fail)
    (.opt (List UInt8) (z6 q (x0.length : Int) (2 : Int)) fun r563 =>
      .ite (decide (r563.length + x0.length ≤ 9223372036854775807))
        (.leaf (r563 ++ x0))
        .fail)
noncomputable def z2v (q : Option Nat) (x0 : (List UInt8)) : Option (List UInt8) := (z9w q x0).run
noncomputable def z149 : Arg U ((List UInt8) × Unit) := aO cStr (aNil)
noncomputable def zrn (r : (List UInt8)) : List (V U) × List (Blk U) := ([vO cStr r], [])
noncomputable def zqq : List (V U) → List (Blk U) → Option (FnOut U) := mkSpec z149 bNil (fun x _ => z2v none x.1) zrn
noncomputable def zxf : Env U := { P := Tryz.prog, cd := cd, fns := fns65, lps := noL, frz := fun _r => false, nt := 13, n0 := 0 }
theorem z1ei (x : (List UInt8) × Unit) (g : Unit) : execF zxf Tryz.f118 (z149.enc x) (bNil.enc g) = (z9w none x.1).map zrn := by kernel_rfl
theorem z1a0 : FnOk Tryz.prog cd 118 zqq := mk_ok (E := zxf) cd_ok zl9 Tryz.func118 (by kernel_rfl) (noLoops_body (by kernel_rfl)) (aO_ok cStr_ok (aNil_ok)) bNil_ok (T := fun x _ => z9w none x.1) (fun _ _ => rfl) z1ei
noncomputable def fns118 := addF 118 true zqq fns65
theorem z152 : ∀ f q t, fns118 f = some (q, t) → FnOk Tryz.prog cd f t := addF_ok z1a0 zl9
/-- emulator/emulatorref23.lines -/
structure z2k where
  t0 : (List Line)
  t3 : (List UInt8)
  t4 : Int
noncomputable def z4t (q : Option Nat) (s : z2k) : Tree (z2k ⊕ (List UInt8)) :=
  .ite (decide (s.t4 < (s.t0.length : Int)))
    (.ite (decide (0 ≤ s.t4))
      (.opt Line (s.t0[(s.t4).toNat]?) fun y565 =>
        .opt (List UInt8) (z8 q y565.rxEnable) fun r566 =>
          .ite (decide (s.t3.length + r566.length ≤ 9223372036854775807))
            (.opt (List UInt8) (z8 q y565.rxReady) fun r567 =>
              .ite (decide ((s.t3 ++ r566).length + r567.length ≤ 9223372036854775807))
                (.opt (List UInt8) (z8 q y565.overrun) fun r568 =>
                  .ite (decide (((s.t3 ++ r566) ++ r567).length + r568.length ≤ 9223372036854775807))
                    (.opt (List UInt8) (z6 q y565.rxData (1 : Int)) fun r569 =>
                      .ite (decide ((((s.t3 ++ r566) ++ r567) ++ r568).length + r569.length ≤ 9223372036854775807))
                        (.opt (List UInt8) (z8 q y565.txEnable) fun r570 =>
                          .ite (decide (((((s.t3 ++ r566) ++ r567) ++ r568) ++ r569).length + r570.length ≤ 9223372036854775807))
                            (.opt (List UInt8) (z8 q y565.txReady) fun r571 =>
                              .ite (decide ((((((s.t3 ++ r566) ++ r567) ++ r568) ++ r569) ++ r570).length + r571.length ≤ 9223372036854775807))
                                (.opt (List UInt8) (z6 q y565.txData (1 : Int)) fun r572 =>
                                  .ite (decide (((((((s.t3 ++ r566) ++ r567) ++ r568) ++ r569) ++ r570) ++ r571).length + r572.length ≤ 9223372036854775807))
                                    (.opt (List UInt8) (z6 q y565.txLeft (1 : Int)) fun r573 =>
                                      .ite (decide ((((((((s.t3 ++ r566) ++ r567) ++ r568) ++ r569) ++ r570) ++ r571) ++ r572).length + r573.length ≤ 9223372036854775807))
                                        (.opt (List UInt8) (z2v q y565.out) fun r574 =>
                                          .ite (decide (((((((((s.t3 ++ r566) ++ r567) ++ r568) ++ r569) ++ r570) ++ r571) ++ r572) ++ r573).length + r574.length ≤ 9223372036854775807))
                                            (.leaf (.inl (z2k.mk s.t0 (((((((((s.t3 ++ r566) ++ r567) ++ r568) ++ r569) ++ r570) ++ r571) ++ r572) ++ r573) ++ r574) (IntKind.wrap .i64 (s.t4 + (1 : Int))))))
                                            .fail)
                                        .fail)
                                    .fail)
                                .fail)
                            .fail)
                        .fail)
                    .fail)
                .fail)
            .fail)
      .fail)
    (.leaf (.inr s.t3))
noncomputable def z7a (q : Option Nat) (s : z2k) : Option (List UInt8) := limQ q (fun s => (z4t q s).run) s
noncomputable def z97 (q : Option Nat) (x0 : (List Line)) : Tree (List UInt8) :=
  .opt (List UInt8) (z6 q (x0.length : Int) (2 : Int)) fun r564 =>
    .opt (List UInt8) (z7a q (z2k.mk x0 r564 (0 : Int))) fun l575 =>
      .leaf (l575)
noncomputable def z6l (q : Option Nat) (x0 : (List Line)) : Option (List UInt8) := (z97 q x0).run
noncomputable def zk2 : Arg U ((List Line) × Unit) := aO (cSl 66) (aNil)
noncomputable def zmy (r : (List UInt8)) : List (V U) × List (Blk U) := ([vO cStr r], [])
noncomputable def znu : List (V U) → List (Blk U) → Option (FnOut U) := mkSpec zk2 bNil (fun x _ => z6l none x.1) zmy
noncomputable def zt4 (x : ((List Line) × Unit) × ((List UInt8) × Unit) × (Int × Unit) × Unit) (_g : Unit) : z2k := z2k.mk x.1.1 x.2.1.1 x.2.2.1.1
noncomputable def z11j : Tms U (((List Line) × Unit) × ((List UInt8) × Unit) × (Int × Unit) × Unit) := tO 0 (cPair (cSl 66) (cUnit)) (tO 3 (cPair cStr (cUnit)) (tO 4 (cPair (cInt .i64) (cUnit)) (tNil)))
noncomputable def ztu : Bls U (Unit) := bNil
noncomputable def zf9 (s : z2k) : St U := { tm := [(0, .v (vO (cPair (cSl 66) (cUnit)) (s.t0, ()))), (3, .v (vO (cPair cStr (cUnit)) (s.t3, ()))), (4, .v (vO (cPair (cInt .i64) (cUnit)) (s.t4, ())))], hp := [] }
noncomputable def zgm (r : (List UInt8)) : Ex × St U := (.exit 0, { tm := [(3, .v (vO (cPair cStr (cUnit)) (r, ())))], hp := [] })
noncomputable def zzg (r : (List UInt8)) : Tree (Ex × St U) := .leaf (zgm r)
noncomputable def zzl : Hd := { keep := [0, 3, 4], xkeep := [2, 3], own := false }
noncomputable def zdf : Env U := { P := Tryz.prog, cd := cd, fns := fns118, lps := (addL 0 zzl (mkLoop z11j ztu zt4 (z7a none) zzg) noL), frz := fun _r => false, nt := 57, n0 := 0 }
noncomputable def zny : Code := (loopAt (Tryz.f67.body.getD .skip) 0 0).getD .skip
theorem z18u (s : z2k) : round zdf zzl zny 0 (zf9 s) = (z4t none s).map (sumE zf9 zgm) := by kernel_rfl
theorem z1d5 : LpOk zdf zny 0 := mkLoop_ok (A := z11j) (B := ztu) (f := zt4) (L := z7a none) (tO_ok (cPair_ok (cSl_ok 66) cUnit_ok) (tO_ok (cPair_ok cStr_ok cUnit_ok) (tO_ok (cPair_ok (cInt_ok .i64) cUnit_ok) tNil_ok))) bNil_ok (enc := zf9) (out := zzg) (outS := zgm) (step := z4t none) (fun _ => rfl) (fun _ _ => by kernel_rfl) (by kernel_rfl) (fun _ => rfl) z18u
theorem z1aa (x : (List Line) × Unit) (g : Unit) : execF zdf Tryz.f67 (zk2.enc x) (bNil.enc g) = (z97 none x.1).map zmy := by kernel_rfl
theorem z19b : FnOk Tryz.prog cd 67 znu := mk_ok (E := zdf) cd_ok z152 Tryz.func67 (by kernel_rfl) (loops_of (addL_ok z1d5 noL_ok)) (aO_ok (cSl_ok 66) (aNil_ok)) bNil_ok (T := fun x _ => z97 none x.1) (fun _ _ => rfl) z1aa
noncomputable def fns67 := addF 67 true znu fns118
theorem zs1 : ∀ f q t, fns67 f = some (q, t) → FnOk Tryz.prog cd f t := addF_ok z19b z152
/-- emulator/emulatorref23.texts -/
structure z2m where
  t0 : (List (List UInt8))
  t3 : (List UInt8)
  t4 : Int
noncomputable def z67 (q : Option Nat) (s : z2m) : Tree (z2m ⊕ (List UInt8)) :=
  .ite (decide (s.t4 < (s.t0.length : Int)))
    (.ite (decide (0 ≤ s.t4))
      (.opt (List UInt8) (s.t0[(s.t4).toNat]?) fun y577 =>
        .opt (List UInt8) (z2v q y577) fun r578 =>
          .ite (decide (s.t3.length + r578.length ≤ 9223372036854775807))
            (.leaf (.inl (z2m.mk s.t0 (s.t3 ++ r578) (IntKind.wrap .i64 (s.t4 + (1 : Int))))))
            .fail)
      .fail)
    (.leaf (.inr s.t3))
noncomputable def z8w (q : Option Nat) (s : z2m) : Option (List UInt8) := limQ q (fun s => (z67 q s).run) s
noncomputable def zdx (q : Option Nat) (x0 : (List (List UInt8))) : Tree (List UInt8) :=
  .opt (List UInt8) (z6 q (x0.length : Int) (2 : Int)) fun r576 =>
    .opt (List UInt8) (z8w q (z2m.mk x0 r576 (0 : Int))) fun l579 =>
      .leaf (l579)
noncomputable def z3a (q : Option Nat) (x0 : (List (List UInt8))) : Option (List UInt8) := (zdx q x0).run
noncomputable def z14n : Arg U ((List (List UInt8)) × Unit) := aO (cSl 9) (aNil)
noncomputable def zxr (r : (List UInt8)) : List (V U) × List (Blk U) := ([vO cStr r], [])
noncomputable def zm0 : List (V U) → List (Blk U) → Option (FnOut U) := mkSpec z14n bNil (fun x _ => z3a none x.1) zxr
noncomputable def zz6 (x : ((List (List UInt8)) × Unit) × ((List UInt8) × Unit) × (Int × Unit) × Unit) (_g : Unit) : z2m := z2m.mk x.1.1 x.2.1.1 x.2.2.1.1
noncomputable def zsu : Tms U (((List (List UInt8)) × Unit) × ((List UInt8) × Unit) × (Int × Unit) × Unit) := tO 0 (cPair (cSl 9) (cUnit)) (tO 3 (cPair cStr (cUnit)) (tO 4 (cPair (cInt .i64) (cUnit)) (tNil)))
noncomputable def zzy : Bls U (Unit) := bNil
noncomputable def zhc (s : z2m) : St U := { tm := [(0, .v (vO (cPair (cSl 9) (cUnit)) (s.t0, ()))), (3, .v (vO (cPair cStr (cUnit)) (s.t3, ()))), (4, .v (vO (cPair (cInt .i64) (cUnit)) (s.t4, ())))], hp := [] }
noncomputable def zik (r : (List UInt8)) : Ex × St U := (.exit 0, { tm := [(3, .v (vO (cPair cStr (cUnit)) (r, ())))], hp := [] })
noncomputable def zuz (r : (List UInt8)) : Tree (Ex × St U) := .leaf (zik r)
noncomputable def zno : Hd := { keep := [0, 3, 4], xkeep := [2, 3], own := false }
noncomputable def zan : Env U := { P := Tryz.prog, cd := cd, fns := fns67, lps := (addL 0 zno (mkLoop zsu zzy zz6 (z8w none) zuz) noL), frz := fun _r => false, nt := 22, n0 := 0 }
noncomputable def zz7 : Code := (loopAt (Tryz.f119.body.getD .skip) 0 0).getD .skip
theorem z18n (s : z2m) : round zan zno zz7 0 (zhc s) = (z67 none s).map (sumE zhc zik) := by kernel_rfl
theorem z1ad : LpOk zan zz7 0 := mkLoop_ok (A := zsu) (B := zzy) (f := zz6) (L := z8w none) (tO_ok (cPair_ok (cSl_ok 9) cUnit_ok) (tO_ok (cPair_ok cStr_ok cUnit_ok) (tO_ok (cPair_ok (cInt_ok .i64) cUnit_ok) tNil_ok))) bNil_ok (enc := zhc) (out := zuz) (outS := zik) (step := z67 none) (fun _ => rfl) (fun _ _ => by kernel_rfl) (by kernel_rfl) (fun _ => rfl) z18n
theorem z18s (x : (List (List UInt8)) × Unit) (g : Unit) : execF zan Tryz.f119 (z14n.enc x) (bNil.enc g) = (zdx none x.1).map zxr := by kernel_rfl
theorem z15q : FnOk Tryz.prog cd 119 zm0 := mk_ok (E := zan) cd_ok zs1 Tryz.func119 (by kernel_rfl) (loops_of (addL_ok z1ad noL_ok)) (aO_ok (cSl_ok 9) (aNil_ok)) bNil_ok (T := fun x _ => zdx none x.1) (fun _ _ => rfl) z18s
noncomputable def fns119 := addF 119 true zm0 fns67
theorem zy4 : ∀ f q t, fns119 f = some (q, t) → FnOk Tryz.prog cd f t := addF_ok z15q zs1
/-- emulator/emulatorref23.disk -/
noncomputable def zea (q : Option Nat) (x0 : Disk) : Tree (List UInt8) :=
  .opt (List UInt8) (z3a q x0.drive.sectors) fun r580 =>
    .opt (List UInt8) (z1i q x0.drive.bad) fun r581 =>
      .ite (decide (r580.length + r581.length ≤ 9223372036854775807))
        (.opt (List UInt8) (z8 q x0.enable) fun r582 =>
          .ite (decide ((r580 ++ r581).length + r582.length ≤ 9223372036854775807))
            (.opt (List UInt8) (z8 q x0.ready) fun r583 =>
              .ite (decide (((r580 ++ r581) ++ r582).length + r583.length ≤ 9223372036854775807))
                (.opt (List UInt8) (z8 q x0.error) fun r584 =>
                  .ite (decide ((((r580 ++ r581) ++ r582) ++ r583).length + r584.length ≤ 9223372036854775807))
                    (.opt (List UInt8) (z6 q x0.command (1 : Int)) fun r585 =>
                      .ite (decide (((((r580 ++ r581) ++ r582) ++ r583) ++ r584).length + r585.length ≤ 9223372036854775807))
                        (.opt (List UInt8) (z6 q x0.words (2 : Int)) fun r586 =>
                          .ite (decide ((((((r580 ++ r581) ++ r582) ++ r583) ++ r584) ++ r585).length + r586.length ≤ 9223372036854775807))
                            (.opt (List UInt8) (z6 q x0.addr (2 : Int)) fun r587 =>
                              .ite (decide (((((((r580 ++ r581) ++ r582) ++ r583) ++ r584) ++ r585) ++ r586).length + r587.length ≤ 9223372036854775807))
                                (.opt (List UInt8) (z6 q x0.start (2 : Int)) fun r588 =>
                                  .ite (decide ((((((((r580 ++ r581) ++ r582) ++ r583) ++ r584) ++ r585) ++ r586) ++ r587).length + r588.length ≤ 9223372036854775807))
                                    (.opt (List UInt8) (z6 q x0.left (1 : Int)) fun r589 =>
                                      .ite (decide (((((((((r580 ++ r581) ++ r582) ++ r583) ++ r584) ++ r585) ++ r586) ++ r587) ++ r588).length + r589.length ≤ 9223372036854775807))
                                        (.leaf (((((((((r580 ++ r581) ++ r582) ++ r583) ++ r584) ++ r585) ++ r586) ++ r587) ++ r588) ++ r589))
                                        .fail)
                                    .fail)
                                .fail)
                            .fail)
                        .fail)
                    .fail)
                .fail)
            .fail)
        .fail
noncomputable def z7d (q : Option Nat) (x0 : Disk) : Option (List UInt8) := (zea q x0).run
noncomputable def zka : Arg U (Disk × Unit) := aA cDisk (aNil)
noncomputable def zu8 (r : (List UInt8)) : List (V U) × List (Blk U) := ([vO cStr r], [])
noncomputable def z14o : List (V U) → List (Blk U) → Option (FnOut U) := mkSpec zka bNil (fun x _ => z7d none x.1) zu8
noncomputable def zor : Env U := { P := Tryz.prog, cd := cd, fns := fns119, lps := noL, frz := fun _r => false, nt := 46, n0 := 0 }
theorem z1e7 (x : Disk × Unit) (g : Unit) : execF zor Tryz.f68 (zka.enc x) (bNil.enc g) = (zea none x.1).map zu8 := by kernel_rfl
theorem z1f7 : FnOk Tryz.prog cd 68 z14o := mk_ok (E := zor) cd_ok zy4 Tryz.func68 (by kernel_rfl) (noLoops_body (by kernel_rfl)) (aA_ok z4c (aNil_ok)) bNil_ok (T := fun x _ => zea none x.1) (fun _ _ => rfl) z1e7
noncomputable def fns68 := addF 68 true z14o fns119
theorem zxp : ∀ f q t, fns68 f = some (q, t) → FnOk Tryz.prog cd f t := addF_ok z1f7 zy4
/-- emulator/emulatorref23.tape -/
noncomputable def zad (q : Option Nat) (x0 : Tape) : Tree (List UInt8) :=
  .opt (List UInt8) (z3a q x0.records) fun r590 =>
    .opt (List UInt8) (z6 q x0.pos (1 : Int)) fun r591 =>
      .ite (decide (r590.length + r591.length ≤ 9223372036854775807))
        (.opt (List UInt8) (z8 q x0.enable) fun r592 =>
          .ite (decide ((r590 ++ r591).length + r592.length ≤ 9223372036854775807))
            (.opt (List UInt8) (z8 q x0.ready) fun r593 =>
              .ite (decide (((r590 ++ r591) ++ r592).length + r593.length ≤ 9223372036854775807))
                (.opt (List UInt8) (z8 q x0.error) fun r594 =>
                  .ite (decide ((((r590 ++ r591) ++ r592) ++ r593).length + r594.length ≤ 9223372036854775807))
                    (.opt (List UInt8) (z8 q x0.mark) fun r595 =>
                      .ite (decide (((((r590 ++ r591) ++ r592) ++ r593) ++ r594).length + r595.length ≤ 9223372036854775807))
                        (.opt (List UInt8) (z8 q x0.end_) fun r596 =>
                          .ite (decide ((((((r590 ++ r591) ++ r592) ++ r593) ++ r594) ++ r595).length + r596.length ≤ 9223372036854775807))
                            (.opt (List UInt8) (z6 q x0.command (1 : Int)) fun r597 =>
                              .ite (decide (((((((r590 ++ r591) ++ r592) ++ r593) ++ r594) ++ r595) ++ r596).length + r597.length ≤ 9223372036854775807))
                                (.opt (List UInt8) (z6 q x0.count (2 : Int)) fun r598 =>
                                  .ite (decide ((((((((r590 ++ r591) ++ r592) ++ r593) ++ r594) ++ r595) ++ r596) ++ r597).length + r598.length ≤ 9223372036854775807))
                                    (.opt (List UInt8) (z6 q x0.addr (2 : Int)) fun r599 =>
                                      .ite (decide (((((((((r590 ++ r591) ++ r592) ++ r593) ++ r594) ++ r595) ++ r596) ++ r597) ++ r598).length + r599.length ≤ 9223372036854775807))
                                        (.opt (List UInt8) (z6 q x0.left (1 : Int)) fun r600 =>
                                          .ite (decide ((((((((((r590 ++ r591) ++ r592) ++ r593) ++ r594) ++ r595) ++ r596) ++ r597) ++ r598) ++ r599).length + r600.length ≤ 9223372036854775807))
                                            (.leaf ((((((((((r590 ++ r591) ++ r592) ++ r593) ++ r594) ++ r595) ++ r596) ++ r597) ++ r598) ++ r599) ++ r600))
                                            .fail)
                                        .fail)
                                    .fail)
                                .fail)
                            .fail)
                        .fail)
                    .fail)
                .fail)
            .fail)
        .fail
noncomputable def z6k (q : Option Nat) (x0 : Tape) : Option (List UInt8) := (zad q x0).run
noncomputable def zul : Arg U (Tape × Unit) := aA cTape (aNil)
noncomputable def zlv (r : (List UInt8)) : List (V U) × List (Blk U) := ([vO cStr r], [])
noncomputable def zvb : List (V U) → List (Blk U) → Option (FnOut U) := mkSpec zul bNil (fun x _ => z6k none x.1) zlv
noncomputable def zwi : Env U := { P := Tryz.prog, cd := cd, fns := fns68, lps := noL, frz := fun _r => false, nt := 48, n0 := 0 }
theorem z1dk (x : Tape × Unit) (g : Unit) : execF zwi Tryz.f69 (zul.enc x) (bNil.enc g) = (zad none x.1).map zlv := by kernel_rfl
theorem z1as : FnOk Tryz.prog cd 69 zvb := mk_ok (E := zwi) cd_ok zxp Tryz.func69 (by kernel_rfl) (noLoops_body (by kernel_rfl)) (aA_ok z2s (aNil_ok)) bNil_ok (T := fun x _ => zad none x.1) (fun _ _ => rfl) z1dk
noncomputable def fns69 := addF 69 true zvb fns68
theorem z11b : ∀ f q t, fns69 f = some (q, t) → FnOk Tryz.prog cd f t := addF_ok z1as zxp
/-- emulator/emulatorref23.Parts -/
noncomputable def zaq (q : Option Nat) (x0 : Machine) : Tree (List UInt8) :=
  .opt (List UInt8) (z7f q x0.cpu) fun r601 =>
    .ite (decide (([69, 77, 85, 49] : List UInt8).length + r601.length ≤ 9223372036854775807))
      (.opt (List UInt8) (z1i q x0.mem) fun r602 =>
        .ite (decide ((([69, 77, 85, 49] : List UInt8) ++ r601).length + r602.length ≤ 9223372036854775807))
          (.opt (List UInt8) (z1i q x0.bad) fun r603 =>
            .ite (decide (((([69, 77, 85, 49] : List UInt8) ++ r601) ++ r602).length + r603.length ≤ 9223372036854775807))
              (.opt (List UInt8) (z87 q x0.mmu) fun r604 =>
                .ite (decide ((((([69, 77, 85, 49] : List UInt8) ++ r601) ++ r602) ++ r603).length + r604.length ≤ 9223372036854775807))
                  (.opt (List UInt8) (z8 q x0.clock.enable) fun r605 =>
                    .ite (decide (((((([69, 77, 85, 49] : List UInt8) ++ r601) ++ r602) ++ r603) ++ r604).length + r605.length ≤ 9223372036854775807))
                      (.opt (List UInt8) (z8 q x0.clock.ready) fun r606 =>
                        .ite (decide ((((((([69, 77, 85, 49] : List UInt8) ++ r601) ++ r602) ++ r603) ++ r604) ++ r605).length + r606.length ≤ 9223372036854775807))
                          (.opt (List UInt8) (z6 q x0.clock.period (2 : Int)) fun r607 =>
                            .ite (decide (((((((([69, 77, 85, 49] : List UInt8) ++ r601) ++ r602) ++ r603) ++ r604) ++ r605) ++ r606).length + r607.length ≤ 9223372036854775807))
                              (.opt (List UInt8) (z6 q x0.clock.left (2 : Int)) fun r608 =>
                                .ite (decide ((((((((([69, 77, 85, 49] : List UInt8) ++ r601) ++ r602) ++ r603) ++ r604) ++ r605) ++ r606) ++ r607).length + r608.length ≤ 9223372036854775807))
                                  (.opt (List UInt8) (z6l q x0.lines) fun r609 =>
                                    .ite (decide (((((((((([69, 77, 85, 49] : List UInt8) ++ r601) ++ r602) ++ r603) ++ r604) ++ r605) ++ r606) ++ r607) ++ r608).length + r609.length ≤ 9223372036854775807))
                                      (.opt (List UInt8) (z7d q x0.disk) fun r610 =>
                                        .ite (decide ((((((((((([69, 77, 85, 49] : List UInt8) ++ r601) ++ r602) ++ r603) ++ r604) ++ r605) ++ r606) ++ r607) ++ r608) ++ r609).length + r610.length ≤ 9223372036854775807))
                                          (.opt (List UInt8) (z6k q x0.tape) fun r611 =>
                                            .ite (decide (((((((((((([69, 77, 85, 49] : List UInt8) ++ r601) ++ r602) ++ r603) ++ r604) ++ r605) ++ r606) ++ r607) ++ r608) ++ r609) ++ r610).length + r611.length ≤ 9223372036854775807))
                                              (.opt (List UInt8) (z6 q x0.now (6 : Int)) fun r612 =>
                                                .ite (decide ((((((((((((([69, 77, 85, 49] : List UInt8) ++ r601) ++ r602) ++ r603) ++ r604) ++ r605) ++ r606) ++ r607) ++ r608) ++ r609) ++ r610) ++ r611).length + r612.length ≤ 9223372036854775807))
                                                  (.opt (List UInt8) (z8 q x0.halted) fun r613 =>
                                                    .ite (decide (((((((((((((([69, 77, 85, 49] : List UInt8) ++ r601) ++ r602) ++ r603) ++ r604) ++ r605) ++ r606) ++ r607) ++ r608) ++ r609) ++ r610) ++ r611) ++ r612).length + r613.length ≤ 9223372036854775807))
                                                      (.opt (List UInt8) (z8 q x0.waiting) fun r614 =>
                                                        .ite (decide ((((((((((((((([69, 77, 85, 49] : List UInt8) ++ r601) ++ r602) ++ r603) ++ r604) ++ r605) ++ r606) ++ r607) ++ r608) ++ r609) ++ r610) ++ r611) ++ r612) ++ r613).length + r614.length ≤ 9223372036854775807))
                                                          (.opt (List UInt8) (z6 q x0.power (2 : Int)) fun r615 =>
                                                            .ite (decide (((((((((((((((([69, 77, 85, 49] : List UInt8) ++ r601) ++ r602) ++ r603) ++ r604) ++ r605) ++ r606) ++ r607) ++ r608) ++ r609) ++ r610) ++ r611) ++ r612) ++ r613) ++ r614).length + r615.length ≤ 9223372036854775807))
                                                              (.opt (List UInt8) (z8 q x0.powerTrap) fun r616 =>
                                                                .ite (decide ((((((((((((((((([69, 77, 85, 49] : List UInt8) ++ r601) ++ r602) ++ r603) ++ r604) ++ r605) ++ r606) ++ r607) ++ r608) ++ r609) ++ r610) ++ r611) ++ r612) ++ r613) ++ r614) ++ r615).length + r616.length ≤ 9223372036854775807))
                                                                  (.leaf ((((((((((((((((([69, 77, 85, 49] : List UInt8) ++ r601) ++ r602) ++ r603) ++ r604) ++ r605) ++ r606) ++ r607) ++ r608) ++ r609) ++ r610) ++ r611) ++ r612) ++ r613) ++ r614) ++ r615) ++ r616))
                                                                  .fail)
                                                              .fail)
                                                          .fail)
                                                      .fail)
                                                  .fail)
                                              .fail)
                                          .fail)
                                      .fail)
                                  .fail)
                              .fail)
                          .fail)
                      .fail)
                  .fail)
              .fail)
          .fail)
      .fail
noncomputable def zaz (q : Option Nat) (x0 : Machine) : Option (List UInt8) := (zaq q x0).run
noncomputable def znr : Arg U (Machine × Unit) := aA cMachine (aNil)
noncomputable def z10j (r : (List UInt8)) : List (V U) × List (Blk U) := ([vO cStr r], [])
noncomputable def z10n : List (V U) → List (Blk U) → Option (FnOut U) := mkSpec znr bNil (fun x _ => zaz none x.1) z10j
noncomputable def zza : Env U := { P := Tryz.prog, cd := cd, fns := fns69, lps := noL, frz := fun _r => false, nt := 75, n0 := 0 }
theorem z1fb (x : Machine × Unit) (g : Unit) : execF zza Tryz.f33 (znr.enc x) (bNil.enc g) = (zaq none x.1).map z10j := by kernel_rfl
theorem z1eh : FnOk Tryz.prog cd 33 z10n := mk_ok (E := zza) cd_ok z11b Tryz.func33 (by kernel_rfl) (noLoops_body (by kernel_rfl)) (aA_ok ze (aNil_ok)) bNil_ok (T := fun x _ => zaq none x.1) (fun _ _ => rfl) z1fb
noncomputable def fns33 := addF 33 true z10n fns69
theorem z11m : ∀ f q t, fns33 f = some (q, t) → FnOk Tryz.prog cd f t := addF_ok z1eh z11b
/-- emulator/emulatorref03.Crc -/
structure z19 where
  t0 : (List UInt8)
  t3 : Int
  t4 : Int
  t5 : Int
noncomputable def z3s (s : z19) : Tree (z19 ⊕ ((List UInt8) × Int × Int)) :=
  .ite (decide (s.t5 < (8 : Int)))
    (.ite (decide ((2 : Int) = 0))
      .fail
      (.ite (decide (((s.t3).tmod (2 : Int)) = (1 : Int)))
        (.ite (decide (0 ≤ (1 : Int)))
          (.leaf (.inl (z19.mk s.t0 (IntKind.wrap .u32 (((BitVec.ofInt 32 ((s.t3).fdiv (2 ^ (min ((1 : Int)).toNat 32))) ^^^ BitVec.ofInt 32 (3988292384 : Int)).toNat : Int))) s.t4 (IntKind.wrap .i64 (s.t5 + (1 : Int))))))
          .fail)
        (.ite (decide (0 ≤ (1 : Int)))
          (.leaf (.inl (z19.mk s.t0 ((s.t3).fdiv (2 ^ (min ((1 : Int)).toNat 32))) s.t4 (IntKind.wrap .i64 (s.t5 + (1 : Int))))))
          .fail)))
    (.leaf (.inr (s.t0, s.t3, s.t4)))
noncomputable def z5l (q : Option Nat) (s : z19) : Option ((List UInt8) × Int × Int) := limQ q (fun s => (z3s s).run) s
structure z1y where
  t0 : (List UInt8)
  t3 : Int
  t4 : Int
noncomputable def z4l (q : Option Nat) (s : z1y) : Tree (z1y ⊕ Int) :=
  .ite (decide (s.t4 < (s.t0.length : Int)))
    (.ite (decide (0 ≤ s.t4))
      (.opt UInt8 (s.t0[(s.t4).toNat]?) fun y617 =>
        .opt ((List UInt8) × Int × Int) (z5l q (z19.mk s.t0 (IntKind.wrap .u32 (((BitVec.ofInt 32 s.t3 ^^^ BitVec.ofInt 32 (IntKind.wrap .u32 (y617.toNat : Int))).toNat : Int))) s.t4 (0 : Int))) fun l618 =>
          .leaf (.inl (z1y.mk l618.1 l618.2.1 (IntKind.wrap .i64 (l618.2.2 + (1 : Int))))))
      .fail)
    (.leaf (.inr s.t3))
noncomputable def z8u (q : Option Nat) (s : z1y) : Option Int := limQ q (fun s => (z4l q s).run) s
noncomputable def zb1 (q : Option Nat) (x0 : (List UInt8)) : Tree Int :=
  .opt Int (z8u q (z1y.mk x0 (4294967295 : Int) (0 : Int))) fun l619 =>
    .leaf (IntKind.wrap .i64 (IntKind.wrap .u32 (((BitVec.ofInt 32 l619 ^^^ BitVec.ofInt 32 (4294967295 : Int)).toNat : Int))))
noncomputable def z6y (q : Option Nat) (x0 : (List UInt8)) : Option Int := (zb1 q x0).run
noncomputable def zv1 : Arg U ((List UInt8) × Unit) := aO cStr (aNil)
noncomputable def zt6 (r : Int) : List (V U) × List (Blk U) := ([vO (cInt .i64) r], [])
noncomputable def zsj : List (V U) → List (Blk U) → Option (FnOut U) := mkSpec zv1 bNil (fun x _ => z6y none x.1) zt6
noncomputable def zss (x : ((List UInt8) × Unit) × (Int × Unit) × (Int × Unit) × Unit) (_g : Unit) : z1y := z1y.mk x.1.1 x.2.1.1 x.2.2.1.1
noncomputable def zly : Tms U (((List UInt8) × Unit) × (Int × Unit) × (Int × Unit) × Unit) := tO 0 (cPair cStr (cUnit)) (tO 3 (cPair (cInt .u32) (cUnit)) (tO 4 (cPair (cInt .i64) (cUnit)) (tNil)))
noncomputable def z14s : Bls U (Unit) := bNil
noncomputable def ziq (s : z1y) : St U := { tm := [(0, .v (vO (cPair cStr (cUnit)) (s.t0, ()))), (3, .v (vO (cPair (cInt .u32) (cUnit)) (s.t3, ()))), (4, .v (vO (cPair (cInt .i64) (cUnit)) (s.t4, ())))], hp := [] }
noncomputable def zgi (r : Int) : Ex × St U := (.exit 0, { tm := [(3, .v (vO (cPair (cInt .u32) (cUnit)) (r, ())))], hp := [] })
noncomputable def zmo (r : Int) : Tree (Ex × St U) := .leaf (zgi r)
noncomputable def zsq : Hd := { keep := [0, 3, 4], xkeep := [2, 3], own := false }
noncomputable def ztd (x : ((List UInt8) × Unit) × (Int × Unit) × (Int × Unit) × (Int × Unit) × Unit) (_g : Unit) : z19 := z19.mk x.1.1 x.2.1.1 x.2.2.1.1 x.2.2.2.1.1
noncomputable def z13d : Tms U (((List UInt8) × Unit) × (Int × Unit) × (Int × Unit) × (Int × Unit) × Unit) := tO 0 (cPair cStr (cUnit)) (tO 3 (cPair (cInt .u32) (cUnit)) (tO 4 (cPair (cInt .i64) (cUnit)) (tO 5 (cPair (cInt .i64) (cUnit)) (tNil))))
noncomputable def zsk : Bls U (Unit) := bNil
noncomputable def zix (s : z19) : St U := { tm := [(0, .v (vO (cPair cStr (cUnit)) (s.t0, ()))), (3, .v (vO (cPair (cInt .u32) (cUnit)) (s.t3, ()))), (4, .v (vO (cPair (cInt .i64) (cUnit)) (s.t4, ()))), (5, .v (vO (cPair (cInt .i64) (cUnit)) (s.t5, ())))], hp := [] }
noncomputable def zi8 (r : ((List UInt8) × Int × Int)) : Ex × St U := (.exit 2, { tm := [(0, .v (vO (cPair cStr (cUnit)) (r.1, ()))), (3, .v (vO (cPair (cInt .u32) (cUnit)) (r.2.1, ()))), (4, .v (vO (cPair (cInt .i64) (cUnit)) (r.2.2, ())))], hp := [] })
noncomputable def zqw (r : ((List UInt8) × Int × Int)) : Tree (Ex × St U) := .leaf (zi8 r)
noncomputable def zwv : Hd := { keep := [0, 3, 4, 5], xkeep := [0, 2, 3, 4], own := false }
noncomputable def z5z : Env U := { P := Tryz.prog, cd := cd, fns := fns33, lps := (addL 0 zsq (mkLoop zly z14s zss (z8u none) zmo) (addL 1 zwv (mkLoop z13d zsk ztd (z5l none) zqw) noL)), frz := fun _r => false, nt := 33, n0 := 0 }
noncomputable def zsx : Code := (loopAt (Tryz.f42.body.getD .skip) 0 0).getD .skip
theorem z1b3 (s : z1y) : round z5z zsq zsx 0 (ziq s) = (z4l none s).map (sumE ziq zgi) := by kernel_rfl
theorem z15g : LpOk z5z zsx 0 := mkLoop_ok (A := zly) (B := z14s) (f := zss) (L := z8u none) (tO_ok (cPair_ok cStr_ok cUnit_ok) (tO_ok (cPair_ok (cInt_ok .u32) cUnit_ok) (tO_ok (cPair_ok (cInt_ok .i64) cUnit_ok) tNil_ok))) bNil_ok (enc := ziq) (out := zmo) (outS := zgi) (step := z4l none) (fun _ => rfl) (fun _ _ => by kernel_rfl) (by kernel_rfl) (fun _ => rfl) z1b3
noncomputable def zr2 : Code := (loopAt (Tryz.f42.body.getD .skip) 0 1).getD .skip
theorem z18v (s : z19) : round z5z zwv zr2 1 (zix s) = (z3s s).map (sumE zix zi8) := by kernel_rfl
theorem z15t : LpOk z5z zr2 1 := mkLoop_ok (A := z13d) (B := zsk) (f := ztd) (L := z5l none) (tO_ok (cPair_ok cStr_ok cUnit_ok) (tO_ok (cPair_ok (cInt_ok .u32) cUnit_ok) (tO_ok (cPair_ok (cInt_ok .i64) cUnit_ok) (tO_ok (cPair_ok (cInt_ok .i64) cUnit_ok) tNil_ok)))) bNil_ok (enc := zix) (out := zqw) (outS := zi8) (step := z3s) (fun _ => rfl) (fun _ _ => by kernel_rfl) (by kernel_rfl) (fun _ => rfl) z18v
theorem z16b (x : (List UInt8) × Unit) (g : Unit) : execF z5z Tryz.f42 (zv1.enc x) (bNil.enc g) = (zb1 none x.1).map zt6 := by kernel_rfl
theorem z1aw : FnOk Tryz.prog cd 42 zsj := mk_ok (E := z5z) cd_ok z11m Tryz.func42 (by kernel_rfl) (loops_of (addL_ok z15g (addL_ok z15t noL_ok))) (aO_ok cStr_ok (aNil_ok)) bNil_ok (T := fun x _ => zb1 none x.1) (fun _ _ => rfl) z16b
noncomputable def fns42 := addF 42 true zsj fns33
theorem zl4 : ∀ f q t, fns42 f = some (q, t) → FnOk Tryz.prog cd f t := addF_ok z1aw z11m
/-- emulator/emulatorref03.Seal -/
noncomputable def zd5 (q : Option Nat) (x0 : (List UInt8)) : Tree (List UInt8) :=
  .opt Int (z6y q x0) fun r620 =>
    .opt (List UInt8) (z6 q r620 (4 : Int)) fun r621 =>
      .ite (decide (x0.length + r621.length ≤ 9223372036854775807))
        (.leaf (x0 ++ r621))
        .fail
noncomputable def z7p (q : Option Nat) (x0 : (List UInt8)) : Option (List UInt8) := (zd5 q x0).run
noncomputable def zs5 : Arg U ((List UInt8) × Unit) := aO cStr (aNil)
noncomputable def zmr (r : (List UInt8)) : List (V U) × List (Blk U) := ([vO cStr r], [])
noncomputable def zsp : List (V U) → List (Blk U) → Option (FnOut U) := mkSpec zs5 bNil (fun x _ => z7p none x.1) zmr
noncomputable def zwt : Env U := { P := Tryz.prog, cd := cd, fns := fns42, lps := noL, frz := fun _r => false, nt := 8, n0 := 0 }
theorem z165 (x : (List UInt8) × Unit) (g : Unit) : execF zwt Tryz.f40 (zs5.enc x) (bNil.enc g) = (zd5 none x.1).map zmr := by kernel_rfl
theorem z1cy : FnOk Tryz.prog cd 40 zsp := mk_ok (E := zwt) cd_ok zl4 Tryz.func40 (by kernel_rfl) (noLoops_body (by kernel_rfl)) (aO_ok cStr_ok (aNil_ok)) bNil_ok (T := fun x _ => zd5 none x.1) (fun _ _ => rfl) z165
noncomputable def fns40 := addF 40 true zsp fns42
theorem zmw : ∀ f q t, fns40 f = some (q, t) → FnOk Tryz.prog cd f t := addF_ok z1cy zl4
/-- emulator/emulatorref23.Encode -/
noncomputable def z6e (q : Option Nat) (x0 : Machine) : Tree ((List UInt8) × Int) :=
  .opt Bool (z76 q x0) fun r622 =>
    .ite (!r622)
      (.leaf ((([] : List UInt8), (1 : Int))))
      (.opt (List UInt8) (zaz q x0) fun r623 =>
        .opt (List UInt8) (z7p q r623) fun r624 =>
          .leaf ((r624, (0 : Int))))
noncomputable def z41 (q : Option Nat) (x0 : Machine) : Option ((List UInt8) × Int) := (z6e q x0).run
noncomputable def ztk : Arg U (Machine × Unit) := aA cMachine (aNil)
noncomputable def zn3 (r : ((List UInt8) × Int)) : List (V U) × List (Blk U) := ([vO cStr r.1, vO (cInt .i64) r.2], [])
noncomputable def zrv : List (V U) → List (Blk U) → Option (FnOut U) := mkSpec ztk bNil (fun x _ => z41 none x.1) zn3
noncomputable def zqs : Env U := { P := Tryz.prog, cd := cd, fns := fns40, lps := noL, frz := fun _r => false, nt := 10, n0 := 0 }
theorem z1fq (x : Machine × Unit) (g : Unit) : execF zqs Tryz.f13 (ztk.enc x) (bNil.enc g) = (z6e none x.1).map zn3 := by kernel_rfl
theorem z18k : FnOk Tryz.prog cd 13 zrv := mk_ok (E := zqs) cd_ok zmw Tryz.func13 (by kernel_rfl) (noLoops_body (by kernel_rfl)) (aA_ok ze (aNil_ok)) bNil_ok (T := fun x _ => z6e none x.1) (fun _ _ => rfl) z1fq
noncomputable def fns13 := addF 13 true zrv fns40
theorem z12r : ∀ f q t, fns13 f = some (q, t) → FnOk Tryz.prog cd f t := addF_ok z18k zmw
/-- emulator/octet.Crc -/
noncomputable def ze3 (q : Option Nat) (x0 : (List UInt8)) : Tree Int :=
  .opt Int (z4n q ([x0])) fun r625 =>
    .leaf (r625)
noncomputable def zay (q : Option Nat) (x0 : (List UInt8)) : Option Int := (ze3 q x0).run
noncomputable def zvv : Arg U ((List UInt8) × Unit) := aO cStr (aNil)
noncomputable def z14h (r : Int) : List (V U) × List (Blk U) := ([vO (cInt .i64) r], [])
noncomputable def z103 : List (V U) → List (Blk U) → Option (FnOut U) := mkSpec zvv bNil (fun x _ => zay none x.1) z14h
noncomputable def zlx : Env U := { P := Tryz.prog, cd := cd, fns := (addF 46 false (frzSpec z6f) fns13), lps := noL, frz := fun _r => false, nt := 6, n0 := 0 }
theorem z1cp (x : (List UInt8) × Unit) (g : Unit) : execF zlx Tryz.f41 (zvv.enc x) (bNil.enc g) = (ze3 none x.1).map z14h := by kernel_rfl
theorem z1cl : FnOk Tryz.prog cd 41 z103 := mk_ok (E := zlx) cd_ok (addF_ok (fnOk_frz cd_ok (mkSpec_out fun _ => rfl) zao) z12r) Tryz.func41 (by kernel_rfl) (noLoops_body (by kernel_rfl)) (aO_ok cStr_ok (aNil_ok)) bNil_ok (T := fun x _ => ze3 none x.1) (fun _ _ => rfl) z1cp
noncomputable def fns41 := addF 41 true z103 fns13
theorem zs6 : ∀ f q t, fns41 f = some (q, t) → FnOk Tryz.prog cd f t := addF_ok z1cl z12r
/-- emulator/save.Digest -/
noncomputable def z6d (q : Option Nat) (x0 : Machine) : Tree Int :=
  .opt ((List UInt8) × Int) (z2r q x0) fun r626 =>
    .ite (!decide (r626.2 = (0 : Int)))
      (.leaf ((0 : Int)))
      (.ite (decide (0 ≤ IntKind.wrap .i64 ((r626.1.length : Int) - (4 : Int))))
        (.ite (decide (IntKind.wrap .i64 ((r626.1.length : Int) - (4 : Int)) ≤ ((r626.1.length : Nat) : Int)))
          (.opt Int (zay q ((r626.1.drop (0)).take ((IntKind.wrap .i64 ((r626.1.length : Int) - (4 : Int))).toNat - 0))) fun r627 =>
            .leaf (r627))
          .fail)
        .fail)
noncomputable def z5h (q : Option Nat) (x0 : Machine) : Option Int := (z6d q x0).run
noncomputable def zx2 : Arg U (Machine × Unit) := aA cMachine (aNil)
noncomputable def z154 (r : Int) : List (V U) × List (Blk U) := ([vO (cInt .i64) r], [])
noncomputable def z128 : List (V U) → List (Blk U) → Option (FnOut U) := mkSpec zx2 bNil (fun x _ => z5h none x.1) z154
noncomputable def zni : Env U := { P := Tryz.prog, cd := cd, fns := fns41, lps := noL, frz := fun _r => false, nt := 18, n0 := 0 }
theorem z15l (x : Machine × Unit) (g : Unit) : execF zni Tryz.f14 (zx2.enc x) (bNil.enc g) = (z6d none x.1).map z154 := by kernel_rfl
theorem z17v : FnOk Tryz.prog cd 14 z128 := mk_ok (E := zni) cd_ok zs6 Tryz.func14 (by kernel_rfl) (noLoops_body (by kernel_rfl)) (aA_ok ze (aNil_ok)) bNil_ok (T := fun x _ => z6d none x.1) (fun _ _ => rfl) z15l
noncomputable def fns14 := addF 14 true z128 fns41
theorem zrq : ∀ f q t, fns14 f = some (q, t) → FnOk Tryz.prog cd f t := addF_ok z17v zs6
/-- emulator/emulatorref23.Digest -/
noncomputable def z7l (q : Option Nat) (x0 : Machine) : Tree Int :=
  .opt ((List UInt8) × Int) (z41 q x0) fun r628 =>
    .ite (!decide (r628.2 = (0 : Int)))
      (.leaf ((0 : Int)))
      (.ite (decide (0 ≤ IntKind.wrap .i64 ((r628.1.length : Int) - (4 : Int))))
        (.ite (decide (IntKind.wrap .i64 ((r628.1.length : Int) - (4 : Int)) ≤ ((r628.1.length : Nat) : Int)))
          (.opt Int (z6y q ((r628.1.drop (0)).take ((IntKind.wrap .i64 ((r628.1.length : Int) - (4 : Int))).toNat - 0))) fun r629 =>
            .leaf (r629))
          .fail)
        .fail)
noncomputable def z4h (q : Option Nat) (x0 : Machine) : Option Int := (z7l q x0).run
noncomputable def zze : Arg U (Machine × Unit) := aA cMachine (aNil)
noncomputable def zok (r : Int) : List (V U) × List (Blk U) := ([vO (cInt .i64) r], [])
noncomputable def zvy : List (V U) → List (Blk U) → Option (FnOut U) := mkSpec zze bNil (fun x _ => z4h none x.1) zok
noncomputable def z10l : Env U := { P := Tryz.prog, cd := cd, fns := fns14, lps := noL, frz := fun _r => false, nt := 18, n0 := 0 }
theorem z19d (x : Machine × Unit) (g : Unit) : execF z10l Tryz.f15 (zze.enc x) (bNil.enc g) = (z7l none x.1).map zok := by kernel_rfl
theorem z187 : FnOk Tryz.prog cd 15 zvy := mk_ok (E := z10l) cd_ok zrq Tryz.func15 (by kernel_rfl) (noLoops_body (by kernel_rfl)) (aA_ok ze (aNil_ok)) bNil_ok (T := fun x _ => z7l none x.1) (fun _ _ => rfl) z19d
noncomputable def fns15 := addF 15 true zvy fns14
theorem z193 : ∀ f q t, fns15 f = some (q, t) → FnOk Tryz.prog cd f t := addF_ok z187 zrq
/-- emulator/emulatorlaw23.SaveEncodes -/
noncomputable def z4p (q : Option Nat) (x0 : Machine) : Tree Bool :=
  .opt Bool (zca q x0) fun r630 =>
    .ite (r630)
      (.leaf (true))
      (.opt ((List UInt8) × Int) (z2r q x0) fun r631 =>
        .opt ((List UInt8) × Int) (z41 q x0) fun r632 =>
          .ite (decide (r631.1 = r632.1))
            (.ite (decide (r631.2 = r632.2))
              (.opt Int (z5h q x0) fun r633 =>
                .opt Int (z4h q x0) fun r634 =>
                  .ite (decide (r633 = r634))
                    (.opt Bool (z99 q) fun r635 =>
                      .leaf (r635))
                    (.leaf (false)))
              (.leaf (false)))
            (.leaf (false)))
noncomputable def z39 (q : Option Nat) (x0 : Machine) : Option Bool := (z4p q x0).run
noncomputable def zdb : Arg U (Machine × Unit) := aA cMachine (aNil)
noncomputable def zr9 (r : Bool) : List (V U) × List (Blk U) := ([vO cBool r], [])
noncomputable def z195 : List (V U) → List (Blk U) → Option (FnOut U) := mkSpec zdb bNil (fun x _ => z39 none x.1) zr9
noncomputable def zob : Env U := { P := Tryz.prog, cd := cd, fns := fns15, lps := noL, frz := fun _r => false, nt := 37, n0 := 0 }
theorem z16j (x : Machine × Unit) (g : Unit) : execF zob Tryz.f4 (zdb.enc x) (bNil.enc g) = (z4p none x.1).map zr9 := by kernel_rfl
theorem z194 : FnOk Tryz.prog cd 4 z195 := mk_ok (E := zob) cd_ok z193 Tryz.func4 (by kernel_rfl) (noLoops_body (by kernel_rfl)) (aA_ok ze (aNil_ok)) bNil_ok (T := fun x _ => z4p none x.1) (fun _ _ => rfl) z16j
end Go.Proofs.YtiafliookmnjoaaGreatDoor
