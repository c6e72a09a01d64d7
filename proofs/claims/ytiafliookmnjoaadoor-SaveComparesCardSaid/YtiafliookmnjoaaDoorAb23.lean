/- (goes on) -/
import Derived.Test.YtiafliookmnjoaaDoorAb23p0
set_option linter.unusedSimpArgs false
namespace Go.Proofs.YtiafliookmnjoaaDoor
open Go Go.Ab
/-- emulator/octet.Put -/
structure Soctet_Put_0 where
  t0 : Int
  t12 : Int
  t13 : Int
  b0 : (List Int)
noncomputable def Woctet_Put_0 (s : Soctet_Put_0) : Tree (Soctet_Put_0 ⊕ (List Int)) :=
  .ite (decide (s.t13 < s.t12))
    (.ite (decide (0 ≤ (IntKind.wrap .i64 ((8 : Int) * s.t13))))
      (.ite (decide (0 ≤ s.t13))
        (.ite (decide (s.t13 < (s.b0.length : Int)))
          (.opt Int (s.b0[(s.t13).toNat]?) fun y173 =>
            .leaf (.inl (Soctet_Put_0.mk s.t0 s.t12 (IntKind.wrap .i64 (s.t13 + (1 : Int))) (s.b0.set ((s.t13).toNat) (IntKind.wrap .u8 (((if (0 : Int) > s.t0 then (0 : Int) else s.t0)).fdiv (2 ^ (min ((IntKind.wrap .i64 ((8 : Int) * s.t13))).toNat 64))))))))
          .fail)
        .fail)
      .fail)
    (.leaf (.inr s.b0))
noncomputable def Loctet_Put_0 (q : Option Nat) (s : Soctet_Put_0) : Option (List Int) := limQ q (fun s => (Woctet_Put_0 s).run) s
theorem leLoctet_Put_0 (k : Nat) (s : Soctet_Put_0) : Le (Loctet_Put_0 (some k) s) (Loctet_Put_0 none s) := limQ_le (fun _ => Le.rfl) s
noncomputable def Toctet_Put (q : Option Nat) (x0 : Int) (x1 : Int) : Tree (List UInt8) :=
  .ite (decide ((if (if (8 : Int) < x1 then (8 : Int) else x1) > (0 : Int) then (if (8 : Int) < x1 then (8 : Int) else x1) else (0 : Int)) = (if (if (8 : Int) < x1 then (8 : Int) else x1) > (0 : Int) then (if (8 : Int) < x1 then (8 : Int) else x1) else (0 : Int))))
    (.ite (decide (0 ≤ (if (if (8 : Int) < x1 then (8 : Int) else x1) > (0 : Int) then (if (8 : Int) < x1 then (8 : Int) else x1) else (0 : Int))))
      (.ite (decide ((1 : Int) * (if (if (8 : Int) < x1 then (8 : Int) else x1) > (0 : Int) then (if (8 : Int) < x1 then (8 : Int) else x1) else (0 : Int)) ≤ 281474976710656))
        (.opt (List Int) (Loctet_Put_0 q (Soctet_Put_0.mk x0 ((List.replicate ((if (if (8 : Int) < x1 then (8 : Int) else x1) > (0 : Int) then (if (8 : Int) < x1 then (8 : Int) else x1) else (0 : Int))).toNat (0 : Int)).length : Int) (0 : Int) (List.replicate ((if (if (8 : Int) < x1 then (8 : Int) else x1) > (0 : Int) then (if (8 : Int) < x1 then (8 : Int) else x1) else (0 : Int))).toNat (0 : Int)))) fun l174 =>
          .leaf (l174.map fun x => UInt8.ofNat x.toNat))
        .fail)
      .fail)
    .fail
noncomputable def octet_Put (q : Option Nat) (x0 : Int) (x1 : Int) : Option (List UInt8) := (Toctet_Put q x0 x1).run
theorem leoctet_Put (k : Nat) (x0 : Int) (x1 : Int) : Le (octet_Put (some k) x0 x1) (octet_Put none x0 x1) := (TLe.ite (TLe.ite (TLe.ite (TLe.opt (leLoctet_Put_0 k _) fun _ => TLe.rfl) TLe.rfl) TLe.rfl) TLe.rfl)
noncomputable def Aoctet_Put : Arg U (Int × Int × Unit) := aO (cInt .i64) (aO (cInt .i64) (aNil))
noncomputable def Roctet_Put (r : (List UInt8)) : List (V U) × List (Blk U) := ([vO cStr r], [])
noncomputable def Soctet_Put : List (V U) → List (Blk U) → Option (FnOut U) := mkSpec Aoctet_Put bNil (fun x _ => octet_Put none x.1 x.2.1) Roctet_Put
noncomputable def Poctet_Put_0 (x : (Int × Unit) × (Unit) × (Int × Unit) × (Int × Unit) × Unit) (g : (List Int) × Unit) : Soctet_Put_0 := Soctet_Put_0.mk x.1.1 x.2.2.1.1 x.2.2.2.1.1 g.1
noncomputable def tAoctet_Put_0 : Tms U ((Int × Unit) × (Unit) × (Int × Unit) × (Int × Unit) × Unit) := tO 0 (cPair (cInt .i64) (cUnit)) (tO 5 (cK (.row 0 0) (cUnit)) (tO 12 (cPair (cInt .i64) (cUnit)) (tO 13 (cPair (cInt .i64) (cUnit)) (tNil))))
noncomputable def tBoctet_Put_0 : Bls U ((List Int) × Unit) := bRv 5 0 (bNil)
noncomputable def eSoctet_Put_0 (s : Soctet_Put_0) : St U := { tm := [(0, .v (vO (cPair (cInt .i64) (cUnit)) (s.t0, ()))), (5, .v (vO (cK (.row 0 0) (cUnit)) (()))), (12, .v (vO (cPair (cInt .i64) (cUnit)) (s.t12, ()))), (13, .v (vO (cPair (cInt .i64) (cUnit)) (s.t13, ())))], hp := [.row 5 0 s.b0] }
noncomputable def xSoctet_Put_0 (r : (List Int)) : Ex × St U := (.exit 0, { tm := [(5, .v (vO (cK (.row 0 0) (cUnit)) (())))], hp := [.row 5 0 r] })
noncomputable def xToctet_Put_0 (r : (List Int)) : Tree (Ex × St U) := .leaf (xSoctet_Put_0 r)
noncomputable def hoctet_Put_0 : Hd := { keep := [0, 5, 12, 13], xkeep := [4, 5], own := false }
noncomputable def Eoctet_Put : Env U := { P := Tryd.prog, cd := cd, fns := fns55, lps := (addL 0 hoctet_Put_0 (mkLoop tAoctet_Put_0 tBoctet_Put_0 Poctet_Put_0 (Loctet_Put_0 none) xToctet_Put_0) noL), frz := fun _r => false, nt := 28, n0 := 0 }
noncomputable def Boctet_Put_0 : Code := (loopAt (Tryd.f56.body.getD .skip) 0 0).getD .skip
theorem roundoctet_Put_0 (s : Soctet_Put_0) : round Eoctet_Put hoctet_Put_0 Boctet_Put_0 0 (eSoctet_Put_0 s) = (Woctet_Put_0 s).map (sumE eSoctet_Put_0 xSoctet_Put_0) := by kernel_rfl
theorem lpoctet_Put_0 : LpOk Eoctet_Put Boctet_Put_0 0 := mkLoop_ok (A := tAoctet_Put_0) (B := tBoctet_Put_0) (f := Poctet_Put_0) (L := Loctet_Put_0 none) (tO_ok (cPair_ok (cInt_ok .i64) cUnit_ok) (tO_ok (cK_ok cUnit_ok) (tO_ok (cPair_ok (cInt_ok .i64) cUnit_ok) (tO_ok (cPair_ok (cInt_ok .i64) cUnit_ok) tNil_ok)))) (bRv_ok bNil_ok) (enc := eSoctet_Put_0) (out := xToctet_Put_0) (outS := xSoctet_Put_0) (step := Woctet_Put_0) (fun _ => rfl) (fun _ _ => by kernel_rfl) (by kernel_rfl) (fun _ => rfl) roundoctet_Put_0
theorem runoctet_Put (x : Int × Int × Unit) (g : Unit) : execF Eoctet_Put Tryd.f56 (Aoctet_Put.enc x) (bNil.enc g) = (Toctet_Put none x.1 x.2.1).map Roctet_Put := by kernel_rfl
theorem okoctet_Put : FnOk Tryd.prog cd 56 Soctet_Put := mk_ok (E := Eoctet_Put) cd_ok fns55_ok Tryd.func56 (by kernel_rfl) (loops_of (addL_ok lpoctet_Put_0 noL_ok)) (aO_ok (cInt_ok .i64) (aO_ok (cInt_ok .i64) (aNil_ok))) bNil_ok (T := fun x _ => Toctet_Put none x.1 x.2.1) (fun _ _ => rfl) runoctet_Put
noncomputable def fns56 := addF 56 true Soctet_Put fns55
theorem fns56_ok : ∀ f q t, fns56 f = some (q, t) → FnOk Tryd.prog cd f t := addF_ok okoctet_Put fns55_ok
/-- emulator/octet.sum -/
structure Soctet_sum_2 where
  t3 : Int
  t5 : (List UInt8)
  t8 : (List (List UInt8))
  t9 : Int
  t10 : Int
  t15 : Int
  t16 : Int
  t25 : Int
noncomputable def Woctet_sum_2 (s : Soctet_sum_2) : Tree (Soctet_sum_2 ⊕ (Int × (List UInt8) × (List (List UInt8)) × Int × Int × Int × Int)) :=
  .ite (decide (s.t25 < (8 : Int)))
    (.ite (decide (0 ≤ (1 : Int)))
      (.leaf (.inl (Soctet_sum_2.mk (IntKind.wrap .u32 (((BitVec.ofInt 32 ((s.t3).fdiv (2 ^ (min ((1 : Int)).toNat 32))) ^^^ BitVec.ofInt 32 (IntKind.wrap .u32 ((IntKind.wrap .u32 (((BitVec.ofInt 32 s.t3 &&& BitVec.ofInt 32 (1 : Int)).toNat : Int))) * (3988292384 : Int)))).toNat : Int))) s.t5 s.t8 s.t9 s.t10 s.t15 s.t16 (IntKind.wrap .i64 (s.t25 + (1 : Int))))))
      .fail)
    (.leaf (.inr (s.t3, s.t5, s.t8, s.t9, s.t10, s.t15, s.t16)))
noncomputable def Loctet_sum_2 (q : Option Nat) (s : Soctet_sum_2) : Option (Int × (List UInt8) × (List (List UInt8)) × Int × Int × Int × Int) := limQ q (fun s => (Woctet_sum_2 s).run) s
theorem leLoctet_sum_2 (k : Nat) (s : Soctet_sum_2) : Le (Loctet_sum_2 (some k) s) (Loctet_sum_2 none s) := limQ_le (fun _ => Le.rfl) s
structure Soctet_sum_1 where
  t3 : Int
  t5 : (List UInt8)
  t8 : (List (List UInt8))
  t9 : Int
  t10 : Int
  t15 : Int
  t16 : Int
noncomputable def Woctet_sum_1 (q : Option Nat) (s : Soctet_sum_1) : Tree (Soctet_sum_1 ⊕ (Int × (List (List UInt8)) × Int × Int)) :=
  .ite (decide (s.t16 < s.t15))
    (.ite (decide (0 ≤ s.t16))
      (.opt UInt8 (s.t5[(s.t16).toNat]?) fun y176 =>
        .opt (Int × (List UInt8) × (List (List UInt8)) × Int × Int × Int × Int) (Loctet_sum_2 q (Soctet_sum_2.mk (IntKind.wrap .u32 (((BitVec.ofInt 32 s.t3 ^^^ BitVec.ofInt 32 (IntKind.wrap .u32 (y176.toNat : Int))).toNat : Int))) s.t5 s.t8 s.t9 s.t10 s.t15 s.t16 (0 : Int))) fun l177 =>
          .leaf (.inl (Soctet_sum_1.mk l177.1 l177.2.1 l177.2.2.1 l177.2.2.2.1 l177.2.2.2.2.1 l177.2.2.2.2.2.1 (IntKind.wrap .i64 (l177.2.2.2.2.2.2 + (1 : Int))))))
      .fail)
    (.leaf (.inr (s.t3, s.t8, s.t9, s.t10)))
noncomputable def Loctet_sum_1 (q : Option Nat) (s : Soctet_sum_1) : Option (Int × (List (List UInt8)) × Int × Int) := limQ q (fun s => (Woctet_sum_1 q s).run) s
theorem leLoctet_sum_1 (k : Nat) (s : Soctet_sum_1) : Le (Loctet_sum_1 (some k) s) (Loctet_sum_1 none s) := limQ_le (fun s => (TLe.ite (TLe.ite (TLe.opt Le.rfl fun _ => (TLe.opt (leLoctet_sum_2 k _) fun _ => TLe.rfl)) TLe.rfl) TLe.rfl)) s
structure Soctet_sum_0 where
  t3 : Int
  t8 : (List (List UInt8))
  t9 : Int
  t10 : Int
noncomputable def Woctet_sum_0 (q : Option Nat) (s : Soctet_sum_0) : Tree (Soctet_sum_0 ⊕ Int) :=
  .ite (decide (s.t10 < s.t9))
    (.ite (decide (0 ≤ s.t10))
      (.opt (List UInt8) (s.t8[(s.t10).toNat]?) fun y175 =>
        .opt (Int × (List (List UInt8)) × Int × Int) (Loctet_sum_1 q (Soctet_sum_1.mk s.t3 y175 s.t8 s.t9 s.t10 (y175.length : Int) (0 : Int))) fun l178 =>
          .leaf (.inl (Soctet_sum_0.mk l178.1 l178.2.1 l178.2.2.1 (IntKind.wrap .i64 (l178.2.2.2 + (1 : Int))))))
      .fail)
    (.leaf (.inr s.t3))
noncomputable def Loctet_sum_0 (q : Option Nat) (s : Soctet_sum_0) : Option Int := limQ q (fun s => (Woctet_sum_0 q s).run) s
theorem leLoctet_sum_0 (k : Nat) (s : Soctet_sum_0) : Le (Loctet_sum_0 (some k) s) (Loctet_sum_0 none s) := limQ_le (fun s => (TLe.ite (TLe.ite (TLe.opt Le.rfl fun _ => (TLe.opt (leLoctet_sum_1 k _) fun _ => TLe.rfl)) TLe.rfl) TLe.rfl)) s
noncomputable def Toctet_sum (q : Option Nat) (x0 : (List (List UInt8))) : Tree Int :=
  .opt Int (Loctet_sum_0 q (Soctet_sum_0.mk (4294967295 : Int) x0 (x0.length : Int) (0 : Int))) fun l179 =>
    .leaf (IntKind.wrap .i64 (IntKind.wrap .u32 ((BitVec.ofInt 32 4294967295 ^^^ BitVec.ofInt 32 l179).toNat : Int)))
noncomputable def octet_sum (q : Option Nat) (x0 : (List (List UInt8))) : Option Int := (Toctet_sum q x0).run
theorem leoctet_sum (k : Nat) (x0 : (List (List UInt8))) : Le (octet_sum (some k) x0) (octet_sum none x0) := (TLe.opt (leLoctet_sum_0 k _) fun _ => TLe.rfl)
noncomputable def Aoctet_sum : Arg U ((List (List UInt8)) × Unit) := aO (cSl 9) (aNil)
noncomputable def Roctet_sum (r : Int) : List (V U) × List (Blk U) := ([vO (cInt .i64) r], [])
noncomputable def Soctet_sum : List (V U) → List (Blk U) → Option (FnOut U) := mkSpec Aoctet_sum bNil (fun x _ => octet_sum none x.1) Roctet_sum
noncomputable def Poctet_sum_0 (x : (Int × Unit) × ((List (List UInt8)) × Unit) × (Int × Unit) × (Int × Unit) × Unit) (_g : Unit) : Soctet_sum_0 := Soctet_sum_0.mk x.1.1 x.2.1.1 x.2.2.1.1 x.2.2.2.1.1
noncomputable def tAoctet_sum_0 : Tms U ((Int × Unit) × ((List (List UInt8)) × Unit) × (Int × Unit) × (Int × Unit) × Unit) := tO 3 (cPair (cInt .u32) (cUnit)) (tO 8 (cPair (cSl 9) (cUnit)) (tO 9 (cPair (cInt .i64) (cUnit)) (tO 10 (cPair (cInt .i64) (cUnit)) (tNil))))
noncomputable def tBoctet_sum_0 : Bls U (Unit) := bNil
noncomputable def eSoctet_sum_0 (s : Soctet_sum_0) : St U := { tm := [(3, .v (vO (cPair (cInt .u32) (cUnit)) (s.t3, ()))), (8, .v (vO (cPair (cSl 9) (cUnit)) (s.t8, ()))), (9, .v (vO (cPair (cInt .i64) (cUnit)) (s.t9, ()))), (10, .v (vO (cPair (cInt .i64) (cUnit)) (s.t10, ())))], hp := [] }
noncomputable def xSoctet_sum_0 (r : Int) : Ex × St U := (.exit 0, { tm := [(3, .v (vO (cPair (cInt .u32) (cUnit)) (r, ())))], hp := [] })
noncomputable def xToctet_sum_0 (r : Int) : Tree (Ex × St U) := .leaf (xSoctet_sum_0 r)
noncomputable def hoctet_sum_0 : Hd := { keep := [3, 8, 9, 10], xkeep := [2, 3], own := false }
noncomputable def Poctet_sum_1 (x : (Int × Unit) × ((List UInt8) × Unit) × ((List (List UInt8)) × Unit) × (Int × Unit) × (Int × Unit) × (Int × Unit) × (Int × Unit) × Unit) (_g : Unit) : Soctet_sum_1 := Soctet_sum_1.mk x.1.1 x.2.1.1 x.2.2.1.1 x.2.2.2.1.1 x.2.2.2.2.1.1 x.2.2.2.2.2.1.1 x.2.2.2.2.2.2.1.1
noncomputable def tAoctet_sum_1 : Tms U ((Int × Unit) × ((List UInt8) × Unit) × ((List (List UInt8)) × Unit) × (Int × Unit) × (Int × Unit) × (Int × Unit) × (Int × Unit) × Unit) := tO 3 (cPair (cInt .u32) (cUnit)) (tO 5 (cPair cStr (cUnit)) (tO 8 (cPair (cSl 9) (cUnit)) (tO 9 (cPair (cInt .i64) (cUnit)) (tO 10 (cPair (cInt .i64) (cUnit)) (tO 15 (cPair (cInt .i64) (cUnit)) (tO 16 (cPair (cInt .i64) (cUnit)) (tNil)))))))
noncomputable def tBoctet_sum_1 : Bls U (Unit) := bNil
noncomputable def eSoctet_sum_1 (s : Soctet_sum_1) : St U := { tm := [(3, .v (vO (cPair (cInt .u32) (cUnit)) (s.t3, ()))), (5, .v (vO (cPair cStr (cUnit)) (s.t5, ()))), (8, .v (vO (cPair (cSl 9) (cUnit)) (s.t8, ()))), (9, .v (vO (cPair (cInt .i64) (cUnit)) (s.t9, ()))), (10, .v (vO (cPair (cInt .i64) (cUnit)) (s.t10, ()))), (15, .v (vO (cPair (cInt .i64) (cUnit)) (s.t15, ()))), (16, .v (vO (cPair (cInt .i64) (cUnit)) (s.t16, ())))], hp := [] }
noncomputable def xSoctet_sum_1 (r : (Int × (List (List UInt8)) × Int × Int)) : Ex × St U := (.exit 2, { tm := [(3, .v (vO (cPair (cInt .u32) (cUnit)) (r.1, ()))), (8, .v (vO (cPair (cSl 9) (cUnit)) (r.2.1, ()))), (9, .v (vO (cPair (cInt .i64) (cUnit)) (r.2.2.1, ()))), (10, .v (vO (cPair (cInt .i64) (cUnit)) (r.2.2.2, ())))], hp := [] })
noncomputable def xToctet_sum_1 (r : (Int × (List (List UInt8)) × Int × Int)) : Tree (Ex × St U) := .leaf (xSoctet_sum_1 r)
noncomputable def hoctet_sum_1 : Hd := { keep := [3, 5, 8, 9, 10, 15, 16], xkeep := [2, 3, 8, 9, 10], own := false }
noncomputable def Poctet_sum_2 (x : (Int × Unit) × ((List UInt8) × Unit) × ((List (List UInt8)) × Unit) × (Int × Unit) × (Int × Unit) × (Int × Unit) × (Int × Unit) × (Int × Unit) × Unit) (_g : Unit) : Soctet_sum_2 := Soctet_sum_2.mk x.1.1 x.2.1.1 x.2.2.1.1 x.2.2.2.1.1 x.2.2.2.2.1.1 x.2.2.2.2.2.1.1 x.2.2.2.2.2.2.1.1 x.2.2.2.2.2.2.2.1.1
noncomputable def tAoctet_sum_2 : Tms U ((Int × Unit) × ((List UInt8) × Unit) × ((List (List UInt8)) × Unit) × (Int × Unit) × (Int × Unit) × (Int × Unit) × (Int × Unit) × (Int × Unit) × Unit) := tO 3 (cPair (cInt .u32) (cUnit)) (tO 5 (cPair cStr (cUnit)) (tO 8 (cPair (cSl 9) (cUnit)) (tO 9 (cPair (cInt .i64) (cUnit)) (tO 10 (cPair (cInt .i64) (cUnit)) (tO 15 (cPair (cInt .i64) (cUnit)) (tO 16 (cPair (cInt .i64) (cUnit)) (tO 25 (cPair (cInt .i64) (cUnit)) (tNil))))))))
noncomputable def tBoctet_sum_2 : Bls U (Unit) := bNil
noncomputable def eSoctet_sum_2 (s : Soctet_sum_2) : St U := { tm := [(3, .v (vO (cPair (cInt .u32) (cUnit)) (s.t3, ()))), (5, .v (vO (cPair cStr (cUnit)) (s.t5, ()))), (8, .v (vO (cPair (cSl 9) (cUnit)) (s.t8, ()))), (9, .v (vO (cPair (cInt .i64) (cUnit)) (s.t9, ()))), (10, .v (vO (cPair (cInt .i64) (cUnit)) (s.t10, ()))), (15, .v (vO (cPair (cInt .i64) (cUnit)) (s.t15, ()))), (16, .v (vO (cPair (cInt .i64) (cUnit)) (s.t16, ()))), (25, .v (vO (cPair (cInt .i64) (cUnit)) (s.t25, ())))], hp := [] }
noncomputable def xSoctet_sum_2 (r : (Int × (List UInt8) × (List (List UInt8)) × Int × Int × Int × Int)) : Ex × St U := (.exit 4, { tm := [(3, .v (vO (cPair (cInt .u32) (cUnit)) (r.1, ()))), (5, .v (vO (cPair cStr (cUnit)) (r.2.1, ()))), (8, .v (vO (cPair (cSl 9) (cUnit)) (r.2.2.1, ()))), (9, .v (vO (cPair (cInt .i64) (cUnit)) (r.2.2.2.1, ()))), (10, .v (vO (cPair (cInt .i64) (cUnit)) (r.2.2.2.2.1, ()))), (15, .v (vO (cPair (cInt .i64) (cUnit)) (r.2.2.2.2.2.1, ()))), (16, .v (vO (cPair (cInt .i64) (cUnit)) (r.2.2.2.2.2.2, ())))], hp := [] })
noncomputable def xToctet_sum_2 (r : (Int × (List UInt8) × (List (List UInt8)) × Int × Int × Int × Int)) : Tree (Ex × St U) := .leaf (xSoctet_sum_2 r)
noncomputable def hoctet_sum_2 : Hd := { keep := [3, 5, 8, 9, 10, 15, 16, 25], xkeep := [2, 3, 5, 8, 9, 10, 15, 16], own := false }
noncomputable def Eoctet_sum : Env U := { P := Tryd.prog, cd := cd, fns := fns56, lps := (addL 0 hoctet_sum_0 (mkLoop tAoctet_sum_0 tBoctet_sum_0 Poctet_sum_0 (Loctet_sum_0 none) xToctet_sum_0) (addL 1 hoctet_sum_1 (mkLoop tAoctet_sum_1 tBoctet_sum_1 Poctet_sum_1 (Loctet_sum_1 none) xToctet_sum_1) (addL 2 hoctet_sum_2 (mkLoop tAoctet_sum_2 tBoctet_sum_2 Poctet_sum_2 (Loctet_sum_2 none) xToctet_sum_2) noL))), frz := fun _r => false, nt := 41, n0 := 0 }
noncomputable def Boctet_sum_0 : Code := (loopAt (Tryd.f57.body.getD .skip) 0 0).getD .skip
theorem roundoctet_sum_0 (s : Soctet_sum_0) : round Eoctet_sum hoctet_sum_0 Boctet_sum_0 0 (eSoctet_sum_0 s) = (Woctet_sum_0 none s).map (sumE eSoctet_sum_0 xSoctet_sum_0) := by kernel_rfl
theorem lpoctet_sum_0 : LpOk Eoctet_sum Boctet_sum_0 0 := mkLoop_ok (A := tAoctet_sum_0) (B := tBoctet_sum_0) (f := Poctet_sum_0) (L := Loctet_sum_0 none) (tO_ok (cPair_ok (cInt_ok .u32) cUnit_ok) (tO_ok (cPair_ok (cSl_ok 9) cUnit_ok) (tO_ok (cPair_ok (cInt_ok .i64) cUnit_ok) (tO_ok (cPair_ok (cInt_ok .i64) cUnit_ok) tNil_ok)))) bNil_ok (enc := eSoctet_sum_0) (out := xToctet_sum_0) (outS := xSoctet_sum_0) (step := Woctet_sum_0 none) (fun _ => rfl) (fun _ _ => by kernel_rfl) (by kernel_rfl) (fun _ => rfl) roundoctet_sum_0
noncomputable def Boctet_sum_1 : Code := (loopAt (Tryd.f57.body.getD .skip) 0 1).getD .skip
theorem roundoctet_sum_1 (s : Soctet_sum_1) : round Eoctet_sum hoctet_sum_1 Boctet_sum_1 1 (eSoctet_sum_1 s) = (Woctet_sum_1 none s).map (sumE eSoctet_sum_1 xSoctet_sum_1) := by kernel_rfl
theorem lpoctet_sum_1 : LpOk Eoctet_sum Boctet_sum_1 1 := mkLoop_ok (A := tAoctet_sum_1) (B := tBoctet_sum_1) (f := Poctet_sum_1) (L := Loctet_sum_1 none) (tO_ok (cPair_ok (cInt_ok .u32) cUnit_ok) (tO_ok (cPair_ok cStr_ok cUnit_ok) (tO_ok (cPair_ok (cSl_ok 9) cUnit_ok) (tO_ok (cPair_ok (cInt_ok .i64) cUnit_ok) (tO_ok (cPair_ok (cInt_ok .i64) cUnit_ok) (tO_ok (cPair_ok (cInt_ok .i64) cUnit_ok) (tO_ok (cPair_ok (cInt_ok .i64) cUnit_ok) tNil_ok))))))) bNil_ok (enc := eSoctet_sum_1) (out := xToctet_sum_1) (outS := xSoctet_sum_1) (step := Woctet_sum_1 none) (fun _ => rfl) (fun _ _ => by kernel_rfl) (by kernel_rfl) (fun _ => rfl) roundoctet_sum_1
noncomputable def Boctet_sum_2 : Code := (loopAt (Tryd.f57.body.getD .skip) 0 2).getD .skip
theorem roundoctet_sum_2 (s : Soctet_sum_2) : round Eoctet_sum hoctet_sum_2 Boctet_sum_2 2 (eSoctet_sum_2 s) = (Woctet_sum_2 s).map (sumE eSoctet_sum_2 xSoctet_sum_2) := by kernel_rfl
theorem lpoctet_sum_2 : LpOk Eoctet_sum Boctet_sum_2 2 := mkLoop_ok (A := tAoctet_sum_2) (B := tBoctet_sum_2) (f := Poctet_sum_2) (L := Loctet_sum_2 none) (tO_ok (cPair_ok (cInt_ok .u32) cUnit_ok) (tO_ok (cPair_ok cStr_ok cUnit_ok) (tO_ok (cPair_ok (cSl_ok 9) cUnit_ok) (tO_ok (cPair_ok (cInt_ok .i64) cUnit_ok) (tO_ok (cPair_ok (cInt_ok .i64) cUnit_ok) (tO_ok (cPair_ok (cInt_ok .i64) cUnit_ok) (tO_ok (cPair_ok (cInt_ok .i64) cUnit_ok) (tO_ok (cPair_ok (cInt_ok .i64) cUnit_ok) tNil_ok)))))))) bNil_ok (enc := eSoctet_sum_2) (out := xToctet_sum_2) (outS := xSoctet_sum_2) (step := Woctet_sum_2) (fun _ => rfl) (fun _ _ => by kernel_rfl) (by kernel_rfl) (fun _ => rfl) roundoctet_sum_2
theorem runoctet_sum (x : (List (List UInt8)) × Unit) (g : Unit) : execF Eoctet_sum Tryd.f57 (Aoctet_sum.enc x) (bNil.enc g) = (Toctet_sum none x.1).map Roctet_sum := by kernel_rfl
theorem okoctet_sum : FnOk Tryd.prog cd 57 Soctet_sum := mk_ok (E := Eoctet_sum) cd_ok fns56_ok Tryd.func57 (by kernel_rfl) (loops_of (addL_ok lpoctet_sum_0 (addL_ok lpoctet_sum_1 (addL_ok lpoctet_sum_2 noL_ok)))) (aO_ok (cSl_ok 9) (aNil_ok)) bNil_ok (T := fun x _ => Toctet_sum none x.1) (fun _ _ => rfl) runoctet_sum
noncomputable def fns57 := addF 57 true Soctet_sum fns56
theorem fns57_ok : ∀ f q t, fns57 f = some (q, t) → FnOk Tryd.prog cd f t := addF_ok okoctet_sum fns56_ok
/-- emulator/octet.Seal -/
noncomputable def Toctet_Seal (q : Option Nat) (x0 : (List UInt8)) : Tree (List UInt8) :=
  .opt Int (octet_sum q ([x0])) fun r182 =>
    .opt (List UInt8) (octet_Put q r182 (4 : Int)) fun r183 =>
      .opt (List UInt8) (octet_joined q ([x0, r183])) fun r184 =>
        .leaf (r184)
noncomputable def octet_Seal (q : Option Nat) (x0 : (List UInt8)) : Option (List UInt8) := (Toctet_Seal q x0).run
theorem leoctet_Seal (k : Nat) (x0 : (List UInt8)) : Le (octet_Seal (some k) x0) (octet_Seal none x0) := (TLe.opt (leoctet_sum k _) fun _ => (TLe.opt (leoctet_Put k _ _) fun _ => (TLe.opt (leoctet_joined k _) fun _ => TLe.rfl)))
noncomputable def Aoctet_Seal : Arg U ((List UInt8) × Unit) := aO cStr (aNil)
noncomputable def Roctet_Seal (r : (List UInt8)) : List (V U) × List (Blk U) := ([vO cStr r], [])
noncomputable def Soctet_Seal : List (V U) → List (Blk U) → Option (FnOut U) := mkSpec Aoctet_Seal bNil (fun x _ => octet_Seal none x.1) Roctet_Seal
noncomputable def Eoctet_Seal : Env U := { P := Tryd.prog, cd := cd, fns := (addF 57 false (frzSpec Soctet_sum) (addF 55 false (frzSpec Soctet_joined) fns57)), lps := noL, frz := fun _r => false, nt := 10, n0 := 0 }
theorem runoctet_Seal (x : (List UInt8) × Unit) (g : Unit) : execF Eoctet_Seal Tryd.f31 (Aoctet_Seal.enc x) (bNil.enc g) = (Toctet_Seal none x.1).map Roctet_Seal := by kernel_rfl
theorem okoctet_Seal : FnOk Tryd.prog cd 31 Soctet_Seal := mk_ok (E := Eoctet_Seal) cd_ok (addF_ok (fnOk_frz cd_ok (mkSpec_out fun _ => rfl) okoctet_sum) (addF_ok (fnOk_frz cd_ok (mkSpec_out fun _ => rfl) okoctet_joined) fns57_ok)) Tryd.func31 (by kernel_rfl) (noLoops_body (by kernel_rfl)) (aO_ok cStr_ok (aNil_ok)) bNil_ok (T := fun x _ => Toctet_Seal none x.1) (fun _ _ => rfl) runoctet_Seal
noncomputable def fns31 := addF 31 true Soctet_Seal fns57
theorem fns31_ok : ∀ f q t, fns31 f = some (q, t) → FnOk Tryd.prog cd f t := addF_ok okoctet_Seal fns57_ok
end Go.Proofs.YtiafliookmnjoaaDoor
namespace Go.Proofs
open Go.Shelf
shelf_lay Lays.n105 Nm 105 at Tryd as Tryd.lays87
theorem Tryd.extra87 : Builder.X72 Tryd.prog Tryd.lays87_ren where
  sizeBuilder := by kernel_rfl
  liesBuilder := by kernel_rfl
end Go.Proofs
namespace Go.Proofs.YtiafliookmnjoaaDoor
open Go Go.Ab
theorem okstrings_Builder_copyCheck : FnOk Tryd.prog cd 87 (ccSpec 109) := cc_okT { Tryd.lays87 with } Tryd.extra87 Tryd.func87 (by kernel_rfl) (by kernel_rfl) rfl (by kernel_rfl)
/-- (*strings.Builder).WriteString -/
noncomputable def Tstrings_Builder_WriteString (x1 : (List UInt8)) (g0 : Unit) : Tree (Int × (List Int)) :=
  .opt Unit (ccF) fun r185 =>
    .ite (decide ((x1.map fun b => (b.toNat : Int)).length * 1 ≤ 140737488355328))
      (.leaf (((x1.length : Int), x1.map fun b => (b.toNat : Int))))
      .fail
noncomputable def strings_Builder_WriteString (x1 : (List UInt8)) (g0 : Unit) : Option (Int × (List Int)) := (Tstrings_Builder_WriteString x1 g0).run
noncomputable def Astrings_Builder_WriteString : Arg U ((List UInt8) × Unit) := aP 0 0 (aO cStr (aNil))
noncomputable def Gstrings_Builder_WriteString : Bls U (Unit × Unit) := bT (some 109) (cK .nilp (cNs 5)) (bNil)
noncomputable def Rstrings_Builder_WriteString (_x : (List UInt8) × Unit) (_g : Unit × Unit) (r : (Int × (List Int))) : List (V U) × List (Blk U) := ([vO (cPair (cInt .i64) (cUnit)) (r.1, ()), vO (cK .unk (cUnit)) (())], [.cells ((cK (.ptr 0 0) (cK (.row 1 0) (cUnit)) : Cdc U (Unit)).enc (())) (some 109), .row 5 0 r.2])
noncomputable def Sstrings_Builder_WriteString : List (V U) → List (Blk U) → Option (FnOut U) := mkSpecG Astrings_Builder_WriteString Gstrings_Builder_WriteString (fun x g => strings_Builder_WriteString x.1 g.1) Rstrings_Builder_WriteString
noncomputable def Estrings_Builder_WriteString : Env U := { P := Tryd.prog, cd := cd, fns := (addF 87 false (ccSpec 109) fns31), lps := noL, frz := fun _r => false, nt := 19, n0 := 1 }
theorem rnstrings_Builder_WriteString (x1 : (List UInt8)) (g0 : Unit) : execX true Estrings_Builder_WriteString Tryd.f58 (Astrings_Builder_WriteString.enc (x1, ())) (Gstrings_Builder_WriteString.enc (g0, ())) = (Tstrings_Builder_WriteString x1 g0).map (Rstrings_Builder_WriteString (x1, ()) (g0, ())) := by kernel_rfl
theorem runstrings_Builder_WriteString : ∀ (x : (List UInt8) × Unit) (g : Unit × Unit), execX true Estrings_Builder_WriteString Tryd.f58 (Astrings_Builder_WriteString.enc x) (Gstrings_Builder_WriteString.enc g) = (Tstrings_Builder_WriteString x.1 g.1).map (Rstrings_Builder_WriteString x g)
  | (x1, ()), (g0, ()) => rnstrings_Builder_WriteString x1 g0
theorem okstrings_Builder_WriteString : FnOk Tryd.prog cd 58 Sstrings_Builder_WriteString := mk_okG (E := Estrings_Builder_WriteString) (A := Astrings_Builder_WriteString) (B := Gstrings_Builder_WriteString) true cd_ok (addF_ok okstrings_Builder_copyCheck fns31_ok) Tryd.func58 (by kernel_rfl) (noLoops_body (by kernel_rfl)) (aP_ok (aO_ok cStr_ok (aNil_ok))) (bT_ok (cK_ok (cNs_ok 5)) bNil_ok) (T := fun (x : (List UInt8) × Unit) (g : Unit × Unit) => Tstrings_Builder_WriteString x.1 g.1) (fun _ _ => rfl) runstrings_Builder_WriteString
/-- (*strings.Builder).WriteString -/
noncomputable def Tstrings_Builder_WriteString_V2 (x1 : (List UInt8)) (g0 : Unit) (g1 : (List Int)) : Tree (Int × (List Int)) :=
  .opt Unit (ccF) fun r189 =>
    .ite (decide ((g1.length + (x1.map fun b => (b.toNat : Int)).length) * 1 ≤ 140737488355328))
      (.leaf (((x1.length : Int), g1 ++ (x1.map fun b => (b.toNat : Int)))))
      .fail
noncomputable def strings_Builder_WriteString_V2 (x1 : (List UInt8)) (g0 : Unit) (g1 : (List Int)) : Option (Int × (List Int)) := (Tstrings_Builder_WriteString_V2 x1 g0 g1).run
noncomputable def Astrings_Builder_WriteString_V2 : Arg U ((List UInt8) × Unit) := aP 0 0 (aO cStr (aNil))
noncomputable def Gstrings_Builder_WriteString_V2 : Bls U (Unit × (List Int) × Unit) := bT (some 109) (cK (.ptr 0 0) (cK (.row 1 0) (cUnit))) (bR 5 (bNil))
noncomputable def Rstrings_Builder_WriteString_V2 (_x : (List UInt8) × Unit) (_g : Unit × (List Int) × Unit) (r : (Int × (List Int))) : List (V U) × List (Blk U) := ([vO (cPair (cInt .i64) (cUnit)) (r.1, ()), vO (cK .unk (cUnit)) (())], [.cells ((cK (.ptr 0 0) (cK (.row 1 1) (cUnit)) : Cdc U (Unit)).enc (())) (some 109), .row 5 1 r.2])
noncomputable def Sstrings_Builder_WriteString_V2 : List (V U) → List (Blk U) → Option (FnOut U) := mkSpecG Astrings_Builder_WriteString_V2 Gstrings_Builder_WriteString_V2 (fun x g => strings_Builder_WriteString_V2 x.1 g.1 g.2.1) Rstrings_Builder_WriteString_V2
noncomputable def Estrings_Builder_WriteString_V2 : Env U := { P := Tryd.prog, cd := cd, fns := (addF 87 false (ccSpec 109) fns31), lps := noL, frz := fun _r => false, nt := 19, n0 := 2 }
theorem rnstrings_Builder_WriteString_V2 (x1 : (List UInt8)) (g0 : Unit) (g1 : (List Int)) : execX true Estrings_Builder_WriteString_V2 Tryd.f58 (Astrings_Builder_WriteString_V2.enc (x1, ())) (Gstrings_Builder_WriteString_V2.enc (g0, g1, ())) = (Tstrings_Builder_WriteString_V2 x1 g0 g1).map (Rstrings_Builder_WriteString_V2 (x1, ()) (g0, g1, ())) := by kernel_rfl
theorem runstrings_Builder_WriteString_V2 : ∀ (x : (List UInt8) × Unit) (g : Unit × (List Int) × Unit), execX true Estrings_Builder_WriteString_V2 Tryd.f58 (Astrings_Builder_WriteString_V2.enc x) (Gstrings_Builder_WriteString_V2.enc g) = (Tstrings_Builder_WriteString_V2 x.1 g.1 g.2.1).map (Rstrings_Builder_WriteString_V2 x g)
  | (x1, ()), (g0, g1, ()) => rnstrings_Builder_WriteString_V2 x1 g0 g1
theorem okstrings_Builder_WriteString_V2 : FnOk Tryd.prog cd 58 Sstrings_Builder_WriteString_V2 := mk_okG (E := Estrings_Builder_WriteString_V2) (A := Astrings_Builder_WriteString_V2) (B := Gstrings_Builder_WriteString_V2) true cd_ok (addF_ok okstrings_Builder_copyCheck fns31_ok) Tryd.func58 (by kernel_rfl) (noLoops_body (by kernel_rfl)) (aP_ok (aO_ok cStr_ok (aNil_ok))) (bT_ok (cK_ok (cK_ok cUnit_ok)) (bR_ok bNil_ok)) (T := fun (x : (List UInt8) × Unit) (g : Unit × (List Int) × Unit) => Tstrings_Builder_WriteString_V2 x.1 g.1 g.2.1) (fun _ _ => rfl) runstrings_Builder_WriteString_V2
/-- (*emulator/save.writer).nums -/
structure Ssave_writer_nums_0 where
  t1 : Int
  t9 : Int
  t10 : Int
  b2 : (List Int)
noncomputable def Wsave_writer_nums_0 (q : Option Nat) (kk : Cpu) (s : Ssave_writer_nums_0) : Tree (Ssave_writer_nums_0 ⊕ (List Int)) :=
  .ite (decide (s.t10 < s.t9))
    (.ite (decide (0 ≤ s.t10))
      (.ite (decide (s.t10 < ((6 : Nat) : Int)))
        (.opt Int (kk.r[(s.t10).toNat]?) fun y193 =>
          .opt (List UInt8) (octet_Put q y193 s.t1) fun r194 =>
            .opt (Int × (List Int)) (strings_Builder_WriteString_V2 r194 () s.b2) fun r195 =>
              .leaf (.inl (Ssave_writer_nums_0.mk s.t1 s.t9 (IntKind.wrap .i64 (s.t10 + (1 : Int))) r195.2)))
        .fail)
      .fail)
    (.leaf (.inr s.b2))
noncomputable def Lsave_writer_nums_0 (q : Option Nat) (kk : Cpu) (s : Ssave_writer_nums_0) : Option (List Int) := limQ q (fun s => (Wsave_writer_nums_0 q kk s).run) s
theorem leLsave_writer_nums_0 (k : Nat) (kk : Cpu) (s : Ssave_writer_nums_0) : Le (Lsave_writer_nums_0 (some k) kk s) (Lsave_writer_nums_0 none kk s) := limQ_le (fun s => (TLe.ite (TLe.ite (TLe.ite (TLe.opt Le.rfl fun _ => (TLe.opt (leoctet_Put k _ _) fun _ => TLe.rfl)) TLe.rfl) TLe.rfl) TLe.rfl)) s
noncomputable def Tsave_writer_nums (q : Option Nat) (x1 : Int) (g0 : Unit) (g1 : Cpu) (g2 : (List Int)) : Tree (List Int) :=
  .opt (List Int) (Lsave_writer_nums_0 q g1 (Ssave_writer_nums_0.mk x1 ((6 : Nat) : Int) (0 : Int) g2)) fun l196 =>
    .leaf (l196)
noncomputable def save_writer_nums (q : Option Nat) (x1 : Int) (g0 : Unit) (g1 : Cpu) (g2 : (List Int)) : Option (List Int) := (Tsave_writer_nums q x1 g0 g1 g2).run
theorem lesave_writer_nums (k : Nat) (x1 : Int) (g0 : Unit) (g1 : Cpu) (g2 : (List Int)) : Le (save_writer_nums (some k) x1 g0 g1 g2) (save_writer_nums none x1 g0 g1 g2) := (TLe.opt (leLsave_writer_nums_0 k _ _) fun _ => TLe.rfl)
noncomputable def Asave_writer_nums : Arg U (Int × Unit) := aP 0 0 (aO (cInt .i64) (aKF (.asl 1 0 3 6) (aNil)))
noncomputable def Gsave_writer_nums : Bls U (Unit × Cpu × (List Int) × Unit) := bT (some 109) (cK (.ptr 0 0) (cK (.row 2 0) (cUnit))) (bC cCpu (bR 5 (bNil)))
noncomputable def Rsave_writer_nums (_x : Int × Unit) (g : Unit × Cpu × (List Int) × Unit) (r : (List Int)) : List (V U) × List (Blk U) := ([], [.cells ((cK (.ptr 0 0) (cK (.row 2 1) (cUnit)) : Cdc U (Unit)).enc (())) (some 109), .cells ((cCpu : Cdc U Cpu).enc g.2.1) none, .row 5 1 r])
noncomputable def Ssave_writer_nums : List (V U) → List (Blk U) → Option (FnOut U) := mkSpecG Asave_writer_nums Gsave_writer_nums (fun x g => save_writer_nums none x.1 g.1 g.2.1 g.2.2.1) Rsave_writer_nums
noncomputable def Psave_writer_nums_0 (x : (Unit) × (Int × Unit) × (Unit) × (Int × Unit) × (Int × Unit) × Unit) (g : (Unit) × (Cpu × Unit) × (List Int) × Unit) : Cpu × Ssave_writer_nums_0 := (g.2.1.1, Ssave_writer_nums_0.mk x.2.1.1 x.2.2.2.1.1 x.2.2.2.2.1.1 g.2.2.1)
noncomputable def tAsave_writer_nums_0 : Tms U ((Unit) × (Int × Unit) × (Unit) × (Int × Unit) × (Int × Unit) × Unit) := tO 0 (cK (.ptr 0 0) (cUnit)) (tO 1 (cPair (cInt .i64) (cUnit)) (tO 8 (cK (.asl 1 0 3 6) (cUnit)) (tO 9 (cPair (cInt .i64) (cUnit)) (tO 10 (cPair (cInt .i64) (cUnit)) (tNil)))))
noncomputable def tBsave_writer_nums_0 : Bls U ((Unit) × (Cpu × Unit) × (List Int) × Unit) := bT (some 109) (cK (.ptr 0 0) (cK (.row 2 1) (cUnit))) (bC (cPair cCpu (cUnit)) (bRv 5 1 (bNil)))
noncomputable def eSsave_writer_nums_0 (kk : Cpu) (s : Ssave_writer_nums_0) : St U := { tm := [(0, .v (vO (cK (.ptr 0 0) (cUnit)) (()))), (1, .v (vO (cPair (cInt .i64) (cUnit)) (s.t1, ()))), (8, .v (vO (cK (.asl 1 0 3 6) (cUnit)) (()))), (9, .v (vO (cPair (cInt .i64) (cUnit)) (s.t9, ()))), (10, .v (vO (cPair (cInt .i64) (cUnit)) (s.t10, ())))], hp := [.cells ((cK (.ptr 0 0) (cK (.row 2 1) (cUnit)) : Cdc U (Unit)).enc (())) (some 109), .cells ((cPair cCpu (cUnit) : Cdc U (Cpu × Unit)).enc (kk, ())) none, .row 5 1 s.b2] }
noncomputable def xSsave_writer_nums_0 (kk : Cpu) (r : (List Int)) : Ex × St U := (.exit 0, { tm := [], hp := [.cells ((cK (.ptr 0 0) (cK (.row 2 1) (cUnit)) : Cdc U (Unit)).enc (())) (some 109), .cells ((cPair cCpu (cUnit) : Cdc U (Cpu × Unit)).enc (kk, ())) none, .row 5 1 r] })
noncomputable def xTsave_writer_nums_0 (kk : Cpu) (r : (List Int)) : Tree (Ex × St U) := .leaf (xSsave_writer_nums_0 kk r)
noncomputable def hsave_writer_nums_0 : Hd := { keep := [0, 1, 8, 9, 10], xkeep := [], own := false, bump := true }
noncomputable def Esave_writer_nums : Env U := { P := Tryd.prog, cd := cd, fns := (addF 58 false (Sstrings_Builder_WriteString_V2) fns31), lps := (addL 0 hsave_writer_nums_0 (mkLoopK tAsave_writer_nums_0 tBsave_writer_nums_0 Psave_writer_nums_0 (Lsave_writer_nums_0 none) xTsave_writer_nums_0) noL), frz := fun _r => false, nt := 22, n0 := 3 }
noncomputable def Bsave_writer_nums_0 : Code := (loopAt (Tryd.f64.body.getD .skip) 0 0).getD .skip
theorem roundsave_writer_nums_0 (kk : Cpu) (s : Ssave_writer_nums_0) : round Esave_writer_nums hsave_writer_nums_0 Bsave_writer_nums_0 0 (eSsave_writer_nums_0 kk s) = (Wsave_writer_nums_0 none kk s).map (sumE (eSsave_writer_nums_0 kk) (xSsave_writer_nums_0 kk)) := by kernel_rfl
theorem lpsave_writer_nums_0 : LpOk Esave_writer_nums Bsave_writer_nums_0 0 := mkLoopK_ok (A := tAsave_writer_nums_0) (B := tBsave_writer_nums_0) (f := Psave_writer_nums_0) (L := Lsave_writer_nums_0 none) (tO_ok (cK_ok cUnit_ok) (tO_ok (cPair_ok (cInt_ok .i64) cUnit_ok) (tO_ok (cK_ok cUnit_ok) (tO_ok (cPair_ok (cInt_ok .i64) cUnit_ok) (tO_ok (cPair_ok (cInt_ok .i64) cUnit_ok) tNil_ok))))) (bT_ok (cK_ok (cK_ok cUnit_ok)) (bC_ok (cPair_ok cCpu_ok cUnit_ok) (bRv_ok bNil_ok))) (enc := eSsave_writer_nums_0) (out := xTsave_writer_nums_0) (outS := xSsave_writer_nums_0) (step := Wsave_writer_nums_0 none) (fun _ _ => rfl) (fun _ _ => by kernel_rfl) (by kernel_rfl) (fun _ _ => rfl) roundsave_writer_nums_0
theorem rnsave_writer_nums (x1 : Int) (g0 : Unit) (g1 : Cpu) (g2 : (List Int)) : execX false Esave_writer_nums Tryd.f64 (Asave_writer_nums.enc (x1, ())) (Gsave_writer_nums.enc (g0, g1, g2, ())) = (Tsave_writer_nums none x1 g0 g1 g2).map (Rsave_writer_nums (x1, ()) (g0, g1, g2, ())) := by kernel_rfl
theorem runsave_writer_nums : ∀ (x : Int × Unit) (g : Unit × Cpu × (List Int) × Unit), execX false Esave_writer_nums Tryd.f64 (Asave_writer_nums.enc x) (Gsave_writer_nums.enc g) = (Tsave_writer_nums none x.1 g.1 g.2.1 g.2.2.1).map (Rsave_writer_nums x g)
  | (x1, ()), (g0, g1, g2, ()) => rnsave_writer_nums x1 g0 g1 g2
theorem oksave_writer_nums : FnOk Tryd.prog cd 64 Ssave_writer_nums := mk_okG (E := Esave_writer_nums) (A := Asave_writer_nums) (B := Gsave_writer_nums) false cd_ok (addF_ok okstrings_Builder_WriteString_V2 fns31_ok) Tryd.func64 (by kernel_rfl) (loops_of (addL_ok lpsave_writer_nums_0 noL_ok)) (aP_ok (aO_ok (cInt_ok .i64) (aKF_ok (aNil_ok)))) (bT_ok (cK_ok (cK_ok cUnit_ok)) (bC_ok cCpu_ok (bR_ok bNil_ok))) (T := fun (x : Int × Unit) (g : Unit × Cpu × (List Int) × Unit) => Tsave_writer_nums none x.1 g.1 g.2.1 g.2.2.1) (fun _ _ => rfl) runsave_writer_nums
theorem kpsave_writer_nums : Keeps Ssave_writer_nums [1] := mkSpecG_keeps (bT_ok (cK_ok (cK_ok cUnit_ok)) (bC_ok cCpu_ok (bR_ok bNil_ok))) (fun x g y => by kernel_rfl)
/-- (*emulator/save.writer).nums -/
structure Ssave_writer_nums_V2_0 where
  t1 : Int
  t9 : Int
  t10 : Int
  b2 : (List Int)
noncomputable def Wsave_writer_nums_V2_0 (q : Option Nat) (kk : (List Int)) (s : Ssave_writer_nums_V2_0) : Tree (Ssave_writer_nums_V2_0 ⊕ (List Int)) :=
  .ite (decide (s.t10 < s.t9))
    (.ite (decide (0 ≤ s.t10))
      (.ite (decide (s.t10 < (kk.length : Int)))
        (.opt Int (kk[(s.t10).toNat]?) fun y203 =>
          .opt (List UInt8) (octet_Put q y203 s.t1) fun r204 =>
            .opt (Int × (List Int)) (strings_Builder_WriteString_V2 r204 () s.b2) fun r205 =>
              .leaf (.inl (Ssave_writer_nums_V2_0.mk s.t1 s.t9 (IntKind.wrap .i64 (s.t10 + (1 : Int))) r205.2)))
        .fail)
      .fail)
    (.leaf (.inr s.b2))
noncomputable def Lsave_writer_nums_V2_0 (q : Option Nat) (kk : (List Int)) (s : Ssave_writer_nums_V2_0) : Option (List Int) := limQ q (fun s => (Wsave_writer_nums_V2_0 q kk s).run) s
theorem leLsave_writer_nums_V2_0 (k : Nat) (kk : (List Int)) (s : Ssave_writer_nums_V2_0) : Le (Lsave_writer_nums_V2_0 (some k) kk s) (Lsave_writer_nums_V2_0 none kk s) := limQ_le (fun s => (TLe.ite (TLe.ite (TLe.ite (TLe.opt Le.rfl fun _ => (TLe.opt (leoctet_Put k _ _) fun _ => TLe.rfl)) TLe.rfl) TLe.rfl) TLe.rfl)) s
noncomputable def Tsave_writer_nums_V2 (q : Option Nat) (x1 : Int) (g0 : Unit) (g1 : (List Int)) (g2 : (List Int)) : Tree ((List Int) × (List Int)) :=
  .opt (List Int) (Lsave_writer_nums_V2_0 q g1 (Ssave_writer_nums_V2_0.mk x1 (g1.length : Int) (0 : Int) g2)) fun l206 =>
    .leaf ((g1, l206))
noncomputable def save_writer_nums_V2 (q : Option Nat) (x1 : Int) (g0 : Unit) (g1 : (List Int)) (g2 : (List Int)) : Option ((List Int) × (List Int)) := (Tsave_writer_nums_V2 q x1 g0 g1 g2).run
theorem lesave_writer_nums_V2 (k : Nat) (x1 : Int) (g0 : Unit) (g1 : (List Int)) (g2 : (List Int)) : Le (save_writer_nums_V2 (some k) x1 g0 g1 g2) (save_writer_nums_V2 none x1 g0 g1 g2) := (TLe.opt (leLsave_writer_nums_V2_0 k _ _) fun _ => TLe.rfl)
noncomputable def Asave_writer_nums_V2 : Arg U (Int × Unit) := aP 0 0 (aO (cInt .i64) (aR 1 (aNil)))
noncomputable def Gsave_writer_nums_V2 : Bls U (Unit × (List Int) × (List Int) × Unit) := bT (some 109) (cK (.ptr 0 0) (cK (.row 2 0) (cUnit))) (bR 3 (bR 5 (bNil)))
noncomputable def Rsave_writer_nums_V2 (_x : Int × Unit) (_g : Unit × (List Int) × (List Int) × Unit) (r : ((List Int) × (List Int))) : List (V U) × List (Blk U) := ([], [.cells ((cK (.ptr 0 0) (cK (.row 2 1) (cUnit)) : Cdc U (Unit)).enc (())) (some 109), .row 3 1 r.1, .row 5 1 r.2])
noncomputable def Ssave_writer_nums_V2 : List (V U) → List (Blk U) → Option (FnOut U) := mkSpecG Asave_writer_nums_V2 Gsave_writer_nums_V2 (fun x g => save_writer_nums_V2 none x.1 g.1 g.2.1 g.2.2.1) Rsave_writer_nums_V2
noncomputable def Psave_writer_nums_V2_0 (x : (Unit) × (Int × Unit) × (Unit) × (Int × Unit) × (Int × Unit) × Unit) (g : (Unit) × (List Int) × (List Int) × Unit) : (List Int) × Ssave_writer_nums_V2_0 := (g.2.1, Ssave_writer_nums_V2_0.mk x.2.1.1 x.2.2.2.1.1 x.2.2.2.2.1.1 g.2.2.1)
noncomputable def tAsave_writer_nums_V2_0 : Tms U ((Unit) × (Int × Unit) × (Unit) × (Int × Unit) × (Int × Unit) × Unit) := tO 0 (cK (.ptr 0 0) (cUnit)) (tO 1 (cPair (cInt .i64) (cUnit)) (tO 8 (cK (.row 1 1) (cUnit)) (tO 9 (cPair (cInt .i64) (cUnit)) (tO 10 (cPair (cInt .i64) (cUnit)) (tNil)))))
noncomputable def tBsave_writer_nums_V2_0 : Bls U ((Unit) × (List Int) × (List Int) × Unit) := bT (some 109) (cK (.ptr 0 0) (cK (.row 2 1) (cUnit))) (bRv 3 1 (bRv 5 1 (bNil)))
noncomputable def eSsave_writer_nums_V2_0 (kk : (List Int)) (s : Ssave_writer_nums_V2_0) : St U := { tm := [(0, .v (vO (cK (.ptr 0 0) (cUnit)) (()))), (1, .v (vO (cPair (cInt .i64) (cUnit)) (s.t1, ()))), (8, .v (vO (cK (.row 1 1) (cUnit)) (()))), (9, .v (vO (cPair (cInt .i64) (cUnit)) (s.t9, ()))), (10, .v (vO (cPair (cInt .i64) (cUnit)) (s.t10, ())))], hp := [.cells ((cK (.ptr 0 0) (cK (.row 2 1) (cUnit)) : Cdc U (Unit)).enc (())) (some 109), .row 3 1 kk, .row 5 1 s.b2] }
noncomputable def xSsave_writer_nums_V2_0 (kk : (List Int)) (r : (List Int)) : Ex × St U := (.exit 0, { tm := [], hp := [.cells ((cK (.ptr 0 0) (cK (.row 2 1) (cUnit)) : Cdc U (Unit)).enc (())) (some 109), .row 3 1 kk, .row 5 1 r] })
noncomputable def xTsave_writer_nums_V2_0 (kk : (List Int)) (r : (List Int)) : Tree (Ex × St U) := .leaf (xSsave_writer_nums_V2_0 kk r)
noncomputable def hsave_writer_nums_V2_0 : Hd := { keep := [0, 1, 8, 9, 10], xkeep := [], own := false, bump := true }
noncomputable def Esave_writer_nums_V2 : Env U := { P := Tryd.prog, cd := cd, fns := (addF 58 false (Sstrings_Builder_WriteString_V2) fns31), lps := (addL 0 hsave_writer_nums_V2_0 (mkLoopK tAsave_writer_nums_V2_0 tBsave_writer_nums_V2_0 Psave_writer_nums_V2_0 (Lsave_writer_nums_V2_0 none) xTsave_writer_nums_V2_0) noL), frz := fun _r => false, nt := 22, n0 := 3 }
noncomputable def Bsave_writer_nums_V2_0 : Code := (loopAt (Tryd.f64.body.getD .skip) 0 0).getD .skip
theorem roundsave_writer_nums_V2_0 (kk : (List Int)) (s : Ssave_writer_nums_V2_0) : round Esave_writer_nums_V2 hsave_writer_nums_V2_0 Bsave_writer_nums_V2_0 0 (eSsave_writer_nums_V2_0 kk s) = (Wsave_writer_nums_V2_0 none kk s).map (sumE (eSsave_writer_nums_V2_0 kk) (xSsave_writer_nums_V2_0 kk)) := by kernel_rfl
theorem lpsave_writer_nums_V2_0 : LpOk Esave_writer_nums_V2 Bsave_writer_nums_V2_0 0 := mkLoopK_ok (A := tAsave_writer_nums_V2_0) (B := tBsave_writer_nums_V2_0) (f := Psave_writer_nums_V2_0) (L := Lsave_writer_nums_V2_0 none) (tO_ok (cK_ok cUnit_ok) (tO_ok (cPair_ok (cInt_ok .i64) cUnit_ok) (tO_ok (cK_ok cUnit_ok) (tO_ok (cPair_ok (cInt_ok .i64) cUnit_ok) (tO_ok (cPair_ok (cInt_ok .i64) cUnit_ok) tNil_ok))))) (bT_ok (cK_ok (cK_ok cUnit_ok)) (bRv_ok (bRv_ok bNil_ok))) (enc := eSsave_writer_nums_V2_0) (out := xTsave_writer_nums_V2_0) (outS := xSsave_writer_nums_V2_0) (step := Wsave_writer_nums_V2_0 none) (fun _ _ => rfl) (fun _ _ => by kernel_rfl) (by kernel_rfl) (fun _ _ => rfl) roundsave_writer_nums_V2_0
theorem rnsave_writer_nums_V2 (x1 : Int) (g0 : Unit) (g1 : (List Int)) (g2 : (List Int)) : execX false Esave_writer_nums_V2 Tryd.f64 (Asave_writer_nums_V2.enc (x1, ())) (Gsave_writer_nums_V2.enc (g0, g1, g2, ())) = (Tsave_writer_nums_V2 none x1 g0 g1 g2).map (Rsave_writer_nums_V2 (x1, ()) (g0, g1, g2, ())) := by kernel_rfl
theorem runsave_writer_nums_V2 : ∀ (x : Int × Unit) (g : Unit × (List Int) × (List Int) × Unit), execX false Esave_writer_nums_V2 Tryd.f64 (Asave_writer_nums_V2.enc x) (Gsave_writer_nums_V2.enc g) = (Tsave_writer_nums_V2 none x.1 g.1 g.2.1 g.2.2.1).map (Rsave_writer_nums_V2 x g)
  | (x1, ()), (g0, g1, g2, ()) => rnsave_writer_nums_V2 x1 g0 g1 g2
theorem oksave_writer_nums_V2 : FnOk Tryd.prog cd 64 Ssave_writer_nums_V2 := mk_okG (E := Esave_writer_nums_V2) (A := Asave_writer_nums_V2) (B := Gsave_writer_nums_V2) false cd_ok (addF_ok okstrings_Builder_WriteString_V2 fns31_ok) Tryd.func64 (by kernel_rfl) (loops_of (addL_ok lpsave_writer_nums_V2_0 noL_ok)) (aP_ok (aO_ok (cInt_ok .i64) (aR_ok (aNil_ok)))) (bT_ok (cK_ok (cK_ok cUnit_ok)) (bR_ok (bR_ok bNil_ok))) (T := fun (x : Int × Unit) (g : Unit × (List Int) × (List Int) × Unit) => Tsave_writer_nums_V2 none x.1 g.1 g.2.1 g.2.2.1) (fun _ _ => rfl) runsave_writer_nums_V2
/-- (*emulator/save.writer).cpu -/
noncomputable def Tsave_writer_cpu (q : Option Nat) (x1 : Cpu) (g0 : Unit) (g1 : (List Int)) : Tree (List Int) :=
  .opt (List Int) (save_writer_nums q (2 : Int) () x1 g1) fun r207 =>
    .ite (decide (0 ≤ (0 : Int)))
      (.ite (decide ((0 : Int) < (2 : Int)))
        (.opt Int (x1.sP[((0 : Int)).toNat * 1]?) fun y208 =>
          .ite (decide (0 ≤ (1 : Int)))
            (.ite (decide ((1 : Int) < (2 : Int)))
              (.opt Int (x1.sP[((1 : Int)).toNat * 1]?) fun y209 =>
                .opt ((List Int) × (List Int)) (save_writer_nums_V2 q (2 : Int) () ([y208, y209, x1.pC, x1.pSW]) r207) fun r210 =>
                  .leaf (r210.2))
              .fail)
            .fail)
        .fail)
      .fail
noncomputable def save_writer_cpu (q : Option Nat) (x1 : Cpu) (g0 : Unit) (g1 : (List Int)) : Option (List Int) := (Tsave_writer_cpu q x1 g0 g1).run
theorem lesave_writer_cpu (k : Nat) (x1 : Cpu) (g0 : Unit) (g1 : (List Int)) : Le (save_writer_cpu (some k) x1 g0 g1) (save_writer_cpu none x1 g0 g1) := (TLe.opt (lesave_writer_nums k _ _ _ _) fun _ => (TLe.ite (TLe.ite (TLe.opt Le.rfl fun _ => (TLe.ite (TLe.ite (TLe.opt Le.rfl fun _ => (TLe.opt (lesave_writer_nums_V2 k _ _ _ _) fun _ => TLe.rfl)) TLe.rfl) TLe.rfl)) TLe.rfl) TLe.rfl))
noncomputable def Asave_writer_cpu : Arg U (Cpu × Unit) := aP 0 0 (aA cCpu (aNil))
noncomputable def Gsave_writer_cpu : Bls U (Unit × (List Int) × Unit) := bT (some 109) (cK (.ptr 0 0) (cK (.row 1 0) (cUnit))) (bR 5 (bNil))
noncomputable def Rsave_writer_cpu (_x : Cpu × Unit) (_g : Unit × (List Int) × Unit) (r : (List Int)) : List (V U) × List (Blk U) := ([], [.cells ((cK (.ptr 0 0) (cK (.row 1 2) (cUnit)) : Cdc U (Unit)).enc (())) (some 109), .row 5 2 r])
noncomputable def Ssave_writer_cpu : List (V U) → List (Blk U) → Option (FnOut U) := mkSpecG Asave_writer_cpu Gsave_writer_cpu (fun x g => save_writer_cpu none x.1 g.1 g.2.1) Rsave_writer_cpu
noncomputable def Esave_writer_cpu : Env U := { P := Tryd.prog, cd := cd, fns := (addF 64 false (orSpec (Ssave_writer_nums) (Ssave_writer_nums_V2)) fns31), lps := noL, frz := fun _r => false, nt := 21, n0 := 2 }
theorem rnsave_writer_cpu (x1 : Cpu) (g0 : Unit) (g1 : (List Int)) : execX false Esave_writer_cpu Tryd.f59 (Asave_writer_cpu.enc (x1, ())) (Gsave_writer_cpu.enc (g0, g1, ())) = (Tsave_writer_cpu none x1 g0 g1).map (Rsave_writer_cpu (x1, ()) (g0, g1, ())) := by kernel_rfl
theorem runsave_writer_cpu : ∀ (x : Cpu × Unit) (g : Unit × (List Int) × Unit), execX false Esave_writer_cpu Tryd.f59 (Asave_writer_cpu.enc x) (Gsave_writer_cpu.enc g) = (Tsave_writer_cpu none x.1 g.1 g.2.1).map (Rsave_writer_cpu x g)
  | (x1, ()), (g0, g1, ()) => rnsave_writer_cpu x1 g0 g1
theorem oksave_writer_cpu : FnOk Tryd.prog cd 59 Ssave_writer_cpu := mk_okG (E := Esave_writer_cpu) (A := Asave_writer_cpu) (B := Gsave_writer_cpu) false cd_ok (addF_ok (orSpec_ok oksave_writer_nums oksave_writer_nums_V2) fns31_ok) Tryd.func59 (by kernel_rfl) (noLoops_body (by kernel_rfl)) (aP_ok (aA_ok cCpu_ok (aNil_ok))) (bT_ok (cK_ok (cK_ok cUnit_ok)) (bR_ok bNil_ok)) (T := fun (x : Cpu × Unit) (g : Unit × (List Int) × Unit) => Tsave_writer_cpu none x.1 g.1 g.2.1) (fun _ _ => rfl) runsave_writer_cpu
/-- (*emulator/save.writer).word -/
noncomputable def Tsave_writer_word (q : Option Nat) (x1 : Int) (g0 : Unit) (g1 : (List Int)) : Tree (List Int) :=
  .opt ((List Int) × (List Int)) (save_writer_nums_V2 q (2 : Int) () ([x1]) g1) fun r215 =>
    .leaf (r215.2)
noncomputable def save_writer_word (q : Option Nat) (x1 : Int) (g0 : Unit) (g1 : (List Int)) : Option (List Int) := (Tsave_writer_word q x1 g0 g1).run
theorem lesave_writer_word (k : Nat) (x1 : Int) (g0 : Unit) (g1 : (List Int)) : Le (save_writer_word (some k) x1 g0 g1) (save_writer_word none x1 g0 g1) := (TLe.opt (lesave_writer_nums_V2 k _ _ _ _) fun _ => TLe.rfl)
noncomputable def Asave_writer_word : Arg U (Int × Unit) := aP 0 0 (aO (cInt .i64) (aNil))
noncomputable def Gsave_writer_word : Bls U (Unit × (List Int) × Unit) := bT (some 109) (cK (.ptr 0 0) (cK (.row 1 0) (cUnit))) (bR 5 (bNil))
noncomputable def Rsave_writer_word (_x : Int × Unit) (_g : Unit × (List Int) × Unit) (r : (List Int)) : List (V U) × List (Blk U) := ([], [.cells ((cK (.ptr 0 0) (cK (.row 1 1) (cUnit)) : Cdc U (Unit)).enc (())) (some 109), .row 5 1 r])
noncomputable def Ssave_writer_word : List (V U) → List (Blk U) → Option (FnOut U) := mkSpecG Asave_writer_word Gsave_writer_word (fun x g => save_writer_word none x.1 g.1 g.2.1) Rsave_writer_word
noncomputable def Esave_writer_word : Env U := { P := Tryd.prog, cd := cd, fns := (addF 64 false (Ssave_writer_nums_V2) fns31), lps := noL, frz := fun _r => false, nt := 8, n0 := 2 }
theorem rnsave_writer_word (x1 : Int) (g0 : Unit) (g1 : (List Int)) : execX false Esave_writer_word Tryd.f61 (Asave_writer_word.enc (x1, ())) (Gsave_writer_word.enc (g0, g1, ())) = (Tsave_writer_word none x1 g0 g1).map (Rsave_writer_word (x1, ()) (g0, g1, ())) := by kernel_rfl
theorem runsave_writer_word : ∀ (x : Int × Unit) (g : Unit × (List Int) × Unit), execX false Esave_writer_word Tryd.f61 (Asave_writer_word.enc x) (Gsave_writer_word.enc g) = (Tsave_writer_word none x.1 g.1 g.2.1).map (Rsave_writer_word x g)
  | (x1, ()), (g0, g1, ()) => rnsave_writer_word x1 g0 g1
theorem oksave_writer_word : FnOk Tryd.prog cd 61 Ssave_writer_word := mk_okG (E := Esave_writer_word) (A := Asave_writer_word) (B := Gsave_writer_word) false cd_ok (addF_ok oksave_writer_nums_V2 fns31_ok) Tryd.func61 (by kernel_rfl) (noLoops_body (by kernel_rfl)) (aP_ok (aO_ok (cInt_ok .i64) (aNil_ok))) (bT_ok (cK_ok (cK_ok cUnit_ok)) (bR_ok bNil_ok)) (T := fun (x : Int × Unit) (g : Unit × (List Int) × Unit) => Tsave_writer_word none x.1 g.1 g.2.1) (fun _ _ => rfl) runsave_writer_word
/-- emulator/save.list[int] -/
structure Ssave_list_int_0 where
  t13 : (List Int)
  t14 : Int
  t15 : Int
  b1 : (List Int)
noncomputable def Wsave_list_int_0 (q : Option Nat) (s : Ssave_list_int_0) : Tree (Ssave_list_int_0 ⊕ (List Int)) :=
  .ite (decide (s.t15 < s.t14))
    (.ite (decide (0 ≤ s.t15))
      (.opt Int (s.t13[(s.t15).toNat]?) fun y217 =>
        .opt (List Int) (save_writer_word q y217 () s.b1) fun r218 =>
          .leaf (.inl (Ssave_list_int_0.mk s.t13 s.t14 (IntKind.wrap .i64 (s.t15 + (1 : Int))) r218)))
      .fail)
    (.leaf (.inr s.b1))
noncomputable def Lsave_list_int_0 (q : Option Nat) (s : Ssave_list_int_0) : Option (List Int) := limQ q (fun s => (Wsave_list_int_0 q s).run) s
theorem leLsave_list_int_0 (k : Nat) (s : Ssave_list_int_0) : Le (Lsave_list_int_0 (some k) s) (Lsave_list_int_0 none s) := limQ_le (fun s => (TLe.ite (TLe.ite (TLe.opt Le.rfl fun _ => (TLe.opt (lesave_writer_word k _ _ _) fun _ => TLe.rfl)) TLe.rfl) TLe.rfl)) s
noncomputable def Tsave_list_int (q : Option Nat) (x1 : (List Int)) (g0 : Unit) (g1 : (List Int)) : Tree (List Int) :=
  .opt ((List Int) × (List Int)) (save_writer_nums_V2 q (2 : Int) () ([(x1.length : Int)]) g1) fun r216 =>
    .opt (List Int) (Lsave_list_int_0 q (Ssave_list_int_0.mk x1 (x1.length : Int) (0 : Int) r216.2)) fun l219 =>
      .leaf (l219)
noncomputable def save_list_int (q : Option Nat) (x1 : (List Int)) (g0 : Unit) (g1 : (List Int)) : Option (List Int) := (Tsave_list_int q x1 g0 g1).run
theorem lesave_list_int (k : Nat) (x1 : (List Int)) (g0 : Unit) (g1 : (List Int)) : Le (save_list_int (some k) x1 g0 g1) (save_list_int none x1 g0 g1) := (TLe.opt (lesave_writer_nums_V2 k _ _ _ _) fun _ => (TLe.opt (leLsave_list_int_0 k _) fun _ => TLe.rfl))
noncomputable def Asave_list_int : Arg U ((List Int) × Unit) := aP 0 0 (aO (cSl 3) (aKF (.fn 61 [(.ptr 0 0)] []) (aNil)))
noncomputable def Gsave_list_int : Bls U (Unit × (List Int) × Unit) := bT (some 109) (cK (.ptr 0 0) (cK (.row 1 0) (cUnit))) (bR 5 (bNil))
noncomputable def Rsave_list_int (_x : (List Int) × Unit) (_g : Unit × (List Int) × Unit) (r : (List Int)) : List (V U) × List (Blk U) := ([], [.cells ((cK (.ptr 0 0) (cK (.row 1 1) (cUnit)) : Cdc U (Unit)).enc (())) (some 109), .row 5 1 r])
noncomputable def Ssave_list_int : List (V U) → List (Blk U) → Option (FnOut U) := mkSpecG Asave_list_int Gsave_list_int (fun x g => save_list_int none x.1 g.1 g.2.1) Rsave_list_int
noncomputable def Psave_list_int_0 (x : (Unit) × ((List Int) × Unit) × (Int × Unit) × (Int × Unit) × Unit) (g : (Unit) × (List Int) × Unit) : Ssave_list_int_0 := Ssave_list_int_0.mk x.2.1.1 x.2.2.1.1 x.2.2.2.1.1 g.2.1
noncomputable def tAsave_list_int_0 : Tms U ((Unit) × ((List Int) × Unit) × (Int × Unit) × (Int × Unit) × Unit) := tO 2 (cK2 (.fn 61 [(.ptr 0 0)] []) (cUnit)) (tO 13 (cPair (cSl 3) (cUnit)) (tO 14 (cPair (cInt .i64) (cUnit)) (tO 15 (cPair (cInt .i64) (cUnit)) (tNil))))
noncomputable def tBsave_list_int_0 : Bls U ((Unit) × (List Int) × Unit) := bT (some 109) (cK (.ptr 0 0) (cK (.row 1 1) (cUnit))) (bRv 5 1 (bNil))
noncomputable def eSsave_list_int_0 (s : Ssave_list_int_0) : St U := { tm := [(2, .v (vO (cK2 (.fn 61 [(.ptr 0 0)] []) (cUnit)) (()))), (13, .v (vO (cPair (cSl 3) (cUnit)) (s.t13, ()))), (14, .v (vO (cPair (cInt .i64) (cUnit)) (s.t14, ()))), (15, .v (vO (cPair (cInt .i64) (cUnit)) (s.t15, ())))], hp := [.cells ((cK (.ptr 0 0) (cK (.row 1 1) (cUnit)) : Cdc U (Unit)).enc (())) (some 109), .row 5 1 s.b1] }
noncomputable def xSsave_list_int_0 (r : (List Int)) : Ex × St U := (.exit 0, { tm := [], hp := [.cells ((cK (.ptr 0 0) (cK (.row 1 1) (cUnit)) : Cdc U (Unit)).enc (())) (some 109), .row 5 1 r] })
noncomputable def xTsave_list_int_0 (r : (List Int)) : Tree (Ex × St U) := .leaf (xSsave_list_int_0 r)
noncomputable def hsave_list_int_0 : Hd := { keep := [2, 13, 14, 15], xkeep := [], own := false }
noncomputable def Esave_list_int : Env U := { P := Tryd.prog, cd := cd, fns := (addF 64 false (Ssave_writer_nums_V2) (addF 61 false (Ssave_writer_word) fns31)), lps := (addL 0 hsave_list_int_0 (mkLoop tAsave_list_int_0 tBsave_list_int_0 Psave_list_int_0 (Lsave_list_int_0 none) xTsave_list_int_0) noL), frz := fun _r => false, nt := 23, n0 := 2 }
noncomputable def Bsave_list_int_0 : Code := (loopAt (Tryd.f60.body.getD .skip) 0 0).getD .skip
theorem roundsave_list_int_0 (s : Ssave_list_int_0) : round Esave_list_int hsave_list_int_0 Bsave_list_int_0 0 (eSsave_list_int_0 s) = (Wsave_list_int_0 none s).map (sumE eSsave_list_int_0 xSsave_list_int_0) := by kernel_rfl
theorem lpsave_list_int_0 : LpOk Esave_list_int Bsave_list_int_0 0 := mkLoop_ok (A := tAsave_list_int_0) (B := tBsave_list_int_0) (f := Psave_list_int_0) (L := Lsave_list_int_0 none) (tO_ok (cK2_ok cUnit_ok) (tO_ok (cPair_ok (cSl_ok 3) cUnit_ok) (tO_ok (cPair_ok (cInt_ok .i64) cUnit_ok) (tO_ok (cPair_ok (cInt_ok .i64) cUnit_ok) tNil_ok)))) (bT_ok (cK_ok (cK_ok cUnit_ok)) (bRv_ok bNil_ok)) (enc := eSsave_list_int_0) (out := xTsave_list_int_0) (outS := xSsave_list_int_0) (step := Wsave_list_int_0 none) (fun _ => rfl) (fun _ _ => by kernel_rfl) (by kernel_rfl) (fun _ => rfl) roundsave_list_int_0
theorem rnsave_list_int (x1 : (List Int)) (g0 : Unit) (g1 : (List Int)) : execX false Esave_list_int Tryd.f60 (Asave_list_int.enc (x1, ())) (Gsave_list_int.enc (g0, g1, ())) = (Tsave_list_int none x1 g0 g1).map (Rsave_list_int (x1, ()) (g0, g1, ())) := by kernel_rfl
theorem runsave_list_int : ∀ (x : (List Int) × Unit) (g : Unit × (List Int) × Unit), execX false Esave_list_int Tryd.f60 (Asave_list_int.enc x) (Gsave_list_int.enc g) = (Tsave_list_int none x.1 g.1 g.2.1).map (Rsave_list_int x g)
  | (x1, ()), (g0, g1, ()) => rnsave_list_int x1 g0 g1
theorem oksave_list_int : FnOk Tryd.prog cd 60 Ssave_list_int := mk_okG (E := Esave_list_int) (A := Asave_list_int) (B := Gsave_list_int) false cd_ok (addF_ok oksave_writer_nums_V2 (addF_ok oksave_writer_word fns31_ok)) Tryd.func60 (by kernel_rfl) (loops_of (addL_ok lpsave_list_int_0 noL_ok)) (aP_ok (aO_ok (cSl_ok 3) (aKF_ok (aNil_ok)))) (bT_ok (cK_ok (cK_ok cUnit_ok)) (bR_ok bNil_ok)) (T := fun (x : (List Int) × Unit) (g : Unit × (List Int) × Unit) => Tsave_list_int none x.1 g.1 g.2.1) (fun _ _ => rfl) runsave_list_int
/-- (*emulator/save.writer).truths -/
structure Ssave_writer_truths_0 where
  t8 : Int
  t9 : Int
  b2 : (List Int)
noncomputable def Wsave_writer_truths_0 (q : Option Nat) (kk : (List Bool)) (s : Ssave_writer_truths_0) : Tree (Ssave_writer_truths_0 ⊕ (List Int)) :=
  .ite (decide (s.t9 < s.t8))
    (.ite (decide (0 ≤ s.t9))
      (.ite (decide (s.t9 < (kk.length : Int)))
        (.opt Bool (kk[(s.t9).toNat]?) fun y227 =>
          .ite (y227)
            (.opt ((List Int) × (List Int)) (save_writer_nums_V2 q (1 : Int) () ([(1 : Int)]) s.b2) fun r228 =>
              .leaf (.inl (Ssave_writer_truths_0.mk s.t8 (IntKind.wrap .i64 (s.t9 + (1 : Int))) r228.2)))
            (.opt ((List Int) × (List Int)) (save_writer_nums_V2 q (1 : Int) () ([(0 : Int)]) s.b2) fun r229 =>
              .leaf (.inl (Ssave_writer_truths_0.mk s.t8 (IntKind.wrap .i64 (s.t9 + (1 : Int))) r229.2))))
        .fail)
      .fail)
    (.leaf (.inr s.b2))
noncomputable def Lsave_writer_truths_0 (q : Option Nat) (kk : (List Bool)) (s : Ssave_writer_truths_0) : Option (List Int) := limQ q (fun s => (Wsave_writer_truths_0 q kk s).run) s
theorem leLsave_writer_truths_0 (k : Nat) (kk : (List Bool)) (s : Ssave_writer_truths_0) : Le (Lsave_writer_truths_0 (some k) kk s) (Lsave_writer_truths_0 none kk s) := limQ_le (fun s => (TLe.ite (TLe.ite (TLe.ite (TLe.opt Le.rfl fun _ => (TLe.ite (TLe.opt (lesave_writer_nums_V2 k _ _ _ _) fun _ => TLe.rfl) (TLe.opt (lesave_writer_nums_V2 k _ _ _ _) fun _ => TLe.rfl))) TLe.rfl) TLe.rfl) TLe.rfl)) s
noncomputable def Tsave_writer_truths (q : Option Nat) (g0 : Unit) (g1 : (List Bool)) (g2 : (List Int)) : Tree ((List Bool) × (List Int)) :=
  .opt (List Int) (Lsave_writer_truths_0 q g1 (Ssave_writer_truths_0.mk (g1.length : Int) (0 : Int) g2)) fun l230 =>
    .leaf ((g1, l230))
noncomputable def save_writer_truths (q : Option Nat) (g0 : Unit) (g1 : (List Bool)) (g2 : (List Int)) : Option ((List Bool) × (List Int)) := (Tsave_writer_truths q g0 g1 g2).run
theorem lesave_writer_truths (k : Nat) (g0 : Unit) (g1 : (List Bool)) (g2 : (List Int)) : Le (save_writer_truths (some k) g0 g1 g2) (save_writer_truths none g0 g1 g2) := (TLe.opt (leLsave_writer_truths_0 k _ _) fun _ => TLe.rfl)
noncomputable def Asave_writer_truths : Arg U (Unit) := aP 0 0 (aR 1 (aNil))
noncomputable def Gsave_writer_truths : Bls U (Unit × (List Bool) × (List Int) × Unit) := bT (some 109) (cK (.ptr 0 0) (cK (.row 2 0) (cUnit))) (bR 4 (bR 5 (bNil)))
noncomputable def Rsave_writer_truths (_x : Unit) (_g : Unit × (List Bool) × (List Int) × Unit) (r : ((List Bool) × (List Int))) : List (V U) × List (Blk U) := ([], [.cells ((cK (.ptr 0 0) (cK (.row 2 1) (cUnit)) : Cdc U (Unit)).enc (())) (some 109), .row 4 1 r.1, .row 5 1 r.2])
noncomputable def Ssave_writer_truths : List (V U) → List (Blk U) → Option (FnOut U) := mkSpecG Asave_writer_truths Gsave_writer_truths (fun x g => save_writer_truths none g.1 g.2.1 g.2.2.1) Rsave_writer_truths
noncomputable def Psave_writer_truths_0 (x : (Unit) × (Unit) × (Int × Unit) × (Int × Unit) × Unit) (g : (Unit) × (List Bool) × (List Int) × Unit) : (List Bool) × Ssave_writer_truths_0 := (g.2.1, Ssave_writer_truths_0.mk x.2.2.1.1 x.2.2.2.1.1 g.2.2.1)
noncomputable def tAsave_writer_truths_0 : Tms U ((Unit) × (Unit) × (Int × Unit) × (Int × Unit) × Unit) := tO 0 (cK (.ptr 0 0) (cUnit)) (tO 7 (cK (.row 1 1) (cUnit)) (tO 8 (cPair (cInt .i64) (cUnit)) (tO 9 (cPair (cInt .i64) (cUnit)) (tNil))))
noncomputable def tBsave_writer_truths_0 : Bls U ((Unit) × (List Bool) × (List Int) × Unit) := bT (some 109) (cK (.ptr 0 0) (cK (.row 2 1) (cUnit))) (bRv 4 1 (bRv 5 1 (bNil)))
noncomputable def eSsave_writer_truths_0 (kk : (List Bool)) (s : Ssave_writer_truths_0) : St U := { tm := [(0, .v (vO (cK (.ptr 0 0) (cUnit)) (()))), (7, .v (vO (cK (.row 1 1) (cUnit)) (()))), (8, .v (vO (cPair (cInt .i64) (cUnit)) (s.t8, ()))), (9, .v (vO (cPair (cInt .i64) (cUnit)) (s.t9, ())))], hp := [.cells ((cK (.ptr 0 0) (cK (.row 2 1) (cUnit)) : Cdc U (Unit)).enc (())) (some 109), .row 4 1 kk, .row 5 1 s.b2] }
noncomputable def xSsave_writer_truths_0 (kk : (List Bool)) (r : (List Int)) : Ex × St U := (.exit 0, { tm := [], hp := [.cells ((cK (.ptr 0 0) (cK (.row 2 1) (cUnit)) : Cdc U (Unit)).enc (())) (some 109), .row 4 1 kk, .row 5 1 r] })
noncomputable def xTsave_writer_truths_0 (kk : (List Bool)) (r : (List Int)) : Tree (Ex × St U) := .leaf (xSsave_writer_truths_0 kk r)
noncomputable def hsave_writer_truths_0 : Hd := { keep := [0, 7, 8, 9], xkeep := [], own := false, bump := true }
noncomputable def Esave_writer_truths : Env U := { P := Tryd.prog, cd := cd, fns := (addF 64 false (Ssave_writer_nums_V2) fns31), lps := (addL 0 hsave_writer_truths_0 (mkLoopK tAsave_writer_truths_0 tBsave_writer_truths_0 Psave_writer_truths_0 (Lsave_writer_truths_0 none) xTsave_writer_truths_0) noL), frz := fun _r => false, nt := 19, n0 := 3 }
noncomputable def Bsave_writer_truths_0 : Code := (loopAt (Tryd.f63.body.getD .skip) 0 0).getD .skip
theorem roundsave_writer_truths_0 (kk : (List Bool)) (s : Ssave_writer_truths_0) : round Esave_writer_truths hsave_writer_truths_0 Bsave_writer_truths_0 0 (eSsave_writer_truths_0 kk s) = (Wsave_writer_truths_0 none kk s).map (sumE (eSsave_writer_truths_0 kk) (xSsave_writer_truths_0 kk)) := by kernel_rfl
theorem lpsave_writer_truths_0 : LpOk Esave_writer_truths Bsave_writer_truths_0 0 := mkLoopK_ok (A := tAsave_writer_truths_0) (B := tBsave_writer_truths_0) (f := Psave_writer_truths_0) (L := Lsave_writer_truths_0 none) (tO_ok (cK_ok cUnit_ok) (tO_ok (cK_ok cUnit_ok) (tO_ok (cPair_ok (cInt_ok .i64) cUnit_ok) (tO_ok (cPair_ok (cInt_ok .i64) cUnit_ok) tNil_ok)))) (bT_ok (cK_ok (cK_ok cUnit_ok)) (bRv_ok (bRv_ok bNil_ok))) (enc := eSsave_writer_truths_0) (out := xTsave_writer_truths_0) (outS := xSsave_writer_truths_0) (step := Wsave_writer_truths_0 none) (fun _ _ => rfl) (fun _ _ => by kernel_rfl) (by kernel_rfl) (fun _ _ => rfl) roundsave_writer_truths_0
theorem rnsave_writer_truths (g0 : Unit) (g1 : (List Bool)) (g2 : (List Int)) : execX false Esave_writer_truths Tryd.f63 (Asave_writer_truths.enc ()) (Gsave_writer_truths.enc (g0, g1, g2, ())) = (Tsave_writer_truths none g0 g1 g2).map (Rsave_writer_truths () (g0, g1, g2, ())) := by kernel_rfl
theorem runsave_writer_truths : ∀ (x : Unit) (g : Unit × (List Bool) × (List Int) × Unit), execX false Esave_writer_truths Tryd.f63 (Asave_writer_truths.enc x) (Gsave_writer_truths.enc g) = (Tsave_writer_truths none g.1 g.2.1 g.2.2.1).map (Rsave_writer_truths x g)
  | (), (g0, g1, g2, ()) => rnsave_writer_truths g0 g1 g2
theorem oksave_writer_truths : FnOk Tryd.prog cd 63 Ssave_writer_truths := mk_okG (E := Esave_writer_truths) (A := Asave_writer_truths) (B := Gsave_writer_truths) false cd_ok (addF_ok oksave_writer_nums_V2 fns31_ok) Tryd.func63 (by kernel_rfl) (loops_of (addL_ok lpsave_writer_truths_0 noL_ok)) (aP_ok (aR_ok (aNil_ok))) (bT_ok (cK_ok (cK_ok cUnit_ok)) (bR_ok (bR_ok bNil_ok))) (T := fun (x : Unit) (g : Unit × (List Bool) × (List Int) × Unit) => Tsave_writer_truths none g.1 g.2.1 g.2.2.1) (fun _ _ => rfl) runsave_writer_truths
/-- (*emulator/save.writer).mmu -/
structure Ssave_writer_mmu_1 where
  t14_0 : (List Page)
  t15 : Int
  t18_0 : (List Page)
  t19 : Int
  b1 : (List Int)
  b2 : Mmu
noncomputable def Wsave_writer_mmu_1 (q : Option Nat) (s : Ssave_writer_mmu_1) : Tree (Ssave_writer_mmu_1 ⊕ ((List Page) × Int × (List Int) × Mmu)) :=
  .ite (decide (s.t19 < (8 : Int)))
    (.ite (decide (0 ≤ s.t19))
      (.ite (decide (s.t19 < (8 : Int)))
        (.opt Page (s.t18_0[(s.t19).toNat]?) fun y232 =>
          .opt ((List Int) × (List Int)) (save_writer_nums_V2 q (2 : Int) () ([y232.base]) s.b1) fun r233 =>
            .opt ((List Int) × (List Int)) (save_writer_nums_V2 q (1 : Int) () ([y232.length, y232.access]) r233.2) fun r234 =>
              .opt ((List Bool) × (List Int)) (save_writer_truths q () ([y232.written]) r234.2) fun r235 =>
                .leaf (.inl (Ssave_writer_mmu_1.mk s.t14_0 s.t15 s.t18_0 (IntKind.wrap .i64 (s.t19 + (1 : Int))) r235.2 s.b2)))
        .fail)
      .fail)
    (.leaf (.inr (s.t14_0, s.t15, s.b1, s.b2)))
noncomputable def Lsave_writer_mmu_1 (q : Option Nat) (s : Ssave_writer_mmu_1) : Option ((List Page) × Int × (List Int) × Mmu) := limQ q (fun s => (Wsave_writer_mmu_1 q s).run) s
theorem leLsave_writer_mmu_1 (k : Nat) (s : Ssave_writer_mmu_1) : Le (Lsave_writer_mmu_1 (some k) s) (Lsave_writer_mmu_1 none s) := limQ_le (fun s => (TLe.ite (TLe.ite (TLe.ite (TLe.opt Le.rfl fun _ => (TLe.opt (lesave_writer_nums_V2 k _ _ _ _) fun _ => (TLe.opt (lesave_writer_nums_V2 k _ _ _ _) fun _ => (TLe.opt (lesave_writer_truths k _ _ _) fun _ => TLe.rfl)))) TLe.rfl) TLe.rfl) TLe.rfl)) s
structure Ssave_writer_mmu_0 where
  t14_0 : (List Page)
  t15 : Int
  b1 : (List Int)
  b2 : Mmu
noncomputable def Wsave_writer_mmu_0 (q : Option Nat) (s : Ssave_writer_mmu_0) : Tree (Ssave_writer_mmu_0 ⊕ ((List Int) × Mmu)) :=
  .ite (decide (s.t15 < (2 : Int)))
    (.ite (decide (0 ≤ s.t15))
      (.ite (decide (s.t15 < (2 : Int)))
        (.ite (decide ((s.t15).toNat * 8 + 8 ≤ s.t14_0.length))
          (.opt ((List Page) × Int × (List Int) × Mmu) (Lsave_writer_mmu_1 q (Ssave_writer_mmu_1.mk s.t14_0 s.t15 ((s.t14_0.drop ((s.t15).toNat * 8)).take 8) (0 : Int) s.b1 s.b2)) fun l236 =>
            .leaf (.inl (Ssave_writer_mmu_0.mk l236.1 (IntKind.wrap .i64 (l236.2.1 + (1 : Int))) l236.2.2.1 l236.2.2.2)))
          .fail)
        .fail)
      .fail)
    (.leaf (.inr (s.b1, s.b2)))
noncomputable def Lsave_writer_mmu_0 (q : Option Nat) (s : Ssave_writer_mmu_0) : Option ((List Int) × Mmu) := limQ q (fun s => (Wsave_writer_mmu_0 q s).run) s
theorem leLsave_writer_mmu_0 (k : Nat) (s : Ssave_writer_mmu_0) : Le (Lsave_writer_mmu_0 (some k) s) (Lsave_writer_mmu_0 none s) := limQ_le (fun s => (TLe.ite (TLe.ite (TLe.ite (TLe.ite (TLe.opt (leLsave_writer_mmu_1 k _) fun _ => TLe.rfl) TLe.rfl) TLe.rfl) TLe.rfl) TLe.rfl)) s
noncomputable def Tsave_writer_mmu (q : Option Nat) (x1 : Mmu) (g0 : Unit) (g1 : (List Int)) : Tree (List Int) :=
  .opt ((List Bool) × (List Int)) (save_writer_truths q () ([x1.on]) g1) fun r231 =>
    .opt ((List Int) × Mmu) (Lsave_writer_mmu_0 q (Ssave_writer_mmu_0.mk x1.pages (0 : Int) r231.2 x1)) fun l237 =>
      .opt ((List Int) × (List Int)) (save_writer_nums_V2 q (1 : Int) () ([l237.2.status]) l237.1) fun r238 =>
        .opt ((List Int) × (List Int)) (save_writer_nums_V2 q (2 : Int) () ([l237.2.addr]) r238.2) fun r239 =>
          .leaf (r239.2)
noncomputable def save_writer_mmu (q : Option Nat) (x1 : Mmu) (g0 : Unit) (g1 : (List Int)) : Option (List Int) := (Tsave_writer_mmu q x1 g0 g1).run
theorem lesave_writer_mmu (k : Nat) (x1 : Mmu) (g0 : Unit) (g1 : (List Int)) : Le (save_writer_mmu (some k) x1 g0 g1) (save_writer_mmu none x1 g0 g1) := (TLe.opt (lesave_writer_truths k _ _ _) fun _ => (TLe.opt (leLsave_writer_mmu_0 k _) fun _ => (TLe.opt (lesave_writer_nums_V2 k _ _ _ _) fun _ => (TLe.opt (lesave_writer_nums_V2 k _ _ _ _) fun _ => TLe.rfl))))
noncomputable def Asave_writer_mmu : Arg U (Mmu × Unit) := aP 0 0 (aA cMmu (aNil))
noncomputable def Gsave_writer_mmu : Bls U (Unit × (List Int) × Unit) := bT (some 109) (cK (.ptr 0 0) (cK (.row 1 0) (cUnit))) (bR 5 (bNil))
noncomputable def Rsave_writer_mmu (_x : Mmu × Unit) (_g : Unit × (List Int) × Unit) (r : (List Int)) : List (V U) × List (Blk U) := ([], [.cells ((cK (.ptr 0 0) (cK (.row 1 3) (cUnit)) : Cdc U (Unit)).enc (())) (some 109), .row 5 3 r])
noncomputable def Ssave_writer_mmu : List (V U) → List (Blk U) → Option (FnOut U) := mkSpecG Asave_writer_mmu Gsave_writer_mmu (fun x g => save_writer_mmu none x.1 g.1 g.2.1) Rsave_writer_mmu
noncomputable def Psave_writer_mmu_0 (x : (Unit) × (Unit) × ((List Page) × Unit) × (Int × Unit) × Unit) (g : (Unit) × (List Int) × (Mmu × Unit) × Unit) : Ssave_writer_mmu_0 := Ssave_writer_mmu_0.mk x.2.2.1.1 x.2.2.2.1.1 g.2.1 g.2.2.1.1
noncomputable def tAsave_writer_mmu_0 : Tms U ((Unit) × (Unit) × ((List Page) × Unit) × (Int × Unit) × Unit) := tO 0 (cK (.ptr 0 0) (cUnit)) (tO 3 (cK (.ptr 2 0) (cUnit)) (tA 14 (cPair (cArr 28 16) (cUnit)) (tO 15 (cPair (cInt .i64) (cUnit)) (tNil))))
noncomputable def tBsave_writer_mmu_0 : Bls U ((Unit) × (List Int) × (Mmu × Unit) × Unit) := bT (some 109) (cK (.ptr 0 0) (cK (.row 1 1) (cUnit))) (bRv 5 1 (bC (cPair cMmu (cUnit)) (bNil)))
noncomputable def eSsave_writer_mmu_0 (s : Ssave_writer_mmu_0) : St U := { tm := [(0, .v (vO (cK (.ptr 0 0) (cUnit)) (()))), (3, .v (vO (cK (.ptr 2 0) (cUnit)) (()))), (14, .v (vA (cPair (cArr 28 16) (cUnit)) (s.t14_0, ()))), (15, .v (vO (cPair (cInt .i64) (cUnit)) (s.t15, ())))], hp := [.cells ((cK (.ptr 0 0) (cK (.row 1 1) (cUnit)) : Cdc U (Unit)).enc (())) (some 109), .row 5 1 s.b1, .cells ((cPair cMmu (cUnit) : Cdc U (Mmu × Unit)).enc (s.b2, ())) none] }
noncomputable def xSsave_writer_mmu_0 (r : ((List Int) × Mmu)) : Ex × St U := (.exit 0, { tm := [(0, .v (vO (cK (.ptr 0 0) (cUnit)) (()))), (3, .v (vO (cK (.ptr 2 0) (cUnit)) (())))], hp := [.cells ((cK (.ptr 0 0) (cK (.row 1 1) (cUnit)) : Cdc U (Unit)).enc (())) (some 109), .row 5 1 r.1, .cells ((cPair cMmu (cUnit) : Cdc U (Mmu × Unit)).enc (r.2, ())) none] })
noncomputable def xTsave_writer_mmu_0 (r : ((List Int) × Mmu)) : Tree (Ex × St U) := .leaf (xSsave_writer_mmu_0 r)
noncomputable def hsave_writer_mmu_0 : Hd := { keep := [0, 3, 14, 15], xkeep := [0, 3], own := false }
noncomputable def Psave_writer_mmu_1 (x : (Unit) × (Unit) × ((List Page) × Unit) × (Int × Unit) × ((List Page) × Unit) × (Int × Unit) × Unit) (g : (Unit) × (List Int) × (Mmu × Unit) × Unit) : Ssave_writer_mmu_1 := Ssave_writer_mmu_1.mk x.2.2.1.1 x.2.2.2.1.1 x.2.2.2.2.1.1 x.2.2.2.2.2.1.1 g.2.1 g.2.2.1.1
noncomputable def tAsave_writer_mmu_1 : Tms U ((Unit) × (Unit) × ((List Page) × Unit) × (Int × Unit) × ((List Page) × Unit) × (Int × Unit) × Unit) := tO 0 (cK (.ptr 0 0) (cUnit)) (tO 3 (cK (.ptr 2 0) (cUnit)) (tA 14 (cPair (cArr 28 16) (cUnit)) (tO 15 (cPair (cInt .i64) (cUnit)) (tA 18 (cPair (cArr 28 8) (cUnit)) (tO 19 (cPair (cInt .i64) (cUnit)) (tNil))))))
noncomputable def tBsave_writer_mmu_1 : Bls U ((Unit) × (List Int) × (Mmu × Unit) × Unit) := bT (some 109) (cK (.ptr 0 0) (cK (.row 1 1) (cUnit))) (bRv 5 1 (bC (cPair cMmu (cUnit)) (bNil)))
noncomputable def eSsave_writer_mmu_1 (s : Ssave_writer_mmu_1) : St U := { tm := [(0, .v (vO (cK (.ptr 0 0) (cUnit)) (()))), (3, .v (vO (cK (.ptr 2 0) (cUnit)) (()))), (14, .v (vA (cPair (cArr 28 16) (cUnit)) (s.t14_0, ()))), (15, .v (vO (cPair (cInt .i64) (cUnit)) (s.t15, ()))), (18, .v (vA (cPair (cArr 28 8) (cUnit)) (s.t18_0, ()))), (19, .v (vO (cPair (cInt .i64) (cUnit)) (s.t19, ())))], hp := [.cells ((cK (.ptr 0 0) (cK (.row 1 1) (cUnit)) : Cdc U (Unit)).enc (())) (some 109), .row 5 1 s.b1, .cells ((cPair cMmu (cUnit) : Cdc U (Mmu × Unit)).enc (s.b2, ())) none] }
noncomputable def xSsave_writer_mmu_1 (r : ((List Page) × Int × (List Int) × Mmu)) : Ex × St U := (.exit 2, { tm := [(0, .v (vO (cK (.ptr 0 0) (cUnit)) (()))), (3, .v (vO (cK (.ptr 2 0) (cUnit)) (()))), (14, .v (vA (cPair (cArr 28 16) (cUnit)) (r.1, ()))), (15, .v (vO (cPair (cInt .i64) (cUnit)) (r.2.1, ())))], hp := [.cells ((cK (.ptr 0 0) (cK (.row 1 1) (cUnit)) : Cdc U (Unit)).enc (())) (some 109), .row 5 1 r.2.2.1, .cells ((cPair cMmu (cUnit) : Cdc U (Mmu × Unit)).enc (r.2.2.2, ())) none] })
noncomputable def xTsave_writer_mmu_1 (r : ((List Page) × Int × (List Int) × Mmu)) : Tree (Ex × St U) := .leaf (xSsave_writer_mmu_1 r)
noncomputable def hsave_writer_mmu_1 : Hd := { keep := [0, 3, 14, 15, 18, 19], xkeep := [0, 3, 14, 15], own := false }
noncomputable def Esave_writer_mmu : Env U := { P := Tryd.prog, cd := cd, fns := (addF 64 false (Ssave_writer_nums_V2) (addF 63 false (Ssave_writer_truths) fns31)), lps := (addL 0 hsave_writer_mmu_0 (mkLoop tAsave_writer_mmu_0 tBsave_writer_mmu_0 Psave_writer_mmu_0 (Lsave_writer_mmu_0 none) xTsave_writer_mmu_0) (addL 1 hsave_writer_mmu_1 (mkLoop tAsave_writer_mmu_1 tBsave_writer_mmu_1 Psave_writer_mmu_1 (Lsave_writer_mmu_1 none) xTsave_writer_mmu_1) noL)), frz := fun _r => false, nt := 51, n0 := 2 }
noncomputable def Bsave_writer_mmu_0 : Code := (loopAt (Tryd.f62.body.getD .skip) 0 0).getD .skip
theorem roundsave_writer_mmu_0 (s : Ssave_writer_mmu_0) : round Esave_writer_mmu hsave_writer_mmu_0 Bsave_writer_mmu_0 0 (eSsave_writer_mmu_0 s) = (Wsave_writer_mmu_0 none s).map (sumE eSsave_writer_mmu_0 xSsave_writer_mmu_0) := by kernel_rfl
theorem lpsave_writer_mmu_0 : LpOk Esave_writer_mmu Bsave_writer_mmu_0 0 := mkLoop_ok (A := tAsave_writer_mmu_0) (B := tBsave_writer_mmu_0) (f := Psave_writer_mmu_0) (L := Lsave_writer_mmu_0 none) (tO_ok (cK_ok cUnit_ok) (tO_ok (cK_ok cUnit_ok) (tA_ok (cPair_ok (cArr_ok 28 16) cUnit_ok) (tO_ok (cPair_ok (cInt_ok .i64) cUnit_ok) tNil_ok)))) (bT_ok (cK_ok (cK_ok cUnit_ok)) (bRv_ok (bC_ok (cPair_ok cMmu_ok cUnit_ok) bNil_ok))) (enc := eSsave_writer_mmu_0) (out := xTsave_writer_mmu_0) (outS := xSsave_writer_mmu_0) (step := Wsave_writer_mmu_0 none) (fun _ => rfl) (fun _ _ => by kernel_rfl) (by kernel_rfl) (fun _ => rfl) roundsave_writer_mmu_0
noncomputable def Bsave_writer_mmu_1 : Code := (loopAt (Tryd.f62.body.getD .skip) 0 1).getD .skip
theorem roundsave_writer_mmu_1 (s : Ssave_writer_mmu_1) : round Esave_writer_mmu hsave_writer_mmu_1 Bsave_writer_mmu_1 1 (eSsave_writer_mmu_1 s) = (Wsave_writer_mmu_1 none s).map (sumE eSsave_writer_mmu_1 xSsave_writer_mmu_1) := by kernel_rfl
theorem lpsave_writer_mmu_1 : LpOk Esave_writer_mmu Bsave_writer_mmu_1 1 := mkLoop_ok (A := tAsave_writer_mmu_1) (B := tBsave_writer_mmu_1) (f := Psave_writer_mmu_1) (L := Lsave_writer_mmu_1 none) (tO_ok (cK_ok cUnit_ok) (tO_ok (cK_ok cUnit_ok) (tA_ok (cPair_ok (cArr_ok 28 16) cUnit_ok) (tO_ok (cPair_ok (cInt_ok .i64) cUnit_ok) (tA_ok (cPair_ok (cArr_ok 28 8) cUnit_ok) (tO_ok (cPair_ok (cInt_ok .i64) cUnit_ok) tNil_ok)))))) (bT_ok (cK_ok (cK_ok cUnit_ok)) (bRv_ok (bC_ok (cPair_ok cMmu_ok cUnit_ok) bNil_ok))) (enc := eSsave_writer_mmu_1) (out := xTsave_writer_mmu_1) (outS := xSsave_writer_mmu_1) (step := Wsave_writer_mmu_1 none) (fun _ => rfl) (fun _ _ => by kernel_rfl) (by kernel_rfl) (fun _ => rfl) roundsave_writer_mmu_1
theorem rnsave_writer_mmu (x1 : Mmu) (g0 : Unit) (g1 : (List Int)) : execX false Esave_writer_mmu Tryd.f62 (Asave_writer_mmu.enc (x1, ())) (Gsave_writer_mmu.enc (g0, g1, ())) = (Tsave_writer_mmu none x1 g0 g1).map (Rsave_writer_mmu (x1, ()) (g0, g1, ())) := by kernel_rfl
theorem runsave_writer_mmu : ∀ (x : Mmu × Unit) (g : Unit × (List Int) × Unit), execX false Esave_writer_mmu Tryd.f62 (Asave_writer_mmu.enc x) (Gsave_writer_mmu.enc g) = (Tsave_writer_mmu none x.1 g.1 g.2.1).map (Rsave_writer_mmu x g)
  | (x1, ()), (g0, g1, ()) => rnsave_writer_mmu x1 g0 g1
theorem oksave_writer_mmu : FnOk Tryd.prog cd 62 Ssave_writer_mmu := mk_okG (E := Esave_writer_mmu) (A := Asave_writer_mmu) (B := Gsave_writer_mmu) false cd_ok (addF_ok oksave_writer_nums_V2 (addF_ok oksave_writer_truths fns31_ok)) Tryd.func62 (by kernel_rfl) (loops_of (addL_ok lpsave_writer_mmu_0 (addL_ok lpsave_writer_mmu_1 noL_ok))) (aP_ok (aA_ok cMmu_ok (aNil_ok))) (bT_ok (cK_ok (cK_ok cUnit_ok)) (bR_ok bNil_ok)) (T := fun (x : Mmu × Unit) (g : Unit × (List Int) × Unit) => Tsave_writer_mmu none x.1 g.1 g.2.1) (fun _ _ => rfl) runsave_writer_mmu
/-- emulator/octet.PutText -/
noncomputable def Toctet_PutText (q : Option Nat) (x0 : (List UInt8)) : Tree (List UInt8) :=
  .ite (decide (0 ≤ (if (65535 : Int) < (x0.length : Int) then (65535 : Int) else (x0.length : Int))))
    (.ite (decide ((if (65535 : Int) < (x0.length : Int) then (65535 : Int) else (x0.length : Int)) ≤ ((x0.length : Nat) : Int)))
      (.opt (List UInt8) (octet_Put q (((x0.drop (0)).take (((if (65535 : Int) < (x0.length : Int) then (65535 : Int) else (x0.length : Int))).toNat - 0)).length : Int) (2 : Int)) fun r254 =>
        .opt (List UInt8) (octet_joined q ([r254, (x0.drop (0)).take (((if (65535 : Int) < (x0.length : Int) then (65535 : Int) else (x0.length : Int))).toNat - 0)])) fun r255 =>
          .leaf (r255))
      .fail)
    .fail
noncomputable def octet_PutText (q : Option Nat) (x0 : (List UInt8)) : Option (List UInt8) := (Toctet_PutText q x0).run
theorem leoctet_PutText (k : Nat) (x0 : (List UInt8)) : Le (octet_PutText (some k) x0) (octet_PutText none x0) := (TLe.ite (TLe.ite (TLe.opt (leoctet_Put k _ _) fun _ => (TLe.opt (leoctet_joined k _) fun _ => TLe.rfl)) TLe.rfl) TLe.rfl)
noncomputable def Aoctet_PutText : Arg U ((List UInt8) × Unit) := aO cStr (aNil)
noncomputable def Goctet_PutText : Bls U (Unit) := bNil
noncomputable def Roctet_PutText (_x : (List UInt8) × Unit) (_g : Unit) (r : (List UInt8)) : List (V U) × List (Blk U) := ([vO (cPair cStr (cUnit)) (r, ())], [])
noncomputable def Soctet_PutText : List (V U) → List (Blk U) → Option (FnOut U) := mkSpecG Aoctet_PutText Goctet_PutText (fun x _ => octet_PutText none x.1) Roctet_PutText
noncomputable def Eoctet_PutText : Env U := { P := Tryd.prog, cd := cd, fns := (addF 55 false (frzSpec Soctet_joined) fns31), lps := noL, frz := fun _r => false, nt := 14, n0 := 0 }
theorem rnoctet_PutText (x0 : (List UInt8)) : execX false Eoctet_PutText Tryd.f100 (Aoctet_PutText.enc (x0, ())) (Goctet_PutText.enc ()) = (Toctet_PutText none x0).map (Roctet_PutText (x0, ()) ()) := by kernel_rfl
theorem runoctet_PutText : ∀ (x : (List UInt8) × Unit) (g : Unit), execX false Eoctet_PutText Tryd.f100 (Aoctet_PutText.enc x) (Goctet_PutText.enc g) = (Toctet_PutText none x.1).map (Roctet_PutText x g)
  | (x0, ()), () => rnoctet_PutText x0
theorem okoctet_PutText : FnOk Tryd.prog cd 100 Soctet_PutText := mk_okG (E := Eoctet_PutText) (A := Aoctet_PutText) (B := Goctet_PutText) false cd_ok (addF_ok (fnOk_frz cd_ok (mkSpec_out fun _ => rfl) okoctet_joined) fns31_ok) Tryd.func100 (by kernel_rfl) (noLoops_body (by kernel_rfl)) (aO_ok cStr_ok (aNil_ok)) bNil_ok (T := fun (x : (List UInt8) × Unit) (_ : Unit) => Toctet_PutText none x.1) (fun _ _ => rfl) runoctet_PutText
/-- (*emulator/save.writer).text -/
noncomputable def Tsave_writer_text (q : Option Nat) (x1 : (List UInt8)) (g0 : Unit) (g1 : (List Int)) : Tree (List Int) :=
  .opt (List UInt8) (octet_PutText q x1) fun r256 =>
    .opt (Int × (List Int)) (strings_Builder_WriteString_V2 r256 () g1) fun r257 =>
      .leaf (r257.2)
noncomputable def save_writer_text (q : Option Nat) (x1 : (List UInt8)) (g0 : Unit) (g1 : (List Int)) : Option (List Int) := (Tsave_writer_text q x1 g0 g1).run
theorem lesave_writer_text (k : Nat) (x1 : (List UInt8)) (g0 : Unit) (g1 : (List Int)) : Le (save_writer_text (some k) x1 g0 g1) (save_writer_text none x1 g0 g1) := (TLe.opt (leoctet_PutText k _) fun _ => TLe.rfl)
noncomputable def Asave_writer_text : Arg U ((List UInt8) × Unit) := aP 0 0 (aO cStr (aNil))
noncomputable def Gsave_writer_text : Bls U (Unit × (List Int) × Unit) := bT (some 109) (cK (.ptr 0 0) (cK (.row 1 0) (cUnit))) (bR 5 (bNil))
noncomputable def Rsave_writer_text (_x : (List UInt8) × Unit) (_g : Unit × (List Int) × Unit) (r : (List Int)) : List (V U) × List (Blk U) := ([], [.cells ((cK (.ptr 0 0) (cK (.row 1 1) (cUnit)) : Cdc U (Unit)).enc (())) (some 109), .row 5 1 r])
noncomputable def Ssave_writer_text : List (V U) → List (Blk U) → Option (FnOut U) := mkSpecG Asave_writer_text Gsave_writer_text (fun x g => save_writer_text none x.1 g.1 g.2.1) Rsave_writer_text
noncomputable def Esave_writer_text : Env U := { P := Tryd.prog, cd := cd, fns := (addF 100 false (Soctet_PutText) (addF 58 false (Sstrings_Builder_WriteString_V2) fns31)), lps := noL, frz := fun _r => false, nt := 10, n0 := 2, fps := fun _r _i => bif Nat.beq _r 0 && Nat.beq _i 1 then .rd [] else bif Nat.beq _r 0 && Nat.beq _i 2 then .rd [] else bif Nat.beq _r 0 && Nat.beq _i 4 then .wr [] 2 else .none }
theorem rnsave_writer_text (x1 : (List UInt8)) (g0 : Unit) (g1 : (List Int)) : execX false Esave_writer_text Tryd.f88 (Asave_writer_text.enc (x1, ())) (Gsave_writer_text.enc (g0, g1, ())) = (Tsave_writer_text none x1 g0 g1).map (Rsave_writer_text (x1, ()) (g0, g1, ())) := by kernel_rfl
theorem runsave_writer_text : ∀ (x : (List UInt8) × Unit) (g : Unit × (List Int) × Unit), execX false Esave_writer_text Tryd.f88 (Asave_writer_text.enc x) (Gsave_writer_text.enc g) = (Tsave_writer_text none x.1 g.1 g.2.1).map (Rsave_writer_text x g)
  | (x1, ()), (g0, g1, ()) => rnsave_writer_text x1 g0 g1
theorem oksave_writer_text : FnOk Tryd.prog cd 88 Ssave_writer_text := mk_okG (E := Esave_writer_text) (A := Asave_writer_text) (B := Gsave_writer_text) false cd_ok (addF_ok okoctet_PutText (addF_ok okstrings_Builder_WriteString_V2 fns31_ok)) Tryd.func88 (by kernel_rfl) (noLoops_body (by kernel_rfl)) (aP_ok (aO_ok cStr_ok (aNil_ok))) (bT_ok (cK_ok (cK_ok cUnit_ok)) (bR_ok bNil_ok)) (T := fun (x : (List UInt8) × Unit) (g : Unit × (List Int) × Unit) => Tsave_writer_text none x.1 g.1 g.2.1) (fun _ _ => rfl) runsave_writer_text
/-- (*emulator/save.writer).line -/
noncomputable def Tsave_writer_line (q : Option Nat) (x1 : Line) (g0 : Unit) (g1 : (List Int)) : Tree (List Int) :=
  .opt ((List Bool) × (List Int)) (save_writer_truths q () ([x1.rxEnable, x1.rxReady, x1.overrun]) g1) fun r258 =>
    .opt ((List Int) × (List Int)) (save_writer_nums_V2 q (1 : Int) () ([x1.rxData]) r258.2) fun r259 =>
      .opt ((List Bool) × (List Int)) (save_writer_truths q () ([x1.txEnable, x1.txReady]) r259.2) fun r260 =>
        .opt ((List Int) × (List Int)) (save_writer_nums_V2 q (1 : Int) () ([x1.txData, x1.txLeft]) r260.2) fun r261 =>
          .opt (List Int) (save_writer_text q x1.out () r261.2) fun r262 =>
            .leaf (r262)
noncomputable def save_writer_line (q : Option Nat) (x1 : Line) (g0 : Unit) (g1 : (List Int)) : Option (List Int) := (Tsave_writer_line q x1 g0 g1).run
theorem lesave_writer_line (k : Nat) (x1 : Line) (g0 : Unit) (g1 : (List Int)) : Le (save_writer_line (some k) x1 g0 g1) (save_writer_line none x1 g0 g1) := (TLe.opt (lesave_writer_truths k _ _ _) fun _ => (TLe.opt (lesave_writer_nums_V2 k _ _ _ _) fun _ => (TLe.opt (lesave_writer_truths k _ _ _) fun _ => (TLe.opt (lesave_writer_nums_V2 k _ _ _ _) fun _ => (TLe.opt (lesave_writer_text k _ _ _) fun _ => TLe.rfl)))))
noncomputable def Asave_writer_line : Arg U (Line × Unit) := aP 0 0 (aA cLine (aNil))
noncomputable def Gsave_writer_line : Bls U (Unit × (List Int) × Unit) := bT (some 109) (cK (.ptr 0 0) (cK (.row 1 0) (cUnit))) (bR 5 (bNil))
noncomputable def Rsave_writer_line (_x : Line × Unit) (_g : Unit × (List Int) × Unit) (r : (List Int)) : List (V U) × List (Blk U) := ([], [.cells ((cK (.ptr 0 0) (cK (.row 1 5) (cUnit)) : Cdc U (Unit)).enc (())) (some 109), .row 5 5 r])
noncomputable def Ssave_writer_line : List (V U) → List (Blk U) → Option (FnOut U) := mkSpecG Asave_writer_line Gsave_writer_line (fun x g => save_writer_line none x.1 g.1 g.2.1) Rsave_writer_line
noncomputable def Esave_writer_line : Env U := { P := Tryd.prog, cd := cd, fns := (addF 88 false (Ssave_writer_text) (addF 64 false (Ssave_writer_nums_V2) (addF 63 false (Ssave_writer_truths) fns31))), lps := noL, frz := fun _r => false, nt := 36, n0 := 2 }
theorem rnsave_writer_line (x1 : Line) (g0 : Unit) (g1 : (List Int)) : execX false Esave_writer_line Tryd.f66 (Asave_writer_line.enc (x1, ())) (Gsave_writer_line.enc (g0, g1, ())) = (Tsave_writer_line none x1 g0 g1).map (Rsave_writer_line (x1, ()) (g0, g1, ())) := by kernel_rfl
theorem runsave_writer_line : ∀ (x : Line × Unit) (g : Unit × (List Int) × Unit), execX false Esave_writer_line Tryd.f66 (Asave_writer_line.enc x) (Gsave_writer_line.enc g) = (Tsave_writer_line none x.1 g.1 g.2.1).map (Rsave_writer_line x g)
  | (x1, ()), (g0, g1, ()) => rnsave_writer_line x1 g0 g1
theorem oksave_writer_line : FnOk Tryd.prog cd 66 Ssave_writer_line := mk_okG (E := Esave_writer_line) (A := Asave_writer_line) (B := Gsave_writer_line) false cd_ok (addF_ok oksave_writer_text (addF_ok oksave_writer_nums_V2 (addF_ok oksave_writer_truths fns31_ok))) Tryd.func66 (by kernel_rfl) (noLoops_body (by kernel_rfl)) (aP_ok (aA_ok cLine_ok (aNil_ok))) (bT_ok (cK_ok (cK_ok cUnit_ok)) (bR_ok bNil_ok)) (T := fun (x : Line × Unit) (g : Unit × (List Int) × Unit) => Tsave_writer_line none x.1 g.1 g.2.1) (fun _ _ => rfl) runsave_writer_line
/-- emulator/save.list[emulator/api.Line] -/
structure Ssave_list_api_Line_0 where
  t13 : (List Line)
  t14 : Int
  t15 : Int
  b1 : (List Int)
noncomputable def Wsave_list_api_Line_0 (q : Option Nat) (s : Ssave_list_api_Line_0) : Tree (Ssave_list_api_Line_0 ⊕ (List Int)) :=
  .ite (decide (s.t15 < s.t14))
    (.ite (decide (0 ≤ s.t15))
      (.opt Line (s.t13[(s.t15).toNat]?) fun y264 =>
        .opt (List Int) (save_writer_line q y264 () s.b1) fun r265 =>
          .leaf (.inl (Ssave_list_api_Line_0.mk s.t13 s.t14 (IntKind.wrap .i64 (s.t15 + (1 : Int))) r265)))
      .fail)
    (.leaf (.inr s.b1))
noncomputable def Lsave_list_api_Line_0 (q : Option Nat) (s : Ssave_list_api_Line_0) : Option (List Int) := limQ q (fun s => (Wsave_list_api_Line_0 q s).run) s
theorem leLsave_list_api_Line_0 (k : Nat) (s : Ssave_list_api_Line_0) : Le (Lsave_list_api_Line_0 (some k) s) (Lsave_list_api_Line_0 none s) := limQ_le (fun s => (TLe.ite (TLe.ite (TLe.opt Le.rfl fun _ => (TLe.opt (lesave_writer_line k _ _ _) fun _ => TLe.rfl)) TLe.rfl) TLe.rfl)) s
noncomputable def Tsave_list_api_Line (q : Option Nat) (x1 : (List Line)) (g0 : Unit) (g1 : (List Int)) : Tree (List Int) :=
  .opt ((List Int) × (List Int)) (save_writer_nums_V2 q (2 : Int) () ([(x1.length : Int)]) g1) fun r263 =>
    .opt (List Int) (Lsave_list_api_Line_0 q (Ssave_list_api_Line_0.mk x1 (x1.length : Int) (0 : Int) r263.2)) fun l266 =>
      .leaf (l266)
noncomputable def save_list_api_Line (q : Option Nat) (x1 : (List Line)) (g0 : Unit) (g1 : (List Int)) : Option (List Int) := (Tsave_list_api_Line q x1 g0 g1).run
theorem lesave_list_api_Line (k : Nat) (x1 : (List Line)) (g0 : Unit) (g1 : (List Int)) : Le (save_list_api_Line (some k) x1 g0 g1) (save_list_api_Line none x1 g0 g1) := (TLe.opt (lesave_writer_nums_V2 k _ _ _ _) fun _ => (TLe.opt (leLsave_list_api_Line_0 k _) fun _ => TLe.rfl))
noncomputable def Asave_list_api_Line : Arg U ((List Line) × Unit) := aP 0 0 (aO (cSl 51) (aKF (.fn 66 [(.ptr 0 0)] []) (aNil)))
noncomputable def Gsave_list_api_Line : Bls U (Unit × (List Int) × Unit) := bT (some 109) (cK (.ptr 0 0) (cK (.row 1 0) (cUnit))) (bR 5 (bNil))
noncomputable def Rsave_list_api_Line (_x : (List Line) × Unit) (_g : Unit × (List Int) × Unit) (r : (List Int)) : List (V U) × List (Blk U) := ([], [.cells ((cK (.ptr 0 0) (cK (.row 1 1) (cUnit)) : Cdc U (Unit)).enc (())) (some 109), .row 5 1 r])
noncomputable def Ssave_list_api_Line : List (V U) → List (Blk U) → Option (FnOut U) := mkSpecG Asave_list_api_Line Gsave_list_api_Line (fun x g => save_list_api_Line none x.1 g.1 g.2.1) Rsave_list_api_Line
noncomputable def Psave_list_api_Line_0 (x : (Unit) × ((List Line) × Unit) × (Int × Unit) × (Int × Unit) × Unit) (g : (Unit) × (List Int) × Unit) : Ssave_list_api_Line_0 := Ssave_list_api_Line_0.mk x.2.1.1 x.2.2.1.1 x.2.2.2.1.1 g.2.1
noncomputable def tAsave_list_api_Line_0 : Tms U ((Unit) × ((List Line) × Unit) × (Int × Unit) × (Int × Unit) × Unit) := tO 2 (cK2 (.fn 66 [(.ptr 0 0)] []) (cUnit)) (tO 13 (cPair (cSl 51) (cUnit)) (tO 14 (cPair (cInt .i64) (cUnit)) (tO 15 (cPair (cInt .i64) (cUnit)) (tNil))))
noncomputable def tBsave_list_api_Line_0 : Bls U ((Unit) × (List Int) × Unit) := bT (some 109) (cK (.ptr 0 0) (cK (.row 1 1) (cUnit))) (bRv 5 1 (bNil))
noncomputable def eSsave_list_api_Line_0 (s : Ssave_list_api_Line_0) : St U := { tm := [(2, .v (vO (cK2 (.fn 66 [(.ptr 0 0)] []) (cUnit)) (()))), (13, .v (vO (cPair (cSl 51) (cUnit)) (s.t13, ()))), (14, .v (vO (cPair (cInt .i64) (cUnit)) (s.t14, ()))), (15, .v (vO (cPair (cInt .i64) (cUnit)) (s.t15, ())))], hp := [.cells ((cK (.ptr 0 0) (cK (.row 1 1) (cUnit)) : Cdc U (Unit)).enc (())) (some 109), .row 5 1 s.b1] }
noncomputable def xSsave_list_api_Line_0 (r : (List Int)) : Ex × St U := (.exit 0, { tm := [], hp := [.cells ((cK (.ptr 0 0) (cK (.row 1 1) (cUnit)) : Cdc U (Unit)).enc (())) (some 109), .row 5 1 r] })
noncomputable def xTsave_list_api_Line_0 (r : (List Int)) : Tree (Ex × St U) := .leaf (xSsave_list_api_Line_0 r)
noncomputable def hsave_list_api_Line_0 : Hd := { keep := [2, 13, 14, 15], xkeep := [], own := false }
noncomputable def Esave_list_api_Line : Env U := { P := Tryd.prog, cd := cd, fns := (addF 66 false (Ssave_writer_line) (addF 64 false (Ssave_writer_nums_V2) fns31)), lps := (addL 0 hsave_list_api_Line_0 (mkLoop tAsave_list_api_Line_0 tBsave_list_api_Line_0 Psave_list_api_Line_0 (Lsave_list_api_Line_0 none) xTsave_list_api_Line_0) noL), frz := fun _r => false, nt := 23, n0 := 2 }
noncomputable def Bsave_list_api_Line_0 : Code := (loopAt (Tryd.f65.body.getD .skip) 0 0).getD .skip
theorem roundsave_list_api_Line_0 (s : Ssave_list_api_Line_0) : round Esave_list_api_Line hsave_list_api_Line_0 Bsave_list_api_Line_0 0 (eSsave_list_api_Line_0 s) = (Wsave_list_api_Line_0 none s).map (sumE eSsave_list_api_Line_0 xSsave_list_api_Line_0) := by kernel_rfl
theorem lpsave_list_api_Line_0 : LpOk Esave_list_api_Line Bsave_list_api_Line_0 0 := mkLoop_ok (A := tAsave_list_api_Line_0) (B := tBsave_list_api_Line_0) (f := Psave_list_api_Line_0) (L := Lsave_list_api_Line_0 none) (tO_ok (cK2_ok cUnit_ok) (tO_ok (cPair_ok (cSl_ok 51) cUnit_ok) (tO_ok (cPair_ok (cInt_ok .i64) cUnit_ok) (tO_ok (cPair_ok (cInt_ok .i64) cUnit_ok) tNil_ok)))) (bT_ok (cK_ok (cK_ok cUnit_ok)) (bRv_ok bNil_ok)) (enc := eSsave_list_api_Line_0) (out := xTsave_list_api_Line_0) (outS := xSsave_list_api_Line_0) (step := Wsave_list_api_Line_0 none) (fun _ => rfl) (fun _ _ => by kernel_rfl) (by kernel_rfl) (fun _ => rfl) roundsave_list_api_Line_0
theorem rnsave_list_api_Line (x1 : (List Line)) (g0 : Unit) (g1 : (List Int)) : execX false Esave_list_api_Line Tryd.f65 (Asave_list_api_Line.enc (x1, ())) (Gsave_list_api_Line.enc (g0, g1, ())) = (Tsave_list_api_Line none x1 g0 g1).map (Rsave_list_api_Line (x1, ()) (g0, g1, ())) := by kernel_rfl
theorem runsave_list_api_Line : ∀ (x : (List Line) × Unit) (g : Unit × (List Int) × Unit), execX false Esave_list_api_Line Tryd.f65 (Asave_list_api_Line.enc x) (Gsave_list_api_Line.enc g) = (Tsave_list_api_Line none x.1 g.1 g.2.1).map (Rsave_list_api_Line x g)
  | (x1, ()), (g0, g1, ()) => rnsave_list_api_Line x1 g0 g1
theorem oksave_list_api_Line : FnOk Tryd.prog cd 65 Ssave_list_api_Line := mk_okG (E := Esave_list_api_Line) (A := Asave_list_api_Line) (B := Gsave_list_api_Line) false cd_ok (addF_ok oksave_writer_line (addF_ok oksave_writer_nums_V2 fns31_ok)) Tryd.func65 (by kernel_rfl) (loops_of (addL_ok lpsave_list_api_Line_0 noL_ok)) (aP_ok (aO_ok (cSl_ok 51) (aKF_ok (aNil_ok)))) (bT_ok (cK_ok (cK_ok cUnit_ok)) (bR_ok bNil_ok)) (T := fun (x : (List Line) × Unit) (g : Unit × (List Int) × Unit) => Tsave_list_api_Line none x.1 g.1 g.2.1) (fun _ _ => rfl) runsave_list_api_Line
/-- emulator/save.list[string] -/
structure Ssave_list_string_0 where
  t13 : (List (List UInt8))
  t14 : Int
  t15 : Int
  b1 : (List Int)
noncomputable def Wsave_list_string_0 (q : Option Nat) (s : Ssave_list_string_0) : Tree (Ssave_list_string_0 ⊕ (List Int)) :=
  .ite (decide (s.t15 < s.t14))
    (.ite (decide (0 ≤ s.t15))
      (.opt (List UInt8) (s.t13[(s.t15).toNat]?) fun y276 =>
        .opt (List Int) (save_writer_text q y276 () s.b1) fun r277 =>
          .leaf (.inl (Ssave_list_string_0.mk s.t13 s.t14 (IntKind.wrap .i64 (s.t15 + (1 : Int))) r277)))
      .fail)
    (.leaf (.inr s.b1))
noncomputable def Lsave_list_string_0 (q : Option Nat) (s : Ssave_list_string_0) : Option (List Int) := limQ q (fun s => (Wsave_list_string_0 q s).run) s
theorem leLsave_list_string_0 (k : Nat) (s : Ssave_list_string_0) : Le (Lsave_list_string_0 (some k) s) (Lsave_list_string_0 none s) := limQ_le (fun s => (TLe.ite (TLe.ite (TLe.opt Le.rfl fun _ => (TLe.opt (lesave_writer_text k _ _ _) fun _ => TLe.rfl)) TLe.rfl) TLe.rfl)) s
noncomputable def Tsave_list_string (q : Option Nat) (x1 : (List (List UInt8))) (g0 : Unit) (g1 : (List Int)) : Tree (List Int) :=
  .opt ((List Int) × (List Int)) (save_writer_nums_V2 q (2 : Int) () ([(x1.length : Int)]) g1) fun r275 =>
    .opt (List Int) (Lsave_list_string_0 q (Ssave_list_string_0.mk x1 (x1.length : Int) (0 : Int) r275.2)) fun l278 =>
      .leaf (l278)
noncomputable def save_list_string (q : Option Nat) (x1 : (List (List UInt8))) (g0 : Unit) (g1 : (List Int)) : Option (List Int) := (Tsave_list_string q x1 g0 g1).run
theorem lesave_list_string (k : Nat) (x1 : (List (List UInt8))) (g0 : Unit) (g1 : (List Int)) : Le (save_list_string (some k) x1 g0 g1) (save_list_string none x1 g0 g1) := (TLe.opt (lesave_writer_nums_V2 k _ _ _ _) fun _ => (TLe.opt (leLsave_list_string_0 k _) fun _ => TLe.rfl))
noncomputable def Asave_list_string : Arg U ((List (List UInt8)) × Unit) := aP 0 0 (aO (cSl 9) (aKF (.fn 88 [(.ptr 0 0)] []) (aNil)))
noncomputable def Gsave_list_string : Bls U (Unit × (List Int) × Unit) := bT (some 109) (cK (.ptr 0 0) (cK (.row 1 0) (cUnit))) (bR 5 (bNil))
noncomputable def Rsave_list_string (_x : (List (List UInt8)) × Unit) (_g : Unit × (List Int) × Unit) (r : (List Int)) : List (V U) × List (Blk U) := ([], [.cells ((cK (.ptr 0 0) (cK (.row 1 1) (cUnit)) : Cdc U (Unit)).enc (())) (some 109), .row 5 1 r])
noncomputable def Ssave_list_string : List (V U) → List (Blk U) → Option (FnOut U) := mkSpecG Asave_list_string Gsave_list_string (fun x g => save_list_string none x.1 g.1 g.2.1) Rsave_list_string
noncomputable def Psave_list_string_0 (x : (Unit) × ((List (List UInt8)) × Unit) × (Int × Unit) × (Int × Unit) × Unit) (g : (Unit) × (List Int) × Unit) : Ssave_list_string_0 := Ssave_list_string_0.mk x.2.1.1 x.2.2.1.1 x.2.2.2.1.1 g.2.1
noncomputable def tAsave_list_string_0 : Tms U ((Unit) × ((List (List UInt8)) × Unit) × (Int × Unit) × (Int × Unit) × Unit) := tO 2 (cK2 (.fn 88 [(.ptr 0 0)] []) (cUnit)) (tO 13 (cPair (cSl 9) (cUnit)) (tO 14 (cPair (cInt .i64) (cUnit)) (tO 15 (cPair (cInt .i64) (cUnit)) (tNil))))
noncomputable def tBsave_list_string_0 : Bls U ((Unit) × (List Int) × Unit) := bT (some 109) (cK (.ptr 0 0) (cK (.row 1 1) (cUnit))) (bRv 5 1 (bNil))
noncomputable def eSsave_list_string_0 (s : Ssave_list_string_0) : St U := { tm := [(2, .v (vO (cK2 (.fn 88 [(.ptr 0 0)] []) (cUnit)) (()))), (13, .v (vO (cPair (cSl 9) (cUnit)) (s.t13, ()))), (14, .v (vO (cPair (cInt .i64) (cUnit)) (s.t14, ()))), (15, .v (vO (cPair (cInt .i64) (cUnit)) (s.t15, ())))], hp := [.cells ((cK (.ptr 0 0) (cK (.row 1 1) (cUnit)) : Cdc U (Unit)).enc (())) (some 109), .row 5 1 s.b1] }
noncomputable def xSsave_list_string_0 (r : (List Int)) : Ex × St U := (.exit 0, { tm := [], hp := [.cells ((cK (.ptr 0 0) (cK (.row 1 1) (cUnit)) : Cdc U (Unit)).enc (())) (some 109), .row 5 1 r] })
noncomputable def xTsave_list_string_0 (r : (List Int)) : Tree (Ex × St U) := .leaf (xSsave_list_string_0 r)
noncomputable def hsave_list_string_0 : Hd := { keep := [2, 13, 14, 15], xkeep := [], own := false }
noncomputable def Esave_list_string : Env U := { P := Tryd.prog, cd := cd, fns := (addF 88 false (Ssave_writer_text) (addF 64 false (Ssave_writer_nums_V2) fns31)), lps := (addL 0 hsave_list_string_0 (mkLoop tAsave_list_string_0 tBsave_list_string_0 Psave_list_string_0 (Lsave_list_string_0 none) xTsave_list_string_0) noL), frz := fun _r => false, nt := 23, n0 := 2 }
noncomputable def Bsave_list_string_0 : Code := (loopAt (Tryd.f89.body.getD .skip) 0 0).getD .skip
theorem roundsave_list_string_0 (s : Ssave_list_string_0) : round Esave_list_string hsave_list_string_0 Bsave_list_string_0 0 (eSsave_list_string_0 s) = (Wsave_list_string_0 none s).map (sumE eSsave_list_string_0 xSsave_list_string_0) := by kernel_rfl
theorem lpsave_list_string_0 : LpOk Esave_list_string Bsave_list_string_0 0 := mkLoop_ok (A := tAsave_list_string_0) (B := tBsave_list_string_0) (f := Psave_list_string_0) (L := Lsave_list_string_0 none) (tO_ok (cK2_ok cUnit_ok) (tO_ok (cPair_ok (cSl_ok 9) cUnit_ok) (tO_ok (cPair_ok (cInt_ok .i64) cUnit_ok) (tO_ok (cPair_ok (cInt_ok .i64) cUnit_ok) tNil_ok)))) (bT_ok (cK_ok (cK_ok cUnit_ok)) (bRv_ok bNil_ok)) (enc := eSsave_list_string_0) (out := xTsave_list_string_0) (outS := xSsave_list_string_0) (step := Wsave_list_string_0 none) (fun _ => rfl) (fun _ _ => by kernel_rfl) (by kernel_rfl) (fun _ => rfl) roundsave_list_string_0
theorem rnsave_list_string (x1 : (List (List UInt8))) (g0 : Unit) (g1 : (List Int)) : execX false Esave_list_string Tryd.f89 (Asave_list_string.enc (x1, ())) (Gsave_list_string.enc (g0, g1, ())) = (Tsave_list_string none x1 g0 g1).map (Rsave_list_string (x1, ()) (g0, g1, ())) := by kernel_rfl
theorem runsave_list_string : ∀ (x : (List (List UInt8)) × Unit) (g : Unit × (List Int) × Unit), execX false Esave_list_string Tryd.f89 (Asave_list_string.enc x) (Gsave_list_string.enc g) = (Tsave_list_string none x.1 g.1 g.2.1).map (Rsave_list_string x g)
  | (x1, ()), (g0, g1, ()) => rnsave_list_string x1 g0 g1
theorem oksave_list_string : FnOk Tryd.prog cd 89 Ssave_list_string := mk_okG (E := Esave_list_string) (A := Asave_list_string) (B := Gsave_list_string) false cd_ok (addF_ok oksave_writer_text (addF_ok oksave_writer_nums_V2 fns31_ok)) Tryd.func89 (by kernel_rfl) (loops_of (addL_ok lpsave_list_string_0 noL_ok)) (aP_ok (aO_ok (cSl_ok 9) (aKF_ok (aNil_ok)))) (bT_ok (cK_ok (cK_ok cUnit_ok)) (bR_ok bNil_ok)) (T := fun (x : (List (List UInt8)) × Unit) (g : Unit × (List Int) × Unit) => Tsave_list_string none x.1 g.1 g.2.1) (fun _ _ => rfl) runsave_list_string
/-- (*emulator/save.writer).disk -/
noncomputable def Tsave_writer_disk (q : Option Nat) (x1 : Disk) (g0 : Unit) (g1 : (List Int)) : Tree (List Int) :=
  .opt (List Int) (save_list_string q x1.drive.sectors () g1) fun r279 =>
    .opt (List Int) (save_list_int q x1.drive.bad () r279) fun r280 =>
      .opt ((List Bool) × (List Int)) (save_writer_truths q () ([x1.enable, x1.ready, x1.error]) r280) fun r281 =>
        .opt ((List Int) × (List Int)) (save_writer_nums_V2 q (1 : Int) () ([x1.command]) r281.2) fun r282 =>
          .opt ((List Int) × (List Int)) (save_writer_nums_V2 q (2 : Int) () ([x1.words, x1.addr, x1.start]) r282.2) fun r283 =>
            .opt ((List Int) × (List Int)) (save_writer_nums_V2 q (1 : Int) () ([x1.left]) r283.2) fun r284 =>
              .leaf (r284.2)
noncomputable def save_writer_disk (q : Option Nat) (x1 : Disk) (g0 : Unit) (g1 : (List Int)) : Option (List Int) := (Tsave_writer_disk q x1 g0 g1).run
theorem lesave_writer_disk (k : Nat) (x1 : Disk) (g0 : Unit) (g1 : (List Int)) : Le (save_writer_disk (some k) x1 g0 g1) (save_writer_disk none x1 g0 g1) := (TLe.opt (lesave_list_string k _ _ _) fun _ => (TLe.opt (lesave_list_int k _ _ _) fun _ => (TLe.opt (lesave_writer_truths k _ _ _) fun _ => (TLe.opt (lesave_writer_nums_V2 k _ _ _ _) fun _ => (TLe.opt (lesave_writer_nums_V2 k _ _ _ _) fun _ => (TLe.opt (lesave_writer_nums_V2 k _ _ _ _) fun _ => TLe.rfl))))))
noncomputable def Asave_writer_disk : Arg U (Disk × Unit) := aP 0 0 (aA cDisk (aNil))
noncomputable def Gsave_writer_disk : Bls U (Unit × (List Int) × Unit) := bT (some 109) (cK (.ptr 0 0) (cK (.row 1 0) (cUnit))) (bR 5 (bNil))
noncomputable def Rsave_writer_disk (_x : Disk × Unit) (_g : Unit × (List Int) × Unit) (r : (List Int)) : List (V U) × List (Blk U) := ([], [.cells ((cK (.ptr 0 0) (cK (.row 1 6) (cUnit)) : Cdc U (Unit)).enc (())) (some 109), .row 5 6 r])
noncomputable def Ssave_writer_disk : List (V U) → List (Blk U) → Option (FnOut U) := mkSpecG Asave_writer_disk Gsave_writer_disk (fun x g => save_writer_disk none x.1 g.1 g.2.1) Rsave_writer_disk
noncomputable def Esave_writer_disk : Env U := { P := Tryd.prog, cd := cd, fns := (addF 89 false (Ssave_list_string) (addF 64 false (Ssave_writer_nums_V2) (addF 63 false (Ssave_writer_truths) (addF 60 false (Ssave_list_int) fns31)))), lps := noL, frz := fun _r => false, nt := 46, n0 := 2 }
theorem rnsave_writer_disk (x1 : Disk) (g0 : Unit) (g1 : (List Int)) : execX false Esave_writer_disk Tryd.f67 (Asave_writer_disk.enc (x1, ())) (Gsave_writer_disk.enc (g0, g1, ())) = (Tsave_writer_disk none x1 g0 g1).map (Rsave_writer_disk (x1, ()) (g0, g1, ())) := by kernel_rfl
theorem runsave_writer_disk : ∀ (x : Disk × Unit) (g : Unit × (List Int) × Unit), execX false Esave_writer_disk Tryd.f67 (Asave_writer_disk.enc x) (Gsave_writer_disk.enc g) = (Tsave_writer_disk none x.1 g.1 g.2.1).map (Rsave_writer_disk x g)
  | (x1, ()), (g0, g1, ()) => rnsave_writer_disk x1 g0 g1
theorem oksave_writer_disk : FnOk Tryd.prog cd 67 Ssave_writer_disk := mk_okG (E := Esave_writer_disk) (A := Asave_writer_disk) (B := Gsave_writer_disk) false cd_ok (addF_ok oksave_list_string (addF_ok oksave_writer_nums_V2 (addF_ok oksave_writer_truths (addF_ok oksave_list_int fns31_ok)))) Tryd.func67 (by kernel_rfl) (noLoops_body (by kernel_rfl)) (aP_ok (aA_ok cDisk_ok (aNil_ok))) (bT_ok (cK_ok (cK_ok cUnit_ok)) (bR_ok bNil_ok)) (T := fun (x : Disk × Unit) (g : Unit × (List Int) × Unit) => Tsave_writer_disk none x.1 g.1 g.2.1) (fun _ _ => rfl) runsave_writer_disk
/-- (*emulator/save.writer).tape -/
noncomputable def Tsave_writer_tape (q : Option Nat) (x1 : Tape) (g0 : Unit) (g1 : (List Int)) : Tree (List Int) :=
  .opt (List Int) (save_list_string q x1.records () g1) fun r294 =>
    .opt ((List Int) × (List Int)) (save_writer_nums_V2 q (1 : Int) () ([x1.pos]) r294) fun r295 =>
      .opt ((List Bool) × (List Int)) (save_writer_truths q () ([x1.enable, x1.ready, x1.error, x1.mark, x1.end_]) r295.2) fun r296 =>
        .opt ((List Int) × (List Int)) (save_writer_nums_V2 q (1 : Int) () ([x1.command]) r296.2) fun r297 =>
          .opt ((List Int) × (List Int)) (save_writer_nums_V2 q (2 : Int) () ([x1.count, x1.addr]) r297.2) fun r298 =>
            .opt ((List Int) × (List Int)) (save_writer_nums_V2 q (1 : Int) () ([x1.left]) r298.2) fun r299 =>
              .leaf (r299.2)
noncomputable def save_writer_tape (q : Option Nat) (x1 : Tape) (g0 : Unit) (g1 : (List Int)) : Option (List Int) := (Tsave_writer_tape q x1 g0 g1).run
theorem lesave_writer_tape (k : Nat) (x1 : Tape) (g0 : Unit) (g1 : (List Int)) : Le (save_writer_tape (some k) x1 g0 g1) (save_writer_tape none x1 g0 g1) := (TLe.opt (lesave_list_string k _ _ _) fun _ => (TLe.opt (lesave_writer_nums_V2 k _ _ _ _) fun _ => (TLe.opt (lesave_writer_truths k _ _ _) fun _ => (TLe.opt (lesave_writer_nums_V2 k _ _ _ _) fun _ => (TLe.opt (lesave_writer_nums_V2 k _ _ _ _) fun _ => (TLe.opt (lesave_writer_nums_V2 k _ _ _ _) fun _ => TLe.rfl))))))
noncomputable def Asave_writer_tape : Arg U (Tape × Unit) := aP 0 0 (aA cTape (aNil))
noncomputable def Gsave_writer_tape : Bls U (Unit × (List Int) × Unit) := bT (some 109) (cK (.ptr 0 0) (cK (.row 1 0) (cUnit))) (bR 5 (bNil))
noncomputable def Rsave_writer_tape (_x : Tape × Unit) (_g : Unit × (List Int) × Unit) (r : (List Int)) : List (V U) × List (Blk U) := ([], [.cells ((cK (.ptr 0 0) (cK (.row 1 6) (cUnit)) : Cdc U (Unit)).enc (())) (some 109), .row 5 6 r])
noncomputable def Ssave_writer_tape : List (V U) → List (Blk U) → Option (FnOut U) := mkSpecG Asave_writer_tape Gsave_writer_tape (fun x g => save_writer_tape none x.1 g.1 g.2.1) Rsave_writer_tape
noncomputable def Esave_writer_tape : Env U := { P := Tryd.prog, cd := cd, fns := (addF 89 false (Ssave_list_string) (addF 64 false (Ssave_writer_nums_V2) (addF 63 false (Ssave_writer_truths) fns31))), lps := noL, frz := fun _r => false, nt := 45, n0 := 2 }
theorem rnsave_writer_tape (x1 : Tape) (g0 : Unit) (g1 : (List Int)) : execX false Esave_writer_tape Tryd.f68 (Asave_writer_tape.enc (x1, ())) (Gsave_writer_tape.enc (g0, g1, ())) = (Tsave_writer_tape none x1 g0 g1).map (Rsave_writer_tape (x1, ()) (g0, g1, ())) := by kernel_rfl
theorem runsave_writer_tape : ∀ (x : Tape × Unit) (g : Unit × (List Int) × Unit), execX false Esave_writer_tape Tryd.f68 (Asave_writer_tape.enc x) (Gsave_writer_tape.enc g) = (Tsave_writer_tape none x.1 g.1 g.2.1).map (Rsave_writer_tape x g)
  | (x1, ()), (g0, g1, ()) => rnsave_writer_tape x1 g0 g1
theorem oksave_writer_tape : FnOk Tryd.prog cd 68 Ssave_writer_tape := mk_okG (E := Esave_writer_tape) (A := Asave_writer_tape) (B := Gsave_writer_tape) false cd_ok (addF_ok oksave_list_string (addF_ok oksave_writer_nums_V2 (addF_ok oksave_writer_truths fns31_ok))) Tryd.func68 (by kernel_rfl) (noLoops_body (by kernel_rfl)) (aP_ok (aA_ok cTape_ok (aNil_ok))) (bT_ok (cK_ok (cK_ok cUnit_ok)) (bR_ok bNil_ok)) (T := fun (x : Tape × Unit) (g : Unit × (List Int) × Unit) => Tsave_writer_tape none x.1 g.1 g.2.1) (fun _ _ => rfl) runsave_writer_tape
end Go.Proofs.YtiafliookmnjoaaDoor
namespace Go.Proofs
open Go.Shelf
shelf_lay Lays.n169 Nm 169 at Tryd as Tryd.lays69
theorem Tryd.extra69 : Builder.Extra Tryd.prog Tryd.lays69_ren where
  sizeBuilder := by kernel_rfl
  liesBuilder := by kernel_rfl
  t5 := Tryd.underlying5
  a5 := Tryd.isAgg5
  z5 := Tryd.sizeOf5
  v5 := Tryd.zeroValue5
  infoByte := by kernel_rfl
  cellsByte := by kernel_rfl
  sizeByte := by kernel_rfl
  neB5 := by decide
end Go.Proofs
namespace Go.Proofs.YtiafliookmnjoaaDoor
open Go Go.Ab
theorem okstrings_Builder_String : FnOk Tryd.prog cd 69 (strSpec cd 5) := str_ok cd_ok Tryd.lays69 Tryd.extra69 Tryd.func69 (by kernel_rfl) (by kernel_rfl) rfl rfl
/-- emulator/save.body -/
noncomputable def Tsave_body (q : Option Nat) (x0 : Machine) : Tree (List UInt8) :=
  .opt (Int × (List Int)) (strings_Builder_WriteString ([69, 77, 85, 49] : List UInt8) ()) fun r314 =>
    .opt (List Int) (save_writer_cpu q x0.cpu () r314.2) fun r315 =>
      .opt (List Int) (save_list_int q x0.mem () r315) fun r316 =>
        .opt (List Int) (save_list_int q x0.bad () r316) fun r317 =>
          .opt (List Int) (save_writer_mmu q x0.mmu () r317) fun r318 =>
            .opt ((List Bool) × (List Int)) (save_writer_truths q () ([x0.clock.enable, x0.clock.ready]) r318) fun r319 =>
              .opt ((List Int) × (List Int)) (save_writer_nums_V2 q (2 : Int) () ([x0.clock.period, x0.clock.left]) r319.2) fun r320 =>
                .opt (List Int) (save_list_api_Line q x0.lines () r320.2) fun r321 =>
                  .opt (List Int) (save_writer_disk q x0.disk () r321) fun r322 =>
                    .opt (List Int) (save_writer_tape q x0.tape () r322) fun r323 =>
                      .opt ((List Int) × (List Int)) (save_writer_nums_V2 q (6 : Int) () ([x0.now]) r323) fun r324 =>
                        .opt ((List Bool) × (List Int)) (save_writer_truths q () ([x0.halted, x0.waiting]) r324.2) fun r325 =>
                          .opt ((List Int) × (List Int)) (save_writer_nums_V2 q (2 : Int) () ([x0.power]) r325.2) fun r326 =>
                            .opt ((List Bool) × (List Int)) (save_writer_truths q () ([x0.powerTrap]) r326.2) fun r327 =>
                              .opt (List UInt8) (strF (r327.2.map fun x => UInt8.ofNat x.toNat)) fun r328 =>
                                .leaf (r328)
noncomputable def save_body (q : Option Nat) (x0 : Machine) : Option (List UInt8) := (Tsave_body q x0).run
theorem lesave_body (k : Nat) (x0 : Machine) : Le (save_body (some k) x0) (save_body none x0) := (TLe.opt Le.rfl fun _ => (TLe.opt (lesave_writer_cpu k _ _ _) fun _ => (TLe.opt (lesave_list_int k _ _ _) fun _ => (TLe.opt (lesave_list_int k _ _ _) fun _ => (TLe.opt (lesave_writer_mmu k _ _ _) fun _ => (TLe.opt (lesave_writer_truths k _ _ _) fun _ => (TLe.opt (lesave_writer_nums_V2 k _ _ _ _) fun _ => (TLe.opt (lesave_list_api_Line k _ _ _) fun _ => (TLe.opt (lesave_writer_disk k _ _ _) fun _ => (TLe.opt (lesave_writer_tape k _ _ _) fun _ => (TLe.opt (lesave_writer_nums_V2 k _ _ _ _) fun _ => (TLe.opt (lesave_writer_truths k _ _ _) fun _ => (TLe.opt (lesave_writer_nums_V2 k _ _ _ _) fun _ => (TLe.opt (lesave_writer_truths k _ _ _) fun _ => TLe.rfl))))))))))))))
noncomputable def Asave_body : Arg U (Machine × Unit) := aA cMachine (aNil)
noncomputable def Rsave_body (r : (List UInt8)) : List (V U) × List (Blk U) := ([vO cStr r], [])
noncomputable def Ssave_body : List (V U) → List (Blk U) → Option (FnOut U) := mkSpec Asave_body bNil (fun x _ => save_body none x.1) Rsave_body
noncomputable def Esave_body : Env U := { P := Tryd.prog, cd := cd, fns := (addF 69 false (strSpec cd 5) (addF 68 false (Ssave_writer_tape) (addF 67 false (Ssave_writer_disk) (addF 65 false (Ssave_list_api_Line) (addF 64 false (Ssave_writer_nums_V2) (addF 63 false (Ssave_writer_truths) (addF 62 false (Ssave_writer_mmu) (addF 60 false (Ssave_list_int) (addF 59 false (Ssave_writer_cpu) (addF 58 false (Sstrings_Builder_WriteString) fns31)))))))))), lps := noL, frz := fun _r => false, nt := 88, n0 := 0 }
theorem runsave_body (x : Machine × Unit) (g : Unit) : execF Esave_body Tryd.f32 (Asave_body.enc x) (bNil.enc g) = (Tsave_body none x.1).map Rsave_body := by kernel_rfl
theorem oksave_body : FnOk Tryd.prog cd 32 Ssave_body := mk_ok (E := Esave_body) cd_ok (addF_ok okstrings_Builder_String (addF_ok oksave_writer_tape (addF_ok oksave_writer_disk (addF_ok oksave_list_api_Line (addF_ok oksave_writer_nums_V2 (addF_ok oksave_writer_truths (addF_ok oksave_writer_mmu (addF_ok oksave_list_int (addF_ok oksave_writer_cpu (addF_ok okstrings_Builder_WriteString fns31_ok)))))))))) Tryd.func32 (by kernel_rfl) (noLoops_body (by kernel_rfl)) (aA_ok cMachine_ok (aNil_ok)) bNil_ok (T := fun x _ => Tsave_body none x.1) (fun _ _ => rfl) runsave_body
noncomputable def fns32 := addF 32 true Ssave_body fns31
theorem fns32_ok : ∀ f q t, fns32 f = some (q, t) → FnOk Tryd.prog cd f t := addF_ok oksave_body fns31_ok
/-- emulator/save.Encode -/
noncomputable def Tsave_Encode (q : Option Nat) (x0 : Machine) : Tree ((List UInt8) × Int) :=
  .opt Bool (machine_Right q x0) fun r329 =>
    .ite (!r329)
      (.leaf ((([] : List UInt8), (1 : Int))))
      (.opt (List UInt8) (save_body q x0) fun r330 =>
        .opt (List UInt8) (octet_Seal q r330) fun r331 =>
          .leaf ((r331, (0 : Int))))
noncomputable def save_Encode (q : Option Nat) (x0 : Machine) : Option ((List UInt8) × Int) := (Tsave_Encode q x0).run
theorem lesave_Encode (k : Nat) (x0 : Machine) : Le (save_Encode (some k) x0) (save_Encode none x0) := (TLe.opt (lemachine_Right k _) fun _ => (TLe.ite TLe.rfl (TLe.opt (lesave_body k _) fun _ => (TLe.opt (leoctet_Seal k _) fun _ => TLe.rfl))))
noncomputable def Asave_Encode : Arg U (Machine × Unit) := aA cMachine (aNil)
noncomputable def Rsave_Encode (r : ((List UInt8) × Int)) : List (V U) × List (Blk U) := ([vO cStr r.1, vO (cInt .i64) r.2], [])
noncomputable def Ssave_Encode : List (V U) → List (Blk U) → Option (FnOut U) := mkSpec Asave_Encode bNil (fun x _ => save_Encode none x.1) Rsave_Encode
noncomputable def Esave_Encode : Env U := { P := Tryd.prog, cd := cd, fns := fns32, lps := noL, frz := fun _r => false, nt := 10, n0 := 0 }
theorem runsave_Encode (x : Machine × Unit) (g : Unit) : execF Esave_Encode Tryd.f20 (Asave_Encode.enc x) (bNil.enc g) = (Tsave_Encode none x.1).map Rsave_Encode := by kernel_rfl
theorem oksave_Encode : FnOk Tryd.prog cd 20 Ssave_Encode := mk_ok (E := Esave_Encode) cd_ok fns32_ok Tryd.func20 (by kernel_rfl) (noLoops_body (by kernel_rfl)) (aA_ok cMachine_ok (aNil_ok)) bNil_ok (T := fun x _ => Tsave_Encode none x.1) (fun _ _ => rfl) runsave_Encode
noncomputable def fns20 := addF 20 true Ssave_Encode fns32
theorem fns20_ok : ∀ f q t, fns20 f = some (q, t) → FnOk Tryd.prog cd f t := addF_ok oksave_Encode fns32_ok
/-- emulator/octet.Open -/
noncomputable def Toctet_Open (q : Option Nat) (x0 : (List UInt8)) : Tree ((List UInt8) × Int) :=
  .ite (decide ((IntKind.wrap .i64 ((x0.length : Int) - (4 : Int))) < (0 : Int)))
    (.leaf ((([] : List UInt8), (8 : Int))))
    (.ite (decide (0 ≤ IntKind.wrap .i64 ((x0.length : Int) - (4 : Int))))
      (.ite (decide (IntKind.wrap .i64 ((x0.length : Int) - (4 : Int)) ≤ ((x0.length : Nat) : Int)))
        (.ite (decide (0 ≤ IntKind.wrap .i64 ((x0.length : Int) - (4 : Int))))
          (.ite (decide (IntKind.wrap .i64 ((x0.length : Int) - (4 : Int)) ≤ ((x0.length : Nat) : Int)))
            (.opt Int (octet_sum q ([(x0.drop (0)).take ((IntKind.wrap .i64 ((x0.length : Int) - (4 : Int))).toNat - 0)])) fun r332 =>
              .opt (List UInt8) (octet_Put q r332 (4 : Int)) fun r333 =>
                .ite (!decide (((x0.drop ((IntKind.wrap .i64 ((x0.length : Int) - (4 : Int))).toNat)).take (x0.length - (IntKind.wrap .i64 ((x0.length : Int) - (4 : Int))).toNat)) = r333))
                  (.leaf ((([] : List UInt8), (10 : Int))))
                  (.ite (decide (0 ≤ IntKind.wrap .i64 ((x0.length : Int) - (4 : Int))))
                    (.ite (decide (IntKind.wrap .i64 ((x0.length : Int) - (4 : Int)) ≤ ((x0.length : Nat) : Int)))
                      (.leaf (((x0.drop (0)).take ((IntKind.wrap .i64 ((x0.length : Int) - (4 : Int))).toNat - 0), (0 : Int))))
                      .fail)
                    .fail))
            .fail)
          .fail)
        .fail)
      .fail)
noncomputable def octet_Open (q : Option Nat) (x0 : (List UInt8)) : Option ((List UInt8) × Int) := (Toctet_Open q x0).run
theorem leoctet_Open (k : Nat) (x0 : (List UInt8)) : Le (octet_Open (some k) x0) (octet_Open none x0) := (TLe.ite TLe.rfl (TLe.ite (TLe.ite (TLe.ite (TLe.ite (TLe.opt (leoctet_sum k _) fun _ => (TLe.opt (leoctet_Put k _ _) fun _ => TLe.rfl)) TLe.rfl) TLe.rfl) TLe.rfl) TLe.rfl))
noncomputable def Aoctet_Open : Arg U ((List UInt8) × Unit) := aO cStr (aNil)
noncomputable def Roctet_Open (r : ((List UInt8) × Int)) : List (V U) × List (Blk U) := ([vO cStr r.1, vO (cInt .i64) r.2], [])
noncomputable def Soctet_Open : List (V U) → List (Blk U) → Option (FnOut U) := mkSpec Aoctet_Open bNil (fun x _ => octet_Open none x.1) Roctet_Open
noncomputable def Eoctet_Open : Env U := { P := Tryd.prog, cd := cd, fns := (addF 57 false (frzSpec Soctet_sum) fns20), lps := noL, frz := fun _r => false, nt := 23, n0 := 0, fps := fun _r _i => bif Nat.beq _r 4 && Nat.beq _i 2 then .rd [] else bif Nat.beq _r 4 && Nat.beq _i 7 then .wr [0] 1 else .none }
theorem runoctet_Open (x : (List UInt8) × Unit) (g : Unit) : execF Eoctet_Open Tryd.f33 (Aoctet_Open.enc x) (bNil.enc g) = (Toctet_Open none x.1).map Roctet_Open := by kernel_rfl
theorem okoctet_Open : FnOk Tryd.prog cd 33 Soctet_Open := mk_ok (E := Eoctet_Open) cd_ok (addF_ok (fnOk_frz cd_ok (mkSpec_out fun _ => rfl) okoctet_sum) fns20_ok) Tryd.func33 (by kernel_rfl) (noLoops_body (by kernel_rfl)) (aO_ok cStr_ok (aNil_ok)) bNil_ok (T := fun x _ => Toctet_Open none x.1) (fun _ _ => rfl) runoctet_Open
noncomputable def fns33 := addF 33 true Soctet_Open fns20
theorem fns33_ok : ∀ f q t, fns33 f = some (q, t) → FnOk Tryd.prog cd f t := addF_ok okoctet_Open fns20_ok
/-- internal/stringslite.HasPrefix -/
noncomputable def Tinternal_stringslite_HasPrefix (x0 : (List UInt8)) (x1 : (List UInt8)) : Tree Bool :=
  .ite (decide ((x1.length : Int) ≤ (x0.length : Int)))
    (.ite (decide (0 ≤ (x1.length : Int)))
      (.ite (decide ((x1.length : Int) ≤ ((x0.length : Nat) : Int)))
        (.leaf (decide (((x0.drop (0)).take (((x1.length : Int)).toNat - 0)) = x1)))
        .fail)
      .fail)
    (.leaf (false))
noncomputable def internal_stringslite_HasPrefix (x0 : (List UInt8)) (x1 : (List UInt8)) : Option Bool := (Tinternal_stringslite_HasPrefix x0 x1).run
noncomputable def Ainternal_stringslite_HasPrefix : Arg U ((List UInt8) × (List UInt8) × Unit) := aO cStr (aO cStr (aNil))
noncomputable def Rinternal_stringslite_HasPrefix (r : Bool) : List (V U) × List (Blk U) := ([vO cBool r], [])
noncomputable def Sinternal_stringslite_HasPrefix : List (V U) → List (Blk U) → Option (FnOut U) := mkSpec Ainternal_stringslite_HasPrefix bNil (fun x _ => internal_stringslite_HasPrefix x.1 x.2.1) Rinternal_stringslite_HasPrefix
noncomputable def Einternal_stringslite_HasPrefix : Env U := { P := Tryd.prog, cd := cd, fns := fns33, lps := noL, frz := fun _r => false, nt := 18, n0 := 0 }
theorem runinternal_stringslite_HasPrefix (x : (List UInt8) × (List UInt8) × Unit) (g : Unit) : execF Einternal_stringslite_HasPrefix Tryd.f70 (Ainternal_stringslite_HasPrefix.enc x) (bNil.enc g) = (Tinternal_stringslite_HasPrefix x.1 x.2.1).map Rinternal_stringslite_HasPrefix := by kernel_rfl
theorem okinternal_stringslite_HasPrefix : FnOk Tryd.prog cd 70 Sinternal_stringslite_HasPrefix := mk_ok (E := Einternal_stringslite_HasPrefix) cd_ok fns33_ok Tryd.func70 (by kernel_rfl) (noLoops_body (by kernel_rfl)) (aO_ok cStr_ok (aO_ok cStr_ok (aNil_ok))) bNil_ok (T := fun x _ => Tinternal_stringslite_HasPrefix x.1 x.2.1) (fun _ _ => rfl) runinternal_stringslite_HasPrefix
noncomputable def fns70 := addF 70 true Sinternal_stringslite_HasPrefix fns33
theorem fns70_ok : ∀ f q t, fns70 f = some (q, t) → FnOk Tryd.prog cd f t := addF_ok okinternal_stringslite_HasPrefix fns33_ok
/-- strings.HasPrefix -/
noncomputable def Tstrings_HasPrefix (x0 : (List UInt8)) (x1 : (List UInt8)) : Tree Bool :=
  .opt Bool (internal_stringslite_HasPrefix x0 x1) fun r334 =>
    .leaf (r334)
noncomputable def strings_HasPrefix (x0 : (List UInt8)) (x1 : (List UInt8)) : Option Bool := (Tstrings_HasPrefix x0 x1).run
noncomputable def Astrings_HasPrefix : Arg U ((List UInt8) × (List UInt8) × Unit) := aO cStr (aO cStr (aNil))
noncomputable def Rstrings_HasPrefix (r : Bool) : List (V U) × List (Blk U) := ([vO cBool r], [])
noncomputable def Sstrings_HasPrefix : List (V U) → List (Blk U) → Option (FnOut U) := mkSpec Astrings_HasPrefix bNil (fun x _ => strings_HasPrefix x.1 x.2.1) Rstrings_HasPrefix
noncomputable def Estrings_HasPrefix : Env U := { P := Tryd.prog, cd := cd, fns := fns70, lps := noL, frz := fun _r => false, nt := 8, n0 := 0 }
theorem runstrings_HasPrefix (x : (List UInt8) × (List UInt8) × Unit) (g : Unit) : execF Estrings_HasPrefix Tryd.f34 (Astrings_HasPrefix.enc x) (bNil.enc g) = (Tstrings_HasPrefix x.1 x.2.1).map Rstrings_HasPrefix := by kernel_rfl
theorem okstrings_HasPrefix : FnOk Tryd.prog cd 34 Sstrings_HasPrefix := mk_ok (E := Estrings_HasPrefix) cd_ok fns70_ok Tryd.func34 (by kernel_rfl) (noLoops_body (by kernel_rfl)) (aO_ok cStr_ok (aO_ok cStr_ok (aNil_ok))) bNil_ok (T := fun x _ => Tstrings_HasPrefix x.1 x.2.1) (fun _ _ => rfl) runstrings_HasPrefix
noncomputable def fns34 := addF 34 true Sstrings_HasPrefix fns70
theorem fns34_ok : ∀ f q t, fns34 f = some (q, t) → FnOk Tryd.prog cd f t := addF_ok okstrings_HasPrefix fns70_ok
/-- emulator/octet.Get -/
structure Soctet_Get_0 where
  t0 : (List UInt8)
  t1 : Int
  t2 : Int
  t9 : Int
  t10 : Int
noncomputable def Woctet_Get_0 (s : Soctet_Get_0) : Tree (Soctet_Get_0 ⊕ (Int × Int × Int)) :=
  .ite (decide ((0 : Int) ≤ s.t10))
    (.ite (decide (0 ≤ (8 : Int)))
      (.ite (decide (0 ≤ IntKind.wrap .i64 (s.t1 + s.t10)))
        (.opt UInt8 (s.t0[(IntKind.wrap .i64 (s.t1 + s.t10)).toNat]?) fun y335 =>
          .leaf (.inl (Soctet_Get_0.mk s.t0 s.t1 s.t2 (IntKind.wrap .i64 (((BitVec.ofInt 64 (IntKind.wrap .i64 (s.t9 * 2 ^ (min ((8 : Int)).toNat 64))) ||| BitVec.ofInt 64 (IntKind.wrap .i64 (y335.toNat : Int))).toNat : Int))) (IntKind.wrap .i64 (s.t10 - (1 : Int))))))
        .fail)
      .fail)
    (.leaf (.inr (s.t1, s.t2, s.t9)))
noncomputable def Loctet_Get_0 (q : Option Nat) (s : Soctet_Get_0) : Option (Int × Int × Int) := limQ q (fun s => (Woctet_Get_0 s).run) s
theorem leLoctet_Get_0 (k : Nat) (s : Soctet_Get_0) : Le (Loctet_Get_0 (some k) s) (Loctet_Get_0 none s) := limQ_le (fun _ => Le.rfl) s
noncomputable def Toctet_Get (q : Option Nat) (x0 : (List UInt8)) (x1 : Int) (x2 : Int) : Tree (Int × Int × Int) :=
  .ite (decide (x2 < (1 : Int)))
    (.leaf (((0 : Int), (0 : Int), (1 : Int))))
    (.ite (decide ((7 : Int) < x2))
      (.leaf (((0 : Int), (0 : Int), (1 : Int))))
      (.ite (decide (x1 < (0 : Int)))
        (.leaf (((0 : Int), (0 : Int), (1 : Int))))
        (.ite (decide ((x0.length : Int) < x1))
          (.leaf (((0 : Int), (0 : Int), (1 : Int))))
          (.ite (decide ((IntKind.wrap .i64 ((x0.length : Int) - x1)) < x2))
            (.leaf (((0 : Int), (0 : Int), (8 : Int))))
            (.opt (Int × Int × Int) (Loctet_Get_0 q (Soctet_Get_0.mk x0 x1 x2 (0 : Int) (IntKind.wrap .i64 (x2 - (1 : Int))))) fun l336 =>
              .leaf ((l336.2.2, IntKind.wrap .i64 (l336.1 + l336.2.1), (0 : Int))))))))
noncomputable def octet_Get (q : Option Nat) (x0 : (List UInt8)) (x1 : Int) (x2 : Int) : Option (Int × Int × Int) := (Toctet_Get q x0 x1 x2).run
theorem leoctet_Get (k : Nat) (x0 : (List UInt8)) (x1 : Int) (x2 : Int) : Le (octet_Get (some k) x0 x1 x2) (octet_Get none x0 x1 x2) := (TLe.ite TLe.rfl (TLe.ite TLe.rfl (TLe.ite TLe.rfl (TLe.ite TLe.rfl (TLe.ite TLe.rfl (TLe.opt (leLoctet_Get_0 k _) fun _ => TLe.rfl))))))
noncomputable def Aoctet_Get : Arg U ((List UInt8) × Int × Int × Unit) := aO cStr (aO (cInt .i64) (aO (cInt .i64) (aNil)))
noncomputable def Roctet_Get (r : (Int × Int × Int)) : List (V U) × List (Blk U) := ([vO (cInt .i64) r.1, vO (cInt .i64) r.2.1, vO (cInt .i64) r.2.2], [])
noncomputable def Soctet_Get : List (V U) → List (Blk U) → Option (FnOut U) := mkSpec Aoctet_Get bNil (fun x _ => octet_Get none x.1 x.2.1 x.2.2.1) Roctet_Get
noncomputable def Poctet_Get_0 (x : ((List UInt8) × Unit) × (Int × Unit) × (Int × Unit) × (Int × Unit) × (Int × Unit) × Unit) (_g : Unit) : Soctet_Get_0 := Soctet_Get_0.mk x.1.1 x.2.1.1 x.2.2.1.1 x.2.2.2.1.1 x.2.2.2.2.1.1
noncomputable def tAoctet_Get_0 : Tms U (((List UInt8) × Unit) × (Int × Unit) × (Int × Unit) × (Int × Unit) × (Int × Unit) × Unit) := tO 0 (cPair cStr (cUnit)) (tO 1 (cPair (cInt .i64) (cUnit)) (tO 2 (cPair (cInt .i64) (cUnit)) (tO 9 (cPair (cInt .i64) (cUnit)) (tO 10 (cPair (cInt .i64) (cUnit)) (tNil)))))
noncomputable def tBoctet_Get_0 : Bls U (Unit) := bNil
noncomputable def eSoctet_Get_0 (s : Soctet_Get_0) : St U := { tm := [(0, .v (vO (cPair cStr (cUnit)) (s.t0, ()))), (1, .v (vO (cPair (cInt .i64) (cUnit)) (s.t1, ()))), (2, .v (vO (cPair (cInt .i64) (cUnit)) (s.t2, ()))), (9, .v (vO (cPair (cInt .i64) (cUnit)) (s.t9, ()))), (10, .v (vO (cPair (cInt .i64) (cUnit)) (s.t10, ())))], hp := [] }
noncomputable def xSoctet_Get_0 (r : (Int × Int × Int)) : Ex × St U := (.exit 0, { tm := [(1, .v (vO (cPair (cInt .i64) (cUnit)) (r.1, ()))), (2, .v (vO (cPair (cInt .i64) (cUnit)) (r.2.1, ()))), (9, .v (vO (cPair (cInt .i64) (cUnit)) (r.2.2, ())))], hp := [] })
noncomputable def xToctet_Get_0 (r : (Int × Int × Int)) : Tree (Ex × St U) := .leaf (xSoctet_Get_0 r)
noncomputable def hoctet_Get_0 : Hd := { keep := [0, 1, 2, 9, 10], xkeep := [1, 2, 6, 7, 8, 9], own := false }
noncomputable def Eoctet_Get : Env U := { P := Tryd.prog, cd := cd, fns := fns34, lps := (addL 0 hoctet_Get_0 (mkLoop tAoctet_Get_0 tBoctet_Get_0 Poctet_Get_0 (Loctet_Get_0 none) xToctet_Get_0) noL), frz := fun _r => false, nt := 52, n0 := 0 }
noncomputable def Boctet_Get_0 : Code := (loopAt (Tryd.f73.body.getD .skip) 0 0).getD .skip
theorem roundoctet_Get_0 (s : Soctet_Get_0) : round Eoctet_Get hoctet_Get_0 Boctet_Get_0 0 (eSoctet_Get_0 s) = (Woctet_Get_0 s).map (sumE eSoctet_Get_0 xSoctet_Get_0) := by kernel_rfl
theorem lpoctet_Get_0 : LpOk Eoctet_Get Boctet_Get_0 0 := mkLoop_ok (A := tAoctet_Get_0) (B := tBoctet_Get_0) (f := Poctet_Get_0) (L := Loctet_Get_0 none) (tO_ok (cPair_ok cStr_ok cUnit_ok) (tO_ok (cPair_ok (cInt_ok .i64) cUnit_ok) (tO_ok (cPair_ok (cInt_ok .i64) cUnit_ok) (tO_ok (cPair_ok (cInt_ok .i64) cUnit_ok) (tO_ok (cPair_ok (cInt_ok .i64) cUnit_ok) tNil_ok))))) bNil_ok (enc := eSoctet_Get_0) (out := xToctet_Get_0) (outS := xSoctet_Get_0) (step := Woctet_Get_0) (fun _ => rfl) (fun _ _ => by kernel_rfl) (by kernel_rfl) (fun _ => rfl) roundoctet_Get_0
theorem runoctet_Get (x : (List UInt8) × Int × Int × Unit) (g : Unit) : execF Eoctet_Get Tryd.f73 (Aoctet_Get.enc x) (bNil.enc g) = (Toctet_Get none x.1 x.2.1 x.2.2.1).map Roctet_Get := by kernel_rfl
theorem okoctet_Get : FnOk Tryd.prog cd 73 Soctet_Get := mk_ok (E := Eoctet_Get) cd_ok fns34_ok Tryd.func73 (by kernel_rfl) (loops_of (addL_ok lpoctet_Get_0 noL_ok)) (aO_ok cStr_ok (aO_ok (cInt_ok .i64) (aO_ok (cInt_ok .i64) (aNil_ok)))) bNil_ok (T := fun x _ => Toctet_Get none x.1 x.2.1 x.2.2.1) (fun _ _ => rfl) runoctet_Get
noncomputable def fns73 := addF 73 true Soctet_Get fns34
theorem fns73_ok : ∀ f q t, fns73 f = some (q, t) → FnOk Tryd.prog cd f t := addF_ok okoctet_Get fns34_ok
/-- (*emulator/save.reader).num -/
noncomputable def Tsave_reader_num (q : Option Nat) (x1 : Int) (g0 : Reader) : Tree (Int × Reader) :=
  .opt (Int × Int × Int) (octet_Get q g0.s g0.at_ x1) fun r339 =>
    .ite (!decide (r339.2.2 = (0 : Int)))
      (.leaf (((0 : Int), Reader.mk g0.s g0.at_ true)))
      (.leaf ((r339.1, Reader.mk g0.s r339.2.1 g0.bad)))
noncomputable def save_reader_num (q : Option Nat) (x1 : Int) (g0 : Reader) : Option (Int × Reader) := (Tsave_reader_num q x1 g0).run
theorem lesave_reader_num (k : Nat) (x1 : Int) (g0 : Reader) : Le (save_reader_num (some k) x1 g0) (save_reader_num none x1 g0) := (TLe.opt (leoctet_Get k _ _ _) fun _ => TLe.rfl)
noncomputable def Asave_reader_num : Arg U (Int × Unit) := aP 0 0 (aO (cInt .i64) (aNil))
noncomputable def Gsave_reader_num : Bls U (Reader × Unit) := bC cReader (bNil)
noncomputable def Rsave_reader_num (_x : Int × Unit) (_g : Reader × Unit) (r : (Int × Reader)) : List (V U) × List (Blk U) := ([vO (cPair (cInt .i64) (cUnit)) (r.1, ())], [.cells ((cPair cReader (cUnit) : Cdc U (Reader × Unit)).enc (r.2, ())) none])
noncomputable def Ssave_reader_num : List (V U) → List (Blk U) → Option (FnOut U) := mkSpecG Asave_reader_num Gsave_reader_num (fun x g => save_reader_num none x.1 g.1) Rsave_reader_num
noncomputable def Esave_reader_num : Env U := { P := Tryd.prog, cd := cd, fns := fns73, lps := noL, frz := fun _r => false, nt := 32, n0 := 1 }
theorem rnsave_reader_num (x1 : Int) (g0 : Reader) : execX false Esave_reader_num Tryd.f44 (Asave_reader_num.enc (x1, ())) (Gsave_reader_num.enc (g0, ())) = (Tsave_reader_num none x1 g0).map (Rsave_reader_num (x1, ()) (g0, ())) := by kernel_rfl
theorem runsave_reader_num : ∀ (x : Int × Unit) (g : Reader × Unit), execX false Esave_reader_num Tryd.f44 (Asave_reader_num.enc x) (Gsave_reader_num.enc g) = (Tsave_reader_num none x.1 g.1).map (Rsave_reader_num x g)
  | (x1, ()), (g0, ()) => rnsave_reader_num x1 g0
theorem oksave_reader_num : FnOk Tryd.prog cd 44 Ssave_reader_num := mk_okG (E := Esave_reader_num) (A := Asave_reader_num) (B := Gsave_reader_num) false cd_ok fns73_ok Tryd.func44 (by kernel_rfl) (noLoops_body (by kernel_rfl)) (aP_ok (aO_ok (cInt_ok .i64) (aNil_ok))) (bC_ok cReader_ok bNil_ok) (T := fun (x : Int × Unit) (g : Reader × Unit) => Tsave_reader_num none x.1 g.1) (fun _ _ => rfl) runsave_reader_num
/-- (*emulator/save.reader).word -/
noncomputable def Tsave_reader_word (q : Option Nat) (g0 : Reader) : Tree (Int × Reader) :=
  .opt (Int × Reader) (save_reader_num q (2 : Int) g0) fun r340 =>
    .leaf ((r340.1, r340.2))
noncomputable def save_reader_word (q : Option Nat) (g0 : Reader) : Option (Int × Reader) := (Tsave_reader_word q g0).run
theorem lesave_reader_word (k : Nat) (g0 : Reader) : Le (save_reader_word (some k) g0) (save_reader_word none g0) := (TLe.opt (lesave_reader_num k _ _) fun _ => TLe.rfl)
noncomputable def Asave_reader_word : Arg U (Unit) := aP 0 0 (aNil)
noncomputable def Gsave_reader_word : Bls U (Reader × Unit) := bC cReader (bNil)
noncomputable def Rsave_reader_word (_x : Unit) (_g : Reader × Unit) (r : (Int × Reader)) : List (V U) × List (Blk U) := ([vO (cPair (cInt .i64) (cUnit)) (r.1, ())], [.cells ((cPair cReader (cUnit) : Cdc U (Reader × Unit)).enc (r.2, ())) none])
noncomputable def Ssave_reader_word : List (V U) → List (Blk U) → Option (FnOut U) := mkSpecG Asave_reader_word Gsave_reader_word (fun x g => save_reader_word none g.1) Rsave_reader_word
noncomputable def Esave_reader_word : Env U := { P := Tryd.prog, cd := cd, fns := (addF 44 false (Ssave_reader_num) fns73), lps := noL, frz := fun _r => false, nt := 5, n0 := 1 }
theorem rnsave_reader_word (g0 : Reader) : execX false Esave_reader_word Tryd.f37 (Asave_reader_word.enc ()) (Gsave_reader_word.enc (g0, ())) = (Tsave_reader_word none g0).map (Rsave_reader_word () (g0, ())) := by kernel_rfl
theorem runsave_reader_word : ∀ (x : Unit) (g : Reader × Unit), execX false Esave_reader_word Tryd.f37 (Asave_reader_word.enc x) (Gsave_reader_word.enc g) = (Tsave_reader_word none g.1).map (Rsave_reader_word x g)
  | (), (g0, ()) => rnsave_reader_word g0
theorem oksave_reader_word : FnOk Tryd.prog cd 37 Ssave_reader_word := mk_okG (E := Esave_reader_word) (A := Asave_reader_word) (B := Gsave_reader_word) false cd_ok (addF_ok oksave_reader_num fns73_ok) Tryd.func37 (by kernel_rfl) (noLoops_body (by kernel_rfl)) (aP_ok (aNil_ok)) (bC_ok cReader_ok bNil_ok) (T := fun (x : Unit) (g : Reader × Unit) => Tsave_reader_word none g.1) (fun _ _ => rfl) runsave_reader_word
/-- (*emulator/save.reader).cpu -/
structure Ssave_reader_cpu_0 where
  t5 : Int
  b0 : Reader
  b1 : Cpu
  b2 : Cpu
noncomputable def Wsave_reader_cpu_0 (q : Option Nat) (s : Ssave_reader_cpu_0) : Tree (Ssave_reader_cpu_0 ⊕ (Reader × Cpu × Cpu)) :=
  .ite (decide (s.t5 < (6 : Int)))
    (.opt (Int × Reader) (save_reader_word q s.b0) fun r341 =>
      .ite (decide (0 ≤ s.t5))
        (.ite (decide (s.t5 < (6 : Int)))
          (.opt Int (s.b2.r[(s.t5).toNat * 1]?) fun y342 =>
            .leaf (.inl (Ssave_reader_cpu_0.mk (IntKind.wrap .i64 (s.t5 + (1 : Int))) r341.2 s.b1 (Cpu.mk (s.b2.r.set ((s.t5).toNat * 1) r341.1) s.b2.sP s.b2.pC s.b2.pSW))))
          .fail)
        .fail)
    (.leaf (.inr (s.b0, s.b1, s.b2)))
noncomputable def Lsave_reader_cpu_0 (q : Option Nat) (s : Ssave_reader_cpu_0) : Option (Reader × Cpu × Cpu) := limQ q (fun s => (Wsave_reader_cpu_0 q s).run) s
theorem leLsave_reader_cpu_0 (k : Nat) (s : Ssave_reader_cpu_0) : Le (Lsave_reader_cpu_0 (some k) s) (Lsave_reader_cpu_0 none s) := limQ_le (fun s => (TLe.ite (TLe.opt (lesave_reader_word k _) fun _ => TLe.rfl) TLe.rfl)) s
noncomputable def Tsave_reader_cpu (q : Option Nat) (g0 : Reader) : Tree (Cpu × Reader) :=
  .opt (Reader × Cpu × Cpu) (Lsave_reader_cpu_0 q (Ssave_reader_cpu_0.mk (0 : Int) g0 (Cpu.mk (List.replicate 6 (0 : Int)) (List.replicate 2 (0 : Int)) 0 0) (Cpu.mk (List.replicate 6 (0 : Int)) (List.replicate 2 (0 : Int)) 0 0))) fun l343 =>
    .opt (Int × Reader) (save_reader_word q l343.1) fun r344 =>
      .opt (Int × Reader) (save_reader_word q r344.2) fun r345 =>
        .ite (decide (0 ≤ (0 : Int)))
          (.ite (decide ((0 : Int) < (2 : Int)))
            (.opt Int (l343.2.2.sP[((0 : Int)).toNat * 1]?) fun y346 =>
              .ite (decide (0 ≤ (1 : Int)))
                (.ite (decide ((1 : Int) < (2 : Int)))
                  (.opt Int ((l343.2.2.sP.set (((0 : Int)).toNat * 1) r344.1)[((1 : Int)).toNat * 1]?) fun y347 =>
                    .opt (Int × Reader) (save_reader_word q r345.2) fun r348 =>
                      .opt (Int × Reader) (save_reader_word q r348.2) fun r349 =>
                        .leaf ((Cpu.mk l343.2.2.r ((l343.2.2.sP.set (((0 : Int)).toNat * 1) r344.1).set (((1 : Int)).toNat * 1) r345.1) r348.1 r349.1, r349.2)))
                  .fail)
                .fail)
            .fail)
          .fail
noncomputable def save_reader_cpu (q : Option Nat) (g0 : Reader) : Option (Cpu × Reader) := (Tsave_reader_cpu q g0).run
theorem lesave_reader_cpu (k : Nat) (g0 : Reader) : Le (save_reader_cpu (some k) g0) (save_reader_cpu none g0) := (TLe.opt (leLsave_reader_cpu_0 k _) fun _ => (TLe.opt (lesave_reader_word k _) fun _ => (TLe.opt (lesave_reader_word k _) fun _ => (TLe.ite (TLe.ite (TLe.opt Le.rfl fun _ => (TLe.ite (TLe.ite (TLe.opt Le.rfl fun _ => (TLe.opt (lesave_reader_word k _) fun _ => (TLe.opt (lesave_reader_word k _) fun _ => TLe.rfl))) TLe.rfl) TLe.rfl)) TLe.rfl) TLe.rfl))))
noncomputable def Asave_reader_cpu : Arg U (Unit) := aP 0 0 (aNil)
noncomputable def Gsave_reader_cpu : Bls U (Reader × Unit) := bC cReader (bNil)
noncomputable def Rsave_reader_cpu (_x : Unit) (_g : Reader × Unit) (r : (Cpu × Reader)) : List (V U) × List (Blk U) := ([vA (cPair cCpu (cUnit)) (r.1, ())], [.cells ((cPair cReader (cUnit) : Cdc U (Reader × Unit)).enc (r.2, ())) none])
noncomputable def Ssave_reader_cpu : List (V U) → List (Blk U) → Option (FnOut U) := mkSpecG Asave_reader_cpu Gsave_reader_cpu (fun x g => save_reader_cpu none g.1) Rsave_reader_cpu
noncomputable def Psave_reader_cpu_0 (x : (Unit) × (Unit) × (Unit) × (Int × Unit) × Unit) (g : (Reader × Unit) × (Cpu × Unit) × (Cpu × Unit) × Unit) : Ssave_reader_cpu_0 := Ssave_reader_cpu_0.mk x.2.2.2.1.1 g.1.1 g.2.1.1 g.2.2.1.1
noncomputable def tAsave_reader_cpu_0 : Tms U ((Unit) × (Unit) × (Unit) × (Int × Unit) × Unit) := tO 0 (cK (.ptr 0 0) (cUnit)) (tO 2 (cK (.ptr 1 0) (cUnit)) (tO 3 (cK (.ptr 2 0) (cUnit)) (tO 5 (cPair (cInt .i64) (cUnit)) (tNil))))
noncomputable def tBsave_reader_cpu_0 : Bls U ((Reader × Unit) × (Cpu × Unit) × (Cpu × Unit) × Unit) := bC (cPair cReader (cUnit)) (bC (cPair cCpu (cUnit)) (bC (cPair cCpu (cUnit)) (bNil)))
noncomputable def eSsave_reader_cpu_0 (s : Ssave_reader_cpu_0) : St U := { tm := [(0, .v (vO (cK (.ptr 0 0) (cUnit)) (()))), (2, .v (vO (cK (.ptr 1 0) (cUnit)) (()))), (3, .v (vO (cK (.ptr 2 0) (cUnit)) (()))), (5, .v (vO (cPair (cInt .i64) (cUnit)) (s.t5, ())))], hp := [.cells ((cPair cReader (cUnit) : Cdc U (Reader × Unit)).enc (s.b0, ())) none, .cells ((cPair cCpu (cUnit) : Cdc U (Cpu × Unit)).enc (s.b1, ())) none, .cells ((cPair cCpu (cUnit) : Cdc U (Cpu × Unit)).enc (s.b2, ())) none] }
noncomputable def xSsave_reader_cpu_0 (r : (Reader × Cpu × Cpu)) : Ex × St U := (.exit 0, { tm := [(0, .v (vO (cK (.ptr 0 0) (cUnit)) (()))), (2, .v (vO (cK (.ptr 1 0) (cUnit)) (()))), (3, .v (vO (cK (.ptr 2 0) (cUnit)) (())))], hp := [.cells ((cPair cReader (cUnit) : Cdc U (Reader × Unit)).enc (r.1, ())) none, .cells ((cPair cCpu (cUnit) : Cdc U (Cpu × Unit)).enc (r.2.1, ())) none, .cells ((cPair cCpu (cUnit) : Cdc U (Cpu × Unit)).enc (r.2.2, ())) none] })
noncomputable def xTsave_reader_cpu_0 (r : (Reader × Cpu × Cpu)) : Tree (Ex × St U) := .leaf (xSsave_reader_cpu_0 r)
noncomputable def hsave_reader_cpu_0 : Hd := { keep := [0, 2, 3, 5], xkeep := [0, 2, 3], own := false }
noncomputable def Esave_reader_cpu : Env U := { P := Tryd.prog, cd := cd, fns := (addF 37 false (Ssave_reader_word) fns73), lps := (addL 0 hsave_reader_cpu_0 (mkLoop tAsave_reader_cpu_0 tBsave_reader_cpu_0 Psave_reader_cpu_0 (Lsave_reader_cpu_0 none) xTsave_reader_cpu_0) noL), frz := fun _r => false, nt := 29, n0 := 1 }
noncomputable def Bsave_reader_cpu_0 : Code := (loopAt (Tryd.f35.body.getD .skip) 0 0).getD .skip
theorem roundsave_reader_cpu_0 (s : Ssave_reader_cpu_0) : round Esave_reader_cpu hsave_reader_cpu_0 Bsave_reader_cpu_0 0 (eSsave_reader_cpu_0 s) = (Wsave_reader_cpu_0 none s).map (sumE eSsave_reader_cpu_0 xSsave_reader_cpu_0) := by kernel_rfl
theorem lpsave_reader_cpu_0 : LpOk Esave_reader_cpu Bsave_reader_cpu_0 0 := mkLoop_ok (A := tAsave_reader_cpu_0) (B := tBsave_reader_cpu_0) (f := Psave_reader_cpu_0) (L := Lsave_reader_cpu_0 none) (tO_ok (cK_ok cUnit_ok) (tO_ok (cK_ok cUnit_ok) (tO_ok (cK_ok cUnit_ok) (tO_ok (cPair_ok (cInt_ok .i64) cUnit_ok) tNil_ok)))) (bC_ok (cPair_ok cReader_ok cUnit_ok) (bC_ok (cPair_ok cCpu_ok cUnit_ok) (bC_ok (cPair_ok cCpu_ok cUnit_ok) bNil_ok))) (enc := eSsave_reader_cpu_0) (out := xTsave_reader_cpu_0) (outS := xSsave_reader_cpu_0) (step := Wsave_reader_cpu_0 none) (fun _ => rfl) (fun _ _ => by kernel_rfl) (by kernel_rfl) (fun _ => rfl) roundsave_reader_cpu_0
theorem rnsave_reader_cpu (g0 : Reader) : execX false Esave_reader_cpu Tryd.f35 (Asave_reader_cpu.enc ()) (Gsave_reader_cpu.enc (g0, ())) = (Tsave_reader_cpu none g0).map (Rsave_reader_cpu () (g0, ())) := by kernel_rfl
theorem runsave_reader_cpu : ∀ (x : Unit) (g : Reader × Unit), execX false Esave_reader_cpu Tryd.f35 (Asave_reader_cpu.enc x) (Gsave_reader_cpu.enc g) = (Tsave_reader_cpu none g.1).map (Rsave_reader_cpu x g)
  | (), (g0, ()) => rnsave_reader_cpu g0
theorem oksave_reader_cpu : FnOk Tryd.prog cd 35 Ssave_reader_cpu := mk_okG (E := Esave_reader_cpu) (A := Asave_reader_cpu) (B := Gsave_reader_cpu) false cd_ok (addF_ok oksave_reader_word fns73_ok) Tryd.func35 (by kernel_rfl) (loops_of (addL_ok lpsave_reader_cpu_0 noL_ok)) (aP_ok (aNil_ok)) (bC_ok cReader_ok bNil_ok) (T := fun (x : Unit) (g : Reader × Unit) => Tsave_reader_cpu none g.1) (fun _ _ => rfl) runsave_reader_cpu
/-- emulator/save.listed[int] -/
structure Ssave_listed_int_0 where
  t6 : Int
  b0 : Reader
  b1 : (List Int)
noncomputable def Wsave_listed_int_0 (q : Option Nat) (s : Ssave_listed_int_0) : Tree (Ssave_listed_int_0 ⊕ (Reader × (List Int))) :=
  .ite (decide ((0 : Int) < s.t6))
    (.ite (!s.b0.bad)
      (.opt (Int × Reader) (save_reader_word q s.b0) fun r356 =>
        .ite (decide ((s.b1.length + ([r356.1]).length) * 8 ≤ 140737488355328))
          (.leaf (.inl (Ssave_listed_int_0.mk (IntKind.wrap .i64 (s.t6 - (1 : Int))) r356.2 (s.b1 ++ ([r356.1])))))
          .fail)
      (.leaf (.inr (s.b0, s.b1))))
    (.leaf (.inr (s.b0, s.b1)))
noncomputable def Lsave_listed_int_0 (q : Option Nat) (s : Ssave_listed_int_0) : Option (Reader × (List Int)) := limQ q (fun s => (Wsave_listed_int_0 q s).run) s
theorem leLsave_listed_int_0 (k : Nat) (s : Ssave_listed_int_0) : Le (Lsave_listed_int_0 (some k) s) (Lsave_listed_int_0 none s) := limQ_le (fun s => (TLe.ite (TLe.ite (TLe.opt (lesave_reader_word k _) fun _ => TLe.rfl) TLe.rfl) TLe.rfl)) s
noncomputable def Tsave_listed_int (q : Option Nat) (g0 : Reader) : Tree ((List Int) × Reader) :=
  .opt (Int × Reader) (save_reader_word q g0) fun r355 =>
    .opt (Reader × (List Int)) (Lsave_listed_int_0 q (Ssave_listed_int_0.mk r355.1 r355.2 ([]))) fun l357 =>
      .leaf ((l357.2, l357.1))
noncomputable def save_listed_int (q : Option Nat) (g0 : Reader) : Option ((List Int) × Reader) := (Tsave_listed_int q g0).run
theorem lesave_listed_int (k : Nat) (g0 : Reader) : Le (save_listed_int (some k) g0) (save_listed_int none g0) := (TLe.opt (lesave_reader_word k _) fun _ => (TLe.opt (leLsave_listed_int_0 k _) fun _ => TLe.rfl))
noncomputable def Asave_listed_int : Arg U (Unit) := aP 0 0 (aKF (.fn 37 [(.ptr 0 0)] []) (aNil))
noncomputable def Gsave_listed_int : Bls U (Reader × Unit) := bC cReader (bNil)
noncomputable def Rsave_listed_int (_x : Unit) (_g : Reader × Unit) (r : ((List Int) × Reader)) : List (V U) × List (Blk U) := ([vO (cPair (cSl 3) (cUnit)) (r.1, ())], [.cells ((cPair cReader (cUnit) : Cdc U (Reader × Unit)).enc (r.2, ())) none])
noncomputable def Ssave_listed_int : List (V U) → List (Blk U) → Option (FnOut U) := mkSpecG Asave_listed_int Gsave_listed_int (fun x g => save_listed_int none g.1) Rsave_listed_int
noncomputable def Psave_listed_int_0 (x : (Unit) × (Unit) × (Unit) × (Int × Unit) × Unit) (g : (Reader × Unit) × (List Int) × Unit) : Ssave_listed_int_0 := Ssave_listed_int_0.mk x.2.2.2.1.1 g.1.1 g.2.1
noncomputable def tAsave_listed_int_0 : Tms U ((Unit) × (Unit) × (Unit) × (Int × Unit) × Unit) := tO 0 (cK (.ptr 0 0) (cUnit)) (tO 1 (cK2 (.fn 37 [(.ptr 0 0)] []) (cUnit)) (tO 5 (cK (.row 1 0) (cUnit)) (tO 6 (cPair (cInt .i64) (cUnit)) (tNil))))
noncomputable def tBsave_listed_int_0 : Bls U ((Reader × Unit) × (List Int) × Unit) := bC (cPair cReader (cUnit)) (bRv 3 0 (bNil))
noncomputable def eSsave_listed_int_0 (s : Ssave_listed_int_0) : St U := { tm := [(0, .v (vO (cK (.ptr 0 0) (cUnit)) (()))), (1, .v (vO (cK2 (.fn 37 [(.ptr 0 0)] []) (cUnit)) (()))), (5, .v (vO (cK (.row 1 0) (cUnit)) (()))), (6, .v (vO (cPair (cInt .i64) (cUnit)) (s.t6, ())))], hp := [.cells ((cPair cReader (cUnit) : Cdc U (Reader × Unit)).enc (s.b0, ())) none, .row 3 0 s.b1] }
noncomputable def xSsave_listed_int_0 (r : (Reader × (List Int))) : Ex × St U := (.exit 0, { tm := [(5, .v (vO (cK (.row 1 0) (cUnit)) (())))], hp := [.cells ((cPair cReader (cUnit) : Cdc U (Reader × Unit)).enc (r.1, ())) none, .row 3 0 r.2] })
noncomputable def xTsave_listed_int_0 (r : (Reader × (List Int))) : Tree (Ex × St U) := .leaf (xSsave_listed_int_0 r)
noncomputable def hsave_listed_int_0 : Hd := { keep := [0, 1, 5, 6], xkeep := [4, 5], own := true }
noncomputable def Esave_listed_int : Env U := { P := Tryd.prog, cd := cd, fns := (addF 37 false (Ssave_reader_word) fns73), lps := (addL 0 hsave_listed_int_0 (mkLoop tAsave_listed_int_0 tBsave_listed_int_0 Psave_listed_int_0 (Lsave_listed_int_0 none) xTsave_listed_int_0) noL), frz := fun _r => false, nt := 26, n0 := 1 }
noncomputable def Bsave_listed_int_0 : Code := (loopAt (Tryd.f36.body.getD .skip) 0 0).getD .skip
theorem roundsave_listed_int_0 (s : Ssave_listed_int_0) : round Esave_listed_int hsave_listed_int_0 Bsave_listed_int_0 0 (eSsave_listed_int_0 s) = (Wsave_listed_int_0 none s).map (sumE eSsave_listed_int_0 xSsave_listed_int_0) := by kernel_rfl
theorem lpsave_listed_int_0 : LpOk Esave_listed_int Bsave_listed_int_0 0 := mkLoop_ok (A := tAsave_listed_int_0) (B := tBsave_listed_int_0) (f := Psave_listed_int_0) (L := Lsave_listed_int_0 none) (tO_ok (cK_ok cUnit_ok) (tO_ok (cK2_ok cUnit_ok) (tO_ok (cK_ok cUnit_ok) (tO_ok (cPair_ok (cInt_ok .i64) cUnit_ok) tNil_ok)))) (bC_ok (cPair_ok cReader_ok cUnit_ok) (bRv_ok bNil_ok)) (enc := eSsave_listed_int_0) (out := xTsave_listed_int_0) (outS := xSsave_listed_int_0) (step := Wsave_listed_int_0 none) (fun _ => rfl) (fun _ _ => by kernel_rfl) (by kernel_rfl) (fun _ => rfl) roundsave_listed_int_0
theorem rnsave_listed_int (g0 : Reader) : execX false Esave_listed_int Tryd.f36 (Asave_listed_int.enc ()) (Gsave_listed_int.enc (g0, ())) = (Tsave_listed_int none g0).map (Rsave_listed_int () (g0, ())) := by kernel_rfl
theorem runsave_listed_int : ∀ (x : Unit) (g : Reader × Unit), execX false Esave_listed_int Tryd.f36 (Asave_listed_int.enc x) (Gsave_listed_int.enc g) = (Tsave_listed_int none g.1).map (Rsave_listed_int x g)
  | (), (g0, ()) => rnsave_listed_int g0
theorem oksave_listed_int : FnOk Tryd.prog cd 36 Ssave_listed_int := mk_okG (E := Esave_listed_int) (A := Asave_listed_int) (B := Gsave_listed_int) false cd_ok (addF_ok oksave_reader_word fns73_ok) Tryd.func36 (by kernel_rfl) (loops_of (addL_ok lpsave_listed_int_0 noL_ok)) (aP_ok (aKF_ok (aNil_ok))) (bC_ok cReader_ok bNil_ok) (T := fun (x : Unit) (g : Reader × Unit) => Tsave_listed_int none g.1) (fun _ _ => rfl) runsave_listed_int
/-- (*emulator/save.reader).truth -/
noncomputable def Tsave_reader_truth (q : Option Nat) (g0 : Reader) : Tree (Bool × Reader) :=
  .opt (Int × Reader) (save_reader_num q (1 : Int) g0) fun r363 =>
    .ite (r363.2.bad)
      (.leaf ((decide (r363.1 = (1 : Int)), Reader.mk r363.2.s r363.2.at_ true)))
      (.leaf ((decide (r363.1 = (1 : Int)), Reader.mk r363.2.s r363.2.at_ (decide ((1 : Int) < r363.1)))))
noncomputable def save_reader_truth (q : Option Nat) (g0 : Reader) : Option (Bool × Reader) := (Tsave_reader_truth q g0).run
theorem lesave_reader_truth (k : Nat) (g0 : Reader) : Le (save_reader_truth (some k) g0) (save_reader_truth none g0) := (TLe.opt (lesave_reader_num k _ _) fun _ => TLe.rfl)
noncomputable def Asave_reader_truth : Arg U (Unit) := aP 0 0 (aNil)
noncomputable def Gsave_reader_truth : Bls U (Reader × Unit) := bC cReader (bNil)
noncomputable def Rsave_reader_truth (_x : Unit) (_g : Reader × Unit) (r : (Bool × Reader)) : List (V U) × List (Blk U) := ([vO (cPair cBool (cUnit)) (r.1, ())], [.cells ((cPair cReader (cUnit) : Cdc U (Reader × Unit)).enc (r.2, ())) none])
noncomputable def Ssave_reader_truth : List (V U) → List (Blk U) → Option (FnOut U) := mkSpecG Asave_reader_truth Gsave_reader_truth (fun x g => save_reader_truth none g.1) Rsave_reader_truth
noncomputable def Esave_reader_truth : Env U := { P := Tryd.prog, cd := cd, fns := (addF 44 false (Ssave_reader_num) fns73), lps := noL, frz := fun _r => false, nt := 19, n0 := 1 }
theorem rnsave_reader_truth (g0 : Reader) : execX false Esave_reader_truth Tryd.f39 (Asave_reader_truth.enc ()) (Gsave_reader_truth.enc (g0, ())) = (Tsave_reader_truth none g0).map (Rsave_reader_truth () (g0, ())) := by kernel_rfl
theorem runsave_reader_truth : ∀ (x : Unit) (g : Reader × Unit), execX false Esave_reader_truth Tryd.f39 (Asave_reader_truth.enc x) (Gsave_reader_truth.enc g) = (Tsave_reader_truth none g.1).map (Rsave_reader_truth x g)
  | (), (g0, ()) => rnsave_reader_truth g0
theorem oksave_reader_truth : FnOk Tryd.prog cd 39 Ssave_reader_truth := mk_okG (E := Esave_reader_truth) (A := Asave_reader_truth) (B := Gsave_reader_truth) false cd_ok (addF_ok oksave_reader_num fns73_ok) Tryd.func39 (by kernel_rfl) (noLoops_body (by kernel_rfl)) (aP_ok (aNil_ok)) (bC_ok cReader_ok bNil_ok) (T := fun (x : Unit) (g : Reader × Unit) => Tsave_reader_truth none g.1) (fun _ _ => rfl) runsave_reader_truth
/-- (*emulator/save.reader).mmu -/
structure Ssave_reader_mmu_1 where
  t4 : Int
  t9 : Int
  t12 : Int
  b0 : Reader
  b1 : Mmu
  b2 : Mmu
noncomputable def Wsave_reader_mmu_1 (q : Option Nat) (s : Ssave_reader_mmu_1) : Tree (Ssave_reader_mmu_1 ⊕ (Int × Reader × Mmu × Mmu)) :=
  .ite (decide (s.t12 < (8 : Int)))
    (.opt (Int × Reader) (save_reader_word q s.b0) fun r365 =>
      .opt (Int × Reader) (save_reader_num q (1 : Int) r365.2) fun r366 =>
        .opt (Int × Reader) (save_reader_num q (1 : Int) r366.2) fun r367 =>
          .opt (Bool × Reader) (save_reader_truth q r367.2) fun r368 =>
            .ite (decide (0 ≤ s.t4))
              (.ite (decide (s.t4 < (2 : Int)))
                (.ite (decide (0 ≤ s.t12))
                  (.ite (decide (s.t12 < (8 : Int)))
                    (.opt Page (s.b2.pages[(s.t4).toNat * 8 + (s.t12).toNat * 1]?) fun y369 =>
                      .leaf (.inl (Ssave_reader_mmu_1.mk s.t4 s.t9 (IntKind.wrap .i64 (s.t12 + (1 : Int))) r368.2 s.b1 (Mmu.mk s.b2.on (s.b2.pages.set ((s.t4).toNat * 8 + (s.t12).toNat * 1) (Page.mk r365.1 r366.1 r367.1 r368.1)) s.b2.status s.b2.addr))))
                    .fail)
                  .fail)
                .fail)
              .fail)
    (.leaf (.inr (s.t9, s.b0, s.b1, s.b2)))
noncomputable def Lsave_reader_mmu_1 (q : Option Nat) (s : Ssave_reader_mmu_1) : Option (Int × Reader × Mmu × Mmu) := limQ q (fun s => (Wsave_reader_mmu_1 q s).run) s
theorem leLsave_reader_mmu_1 (k : Nat) (s : Ssave_reader_mmu_1) : Le (Lsave_reader_mmu_1 (some k) s) (Lsave_reader_mmu_1 none s) := limQ_le (fun s => (TLe.ite (TLe.opt (lesave_reader_word k _) fun _ => (TLe.opt (lesave_reader_num k _ _) fun _ => (TLe.opt (lesave_reader_num k _ _) fun _ => (TLe.opt (lesave_reader_truth k _) fun _ => TLe.rfl)))) TLe.rfl)) s
structure Ssave_reader_mmu_0 where
  t9 : Int
  b0 : Reader
  b1 : Mmu
  b2 : Mmu
noncomputable def Wsave_reader_mmu_0 (q : Option Nat) (s : Ssave_reader_mmu_0) : Tree (Ssave_reader_mmu_0 ⊕ (Reader × Mmu × Mmu)) :=
  .ite (decide (s.t9 < (2 : Int)))
    (.opt (Int × Reader × Mmu × Mmu) (Lsave_reader_mmu_1 q (Ssave_reader_mmu_1.mk s.t9 s.t9 (0 : Int) s.b0 s.b1 s.b2)) fun l370 =>
      .leaf (.inl (Ssave_reader_mmu_0.mk (IntKind.wrap .i64 (l370.1 + (1 : Int))) l370.2.1 l370.2.2.1 l370.2.2.2)))
    (.leaf (.inr (s.b0, s.b1, s.b2)))
noncomputable def Lsave_reader_mmu_0 (q : Option Nat) (s : Ssave_reader_mmu_0) : Option (Reader × Mmu × Mmu) := limQ q (fun s => (Wsave_reader_mmu_0 q s).run) s
theorem leLsave_reader_mmu_0 (k : Nat) (s : Ssave_reader_mmu_0) : Le (Lsave_reader_mmu_0 (some k) s) (Lsave_reader_mmu_0 none s) := limQ_le (fun s => (TLe.ite (TLe.opt (leLsave_reader_mmu_1 k _) fun _ => TLe.rfl) TLe.rfl)) s
noncomputable def Tsave_reader_mmu (q : Option Nat) (g0 : Reader) : Tree (Mmu × Reader) :=
  .opt (Bool × Reader) (save_reader_truth q g0) fun r364 =>
    .opt (Reader × Mmu × Mmu) (Lsave_reader_mmu_0 q (Ssave_reader_mmu_0.mk (0 : Int) r364.2 (Mmu.mk false (List.replicate 16 (Page.mk (0 : Int) (0 : Int) (0 : Int) false)) 0 0) (Mmu.mk r364.1 (List.replicate 16 (Page.mk (0 : Int) (0 : Int) (0 : Int) false)) 0 0))) fun l371 =>
      .opt (Int × Reader) (save_reader_num q (1 : Int) l371.1) fun r372 =>
        .opt (Int × Reader) (save_reader_word q r372.2) fun r373 =>
          .leaf ((Mmu.mk l371.2.2.on l371.2.2.pages r372.1 r373.1, r373.2))
noncomputable def save_reader_mmu (q : Option Nat) (g0 : Reader) : Option (Mmu × Reader) := (Tsave_reader_mmu q g0).run
theorem lesave_reader_mmu (k : Nat) (g0 : Reader) : Le (save_reader_mmu (some k) g0) (save_reader_mmu none g0) := (TLe.opt (lesave_reader_truth k _) fun _ => (TLe.opt (leLsave_reader_mmu_0 k _) fun _ => (TLe.opt (lesave_reader_num k _ _) fun _ => (TLe.opt (lesave_reader_word k _) fun _ => TLe.rfl))))
noncomputable def Asave_reader_mmu : Arg U (Unit) := aP 0 0 (aNil)
noncomputable def Gsave_reader_mmu : Bls U (Reader × Unit) := bC cReader (bNil)
noncomputable def Rsave_reader_mmu (_x : Unit) (_g : Reader × Unit) (r : (Mmu × Reader)) : List (V U) × List (Blk U) := ([vA (cPair cMmu (cUnit)) (r.1, ())], [.cells ((cPair cReader (cUnit) : Cdc U (Reader × Unit)).enc (r.2, ())) none])
noncomputable def Ssave_reader_mmu : List (V U) → List (Blk U) → Option (FnOut U) := mkSpecG Asave_reader_mmu Gsave_reader_mmu (fun x g => save_reader_mmu none g.1) Rsave_reader_mmu
noncomputable def Psave_reader_mmu_0 (x : (Unit) × (Unit) × (Unit) × (Int × Unit) × Unit) (g : (Reader × Unit) × (Mmu × Unit) × (Mmu × Unit) × Unit) : Ssave_reader_mmu_0 := Ssave_reader_mmu_0.mk x.2.2.2.1.1 g.1.1 g.2.1.1 g.2.2.1.1
noncomputable def tAsave_reader_mmu_0 : Tms U ((Unit) × (Unit) × (Unit) × (Int × Unit) × Unit) := tO 0 (cK (.ptr 0 0) (cUnit)) (tO 2 (cK (.ptr 1 0) (cUnit)) (tO 3 (cK (.ptr 2 0) (cUnit)) (tO 9 (cPair (cInt .i64) (cUnit)) (tNil))))
noncomputable def tBsave_reader_mmu_0 : Bls U ((Reader × Unit) × (Mmu × Unit) × (Mmu × Unit) × Unit) := bC (cPair cReader (cUnit)) (bC (cPair cMmu (cUnit)) (bC (cPair cMmu (cUnit)) (bNil)))
noncomputable def eSsave_reader_mmu_0 (s : Ssave_reader_mmu_0) : St U := { tm := [(0, .v (vO (cK (.ptr 0 0) (cUnit)) (()))), (2, .v (vO (cK (.ptr 1 0) (cUnit)) (()))), (3, .v (vO (cK (.ptr 2 0) (cUnit)) (()))), (9, .v (vO (cPair (cInt .i64) (cUnit)) (s.t9, ())))], hp := [.cells ((cPair cReader (cUnit) : Cdc U (Reader × Unit)).enc (s.b0, ())) none, .cells ((cPair cMmu (cUnit) : Cdc U (Mmu × Unit)).enc (s.b1, ())) none, .cells ((cPair cMmu (cUnit) : Cdc U (Mmu × Unit)).enc (s.b2, ())) none] }
noncomputable def xSsave_reader_mmu_0 (r : (Reader × Mmu × Mmu)) : Ex × St U := (.exit 0, { tm := [(0, .v (vO (cK (.ptr 0 0) (cUnit)) (()))), (2, .v (vO (cK (.ptr 1 0) (cUnit)) (()))), (3, .v (vO (cK (.ptr 2 0) (cUnit)) (())))], hp := [.cells ((cPair cReader (cUnit) : Cdc U (Reader × Unit)).enc (r.1, ())) none, .cells ((cPair cMmu (cUnit) : Cdc U (Mmu × Unit)).enc (r.2.1, ())) none, .cells ((cPair cMmu (cUnit) : Cdc U (Mmu × Unit)).enc (r.2.2, ())) none] })
noncomputable def xTsave_reader_mmu_0 (r : (Reader × Mmu × Mmu)) : Tree (Ex × St U) := .leaf (xSsave_reader_mmu_0 r)
noncomputable def hsave_reader_mmu_0 : Hd := { keep := [0, 2, 3, 9], xkeep := [0, 2, 3], own := false }
noncomputable def Psave_reader_mmu_1 (x : (Unit) × (Unit) × (Unit) × (Int × Unit) × (Int × Unit) × (Int × Unit) × Unit) (g : (Reader × Unit) × (Mmu × Unit) × (Mmu × Unit) × Unit) : Ssave_reader_mmu_1 := Ssave_reader_mmu_1.mk x.2.2.2.1.1 x.2.2.2.2.1.1 x.2.2.2.2.2.1.1 g.1.1 g.2.1.1 g.2.2.1.1
noncomputable def tAsave_reader_mmu_1 : Tms U ((Unit) × (Unit) × (Unit) × (Int × Unit) × (Int × Unit) × (Int × Unit) × Unit) := tO 0 (cK (.ptr 0 0) (cUnit)) (tO 2 (cK (.ptr 1 0) (cUnit)) (tO 3 (cK (.ptr 2 0) (cUnit)) (tO 4 (cPair (cInt .i64) (cUnit)) (tO 9 (cPair (cInt .i64) (cUnit)) (tO 12 (cPair (cInt .i64) (cUnit)) (tNil))))))
noncomputable def tBsave_reader_mmu_1 : Bls U ((Reader × Unit) × (Mmu × Unit) × (Mmu × Unit) × Unit) := bC (cPair cReader (cUnit)) (bC (cPair cMmu (cUnit)) (bC (cPair cMmu (cUnit)) (bNil)))
noncomputable def eSsave_reader_mmu_1 (s : Ssave_reader_mmu_1) : St U := { tm := [(0, .v (vO (cK (.ptr 0 0) (cUnit)) (()))), (2, .v (vO (cK (.ptr 1 0) (cUnit)) (()))), (3, .v (vO (cK (.ptr 2 0) (cUnit)) (()))), (4, .v (vO (cPair (cInt .i64) (cUnit)) (s.t4, ()))), (9, .v (vO (cPair (cInt .i64) (cUnit)) (s.t9, ()))), (12, .v (vO (cPair (cInt .i64) (cUnit)) (s.t12, ())))], hp := [.cells ((cPair cReader (cUnit) : Cdc U (Reader × Unit)).enc (s.b0, ())) none, .cells ((cPair cMmu (cUnit) : Cdc U (Mmu × Unit)).enc (s.b1, ())) none, .cells ((cPair cMmu (cUnit) : Cdc U (Mmu × Unit)).enc (s.b2, ())) none] }
noncomputable def xSsave_reader_mmu_1 (r : (Int × Reader × Mmu × Mmu)) : Ex × St U := (.exit 2, { tm := [(0, .v (vO (cK (.ptr 0 0) (cUnit)) (()))), (2, .v (vO (cK (.ptr 1 0) (cUnit)) (()))), (3, .v (vO (cK (.ptr 2 0) (cUnit)) (()))), (9, .v (vO (cPair (cInt .i64) (cUnit)) (r.1, ())))], hp := [.cells ((cPair cReader (cUnit) : Cdc U (Reader × Unit)).enc (r.2.1, ())) none, .cells ((cPair cMmu (cUnit) : Cdc U (Mmu × Unit)).enc (r.2.2.1, ())) none, .cells ((cPair cMmu (cUnit) : Cdc U (Mmu × Unit)).enc (r.2.2.2, ())) none] })
noncomputable def xTsave_reader_mmu_1 (r : (Int × Reader × Mmu × Mmu)) : Tree (Ex × St U) := .leaf (xSsave_reader_mmu_1 r)
noncomputable def hsave_reader_mmu_1 : Hd := { keep := [0, 2, 3, 4, 9, 12], xkeep := [0, 2, 3, 9], own := false }
noncomputable def Esave_reader_mmu : Env U := { P := Tryd.prog, cd := cd, fns := (addF 44 false (Ssave_reader_num) (addF 39 false (Ssave_reader_truth) (addF 37 false (Ssave_reader_word) fns73))), lps := (addL 0 hsave_reader_mmu_0 (mkLoop tAsave_reader_mmu_0 tBsave_reader_mmu_0 Psave_reader_mmu_0 (Lsave_reader_mmu_0 none) xTsave_reader_mmu_0) (addL 1 hsave_reader_mmu_1 (mkLoop tAsave_reader_mmu_1 tBsave_reader_mmu_1 Psave_reader_mmu_1 (Lsave_reader_mmu_1 none) xTsave_reader_mmu_1) noL)), frz := fun _r => false, nt := 38, n0 := 1, fps := fun _r _i => bif Nat.beq _r 8 && Nat.beq _i 3 then .wr [0] 3 else bif Nat.beq _r 8 && Nat.beq _i 5 then .wr [0] 3 else bif Nat.beq _r 8 && Nat.beq _i 7 then .wr [0] 3 else bif Nat.beq _r 8 && Nat.beq _i 9 then .wr [0] 3 else bif Nat.beq _r 8 && Nat.beq _i 11 then .rd [] else bif Nat.beq _r 8 && Nat.beq _i 12 then .rd [2] else .none }
noncomputable def Bsave_reader_mmu_0 : Code := (loopAt (Tryd.f38.body.getD .skip) 0 0).getD .skip
theorem roundsave_reader_mmu_0 (s : Ssave_reader_mmu_0) : round Esave_reader_mmu hsave_reader_mmu_0 Bsave_reader_mmu_0 0 (eSsave_reader_mmu_0 s) = (Wsave_reader_mmu_0 none s).map (sumE eSsave_reader_mmu_0 xSsave_reader_mmu_0) := by kernel_rfl
theorem lpsave_reader_mmu_0 : LpOk Esave_reader_mmu Bsave_reader_mmu_0 0 := mkLoop_ok (A := tAsave_reader_mmu_0) (B := tBsave_reader_mmu_0) (f := Psave_reader_mmu_0) (L := Lsave_reader_mmu_0 none) (tO_ok (cK_ok cUnit_ok) (tO_ok (cK_ok cUnit_ok) (tO_ok (cK_ok cUnit_ok) (tO_ok (cPair_ok (cInt_ok .i64) cUnit_ok) tNil_ok)))) (bC_ok (cPair_ok cReader_ok cUnit_ok) (bC_ok (cPair_ok cMmu_ok cUnit_ok) (bC_ok (cPair_ok cMmu_ok cUnit_ok) bNil_ok))) (enc := eSsave_reader_mmu_0) (out := xTsave_reader_mmu_0) (outS := xSsave_reader_mmu_0) (step := Wsave_reader_mmu_0 none) (fun _ => rfl) (fun _ _ => by kernel_rfl) (by kernel_rfl) (fun _ => rfl) roundsave_reader_mmu_0
noncomputable def Bsave_reader_mmu_1 : Code := (loopAt (Tryd.f38.body.getD .skip) 0 1).getD .skip
theorem roundsave_reader_mmu_1 (s : Ssave_reader_mmu_1) : round Esave_reader_mmu hsave_reader_mmu_1 Bsave_reader_mmu_1 1 (eSsave_reader_mmu_1 s) = (Wsave_reader_mmu_1 none s).map (sumE eSsave_reader_mmu_1 xSsave_reader_mmu_1) := by kernel_rfl
theorem lpsave_reader_mmu_1 : LpOk Esave_reader_mmu Bsave_reader_mmu_1 1 := mkLoop_ok (A := tAsave_reader_mmu_1) (B := tBsave_reader_mmu_1) (f := Psave_reader_mmu_1) (L := Lsave_reader_mmu_1 none) (tO_ok (cK_ok cUnit_ok) (tO_ok (cK_ok cUnit_ok) (tO_ok (cK_ok cUnit_ok) (tO_ok (cPair_ok (cInt_ok .i64) cUnit_ok) (tO_ok (cPair_ok (cInt_ok .i64) cUnit_ok) (tO_ok (cPair_ok (cInt_ok .i64) cUnit_ok) tNil_ok)))))) (bC_ok (cPair_ok cReader_ok cUnit_ok) (bC_ok (cPair_ok cMmu_ok cUnit_ok) (bC_ok (cPair_ok cMmu_ok cUnit_ok) bNil_ok))) (enc := eSsave_reader_mmu_1) (out := xTsave_reader_mmu_1) (outS := xSsave_reader_mmu_1) (step := Wsave_reader_mmu_1 none) (fun _ => rfl) (fun _ _ => by kernel_rfl) (by kernel_rfl) (fun _ => rfl) roundsave_reader_mmu_1
theorem rnsave_reader_mmu (g0 : Reader) : execX false Esave_reader_mmu Tryd.f38 (Asave_reader_mmu.enc ()) (Gsave_reader_mmu.enc (g0, ())) = (Tsave_reader_mmu none g0).map (Rsave_reader_mmu () (g0, ())) := by kernel_rfl
theorem runsave_reader_mmu : ∀ (x : Unit) (g : Reader × Unit), execX false Esave_reader_mmu Tryd.f38 (Asave_reader_mmu.enc x) (Gsave_reader_mmu.enc g) = (Tsave_reader_mmu none g.1).map (Rsave_reader_mmu x g)
  | (), (g0, ()) => rnsave_reader_mmu g0
theorem oksave_reader_mmu : FnOk Tryd.prog cd 38 Ssave_reader_mmu := mk_okG (E := Esave_reader_mmu) (A := Asave_reader_mmu) (B := Gsave_reader_mmu) false cd_ok (addF_ok oksave_reader_num (addF_ok oksave_reader_truth (addF_ok oksave_reader_word fns73_ok))) Tryd.func38 (by kernel_rfl) (loops_of (addL_ok lpsave_reader_mmu_0 (addL_ok lpsave_reader_mmu_1 noL_ok))) (aP_ok (aNil_ok)) (bC_ok cReader_ok bNil_ok) (T := fun (x : Unit) (g : Reader × Unit) => Tsave_reader_mmu none g.1) (fun _ _ => rfl) runsave_reader_mmu
/-- emulator/octet.GetText -/
noncomputable def Toctet_GetText (q : Option Nat) (x0 : (List UInt8)) (x1 : Int) : Tree ((List UInt8) × Int × Int) :=
  .opt (Int × Int × Int) (octet_Get q x0 x1 (2 : Int)) fun r393 =>
    .ite (!decide (r393.2.2 = (0 : Int)))
      (.leaf ((([] : List UInt8), (0 : Int), r393.2.2)))
      (.ite (decide ((IntKind.wrap .i64 ((x0.length : Int) - r393.2.1)) < r393.1))
        (.leaf ((([] : List UInt8), (0 : Int), (8 : Int))))
        (.ite (decide (0 ≤ r393.2.1))
          (.ite (decide (r393.2.1 ≤ ((x0.length : Nat) : Int)))
            (.ite (decide (0 ≤ r393.1))
              (.ite (decide (r393.1 ≤ ((((x0.drop ((r393.2.1).toNat)).take (x0.length - (r393.2.1).toNat)).length : Nat) : Int)))
                (.leaf (((((x0.drop ((r393.2.1).toNat)).take (x0.length - (r393.2.1).toNat)).drop (0)).take ((r393.1).toNat - 0), IntKind.wrap .i64 (r393.2.1 + r393.1), (0 : Int))))
                .fail)
              .fail)
            .fail)
          .fail))
noncomputable def octet_GetText (q : Option Nat) (x0 : (List UInt8)) (x1 : Int) : Option ((List UInt8) × Int × Int) := (Toctet_GetText q x0 x1).run
theorem leoctet_GetText (k : Nat) (x0 : (List UInt8)) (x1 : Int) : Le (octet_GetText (some k) x0 x1) (octet_GetText none x0 x1) := (TLe.opt (leoctet_Get k _ _ _) fun _ => TLe.rfl)
noncomputable def Aoctet_GetText : Arg U ((List UInt8) × Int × Unit) := aO cStr (aO (cInt .i64) (aNil))
noncomputable def Goctet_GetText : Bls U (Unit) := bNil
noncomputable def Roctet_GetText (_x : (List UInt8) × Int × Unit) (_g : Unit) (r : ((List UInt8) × Int × Int)) : List (V U) × List (Blk U) := ([vO (cPair cStr (cUnit)) (r.1, ()), vO (cPair (cInt .i64) (cUnit)) (r.2.1, ()), vO (cPair (cInt .i64) (cUnit)) (r.2.2, ())], [])
noncomputable def Soctet_GetText : List (V U) → List (Blk U) → Option (FnOut U) := mkSpecG Aoctet_GetText Goctet_GetText (fun x _ => octet_GetText none x.1 x.2.1) Roctet_GetText
noncomputable def Eoctet_GetText : Env U := { P := Tryd.prog, cd := cd, fns := fns73, lps := noL, frz := fun _r => false, nt := 34, n0 := 0 }
theorem rnoctet_GetText (x0 : (List UInt8)) (x1 : Int) : execX false Eoctet_GetText Tryd.f90 (Aoctet_GetText.enc (x0, x1, ())) (Goctet_GetText.enc ()) = (Toctet_GetText none x0 x1).map (Roctet_GetText (x0, x1, ()) ()) := by kernel_rfl
theorem runoctet_GetText : ∀ (x : (List UInt8) × Int × Unit) (g : Unit), execX false Eoctet_GetText Tryd.f90 (Aoctet_GetText.enc x) (Goctet_GetText.enc g) = (Toctet_GetText none x.1 x.2.1).map (Roctet_GetText x g)
  | (x0, x1, ()), () => rnoctet_GetText x0 x1
theorem okoctet_GetText : FnOk Tryd.prog cd 90 Soctet_GetText := mk_okG (E := Eoctet_GetText) (A := Aoctet_GetText) (B := Goctet_GetText) false cd_ok fns73_ok Tryd.func90 (by kernel_rfl) (noLoops_body (by kernel_rfl)) (aO_ok cStr_ok (aO_ok (cInt_ok .i64) (aNil_ok))) bNil_ok (T := fun (x : (List UInt8) × Int × Unit) (_ : Unit) => Toctet_GetText none x.1 x.2.1) (fun _ _ => rfl) runoctet_GetText
/-- (*emulator/save.reader).text -/
noncomputable def Tsave_reader_text (q : Option Nat) (g0 : Reader) : Tree ((List UInt8) × Reader) :=
  .opt ((List UInt8) × Int × Int) (octet_GetText q g0.s g0.at_) fun r394 =>
    .ite (!decide (r394.2.2 = (0 : Int)))
      (.leaf ((([] : List UInt8), Reader.mk g0.s g0.at_ true)))
      (.leaf ((r394.1, Reader.mk g0.s r394.2.1 g0.bad)))
noncomputable def save_reader_text (q : Option Nat) (g0 : Reader) : Option ((List UInt8) × Reader) := (Tsave_reader_text q g0).run
theorem lesave_reader_text (k : Nat) (g0 : Reader) : Le (save_reader_text (some k) g0) (save_reader_text none g0) := (TLe.opt (leoctet_GetText k _ _) fun _ => TLe.rfl)
noncomputable def Asave_reader_text : Arg U (Unit) := aP 0 0 (aNil)
noncomputable def Gsave_reader_text : Bls U (Reader × Unit) := bC cReader (bNil)
noncomputable def Rsave_reader_text (_x : Unit) (_g : Reader × Unit) (r : ((List UInt8) × Reader)) : List (V U) × List (Blk U) := ([vO (cPair cStr (cUnit)) (r.1, ())], [.cells ((cPair cReader (cUnit) : Cdc U (Reader × Unit)).enc (r.2, ())) none])
noncomputable def Ssave_reader_text : List (V U) → List (Blk U) → Option (FnOut U) := mkSpecG Asave_reader_text Gsave_reader_text (fun x g => save_reader_text none g.1) Rsave_reader_text
noncomputable def Esave_reader_text : Env U := { P := Tryd.prog, cd := cd, fns := (addF 90 false (Soctet_GetText) fns73), lps := noL, frz := fun _r => false, nt := 29, n0 := 1 }
theorem rnsave_reader_text (g0 : Reader) : execX false Esave_reader_text Tryd.f71 (Asave_reader_text.enc ()) (Gsave_reader_text.enc (g0, ())) = (Tsave_reader_text none g0).map (Rsave_reader_text () (g0, ())) := by kernel_rfl
theorem runsave_reader_text : ∀ (x : Unit) (g : Reader × Unit), execX false Esave_reader_text Tryd.f71 (Asave_reader_text.enc x) (Gsave_reader_text.enc g) = (Tsave_reader_text none g.1).map (Rsave_reader_text x g)
  | (), (g0, ()) => rnsave_reader_text g0
theorem oksave_reader_text : FnOk Tryd.prog cd 71 Ssave_reader_text := mk_okG (E := Esave_reader_text) (A := Asave_reader_text) (B := Gsave_reader_text) false cd_ok (addF_ok okoctet_GetText fns73_ok) Tryd.func71 (by kernel_rfl) (noLoops_body (by kernel_rfl)) (aP_ok (aNil_ok)) (bC_ok cReader_ok bNil_ok) (T := fun (x : Unit) (g : Reader × Unit) => Tsave_reader_text none g.1) (fun _ _ => rfl) runsave_reader_text
/-- (*emulator/save.reader).line -/
noncomputable def Tsave_reader_line (q : Option Nat) (g0 : Reader) : Tree (Line × Reader) :=
  .opt (Bool × Reader) (save_reader_truth q g0) fun r395 =>
    .opt (Bool × Reader) (save_reader_truth q r395.2) fun r396 =>
      .opt (Bool × Reader) (save_reader_truth q r396.2) fun r397 =>
        .opt (Int × Reader) (save_reader_num q (1 : Int) r397.2) fun r398 =>
          .opt (Bool × Reader) (save_reader_truth q r398.2) fun r399 =>
            .opt (Bool × Reader) (save_reader_truth q r399.2) fun r400 =>
              .opt (Int × Reader) (save_reader_num q (1 : Int) r400.2) fun r401 =>
                .opt (Int × Reader) (save_reader_num q (1 : Int) r401.2) fun r402 =>
                  .opt ((List UInt8) × Reader) (save_reader_text q r402.2) fun r403 =>
                    .leaf ((Line.mk r395.1 r396.1 r397.1 r398.1 r399.1 r400.1 r401.1 r402.1 r403.1, r403.2))
noncomputable def save_reader_line (q : Option Nat) (g0 : Reader) : Option (Line × Reader) := (Tsave_reader_line q g0).run
theorem lesave_reader_line (k : Nat) (g0 : Reader) : Le (save_reader_line (some k) g0) (save_reader_line none g0) := (TLe.opt (lesave_reader_truth k _) fun _ => (TLe.opt (lesave_reader_truth k _) fun _ => (TLe.opt (lesave_reader_truth k _) fun _ => (TLe.opt (lesave_reader_num k _ _) fun _ => (TLe.opt (lesave_reader_truth k _) fun _ => (TLe.opt (lesave_reader_truth k _) fun _ => (TLe.opt (lesave_reader_num k _ _) fun _ => (TLe.opt (lesave_reader_num k _ _) fun _ => (TLe.opt (lesave_reader_text k _) fun _ => TLe.rfl)))))))))
noncomputable def Asave_reader_line : Arg U (Unit) := aP 0 0 (aNil)
noncomputable def Gsave_reader_line : Bls U (Reader × Unit) := bC cReader (bNil)
noncomputable def Rsave_reader_line (_x : Unit) (_g : Reader × Unit) (r : (Line × Reader)) : List (V U) × List (Blk U) := ([vA (cPair cLine (cUnit)) (r.1, ())], [.cells ((cPair cReader (cUnit) : Cdc U (Reader × Unit)).enc (r.2, ())) none])
noncomputable def Ssave_reader_line : List (V U) → List (Blk U) → Option (FnOut U) := mkSpecG Asave_reader_line Gsave_reader_line (fun x g => save_reader_line none g.1) Rsave_reader_line
noncomputable def Esave_reader_line : Env U := { P := Tryd.prog, cd := cd, fns := (addF 71 false (Ssave_reader_text) (addF 44 false (Ssave_reader_num) (addF 39 false (Ssave_reader_truth) fns73))), lps := noL, frz := fun _r => false, nt := 22, n0 := 1 }
theorem rnsave_reader_line (g0 : Reader) : execX false Esave_reader_line Tryd.f41 (Asave_reader_line.enc ()) (Gsave_reader_line.enc (g0, ())) = (Tsave_reader_line none g0).map (Rsave_reader_line () (g0, ())) := by kernel_rfl
theorem runsave_reader_line : ∀ (x : Unit) (g : Reader × Unit), execX false Esave_reader_line Tryd.f41 (Asave_reader_line.enc x) (Gsave_reader_line.enc g) = (Tsave_reader_line none g.1).map (Rsave_reader_line x g)
  | (), (g0, ()) => rnsave_reader_line g0
theorem oksave_reader_line : FnOk Tryd.prog cd 41 Ssave_reader_line := mk_okG (E := Esave_reader_line) (A := Asave_reader_line) (B := Gsave_reader_line) false cd_ok (addF_ok oksave_reader_text (addF_ok oksave_reader_num (addF_ok oksave_reader_truth fns73_ok))) Tryd.func41 (by kernel_rfl) (noLoops_body (by kernel_rfl)) (aP_ok (aNil_ok)) (bC_ok cReader_ok bNil_ok) (T := fun (x : Unit) (g : Reader × Unit) => Tsave_reader_line none g.1) (fun _ _ => rfl) runsave_reader_line
/-- emulator/save.listed[emulator/api.Line] -/
structure Ssave_listed_api_Line_0 where
  t6 : Int
  b0 : Reader
  b1 : (List Line)
noncomputable def Wsave_listed_api_Line_0 (q : Option Nat) (s : Ssave_listed_api_Line_0) : Tree (Ssave_listed_api_Line_0 ⊕ (Reader × (List Line))) :=
  .ite (decide ((0 : Int) < s.t6))
    (.ite (!s.b0.bad)
      (.opt (Line × Reader) (save_reader_line q s.b0) fun r407 =>
        .ite (decide ((s.b1.length + ([r407.1]).length) * 56 ≤ 140737488355328))
          (.leaf (.inl (Ssave_listed_api_Line_0.mk (IntKind.wrap .i64 (s.t6 - (1 : Int))) r407.2 (s.b1 ++ ([r407.1])))))
          .fail)
      (.leaf (.inr (s.b0, s.b1))))
    (.leaf (.inr (s.b0, s.b1)))
noncomputable def Lsave_listed_api_Line_0 (q : Option Nat) (s : Ssave_listed_api_Line_0) : Option (Reader × (List Line)) := limQ q (fun s => (Wsave_listed_api_Line_0 q s).run) s
theorem leLsave_listed_api_Line_0 (k : Nat) (s : Ssave_listed_api_Line_0) : Le (Lsave_listed_api_Line_0 (some k) s) (Lsave_listed_api_Line_0 none s) := limQ_le (fun s => (TLe.ite (TLe.ite (TLe.opt (lesave_reader_line k _) fun _ => TLe.rfl) TLe.rfl) TLe.rfl)) s
noncomputable def Tsave_listed_api_Line (q : Option Nat) (g0 : Reader) : Tree ((List Line) × Reader) :=
  .opt (Int × Reader) (save_reader_word q g0) fun r406 =>
    .opt (Reader × (List Line)) (Lsave_listed_api_Line_0 q (Ssave_listed_api_Line_0.mk r406.1 r406.2 ([]))) fun l408 =>
      .leaf ((l408.2, l408.1))
noncomputable def save_listed_api_Line (q : Option Nat) (g0 : Reader) : Option ((List Line) × Reader) := (Tsave_listed_api_Line q g0).run
theorem lesave_listed_api_Line (k : Nat) (g0 : Reader) : Le (save_listed_api_Line (some k) g0) (save_listed_api_Line none g0) := (TLe.opt (lesave_reader_word k _) fun _ => (TLe.opt (leLsave_listed_api_Line_0 k _) fun _ => TLe.rfl))
noncomputable def Asave_listed_api_Line : Arg U (Unit) := aP 0 0 (aKF (.fn 41 [(.ptr 0 0)] []) (aNil))
noncomputable def Gsave_listed_api_Line : Bls U (Reader × Unit) := bC cReader (bNil)
noncomputable def Rsave_listed_api_Line (_x : Unit) (_g : Reader × Unit) (r : ((List Line) × Reader)) : List (V U) × List (Blk U) := ([vO (cPair (cSl 51) (cUnit)) (r.1, ())], [.cells ((cPair cReader (cUnit) : Cdc U (Reader × Unit)).enc (r.2, ())) none])
noncomputable def Ssave_listed_api_Line : List (V U) → List (Blk U) → Option (FnOut U) := mkSpecG Asave_listed_api_Line Gsave_listed_api_Line (fun x g => save_listed_api_Line none g.1) Rsave_listed_api_Line
noncomputable def Psave_listed_api_Line_0 (x : (Unit) × (Unit) × (Unit) × (Int × Unit) × Unit) (g : (Reader × Unit) × (List Line) × Unit) : Ssave_listed_api_Line_0 := Ssave_listed_api_Line_0.mk x.2.2.2.1.1 g.1.1 g.2.1
noncomputable def tAsave_listed_api_Line_0 : Tms U ((Unit) × (Unit) × (Unit) × (Int × Unit) × Unit) := tO 0 (cK (.ptr 0 0) (cUnit)) (tO 1 (cK2 (.fn 41 [(.ptr 0 0)] []) (cUnit)) (tO 5 (cK (.row 1 0) (cUnit)) (tO 6 (cPair (cInt .i64) (cUnit)) (tNil))))
noncomputable def tBsave_listed_api_Line_0 : Bls U ((Reader × Unit) × (List Line) × Unit) := bC (cPair cReader (cUnit)) (bRv 51 0 (bNil))
noncomputable def eSsave_listed_api_Line_0 (s : Ssave_listed_api_Line_0) : St U := { tm := [(0, .v (vO (cK (.ptr 0 0) (cUnit)) (()))), (1, .v (vO (cK2 (.fn 41 [(.ptr 0 0)] []) (cUnit)) (()))), (5, .v (vO (cK (.row 1 0) (cUnit)) (()))), (6, .v (vO (cPair (cInt .i64) (cUnit)) (s.t6, ())))], hp := [.cells ((cPair cReader (cUnit) : Cdc U (Reader × Unit)).enc (s.b0, ())) none, .row 51 0 s.b1] }
noncomputable def xSsave_listed_api_Line_0 (r : (Reader × (List Line))) : Ex × St U := (.exit 0, { tm := [(5, .v (vO (cK (.row 1 0) (cUnit)) (())))], hp := [.cells ((cPair cReader (cUnit) : Cdc U (Reader × Unit)).enc (r.1, ())) none, .row 51 0 r.2] })
noncomputable def xTsave_listed_api_Line_0 (r : (Reader × (List Line))) : Tree (Ex × St U) := .leaf (xSsave_listed_api_Line_0 r)
noncomputable def hsave_listed_api_Line_0 : Hd := { keep := [0, 1, 5, 6], xkeep := [4, 5], own := true }
noncomputable def Esave_listed_api_Line : Env U := { P := Tryd.prog, cd := cd, fns := (addF 41 false (Ssave_reader_line) (addF 37 false (Ssave_reader_word) fns73)), lps := (addL 0 hsave_listed_api_Line_0 (mkLoop tAsave_listed_api_Line_0 tBsave_listed_api_Line_0 Psave_listed_api_Line_0 (Lsave_listed_api_Line_0 none) xTsave_listed_api_Line_0) noL), frz := fun _r => false, nt := 26, n0 := 1 }
noncomputable def Bsave_listed_api_Line_0 : Code := (loopAt (Tryd.f40.body.getD .skip) 0 0).getD .skip
theorem roundsave_listed_api_Line_0 (s : Ssave_listed_api_Line_0) : round Esave_listed_api_Line hsave_listed_api_Line_0 Bsave_listed_api_Line_0 0 (eSsave_listed_api_Line_0 s) = (Wsave_listed_api_Line_0 none s).map (sumE eSsave_listed_api_Line_0 xSsave_listed_api_Line_0) := by kernel_rfl
theorem lpsave_listed_api_Line_0 : LpOk Esave_listed_api_Line Bsave_listed_api_Line_0 0 := mkLoop_ok (A := tAsave_listed_api_Line_0) (B := tBsave_listed_api_Line_0) (f := Psave_listed_api_Line_0) (L := Lsave_listed_api_Line_0 none) (tO_ok (cK_ok cUnit_ok) (tO_ok (cK2_ok cUnit_ok) (tO_ok (cK_ok cUnit_ok) (tO_ok (cPair_ok (cInt_ok .i64) cUnit_ok) tNil_ok)))) (bC_ok (cPair_ok cReader_ok cUnit_ok) (bRv_ok bNil_ok)) (enc := eSsave_listed_api_Line_0) (out := xTsave_listed_api_Line_0) (outS := xSsave_listed_api_Line_0) (step := Wsave_listed_api_Line_0 none) (fun _ => rfl) (fun _ _ => by kernel_rfl) (by kernel_rfl) (fun _ => rfl) roundsave_listed_api_Line_0
theorem rnsave_listed_api_Line (g0 : Reader) : execX false Esave_listed_api_Line Tryd.f40 (Asave_listed_api_Line.enc ()) (Gsave_listed_api_Line.enc (g0, ())) = (Tsave_listed_api_Line none g0).map (Rsave_listed_api_Line () (g0, ())) := by kernel_rfl
theorem runsave_listed_api_Line : ∀ (x : Unit) (g : Reader × Unit), execX false Esave_listed_api_Line Tryd.f40 (Asave_listed_api_Line.enc x) (Gsave_listed_api_Line.enc g) = (Tsave_listed_api_Line none g.1).map (Rsave_listed_api_Line x g)
  | (), (g0, ()) => rnsave_listed_api_Line g0
theorem oksave_listed_api_Line : FnOk Tryd.prog cd 40 Ssave_listed_api_Line := mk_okG (E := Esave_listed_api_Line) (A := Asave_listed_api_Line) (B := Gsave_listed_api_Line) false cd_ok (addF_ok oksave_reader_line (addF_ok oksave_reader_word fns73_ok)) Tryd.func40 (by kernel_rfl) (loops_of (addL_ok lpsave_listed_api_Line_0 noL_ok)) (aP_ok (aKF_ok (aNil_ok))) (bC_ok cReader_ok bNil_ok) (T := fun (x : Unit) (g : Reader × Unit) => Tsave_listed_api_Line none g.1) (fun _ _ => rfl) runsave_listed_api_Line
/-- emulator/save.listed[string] -/
structure Ssave_listed_string_0 where
  t6 : Int
  b0 : Reader
  b1 : (List (List UInt8))
noncomputable def Wsave_listed_string_0 (q : Option Nat) (s : Ssave_listed_string_0) : Tree (Ssave_listed_string_0 ⊕ (Reader × (List (List UInt8)))) :=
  .ite (decide ((0 : Int) < s.t6))
    (.ite (!s.b0.bad)
      (.opt ((List UInt8) × Reader) (save_reader_text q s.b0) fun r423 =>
        .ite (decide ((s.b1.length + ([r423.1]).length) * 16 ≤ 140737488355328))
          (.leaf (.inl (Ssave_listed_string_0.mk (IntKind.wrap .i64 (s.t6 - (1 : Int))) r423.2 (s.b1 ++ ([r423.1])))))
          .fail)
      (.leaf (.inr (s.b0, s.b1))))
    (.leaf (.inr (s.b0, s.b1)))
noncomputable def Lsave_listed_string_0 (q : Option Nat) (s : Ssave_listed_string_0) : Option (Reader × (List (List UInt8))) := limQ q (fun s => (Wsave_listed_string_0 q s).run) s
theorem leLsave_listed_string_0 (k : Nat) (s : Ssave_listed_string_0) : Le (Lsave_listed_string_0 (some k) s) (Lsave_listed_string_0 none s) := limQ_le (fun s => (TLe.ite (TLe.ite (TLe.opt (lesave_reader_text k _) fun _ => TLe.rfl) TLe.rfl) TLe.rfl)) s
noncomputable def Tsave_listed_string (q : Option Nat) (g0 : Reader) : Tree ((List (List UInt8)) × Reader) :=
  .opt (Int × Reader) (save_reader_word q g0) fun r422 =>
    .opt (Reader × (List (List UInt8))) (Lsave_listed_string_0 q (Ssave_listed_string_0.mk r422.1 r422.2 ([]))) fun l424 =>
      .leaf ((l424.2, l424.1))
noncomputable def save_listed_string (q : Option Nat) (g0 : Reader) : Option ((List (List UInt8)) × Reader) := (Tsave_listed_string q g0).run
theorem lesave_listed_string (k : Nat) (g0 : Reader) : Le (save_listed_string (some k) g0) (save_listed_string none g0) := (TLe.opt (lesave_reader_word k _) fun _ => (TLe.opt (leLsave_listed_string_0 k _) fun _ => TLe.rfl))
noncomputable def Asave_listed_string : Arg U (Unit) := aP 0 0 (aKF (.fn 71 [(.ptr 0 0)] []) (aNil))
noncomputable def Gsave_listed_string : Bls U (Reader × Unit) := bC cReader (bNil)
noncomputable def Rsave_listed_string (_x : Unit) (_g : Reader × Unit) (r : ((List (List UInt8)) × Reader)) : List (V U) × List (Blk U) := ([vO (cPair (cSl 9) (cUnit)) (r.1, ())], [.cells ((cPair cReader (cUnit) : Cdc U (Reader × Unit)).enc (r.2, ())) none])
noncomputable def Ssave_listed_string : List (V U) → List (Blk U) → Option (FnOut U) := mkSpecG Asave_listed_string Gsave_listed_string (fun x g => save_listed_string none g.1) Rsave_listed_string
noncomputable def Psave_listed_string_0 (x : (Unit) × (Unit) × (Unit) × (Int × Unit) × Unit) (g : (Reader × Unit) × (List (List UInt8)) × Unit) : Ssave_listed_string_0 := Ssave_listed_string_0.mk x.2.2.2.1.1 g.1.1 g.2.1
noncomputable def tAsave_listed_string_0 : Tms U ((Unit) × (Unit) × (Unit) × (Int × Unit) × Unit) := tO 0 (cK (.ptr 0 0) (cUnit)) (tO 1 (cK2 (.fn 71 [(.ptr 0 0)] []) (cUnit)) (tO 5 (cK (.row 1 0) (cUnit)) (tO 6 (cPair (cInt .i64) (cUnit)) (tNil))))
noncomputable def tBsave_listed_string_0 : Bls U ((Reader × Unit) × (List (List UInt8)) × Unit) := bC (cPair cReader (cUnit)) (bRv 9 0 (bNil))
noncomputable def eSsave_listed_string_0 (s : Ssave_listed_string_0) : St U := { tm := [(0, .v (vO (cK (.ptr 0 0) (cUnit)) (()))), (1, .v (vO (cK2 (.fn 71 [(.ptr 0 0)] []) (cUnit)) (()))), (5, .v (vO (cK (.row 1 0) (cUnit)) (()))), (6, .v (vO (cPair (cInt .i64) (cUnit)) (s.t6, ())))], hp := [.cells ((cPair cReader (cUnit) : Cdc U (Reader × Unit)).enc (s.b0, ())) none, .row 9 0 s.b1] }
noncomputable def xSsave_listed_string_0 (r : (Reader × (List (List UInt8)))) : Ex × St U := (.exit 0, { tm := [(5, .v (vO (cK (.row 1 0) (cUnit)) (())))], hp := [.cells ((cPair cReader (cUnit) : Cdc U (Reader × Unit)).enc (r.1, ())) none, .row 9 0 r.2] })
noncomputable def xTsave_listed_string_0 (r : (Reader × (List (List UInt8)))) : Tree (Ex × St U) := .leaf (xSsave_listed_string_0 r)
noncomputable def hsave_listed_string_0 : Hd := { keep := [0, 1, 5, 6], xkeep := [4, 5], own := true }
noncomputable def Esave_listed_string : Env U := { P := Tryd.prog, cd := cd, fns := (addF 71 false (Ssave_reader_text) (addF 37 false (Ssave_reader_word) fns73)), lps := (addL 0 hsave_listed_string_0 (mkLoop tAsave_listed_string_0 tBsave_listed_string_0 Psave_listed_string_0 (Lsave_listed_string_0 none) xTsave_listed_string_0) noL), frz := fun _r => false, nt := 26, n0 := 1 }
noncomputable def Bsave_listed_string_0 : Code := (loopAt (Tryd.f72.body.getD .skip) 0 0).getD .skip
theorem roundsave_listed_string_0 (s : Ssave_listed_string_0) : round Esave_listed_string hsave_listed_string_0 Bsave_listed_string_0 0 (eSsave_listed_string_0 s) = (Wsave_listed_string_0 none s).map (sumE eSsave_listed_string_0 xSsave_listed_string_0) := by kernel_rfl
theorem lpsave_listed_string_0 : LpOk Esave_listed_string Bsave_listed_string_0 0 := mkLoop_ok (A := tAsave_listed_string_0) (B := tBsave_listed_string_0) (f := Psave_listed_string_0) (L := Lsave_listed_string_0 none) (tO_ok (cK_ok cUnit_ok) (tO_ok (cK2_ok cUnit_ok) (tO_ok (cK_ok cUnit_ok) (tO_ok (cPair_ok (cInt_ok .i64) cUnit_ok) tNil_ok)))) (bC_ok (cPair_ok cReader_ok cUnit_ok) (bRv_ok bNil_ok)) (enc := eSsave_listed_string_0) (out := xTsave_listed_string_0) (outS := xSsave_listed_string_0) (step := Wsave_listed_string_0 none) (fun _ => rfl) (fun _ _ => by kernel_rfl) (by kernel_rfl) (fun _ => rfl) roundsave_listed_string_0
theorem rnsave_listed_string (g0 : Reader) : execX false Esave_listed_string Tryd.f72 (Asave_listed_string.enc ()) (Gsave_listed_string.enc (g0, ())) = (Tsave_listed_string none g0).map (Rsave_listed_string () (g0, ())) := by kernel_rfl
theorem runsave_listed_string : ∀ (x : Unit) (g : Reader × Unit), execX false Esave_listed_string Tryd.f72 (Asave_listed_string.enc x) (Gsave_listed_string.enc g) = (Tsave_listed_string none g.1).map (Rsave_listed_string x g)
  | (), (g0, ()) => rnsave_listed_string g0
theorem oksave_listed_string : FnOk Tryd.prog cd 72 Ssave_listed_string := mk_okG (E := Esave_listed_string) (A := Asave_listed_string) (B := Gsave_listed_string) false cd_ok (addF_ok oksave_reader_text (addF_ok oksave_reader_word fns73_ok)) Tryd.func72 (by kernel_rfl) (loops_of (addL_ok lpsave_listed_string_0 noL_ok)) (aP_ok (aKF_ok (aNil_ok))) (bC_ok cReader_ok bNil_ok) (T := fun (x : Unit) (g : Reader × Unit) => Tsave_listed_string none g.1) (fun _ _ => rfl) runsave_listed_string
/-- (*emulator/save.reader).disk -/
noncomputable def Tsave_reader_disk (q : Option Nat) (g0 : Reader) : Tree (Disk × Reader) :=
  .opt ((List (List UInt8)) × Reader) (save_listed_string q g0) fun r425 =>
    .opt ((List Int) × Reader) (save_listed_int q r425.2) fun r426 =>
      .opt (Bool × Reader) (save_reader_truth q r426.2) fun r427 =>
        .opt (Bool × Reader) (save_reader_truth q r427.2) fun r428 =>
          .opt (Bool × Reader) (save_reader_truth q r428.2) fun r429 =>
            .opt (Int × Reader) (save_reader_num q (1 : Int) r429.2) fun r430 =>
              .opt (Int × Reader) (save_reader_word q r430.2) fun r431 =>
                .opt (Int × Reader) (save_reader_word q r431.2) fun r432 =>
                  .opt (Int × Reader) (save_reader_word q r432.2) fun r433 =>
                    .opt (Int × Reader) (save_reader_num q (1 : Int) r433.2) fun r434 =>
                      .leaf ((Disk.mk (Drive.mk r425.1 r426.1) r427.1 r428.1 r429.1 r430.1 r431.1 r432.1 r433.1 r434.1, r434.2))
noncomputable def save_reader_disk (q : Option Nat) (g0 : Reader) : Option (Disk × Reader) := (Tsave_reader_disk q g0).run
theorem lesave_reader_disk (k : Nat) (g0 : Reader) : Le (save_reader_disk (some k) g0) (save_reader_disk none g0) := (TLe.opt (lesave_listed_string k _) fun _ => (TLe.opt (lesave_listed_int k _) fun _ => (TLe.opt (lesave_reader_truth k _) fun _ => (TLe.opt (lesave_reader_truth k _) fun _ => (TLe.opt (lesave_reader_truth k _) fun _ => (TLe.opt (lesave_reader_num k _ _) fun _ => (TLe.opt (lesave_reader_word k _) fun _ => (TLe.opt (lesave_reader_word k _) fun _ => (TLe.opt (lesave_reader_word k _) fun _ => (TLe.opt (lesave_reader_num k _ _) fun _ => TLe.rfl))))))))))
noncomputable def Asave_reader_disk : Arg U (Unit) := aP 0 0 (aNil)
noncomputable def Gsave_reader_disk : Bls U (Reader × Unit) := bC cReader (bNil)
noncomputable def Rsave_reader_disk (_x : Unit) (_g : Reader × Unit) (r : (Disk × Reader)) : List (V U) × List (Blk U) := ([vA (cPair cDisk (cUnit)) (r.1, ())], [.cells ((cPair cReader (cUnit) : Cdc U (Reader × Unit)).enc (r.2, ())) none])
noncomputable def Ssave_reader_disk : List (V U) → List (Blk U) → Option (FnOut U) := mkSpecG Asave_reader_disk Gsave_reader_disk (fun x g => save_reader_disk none g.1) Rsave_reader_disk
noncomputable def Esave_reader_disk : Env U := { P := Tryd.prog, cd := cd, fns := (addF 72 false (Ssave_listed_string) (addF 44 false (Ssave_reader_num) (addF 39 false (Ssave_reader_truth) (addF 37 false (Ssave_reader_word) (addF 36 false (Ssave_listed_int) fns73))))), lps := noL, frz := fun _r => false, nt := 31, n0 := 1, fps := fun _r _i => bif Nat.beq _r 2 && Nat.beq _i 0 then .rd [2] else bif Nat.beq _r 2 && Nat.beq _i 2 then .wr [0] 3 else bif Nat.beq _r 2 && Nat.beq _i 4 then .wr [0] 3 else bif Nat.beq _r 2 && Nat.beq _i 6 then .wr [0] 3 else bif Nat.beq _r 2 && Nat.beq _i 8 then .wr [0] 3 else bif Nat.beq _r 2 && Nat.beq _i 10 then .wr [0] 3 else bif Nat.beq _r 2 && Nat.beq _i 12 then .wr [0] 3 else bif Nat.beq _r 2 && Nat.beq _i 14 then .wr [0] 3 else bif Nat.beq _r 2 && Nat.beq _i 16 then .wr [0] 3 else .none }
theorem rnsave_reader_disk (g0 : Reader) : execX false Esave_reader_disk Tryd.f42 (Asave_reader_disk.enc ()) (Gsave_reader_disk.enc (g0, ())) = (Tsave_reader_disk none g0).map (Rsave_reader_disk () (g0, ())) := by kernel_rfl
theorem runsave_reader_disk : ∀ (x : Unit) (g : Reader × Unit), execX false Esave_reader_disk Tryd.f42 (Asave_reader_disk.enc x) (Gsave_reader_disk.enc g) = (Tsave_reader_disk none g.1).map (Rsave_reader_disk x g)
  | (), (g0, ()) => rnsave_reader_disk g0
theorem oksave_reader_disk : FnOk Tryd.prog cd 42 Ssave_reader_disk := mk_okG (E := Esave_reader_disk) (A := Asave_reader_disk) (B := Gsave_reader_disk) false cd_ok (addF_ok oksave_listed_string (addF_ok oksave_reader_num (addF_ok oksave_reader_truth (addF_ok oksave_reader_word (addF_ok oksave_listed_int fns73_ok))))) Tryd.func42 (by kernel_rfl) (noLoops_body (by kernel_rfl)) (aP_ok (aNil_ok)) (bC_ok cReader_ok bNil_ok) (T := fun (x : Unit) (g : Reader × Unit) => Tsave_reader_disk none g.1) (fun _ _ => rfl) runsave_reader_disk
/-- (*emulator/save.reader).tape -/
noncomputable def Tsave_reader_tape (q : Option Nat) (g0 : Reader) : Tree (Tape × Reader) :=
  .opt ((List (List UInt8)) × Reader) (save_listed_string q g0) fun r447 =>
    .opt (Int × Reader) (save_reader_num q (1 : Int) r447.2) fun r448 =>
      .opt (Bool × Reader) (save_reader_truth q r448.2) fun r449 =>
        .opt (Bool × Reader) (save_reader_truth q r449.2) fun r450 =>
          .opt (Bool × Reader) (save_reader_truth q r450.2) fun r451 =>
            .opt (Bool × Reader) (save_reader_truth q r451.2) fun r452 =>
              .opt (Bool × Reader) (save_reader_truth q r452.2) fun r453 =>
                .opt (Int × Reader) (save_reader_num q (1 : Int) r453.2) fun r454 =>
                  .opt (Int × Reader) (save_reader_word q r454.2) fun r455 =>
                    .opt (Int × Reader) (save_reader_word q r455.2) fun r456 =>
                      .opt (Int × Reader) (save_reader_num q (1 : Int) r456.2) fun r457 =>
                        .leaf ((Tape.mk r447.1 r448.1 r449.1 r450.1 r451.1 r452.1 r453.1 r454.1 r455.1 r456.1 r457.1, r457.2))
noncomputable def save_reader_tape (q : Option Nat) (g0 : Reader) : Option (Tape × Reader) := (Tsave_reader_tape q g0).run
theorem lesave_reader_tape (k : Nat) (g0 : Reader) : Le (save_reader_tape (some k) g0) (save_reader_tape none g0) := (TLe.opt (lesave_listed_string k _) fun _ => (TLe.opt (lesave_reader_num k _ _) fun _ => (TLe.opt (lesave_reader_truth k _) fun _ => (TLe.opt (lesave_reader_truth k _) fun _ => (TLe.opt (lesave_reader_truth k _) fun _ => (TLe.opt (lesave_reader_truth k _) fun _ => (TLe.opt (lesave_reader_truth k _) fun _ => (TLe.opt (lesave_reader_num k _ _) fun _ => (TLe.opt (lesave_reader_word k _) fun _ => (TLe.opt (lesave_reader_word k _) fun _ => (TLe.opt (lesave_reader_num k _ _) fun _ => TLe.rfl)))))))))))
noncomputable def Asave_reader_tape : Arg U (Unit) := aP 0 0 (aNil)
noncomputable def Gsave_reader_tape : Bls U (Reader × Unit) := bC cReader (bNil)
noncomputable def Rsave_reader_tape (_x : Unit) (_g : Reader × Unit) (r : (Tape × Reader)) : List (V U) × List (Blk U) := ([vA (cPair cTape (cUnit)) (r.1, ())], [.cells ((cPair cReader (cUnit) : Cdc U (Reader × Unit)).enc (r.2, ())) none])
noncomputable def Ssave_reader_tape : List (V U) → List (Blk U) → Option (FnOut U) := mkSpecG Asave_reader_tape Gsave_reader_tape (fun x g => save_reader_tape none g.1) Rsave_reader_tape
noncomputable def Esave_reader_tape : Env U := { P := Tryd.prog, cd := cd, fns := (addF 72 false (Ssave_listed_string) (addF 44 false (Ssave_reader_num) (addF 39 false (Ssave_reader_truth) (addF 37 false (Ssave_reader_word) fns73)))), lps := noL, frz := fun _r => false, nt := 28, n0 := 1 }
theorem rnsave_reader_tape (g0 : Reader) : execX false Esave_reader_tape Tryd.f43 (Asave_reader_tape.enc ()) (Gsave_reader_tape.enc (g0, ())) = (Tsave_reader_tape none g0).map (Rsave_reader_tape () (g0, ())) := by kernel_rfl
theorem runsave_reader_tape : ∀ (x : Unit) (g : Reader × Unit), execX false Esave_reader_tape Tryd.f43 (Asave_reader_tape.enc x) (Gsave_reader_tape.enc g) = (Tsave_reader_tape none g.1).map (Rsave_reader_tape x g)
  | (), (g0, ()) => rnsave_reader_tape g0
theorem oksave_reader_tape : FnOk Tryd.prog cd 43 Ssave_reader_tape := mk_okG (E := Esave_reader_tape) (A := Asave_reader_tape) (B := Gsave_reader_tape) false cd_ok (addF_ok oksave_listed_string (addF_ok oksave_reader_num (addF_ok oksave_reader_truth (addF_ok oksave_reader_word fns73_ok)))) Tryd.func43 (by kernel_rfl) (noLoops_body (by kernel_rfl)) (aP_ok (aNil_ok)) (bC_ok cReader_ok bNil_ok) (T := fun (x : Unit) (g : Reader × Unit) => Tsave_reader_tape none g.1) (fun _ _ => rfl) runsave_reader_tape
/-- emulator/save.Decode -/
noncomputable def Tsave_Decode (q : Option Nat) (x0 : (List UInt8)) : Tree (Machine × Int) :=
  .opt ((List UInt8) × Int) (octet_Open q x0) fun r458 =>
    .ite (!decide (r458.2 = (0 : Int)))
      (.leaf ((Machine.mk (Cpu.mk (List.replicate 6 (0 : Int)) (List.replicate 2 (0 : Int)) 0 0) ([]) ([]) (Mmu.mk false (List.replicate 16 (Page.mk (0 : Int) (0 : Int) (0 : Int) false)) 0 0) (Clock.mk false false 0 0) ([]) (Disk.mk (Drive.mk ([]) ([])) false false false 0 0 0 0 0) (Tape.mk ([]) 0 false false false false false 0 0 0 0) 0 false false 0 false, r458.2)))
      (.opt Bool (strings_HasPrefix r458.1 ([69, 77, 85, 49] : List UInt8)) fun r459 =>
        .ite (!r459)
          (.leaf ((Machine.mk (Cpu.mk (List.replicate 6 (0 : Int)) (List.replicate 2 (0 : Int)) 0 0) ([]) ([]) (Mmu.mk false (List.replicate 16 (Page.mk (0 : Int) (0 : Int) (0 : Int) false)) 0 0) (Clock.mk false false 0 0) ([]) (Disk.mk (Drive.mk ([]) ([])) false false false 0 0 0 0 0) (Tape.mk ([]) 0 false false false false false 0 0 0 0) 0 false false 0 false, (9 : Int))))
          (.opt (Cpu × Reader) (save_reader_cpu q (Reader.mk r458.1 (4 : Int) false)) fun r460 =>
            .opt ((List Int) × Reader) (save_listed_int q r460.2) fun r461 =>
              .opt ((List Int) × Reader) (save_listed_int q r461.2) fun r462 =>
                .opt (Mmu × Reader) (save_reader_mmu q r462.2) fun r463 =>
                  .opt (Bool × Reader) (save_reader_truth q r463.2) fun r464 =>
                    .opt (Bool × Reader) (save_reader_truth q r464.2) fun r465 =>
                      .opt (Int × Reader) (save_reader_word q r465.2) fun r466 =>
                        .opt (Int × Reader) (save_reader_word q r466.2) fun r467 =>
                          .opt ((List Line) × Reader) (save_listed_api_Line q r467.2) fun r468 =>
                            .opt (Disk × Reader) (save_reader_disk q r468.2) fun r469 =>
                              .opt (Tape × Reader) (save_reader_tape q r469.2) fun r470 =>
                                .opt (Int × Reader) (save_reader_num q (6 : Int) r470.2) fun r471 =>
                                  .opt (Bool × Reader) (save_reader_truth q r471.2) fun r472 =>
                                    .opt (Bool × Reader) (save_reader_truth q r472.2) fun r473 =>
                                      .opt (Int × Reader) (save_reader_word q r473.2) fun r474 =>
                                        .opt (Bool × Reader) (save_reader_truth q r474.2) fun r475 =>
                                          .ite (r475.2.bad)
                                            (.leaf ((Machine.mk (Cpu.mk (List.replicate 6 (0 : Int)) (List.replicate 2 (0 : Int)) 0 0) ([]) ([]) (Mmu.mk false (List.replicate 16 (Page.mk (0 : Int) (0 : Int) (0 : Int) false)) 0 0) (Clock.mk false false 0 0) ([]) (Disk.mk (Drive.mk ([]) ([])) false false false 0 0 0 0 0) (Tape.mk ([]) 0 false false false false false 0 0 0 0) 0 false false 0 false, (9 : Int))))
                                            (.ite (!decide (r475.2.at_ = (r458.1.length : Int)))
                                              (.leaf ((Machine.mk (Cpu.mk (List.replicate 6 (0 : Int)) (List.replicate 2 (0 : Int)) 0 0) ([]) ([]) (Mmu.mk false (List.replicate 16 (Page.mk (0 : Int) (0 : Int) (0 : Int) false)) 0 0) (Clock.mk false false 0 0) ([]) (Disk.mk (Drive.mk ([]) ([])) false false false 0 0 0 0 0) (Tape.mk ([]) 0 false false false false false 0 0 0 0) 0 false false 0 false, (9 : Int))))
                                              (.opt Bool (machine_Right q (Machine.mk r460.1 r461.1 r462.1 r463.1 (Clock.mk r464.1 r465.1 r466.1 r467.1) r468.1 r469.1 r470.1 r471.1 r472.1 r473.1 r474.1 r475.1)) fun r476 =>
                                                .ite (!r476)
                                                  (.leaf ((Machine.mk (Cpu.mk (List.replicate 6 (0 : Int)) (List.replicate 2 (0 : Int)) 0 0) ([]) ([]) (Mmu.mk false (List.replicate 16 (Page.mk (0 : Int) (0 : Int) (0 : Int) false)) 0 0) (Clock.mk false false 0 0) ([]) (Disk.mk (Drive.mk ([]) ([])) false false false 0 0 0 0 0) (Tape.mk ([]) 0 false false false false false 0 0 0 0) 0 false false 0 false, (9 : Int))))
                                                  (.leaf ((Machine.mk r460.1 r461.1 r462.1 r463.1 (Clock.mk r464.1 r465.1 r466.1 r467.1) r468.1 r469.1 r470.1 r471.1 r472.1 r473.1 r474.1 r475.1, (0 : Int))))))))
noncomputable def save_Decode (q : Option Nat) (x0 : (List UInt8)) : Option (Machine × Int) := (Tsave_Decode q x0).run
theorem lesave_Decode (k : Nat) (x0 : (List UInt8)) : Le (save_Decode (some k) x0) (save_Decode none x0) := (TLe.opt (leoctet_Open k _) fun _ => (TLe.ite TLe.rfl (TLe.opt Le.rfl fun _ => (TLe.ite TLe.rfl (TLe.opt (lesave_reader_cpu k _) fun _ => (TLe.opt (lesave_listed_int k _) fun _ => (TLe.opt (lesave_listed_int k _) fun _ => (TLe.opt (lesave_reader_mmu k _) fun _ => (TLe.opt (lesave_reader_truth k _) fun _ => (TLe.opt (lesave_reader_truth k _) fun _ => (TLe.opt (lesave_reader_word k _) fun _ => (TLe.opt (lesave_reader_word k _) fun _ => (TLe.opt (lesave_listed_api_Line k _) fun _ => (TLe.opt (lesave_reader_disk k _) fun _ => (TLe.opt (lesave_reader_tape k _) fun _ => (TLe.opt (lesave_reader_num k _ _) fun _ => (TLe.opt (lesave_reader_truth k _) fun _ => (TLe.opt (lesave_reader_truth k _) fun _ => (TLe.opt (lesave_reader_word k _) fun _ => (TLe.opt (lesave_reader_truth k _) fun _ => (TLe.ite TLe.rfl (TLe.ite TLe.rfl (TLe.opt (lemachine_Right k _) fun _ => TLe.rfl)))))))))))))))))))))))
noncomputable def Asave_Decode : Arg U ((List UInt8) × Unit) := aO cStr (aNil)
noncomputable def Rsave_Decode (r : (Machine × Int)) : List (V U) × List (Blk U) := ([vA cMachine r.1, vO (cInt .i64) r.2], [])
noncomputable def Ssave_Decode : List (V U) → List (Blk U) → Option (FnOut U) := mkSpec Asave_Decode bNil (fun x _ => save_Decode none x.1) Rsave_Decode
noncomputable def Esave_Decode : Env U := { P := Tryd.prog, cd := cd, fns := (addF 44 false (Ssave_reader_num) (addF 43 false (Ssave_reader_tape) (addF 42 false (Ssave_reader_disk) (addF 40 false (Ssave_listed_api_Line) (addF 39 false (Ssave_reader_truth) (addF 38 false (Ssave_reader_mmu) (addF 37 false (Ssave_reader_word) (addF 36 false (Ssave_listed_int) (addF 35 false (Ssave_reader_cpu) fns73))))))))), lps := noL, frz := fun _r => false, nt := 93, n0 := 0 }
theorem runsave_Decode (x : (List UInt8) × Unit) (g : Unit) : execF Esave_Decode Tryd.f21 (Asave_Decode.enc x) (bNil.enc g) = (Tsave_Decode none x.1).map Rsave_Decode := by kernel_rfl
theorem oksave_Decode : FnOk Tryd.prog cd 21 Ssave_Decode := mk_ok (E := Esave_Decode) cd_ok (addF_ok oksave_reader_num (addF_ok oksave_reader_tape (addF_ok oksave_reader_disk (addF_ok oksave_listed_api_Line (addF_ok oksave_reader_truth (addF_ok oksave_reader_mmu (addF_ok oksave_reader_word (addF_ok oksave_listed_int (addF_ok oksave_reader_cpu fns73_ok))))))))) Tryd.func21 (by kernel_rfl) (noLoops_body (by kernel_rfl)) (aO_ok cStr_ok (aNil_ok)) bNil_ok (T := fun x _ => Tsave_Decode none x.1) (fun _ _ => rfl) runsave_Decode
noncomputable def fns21 := addF 21 true Ssave_Decode fns73
theorem fns21_ok : ∀ f q t, fns21 f = some (q, t) → FnOk Tryd.prog cd f t := addF_ok oksave_Decode fns73_ok
/-- emulator/emulatorlaw23.alive -/
noncomputable def Tlaw23_alive (q : Option Nat)  : Tree Bool :=
  .opt (Machine × Int) (machine_New q (256 : Int) (0 : Int) (1 : Int)) fun r484 =>
    .opt ((List UInt8) × Int) (save_Encode q r484.1) fun r485 =>
      .ite (!decide (r484.2 = (0 : Int)))
        (.leaf (false))
        (.ite (!decide (r485.2 = (0 : Int)))
          (.leaf (false))
          (.ite (decide ((r485.1.length : Int) < (28 : Int)))
            (.leaf (false))
            (.opt (Machine × Int) (save_Decode q r485.1) fun r486 =>
              .ite (decide (0 ≤ (10 : Int)))
                (.ite (decide ((10 : Int) ≤ ((r485.1.length : Nat) : Int)))
                  (.ite (decide (((r485.1.drop (0)).take (((10 : Int)).toNat - 0)).length + ([1] : List UInt8).length ≤ 9223372036854775807))
                    (.ite (decide (0 ≤ (11 : Int)))
                      (.ite (decide ((11 : Int) ≤ ((r485.1.length : Nat) : Int)))
                        (.ite (decide ((((r485.1.drop (0)).take (((10 : Int)).toNat - 0)) ++ ([1] : List UInt8)).length + ((r485.1.drop (((11 : Int)).toNat)).take (r485.1.length - ((11 : Int)).toNat)).length ≤ 9223372036854775807))
                          (.opt (Machine × Int) (save_Decode q ((((r485.1.drop (0)).take (((10 : Int)).toNat - 0)) ++ ([1] : List UInt8)) ++ ((r485.1.drop (((11 : Int)).toNat)).take (r485.1.length - ((11 : Int)).toNat)))) fun r487 =>
                            .opt (Machine × Int) (save_Decode q ([] : List UInt8)) fun r488 =>
                              .ite (decide (0 ≤ (24 : Int)))
                                (.ite (decide ((24 : Int) ≤ ((r485.1.length : Nat) : Int)))
                                  (.ite (decide (((r485.1.drop (0)).take (((24 : Int)).toNat - 0)) = ([69, 77, 85, 49, 0, 0, 0, 0, 0, 0, 0, 0, 0, 0, 0, 0, 0, 0, 0, 0, 0, 0, 0, 0] : List UInt8)))
                                    (.ite (decide (r486.2 = (0 : Int)))
                                      (.opt Bool (save_Same q r484.1 r486.1) fun r489 =>
                                        .ite (r489)
                                          (.ite (decide (r487.2 = (10 : Int)))
                                            (.ite (decide (r488.2 = (8 : Int)))
                                              (.opt (List (List UInt8)) (save_Diff q r484.1 (Machine.mk (Cpu.mk r484.1.cpu.r r484.1.cpu.sP (2 : Int) r484.1.cpu.pSW) r484.1.mem r484.1.bad r484.1.mmu r484.1.clock r484.1.lines r484.1.disk r484.1.tape (1 : Int) r484.1.halted r484.1.waiting r484.1.power r484.1.powerTrap)) fun r490 =>
                                                .opt Bool (ref02_Same q r490 ([([67, 112, 117] : List UInt8), ([78, 111, 119] : List UInt8)])) fun r491 =>
                                                  .ite (r491)
                                                    (.opt Bool (save_Same q r484.1 (Machine.mk (Cpu.mk r484.1.cpu.r r484.1.cpu.sP (2 : Int) r484.1.cpu.pSW) r484.1.mem r484.1.bad r484.1.mmu r484.1.clock r484.1.lines r484.1.disk r484.1.tape (1 : Int) r484.1.halted r484.1.waiting r484.1.power r484.1.powerTrap)) fun r492 =>
                                                      .leaf (!r492))
                                                    (.leaf (false)))
                                              (.leaf (false)))
                                            (.leaf (false)))
                                          (.leaf (false)))
                                      (.leaf (false)))
                                    (.leaf (false)))
                                  .fail)
                                .fail)
                          .fail)
                        .fail)
                      .fail)
                    .fail)
                  .fail)
                .fail)))
noncomputable def law23_alive (q : Option Nat)  : Option Bool := (Tlaw23_alive q ).run
theorem lelaw23_alive (k : Nat)  : Le (law23_alive (some k) ) (law23_alive none ) := (TLe.opt (lemachine_New k _ _ _) fun _ => (TLe.opt (lesave_Encode k _) fun _ => (TLe.ite TLe.rfl (TLe.ite TLe.rfl (TLe.ite TLe.rfl (TLe.opt (lesave_Decode k _) fun _ => (TLe.ite (TLe.ite (TLe.ite (TLe.ite (TLe.ite (TLe.ite (TLe.opt (lesave_Decode k _) fun _ => (TLe.opt (lesave_Decode k _) fun _ => (TLe.ite (TLe.ite (TLe.ite (TLe.ite (TLe.opt (lesave_Same k _ _) fun _ => (TLe.ite (TLe.ite (TLe.ite (TLe.opt (lesave_Diff k _ _) fun _ => (TLe.opt (leref02_Same k _ _) fun _ => (TLe.ite (TLe.opt (lesave_Same k _ _) fun _ => TLe.rfl) TLe.rfl))) TLe.rfl) TLe.rfl) TLe.rfl)) TLe.rfl) TLe.rfl) TLe.rfl) TLe.rfl))) TLe.rfl) TLe.rfl) TLe.rfl) TLe.rfl) TLe.rfl) TLe.rfl)))))))
noncomputable def Alaw23_alive : Arg U (Unit) := aNil
noncomputable def Rlaw23_alive (r : Bool) : List (V U) × List (Blk U) := ([vO cBool r], [])
noncomputable def Slaw23_alive : List (V U) → List (Blk U) → Option (FnOut U) := mkSpec Alaw23_alive bNil (fun x _ => law23_alive none ) Rlaw23_alive
noncomputable def Elaw23_alive : Env U := { P := Tryd.prog, cd := cd, fns := (addF 6 false (frzSpec Sref02_Same) fns21), lps := noL, frz := fun _r => false, nt := 88, n0 := 0 }
theorem runlaw23_alive (x : Unit) (g : Unit) : execF Elaw23_alive Tryd.f9 (Alaw23_alive.enc x) (bNil.enc g) = (Tlaw23_alive none ).map Rlaw23_alive := by kernel_rfl
theorem oklaw23_alive : FnOk Tryd.prog cd 9 Slaw23_alive := mk_ok (E := Elaw23_alive) cd_ok (addF_ok (fnOk_frz cd_ok (mkSpec_out fun _ => rfl) okref02_Same) fns21_ok) Tryd.func9 (by kernel_rfl) (noLoops_body (by kernel_rfl)) (aNil_ok) bNil_ok (T := fun x _ => Tlaw23_alive none ) (fun _ _ => rfl) runlaw23_alive
noncomputable def fns9 := addF 9 true Slaw23_alive fns21
theorem fns9_ok : ∀ f q t, fns9 f = some (q, t) → FnOk Tryd.prog cd f t := addF_ok oklaw23_alive fns21_ok
/-- emulator/emulatorlaw23.SaveCompares -/
noncomputable def Tlaw23_SaveCompares (q : Option Nat) (x0 : Machine) (x1 : Machine) : Tree Bool :=
  .opt Bool (ref23_Great q x0) fun r493 =>
    .ite (r493)
      (.leaf (true))
      (.opt Bool (ref23_Great q x1) fun r494 =>
        .ite (r494)
          (.leaf (true))
          (.opt (List (List UInt8)) (save_Diff q x0 x1) fun r495 =>
            .opt (List (List UInt8)) (ref23_Diff q x0 x1) fun r496 =>
              .opt Bool (ref02_Same q r495 r496) fun r497 =>
                .ite (r497)
                  (.opt Bool (save_Same q x0 x1) fun r498 =>
                    .ite ((r498 == (decide ((r495.length : Int) = (0 : Int)))))
                      (.opt Bool (save_Same q x0 x0) fun r499 =>
                        .ite (r499)
                          (.opt Bool (law23_alive q) fun r500 =>
                            .leaf (r500))
                          (.leaf (false)))
                      (.leaf (false)))
                  (.leaf (false))))
noncomputable def law23_SaveCompares (q : Option Nat) (x0 : Machine) (x1 : Machine) : Option Bool := (Tlaw23_SaveCompares q x0 x1).run
theorem lelaw23_SaveCompares (k : Nat) (x0 : Machine) (x1 : Machine) : Le (law23_SaveCompares (some k) x0 x1) (law23_SaveCompares none x0 x1) := (TLe.opt (leref23_Great k _) fun _ => (TLe.ite TLe.rfl (TLe.opt (leref23_Great k _) fun _ => (TLe.ite TLe.rfl (TLe.opt (lesave_Diff k _ _) fun _ => (TLe.opt (leref23_Diff k _ _) fun _ => (TLe.opt (leref02_Same k _ _) fun _ => (TLe.ite (TLe.opt (lesave_Same k _ _) fun _ => (TLe.ite (TLe.opt (lesave_Same k _ _) fun _ => (TLe.ite (TLe.opt (lelaw23_alive k) fun _ => TLe.rfl) TLe.rfl)) TLe.rfl)) TLe.rfl))))))))
noncomputable def Alaw23_SaveCompares : Arg U (Machine × Machine × Unit) := aA cMachine (aA cMachine (aNil))
noncomputable def Rlaw23_SaveCompares (r : Bool) : List (V U) × List (Blk U) := ([vO cBool r], [])
noncomputable def Slaw23_SaveCompares : List (V U) → List (Blk U) → Option (FnOut U) := mkSpec Alaw23_SaveCompares bNil (fun x _ => law23_SaveCompares none x.1 x.2.1) Rlaw23_SaveCompares
noncomputable def Elaw23_SaveCompares : Env U := { P := Tryd.prog, cd := cd, fns := fns9, lps := noL, frz := fun _r => false, nt := 37, n0 := 0 }
theorem runlaw23_SaveCompares (x : Machine × Machine × Unit) (g : Unit) : execF Elaw23_SaveCompares Tryd.f3 (Alaw23_SaveCompares.enc x) (bNil.enc g) = (Tlaw23_SaveCompares none x.1 x.2.1).map Rlaw23_SaveCompares := by kernel_rfl
theorem oklaw23_SaveCompares : FnOk Tryd.prog cd 3 Slaw23_SaveCompares := mk_ok (E := Elaw23_SaveCompares) cd_ok fns9_ok Tryd.func3 (by kernel_rfl) (noLoops_body (by kernel_rfl)) (aA_ok cMachine_ok (aA_ok cMachine_ok (aNil_ok))) bNil_ok (T := fun x _ => Tlaw23_SaveCompares none x.1 x.2.1) (fun _ _ => rfl) runlaw23_SaveCompares
noncomputable def fns3 := addF 3 true Slaw23_SaveCompares fns9
theorem fns3_ok : ∀ f q t, fns3 f = some (q, t) → FnOk Tryd.prog cd f t := addF_ok oklaw23_SaveCompares fns9_ok
end Go.Proofs.YtiafliookmnjoaaDoor
