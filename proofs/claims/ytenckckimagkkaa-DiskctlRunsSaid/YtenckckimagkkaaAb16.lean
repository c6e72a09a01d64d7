/- (goes on) -/
import Derived.Test.YtenckckimagkkaaAb16p0
set_option linter.unusedSimpArgs false
namespace Go.Proofs.Ytenckckimagkkaa
open Go Go.Ab
/-- emulator/emulatorref16.Tick -/
structure Sref16_Tick_0 where
  t2 : (List Int)
  t9 : Int
  t10 : (List UInt8)
  t14 : Int
  b0 : (List Int)
  b1 : Disk
  b2 : Disk
noncomputable def Wref16_Tick_0 (s : Sref16_Tick_0) : Tree (Sref16_Tick_0 ⊕ ((List Int) × Int × (List Int) × Disk × Disk)) :=
  .ite (decide (s.t14 < s.t9))
    (.ite (decide ((2 : Int) = 0))
      .fail
      (.opt Int (ref16_at s.t10 s.t14) fun r211 =>
        .ite (decide (0 ≤ IntKind.wrap .i64 ((IntKind.wrap .i64 ((s.b1.addr).tdiv (2 : Int))) + s.t14)))
          (.ite (decide (IntKind.wrap .i64 ((IntKind.wrap .i64 ((s.b1.addr).tdiv (2 : Int))) + s.t14) < (s.b0.length : Int)))
            (.opt Int (s.b0[(IntKind.wrap .i64 ((IntKind.wrap .i64 ((s.b1.addr).tdiv (2 : Int))) + s.t14)).toNat]?) fun y212 =>
              .leaf (.inl (Sref16_Tick_0.mk s.t2 s.t9 s.t10 (IntKind.wrap .i64 (s.t14 + (1 : Int))) (s.b0.set ((IntKind.wrap .i64 ((IntKind.wrap .i64 ((s.b1.addr).tdiv (2 : Int))) + s.t14)).toNat) r211) s.b1 s.b2)))
            .fail)
          .fail))
    (.leaf (.inr (s.t2, s.t9, s.b0, s.b1, s.b2)))
noncomputable def Lref16_Tick_0 (q : Option Nat) (s : Sref16_Tick_0) : Option ((List Int) × Int × (List Int) × Disk × Disk) := limQ q (fun s => (Wref16_Tick_0 s).run) s
theorem leLref16_Tick_0 (k : Nat) (s : Sref16_Tick_0) : Le (Lref16_Tick_0 (some k) s) (Lref16_Tick_0 none s) := limQ_le (fun _ => Le.rfl) s
structure Sref16_Tick_1 where
  t2 : (List Int)
  t9 : Int
  t16 : Int
  b0 : (List Int)
  b1 : Disk
  b2 : Disk
  b3 : (List Int)
noncomputable def Wref16_Tick_1 (s : Sref16_Tick_1) : Tree (Sref16_Tick_1 ⊕ (Int × (List Int) × Disk × Disk × (List Int))) :=
  .ite (decide (s.t16 < (s.t2.length : Int)))
    (.ite (decide (0 ≤ s.t16))
      (.opt Int (s.t2[(s.t16).toNat]?) fun y214 =>
        .ite (decide (y214 < s.b1.addr))
          (.ite (decide (0 ≤ s.t16))
            (.opt Int (s.t2[(s.t16).toNat]?) fun y216 =>
              .ite (decide ((s.b3.length + ([y216]).length) * 8 ≤ 140737488355328))
                (.leaf (.inl (Sref16_Tick_1.mk s.t2 s.t9 (IntKind.wrap .i64 (s.t16 + (1 : Int))) s.b0 s.b1 s.b2 (s.b3 ++ ([y216])))))
                .fail)
            .fail)
          (.ite (decide (0 ≤ s.t16))
            (.opt Int (s.t2[(s.t16).toNat]?) fun y215 =>
              .ite (decide ((IntKind.wrap .i64 (s.b1.addr + (IntKind.wrap .i64 ((2 : Int) * s.t9)))) ≤ y215))
                (.ite (decide (0 ≤ s.t16))
                  (.opt Int (s.t2[(s.t16).toNat]?) fun y217 =>
                    .ite (decide ((s.b3.length + ([y217]).length) * 8 ≤ 140737488355328))
                      (.leaf (.inl (Sref16_Tick_1.mk s.t2 s.t9 (IntKind.wrap .i64 (s.t16 + (1 : Int))) s.b0 s.b1 s.b2 (s.b3 ++ ([y217])))))
                      .fail)
                  .fail)
                (.leaf (.inl (Sref16_Tick_1.mk s.t2 s.t9 (IntKind.wrap .i64 (s.t16 + (1 : Int))) s.b0 s.b1 s.b2 s.b3))))
            .fail))
      .fail)
    (.leaf (.inr (s.t9, s.b0, s.b1, s.b2, s.b3)))
noncomputable def Lref16_Tick_1 (q : Option Nat) (s : Sref16_Tick_1) : Option (Int × (List Int) × Disk × Disk × (List Int)) := limQ q (fun s => (Wref16_Tick_1 s).run) s
theorem leLref16_Tick_1 (k : Nat) (s : Sref16_Tick_1) : Le (Lref16_Tick_1 (some k) s) (Lref16_Tick_1 none s) := limQ_le (fun _ => Le.rfl) s
noncomputable def Tref16_Tick (q : Option Nat) (x0 : Disk) (x1 : (List Int)) (x2 : (List Int)) : Tree (Disk × (List Int) × (List Int)) :=
  .ite (decide (x0.left = (0 : Int)))
    (.leaf ((x0, x1, x2)))
    (.ite (decide ((0 : Int) < (IntKind.wrap .i64 (x0.left - (1 : Int)))))
      (.leaf ((Disk.mk x0.drive x0.enable x0.ready x0.error x0.command x0.words x0.addr x0.start (IntKind.wrap .i64 (x0.left - (1 : Int))), x1, x2)))
      (.ite (decide ((64 : Int) < x0.words))
        (.ite (decide ((IntKind.wrap .i64 ((2 : Int) * (x1.length : Int))) < (IntKind.wrap .i64 (x0.addr + (IntKind.wrap .i64 ((2 : Int) * (64 : Int)))))))
          (.opt Disk (ref16_failed (Disk.mk x0.drive x0.enable x0.ready x0.error x0.command x0.words x0.addr x0.start (IntKind.wrap .i64 (x0.left - (1 : Int))))) fun r201 =>
            .leaf ((r201, x1, x2)))
          (.opt ((List UInt8) × Int) (ref15_Read q x0.drive x0.start) fun r202 =>
            .ite (!decide (x0.command = (2 : Int)))
              (.ite (!decide (r202.2 = (0 : Int)))
                (.opt Disk (ref16_failed (Disk.mk x0.drive x0.enable x0.ready x0.error x0.command x0.words x0.addr x0.start (IntKind.wrap .i64 (x0.left - (1 : Int))))) fun r203 =>
                  .leaf ((r203, x1, x2)))
                (.ite (!decide (x0.command = (1 : Int)))
                  (.opt Bool (ref16_spoilt q x2 x0.addr (64 : Int)) fun r204 =>
                    .ite (r204)
                      (.opt Disk (ref16_failed (Disk.mk x0.drive x0.enable x0.ready x0.error x0.command x0.words x0.addr x0.start (IntKind.wrap .i64 (x0.left - (1 : Int))))) fun r205 =>
                        .leaf ((r205, x1, x2)))
                      (.ite (decide (x0.command = (3 : Int)))
                        (.opt Bool (ref16_differs q x1 x0.addr (64 : Int) r202.1) fun r206 =>
                          .ite (r206)
                            (.opt Disk (ref16_failed (Disk.mk x0.drive x0.enable x0.ready x0.error x0.command x0.words x0.addr x0.start (IntKind.wrap .i64 (x0.left - (1 : Int))))) fun r207 =>
                              .leaf ((r207, x1, x2)))
                            (.ite (decide (x0.command = (2 : Int)))
                              (.opt (List UInt8) (ref16_sector q x1 x0.addr (64 : Int)) fun r208 =>
                                .opt (Drive × Int) (ref15_Write q x0.drive x0.start r208) fun r209 =>
                                  .ite (!decide (r209.2 = (0 : Int)))
                                    (.opt Disk (ref16_failed (Disk.mk x0.drive x0.enable x0.ready x0.error x0.command x0.words x0.addr x0.start (IntKind.wrap .i64 (x0.left - (1 : Int))))) fun r210 =>
                                      .leaf ((r210, x1, x2)))
                                    (.ite (decide (x0.command = (1 : Int)))
                                      (.ite (decide ((([] : List Int).length + x1.length) * 8 ≤ 140737488355328))
                                        (.opt ((List Int) × Int × (List Int) × Disk × Disk) (Lref16_Tick_0 q (Sref16_Tick_0.mk x2 (64 : Int) r202.1 (0 : Int) (([] : List Int) ++ x1) (Disk.mk r209.1 x0.enable x0.ready x0.error x0.command x0.words x0.addr x0.start (IntKind.wrap .i64 (x0.left - (1 : Int)))) (Disk.mk (Drive.mk ([]) ([])) false false false 0 0 0 0 0))) fun l213 =>
                                          .opt (Int × (List Int) × Disk × Disk × (List Int)) (Lref16_Tick_1 q (Sref16_Tick_1.mk l213.1 l213.2.1 (0 : Int) l213.2.2.1 l213.2.2.2.1 l213.2.2.2.2 ([]))) fun l218 =>
                                            .ite (decide ((65536 : Int) = 0))
                                              .fail
                                              (.ite (decide ((65536 : Int) = 0))
                                                .fail
                                                (.ite (decide ((IntKind.wrap .i64 (l218.2.2.1.words - l218.1)) = (0 : Int)))
                                                  (.leaf ((Disk.mk l218.2.2.1.drive l218.2.2.1.enable true l218.2.2.1.error l218.2.2.1.command (IntKind.wrap .i64 (l218.2.2.1.words - l218.1)) (((IntKind.wrap .i64 (l218.2.2.1.addr + (IntKind.wrap .i64 ((2 : Int) * l218.1))))).tmod (65536 : Int)) (((IntKind.wrap .i64 (l218.2.2.1.start + (1 : Int)))).tmod (65536 : Int)) l218.2.2.1.left, l218.2.1, l218.2.2.2.2)))
                                                  (.leaf ((Disk.mk l218.2.2.1.drive l218.2.2.1.enable l218.2.2.1.ready l218.2.2.1.error l218.2.2.1.command (IntKind.wrap .i64 (l218.2.2.1.words - l218.1)) (((IntKind.wrap .i64 (l218.2.2.1.addr + (IntKind.wrap .i64 ((2 : Int) * l218.1))))).tmod (65536 : Int)) (((IntKind.wrap .i64 (l218.2.2.1.start + (1 : Int)))).tmod (65536 : Int)) (8 : Int), l218.2.1, l218.2.2.2.2))))))
                                        .fail)
                                      (.ite (decide ((65536 : Int) = 0))
                                        .fail
                                        (.ite (decide ((65536 : Int) = 0))
                                          .fail
                                          (.ite (decide ((IntKind.wrap .i64 (x0.words - (64 : Int))) = (0 : Int)))
                                            (.leaf ((Disk.mk r209.1 x0.enable true x0.error x0.command (IntKind.wrap .i64 (x0.words - (64 : Int))) (((IntKind.wrap .i64 (x0.addr + (IntKind.wrap .i64 ((2 : Int) * (64 : Int)))))).tmod (65536 : Int)) (((IntKind.wrap .i64 (x0.start + (1 : Int)))).tmod (65536 : Int)) (IntKind.wrap .i64 (x0.left - (1 : Int))), x1, x2)))
                                            (.leaf ((Disk.mk r209.1 x0.enable x0.ready x0.error x0.command (IntKind.wrap .i64 (x0.words - (64 : Int))) (((IntKind.wrap .i64 (x0.addr + (IntKind.wrap .i64 ((2 : Int) * (64 : Int)))))).tmod (65536 : Int)) (((IntKind.wrap .i64 (x0.start + (1 : Int)))).tmod (65536 : Int)) (8 : Int), x1, x2))))))))
                              (.ite (decide (x0.command = (1 : Int)))
                                (.ite (decide ((([] : List Int).length + x1.length) * 8 ≤ 140737488355328))
                                  (.opt ((List Int) × Int × (List Int) × Disk × Disk) (Lref16_Tick_0 q (Sref16_Tick_0.mk x2 (64 : Int) r202.1 (0 : Int) (([] : List Int) ++ x1) (Disk.mk x0.drive x0.enable x0.ready x0.error x0.command x0.words x0.addr x0.start (IntKind.wrap .i64 (x0.left - (1 : Int)))) (Disk.mk (Drive.mk ([]) ([])) false false false 0 0 0 0 0))) fun l219 =>
                                    .opt (Int × (List Int) × Disk × Disk × (List Int)) (Lref16_Tick_1 q (Sref16_Tick_1.mk l219.1 l219.2.1 (0 : Int) l219.2.2.1 l219.2.2.2.1 l219.2.2.2.2 ([]))) fun l220 =>
                                      .ite (decide ((65536 : Int) = 0))
                                        .fail
                                        (.ite (decide ((65536 : Int) = 0))
                                          .fail
                                          (.ite (decide ((IntKind.wrap .i64 (l220.2.2.1.words - l220.1)) = (0 : Int)))
                                            (.leaf ((Disk.mk l220.2.2.1.drive l220.2.2.1.enable true l220.2.2.1.error l220.2.2.1.command (IntKind.wrap .i64 (l220.2.2.1.words - l220.1)) (((IntKind.wrap .i64 (l220.2.2.1.addr + (IntKind.wrap .i64 ((2 : Int) * l220.1))))).tmod (65536 : Int)) (((IntKind.wrap .i64 (l220.2.2.1.start + (1 : Int)))).tmod (65536 : Int)) l220.2.2.1.left, l220.2.1, l220.2.2.2.2)))
                                            (.leaf ((Disk.mk l220.2.2.1.drive l220.2.2.1.enable l220.2.2.1.ready l220.2.2.1.error l220.2.2.1.command (IntKind.wrap .i64 (l220.2.2.1.words - l220.1)) (((IntKind.wrap .i64 (l220.2.2.1.addr + (IntKind.wrap .i64 ((2 : Int) * l220.1))))).tmod (65536 : Int)) (((IntKind.wrap .i64 (l220.2.2.1.start + (1 : Int)))).tmod (65536 : Int)) (8 : Int), l220.2.1, l220.2.2.2.2))))))
                                  .fail)
                                (.ite (decide ((65536 : Int) = 0))
                                  .fail
                                  (.ite (decide ((65536 : Int) = 0))
                                    .fail
                                    (.ite (decide ((IntKind.wrap .i64 (x0.words - (64 : Int))) = (0 : Int)))
                                      (.leaf ((Disk.mk x0.drive x0.enable true x0.error x0.command (IntKind.wrap .i64 (x0.words - (64 : Int))) (((IntKind.wrap .i64 (x0.addr + (IntKind.wrap .i64 ((2 : Int) * (64 : Int)))))).tmod (65536 : Int)) (((IntKind.wrap .i64 (x0.start + (1 : Int)))).tmod (65536 : Int)) (IntKind.wrap .i64 (x0.left - (1 : Int))), x1, x2)))
                                      (.leaf ((Disk.mk x0.drive x0.enable x0.ready x0.error x0.command (IntKind.wrap .i64 (x0.words - (64 : Int))) (((IntKind.wrap .i64 (x0.addr + (IntKind.wrap .i64 ((2 : Int) * (64 : Int)))))).tmod (65536 : Int)) (((IntKind.wrap .i64 (x0.start + (1 : Int)))).tmod (65536 : Int)) (8 : Int), x1, x2)))))))))
                        (.ite (decide (x0.command = (2 : Int)))
                          (.opt (List UInt8) (ref16_sector q x1 x0.addr (64 : Int)) fun r221 =>
                            .opt (Drive × Int) (ref15_Write q x0.drive x0.start r221) fun r222 =>
                              .ite (!decide (r222.2 = (0 : Int)))
                                (.opt Disk (ref16_failed (Disk.mk x0.drive x0.enable x0.ready x0.error x0.command x0.words x0.addr x0.start (IntKind.wrap .i64 (x0.left - (1 : Int))))) fun r223 =>
                                  .leaf ((r223, x1, x2)))
                                (.ite (decide (x0.command = (1 : Int)))
                                  (.ite (decide ((([] : List Int).length + x1.length) * 8 ≤ 140737488355328))
                                    (.opt ((List Int) × Int × (List Int) × Disk × Disk) (Lref16_Tick_0 q (Sref16_Tick_0.mk x2 (64 : Int) r202.1 (0 : Int) (([] : List Int) ++ x1) (Disk.mk r222.1 x0.enable x0.ready x0.error x0.command x0.words x0.addr x0.start (IntKind.wrap .i64 (x0.left - (1 : Int)))) (Disk.mk (Drive.mk ([]) ([])) false false false 0 0 0 0 0))) fun l224 =>
                                      .opt (Int × (List Int) × Disk × Disk × (List Int)) (Lref16_Tick_1 q (Sref16_Tick_1.mk l224.1 l224.2.1 (0 : Int) l224.2.2.1 l224.2.2.2.1 l224.2.2.2.2 ([]))) fun l225 =>
                                        .ite (decide ((65536 : Int) = 0))
                                          .fail
                                          (.ite (decide ((65536 : Int) = 0))
                                            .fail
                                            (.ite (decide ((IntKind.wrap .i64 (l225.2.2.1.words - l225.1)) = (0 : Int)))
                                              (.leaf ((Disk.mk l225.2.2.1.drive l225.2.2.1.enable true l225.2.2.1.error l225.2.2.1.command (IntKind.wrap .i64 (l225.2.2.1.words - l225.1)) (((IntKind.wrap .i64 (l225.2.2.1.addr + (IntKind.wrap .i64 ((2 : Int) * l225.1))))).tmod (65536 : Int)) (((IntKind.wrap .i64 (l225.2.2.1.start + (1 : Int)))).tmod (65536 : Int)) l225.2.2.1.left, l225.2.1, l225.2.2.2.2)))
                                              (.leaf ((Disk.mk l225.2.2.1.drive l225.2.2.1.enable l225.2.2.1.ready l225.2.2.1.error l225.2.2.1.command (IntKind.wrap .i64 (l225.2.2.1.words - l225.1)) (((IntKind.wrap .i64 (l225.2.2.1.addr + (IntKind.wrap .i64 ((2 : Int) * l225.1))))).tmod (65536 : Int)) (((IntKind.wrap .i64 (l225.2.2.1.start + (1 : Int)))).tmod (65536 : Int)) (8 : Int), l225.2.1, l225.2.2.2.2))))))
                                    .fail)
                                  (.ite (decide ((65536 : Int) = 0))
                                    .fail
                                    (.ite (decide ((65536 : Int) = 0))
                                      .fail
                                      (.ite (decide ((IntKind.wrap .i64 (x0.words - (64 : Int))) = (0 : Int)))
                                        (.leaf ((Disk.mk r222.1 x0.enable true x0.error x0.command (IntKind.wrap .i64 (x0.words - (64 : Int))) (((IntKind.wrap .i64 (x0.addr + (IntKind.wrap .i64 ((2 : Int) * (64 : Int)))))).tmod (65536 : Int)) (((IntKind.wrap .i64 (x0.start + (1 : Int)))).tmod (65536 : Int)) (IntKind.wrap .i64 (x0.left - (1 : Int))), x1, x2)))
                                        (.leaf ((Disk.mk r222.1 x0.enable x0.ready x0.error x0.command (IntKind.wrap .i64 (x0.words - (64 : Int))) (((IntKind.wrap .i64 (x0.addr + (IntKind.wrap .i64 ((2 : Int) * (64 : Int)))))).tmod (65536 : Int)) (((IntKind.wrap .i64 (x0.start + (1 : Int)))).tmod (65536 : Int)) (8 : Int), x1, x2))))))))
                          (.ite (decide (x0.command = (1 : Int)))
                            (.ite (decide ((([] : List Int).length + x1.length) * 8 ≤ 140737488355328))
                              (.opt ((List Int) × Int × (List Int) × Disk × Disk) (Lref16_Tick_0 q (Sref16_Tick_0.mk x2 (64 : Int) r202.1 (0 : Int) (([] : List Int) ++ x1) (Disk.mk x0.drive x0.enable x0.ready x0.error x0.command x0.words x0.addr x0.start (IntKind.wrap .i64 (x0.left - (1 : Int)))) (Disk.mk (Drive.mk ([]) ([])) false false false 0 0 0 0 0))) fun l226 =>
                                .opt (Int × (List Int) × Disk × Disk × (List Int)) (Lref16_Tick_1 q (Sref16_Tick_1.mk l226.1 l226.2.1 (0 : Int) l226.2.2.1 l226.2.2.2.1 l226.2.2.2.2 ([]))) fun l227 =>
                                  .ite (decide ((65536 : Int) = 0))
                                    .fail
                                    (.ite (decide ((65536 : Int) = 0))
                                      .fail
                                      (.ite (decide ((IntKind.wrap .i64 (l227.2.2.1.words - l227.1)) = (0 : Int)))
                                        (.leaf ((Disk.mk l227.2.2.1.drive l227.2.2.1.enable true l227.2.2.1.error l227.2.2.1.command (IntKind.wrap .i64 (l227.2.2.1.words - l227.1)) (((IntKind.wrap .i64 (l227.2.2.1.addr + (IntKind.wrap .i64 ((2 : Int) * l227.1))))).tmod (65536 : Int)) (((IntKind.wrap .i64 (l227.2.2.1.start + (1 : Int)))).tmod (65536 : Int)) l227.2.2.1.left, l227.2.1, l227.2.2.2.2)))
                                        (.leaf ((Disk.mk l227.2.2.1.drive l227.2.2.1.enable l227.2.2.1.ready l227.2.2.1.error l227.2.2.1.command (IntKind.wrap .i64 (l227.2.2.1.words - l227.1)) (((IntKind.wrap .i64 (l227.2.2.1.addr + (IntKind.wrap .i64 ((2 : Int) * l227.1))))).tmod (65536 : Int)) (((IntKind.wrap .i64 (l227.2.2.1.start + (1 : Int)))).tmod (65536 : Int)) (8 : Int), l227.2.1, l227.2.2.2.2))))))
                              .fail)
                            (.ite (decide ((65536 : Int) = 0))
                              .fail
                              (.ite (decide ((65536 : Int) = 0))
                                .fail
                                (.ite (decide ((IntKind.wrap .i64 (x0.words - (64 : Int))) = (0 : Int)))
                                  (.leaf ((Disk.mk x0.drive x0.enable true x0.error x0.command (IntKind.wrap .i64 (x0.words - (64 : Int))) (((IntKind.wrap .i64 (x0.addr + (IntKind.wrap .i64 ((2 : Int) * (64 : Int)))))).tmod (65536 : Int)) (((IntKind.wrap .i64 (x0.start + (1 : Int)))).tmod (65536 : Int)) (IntKind.wrap .i64 (x0.left - (1 : Int))), x1, x2)))
                                  (.leaf ((Disk.mk x0.drive x0.enable x0.ready x0.error x0.command (IntKind.wrap .i64 (x0.words - (64 : Int))) (((IntKind.wrap .i64 (x0.addr + (IntKind.wrap .i64 ((2 : Int) * (64 : Int)))))).tmod (65536 : Int)) (((IntKind.wrap .i64 (x0.start + (1 : Int)))).tmod (65536 : Int)) (8 : Int), x1, x2))))))))))
                  (.ite (decide (x0.command = (3 : Int)))
                    (.opt Bool (ref16_differs q x1 x0.addr (64 : Int) r202.1) fun r228 =>
                      .ite (r228)
                        (.opt Disk (ref16_failed (Disk.mk x0.drive x0.enable x0.ready x0.error x0.command x0.words x0.addr x0.start (IntKind.wrap .i64 (x0.left - (1 : Int))))) fun r229 =>
                          .leaf ((r229, x1, x2)))
                        (.ite (decide (x0.command = (2 : Int)))
                          (.opt (List UInt8) (ref16_sector q x1 x0.addr (64 : Int)) fun r230 =>
                            .opt (Drive × Int) (ref15_Write q x0.drive x0.start r230) fun r231 =>
                              .ite (!decide (r231.2 = (0 : Int)))
                                (.opt Disk (ref16_failed (Disk.mk x0.drive x0.enable x0.ready x0.error x0.command x0.words x0.addr x0.start (IntKind.wrap .i64 (x0.left - (1 : Int))))) fun r232 =>
                                  .leaf ((r232, x1, x2)))
                                (.ite (decide (x0.command = (1 : Int)))
                                  (.ite (decide ((([] : List Int).length + x1.length) * 8 ≤ 140737488355328))
                                    (.opt ((List Int) × Int × (List Int) × Disk × Disk) (Lref16_Tick_0 q (Sref16_Tick_0.mk x2 (64 : Int) r202.1 (0 : Int) (([] : List Int) ++ x1) (Disk.mk r231.1 x0.enable x0.ready x0.error x0.command x0.words x0.addr x0.start (IntKind.wrap .i64 (x0.left - (1 : Int)))) (Disk.mk (Drive.mk ([]) ([])) false false false 0 0 0 0 0))) fun l233 =>
                                      .opt (Int × (List Int) × Disk × Disk × (List Int)) (Lref16_Tick_1 q (Sref16_Tick_1.mk l233.1 l233.2.1 (0 : Int) l233.2.2.1 l233.2.2.2.1 l233.2.2.2.2 ([]))) fun l234 =>
                                        .ite (decide ((65536 : Int) = 0))
                                          .fail
                                          (.ite (decide ((65536 : Int) = 0))
                                            .fail
                                            (.ite (decide ((IntKind.wrap .i64 (l234.2.2.1.words - l234.1)) = (0 : Int)))
                                              (.leaf ((Disk.mk l234.2.2.1.drive l234.2.2.1.enable true l234.2.2.1.error l234.2.2.1.command (IntKind.wrap .i64 (l234.2.2.1.words - l234.1)) (((IntKind.wrap .i64 (l234.2.2.1.addr + (IntKind.wrap .i64 ((2 : Int) * l234.1))))).tmod (65536 : Int)) (((IntKind.wrap .i64 (l234.2.2.1.start + (1 : Int)))).tmod (65536 : Int)) l234.2.2.1.left, l234.2.1, l234.2.2.2.2)))
                                              (.leaf ((Disk.mk l234.2.2.1.drive l234.2.2.1.enable l234.2.2.1.ready l234.2.2.1.error l234.2.2.1.command (IntKind.wrap .i64 (l234.2.2.1.words - l234.1)) (((IntKind.wrap .i64 (l234.2.2.1.addr + (IntKind.wrap .i64 ((2 : Int) * l234.1))))).tmod (65536 : Int)) (((IntKind.wrap .i64 (l234.2.2.1.start + (1 : Int)))).tmod (65536 : Int)) (8 : Int), l234.2.1, l234.2.2.2.2))))))
                                    .fail)
                                  (.ite (decide ((65536 : Int) = 0))
                                    .fail
                                    (.ite (decide ((65536 : Int) = 0))
                                      .fail
                                      (.ite (decide ((IntKind.wrap .i64 (x0.words - (64 : Int))) = (0 : Int)))
                                        (.leaf ((Disk.mk r231.1 x0.enable true x0.error x0.command (IntKind.wrap .i64 (x0.words - (64 : Int))) (((IntKind.wrap .i64 (x0.addr + (IntKind.wrap .i64 ((2 : Int) * (64 : Int)))))).tmod (65536 : Int)) (((IntKind.wrap .i64 (x0.start + (1 : Int)))).tmod (65536 : Int)) (IntKind.wrap .i64 (x0.left - (1 : Int))), x1, x2)))
                                        (.leaf ((Disk.mk r231.1 x0.enable x0.ready x0.error x0.command (IntKind.wrap .i64 (x0.words - (64 : Int))) (((IntKind.wrap .i64 (x0.addr + (IntKind.wrap .i64 ((2 : Int) * (64 : Int)))))).tmod (65536 : Int)) (((IntKind.wrap .i64 (x0.start + (1 : Int)))).tmod (65536 : Int)) (8 : Int), x1, x2))))))))
                          (.ite (decide (x0.command = (1 : Int)))
                            (.ite (decide ((([] : List Int).length + x1.length) * 8 ≤ 140737488355328))
                              (.opt ((List Int) × Int × (List Int) × Disk × Disk) (Lref16_Tick_0 q (Sref16_Tick_0.mk x2 (64 : Int) r202.1 (0 : Int) (([] : List Int) ++ x1) (Disk.mk x0.drive x0.enable x0.ready x0.error x0.command x0.words x0.addr x0.start (IntKind.wrap .i64 (x0.left - (1 : Int)))) (Disk.mk (Drive.mk ([]) ([])) false false false 0 0 0 0 0))) fun l235 =>
                                .opt (Int × (List Int) × Disk × Disk × (List Int)) (Lref16_Tick_1 q (Sref16_Tick_1.mk l235.1 l235.2.1 (0 : Int) l235.2.2.1 l235.2.2.2.1 l235.2.2.2.2 ([]))) fun l236 =>
                                  .ite (decide ((65536 : Int) = 0))
                                    .fail
                                    (.ite (decide ((65536 : Int) = 0))
                                      .fail
                                      (.ite (decide ((IntKind.wrap .i64 (l236.2.2.1.words - l236.1)) = (0 : Int)))
                                        (.leaf ((Disk.mk l236.2.2.1.drive l236.2.2.1.enable true l236.2.2.1.error l236.2.2.1.command (IntKind.wrap .i64 (l236.2.2.1.words - l236.1)) (((IntKind.wrap .i64 (l236.2.2.1.addr + (IntKind.wrap .i64 ((2 : Int) * l236.1))))).tmod (65536 : Int)) (((IntKind.wrap .i64 (l236.2.2.1.start + (1 : Int)))).tmod (65536 : Int)) l236.2.2.1.left, l236.2.1, l236.2.2.2.2)))
                                        (.leaf ((Disk.mk l236.2.2.1.drive l236.2.2.1.enable l236.2.2.1.ready l236.2.2.1.error l236.2.2.1.command (IntKind.wrap .i64 (l236.2.2.1.words - l236.1)) (((IntKind.wrap .i64 (l236.2.2.1.addr + (IntKind.wrap .i64 ((2 : Int) * l236.1))))).tmod (65536 : Int)) (((IntKind.wrap .i64 (l236.2.2.1.start + (1 : Int)))).tmod (65536 : Int)) (8 : Int), l236.2.1, l236.2.2.2.2))))))
                              .fail)
                            (.ite (decide ((65536 : Int) = 0))
                              .fail
                              (.ite (decide ((65536 : Int) = 0))
                                .fail
                                (.ite (decide ((IntKind.wrap .i64 (x0.words - (64 : Int))) = (0 : Int)))
                                  (.leaf ((Disk.mk x0.drive x0.enable true x0.error x0.command (IntKind.wrap .i64 (x0.words - (64 : Int))) (((IntKind.wrap .i64 (x0.addr + (IntKind.wrap .i64 ((2 : Int) * (64 : Int)))))).tmod (65536 : Int)) (((IntKind.wrap .i64 (x0.start + (1 : Int)))).tmod (65536 : Int)) (IntKind.wrap .i64 (x0.left - (1 : Int))), x1, x2)))
                                  (.leaf ((Disk.mk x0.drive x0.enable x0.ready x0.error x0.command (IntKind.wrap .i64 (x0.words - (64 : Int))) (((IntKind.wrap .i64 (x0.addr + (IntKind.wrap .i64 ((2 : Int) * (64 : Int)))))).tmod (65536 : Int)) (((IntKind.wrap .i64 (x0.start + (1 : Int)))).tmod (65536 : Int)) (8 : Int), x1, x2)))))))))
                    (.ite (decide (x0.command = (2 : Int)))
                      (.opt (List UInt8) (ref16_sector q x1 x0.addr (64 : Int)) fun r237 =>
                        .opt (Drive × Int) (ref15_Write q x0.drive x0.start r237) fun r238 =>
                          .ite (!decide (r238.2 = (0 : Int)))
                            (.opt Disk (ref16_failed (Disk.mk x0.drive x0.enable x0.ready x0.error x0.command x0.words x0.addr x0.start (IntKind.wrap .i64 (x0.left - (1 : Int))))) fun r239 =>
                              .leaf ((r239, x1, x2)))
                            (.ite (decide (x0.command = (1 : Int)))
                              (.ite (decide ((([] : List Int).length + x1.length) * 8 ≤ 140737488355328))
                                (.opt ((List Int) × Int × (List Int) × Disk × Disk) (Lref16_Tick_0 q (Sref16_Tick_0.mk x2 (64 : Int) r202.1 (0 : Int) (([] : List Int) ++ x1) (Disk.mk r238.1 x0.enable x0.ready x0.error x0.command x0.words x0.addr x0.start (IntKind.wrap .i64 (x0.left - (1 : Int)))) (Disk.mk (Drive.mk ([]) ([])) false false false 0 0 0 0 0))) fun l240 =>
                                  .opt (Int × (List Int) × Disk × Disk × (List Int)) (Lref16_Tick_1 q (Sref16_Tick_1.mk l240.1 l240.2.1 (0 : Int) l240.2.2.1 l240.2.2.2.1 l240.2.2.2.2 ([]))) fun l241 =>
                                    .ite (decide ((65536 : Int) = 0))
                                      .fail
                                      (.ite (decide ((65536 : Int) = 0))
                                        .fail
                                        (.ite (decide ((IntKind.wrap .i64 (l241.2.2.1.words - l241.1)) = (0 : Int)))
                                          (.leaf ((Disk.mk l241.2.2.1.drive l241.2.2.1.enable true l241.2.2.1.error l241.2.2.1.command (IntKind.wrap .i64 (l241.2.2.1.words - l241.1)) (((IntKind.wrap .i64 (l241.2.2.1.addr + (IntKind.wrap .i64 ((2 : Int) * l241.1))))).tmod (65536 : Int)) (((IntKind.wrap .i64 (l241.2.2.1.start + (1 : Int)))).tmod (65536 : Int)) l241.2.2.1.left, l241.2.1, l241.2.2.2.2)))
                                          (.leaf ((Disk.mk l241.2.2.1.drive l241.2.2.1.enable l241.2.2.1.ready l241.2.2.1.error l241.2.2.1.command (IntKind.wrap .i64 (l241.2.2.1.words - l241.1)) (((IntKind.wrap .i64 (l241.2.2.1.addr + (IntKind.wrap .i64 ((2 : Int) * l241.1))))).tmod (65536 : Int)) (((IntKind.wrap .i64 (l241.2.2.1.start + (1 : Int)))).tmod (65536 : Int)) (8 : Int), l241.2.1, l241.2.2.2.2))))))
                                .fail)
                              (.ite (decide ((65536 : Int) = 0))
                                .fail
                                (.ite (decide ((65536 : Int) = 0))
                                  .fail
                                  (.ite (decide ((IntKind.wrap .i64 (x0.words - (64 : Int))) = (0 : Int)))
                                    (.leaf ((Disk.mk r238.1 x0.enable true x0.error x0.command (IntKind.wrap .i64 (x0.words - (64 : Int))) (((IntKind.wrap .i64 (x0.addr + (IntKind.wrap .i64 ((2 : Int) * (64 : Int)))))).tmod (65536 : Int)) (((IntKind.wrap .i64 (x0.start + (1 : Int)))).tmod (65536 : Int)) (IntKind.wrap .i64 (x0.left - (1 : Int))), x1, x2)))
                                    (.leaf ((Disk.mk r238.1 x0.enable x0.ready x0.error x0.command (IntKind.wrap .i64 (x0.words - (64 : Int))) (((IntKind.wrap .i64 (x0.addr + (IntKind.wrap .i64 ((2 : Int) * (64 : Int)))))).tmod (65536 : Int)) (((IntKind.wrap .i64 (x0.start + (1 : Int)))).tmod (65536 : Int)) (8 : Int), x1, x2))))))))
                      (.ite (decide (x0.command = (1 : Int)))
                        (.ite (decide ((([] : List Int).length + x1.length) * 8 ≤ 140737488355328))
                          (.opt ((List Int) × Int × (List Int) × Disk × Disk) (Lref16_Tick_0 q (Sref16_Tick_0.mk x2 (64 : Int) r202.1 (0 : Int) (([] : List Int) ++ x1) (Disk.mk x0.drive x0.enable x0.ready x0.error x0.command x0.words x0.addr x0.start (IntKind.wrap .i64 (x0.left - (1 : Int)))) (Disk.mk (Drive.mk ([]) ([])) false false false 0 0 0 0 0))) fun l242 =>
                            .opt (Int × (List Int) × Disk × Disk × (List Int)) (Lref16_Tick_1 q (Sref16_Tick_1.mk l242.1 l242.2.1 (0 : Int) l242.2.2.1 l242.2.2.2.1 l242.2.2.2.2 ([]))) fun l243 =>
                              .ite (decide ((65536 : Int) = 0))
                                .fail
                                (.ite (decide ((65536 : Int) = 0))
                                  .fail
                                  (.ite (decide ((IntKind.wrap .i64 (l243.2.2.1.words - l243.1)) = (0 : Int)))
                                    (.leaf ((Disk.mk l243.2.2.1.drive l243.2.2.1.enable true l243.2.2.1.error l243.2.2.1.command (IntKind.wrap .i64 (l243.2.2.1.words - l243.1)) (((IntKind.wrap .i64 (l243.2.2.1.addr + (IntKind.wrap .i64 ((2 : Int) * l243.1))))).tmod (65536 : Int)) (((IntKind.wrap .i64 (l243.2.2.1.start + (1 : Int)))).tmod (65536 : Int)) l243.2.2.1.left, l243.2.1, l243.2.2.2.2)))
                                    (.leaf ((Disk.mk l243.2.2.1.drive l243.2.2.1.enable l243.2.2.1.ready l243.2.2.1.error l243.2.2.1.command (IntKind.wrap .i64 (l243.2.2.1.words - l243.1)) (((IntKind.wrap .i64 (l243.2.2.1.addr + (IntKind.wrap .i64 ((2 : Int) * l243.1))))).tmod (65536 : Int)) (((IntKind.wrap .i64 (l243.2.2.1.start + (1 : Int)))).tmod (65536 : Int)) (8 : Int), l243.2.1, l243.2.2.2.2))))))
                          .fail)
                        (.ite (decide ((65536 : Int) = 0))
                          .fail
                          (.ite (decide ((65536 : Int) = 0))
                            .fail
                            (.ite (decide ((IntKind.wrap .i64 (x0.words - (64 : Int))) = (0 : Int)))
                              (.leaf ((Disk.mk x0.drive x0.enable true x0.error x0.command (IntKind.wrap .i64 (x0.words - (64 : Int))) (((IntKind.wrap .i64 (x0.addr + (IntKind.wrap .i64 ((2 : Int) * (64 : Int)))))).tmod (65536 : Int)) (((IntKind.wrap .i64 (x0.start + (1 : Int)))).tmod (65536 : Int)) (IntKind.wrap .i64 (x0.left - (1 : Int))), x1, x2)))
                              (.leaf ((Disk.mk x0.drive x0.enable x0.ready x0.error x0.command (IntKind.wrap .i64 (x0.words - (64 : Int))) (((IntKind.wrap .i64 (x0.addr + (IntKind.wrap .i64 ((2 : Int) * (64 : Int)))))).tmod (65536 : Int)) (((IntKind.wrap .i64 (x0.start + (1 : Int)))).tmod (65536 : Int)) (8 : Int), x1, x2)))))))))))
              (.ite (!decide (x0.command = (1 : Int)))
                (.opt Bool (ref16_spoilt q x2 x0.addr (64 : Int)) fun r244 =>
                  .ite (r244)
                    (.opt Disk (ref16_failed (Disk.mk x0.drive x0.enable x0.ready x0.error x0.command x0.words x0.addr x0.start (IntKind.wrap .i64 (x0.left - (1 : Int))))) fun r245 =>
                      .leaf ((r245, x1, x2)))
                    (.ite (decide (x0.command = (3 : Int)))
                      (.opt Bool (ref16_differs q x1 x0.addr (64 : Int) r202.1) fun r246 =>
                        .ite (r246)
                          (.opt Disk (ref16_failed (Disk.mk x0.drive x0.enable x0.ready x0.error x0.command x0.words x0.addr x0.start (IntKind.wrap .i64 (x0.left - (1 : Int))))) fun r247 =>
                            .leaf ((r247, x1, x2)))
                          (.ite (decide (x0.command = (2 : Int)))
                            (.opt (List UInt8) (ref16_sector q x1 x0.addr (64 : Int)) fun r248 =>
                              .opt (Drive × Int) (ref15_Write q x0.drive x0.start r248) fun r249 =>
                                .ite (!decide (r249.2 = (0 : Int)))
                                  (.opt Disk (ref16_failed (Disk.mk x0.drive x0.enable x0.ready x0.error x0.command x0.words x0.addr x0.start (IntKind.wrap .i64 (x0.left - (1 : Int))))) fun r250 =>
                                    .leaf ((r250, x1, x2)))
                                  (.ite (decide (x0.command = (1 : Int)))
                                    (.ite (decide ((([] : List Int).length + x1.length) * 8 ≤ 140737488355328))
                                      (.opt ((List Int) × Int × (List Int) × Disk × Disk) (Lref16_Tick_0 q (Sref16_Tick_0.mk x2 (64 : Int) r202.1 (0 : Int) (([] : List Int) ++ x1) (Disk.mk r249.1 x0.enable x0.ready x0.error x0.command x0.words x0.addr x0.start (IntKind.wrap .i64 (x0.left - (1 : Int)))) (Disk.mk (Drive.mk ([]) ([])) false false false 0 0 0 0 0))) fun l251 =>
                                        .opt (Int × (List Int) × Disk × Disk × (List Int)) (Lref16_Tick_1 q (Sref16_Tick_1.mk l251.1 l251.2.1 (0 : Int) l251.2.2.1 l251.2.2.2.1 l251.2.2.2.2 ([]))) fun l252 =>
                                          .ite (decide ((65536 : Int) = 0))
                                            .fail
                                            (.ite (decide ((65536 : Int) = 0))
                                              .fail
                                              (.ite (decide ((IntKind.wrap .i64 (l252.2.2.1.words - l252.1)) = (0 : Int)))
                                                (.leaf ((Disk.mk l252.2.2.1.drive l252.2.2.1.enable true l252.2.2.1.error l252.2.2.1.command (IntKind.wrap .i64 (l252.2.2.1.words - l252.1)) (((IntKind.wrap .i64 (l252.2.2.1.addr + (IntKind.wrap .i64 ((2 : Int) * l252.1))))).tmod (65536 : Int)) (((IntKind.wrap .i64 (l252.2.2.1.start + (1 : Int)))).tmod (65536 : Int)) l252.2.2.1.left, l252.2.1, l252.2.2.2.2)))
                                                (.leaf ((Disk.mk l252.2.2.1.drive l252.2.2.1.enable l252.2.2.1.ready l252.2.2.1.error l252.2.2.1.command (IntKind.wrap .i64 (l252.2.2.1.words - l252.1)) (((IntKind.wrap .i64 (l252.2.2.1.addr + (IntKind.wrap .i64 ((2 : Int) * l252.1))))).tmod (65536 : Int)) (((IntKind.wrap .i64 (l252.2.2.1.start + (1 : Int)))).tmod (65536 : Int)) (8 : Int), l252.2.1, l252.2.2.2.2))))))
                                      .fail)
                                    (.ite (decide ((65536 : Int) = 0))
                                      .fail
                                      (.ite (decide ((65536 : Int) = 0))
                                        .fail
                                        (.ite (decide ((IntKind.wrap .i64 (x0.words - (64 : Int))) = (0 : Int)))
                                          (.leaf ((Disk.mk r249.1 x0.enable true x0.error x0.command (IntKind.wrap .i64 (x0.words - (64 : Int))) (((IntKind.wrap .i64 (x0.addr + (IntKind.wrap .i64 ((2 : Int) * (64 : Int)))))).tmod (65536 : Int)) (((IntKind.wrap .i64 (x0.start + (1 : Int)))).tmod (65536 : Int)) (IntKind.wrap .i64 (x0.left - (1 : Int))), x1, x2)))
                                          (.leaf ((Disk.mk r249.1 x0.enable x0.ready x0.error x0.command (IntKind.wrap .i64 (x0.words - (64 : Int))) (((IntKind.wrap .i64 (x0.addr + (IntKind.wrap .i64 ((2 : Int) * (64 : Int)))))).tmod (65536 : Int)) (((IntKind.wrap .i64 (x0.start + (1 : Int)))).tmod (65536 : Int)) (8 : Int), x1, x2))))))))
                            (.ite (decide (x0.command = (1 : Int)))
                              (.ite (decide ((([] : List Int).length + x1.length) * 8 ≤ 140737488355328))
                                (.opt ((List Int) × Int × (List Int) × Disk × Disk) (Lref16_Tick_0 q (Sref16_Tick_0.mk x2 (64 : Int) r202.1 (0 : Int) (([] : List Int) ++ x1) (Disk.mk x0.drive x0.enable x0.ready x0.error x0.command x0.words x0.addr x0.start (IntKind.wrap .i64 (x0.left - (1 : Int)))) (Disk.mk (Drive.mk ([]) ([])) false false false 0 0 0 0 0))) fun l253 =>
                                  .opt (Int × (List Int) × Disk × Disk × (List Int)) (Lref16_Tick_1 q (Sref16_Tick_1.mk l253.1 l253.2.1 (0 : Int) l253.2.2.1 l253.2.2.2.1 l253.2.2.2.2 ([]))) fun l254 =>
                                    .ite (decide ((65536 : Int) = 0))
                                      .fail
                                      (.ite (decide ((65536 : Int) = 0))
                                        .fail
                                        (.ite (decide ((IntKind.wrap .i64 (l254.2.2.1.words - l254.1)) = (0 : Int)))
                                          (.leaf ((Disk.mk l254.2.2.1.drive l254.2.2.1.enable true l254.2.2.1.error l254.2.2.1.command (IntKind.wrap .i64 (l254.2.2.1.words - l254.1)) (((IntKind.wrap .i64 (l254.2.2.1.addr + (IntKind.wrap .i64 ((2 : Int) * l254.1))))).tmod (65536 : Int)) (((IntKind.wrap .i64 (l254.2.2.1.start + (1 : Int)))).tmod (65536 : Int)) l254.2.2.1.left, l254.2.1, l254.2.2.2.2)))
                                          (.leaf ((Disk.mk l254.2.2.1.drive l254.2.2.1.enable l254.2.2.1.ready l254.2.2.1.error l254.2.2.1.command (IntKind.wrap .i64 (l254.2.2.1.words - l254.1)) (((IntKind.wrap .i64 (l254.2.2.1.addr + (IntKind.wrap .i64 ((2 : Int) * l254.1))))).tmod (65536 : Int)) (((IntKind.wrap .i64 (l254.2.2.1.start + (1 : Int)))).tmod (65536 : Int)) (8 : Int), l254.2.1, l254.2.2.2.2))))))
                                .fail)
                              (.ite (decide ((65536 : Int) = 0))
                                .fail
                                (.ite (decide ((65536 : Int) = 0))
                                  .fail
                                  (.ite (decide ((IntKind.wrap .i64 (x0.words - (64 : Int))) = (0 : Int)))
                                    (.leaf ((Disk.mk x0.drive x0.enable true x0.error x0.command (IntKind.wrap .i64 (x0.words - (64 : Int))) (((IntKind.wrap .i64 (x0.addr + (IntKind.wrap .i64 ((2 : Int) * (64 : Int)))))).tmod (65536 : Int)) (((IntKind.wrap .i64 (x0.start + (1 : Int)))).tmod (65536 : Int)) (IntKind.wrap .i64 (x0.left - (1 : Int))), x1, x2)))
                                    (.leaf ((Disk.mk x0.drive x0.enable x0.ready x0.error x0.command (IntKind.wrap .i64 (x0.words - (64 : Int))) (((IntKind.wrap .i64 (x0.addr + (IntKind.wrap .i64 ((2 : Int) * (64 : Int)))))).tmod (65536 : Int)) (((IntKind.wrap .i64 (x0.start + (1 : Int)))).tmod (65536 : Int)) (8 : Int), x1, x2)))))))))
                      (.ite (decide (x0.command = (2 : Int)))
                        (.opt (List UInt8) (ref16_sector q x1 x0.addr (64 : Int)) fun r255 =>
                          .opt (Drive × Int) (ref15_Write q x0.drive x0.start r255) fun r256 =>
                            .ite (!decide (r256.2 = (0 : Int)))
                              (.opt Disk (ref16_failed (Disk.mk x0.drive x0.enable x0.ready x0.error x0.command x0.words x0.addr x0.start (IntKind.wrap .i64 (x0.left - (1 : Int))))) fun r257 =>
                                .leaf ((r257, x1, x2)))
                              (.ite (decide (x0.command = (1 : Int)))
                                (.ite (decide ((([] : List Int).length + x1.length) * 8 ≤ 140737488355328))
                                  (.opt ((List Int) × Int × (List Int) × Disk × Disk) (Lref16_Tick_0 q (Sref16_Tick_0.mk x2 (64 : Int) r202.1 (0 : Int) (([] : List Int) ++ x1) (Disk.mk r256.1 x0.enable x0.ready x0.error x0.command x0.words x0.addr x0.start (IntKind.wrap .i64 (x0.left - (1 : Int)))) (Disk.mk (Drive.mk ([]) ([])) false false false 0 0 0 0 0))) fun l258 =>
                                    .opt (Int × (List Int) × Disk × Disk × (List Int)) (Lref16_Tick_1 q (Sref16_Tick_1.mk l258.1 l258.2.1 (0 : Int) l258.2.2.1 l258.2.2.2.1 l258.2.2.2.2 ([]))) fun l259 =>
                                      .ite (decide ((65536 : Int) = 0))
                                        .fail
                                        (.ite (decide ((65536 : Int) = 0))
                                          .fail
                                          (.ite (decide ((IntKind.wrap .i64 (l259.2.2.1.words - l259.1)) = (0 : Int)))
                                            (.leaf ((Disk.mk l259.2.2.1.drive l259.2.2.1.enable true l259.2.2.1.error l259.2.2.1.command (IntKind.wrap .i64 (l259.2.2.1.words - l259.1)) (((IntKind.wrap .i64 (l259.2.2.1.addr + (IntKind.wrap .i64 ((2 : Int) * l259.1))))).tmod (65536 : Int)) (((IntKind.wrap .i64 (l259.2.2.1.start + (1 : Int)))).tmod (65536 : Int)) l259.2.2.1.left, l259.2.1, l259.2.2.2.2)))
                                            (.leaf ((Disk.mk l259.2.2.1.drive l259.2.2.1.enable l259.2.2.1.ready l259.2.2.1.error l259.2.2.1.command (IntKind.wrap .i64 (l259.2.2.1.words - l259.1)) (((IntKind.wrap .i64 (l259.2.2.1.addr + (IntKind.wrap .i64 ((2 : Int) * l259.1))))).tmod (65536 : Int)) (((IntKind.wrap .i64 (l259.2.2.1.start + (1 : Int)))).tmod (65536 : Int)) (8 : Int), l259.2.1, l259.2.2.2.2))))))
                                  .fail)
                                (.ite (decide ((65536 : Int) = 0))
                                  .fail
                                  (.ite (decide ((65536 : Int) = 0))
                                    .fail
                                    (.ite (decide ((IntKind.wrap .i64 (x0.words - (64 : Int))) = (0 : Int)))
                                      (.leaf ((Disk.mk r256.1 x0.enable true x0.error x0.command (IntKind.wrap .i64 (x0.words - (64 : Int))) (((IntKind.wrap .i64 (x0.addr + (IntKind.wrap .i64 ((2 : Int) * (64 : Int)))))).tmod (65536 : Int)) (((IntKind.wrap .i64 (x0.start + (1 : Int)))).tmod (65536 : Int)) (IntKind.wrap .i64 (x0.left - (1 : Int))), x1, x2)))
                                      (.leaf ((Disk.mk r256.1 x0.enable x0.ready x0.error x0.command (IntKind.wrap .i64 (x0.words - (64 : Int))) (((IntKind.wrap .i64 (x0.addr + (IntKind.wrap .i64 ((2 : Int) * (64 : Int)))))).tmod (65536 : Int)) (((IntKind.wrap .i64 (x0.start + (1 : Int)))).tmod (65536 : Int)) (8 : Int), x1, x2))))))))
                        (.ite (decide (x0.command = (1 : Int)))
                          (.ite (decide ((([] : List Int).length + x1.length) * 8 ≤ 140737488355328))
                            (.opt ((List Int) × Int × (List Int) × Disk × Disk) (Lref16_Tick_0 q (Sref16_Tick_0.mk x2 (64 : Int) r202.1 (0 : Int) (([] : List Int) ++ x1) (Disk.mk x0.drive x0.enable x0.ready x0.error x0.command x0.words x0.addr x0.start (IntKind.wrap .i64 (x0.left - (1 : Int)))) (Disk.mk (Drive.mk ([]) ([])) false false false 0 0 0 0 0))) fun l260 =>
                              .opt (Int × (List Int) × Disk × Disk × (List Int)) (Lref16_Tick_1 q (Sref16_Tick_1.mk l260.1 l260.2.1 (0 : Int) l260.2.2.1 l260.2.2.2.1 l260.2.2.2.2 ([]))) fun l261 =>
                                .ite (decide ((65536 : Int) = 0))
                                  .fail
                                  (.ite (decide ((65536 : Int) = 0))
                                    .fail
                                    (.ite (decide ((IntKind.wrap .i64 (l261.2.2.1.words - l261.1)) = (0 : Int)))
                                      (.leaf ((Disk.mk l261.2.2.1.drive l261.2.2.1.enable true l261.2.2.1.error l261.2.2.1.command (IntKind.wrap .i64 (l261.2.2.1.words - l261.1)) (((IntKind.wrap .i64 (l261.2.2.1.addr + (IntKind.wrap .i64 ((2 : Int) * l261.1))))).tmod (65536 : Int)) (((IntKind.wrap .i64 (l261.2.2.1.start + (1 : Int)))).tmod (65536 : Int)) l261.2.2.1.left, l261.2.1, l261.2.2.2.2)))
                                      (.leaf ((Disk.mk l261.2.2.1.drive l261.2.2.1.enable l261.2.2.1.ready l261.2.2.1.error l261.2.2.1.command (IntKind.wrap .i64 (l261.2.2.1.words - l261.1)) (((IntKind.wrap .i64 (l261.2.2.1.addr + (IntKind.wrap .i64 ((2 : Int) * l261.1))))).tmod (65536 : Int)) (((IntKind.wrap .i64 (l261.2.2.1.start + (1 : Int)))).tmod (65536 : Int)) (8 : Int), l261.2.1, l261.2.2.2.2))))))
                            .fail)
                          (.ite (decide ((65536 : Int) = 0))
                            .fail
                            (.ite (decide ((65536 : Int) = 0))
                              .fail
                              (.ite (decide ((IntKind.wrap .i64 (x0.words - (64 : Int))) = (0 : Int)))
                                (.leaf ((Disk.mk x0.drive x0.enable true x0.error x0.command (IntKind.wrap .i64 (x0.words - (64 : Int))) (((IntKind.wrap .i64 (x0.addr + (IntKind.wrap .i64 ((2 : Int) * (64 : Int)))))).tmod (65536 : Int)) (((IntKind.wrap .i64 (x0.start + (1 : Int)))).tmod (65536 : Int)) (IntKind.wrap .i64 (x0.left - (1 : Int))), x1, x2)))
                                (.leaf ((Disk.mk x0.drive x0.enable x0.ready x0.error x0.command (IntKind.wrap .i64 (x0.words - (64 : Int))) (((IntKind.wrap .i64 (x0.addr + (IntKind.wrap .i64 ((2 : Int) * (64 : Int)))))).tmod (65536 : Int)) (((IntKind.wrap .i64 (x0.start + (1 : Int)))).tmod (65536 : Int)) (8 : Int), x1, x2))))))))))
                (.ite (decide (x0.command = (3 : Int)))
                  (.opt Bool (ref16_differs q x1 x0.addr (64 : Int) r202.1) fun r262 =>
                    .ite (r262)
                      (.opt Disk (ref16_failed (Disk.mk x0.drive x0.enable x0.ready x0.error x0.command x0.words x0.addr x0.start (IntKind.wrap .i64 (x0.left - (1 : Int))))) fun r263 =>
                        .leaf ((r263, x1, x2)))
                      (.ite (decide (x0.command = (2 : Int)))
                        (.opt (List UInt8) (ref16_sector q x1 x0.addr (64 : Int)) fun r264 =>
                          .opt (Drive × Int) (ref15_Write q x0.drive x0.start r264) fun r265 =>
                            .ite (!decide (r265.2 = (0 : Int)))
                              (.opt Disk (ref16_failed (Disk.mk x0.drive x0.enable x0.ready x0.error x0.command x0.words x0.addr x0.start (IntKind.wrap .i64 (x0.left - (1 : Int))))) fun r266 =>
                                .leaf ((r266, x1, x2)))
                              (.ite (decide (x0.command = (1 : Int)))
                                (.ite (decide ((([] : List Int).length + x1.length) * 8 ≤ 140737488355328))
                                  (.opt ((List Int) × Int × (List Int) × Disk × Disk) (Lref16_Tick_0 q (Sref16_Tick_0.mk x2 (64 : Int) r202.1 (0 : Int) (([] : List Int) ++ x1) (Disk.mk r265.1 x0.enable x0.ready x0.error x0.command x0.words x0.addr x0.start (IntKind.wrap .i64 (x0.left - (1 : Int)))) (Disk.mk (Drive.mk ([]) ([])) false false false 0 0 0 0 0))) fun l267 =>
                                    .opt (Int × (List Int) × Disk × Disk × (List Int)) (Lref16_Tick_1 q (Sref16_Tick_1.mk l267.1 l267.2.1 (0 : Int) l267.2.2.1 l267.2.2.2.1 l267.2.2.2.2 ([]))) fun l268 =>
                                      .ite (decide ((65536 : Int) = 0))
                                        .fail
                                        (.ite (decide ((65536 : Int) = 0))
                                          .fail
                                          (.ite (decide ((IntKind.wrap .i64 (l268.2.2.1.words - l268.1)) = (0 : Int)))
                                            (.leaf ((Disk.mk l268.2.2.1.drive l268.2.2.1.enable true l268.2.2.1.error l268.2.2.1.command (IntKind.wrap .i64 (l268.2.2.1.words - l268.1)) (((IntKind.wrap .i64 (l268.2.2.1.addr + (IntKind.wrap .i64 ((2 : Int) * l268.1))))).tmod (65536 : Int)) (((IntKind.wrap .i64 (l268.2.2.1.start + (1 : Int)))).tmod (65536 : Int)) l268.2.2.1.left, l268.2.1, l268.2.2.2.2)))
                                            (.leaf ((Disk.mk l268.2.2.1.drive l268.2.2.1.enable l268.2.2.1.ready l268.2.2.1.error l268.2.2.1.command (IntKind.wrap .i64 (l268.2.2.1.words - l268.1)) (((IntKind.wrap .i64 (l268.2.2.1.addr + (IntKind.wrap .i64 ((2 : Int) * l268.1))))).tmod (65536 : Int)) (((IntKind.wrap .i64 (l268.2.2.1.start + (1 : Int)))).tmod (65536 : Int)) (8 : Int), l268.2.1, l268.2.2.2.2))))))
                                  .fail)
                                (.ite (decide ((65536 : Int) = 0))
                                  .fail
                                  (.ite (decide ((65536 : Int) = 0))
                                    .fail
                                    (.ite (decide ((IntKind.wrap .i64 (x0.words - (64 : Int))) = (0 : Int)))
                                      (.leaf ((Disk.mk r265.1 x0.enable true x0.error x0.command (IntKind.wrap .i64 (x0.words - (64 : Int))) (((IntKind.wrap .i64 (x0.addr + (IntKind.wrap .i64 ((2 : Int) * (64 : Int)))))).tmod (65536 : Int)) (((IntKind.wrap .i64 (x0.start + (1 : Int)))).tmod (65536 : Int)) (IntKind.wrap .i64 (x0.left - (1 : Int))), x1, x2)))
                                      (.leaf ((Disk.mk r265.1 x0.enable x0.ready x0.error x0.command (IntKind.wrap .i64 (x0.words - (64 : Int))) (((IntKind.wrap .i64 (x0.addr + (IntKind.wrap .i64 ((2 : Int) * (64 : Int)))))).tmod (65536 : Int)) (((IntKind.wrap .i64 (x0.start + (1 : Int)))).tmod (65536 : Int)) (8 : Int), x1, x2))))))))
                        (.ite (decide (x0.command = (1 : Int)))
                          (.ite (decide ((([] : List Int).length + x1.length) * 8 ≤ 140737488355328))
                            (.opt ((List Int) × Int × (List Int) × Disk × Disk) (Lref16_Tick_0 q (Sref16_Tick_0.mk x2 (64 : Int) r202.1 (0 : Int) (([] : List Int) ++ x1) (Disk.mk x0.drive x0.enable x0.ready x0.error x0.command x0.words x0.addr x0.start (IntKind.wrap .i64 (x0.left - (1 : Int)))) (Disk.mk (Drive.mk ([]) ([])) false false false 0 0 0 0 0))) fun l269 =>
                              .opt (Int × (List Int) × Disk × Disk × (List Int)) (Lref16_Tick_1 q (Sref16_Tick_1.mk l269.1 l269.2.1 (0 : Int) l269.2.2.1 l269.2.2.2.1 l269.2.2.2.2 ([]))) fun l270 =>
                                .ite (decide ((65536 : Int) = 0))
                                  .fail
                                  (.ite (decide ((65536 : Int) = 0))
                                    .fail
                                    (.ite (decide ((IntKind.wrap .i64 (l270.2.2.1.words - l270.1)) = (0 : Int)))
                                      (.leaf ((Disk.mk l270.2.2.1.drive l270.2.2.1.enable true l270.2.2.1.error l270.2.2.1.command (IntKind.wrap .i64 (l270.2.2.1.words - l270.1)) (((IntKind.wrap .i64 (l270.2.2.1.addr + (IntKind.wrap .i64 ((2 : Int) * l270.1))))).tmod (65536 : Int)) (((IntKind.wrap .i64 (l270.2.2.1.start + (1 : Int)))).tmod (65536 : Int)) l270.2.2.1.left, l270.2.1, l270.2.2.2.2)))
                                      (.leaf ((Disk.mk l270.2.2.1.drive l270.2.2.1.enable l270.2.2.1.ready l270.2.2.1.error l270.2.2.1.command (IntKind.wrap .i64 (l270.2.2.1.words - l270.1)) (((IntKind.wrap .i64 (l270.2.2.1.addr + (IntKind.wrap .i64 ((2 : Int) * l270.1))))).tmod (65536 : Int)) (((IntKind.wrap .i64 (l270.2.2.1.start + (1 : Int)))).tmod (65536 : Int)) (8 : Int), l270.2.1, l270.2.2.2.2))))))
                            .fail)
                          (.ite (decide ((65536 : Int) = 0))
                            .fail
                            (.ite (decide ((65536 : Int) = 0))
                              .fail
                              (.ite (decide ((IntKind.wrap .i64 (x0.words - (64 : Int))) = (0 : Int)))
                                (.leaf ((Disk.mk x0.drive x0.enable true x0.error x0.command (IntKind.wrap .i64 (x0.words - (64 : Int))) (((IntKind.wrap .i64 (x0.addr + (IntKind.wrap .i64 ((2 : Int) * (64 : Int)))))).tmod (65536 : Int)) (((IntKind.wrap .i64 (x0.start + (1 : Int)))).tmod (65536 : Int)) (IntKind.wrap .i64 (x0.left - (1 : Int))), x1, x2)))
                                (.leaf ((Disk.mk x0.drive x0.enable x0.ready x0.error x0.command (IntKind.wrap .i64 (x0.words - (64 : Int))) (((IntKind.wrap .i64 (x0.addr + (IntKind.wrap .i64 ((2 : Int) * (64 : Int)))))).tmod (65536 : Int)) (((IntKind.wrap .i64 (x0.start + (1 : Int)))).tmod (65536 : Int)) (8 : Int), x1, x2)))))))))
                  (.ite (decide (x0.command = (2 : Int)))
                    (.opt (List UInt8) (ref16_sector q x1 x0.addr (64 : Int)) fun r271 =>
                      .opt (Drive × Int) (ref15_Write q x0.drive x0.start r271) fun r272 =>
                        .ite (!decide (r272.2 = (0 : Int)))
                          (.opt Disk (ref16_failed (Disk.mk x0.drive x0.enable x0.ready x0.error x0.command x0.words x0.addr x0.start (IntKind.wrap .i64 (x0.left - (1 : Int))))) fun r273 =>
                            .leaf ((r273, x1, x2)))
                          (.ite (decide (x0.command = (1 : Int)))
                            (.ite (decide ((([] : List Int).length + x1.length) * 8 ≤ 140737488355328))
                              (.opt ((List Int) × Int × (List Int) × Disk × Disk) (Lref16_Tick_0 q (Sref16_Tick_0.mk x2 (64 : Int) r202.1 (0 : Int) (([] : List Int) ++ x1) (Disk.mk r272.1 x0.enable x0.ready x0.error x0.command x0.words x0.addr x0.start (IntKind.wrap .i64 (x0.left - (1 : Int)))) (Disk.mk (Drive.mk ([]) ([])) false false false 0 0 0 0 0))) fun l274 =>
                                .opt (Int × (List Int) × Disk × Disk × (List Int)) (Lref16_Tick_1 q (Sref16_Tick_1.mk l274.1 l274.2.1 (0 : Int) l274.2.2.1 l274.2.2.2.1 l274.2.2.2.2 ([]))) fun l275 =>
                                  .ite (decide ((65536 : Int) = 0))
                                    .fail
                                    (.ite (decide ((65536 : Int) = 0))
                                      .fail
                                      (.ite (decide ((IntKind.wrap .i64 (l275.2.2.1.words - l275.1)) = (0 : Int)))
                                        (.leaf ((Disk.mk l275.2.2.1.drive l275.2.2.1.enable true l275.2.2.1.error l275.2.2.1.command (IntKind.wrap .i64 (l275.2.2.1.words - l275.1)) (((IntKind.wrap .i64 (l275.2.2.1.addr + (IntKind.wrap .i64 ((2 : Int) * l275.1))))).tmod (65536 : Int)) (((IntKind.wrap .i64 (l275.2.2.1.start + (1 : Int)))).tmod (65536 : Int)) l275.2.2.1.left, l275.2.1, l275.2.2.2.2)))
                                        (.leaf ((Disk.mk l275.2.2.1.drive l275.2.2.1.enable l275.2.2.1.ready l275.2.2.1.error l275.2.2.1.command (IntKind.wrap .i64 (l275.2.2.1.words - l275.1)) (((IntKind.wrap .i64 (l275.2.2.1.addr + (IntKind.wrap .i64 ((2 : Int) * l275.1))))).tmod (65536 : Int)) (((IntKind.wrap .i64 (l275.2.2.1.start + (1 : Int)))).tmod (65536 : Int)) (8 : Int), l275.2.1, l275.2.2.2.2))))))
                              .fail)
                            (.ite (decide ((65536 : Int) = 0))
                              .fail
                              (.ite (decide ((65536 : Int) = 0))
                                .fail
                                (.ite (decide ((IntKind.wrap .i64 (x0.words - (64 : Int))) = (0 : Int)))
                                  (.leaf ((Disk.mk r272.1 x0.enable true x0.error x0.command (IntKind.wrap .i64 (x0.words - (64 : Int))) (((IntKind.wrap .i64 (x0.addr + (IntKind.wrap .i64 ((2 : Int) * (64 : Int)))))).tmod (65536 : Int)) (((IntKind.wrap .i64 (x0.start + (1 : Int)))).tmod (65536 : Int)) (IntKind.wrap .i64 (x0.left - (1 : Int))), x1, x2)))
                                  (.leaf ((Disk.mk r272.1 x0.enable x0.ready x0.error x0.command (IntKind.wrap .i64 (x0.words - (64 : Int))) (((IntKind.wrap .i64 (x0.addr + (IntKind.wrap .i64 ((2 : Int) * (64 : Int)))))).tmod (65536 : Int)) (((IntKind.wrap .i64 (x0.start + (1 : Int)))).tmod (65536 : Int)) (8 : Int), x1, x2))))))))
                    (.ite (decide (x0.command = (1 : Int)))
                      (.ite (decide ((([] : List Int).length + x1.length) * 8 ≤ 140737488355328))
                        (.opt ((List Int) × Int × (List Int) × Disk × Disk) (Lref16_Tick_0 q (Sref16_Tick_0.mk x2 (64 : Int) r202.1 (0 : Int) (([] : List Int) ++ x1) (Disk.mk x0.drive x0.enable x0.ready x0.error x0.command x0.words x0.addr x0.start (IntKind.wrap .i64 (x0.left - (1 : Int)))) (Disk.mk (Drive.mk ([]) ([])) false false false 0 0 0 0 0))) fun l276 =>
                          .opt (Int × (List Int) × Disk × Disk × (List Int)) (Lref16_Tick_1 q (Sref16_Tick_1.mk l276.1 l276.2.1 (0 : Int) l276.2.2.1 l276.2.2.2.1 l276.2.2.2.2 ([]))) fun l277 =>
                            .ite (decide ((65536 : Int) = 0))
                              .fail
                              (.ite (decide ((65536 : Int) = 0))
                                .fail
                                (.ite (decide ((IntKind.wrap .i64 (l277.2.2.1.words - l277.1)) = (0 : Int)))
                                  (.leaf ((Disk.mk l277.2.2.1.drive l277.2.2.1.enable true l277.2.2.1.error l277.2.2.1.command (IntKind.wrap .i64 (l277.2.2.1.words - l277.1)) (((IntKind.wrap .i64 (l277.2.2.1.addr + (IntKind.wrap .i64 ((2 : Int) * l277.1))))).tmod (65536 : Int)) (((IntKind.wrap .i64 (l277.2.2.1.start + (1 : Int)))).tmod (65536 : Int)) l277.2.2.1.left, l277.2.1, l277.2.2.2.2)))
                                  (.leaf ((Disk.mk l277.2.2.1.drive l277.2.2.1.enable l277.2.2.1.ready l277.2.2.1.error l277.2.2.1.command (IntKind.wrap .i64 (l277.2.2.1.words - l277.1)) (((IntKind.wrap .i64 (l277.2.2.1.addr + (IntKind.wrap .i64 ((2 : Int) * l277.1))))).tmod (65536 : Int)) (((IntKind.wrap .i64 (l277.2.2.1.start + (1 : Int)))).tmod (65536 : Int)) (8 : Int), l277.2.1, l277.2.2.2.2))))))
                        .fail)
                      (.ite (decide ((65536 : Int) = 0))
                        .fail
                        (.ite (decide ((65536 : Int) = 0))
                          .fail
                          (.ite (decide ((IntKind.wrap .i64 (x0.words - (64 : Int))) = (0 : Int)))
                            (.leaf ((Disk.mk x0.drive x0.enable true x0.error x0.command (IntKind.wrap .i64 (x0.words - (64 : Int))) (((IntKind.wrap .i64 (x0.addr + (IntKind.wrap .i64 ((2 : Int) * (64 : Int)))))).tmod (65536 : Int)) (((IntKind.wrap .i64 (x0.start + (1 : Int)))).tmod (65536 : Int)) (IntKind.wrap .i64 (x0.left - (1 : Int))), x1, x2)))
                            (.leaf ((Disk.mk x0.drive x0.enable x0.ready x0.error x0.command (IntKind.wrap .i64 (x0.words - (64 : Int))) (((IntKind.wrap .i64 (x0.addr + (IntKind.wrap .i64 ((2 : Int) * (64 : Int)))))).tmod (65536 : Int)) (((IntKind.wrap .i64 (x0.start + (1 : Int)))).tmod (65536 : Int)) (8 : Int), x1, x2))))))))))))
        (.ite (decide ((IntKind.wrap .i64 ((2 : Int) * (x1.length : Int))) < (IntKind.wrap .i64 (x0.addr + (IntKind.wrap .i64 ((2 : Int) * x0.words))))))
          (.opt Disk (ref16_failed (Disk.mk x0.drive x0.enable x0.ready x0.error x0.command x0.words x0.addr x0.start (IntKind.wrap .i64 (x0.left - (1 : Int))))) fun r278 =>
            .leaf ((r278, x1, x2)))
          (.opt ((List UInt8) × Int) (ref15_Read q x0.drive x0.start) fun r279 =>
            .ite (!decide (x0.command = (2 : Int)))
              (.ite (!decide (r279.2 = (0 : Int)))
                (.opt Disk (ref16_failed (Disk.mk x0.drive x0.enable x0.ready x0.error x0.command x0.words x0.addr x0.start (IntKind.wrap .i64 (x0.left - (1 : Int))))) fun r280 =>
                  .leaf ((r280, x1, x2)))
                (.ite (!decide (x0.command = (1 : Int)))
                  (.opt Bool (ref16_spoilt q x2 x0.addr x0.words) fun r281 =>
                    .ite (r281)
                      (.opt Disk (ref16_failed (Disk.mk x0.drive x0.enable x0.ready x0.error x0.command x0.words x0.addr x0.start (IntKind.wrap .i64 (x0.left - (1 : Int))))) fun r282 =>
                        .leaf ((r282, x1, x2)))
                      (.ite (decide (x0.command = (3 : Int)))
                        (.opt Bool (ref16_differs q x1 x0.addr x0.words r279.1) fun r283 =>
                          .ite (r283)
                            (.opt Disk (ref16_failed (Disk.mk x0.drive x0.enable x0.ready x0.error x0.command x0.words x0.addr x0.start (IntKind.wrap .i64 (x0.left - (1 : Int))))) fun r284 =>
                              .leaf ((r284, x1, x2)))
                            (.ite (decide (x0.command = (2 : Int)))
                              (.opt (List UInt8) (ref16_sector q x1 x0.addr x0.words) fun r285 =>
                                .opt (Drive × Int) (ref15_Write q x0.drive x0.start r285) fun r286 =>
                                  .ite (!decide (r286.2 = (0 : Int)))
                                    (.opt Disk (ref16_failed (Disk.mk x0.drive x0.enable x0.ready x0.error x0.command x0.words x0.addr x0.start (IntKind.wrap .i64 (x0.left - (1 : Int))))) fun r287 =>
                                      .leaf ((r287, x1, x2)))
                                    (.ite (decide (x0.command = (1 : Int)))
                                      (.ite (decide ((([] : List Int).length + x1.length) * 8 ≤ 140737488355328))
                                        (.opt ((List Int) × Int × (List Int) × Disk × Disk) (Lref16_Tick_0 q (Sref16_Tick_0.mk x2 x0.words r279.1 (0 : Int) (([] : List Int) ++ x1) (Disk.mk r286.1 x0.enable x0.ready x0.error x0.command x0.words x0.addr x0.start (IntKind.wrap .i64 (x0.left - (1 : Int)))) (Disk.mk (Drive.mk ([]) ([])) false false false 0 0 0 0 0))) fun l288 =>
                                          .opt (Int × (List Int) × Disk × Disk × (List Int)) (Lref16_Tick_1 q (Sref16_Tick_1.mk l288.1 l288.2.1 (0 : Int) l288.2.2.1 l288.2.2.2.1 l288.2.2.2.2 ([]))) fun l289 =>
                                            .ite (decide ((65536 : Int) = 0))
                                              .fail
                                              (.ite (decide ((65536 : Int) = 0))
                                                .fail
                                                (.ite (decide ((IntKind.wrap .i64 (l289.2.2.1.words - l289.1)) = (0 : Int)))
                                                  (.leaf ((Disk.mk l289.2.2.1.drive l289.2.2.1.enable true l289.2.2.1.error l289.2.2.1.command (IntKind.wrap .i64 (l289.2.2.1.words - l289.1)) (((IntKind.wrap .i64 (l289.2.2.1.addr + (IntKind.wrap .i64 ((2 : Int) * l289.1))))).tmod (65536 : Int)) (((IntKind.wrap .i64 (l289.2.2.1.start + (1 : Int)))).tmod (65536 : Int)) l289.2.2.1.left, l289.2.1, l289.2.2.2.2)))
                                                  (.leaf ((Disk.mk l289.2.2.1.drive l289.2.2.1.enable l289.2.2.1.ready l289.2.2.1.error l289.2.2.1.command (IntKind.wrap .i64 (l289.2.2.1.words - l289.1)) (((IntKind.wrap .i64 (l289.2.2.1.addr + (IntKind.wrap .i64 ((2 : Int) * l289.1))))).tmod (65536 : Int)) (((IntKind.wrap .i64 (l289.2.2.1.start + (1 : Int)))).tmod (65536 : Int)) (8 : Int), l289.2.1, l289.2.2.2.2))))))
                                        .fail)
                                      (.ite (decide ((65536 : Int) = 0))
                                        .fail
                                        (.ite (decide ((65536 : Int) = 0))
                                          .fail
                                          (.ite (decide ((IntKind.wrap .i64 (x0.words - x0.words)) = (0 : Int)))
                                            (.leaf ((Disk.mk r286.1 x0.enable true x0.error x0.command (IntKind.wrap .i64 (x0.words - x0.words)) (((IntKind.wrap .i64 (x0.addr + (IntKind.wrap .i64 ((2 : Int) * x0.words))))).tmod (65536 : Int)) (((IntKind.wrap .i64 (x0.start + (1 : Int)))).tmod (65536 : Int)) (IntKind.wrap .i64 (x0.left - (1 : Int))), x1, x2)))
                                            (.leaf ((Disk.mk r286.1 x0.enable x0.ready x0.error x0.command (IntKind.wrap .i64 (x0.words - x0.words)) (((IntKind.wrap .i64 (x0.addr + (IntKind.wrap .i64 ((2 : Int) * x0.words))))).tmod (65536 : Int)) (((IntKind.wrap .i64 (x0.start + (1 : Int)))).tmod (65536 : Int)) (8 : Int), x1, x2))))))))
                              (.ite (decide (x0.command = (1 : Int)))
                                (.ite (decide ((([] : List Int).length + x1.length) * 8 ≤ 140737488355328))
                                  (.opt ((List Int) × Int × (List Int) × Disk × Disk) (Lref16_Tick_0 q (Sref16_Tick_0.mk x2 x0.words r279.1 (0 : Int) (([] : List Int) ++ x1) (Disk.mk x0.drive x0.enable x0.ready x0.error x0.command x0.words x0.addr x0.start (IntKind.wrap .i64 (x0.left - (1 : Int)))) (Disk.mk (Drive.mk ([]) ([])) false false false 0 0 0 0 0))) fun l290 =>
                                    .opt (Int × (List Int) × Disk × Disk × (List Int)) (Lref16_Tick_1 q (Sref16_Tick_1.mk l290.1 l290.2.1 (0 : Int) l290.2.2.1 l290.2.2.2.1 l290.2.2.2.2 ([]))) fun l291 =>
                                      .ite (decide ((65536 : Int) = 0))
                                        .fail
                                        (.ite (decide ((65536 : Int) = 0))
                                          .fail
                                          (.ite (decide ((IntKind.wrap .i64 (l291.2.2.1.words - l291.1)) = (0 : Int)))
                                            (.leaf ((Disk.mk l291.2.2.1.drive l291.2.2.1.enable true l291.2.2.1.error l291.2.2.1.command (IntKind.wrap .i64 (l291.2.2.1.words - l291.1)) (((IntKind.wrap .i64 (l291.2.2.1.addr + (IntKind.wrap .i64 ((2 : Int) * l291.1))))).tmod (65536 : Int)) (((IntKind.wrap .i64 (l291.2.2.1.start + (1 : Int)))).tmod (65536 : Int)) l291.2.2.1.left, l291.2.1, l291.2.2.2.2)))
                                            (.leaf ((Disk.mk l291.2.2.1.drive l291.2.2.1.enable l291.2.2.1.ready l291.2.2.1.error l291.2.2.1.command (IntKind.wrap .i64 (l291.2.2.1.words - l291.1)) (((IntKind.wrap .i64 (l291.2.2.1.addr + (IntKind.wrap .i64 ((2 : Int) * l291.1))))).tmod (65536 : Int)) (((IntKind.wrap .i64 (l291.2.2.1.start + (1 : Int)))).tmod (65536 : Int)) (8 : Int), l291.2.1, l291.2.2.2.2))))))
                                  .fail)
                                (.ite (decide ((65536 : Int) = 0))
                                  .fail
                                  (.ite (decide ((65536 : Int) = 0))
                                    .fail
                                    (.ite (decide ((IntKind.wrap .i64 (x0.words - x0.words)) = (0 : Int)))
                                      (.leaf ((Disk.mk x0.drive x0.enable true x0.error x0.command (IntKind.wrap .i64 (x0.words - x0.words)) (((IntKind.wrap .i64 (x0.addr + (IntKind.wrap .i64 ((2 : Int) * x0.words))))).tmod (65536 : Int)) (((IntKind.wrap .i64 (x0.start + (1 : Int)))).tmod (65536 : Int)) (IntKind.wrap .i64 (x0.left - (1 : Int))), x1, x2)))
                                      (.leaf ((Disk.mk x0.drive x0.enable x0.ready x0.error x0.command (IntKind.wrap .i64 (x0.words - x0.words)) (((IntKind.wrap .i64 (x0.addr + (IntKind.wrap .i64 ((2 : Int) * x0.words))))).tmod (65536 : Int)) (((IntKind.wrap .i64 (x0.start + (1 : Int)))).tmod (65536 : Int)) (8 : Int), x1, x2)))))))))
                        (.ite (decide (x0.command = (2 : Int)))
                          (.opt (List UInt8) (ref16_sector q x1 x0.addr x0.words) fun r292 =>
                            .opt (Drive × Int) (ref15_Write q x0.drive x0.start r292) fun r293 =>
                              .ite (!decide (r293.2 = (0 : Int)))
                                (.opt Disk (ref16_failed (Disk.mk x0.drive x0.enable x0.ready x0.error x0.command x0.words x0.addr x0.start (IntKind.wrap .i64 (x0.left - (1 : Int))))) fun r294 =>
                                  .leaf ((r294, x1, x2)))
                                (.ite (decide (x0.command = (1 : Int)))
                                  (.ite (decide ((([] : List Int).length + x1.length) * 8 ≤ 140737488355328))
                                    (.opt ((List Int) × Int × (List Int) × Disk × Disk) (Lref16_Tick_0 q (Sref16_Tick_0.mk x2 x0.words r279.1 (0 : Int) (([] : List Int) ++ x1) (Disk.mk r293.1 x0.enable x0.ready x0.error x0.command x0.words x0.addr x0.start (IntKind.wrap .i64 (x0.left - (1 : Int)))) (Disk.mk (Drive.mk ([]) ([])) false false false 0 0 0 0 0))) fun l295 =>
                                      .opt (Int × (List Int) × Disk × Disk × (List Int)) (Lref16_Tick_1 q (Sref16_Tick_1.mk l295.1 l295.2.1 (0 : Int) l295.2.2.1 l295.2.2.2.1 l295.2.2.2.2 ([]))) fun l296 =>
                                        .ite (decide ((65536 : Int) = 0))
                                          .fail
                                          (.ite (decide ((65536 : Int) = 0))
                                            .fail
                                            (.ite (decide ((IntKind.wrap .i64 (l296.2.2.1.words - l296.1)) = (0 : Int)))
                                              (.leaf ((Disk.mk l296.2.2.1.drive l296.2.2.1.enable true l296.2.2.1.error l296.2.2.1.command (IntKind.wrap .i64 (l296.2.2.1.words - l296.1)) (((IntKind.wrap .i64 (l296.2.2.1.addr + (IntKind.wrap .i64 ((2 : Int) * l296.1))))).tmod (65536 : Int)) (((IntKind.wrap .i64 (l296.2.2.1.start + (1 : Int)))).tmod (65536 : Int)) l296.2.2.1.left, l296.2.1, l296.2.2.2.2)))
                                              (.leaf ((Disk.mk l296.2.2.1.drive l296.2.2.1.enable l296.2.2.1.ready l296.2.2.1.error l296.2.2.1.command (IntKind.wrap .i64 (l296.2.2.1.words - l296.1)) (((IntKind.wrap .i64 (l296.2.2.1.addr + (IntKind.wrap .i64 ((2 : Int) * l296.1))))).tmod (65536 : Int)) (((IntKind.wrap .i64 (l296.2.2.1.start + (1 : Int)))).tmod (65536 : Int)) (8 : Int), l296.2.1, l296.2.2.2.2))))))
                                    .fail)
                                  (.ite (decide ((65536 : Int) = 0))
                                    .fail
                                    (.ite (decide ((65536 : Int) = 0))
                                      .fail
                                      (.ite (decide ((IntKind.wrap .i64 (x0.words - x0.words)) = (0 : Int)))
                                        (.leaf ((Disk.mk r293.1 x0.enable true x0.error x0.command (IntKind.wrap .i64 (x0.words - x0.words)) (((IntKind.wrap .i64 (x0.addr + (IntKind.wrap .i64 ((2 : Int) * x0.words))))).tmod (65536 : Int)) (((IntKind.wrap .i64 (x0.start + (1 : Int)))).tmod (65536 : Int)) (IntKind.wrap .i64 (x0.left - (1 : Int))), x1, x2)))
                                        (.leaf ((Disk.mk r293.1 x0.enable x0.ready x0.error x0.command (IntKind.wrap .i64 (x0.words - x0.words)) (((IntKind.wrap .i64 (x0.addr + (IntKind.wrap .i64 ((2 : Int) * x0.words))))).tmod (65536 : Int)) (((IntKind.wrap .i64 (x0.start + (1 : Int)))).tmod (65536 : Int)) (8 : Int), x1, x2))))))))
                          (.ite (decide (x0.command = (1 : Int)))
                            (.ite (decide ((([] : List Int).length + x1.length) * 8 ≤ 140737488355328))
                              (.opt ((List Int) × Int × (List Int) × Disk × Disk) (Lref16_Tick_0 q (Sref16_Tick_0.mk x2 x0.words r279.1 (0 : Int) (([] : List Int) ++ x1) (Disk.mk x0.drive x0.enable x0.ready x0.error x0.command x0.words x0.addr x0.start (IntKind.wrap .i64 (x0.left - (1 : Int)))) (Disk.mk (Drive.mk ([]) ([])) false false false 0 0 0 0 0))) fun l297 =>
                                .opt (Int × (List Int) × Disk × Disk × (List Int)) (Lref16_Tick_1 q (Sref16_Tick_1.mk l297.1 l297.2.1 (0 : Int) l297.2.2.1 l297.2.2.2.1 l297.2.2.2.2 ([]))) fun l298 =>
                                  .ite (decide ((65536 : Int) = 0))
                                    .fail
                                    (.ite (decide ((65536 : Int) = 0))
                                      .fail
                                      (.ite (decide ((IntKind.wrap .i64 (l298.2.2.1.words - l298.1)) = (0 : Int)))
                                        (.leaf ((Disk.mk l298.2.2.1.drive l298.2.2.1.enable true l298.2.2.1.error l298.2.2.1.command (IntKind.wrap .i64 (l298.2.2.1.words - l298.1)) (((IntKind.wrap .i64 (l298.2.2.1.addr + (IntKind.wrap .i64 ((2 : Int) * l298.1))))).tmod (65536 : Int)) (((IntKind.wrap .i64 (l298.2.2.1.start + (1 : Int)))).tmod (65536 : Int)) l298.2.2.1.left, l298.2.1, l298.2.2.2.2)))
                                        (.leaf ((Disk.mk l298.2.2.1.drive l298.2.2.1.enable l298.2.2.1.ready l298.2.2.1.error l298.2.2.1.command (IntKind.wrap .i64 (l298.2.2.1.words - l298.1)) (((IntKind.wrap .i64 (l298.2.2.1.addr + (IntKind.wrap .i64 ((2 : Int) * l298.1))))).tmod (65536 : Int)) (((IntKind.wrap .i64 (l298.2.2.1.start + (1 : Int)))).tmod (65536 : Int)) (8 : Int), l298.2.1, l298.2.2.2.2))))))
                              .fail)
                            (.ite (decide ((65536 : Int) = 0))
                              .fail
                              (.ite (decide ((65536 : Int) = 0))
                                .fail
                                (.ite (decide ((IntKind.wrap .i64 (x0.words - x0.words)) = (0 : Int)))
                                  (.leaf ((Disk.mk x0.drive x0.enable true x0.error x0.command (IntKind.wrap .i64 (x0.words - x0.words)) (((IntKind.wrap .i64 (x0.addr + (IntKind.wrap .i64 ((2 : Int) * x0.words))))).tmod (65536 : Int)) (((IntKind.wrap .i64 (x0.start + (1 : Int)))).tmod (65536 : Int)) (IntKind.wrap .i64 (x0.left - (1 : Int))), x1, x2)))
                                  (.leaf ((Disk.mk x0.drive x0.enable x0.ready x0.error x0.command (IntKind.wrap .i64 (x0.words - x0.words)) (((IntKind.wrap .i64 (x0.addr + (IntKind.wrap .i64 ((2 : Int) * x0.words))))).tmod (65536 : Int)) (((IntKind.wrap .i64 (x0.start + (1 : Int)))).tmod (65536 : Int)) (8 : Int), x1, x2))))))))))
                  (.ite (decide (x0.command = (3 : Int)))
                    (.opt Bool (ref16_differs q x1 x0.addr x0.words r279.1) fun r299 =>
                      .ite (r299)
                        (.opt Disk (ref16_failed (Disk.mk x0.drive x0.enable x0.ready x0.error x0.command x0.words x0.addr x0.start (IntKind.wrap .i64 (x0.left - (1 : Int))))) fun r300 =>
                          .leaf ((r300, x1, x2)))
                        (.ite (decide (x0.command = (2 : Int)))
                          (.opt (List UInt8) (ref16_sector q x1 x0.addr x0.words) fun r301 =>
                            .opt (Drive × Int) (ref15_Write q x0.drive x0.start r301) fun r302 =>
                              .ite (!decide (r302.2 = (0 : Int)))
                                (.opt Disk (ref16_failed (Disk.mk x0.drive x0.enable x0.ready x0.error x0.command x0.words x0.addr x0.start (IntKind.wrap .i64 (x0.left - (1 : Int))))) fun r303 =>
                                  .leaf ((r303, x1, x2)))
                                (.ite (decide (x0.command = (1 : Int)))
                                  (.ite (decide ((([] : List Int).length + x1.length) * 8 ≤ 140737488355328))
                                    (.opt ((List Int) × Int × (List Int) × Disk × Disk) (Lref16_Tick_0 q (Sref16_Tick_0.mk x2 x0.words r279.1 (0 : Int) (([] : List Int) ++ x1) (Disk.mk r302.1 x0.enable x0.ready x0.error x0.command x0.words x0.addr x0.start (IntKind.wrap .i64 (x0.left - (1 : Int)))) (Disk.mk (Drive.mk ([]) ([])) false false false 0 0 0 0 0))) fun l304 =>
                                      .opt (Int × (List Int) × Disk × Disk × (List Int)) (Lref16_Tick_1 q (Sref16_Tick_1.mk l304.1 l304.2.1 (0 : Int) l304.2.2.1 l304.2.2.2.1 l304.2.2.2.2 ([]))) fun l305 =>
                                        .ite (decide ((65536 : Int) = 0))
                                          .fail
                                          (.ite (decide ((65536 : Int) = 0))
                                            .fail
                                            (.ite (decide ((IntKind.wrap .i64 (l305.2.2.1.words - l305.1)) = (0 : Int)))
                                              (.leaf ((Disk.mk l305.2.2.1.drive l305.2.2.1.enable true l305.2.2.1.error l305.2.2.1.command (IntKind.wrap .i64 (l305.2.2.1.words - l305.1)) (((IntKind.wrap .i64 (l305.2.2.1.addr + (IntKind.wrap .i64 ((2 : Int) * l305.1))))).tmod (65536 : Int)) (((IntKind.wrap .i64 (l305.2.2.1.start + (1 : Int)))).tmod (65536 : Int)) l305.2.2.1.left, l305.2.1, l305.2.2.2.2)))
                                              (.leaf ((Disk.mk l305.2.2.1.drive l305.2.2.1.enable l305.2.2.1.ready l305.2.2.1.error l305.2.2.1.command (IntKind.wrap .i64 (l305.2.2.1.words - l305.1)) (((IntKind.wrap .i64 (l305.2.2.1.addr + (IntKind.wrap .i64 ((2 : Int) * l305.1))))).tmod (65536 : Int)) (((IntKind.wrap .i64 (l305.2.2.1.start + (1 : Int)))).tmod (65536 : Int)) (8 : Int), l305.2.1, l305.2.2.2.2))))))
                                    .fail)
                                  (.ite (decide ((65536 : Int) = 0))
                                    .fail
                                    (.ite (decide ((65536 : Int) = 0))
                                      .fail
                                      (.ite (decide ((IntKind.wrap .i64 (x0.words - x0.words)) = (0 : Int)))
                                        (.leaf ((Disk.mk r302.1 x0.enable true x0.error x0.command (IntKind.wrap .i64 (x0.words - x0.words)) (((IntKind.wrap .i64 (x0.addr + (IntKind.wrap .i64 ((2 : Int) * x0.words))))).tmod (65536 : Int)) (((IntKind.wrap .i64 (x0.start + (1 : Int)))).tmod (65536 : Int)) (IntKind.wrap .i64 (x0.left - (1 : Int))), x1, x2)))
                                        (.leaf ((Disk.mk r302.1 x0.enable x0.ready x0.error x0.command (IntKind.wrap .i64 (x0.words - x0.words)) (((IntKind.wrap .i64 (x0.addr + (IntKind.wrap .i64 ((2 : Int) * x0.words))))).tmod (65536 : Int)) (((IntKind.wrap .i64 (x0.start + (1 : Int)))).tmod (65536 : Int)) (8 : Int), x1, x2))))))))
                          (.ite (decide (x0.command = (1 : Int)))
                            (.ite (decide ((([] : List Int).length + x1.length) * 8 ≤ 140737488355328))
                              (.opt ((List Int) × Int × (List Int) × Disk × Disk) (Lref16_Tick_0 q (Sref16_Tick_0.mk x2 x0.words r279.1 (0 : Int) (([] : List Int) ++ x1) (Disk.mk x0.drive x0.enable x0.ready x0.error x0.command x0.words x0.addr x0.start (IntKind.wrap .i64 (x0.left - (1 : Int)))) (Disk.mk (Drive.mk ([]) ([])) false false false 0 0 0 0 0))) fun l306 =>
                                .opt (Int × (List Int) × Disk × Disk × (List Int)) (Lref16_Tick_1 q (Sref16_Tick_1.mk l306.1 l306.2.1 (0 : Int) l306.2.2.1 l306.2.2.2.1 l306.2.2.2.2 ([]))) fun l307 =>
                                  .ite (decide ((65536 : Int) = 0))
                                    .fail
                                    (.ite (decide ((65536 : Int) = 0))
                                      .fail
                                      (.ite (decide ((IntKind.wrap .i64 (l307.2.2.1.words - l307.1)) = (0 : Int)))
                                        (.leaf ((Disk.mk l307.2.2.1.drive l307.2.2.1.enable true l307.2.2.1.error l307.2.2.1.command (IntKind.wrap .i64 (l307.2.2.1.words - l307.1)) (((IntKind.wrap .i64 (l307.2.2.1.addr + (IntKind.wrap .i64 ((2 : Int) * l307.1))))).tmod (65536 : Int)) (((IntKind.wrap .i64 (l307.2.2.1.start + (1 : Int)))).tmod (65536 : Int)) l307.2.2.1.left, l307.2.1, l307.2.2.2.2)))
                                        (.leaf ((Disk.mk l307.2.2.1.drive l307.2.2.1.enable l307.2.2.1.ready l307.2.2.1.error l307.2.2.1.command (IntKind.wrap .i64 (l307.2.2.1.words - l307.1)) (((IntKind.wrap .i64 (l307.2.2.1.addr + (IntKind.wrap .i64 ((2 : Int) * l307.1))))).tmod (65536 : Int)) (((IntKind.wrap .i64 (l307.2.2.1.start + (1 : Int)))).tmod (65536 : Int)) (8 : Int), l307.2.1, l307.2.2.2.2))))))
                              .fail)
                            (.ite (decide ((65536 : Int) = 0))
                              .fail
                              (.ite (decide ((65536 : Int) = 0))
                                .fail
                                (.ite (decide ((IntKind.wrap .i64 (x0.words - x0.words)) = (0 : Int)))
                                  (.leaf ((Disk.mk x0.drive x0.enable true x0.error x0.command (IntKind.wrap .i64 (x0.words - x0.words)) (((IntKind.wrap .i64 (x0.addr + (IntKind.wrap .i64 ((2 : Int) * x0.words))))).tmod (65536 : Int)) (((IntKind.wrap .i64 (x0.start + (1 : Int)))).tmod (65536 : Int)) (IntKind.wrap .i64 (x0.left - (1 : Int))), x1, x2)))
                                  (.leaf ((Disk.mk x0.drive x0.enable x0.ready x0.error x0.command (IntKind.wrap .i64 (x0.words - x0.words)) (((IntKind.wrap .i64 (x0.addr + (IntKind.wrap .i64 ((2 : Int) * x0.words))))).tmod (65536 : Int)) (((IntKind.wrap .i64 (x0.start + (1 : Int)))).tmod (65536 : Int)) (8 : Int), x1, x2)))))))))
                    (.ite (decide (x0.command = (2 : Int)))
                      (.opt (List UInt8) (ref16_sector q x1 x0.addr x0.words) fun r308 =>
                        .opt (Drive × Int) (ref15_Write q x0.drive x0.start r308) fun r309 =>
                          .ite (!decide (r309.2 = (0 : Int)))
                            (.opt Disk (ref16_failed (Disk.mk x0.drive x0.enable x0.ready x0.error x0.command x0.words x0.addr x0.start (IntKind.wrap .i64 (x0.left - (1 : Int))))) fun r310 =>
                              .leaf ((r310, x1, x2)))
                            (.ite (decide (x0.command = (1 : Int)))
                              (.ite (decide ((([] : List Int).length + x1.length) * 8 ≤ 140737488355328))
                                (.opt ((List Int) × Int × (List Int) × Disk × Disk) (Lref16_Tick_0 q (Sref16_Tick_0.mk x2 x0.words r279.1 (0 : Int) (([] : List Int) ++ x1) (Disk.mk r309.1 x0.enable x0.ready x0.error x0.command x0.words x0.addr x0.start (IntKind.wrap .i64 (x0.left - (1 : Int)))) (Disk.mk (Drive.mk ([]) ([])) false false false 0 0 0 0 0))) fun l311 =>
                                  .opt (Int × (List Int) × Disk × Disk × (List Int)) (Lref16_Tick_1 q (Sref16_Tick_1.mk l311.1 l311.2.1 (0 : Int) l311.2.2.1 l311.2.2.2.1 l311.2.2.2.2 ([]))) fun l312 =>
                                    .ite (decide ((65536 : Int) = 0))
                                      .fail
                                      (.ite (decide ((65536 : Int) = 0))
                                        .fail
                                        (.ite (decide ((IntKind.wrap .i64 (l312.2.2.1.words - l312.1)) = (0 : Int)))
                                          (.leaf ((Disk.mk l312.2.2.1.drive l312.2.2.1.enable true l312.2.2.1.error l312.2.2.1.command (IntKind.wrap .i64 (l312.2.2.1.words - l312.1)) (((IntKind.wrap .i64 (l312.2.2.1.addr + (IntKind.wrap .i64 ((2 : Int) * l312.1))))).tmod (65536 : Int)) (((IntKind.wrap .i64 (l312.2.2.1.start + (1 : Int)))).tmod (65536 : Int)) l312.2.2.1.left, l312.2.1, l312.2.2.2.2)))
                                          (.leaf ((Disk.mk l312.2.2.1.drive l312.2.2.1.enable l312.2.2.1.ready l312.2.2.1.error l312.2.2.1.command (IntKind.wrap .i64 (l312.2.2.1.words - l312.1)) (((IntKind.wrap .i64 (l312.2.2.1.addr + (IntKind.wrap .i64 ((2 : Int) * l312.1))))).tmod (65536 : Int)) (((IntKind.wrap .i64 (l312.2.2.1.start + (1 : Int)))).tmod (65536 : Int)) (8 : Int), l312.2.1, l312.2.2.2.2))))))
                                .fail)
                              (.ite (decide ((65536 : Int) = 0))
                                .fail
                                (.ite (decide ((65536 : Int) = 0))
                                  .fail
                                  (.ite (decide ((IntKind.wrap .i64 (x0.words - x0.words)) = (0 : Int)))
                                    (.leaf ((Disk.mk r309.1 x0.enable true x0.error x0.command (IntKind.wrap .i64 (x0.words - x0.words)) (((IntKind.wrap .i64 (x0.addr + (IntKind.wrap .i64 ((2 : Int) * x0.words))))).tmod (65536 : Int)) (((IntKind.wrap .i64 (x0.start + (1 : Int)))).tmod (65536 : Int)) (IntKind.wrap .i64 (x0.left - (1 : Int))), x1, x2)))
                                    (.leaf ((Disk.mk r309.1 x0.enable x0.ready x0.error x0.command (IntKind.wrap .i64 (x0.words - x0.words)) (((IntKind.wrap .i64 (x0.addr + (IntKind.wrap .i64 ((2 : Int) * x0.words))))).tmod (65536 : Int)) (((IntKind.wrap .i64 (x0.start + (1 : Int)))).tmod (65536 : Int)) (8 : Int), x1, x2))))))))
                      (.ite (decide (x0.command = (1 : Int)))
                        (.ite (decide ((([] : List Int).length + x1.length) * 8 ≤ 140737488355328))
                          (.opt ((List Int) × Int × (List Int) × Disk × Disk) (Lref16_Tick_0 q (Sref16_Tick_0.mk x2 x0.words r279.1 (0 : Int) (([] : List Int) ++ x1) (Disk.mk x0.drive x0.enable x0.ready x0.error x0.command x0.words x0.addr x0.start (IntKind.wrap .i64 (x0.left - (1 : Int)))) (Disk.mk (Drive.mk ([]) ([])) false false false 0 0 0 0 0))) fun l313 =>
                            .opt (Int × (List Int) × Disk × Disk × (List Int)) (Lref16_Tick_1 q (Sref16_Tick_1.mk l313.1 l313.2.1 (0 : Int) l313.2.2.1 l313.2.2.2.1 l313.2.2.2.2 ([]))) fun l314 =>
                              .ite (decide ((65536 : Int) = 0))
                                .fail
                                (.ite (decide ((65536 : Int) = 0))
                                  .fail
                                  (.ite (decide ((IntKind.wrap .i64 (l314.2.2.1.words - l314.1)) = (0 : Int)))
                                    (.leaf ((Disk.mk l314.2.2.1.drive l314.2.2.1.enable true l314.2.2.1.error l314.2.2.1.command (IntKind.wrap .i64 (l314.2.2.1.words - l314.1)) (((IntKind.wrap .i64 (l314.2.2.1.addr + (IntKind.wrap .i64 ((2 : Int) * l314.1))))).tmod (65536 : Int)) (((IntKind.wrap .i64 (l314.2.2.1.start + (1 : Int)))).tmod (65536 : Int)) l314.2.2.1.left, l314.2.1, l314.2.2.2.2)))
                                    (.leaf ((Disk.mk l314.2.2.1.drive l314.2.2.1.enable l314.2.2.1.ready l314.2.2.1.error l314.2.2.1.command (IntKind.wrap .i64 (l314.2.2.1.words - l314.1)) (((IntKind.wrap .i64 (l314.2.2.1.addr + (IntKind.wrap .i64 ((2 : Int) * l314.1))))).tmod (65536 : Int)) (((IntKind.wrap .i64 (l314.2.2.1.start + (1 : Int)))).tmod (65536 : Int)) (8 : Int), l314.2.1, l314.2.2.2.2))))))
                          .fail)
                        (.ite (decide ((65536 : Int) = 0))
                          .fail
                          (.ite (decide ((65536 : Int) = 0))
                            .fail
                            (.ite (decide ((IntKind.wrap .i64 (x0.words - x0.words)) = (0 : Int)))
                              (.leaf ((Disk.mk x0.drive x0.enable true x0.error x0.command (IntKind.wrap .i64 (x0.words - x0.words)) (((IntKind.wrap .i64 (x0.addr + (IntKind.wrap .i64 ((2 : Int) * x0.words))))).tmod (65536 : Int)) (((IntKind.wrap .i64 (x0.start + (1 : Int)))).tmod (65536 : Int)) (IntKind.wrap .i64 (x0.left - (1 : Int))), x1, x2)))
                              (.leaf ((Disk.mk x0.drive x0.enable x0.ready x0.error x0.command (IntKind.wrap .i64 (x0.words - x0.words)) (((IntKind.wrap .i64 (x0.addr + (IntKind.wrap .i64 ((2 : Int) * x0.words))))).tmod (65536 : Int)) (((IntKind.wrap .i64 (x0.start + (1 : Int)))).tmod (65536 : Int)) (8 : Int), x1, x2)))))))))))
              (.ite (!decide (x0.command = (1 : Int)))
                (.opt Bool (ref16_spoilt q x2 x0.addr x0.words) fun r315 =>
                  .ite (r315)
                    (.opt Disk (ref16_failed (Disk.mk x0.drive x0.enable x0.ready x0.error x0.command x0.words x0.addr x0.start (IntKind.wrap .i64 (x0.left - (1 : Int))))) fun r316 =>
                      .leaf ((r316, x1, x2)))
                    (.ite (decide (x0.command = (3 : Int)))
                      (.opt Bool (ref16_differs q x1 x0.addr x0.words r279.1) fun r317 =>
                        .ite (r317)
                          (.opt Disk (ref16_failed (Disk.mk x0.drive x0.enable x0.ready x0.error x0.command x0.words x0.addr x0.start (IntKind.wrap .i64 (x0.left - (1 : Int))))) fun r318 =>
                            .leaf ((r318, x1, x2)))
                          (.ite (decide (x0.command = (2 : Int)))
                            (.opt (List UInt8) (ref16_sector q x1 x0.addr x0.words) fun r319 =>
                              .opt (Drive × Int) (ref15_Write q x0.drive x0.start r319) fun r320 =>
                                .ite (!decide (r320.2 = (0 : Int)))
                                  (.opt Disk (ref16_failed (Disk.mk x0.drive x0.enable x0.ready x0.error x0.command x0.words x0.addr x0.start (IntKind.wrap .i64 (x0.left - (1 : Int))))) fun r321 =>
                                    .leaf ((r321, x1, x2)))
                                  (.ite (decide (x0.command = (1 : Int)))
                                    (.ite (decide ((([] : List Int).length + x1.length) * 8 ≤ 140737488355328))
                                      (.opt ((List Int) × Int × (List Int) × Disk × Disk) (Lref16_Tick_0 q (Sref16_Tick_0.mk x2 x0.words r279.1 (0 : Int) (([] : List Int) ++ x1) (Disk.mk r320.1 x0.enable x0.ready x0.error x0.command x0.words x0.addr x0.start (IntKind.wrap .i64 (x0.left - (1 : Int)))) (Disk.mk (Drive.mk ([]) ([])) false false false 0 0 0 0 0))) fun l322 =>
                                        .opt (Int × (List Int) × Disk × Disk × (List Int)) (Lref16_Tick_1 q (Sref16_Tick_1.mk l322.1 l322.2.1 (0 : Int) l322.2.2.1 l322.2.2.2.1 l322.2.2.2.2 ([]))) fun l323 =>
                                          .ite (decide ((65536 : Int) = 0))
                                            .fail
                                            (.ite (decide ((65536 : Int) = 0))
                                              .fail
                                              (.ite (decide ((IntKind.wrap .i64 (l323.2.2.1.words - l323.1)) = (0 : Int)))
                                                (.leaf ((Disk.mk l323.2.2.1.drive l323.2.2.1.enable true l323.2.2.1.error l323.2.2.1.command (IntKind.wrap .i64 (l323.2.2.1.words - l323.1)) (((IntKind.wrap .i64 (l323.2.2.1.addr + (IntKind.wrap .i64 ((2 : Int) * l323.1))))).tmod (65536 : Int)) (((IntKind.wrap .i64 (l323.2.2.1.start + (1 : Int)))).tmod (65536 : Int)) l323.2.2.1.left, l323.2.1, l323.2.2.2.2)))
                                                (.leaf ((Disk.mk l323.2.2.1.drive l323.2.2.1.enable l323.2.2.1.ready l323.2.2.1.error l323.2.2.1.command (IntKind.wrap .i64 (l323.2.2.1.words - l323.1)) (((IntKind.wrap .i64 (l323.2.2.1.addr + (IntKind.wrap .i64 ((2 : Int) * l323.1))))).tmod (65536 : Int)) (((IntKind.wrap .i64 (l323.2.2.1.start + (1 : Int)))).tmod (65536 : Int)) (8 : Int), l323.2.1, l323.2.2.2.2))))))
                                      .fail)
                                    (.ite (decide ((65536 : Int) = 0))
                                      .fail
                                      (.ite (decide ((65536 : Int) = 0))
                                        .fail
                                        (.ite (decide ((IntKind.wrap .i64 (x0.words - x0.words)) = (0 : Int)))
                                          (.leaf ((Disk.mk r320.1 x0.enable true x0.error x0.command (IntKind.wrap .i64 (x0.words - x0.words)) (((IntKind.wrap .i64 (x0.addr + (IntKind.wrap .i64 ((2 : Int) * x0.words))))).tmod (65536 : Int)) (((IntKind.wrap .i64 (x0.start + (1 : Int)))).tmod (65536 : Int)) (IntKind.wrap .i64 (x0.left - (1 : Int))), x1, x2)))
                                          (.leaf ((Disk.mk r320.1 x0.enable x0.ready x0.error x0.command (IntKind.wrap .i64 (x0.words - x0.words)) (((IntKind.wrap .i64 (x0.addr + (IntKind.wrap .i64 ((2 : Int) * x0.words))))).tmod (65536 : Int)) (((IntKind.wrap .i64 (x0.start + (1 : Int)))).tmod (65536 : Int)) (8 : Int), x1, x2))))))))
                            (.ite (decide (x0.command = (1 : Int)))
                              (.ite (decide ((([] : List Int).length + x1.length) * 8 ≤ 140737488355328))
                                (.opt ((List Int) × Int × (List Int) × Disk × Disk) (Lref16_Tick_0 q (Sref16_Tick_0.mk x2 x0.words r279.1 (0 : Int) (([] : List Int) ++ x1) (Disk.mk x0.drive x0.enable x0.ready x0.error x0.command x0.words x0.addr x0.start (IntKind.wrap .i64 (x0.left - (1 : Int)))) (Disk.mk (Drive.mk ([]) ([])) false false false 0 0 0 0 0))) fun l324 =>
                                  .opt (Int × (List Int) × Disk × Disk × (List Int)) (Lref16_Tick_1 q (Sref16_Tick_1.mk l324.1 l324.2.1 (0 : Int) l324.2.2.1 l324.2.2.2.1 l324.2.2.2.2 ([]))) fun l325 =>
                                    .ite (decide ((65536 : Int) = 0))
                                      .fail
                                      (.ite (decide ((65536 : Int) = 0))
                                        .fail
                                        (.ite (decide ((IntKind.wrap .i64 (l325.2.2.1.words - l325.1)) = (0 : Int)))
                                          (.leaf ((Disk.mk l325.2.2.1.drive l325.2.2.1.enable true l325.2.2.1.error l325.2.2.1.command (IntKind.wrap .i64 (l325.2.2.1.words - l325.1)) (((IntKind.wrap .i64 (l325.2.2.1.addr + (IntKind.wrap .i64 ((2 : Int) * l325.1))))).tmod (65536 : Int)) (((IntKind.wrap .i64 (l325.2.2.1.start + (1 : Int)))).tmod (65536 : Int)) l325.2.2.1.left, l325.2.1, l325.2.2.2.2)))
                                          (.leaf ((Disk.mk l325.2.2.1.drive l325.2.2.1.enable l325.2.2.1.ready l325.2.2.1.error l325.2.2.1.command (IntKind.wrap .i64 (l325.2.2.1.words - l325.1)) (((IntKind.wrap .i64 (l325.2.2.1.addr + (IntKind.wrap .i64 ((2 : Int) * l325.1))))).tmod (65536 : Int)) (((IntKind.wrap .i64 (l325.2.2.1.start + (1 : Int)))).tmod (65536 : Int)) (8 : Int), l325.2.1, l325.2.2.2.2))))))
                                .fail)
                              (.ite (decide ((65536 : Int) = 0))
                                .fail
                                (.ite (decide ((65536 : Int) = 0))
                                  .fail
                                  (.ite (decide ((IntKind.wrap .i64 (x0.words - x0.words)) = (0 : Int)))
                                    (.leaf ((Disk.mk x0.drive x0.enable true x0.error x0.command (IntKind.wrap .i64 (x0.words - x0.words)) (((IntKind.wrap .i64 (x0.addr + (IntKind.wrap .i64 ((2 : Int) * x0.words))))).tmod (65536 : Int)) (((IntKind.wrap .i64 (x0.start + (1 : Int)))).tmod (65536 : Int)) (IntKind.wrap .i64 (x0.left - (1 : Int))), x1, x2)))
                                    (.leaf ((Disk.mk x0.drive x0.enable x0.ready x0.error x0.command (IntKind.wrap .i64 (x0.words - x0.words)) (((IntKind.wrap .i64 (x0.addr + (IntKind.wrap .i64 ((2 : Int) * x0.words))))).tmod (65536 : Int)) (((IntKind.wrap .i64 (x0.start + (1 : Int)))).tmod (65536 : Int)) (8 : Int), x1, x2)))))))))
                      (.ite (decide (x0.command = (2 : Int)))
                        (.opt (List UInt8) (ref16_sector q x1 x0.addr x0.words) fun r326 =>
                          .opt (Drive × Int) (ref15_Write q x0.drive x0.start r326) fun r327 =>
                            .ite (!decide (r327.2 = (0 : Int)))
                              (.opt Disk (ref16_failed (Disk.mk x0.drive x0.enable x0.ready x0.error x0.command x0.words x0.addr x0.start (IntKind.wrap .i64 (x0.left - (1 : Int))))) fun r328 =>
                                .leaf ((r328, x1, x2)))
                              (.ite (decide (x0.command = (1 : Int)))
                                (.ite (decide ((([] : List Int).length + x1.length) * 8 ≤ 140737488355328))
                                  (.opt ((List Int) × Int × (List Int) × Disk × Disk) (Lref16_Tick_0 q (Sref16_Tick_0.mk x2 x0.words r279.1 (0 : Int) (([] : List Int) ++ x1) (Disk.mk r327.1 x0.enable x0.ready x0.error x0.command x0.words x0.addr x0.start (IntKind.wrap .i64 (x0.left - (1 : Int)))) (Disk.mk (Drive.mk ([]) ([])) false false false 0 0 0 0 0))) fun l329 =>
                                    .opt (Int × (List Int) × Disk × Disk × (List Int)) (Lref16_Tick_1 q (Sref16_Tick_1.mk l329.1 l329.2.1 (0 : Int) l329.2.2.1 l329.2.2.2.1 l329.2.2.2.2 ([]))) fun l330 =>
                                      .ite (decide ((65536 : Int) = 0))
                                        .fail
                                        (.ite (decide ((65536 : Int) = 0))
                                          .fail
                                          (.ite (decide ((IntKind.wrap .i64 (l330.2.2.1.words - l330.1)) = (0 : Int)))
                                            (.leaf ((Disk.mk l330.2.2.1.drive l330.2.2.1.enable true l330.2.2.1.error l330.2.2.1.command (IntKind.wrap .i64 (l330.2.2.1.words - l330.1)) (((IntKind.wrap .i64 (l330.2.2.1.addr + (IntKind.wrap .i64 ((2 : Int) * l330.1))))).tmod (65536 : Int)) (((IntKind.wrap .i64 (l330.2.2.1.start + (1 : Int)))).tmod (65536 : Int)) l330.2.2.1.left, l330.2.1, l330.2.2.2.2)))
                                            (.leaf ((Disk.mk l330.2.2.1.drive l330.2.2.1.enable l330.2.2.1.ready l330.2.2.1.error l330.2.2.1.command (IntKind.wrap .i64 (l330.2.2.1.words - l330.1)) (((IntKind.wrap .i64 (l330.2.2.1.addr + (IntKind.wrap .i64 ((2 : Int) * l330.1))))).tmod (65536 : Int)) (((IntKind.wrap .i64 (l330.2.2.1.start + (1 : Int)))).tmod (65536 : Int)) (8 : Int), l330.2.1, l330.2.2.2.2))))))
                                  .fail)
                                (.ite (decide ((65536 : Int) = 0))
                                  .fail
                                  (.ite (decide ((65536 : Int) = 0))
                                    .fail
                                    (.ite (decide ((IntKind.wrap .i64 (x0.words - x0.words)) = (0 : Int)))
                                      (.leaf ((Disk.mk r327.1 x0.enable true x0.error x0.command (IntKind.wrap .i64 (x0.words - x0.words)) (((IntKind.wrap .i64 (x0.addr + (IntKind.wrap .i64 ((2 : Int) * x0.words))))).tmod (65536 : Int)) (((IntKind.wrap .i64 (x0.start + (1 : Int)))).tmod (65536 : Int)) (IntKind.wrap .i64 (x0.left - (1 : Int))), x1, x2)))
                                      (.leaf ((Disk.mk r327.1 x0.enable x0.ready x0.error x0.command (IntKind.wrap .i64 (x0.words - x0.words)) (((IntKind.wrap .i64 (x0.addr + (IntKind.wrap .i64 ((2 : Int) * x0.words))))).tmod (65536 : Int)) (((IntKind.wrap .i64 (x0.start + (1 : Int)))).tmod (65536 : Int)) (8 : Int), x1, x2))))))))
                        (.ite (decide (x0.command = (1 : Int)))
                          (.ite (decide ((([] : List Int).length + x1.length) * 8 ≤ 140737488355328))
                            (.opt ((List Int) × Int × (List Int) × Disk × Disk) (Lref16_Tick_0 q (Sref16_Tick_0.mk x2 x0.words r279.1 (0 : Int) (([] : List Int) ++ x1) (Disk.mk x0.drive x0.enable x0.ready x0.error x0.command x0.words x0.addr x0.start (IntKind.wrap .i64 (x0.left - (1 : Int)))) (Disk.mk (Drive.mk ([]) ([])) false false false 0 0 0 0 0))) fun l331 =>
                              .opt (Int × (List Int) × Disk × Disk × (List Int)) (Lref16_Tick_1 q (Sref16_Tick_1.mk l331.1 l331.2.1 (0 : Int) l331.2.2.1 l331.2.2.2.1 l331.2.2.2.2 ([]))) fun l332 =>
                                .ite (decide ((65536 : Int) = 0))
                                  .fail
                                  (.ite (decide ((65536 : Int) = 0))
                                    .fail
                                    (.ite (decide ((IntKind.wrap .i64 (l332.2.2.1.words - l332.1)) = (0 : Int)))
                                      (.leaf ((Disk.mk l332.2.2.1.drive l332.2.2.1.enable true l332.2.2.1.error l332.2.2.1.command (IntKind.wrap .i64 (l332.2.2.1.words - l332.1)) (((IntKind.wrap .i64 (l332.2.2.1.addr + (IntKind.wrap .i64 ((2 : Int) * l332.1))))).tmod (65536 : Int)) (((IntKind.wrap .i64 (l332.2.2.1.start + (1 : Int)))).tmod (65536 : Int)) l332.2.2.1.left, l332.2.1, l332.2.2.2.2)))
                                      (.leaf ((Disk.mk l332.2.2.1.drive l332.2.2.1.enable l332.2.2.1.ready l332.2.2.1.error l332.2.2.1.command (IntKind.wrap .i64 (l332.2.2.1.words - l332.1)) (((IntKind.wrap .i64 (l332.2.2.1.addr + (IntKind.wrap .i64 ((2 : Int) * l332.1))))).tmod (65536 : Int)) (((IntKind.wrap .i64 (l332.2.2.1.start + (1 : Int)))).tmod (65536 : Int)) (8 : Int), l332.2.1, l332.2.2.2.2))))))
                            .fail)
                          (.ite (decide ((65536 : Int) = 0))
                            .fail
                            (.ite (decide ((65536 : Int) = 0))
                              .fail
                              (.ite (decide ((IntKind.wrap .i64 (x0.words - x0.words)) = (0 : Int)))
                                (.leaf ((Disk.mk x0.drive x0.enable true x0.error x0.command (IntKind.wrap .i64 (x0.words - x0.words)) (((IntKind.wrap .i64 (x0.addr + (IntKind.wrap .i64 ((2 : Int) * x0.words))))).tmod (65536 : Int)) (((IntKind.wrap .i64 (x0.start + (1 : Int)))).tmod (65536 : Int)) (IntKind.wrap .i64 (x0.left - (1 : Int))), x1, x2)))
                                (.leaf ((Disk.mk x0.drive x0.enable x0.ready x0.error x0.command (IntKind.wrap .i64 (x0.words - x0.words)) (((IntKind.wrap .i64 (x0.addr + (IntKind.wrap .i64 ((2 : Int) * x0.words))))).tmod (65536 : Int)) (((IntKind.wrap .i64 (x0.start + (1 : Int)))).tmod (65536 : Int)) (8 : Int), x1, x2))))))))))
                (.ite (decide (x0.command = (3 : Int)))
                  (.opt Bool (ref16_differs q x1 x0.addr x0.words r279.1) fun r333 =>
                    .ite (r333)
                      (.opt Disk (ref16_failed (Disk.mk x0.drive x0.enable x0.ready x0.error x0.command x0.words x0.addr x0.start (IntKind.wrap .i64 (x0.left - (1 : Int))))) fun r334 =>
                        .leaf ((r334, x1, x2)))
                      (.ite (decide (x0.command = (2 : Int)))
                        (.opt (List UInt8) (ref16_sector q x1 x0.addr x0.words) fun r335 =>
                          .opt (Drive × Int) (ref15_Write q x0.drive x0.start r335) fun r336 =>
                            .ite (!decide (r336.2 = (0 : Int)))
                              (.opt Disk (ref16_failed (Disk.mk x0.drive x0.enable x0.ready x0.error x0.command x0.words x0.addr x0.start (IntKind.wrap .i64 (x0.left - (1 : Int))))) fun r337 =>
                                .leaf ((r337, x1, x2)))
                              (.ite (decide (x0.command = (1 : Int)))
                                (.ite (decide ((([] : List Int).length + x1.length) * 8 ≤ 140737488355328))
                                  (.opt ((List Int) × Int × (List Int) × Disk × Disk) (Lref16_Tick_0 q (Sref16_Tick_0.mk x2 x0.words r279.1 (0 : Int) (([] : List Int) ++ x1) (Disk.mk r336.1 x0.enable x0.ready x0.error x0.command x0.words x0.addr x0.start (IntKind.wrap .i64 (x0.left - (1 : Int)))) (Disk.mk (Drive.mk ([]) ([])) false false false 0 0 0 0 0))) fun l338 =>
                                    .opt (Int × (List Int) × Disk × Disk × (List Int)) (Lref16_Tick_1 q (Sref16_Tick_1.mk l338.1 l338.2.1 (0 : Int) l338.2.2.1 l338.2.2.2.1 l338.2.2.2.2 ([]))) fun l339 =>
                                      .ite (decide ((65536 : Int) = 0))
                                        .fail
                                        (.ite (decide ((65536 : Int) = 0))
                                          .fail
                                          (.ite (decide ((IntKind.wrap .i64 (l339.2.2.1.words - l339.1)) = (0 : Int)))
                                            (.leaf ((Disk.mk l339.2.2.1.drive l339.2.2.1.enable true l339.2.2.1.error l339.2.2.1.command (IntKind.wrap .i64 (l339.2.2.1.words - l339.1)) (((IntKind.wrap .i64 (l339.2.2.1.addr + (IntKind.wrap .i64 ((2 : Int) * l339.1))))).tmod (65536 : Int)) (((IntKind.wrap .i64 (l339.2.2.1.start + (1 : Int)))).tmod (65536 : Int)) l339.2.2.1.left, l339.2.1, l339.2.2.2.2)))
                                            (.leaf ((Disk.mk l339.2.2.1.drive l339.2.2.1.enable l339.2.2.1.ready l339.2.2.1.error l339.2.2.1.command (IntKind.wrap .i64 (l339.2.2.1.words - l339.1)) (((IntKind.wrap .i64 (l339.2.2.1.addr + (IntKind.wrap .i64 ((2 : Int) * l339.1))))).tmod (65536 : Int)) (((IntKind.wrap .i64 (l339.2.2.1.start + (1 : Int)))).tmod (65536 : Int)) (8 : Int), l339.2.1, l339.2.2.2.2))))))
                                  .fail)
                                (.ite (decide ((65536 : Int) = 0))
                                  .fail
                                  (.ite (decide ((65536 : Int) = 0))
                                    .fail
                                    (.ite (decide ((IntKind.wrap .i64 (x0.words - x0.words)) = (0 : Int)))
                                      (.leaf ((Disk.mk r336.1 x0.enable true x0.error x0.command (IntKind.wrap .i64 (x0.words - x0.words)) (((IntKind.wrap .i64 (x0.addr + (IntKind.wrap .i64 ((2 : Int) * x0.words))))).tmod (65536 : Int)) (((IntKind.wrap .i64 (x0.start + (1 : Int)))).tmod (65536 : Int)) (IntKind.wrap .i64 (x0.left - (1 : Int))), x1, x2)))
                                      (.leaf ((Disk.mk r336.1 x0.enable x0.ready x0.error x0.command (IntKind.wrap .i64 (x0.words - x0.words)) (((IntKind.wrap .i64 (x0.addr + (IntKind.wrap .i64 ((2 : Int) * x0.words))))).tmod (65536 : Int)) (((IntKind.wrap .i64 (x0.start + (1 : Int)))).tmod (65536 : Int)) (8 : Int), x1, x2))))))))
                        (.ite (decide (x0.command = (1 : Int)))
                          (.ite (decide ((([] : List Int).length + x1.length) * 8 ≤ 140737488355328))
                            (.opt ((List Int) × Int × (List Int) × Disk × Disk) (Lref16_Tick_0 q (Sref16_Tick_0.mk x2 x0.words r279.1 (0 : Int) (([] : List Int) ++ x1) (Disk.mk x0.drive x0.enable x0.ready x0.error x0.command x0.words x0.addr x0.start (IntKind.wrap .i64 (x0.left - (1 : Int)))) (Disk.mk (Drive.mk ([]) ([])) false false false 0 0 0 0 0))) fun l340 =>
                              .opt (Int × (List Int) × Disk × Disk × (List Int)) (Lref16_Tick_1 q (Sref16_Tick_1.mk l340.1 l340.2.1 (0 : Int) l340.2.2.1 l340.2.2.2.1 l340.2.2.2.2 ([]))) fun l341 =>
                                .ite (decide ((65536 : Int) = 0))
                                  .fail
                                  (.ite (decide ((65536 : Int) = 0))
                                    .fail
                                    (.ite (decide ((IntKind.wrap .i64 (l341.2.2.1.words - l341.1)) = (0 : Int)))
                                      (.leaf ((Disk.mk l341.2.2.1.drive l341.2.2.1.enable true l341.2.2.1.error l341.2.2.1.command (IntKind.wrap .i64 (l341.2.2.1.words - l341.1)) (((IntKind.wrap .i64 (l341.2.2.1.addr + (IntKind.wrap .i64 ((2 : Int) * l341.1))))).tmod (65536 : Int)) (((IntKind.wrap .i64 (l341.2.2.1.start + (1 : Int)))).tmod (65536 : Int)) l341.2.2.1.left, l341.2.1, l341.2.2.2.2)))
                                      (.leaf ((Disk.mk l341.2.2.1.drive l341.2.2.1.enable l341.2.2.1.ready l341.2.2.1.error l341.2.2.1.command (IntKind.wrap .i64 (l341.2.2.1.words - l341.1)) (((IntKind.wrap .i64 (l341.2.2.1.addr + (IntKind.wrap .i64 ((2 : Int) * l341.1))))).tmod (65536 : Int)) (((IntKind.wrap .i64 (l341.2.2.1.start + (1 : Int)))).tmod (65536 : Int)) (8 : Int), l341.2.1, l341.2.2.2.2))))))
                            .fail)
                          (.ite (decide ((65536 : Int) = 0))
                            .fail
                            (.ite (decide ((65536 : Int) = 0))
                              .fail
                              (.ite (decide ((IntKind.wrap .i64 (x0.words - x0.words)) = (0 : Int)))
                                (.leaf ((Disk.mk x0.drive x0.enable true x0.error x0.command (IntKind.wrap .i64 (x0.words - x0.words)) (((IntKind.wrap .i64 (x0.addr + (IntKind.wrap .i64 ((2 : Int) * x0.words))))).tmod (65536 : Int)) (((IntKind.wrap .i64 (x0.start + (1 : Int)))).tmod (65536 : Int)) (IntKind.wrap .i64 (x0.left - (1 : Int))), x1, x2)))
                                (.leaf ((Disk.mk x0.drive x0.enable x0.ready x0.error x0.command (IntKind.wrap .i64 (x0.words - x0.words)) (((IntKind.wrap .i64 (x0.addr + (IntKind.wrap .i64 ((2 : Int) * x0.words))))).tmod (65536 : Int)) (((IntKind.wrap .i64 (x0.start + (1 : Int)))).tmod (65536 : Int)) (8 : Int), x1, x2)))))))))
                  (.ite (decide (x0.command = (2 : Int)))
                    (.opt (List UInt8) (ref16_sector q x1 x0.addr x0.words) fun r342 =>
                      .opt (Drive × Int) (ref15_Write q x0.drive x0.start r342) fun r343 =>
                        .ite (!decide (r343.2 = (0 : Int)))
                          (.opt Disk (ref16_failed (Disk.mk x0.drive x0.enable x0.ready x0.error x0.command x0.words x0.addr x0.start (IntKind.wrap .i64 (x0.left - (1 : Int))))) fun r344 =>
                            .leaf ((r344, x1, x2)))
                          (.ite (decide (x0.command = (1 : Int)))
                            (.ite (decide ((([] : List Int).length + x1.length) * 8 ≤ 140737488355328))
                              (.opt ((List Int) × Int × (List Int) × Disk × Disk) (Lref16_Tick_0 q (Sref16_Tick_0.mk x2 x0.words r279.1 (0 : Int) (([] : List Int) ++ x1) (Disk.mk r343.1 x0.enable x0.ready x0.error x0.command x0.words x0.addr x0.start (IntKind.wrap .i64 (x0.left - (1 : Int)))) (Disk.mk (Drive.mk ([]) ([])) false false false 0 0 0 0 0))) fun l345 =>
                                .opt (Int × (List Int) × Disk × Disk × (List Int)) (Lref16_Tick_1 q (Sref16_Tick_1.mk l345.1 l345.2.1 (0 : Int) l345.2.2.1 l345.2.2.2.1 l345.2.2.2.2 ([]))) fun l346 =>
                                  .ite (decide ((65536 : Int) = 0))
                                    .fail
                                    (.ite (decide ((65536 : Int) = 0))
                                      .fail
                                      (.ite (decide ((IntKind.wrap .i64 (l346.2.2.1.words - l346.1)) = (0 : Int)))
                                        (.leaf ((Disk.mk l346.2.2.1.drive l346.2.2.1.enable true l346.2.2.1.error l346.2.2.1.command (IntKind.wrap .i64 (l346.2.2.1.words - l346.1)) (((IntKind.wrap .i64 (l346.2.2.1.addr + (IntKind.wrap .i64 ((2 : Int) * l346.1))))).tmod (65536 : Int)) (((IntKind.wrap .i64 (l346.2.2.1.start + (1 : Int)))).tmod (65536 : Int)) l346.2.2.1.left, l346.2.1, l346.2.2.2.2)))
                                        (.leaf ((Disk.mk l346.2.2.1.drive l346.2.2.1.enable l346.2.2.1.ready l346.2.2.1.error l346.2.2.1.command (IntKind.wrap .i64 (l346.2.2.1.words - l346.1)) (((IntKind.wrap .i64 (l346.2.2.1.addr + (IntKind.wrap .i64 ((2 : Int) * l346.1))))).tmod (65536 : Int)) (((IntKind.wrap .i64 (l346.2.2.1.start + (1 : Int)))).tmod (65536 : Int)) (8 : Int), l346.2.1, l346.2.2.2.2))))))
                              .fail)
                            (.ite (decide ((65536 : Int) = 0))
                              .fail
                              (.ite (decide ((65536 : Int) = 0))
                                .fail
                                (.ite (decide ((IntKind.wrap .i64 (x0.words - x0.words)) = (0 : Int)))
                                  (.leaf ((Disk.mk r343.1 x0.enable true x0.error x0.command (IntKind.wrap .i64 (x0.words - x0.words)) (((IntKind.wrap .i64 (x0.addr + (IntKind.wrap .i64 ((2 : Int) * x0.words))))).tmod (65536 : Int)) (((IntKind.wrap .i64 (x0.start + (1 : Int)))).tmod (65536 : Int)) (IntKind.wrap .i64 (x0.left - (1 : Int))), x1, x2)))
                                  (.leaf ((Disk.mk r343.1 x0.enable x0.ready x0.error x0.command (IntKind.wrap .i64 (x0.words - x0.words)) (((IntKind.wrap .i64 (x0.addr + (IntKind.wrap .i64 ((2 : Int) * x0.words))))).tmod (65536 : Int)) (((IntKind.wrap .i64 (x0.start + (1 : Int)))).tmod (65536 : Int)) (8 : Int), x1, x2))))))))
                    (.ite (decide (x0.command = (1 : Int)))
                      (.ite (decide ((([] : List Int).length + x1.length) * 8 ≤ 140737488355328))
                        (.opt ((List Int) × Int × (List Int) × Disk × Disk) (Lref16_Tick_0 q (Sref16_Tick_0.mk x2 x0.words r279.1 (0 : Int) (([] : List Int) ++ x1) (Disk.mk x0.drive x0.enable x0.ready x0.error x0.command x0.words x0.addr x0.start (IntKind.wrap .i64 (x0.left - (1 : Int)))) (Disk.mk (Drive.mk ([]) ([])) false false false 0 0 0 0 0))) fun l347 =>
                          .opt (Int × (List Int) × Disk × Disk × (List Int)) (Lref16_Tick_1 q (Sref16_Tick_1.mk l347.1 l347.2.1 (0 : Int) l347.2.2.1 l347.2.2.2.1 l347.2.2.2.2 ([]))) fun l348 =>
                            .ite (decide ((65536 : Int) = 0))
                              .fail
                              (.ite (decide ((65536 : Int) = 0))
                                .fail
                                (.ite (decide ((IntKind.wrap .i64 (l348.2.2.1.words - l348.1)) = (0 : Int)))
                                  (.leaf ((Disk.mk l348.2.2.1.drive l348.2.2.1.enable true l348.2.2.1.error l348.2.2.1.command (IntKind.wrap .i64 (l348.2.2.1.words - l348.1)) (((IntKind.wrap .i64 (l348.2.2.1.addr + (IntKind.wrap .i64 ((2 : Int) * l348.1))))).tmod (65536 : Int)) (((IntKind.wrap .i64 (l348.2.2.1.start + (1 : Int)))).tmod (65536 : Int)) l348.2.2.1.left, l348.2.1, l348.2.2.2.2)))
                                  (.leaf ((Disk.mk l348.2.2.1.drive l348.2.2.1.enable l348.2.2.1.ready l348.2.2.1.error l348.2.2.1.command (IntKind.wrap .i64 (l348.2.2.1.words - l348.1)) (((IntKind.wrap .i64 (l348.2.2.1.addr + (IntKind.wrap .i64 ((2 : Int) * l348.1))))).tmod (65536 : Int)) (((IntKind.wrap .i64 (l348.2.2.1.start + (1 : Int)))).tmod (65536 : Int)) (8 : Int), l348.2.1, l348.2.2.2.2))))))
                        .fail)
                      (.ite (decide ((65536 : Int) = 0))
                        .fail
                        (.ite (decide ((65536 : Int) = 0))
                          .fail
                          (.ite (decide ((IntKind.wrap .i64 (x0.words - x0.words)) = (0 : Int)))
                            (.leaf ((Disk.mk x0.drive x0.enable true x0.error x0.command (IntKind.wrap .i64 (x0.words - x0.words)) (((IntKind.wrap .i64 (x0.addr + (IntKind.wrap .i64 ((2 : Int) * x0.words))))).tmod (65536 : Int)) (((IntKind.wrap .i64 (x0.start + (1 : Int)))).tmod (65536 : Int)) (IntKind.wrap .i64 (x0.left - (1 : Int))), x1, x2)))
                            (.leaf ((Disk.mk x0.drive x0.enable x0.ready x0.error x0.command (IntKind.wrap .i64 (x0.words - x0.words)) (((IntKind.wrap .i64 (x0.addr + (IntKind.wrap .i64 ((2 : Int) * x0.words))))).tmod (65536 : Int)) (((IntKind.wrap .i64 (x0.start + (1 : Int)))).tmod (65536 : Int)) (8 : Int), x1, x2))))))))))))))
noncomputable def ref16_Tick (q : Option Nat) (x0 : Disk) (x1 : (List Int)) (x2 : (List Int)) : Option (Disk × (List Int) × (List Int)) := (Tref16_Tick q x0 x1 x2).run
theorem leref16_Tick (k : Nat) (x0 : Disk) (x1 : (List Int)) (x2 : (List Int)) : Le (ref16_Tick (some k) x0 x1 x2) (ref16_Tick none x0 x1 x2) := (TLe.ite TLe.rfl (TLe.ite TLe.rfl (TLe.ite (TLe.ite TLe.rfl (TLe.opt (leref15_Read k _ _) fun _ => (TLe.ite (TLe.ite TLe.rfl (TLe.ite (TLe.opt (leref16_spoilt k _ _ _) fun _ => (TLe.ite TLe.rfl (TLe.ite (TLe.opt (leref16_differs k _ _ _ _) fun _ => (TLe.ite TLe.rfl (TLe.ite (TLe.opt (leref16_sector k _ _ _) fun _ => (TLe.opt (leref15_Write k _ _ _) fun _ => (TLe.ite TLe.rfl (TLe.ite (TLe.ite (TLe.opt (leLref16_Tick_0 k _) fun _ => (TLe.opt (leLref16_Tick_1 k _) fun _ => TLe.rfl)) TLe.rfl) TLe.rfl)))) (TLe.ite (TLe.ite (TLe.opt (leLref16_Tick_0 k _) fun _ => (TLe.opt (leLref16_Tick_1 k _) fun _ => TLe.rfl)) TLe.rfl) TLe.rfl)))) (TLe.ite (TLe.opt (leref16_sector k _ _ _) fun _ => (TLe.opt (leref15_Write k _ _ _) fun _ => (TLe.ite TLe.rfl (TLe.ite (TLe.ite (TLe.opt (leLref16_Tick_0 k _) fun _ => (TLe.opt (leLref16_Tick_1 k _) fun _ => TLe.rfl)) TLe.rfl) TLe.rfl)))) (TLe.ite (TLe.ite (TLe.opt (leLref16_Tick_0 k _) fun _ => (TLe.opt (leLref16_Tick_1 k _) fun _ => TLe.rfl)) TLe.rfl) TLe.rfl))))) (TLe.ite (TLe.opt (leref16_differs k _ _ _ _) fun _ => (TLe.ite TLe.rfl (TLe.ite (TLe.opt (leref16_sector k _ _ _) fun _ => (TLe.opt (leref15_Write k _ _ _) fun _ => (TLe.ite TLe.rfl (TLe.ite (TLe.ite (TLe.opt (leLref16_Tick_0 k _) fun _ => (TLe.opt (leLref16_Tick_1 k _) fun _ => TLe.rfl)) TLe.rfl) TLe.rfl)))) (TLe.ite (TLe.ite (TLe.opt (leLref16_Tick_0 k _) fun _ => (TLe.opt (leLref16_Tick_1 k _) fun _ => TLe.rfl)) TLe.rfl) TLe.rfl)))) (TLe.ite (TLe.opt (leref16_sector k _ _ _) fun _ => (TLe.opt (leref15_Write k _ _ _) fun _ => (TLe.ite TLe.rfl (TLe.ite (TLe.ite (TLe.opt (leLref16_Tick_0 k _) fun _ => (TLe.opt (leLref16_Tick_1 k _) fun _ => TLe.rfl)) TLe.rfl) TLe.rfl)))) (TLe.ite (TLe.ite (TLe.opt (leLref16_Tick_0 k _) fun _ => (TLe.opt (leLref16_Tick_1 k _) fun _ => TLe.rfl)) TLe.rfl) TLe.rfl))))) (TLe.ite (TLe.opt (leref16_spoilt k _ _ _) fun _ => (TLe.ite TLe.rfl (TLe.ite (TLe.opt (leref16_differs k _ _ _ _) fun _ => (TLe.ite TLe.rfl (TLe.ite (TLe.opt (leref16_sector k _ _ _) fun _ => (TLe.opt (leref15_Write k _ _ _) fun _ => (TLe.ite TLe.rfl (TLe.ite (TLe.ite (TLe.opt (leLref16_Tick_0 k _) fun _ => (TLe.opt (leLref16_Tick_1 k _) fun _ => TLe.rfl)) TLe.rfl) TLe.rfl)))) (TLe.ite (TLe.ite (TLe.opt (leLref16_Tick_0 k _) fun _ => (TLe.opt (leLref16_Tick_1 k _) fun _ => TLe.rfl)) TLe.rfl) TLe.rfl)))) (TLe.ite (TLe.opt (leref16_sector k _ _ _) fun _ => (TLe.opt (leref15_Write k _ _ _) fun _ => (TLe.ite TLe.rfl (TLe.ite (TLe.ite (TLe.opt (leLref16_Tick_0 k _) fun _ => (TLe.opt (leLref16_Tick_1 k _) fun _ => TLe.rfl)) TLe.rfl) TLe.rfl)))) (TLe.ite (TLe.ite (TLe.opt (leLref16_Tick_0 k _) fun _ => (TLe.opt (leLref16_Tick_1 k _) fun _ => TLe.rfl)) TLe.rfl) TLe.rfl))))) (TLe.ite (TLe.opt (leref16_differs k _ _ _ _) fun _ => (TLe.ite TLe.rfl (TLe.ite (TLe.opt (leref16_sector k _ _ _) fun _ => (TLe.opt (leref15_Write k _ _ _) fun _ => (TLe.ite TLe.rfl (TLe.ite (TLe.ite (TLe.opt (leLref16_Tick_0 k _) fun _ => (TLe.opt (leLref16_Tick_1 k _) fun _ => TLe.rfl)) TLe.rfl) TLe.rfl)))) (TLe.ite (TLe.ite (TLe.opt (leLref16_Tick_0 k _) fun _ => (TLe.opt (leLref16_Tick_1 k _) fun _ => TLe.rfl)) TLe.rfl) TLe.rfl)))) (TLe.ite (TLe.opt (leref16_sector k _ _ _) fun _ => (TLe.opt (leref15_Write k _ _ _) fun _ => (TLe.ite TLe.rfl (TLe.ite (TLe.ite (TLe.opt (leLref16_Tick_0 k _) fun _ => (TLe.opt (leLref16_Tick_1 k _) fun _ => TLe.rfl)) TLe.rfl) TLe.rfl)))) (TLe.ite (TLe.ite (TLe.opt (leLref16_Tick_0 k _) fun _ => (TLe.opt (leLref16_Tick_1 k _) fun _ => TLe.rfl)) TLe.rfl) TLe.rfl))))))) (TLe.ite TLe.rfl (TLe.opt (leref15_Read k _ _) fun _ => (TLe.ite (TLe.ite TLe.rfl (TLe.ite (TLe.opt (leref16_spoilt k _ _ _) fun _ => (TLe.ite TLe.rfl (TLe.ite (TLe.opt (leref16_differs k _ _ _ _) fun _ => (TLe.ite TLe.rfl (TLe.ite (TLe.opt (leref16_sector k _ _ _) fun _ => (TLe.opt (leref15_Write k _ _ _) fun _ => (TLe.ite TLe.rfl (TLe.ite (TLe.ite (TLe.opt (leLref16_Tick_0 k _) fun _ => (TLe.opt (leLref16_Tick_1 k _) fun _ => TLe.rfl)) TLe.rfl) TLe.rfl)))) (TLe.ite (TLe.ite (TLe.opt (leLref16_Tick_0 k _) fun _ => (TLe.opt (leLref16_Tick_1 k _) fun _ => TLe.rfl)) TLe.rfl) TLe.rfl)))) (TLe.ite (TLe.opt (leref16_sector k _ _ _) fun _ => (TLe.opt (leref15_Write k _ _ _) fun _ => (TLe.ite TLe.rfl (TLe.ite (TLe.ite (TLe.opt (leLref16_Tick_0 k _) fun _ => (TLe.opt (leLref16_Tick_1 k _) fun _ => TLe.rfl)) TLe.rfl) TLe.rfl)))) (TLe.ite (TLe.ite (TLe.opt (leLref16_Tick_0 k _) fun _ => (TLe.opt (leLref16_Tick_1 k _) fun _ => TLe.rfl)) TLe.rfl) TLe.rfl))))) (TLe.ite (TLe.opt (leref16_differs k _ _ _ _) fun _ => (TLe.ite TLe.rfl (TLe.ite (TLe.opt (leref16_sector k _ _ _) fun _ => (TLe.opt (leref15_Write k _ _ _) fun _ => (TLe.ite TLe.rfl (TLe.ite (TLe.ite (TLe.opt (leLref16_Tick_0 k _) fun _ => (TLe.opt (leLref16_Tick_1 k _) fun _ => TLe.rfl)) TLe.rfl) TLe.rfl)))) (TLe.ite (TLe.ite (TLe.opt (leLref16_Tick_0 k _) fun _ => (TLe.opt (leLref16_Tick_1 k _) fun _ => TLe.rfl)) TLe.rfl) TLe.rfl)))) (TLe.ite (TLe.opt (leref16_sector k _ _ _) fun _ => (TLe.opt (leref15_Write k _ _ _) fun _ => (TLe.ite TLe.rfl (TLe.ite (TLe.ite (TLe.opt (leLref16_Tick_0 k _) fun _ => (TLe.opt (leLref16_Tick_1 k _) fun _ => TLe.rfl)) TLe.rfl) TLe.rfl)))) (TLe.ite (TLe.ite (TLe.opt (leLref16_Tick_0 k _) fun _ => (TLe.opt (leLref16_Tick_1 k _) fun _ => TLe.rfl)) TLe.rfl) TLe.rfl))))) (TLe.ite (TLe.opt (leref16_spoilt k _ _ _) fun _ => (TLe.ite TLe.rfl (TLe.ite (TLe.opt (leref16_differs k _ _ _ _) fun _ => (TLe.ite TLe.rfl (TLe.ite (TLe.opt (leref16_sector k _ _ _) fun _ => (TLe.opt (leref15_Write k _ _ _) fun _ => (TLe.ite TLe.rfl (TLe.ite (TLe.ite (TLe.opt (leLref16_Tick_0 k _) fun _ => (TLe.opt (leLref16_Tick_1 k _) fun _ => TLe.rfl)) TLe.rfl) TLe.rfl)))) (TLe.ite (TLe.ite (TLe.opt (leLref16_Tick_0 k _) fun _ => (TLe.opt (leLref16_Tick_1 k _) fun _ => TLe.rfl)) TLe.rfl) TLe.rfl)))) (TLe.ite (TLe.opt (leref16_sector k _ _ _) fun _ => (TLe.opt (leref15_Write k _ _ _) fun _ => (TLe.ite TLe.rfl (TLe.ite (TLe.ite (TLe.opt (leLref16_Tick_0 k _) fun _ => (TLe.opt (leLref16_Tick_1 k _) fun _ => TLe.rfl)) TLe.rfl) TLe.rfl)))) (TLe.ite (TLe.ite (TLe.opt (leLref16_Tick_0 k _) fun _ => (TLe.opt (leLref16_Tick_1 k _) fun _ => TLe.rfl)) TLe.rfl) TLe.rfl))))) (TLe.ite (TLe.opt (leref16_differs k _ _ _ _) fun _ => (TLe.ite TLe.rfl (TLe.ite (TLe.opt (leref16_sector k _ _ _) fun _ => (TLe.opt (leref15_Write k _ _ _) fun _ => (TLe.ite TLe.rfl (TLe.ite (TLe.ite (TLe.opt (leLref16_Tick_0 k _) fun _ => (TLe.opt (leLref16_Tick_1 k _) fun _ => TLe.rfl)) TLe.rfl) TLe.rfl)))) (TLe.ite (TLe.ite (TLe.opt (leLref16_Tick_0 k _) fun _ => (TLe.opt (leLref16_Tick_1 k _) fun _ => TLe.rfl)) TLe.rfl) TLe.rfl)))) (TLe.ite (TLe.opt (leref16_sector k _ _ _) fun _ => (TLe.opt (leref15_Write k _ _ _) fun _ => (TLe.ite TLe.rfl (TLe.ite (TLe.ite (TLe.opt (leLref16_Tick_0 k _) fun _ => (TLe.opt (leLref16_Tick_1 k _) fun _ => TLe.rfl)) TLe.rfl) TLe.rfl)))) (TLe.ite (TLe.ite (TLe.opt (leLref16_Tick_0 k _) fun _ => (TLe.opt (leLref16_Tick_1 k _) fun _ => TLe.rfl)) TLe.rfl) TLe.rfl))))))))))
noncomputable def Aref16_Tick : Arg U (Disk × (List Int) × (List Int) × Unit) := aA cDisk (aO (cSl 3) (aO (cSl 3) (aNil)))
noncomputable def Rref16_Tick (r : (Disk × (List Int) × (List Int))) : List (V U) × List (Blk U) := ([vA cDisk r.1, vO (cSl 3) r.2.1, vO (cSl 3) r.2.2], [])
noncomputable def Sref16_Tick : List (V U) → List (Blk U) → Option (FnOut U) := mkSpec Aref16_Tick bNil (fun x _ => ref16_Tick none x.1 x.2.1 x.2.2.1) Rref16_Tick
noncomputable def Pref16_Tick_0 (x : (Unit) × ((List Int) × Unit) × (Unit) × (Unit) × (Int × Unit) × ((List UInt8) × Unit) × (Int × Unit) × Unit) (g : (List Int) × (Disk × Unit) × (Disk × Unit) × Unit) : Sref16_Tick_0 := Sref16_Tick_0.mk x.2.1.1 x.2.2.2.2.1.1 x.2.2.2.2.2.1.1 x.2.2.2.2.2.2.1.1 g.1 g.2.1.1 g.2.2.1.1
noncomputable def tAref16_Tick_0 : Tms U ((Unit) × ((List Int) × Unit) × (Unit) × (Unit) × (Int × Unit) × ((List UInt8) × Unit) × (Int × Unit) × Unit) := tO 1 (cK (.row 0 0) (cUnit)) (tO 2 (cPair (cSl 3) (cUnit)) (tO 3 (cK (.ptr 1 0) (cUnit)) (tO 6 (cK (.ptr 2 0) (cUnit)) (tO 9 (cPair (cInt .i64) (cUnit)) (tO 10 (cPair cStr (cUnit)) (tO 14 (cPair (cInt .i64) (cUnit)) (tNil)))))))
noncomputable def tBref16_Tick_0 : Bls U ((List Int) × (Disk × Unit) × (Disk × Unit) × Unit) := bRv 3 0 (bC (cPair cDisk (cUnit)) (bC (cPair cDisk (cUnit)) (bNil)))
noncomputable def eSref16_Tick_0 (s : Sref16_Tick_0) : St U := { tm := [(1, .v (vO (cK (.row 0 0) (cUnit)) (()))), (2, .v (vO (cPair (cSl 3) (cUnit)) (s.t2, ()))), (3, .v (vO (cK (.ptr 1 0) (cUnit)) (()))), (6, .v (vO (cK (.ptr 2 0) (cUnit)) (()))), (9, .v (vO (cPair (cInt .i64) (cUnit)) (s.t9, ()))), (10, .v (vO (cPair cStr (cUnit)) (s.t10, ()))), (14, .v (vO (cPair (cInt .i64) (cUnit)) (s.t14, ())))], hp := [.row 3 0 s.b0, .cells ((cPair cDisk (cUnit) : Cdc U (Disk × Unit)).enc (s.b1, ())) none, .cells ((cPair cDisk (cUnit) : Cdc U (Disk × Unit)).enc (s.b2, ())) none] }
noncomputable def xSref16_Tick_0 (r : ((List Int) × Int × (List Int) × Disk × Disk)) : Ex × St U := (.exit 0, { tm := [(1, .v (vO (cK (.row 0 0) (cUnit)) (()))), (2, .v (vO (cPair (cSl 3) (cUnit)) (r.1, ()))), (3, .v (vO (cK (.ptr 1 0) (cUnit)) (()))), (6, .v (vO (cK (.ptr 2 0) (cUnit)) (()))), (9, .v (vO (cPair (cInt .i64) (cUnit)) (r.2.1, ())))], hp := [.row 3 0 r.2.2.1, .cells ((cPair cDisk (cUnit) : Cdc U (Disk × Unit)).enc (r.2.2.2.1, ())) none, .cells ((cPair cDisk (cUnit) : Cdc U (Disk × Unit)).enc (r.2.2.2.2, ())) none] })
noncomputable def xTref16_Tick_0 (r : ((List Int) × Int × (List Int) × Disk × Disk)) : Tree (Ex × St U) := .leaf (xSref16_Tick_0 r)
noncomputable def href16_Tick_0 : Hd := { keep := [1, 2, 3, 6, 9, 10, 14], xkeep := [1, 2, 3, 6, 7, 8, 9], own := false }
noncomputable def Pref16_Tick_1 (x : (Unit) × ((List Int) × Unit) × (Unit) × (Unit) × (Int × Unit) × (Unit) × (Int × Unit) × Unit) (g : (List Int) × (Disk × Unit) × (Disk × Unit) × (List Int) × Unit) : Sref16_Tick_1 := Sref16_Tick_1.mk x.2.1.1 x.2.2.2.2.1.1 x.2.2.2.2.2.2.1.1 g.1 g.2.1.1 g.2.2.1.1 g.2.2.2.1
noncomputable def tAref16_Tick_1 : Tms U ((Unit) × ((List Int) × Unit) × (Unit) × (Unit) × (Int × Unit) × (Unit) × (Int × Unit) × Unit) := tO 1 (cK (.row 0 0) (cUnit)) (tO 2 (cPair (cSl 3) (cUnit)) (tO 3 (cK (.ptr 1 0) (cUnit)) (tO 6 (cK (.ptr 2 0) (cUnit)) (tO 9 (cPair (cInt .i64) (cUnit)) (tO 15 (cK (.row 3 0) (cUnit)) (tO 16 (cPair (cInt .i64) (cUnit)) (tNil)))))))
noncomputable def tBref16_Tick_1 : Bls U ((List Int) × (Disk × Unit) × (Disk × Unit) × (List Int) × Unit) := bRv 3 0 (bC (cPair cDisk (cUnit)) (bC (cPair cDisk (cUnit)) (bRv 3 0 (bNil))))
noncomputable def eSref16_Tick_1 (s : Sref16_Tick_1) : St U := { tm := [(1, .v (vO (cK (.row 0 0) (cUnit)) (()))), (2, .v (vO (cPair (cSl 3) (cUnit)) (s.t2, ()))), (3, .v (vO (cK (.ptr 1 0) (cUnit)) (()))), (6, .v (vO (cK (.ptr 2 0) (cUnit)) (()))), (9, .v (vO (cPair (cInt .i64) (cUnit)) (s.t9, ()))), (15, .v (vO (cK (.row 3 0) (cUnit)) (()))), (16, .v (vO (cPair (cInt .i64) (cUnit)) (s.t16, ())))], hp := [.row 3 0 s.b0, .cells ((cPair cDisk (cUnit) : Cdc U (Disk × Unit)).enc (s.b1, ())) none, .cells ((cPair cDisk (cUnit) : Cdc U (Disk × Unit)).enc (s.b2, ())) none, .row 3 0 s.b3] }
noncomputable def xSref16_Tick_1 (r : (Int × (List Int) × Disk × Disk × (List Int))) : Ex × St U := (.exit 2, { tm := [(1, .v (vO (cK (.row 0 0) (cUnit)) (()))), (3, .v (vO (cK (.ptr 1 0) (cUnit)) (()))), (6, .v (vO (cK (.ptr 2 0) (cUnit)) (()))), (9, .v (vO (cPair (cInt .i64) (cUnit)) (r.1, ()))), (15, .v (vO (cK (.row 3 0) (cUnit)) (())))], hp := [.row 3 0 r.2.1, .cells ((cPair cDisk (cUnit) : Cdc U (Disk × Unit)).enc (r.2.2.1, ())) none, .cells ((cPair cDisk (cUnit) : Cdc U (Disk × Unit)).enc (r.2.2.2.1, ())) none, .row 3 0 r.2.2.2.2] })
noncomputable def xTref16_Tick_1 (r : (Int × (List Int) × Disk × Disk × (List Int))) : Tree (Ex × St U) := .leaf (xSref16_Tick_1 r)
noncomputable def href16_Tick_1 : Hd := { keep := [1, 2, 3, 6, 9, 15, 16], xkeep := [1, 3, 6, 7, 8, 9, 15], own := true }
noncomputable def Eref16_Tick : Env U := { P := Try.prog, cd := cd, fns := fns40, lps := (addL 0 href16_Tick_0 (mkLoop tAref16_Tick_0 tBref16_Tick_0 Pref16_Tick_0 (Lref16_Tick_0 none) xTref16_Tick_0) (addL 1 href16_Tick_1 (mkLoop tAref16_Tick_1 tBref16_Tick_1 Pref16_Tick_1 (Lref16_Tick_1 none) xTref16_Tick_1) noL)), frz := fun _r => false, nt := 201, n0 := 0 }
noncomputable def Bref16_Tick_0 : Code := (loopAt (Try.f17.body.getD .skip) 0 0).getD .skip
theorem roundref16_Tick_0 (s : Sref16_Tick_0) : round Eref16_Tick href16_Tick_0 Bref16_Tick_0 0 (eSref16_Tick_0 s) = (Wref16_Tick_0 s).map (sumE eSref16_Tick_0 xSref16_Tick_0) := by kernel_rfl
theorem lpref16_Tick_0 : LpOk Eref16_Tick Bref16_Tick_0 0 := mkLoop_ok (A := tAref16_Tick_0) (B := tBref16_Tick_0) (f := Pref16_Tick_0) (L := Lref16_Tick_0 none) (tO_ok (cK_ok cUnit_ok) (tO_ok (cPair_ok (cSl_ok 3) cUnit_ok) (tO_ok (cK_ok cUnit_ok) (tO_ok (cK_ok cUnit_ok) (tO_ok (cPair_ok (cInt_ok .i64) cUnit_ok) (tO_ok (cPair_ok cStr_ok cUnit_ok) (tO_ok (cPair_ok (cInt_ok .i64) cUnit_ok) tNil_ok))))))) (bRv_ok (bC_ok (cPair_ok cDisk_ok cUnit_ok) (bC_ok (cPair_ok cDisk_ok cUnit_ok) bNil_ok))) (enc := eSref16_Tick_0) (out := xTref16_Tick_0) (outS := xSref16_Tick_0) (step := Wref16_Tick_0) (fun _ => rfl) (fun _ _ => by kernel_rfl) (by kernel_rfl) (fun _ => rfl) roundref16_Tick_0
noncomputable def Bref16_Tick_1 : Code := (loopAt (Try.f17.body.getD .skip) 0 1).getD .skip
theorem roundref16_Tick_1 (s : Sref16_Tick_1) : round Eref16_Tick href16_Tick_1 Bref16_Tick_1 1 (eSref16_Tick_1 s) = (Wref16_Tick_1 s).map (sumE eSref16_Tick_1 xSref16_Tick_1) := by kernel_rfl
theorem lpref16_Tick_1 : LpOk Eref16_Tick Bref16_Tick_1 1 := mkLoop_ok (A := tAref16_Tick_1) (B := tBref16_Tick_1) (f := Pref16_Tick_1) (L := Lref16_Tick_1 none) (tO_ok (cK_ok cUnit_ok) (tO_ok (cPair_ok (cSl_ok 3) cUnit_ok) (tO_ok (cK_ok cUnit_ok) (tO_ok (cK_ok cUnit_ok) (tO_ok (cPair_ok (cInt_ok .i64) cUnit_ok) (tO_ok (cK_ok cUnit_ok) (tO_ok (cPair_ok (cInt_ok .i64) cUnit_ok) tNil_ok))))))) (bRv_ok (bC_ok (cPair_ok cDisk_ok cUnit_ok) (bC_ok (cPair_ok cDisk_ok cUnit_ok) (bRv_ok bNil_ok)))) (enc := eSref16_Tick_1) (out := xTref16_Tick_1) (outS := xSref16_Tick_1) (step := Wref16_Tick_1) (fun _ => rfl) (fun _ _ => by kernel_rfl) (by kernel_rfl) (fun _ => rfl) roundref16_Tick_1
theorem runref16_Tick (x : Disk × (List Int) × (List Int) × Unit) (g : Unit) : execF Eref16_Tick Try.f17 (Aref16_Tick.enc x) (bNil.enc g) = (Tref16_Tick none x.1 x.2.1 x.2.2.1).map Rref16_Tick := by kernel_rfl
theorem okref16_Tick : FnOk Try.prog cd 17 Sref16_Tick := mk_ok (E := Eref16_Tick) cd_ok fns40_ok Try.func17 (by kernel_rfl) (loops_of (addL_ok lpref16_Tick_0 (addL_ok lpref16_Tick_1 noL_ok))) (aA_ok cDisk_ok (aO_ok (cSl_ok 3) (aO_ok (cSl_ok 3) (aNil_ok)))) bNil_ok (T := fun x _ => Tref16_Tick none x.1 x.2.1 x.2.2.1) (fun _ _ => rfl) runref16_Tick
noncomputable def fns17 := addF 17 true Sref16_Tick fns40
theorem fns17_ok : ∀ f q t, fns17 f = some (q, t) → FnOk Try.prog cd f t := addF_ok okref16_Tick fns40_ok
/-- emulator/emulatorref16.Write -/
noncomputable def Tref16_Write (x0 : Disk) (x1 : Int) (x2 : Int) : Tree (Disk × Bool) :=
  .ite (!decide (x1 = (0 : Int)))
    (.ite (!decide (x1 = (2 : Int)))
      (.ite (!decide (x1 = (4 : Int)))
        (.ite (!decide (x1 = (6 : Int)))
          (.leaf ((Disk.mk (Drive.mk ([]) ([])) false false false 0 0 0 0 0, false)))
          (.ite (decide (x1 = (0 : Int)))
            (.ite (x0.ready)
              (.ite (!decide ((IntKind.wrap .i64 (((BitVec.ofInt 64 x2 &&& BitVec.ofInt 64 (1 : Int)).toNat : Int))) = (0 : Int)))
                (.ite (decide (0 ≤ (1 : Int)))
                  (.ite (!decide ((IntKind.wrap .i64 (((BitVec.ofInt 64 ((x2).fdiv (2 ^ (min ((1 : Int)).toNat 64))) &&& BitVec.ofInt 64 (3 : Int)).toNat : Int))) = (0 : Int)))
                    (.ite (!decide (x0.words = (0 : Int)))
                      (.leaf ((Disk.mk x0.drive (!decide ((IntKind.wrap .i64 (((BitVec.ofInt 64 x2 &&& BitVec.ofInt 64 (64 : Int)).toNat : Int))) = (0 : Int))) false false (IntKind.wrap .i64 (((BitVec.ofInt 64 ((x2).fdiv (2 ^ (min ((1 : Int)).toNat 64))) &&& BitVec.ofInt 64 (3 : Int)).toNat : Int))) x0.words x0.addr x0.start (8 : Int), true)))
                      (.leaf ((Disk.mk x0.drive (!decide ((IntKind.wrap .i64 (((BitVec.ofInt 64 x2 &&& BitVec.ofInt 64 (64 : Int)).toNat : Int))) = (0 : Int))) x0.ready false (IntKind.wrap .i64 (((BitVec.ofInt 64 ((x2).fdiv (2 ^ (min ((1 : Int)).toNat 64))) &&& BitVec.ofInt 64 (3 : Int)).toNat : Int))) x0.words x0.addr x0.start x0.left, true))))
                    (.leaf ((Disk.mk x0.drive (!decide ((IntKind.wrap .i64 (((BitVec.ofInt 64 x2 &&& BitVec.ofInt 64 (64 : Int)).toNat : Int))) = (0 : Int))) x0.ready false (IntKind.wrap .i64 (((BitVec.ofInt 64 ((x2).fdiv (2 ^ (min ((1 : Int)).toNat 64))) &&& BitVec.ofInt 64 (3 : Int)).toNat : Int))) x0.words x0.addr x0.start x0.left, true))))
                  .fail)
                (.leaf ((Disk.mk x0.drive (!decide ((IntKind.wrap .i64 (((BitVec.ofInt 64 x2 &&& BitVec.ofInt 64 (64 : Int)).toNat : Int))) = (0 : Int))) x0.ready x0.error x0.command x0.words x0.addr x0.start x0.left, true))))
              (.leaf ((Disk.mk x0.drive (!decide ((IntKind.wrap .i64 (((BitVec.ofInt 64 x2 &&& BitVec.ofInt 64 (64 : Int)).toNat : Int))) = (0 : Int))) x0.ready x0.error x0.command x0.words x0.addr x0.start x0.left, true))))
            (.ite (!x0.ready)
              (.leaf ((x0, true)))
              (.ite (decide (x1 = (2 : Int)))
                (.ite (decide (x1 = (4 : Int)))
                  (.ite (decide (x1 = (6 : Int)))
                    (.leaf ((Disk.mk x0.drive x0.enable x0.ready x0.error x0.command (IntKind.wrap .i64 (((BitVec.ofInt 64 x2 &&& BitVec.ofInt 64 (65535 : Int)).toNat : Int))) (IntKind.wrap .i64 (((BitVec.ofInt 64 x2 &&& BitVec.ofInt 64 (65534 : Int)).toNat : Int))) (IntKind.wrap .i64 (((BitVec.ofInt 64 x2 &&& BitVec.ofInt 64 (65535 : Int)).toNat : Int))) x0.left, true)))
                    (.leaf ((Disk.mk x0.drive x0.enable x0.ready x0.error x0.command (IntKind.wrap .i64 (((BitVec.ofInt 64 x2 &&& BitVec.ofInt 64 (65535 : Int)).toNat : Int))) (IntKind.wrap .i64 (((BitVec.ofInt 64 x2 &&& BitVec.ofInt 64 (65534 : Int)).toNat : Int))) x0.start x0.left, true))))
                  (.ite (decide (x1 = (6 : Int)))
                    (.leaf ((Disk.mk x0.drive x0.enable x0.ready x0.error x0.command (IntKind.wrap .i64 (((BitVec.ofInt 64 x2 &&& BitVec.ofInt 64 (65535 : Int)).toNat : Int))) x0.addr (IntKind.wrap .i64 (((BitVec.ofInt 64 x2 &&& BitVec.ofInt 64 (65535 : Int)).toNat : Int))) x0.left, true)))
                    (.leaf ((Disk.mk x0.drive x0.enable x0.ready x0.error x0.command (IntKind.wrap .i64 (((BitVec.ofInt 64 x2 &&& BitVec.ofInt 64 (65535 : Int)).toNat : Int))) x0.addr x0.start x0.left, true)))))
                (.ite (decide (x1 = (4 : Int)))
                  (.ite (decide (x1 = (6 : Int)))
                    (.leaf ((Disk.mk x0.drive x0.enable x0.ready x0.error x0.command x0.words (IntKind.wrap .i64 (((BitVec.ofInt 64 x2 &&& BitVec.ofInt 64 (65534 : Int)).toNat : Int))) (IntKind.wrap .i64 (((BitVec.ofInt 64 x2 &&& BitVec.ofInt 64 (65535 : Int)).toNat : Int))) x0.left, true)))
                    (.leaf ((Disk.mk x0.drive x0.enable x0.ready x0.error x0.command x0.words (IntKind.wrap .i64 (((BitVec.ofInt 64 x2 &&& BitVec.ofInt 64 (65534 : Int)).toNat : Int))) x0.start x0.left, true))))
                  (.ite (decide (x1 = (6 : Int)))
                    (.leaf ((Disk.mk x0.drive x0.enable x0.ready x0.error x0.command x0.words x0.addr (IntKind.wrap .i64 (((BitVec.ofInt 64 x2 &&& BitVec.ofInt 64 (65535 : Int)).toNat : Int))) x0.left, true)))
                    (.leaf ((x0, true)))))))))
        (.ite (decide (x1 = (0 : Int)))
          (.ite (x0.ready)
            (.ite (!decide ((IntKind.wrap .i64 (((BitVec.ofInt 64 x2 &&& BitVec.ofInt 64 (1 : Int)).toNat : Int))) = (0 : Int)))
              (.ite (decide (0 ≤ (1 : Int)))
                (.ite (!decide ((IntKind.wrap .i64 (((BitVec.ofInt 64 ((x2).fdiv (2 ^ (min ((1 : Int)).toNat 64))) &&& BitVec.ofInt 64 (3 : Int)).toNat : Int))) = (0 : Int)))
                  (.ite (!decide (x0.words = (0 : Int)))
                    (.leaf ((Disk.mk x0.drive (!decide ((IntKind.wrap .i64 (((BitVec.ofInt 64 x2 &&& BitVec.ofInt 64 (64 : Int)).toNat : Int))) = (0 : Int))) false false (IntKind.wrap .i64 (((BitVec.ofInt 64 ((x2).fdiv (2 ^ (min ((1 : Int)).toNat 64))) &&& BitVec.ofInt 64 (3 : Int)).toNat : Int))) x0.words x0.addr x0.start (8 : Int), true)))
                    (.leaf ((Disk.mk x0.drive (!decide ((IntKind.wrap .i64 (((BitVec.ofInt 64 x2 &&& BitVec.ofInt 64 (64 : Int)).toNat : Int))) = (0 : Int))) x0.ready false (IntKind.wrap .i64 (((BitVec.ofInt 64 ((x2).fdiv (2 ^ (min ((1 : Int)).toNat 64))) &&& BitVec.ofInt 64 (3 : Int)).toNat : Int))) x0.words x0.addr x0.start x0.left, true))))
                  (.leaf ((Disk.mk x0.drive (!decide ((IntKind.wrap .i64 (((BitVec.ofInt 64 x2 &&& BitVec.ofInt 64 (64 : Int)).toNat : Int))) = (0 : Int))) x0.ready false (IntKind.wrap .i64 (((BitVec.ofInt 64 ((x2).fdiv (2 ^ (min ((1 : Int)).toNat 64))) &&& BitVec.ofInt 64 (3 : Int)).toNat : Int))) x0.words x0.addr x0.start x0.left, true))))
                .fail)
              (.leaf ((Disk.mk x0.drive (!decide ((IntKind.wrap .i64 (((BitVec.ofInt 64 x2 &&& BitVec.ofInt 64 (64 : Int)).toNat : Int))) = (0 : Int))) x0.ready x0.error x0.command x0.words x0.addr x0.start x0.left, true))))
            (.leaf ((Disk.mk x0.drive (!decide ((IntKind.wrap .i64 (((BitVec.ofInt 64 x2 &&& BitVec.ofInt 64 (64 : Int)).toNat : Int))) = (0 : Int))) x0.ready x0.error x0.command x0.words x0.addr x0.start x0.left, true))))
          (.ite (!x0.ready)
            (.leaf ((x0, true)))
            (.ite (decide (x1 = (2 : Int)))
              (.ite (decide (x1 = (4 : Int)))
                (.ite (decide (x1 = (6 : Int)))
                  (.leaf ((Disk.mk x0.drive x0.enable x0.ready x0.error x0.command (IntKind.wrap .i64 (((BitVec.ofInt 64 x2 &&& BitVec.ofInt 64 (65535 : Int)).toNat : Int))) (IntKind.wrap .i64 (((BitVec.ofInt 64 x2 &&& BitVec.ofInt 64 (65534 : Int)).toNat : Int))) (IntKind.wrap .i64 (((BitVec.ofInt 64 x2 &&& BitVec.ofInt 64 (65535 : Int)).toNat : Int))) x0.left, true)))
                  (.leaf ((Disk.mk x0.drive x0.enable x0.ready x0.error x0.command (IntKind.wrap .i64 (((BitVec.ofInt 64 x2 &&& BitVec.ofInt 64 (65535 : Int)).toNat : Int))) (IntKind.wrap .i64 (((BitVec.ofInt 64 x2 &&& BitVec.ofInt 64 (65534 : Int)).toNat : Int))) x0.start x0.left, true))))
                (.ite (decide (x1 = (6 : Int)))
                  (.leaf ((Disk.mk x0.drive x0.enable x0.ready x0.error x0.command (IntKind.wrap .i64 (((BitVec.ofInt 64 x2 &&& BitVec.ofInt 64 (65535 : Int)).toNat : Int))) x0.addr (IntKind.wrap .i64 (((BitVec.ofInt 64 x2 &&& BitVec.ofInt 64 (65535 : Int)).toNat : Int))) x0.left, true)))
                  (.leaf ((Disk.mk x0.drive x0.enable x0.ready x0.error x0.command (IntKind.wrap .i64 (((BitVec.ofInt 64 x2 &&& BitVec.ofInt 64 (65535 : Int)).toNat : Int))) x0.addr x0.start x0.left, true)))))
              (.ite (decide (x1 = (4 : Int)))
                (.ite (decide (x1 = (6 : Int)))
                  (.leaf ((Disk.mk x0.drive x0.enable x0.ready x0.error x0.command x0.words (IntKind.wrap .i64 (((BitVec.ofInt 64 x2 &&& BitVec.ofInt 64 (65534 : Int)).toNat : Int))) (IntKind.wrap .i64 (((BitVec.ofInt 64 x2 &&& BitVec.ofInt 64 (65535 : Int)).toNat : Int))) x0.left, true)))
                  (.leaf ((Disk.mk x0.drive x0.enable x0.ready x0.error x0.command x0.words (IntKind.wrap .i64 (((BitVec.ofInt 64 x2 &&& BitVec.ofInt 64 (65534 : Int)).toNat : Int))) x0.start x0.left, true))))
                (.ite (decide (x1 = (6 : Int)))
                  (.leaf ((Disk.mk x0.drive x0.enable x0.ready x0.error x0.command x0.words x0.addr (IntKind.wrap .i64 (((BitVec.ofInt 64 x2 &&& BitVec.ofInt 64 (65535 : Int)).toNat : Int))) x0.left, true)))
                  (.leaf ((x0, true)))))))))
      (.ite (decide (x1 = (0 : Int)))
        (.ite (x0.ready)
          (.ite (!decide ((IntKind.wrap .i64 (((BitVec.ofInt 64 x2 &&& BitVec.ofInt 64 (1 : Int)).toNat : Int))) = (0 : Int)))
            (.ite (decide (0 ≤ (1 : Int)))
              (.ite (!decide ((IntKind.wrap .i64 (((BitVec.ofInt 64 ((x2).fdiv (2 ^ (min ((1 : Int)).toNat 64))) &&& BitVec.ofInt 64 (3 : Int)).toNat : Int))) = (0 : Int)))
                (.ite (!decide (x0.words = (0 : Int)))
                  (.leaf ((Disk.mk x0.drive (!decide ((IntKind.wrap .i64 (((BitVec.ofInt 64 x2 &&& BitVec.ofInt 64 (64 : Int)).toNat : Int))) = (0 : Int))) false false (IntKind.wrap .i64 (((BitVec.ofInt 64 ((x2).fdiv (2 ^ (min ((1 : Int)).toNat 64))) &&& BitVec.ofInt 64 (3 : Int)).toNat : Int))) x0.words x0.addr x0.start (8 : Int), true)))
                  (.leaf ((Disk.mk x0.drive (!decide ((IntKind.wrap .i64 (((BitVec.ofInt 64 x2 &&& BitVec.ofInt 64 (64 : Int)).toNat : Int))) = (0 : Int))) x0.ready false (IntKind.wrap .i64 (((BitVec.ofInt 64 ((x2).fdiv (2 ^ (min ((1 : Int)).toNat 64))) &&& BitVec.ofInt 64 (3 : Int)).toNat : Int))) x0.words x0.addr x0.start x0.left, true))))
                (.leaf ((Disk.mk x0.drive (!decide ((IntKind.wrap .i64 (((BitVec.ofInt 64 x2 &&& BitVec.ofInt 64 (64 : Int)).toNat : Int))) = (0 : Int))) x0.ready false (IntKind.wrap .i64 (((BitVec.ofInt 64 ((x2).fdiv (2 ^ (min ((1 : Int)).toNat 64))) &&& BitVec.ofInt 64 (3 : Int)).toNat : Int))) x0.words x0.addr x0.start x0.left, true))))
              .fail)
            (.leaf ((Disk.mk x0.drive (!decide ((IntKind.wrap .i64 (((BitVec.ofInt 64 x2 &&& BitVec.ofInt 64 (64 : Int)).toNat : Int))) = (0 : Int))) x0.ready x0.error x0.command x0.words x0.addr x0.start x0.left, true))))
          (.leaf ((Disk.mk x0.drive (!decide ((IntKind.wrap .i64 (((BitVec.ofInt 64 x2 &&& BitVec.ofInt 64 (64 : Int)).toNat : Int))) = (0 : Int))) x0.ready x0.error x0.command x0.words x0.addr x0.start x0.left, true))))
        (.ite (!x0.ready)
          (.leaf ((x0, true)))
          (.ite (decide (x1 = (2 : Int)))
            (.ite (decide (x1 = (4 : Int)))
              (.ite (decide (x1 = (6 : Int)))
                (.leaf ((Disk.mk x0.drive x0.enable x0.ready x0.error x0.command (IntKind.wrap .i64 (((BitVec.ofInt 64 x2 &&& BitVec.ofInt 64 (65535 : Int)).toNat : Int))) (IntKind.wrap .i64 (((BitVec.ofInt 64 x2 &&& BitVec.ofInt 64 (65534 : Int)).toNat : Int))) (IntKind.wrap .i64 (((BitVec.ofInt 64 x2 &&& BitVec.ofInt 64 (65535 : Int)).toNat : Int))) x0.left, true)))
                (.leaf ((Disk.mk x0.drive x0.enable x0.ready x0.error x0.command (IntKind.wrap .i64 (((BitVec.ofInt 64 x2 &&& BitVec.ofInt 64 (65535 : Int)).toNat : Int))) (IntKind.wrap .i64 (((BitVec.ofInt 64 x2 &&& BitVec.ofInt 64 (65534 : Int)).toNat : Int))) x0.start x0.left, true))))
              (.ite (decide (x1 = (6 : Int)))
                (.leaf ((Disk.mk x0.drive x0.enable x0.ready x0.error x0.command (IntKind.wrap .i64 (((BitVec.ofInt 64 x2 &&& BitVec.ofInt 64 (65535 : Int)).toNat : Int))) x0.addr (IntKind.wrap .i64 (((BitVec.ofInt 64 x2 &&& BitVec.ofInt 64 (65535 : Int)).toNat : Int))) x0.left, true)))
                (.leaf ((Disk.mk x0.drive x0.enable x0.ready x0.error x0.command (IntKind.wrap .i64 (((BitVec.ofInt 64 x2 &&& BitVec.ofInt 64 (65535 : Int)).toNat : Int))) x0.addr x0.start x0.left, true)))))
            (.ite (decide (x1 = (4 : Int)))
              (.ite (decide (x1 = (6 : Int)))
                (.leaf ((Disk.mk x0.drive x0.enable x0.ready x0.error x0.command x0.words (IntKind.wrap .i64 (((BitVec.ofInt 64 x2 &&& BitVec.ofInt 64 (65534 : Int)).toNat : Int))) (IntKind.wrap .i64 (((BitVec.ofInt 64 x2 &&& BitVec.ofInt 64 (65535 : Int)).toNat : Int))) x0.left, true)))
                (.leaf ((Disk.mk x0.drive x0.enable x0.ready x0.error x0.command x0.words (IntKind.wrap .i64 (((BitVec.ofInt 64 x2 &&& BitVec.ofInt 64 (65534 : Int)).toNat : Int))) x0.start x0.left, true))))
              (.ite (decide (x1 = (6 : Int)))
                (.leaf ((Disk.mk x0.drive x0.enable x0.ready x0.error x0.command x0.words x0.addr (IntKind.wrap .i64 (((BitVec.ofInt 64 x2 &&& BitVec.ofInt 64 (65535 : Int)).toNat : Int))) x0.left, true)))
                (.leaf ((x0, true)))))))))
    (.ite (decide (x1 = (0 : Int)))
      (.ite (x0.ready)
        (.ite (!decide ((IntKind.wrap .i64 (((BitVec.ofInt 64 x2 &&& BitVec.ofInt 64 (1 : Int)).toNat : Int))) = (0 : Int)))
          (.ite (decide (0 ≤ (1 : Int)))
            (.ite (!decide ((IntKind.wrap .i64 (((BitVec.ofInt 64 ((x2).fdiv (2 ^ (min ((1 : Int)).toNat 64))) &&& BitVec.ofInt 64 (3 : Int)).toNat : Int))) = (0 : Int)))
              (.ite (!decide (x0.words = (0 : Int)))
                (.leaf ((Disk.mk x0.drive (!decide ((IntKind.wrap .i64 (((BitVec.ofInt 64 x2 &&& BitVec.ofInt 64 (64 : Int)).toNat : Int))) = (0 : Int))) false false (IntKind.wrap .i64 (((BitVec.ofInt 64 ((x2).fdiv (2 ^ (min ((1 : Int)).toNat 64))) &&& BitVec.ofInt 64 (3 : Int)).toNat : Int))) x0.words x0.addr x0.start (8 : Int), true)))
                (.leaf ((Disk.mk x0.drive (!decide ((IntKind.wrap .i64 (((BitVec.ofInt 64 x2 &&& BitVec.ofInt 64 (64 : Int)).toNat : Int))) = (0 : Int))) x0.ready false (IntKind.wrap .i64 (((BitVec.ofInt 64 ((x2).fdiv (2 ^ (min ((1 : Int)).toNat 64))) &&& BitVec.ofInt 64 (3 : Int)).toNat : Int))) x0.words x0.addr x0.start x0.left, true))))
              (.leaf ((Disk.mk x0.drive (!decide ((IntKind.wrap .i64 (((BitVec.ofInt 64 x2 &&& BitVec.ofInt 64 (64 : Int)).toNat : Int))) = (0 : Int))) x0.ready false (IntKind.wrap .i64 (((BitVec.ofInt 64 ((x2).fdiv (2 ^ (min ((1 : Int)).toNat 64))) &&& BitVec.ofInt 64 (3 : Int)).toNat : Int))) x0.words x0.addr x0.start x0.left, true))))
            .fail)
          (.leaf ((Disk.mk x0.drive (!decide ((IntKind.wrap .i64 (((BitVec.ofInt 64 x2 &&& BitVec.ofInt 64 (64 : Int)).toNat : Int))) = (0 : Int))) x0.ready x0.error x0.command x0.words x0.addr x0.start x0.left, true))))
        (.leaf ((Disk.mk x0.drive (!decide ((IntKind.wrap .i64 (((BitVec.ofInt 64 x2 &&& BitVec.ofInt 64 (64 : Int)).toNat : Int))) = (0 : Int))) x0.ready x0.error x0.command x0.words x0.addr x0.start x0.left, true))))
      (.ite (!x0.ready)
        (.leaf ((x0, true)))
        (.ite (decide (x1 = (2 : Int)))
          (.ite (decide (x1 = (4 : Int)))
            (.ite (decide (x1 = (6 : Int)))
              (.leaf ((Disk.mk x0.drive x0.enable x0.ready x0.error x0.command (IntKind.wrap .i64 (((BitVec.ofInt 64 x2 &&& BitVec.ofInt 64 (65535 : Int)).toNat : Int))) (IntKind.wrap .i64 (((BitVec.ofInt 64 x2 &&& BitVec.ofInt 64 (65534 : Int)).toNat : Int))) (IntKind.wrap .i64 (((BitVec.ofInt 64 x2 &&& BitVec.ofInt 64 (65535 : Int)).toNat : Int))) x0.left, true)))
              (.leaf ((Disk.mk x0.drive x0.enable x0.ready x0.error x0.command (IntKind.wrap .i64 (((BitVec.ofInt 64 x2 &&& BitVec.ofInt 64 (65535 : Int)).toNat : Int))) (IntKind.wrap .i64 (((BitVec.ofInt 64 x2 &&& BitVec.ofInt 64 (65534 : Int)).toNat : Int))) x0.start x0.left, true))))
            (.ite (decide (x1 = (6 : Int)))
              (.leaf ((Disk.mk x0.drive x0.enable x0.ready x0.error x0.command (IntKind.wrap .i64 (((BitVec.ofInt 64 x2 &&& BitVec.ofInt 64 (65535 : Int)).toNat : Int))) x0.addr (IntKind.wrap .i64 (((BitVec.ofInt 64 x2 &&& BitVec.ofInt 64 (65535 : Int)).toNat : Int))) x0.left, true)))
              (.leaf ((Disk.mk x0.drive x0.enable x0.ready x0.error x0.command (IntKind.wrap .i64 (((BitVec.ofInt 64 x2 &&& BitVec.ofInt 64 (65535 : Int)).toNat : Int))) x0.addr x0.start x0.left, true)))))
          (.ite (decide (x1 = (4 : Int)))
            (.ite (decide (x1 = (6 : Int)))
              (.leaf ((Disk.mk x0.drive x0.enable x0.ready x0.error x0.command x0.words (IntKind.wrap .i64 (((BitVec.ofInt 64 x2 &&& BitVec.ofInt 64 (65534 : Int)).toNat : Int))) (IntKind.wrap .i64 (((BitVec.ofInt 64 x2 &&& BitVec.ofInt 64 (65535 : Int)).toNat : Int))) x0.left, true)))
              (.leaf ((Disk.mk x0.drive x0.enable x0.ready x0.error x0.command x0.words (IntKind.wrap .i64 (((BitVec.ofInt 64 x2 &&& BitVec.ofInt 64 (65534 : Int)).toNat : Int))) x0.start x0.left, true))))
            (.ite (decide (x1 = (6 : Int)))
              (.leaf ((Disk.mk x0.drive x0.enable x0.ready x0.error x0.command x0.words x0.addr (IntKind.wrap .i64 (((BitVec.ofInt 64 x2 &&& BitVec.ofInt 64 (65535 : Int)).toNat : Int))) x0.left, true)))
              (.leaf ((x0, true))))))))
noncomputable def ref16_Write (x0 : Disk) (x1 : Int) (x2 : Int) : Option (Disk × Bool) := (Tref16_Write x0 x1 x2).run
noncomputable def Aref16_Write : Arg U (Disk × Int × Int × Unit) := aA cDisk (aO (cInt .i64) (aO (cInt .i64) (aNil)))
noncomputable def Rref16_Write (r : (Disk × Bool)) : List (V U) × List (Blk U) := ([vA cDisk r.1, vO cBool r.2], [])
noncomputable def Sref16_Write : List (V U) → List (Blk U) → Option (FnOut U) := mkSpec Aref16_Write bNil (fun x _ => ref16_Write x.1 x.2.1 x.2.2.1) Rref16_Write
noncomputable def Eref16_Write : Env U := { P := Try.prog, cd := cd, fns := fns17, lps := noL, frz := fun _r => false, nt := 72, n0 := 0 }
theorem runref16_Write (x : Disk × Int × Int × Unit) (g : Unit) : execF Eref16_Write Try.f19 (Aref16_Write.enc x) (bNil.enc g) = (Tref16_Write x.1 x.2.1 x.2.2.1).map Rref16_Write := by kernel_rfl
theorem okref16_Write : FnOk Try.prog cd 19 Sref16_Write := mk_ok (E := Eref16_Write) cd_ok fns17_ok Try.func19 (by kernel_rfl) (noLoops_body (by kernel_rfl)) (aA_ok cDisk_ok (aO_ok (cInt_ok .i64) (aO_ok (cInt_ok .i64) (aNil_ok)))) bNil_ok (T := fun x _ => Tref16_Write x.1 x.2.1 x.2.2.1) (fun _ _ => rfl) runref16_Write
noncomputable def fns19 := addF 19 true Sref16_Write fns17
theorem fns19_ok : ∀ f q t, fns19 f = some (q, t) → FnOk Try.prog cd f t := addF_ok okref16_Write fns17_ok
/-- emulator/diskctl.Accept -/
noncomputable def Tdiskctl_Accept (x0 : Disk) (x1 : Int) : Tree Disk :=
  .ite (x0.enable)
    (.leaf (Disk.mk x0.drive (!decide (x1 = (160 : Int))) x0.ready x0.error x0.command x0.words x0.addr x0.start x0.left))
    (.leaf (Disk.mk x0.drive false x0.ready x0.error x0.command x0.words x0.addr x0.start x0.left))
noncomputable def diskctl_Accept (x0 : Disk) (x1 : Int) : Option Disk := (Tdiskctl_Accept x0 x1).run
noncomputable def Adiskctl_Accept : Arg U (Disk × Int × Unit) := aA cDisk (aO (cInt .i64) (aNil))
noncomputable def Rdiskctl_Accept (r : Disk) : List (V U) × List (Blk U) := ([vA cDisk r], [])
noncomputable def Sdiskctl_Accept : List (V U) → List (Blk U) → Option (FnOut U) := mkSpec Adiskctl_Accept bNil (fun x _ => diskctl_Accept x.1 x.2.1) Rdiskctl_Accept
noncomputable def Ediskctl_Accept : Env U := { P := Try.prog, cd := cd, fns := fns19, lps := noL, frz := fun _r => false, nt := 13, n0 := 0 }
theorem rundiskctl_Accept (x : Disk × Int × Unit) (g : Unit) : execF Ediskctl_Accept Try.f20 (Adiskctl_Accept.enc x) (bNil.enc g) = (Tdiskctl_Accept x.1 x.2.1).map Rdiskctl_Accept := by kernel_rfl
theorem okdiskctl_Accept : FnOk Try.prog cd 20 Sdiskctl_Accept := mk_ok (E := Ediskctl_Accept) cd_ok fns19_ok Try.func20 (by kernel_rfl) (noLoops_body (by kernel_rfl)) (aA_ok cDisk_ok (aO_ok (cInt_ok .i64) (aNil_ok))) bNil_ok (T := fun x _ => Tdiskctl_Accept x.1 x.2.1) (fun _ _ => rfl) rundiskctl_Accept
noncomputable def fns20 := addF 20 true Sdiskctl_Accept fns19
theorem fns20_ok : ∀ f q t, fns20 f = some (q, t) → FnOk Try.prog cd f t := addF_ok okdiskctl_Accept fns19_ok
/-- emulator/emulatorref16.Accept -/
noncomputable def Tref16_Accept (x0 : Disk) (x1 : Int) : Tree Disk :=
  .ite (decide (x1 = (160 : Int)))
    (.leaf (Disk.mk x0.drive false x0.ready x0.error x0.command x0.words x0.addr x0.start x0.left))
    (.leaf (x0))
noncomputable def ref16_Accept (x0 : Disk) (x1 : Int) : Option Disk := (Tref16_Accept x0 x1).run
noncomputable def Aref16_Accept : Arg U (Disk × Int × Unit) := aA cDisk (aO (cInt .i64) (aNil))
noncomputable def Rref16_Accept (r : Disk) : List (V U) × List (Blk U) := ([vA cDisk r], [])
noncomputable def Sref16_Accept : List (V U) → List (Blk U) → Option (FnOut U) := mkSpec Aref16_Accept bNil (fun x _ => ref16_Accept x.1 x.2.1) Rref16_Accept
noncomputable def Eref16_Accept : Env U := { P := Try.prog, cd := cd, fns := fns20, lps := noL, frz := fun _r => false, nt := 9, n0 := 0 }
theorem runref16_Accept (x : Disk × Int × Unit) (g : Unit) : execF Eref16_Accept Try.f21 (Aref16_Accept.enc x) (bNil.enc g) = (Tref16_Accept x.1 x.2.1).map Rref16_Accept := by kernel_rfl
theorem okref16_Accept : FnOk Try.prog cd 21 Sref16_Accept := mk_ok (E := Eref16_Accept) cd_ok fns20_ok Try.func21 (by kernel_rfl) (noLoops_body (by kernel_rfl)) (aA_ok cDisk_ok (aO_ok (cInt_ok .i64) (aNil_ok))) bNil_ok (T := fun x _ => Tref16_Accept x.1 x.2.1) (fun _ _ => rfl) runref16_Accept
noncomputable def fns21 := addF 21 true Sref16_Accept fns20
theorem fns21_ok : ∀ f q t, fns21 f = some (q, t) → FnOk Try.prog cd f t := addF_ok okref16_Accept fns20_ok
/-- emulator/emulatorref16.Reset -/
noncomputable def Tref16_Reset (x0 : Disk) : Tree Disk :=
  .leaf (Disk.mk x0.drive false true false (0 : Int) x0.words x0.addr x0.start (0 : Int))
noncomputable def ref16_Reset (x0 : Disk) : Option Disk := (Tref16_Reset x0).run
noncomputable def Aref16_Reset : Arg U (Disk × Unit) := aA cDisk (aNil)
noncomputable def Rref16_Reset (r : Disk) : List (V U) × List (Blk U) := ([vA cDisk r], [])
noncomputable def Sref16_Reset : List (V U) → List (Blk U) → Option (FnOut U) := mkSpec Aref16_Reset bNil (fun x _ => ref16_Reset x.1) Rref16_Reset
noncomputable def Eref16_Reset : Env U := { P := Try.prog, cd := cd, fns := fns21, lps := noL, frz := fun _r => false, nt := 9, n0 := 0 }
theorem runref16_Reset (x : Disk × Unit) (g : Unit) : execF Eref16_Reset Try.f22 (Aref16_Reset.enc x) (bNil.enc g) = (Tref16_Reset x.1).map Rref16_Reset := by kernel_rfl
theorem okref16_Reset : FnOk Try.prog cd 22 Sref16_Reset := mk_ok (E := Eref16_Reset) cd_ok fns21_ok Try.func22 (by kernel_rfl) (noLoops_body (by kernel_rfl)) (aA_ok cDisk_ok (aNil_ok)) bNil_ok (T := fun x _ => Tref16_Reset x.1) (fun _ _ => rfl) runref16_Reset
noncomputable def fns22 := addF 22 true Sref16_Reset fns21
theorem fns22_ok : ∀ f q t, fns22 f = some (q, t) → FnOk Try.prog cd f t := addF_ok okref16_Reset fns21_ok
/-- emulator/emulatorlaw16.DiskctlRuns -/
structure Slaw16_DiskctlRuns_1 where
  t10 : (List Int)
  t11 : (List Int)
  t13 : (List Int)
  t14 : (List Int)
  t34 : (List Do)
  t35 : Int
  t36 : Int
  t51 : Int
  t52 : Int
  b0 : Disk
  b1 : Disk
noncomputable def Wlaw16_DiskctlRuns_1 (q : Option Nat) (s : Slaw16_DiskctlRuns_1) : Tree (Slaw16_DiskctlRuns_1 ⊕ ((List Int) × (List Int) × (List Int) × (List Int) × (List Do) × Int × Int × Disk × Disk)) :=
  .ite (decide (s.t52 < s.t51))
    (.opt (Disk × (List Int) × (List Int)) (diskctl_Tick q s.b0 s.t10 s.t11) fun r353 =>
      .opt (Disk × (List Int) × (List Int)) (ref16_Tick q s.b1 s.t13 s.t14) fun r354 =>
        .leaf (.inl (Slaw16_DiskctlRuns_1.mk r353.2.1 r353.2.2 r354.2.1 r354.2.2 s.t34 s.t35 s.t36 s.t51 (IntKind.wrap .i64 (s.t52 + (1 : Int))) r353.1 r354.1)))
    (.leaf (.inr (s.t10, s.t11, s.t13, s.t14, s.t34, s.t35, s.t36, s.b0, s.b1)))
noncomputable def Llaw16_DiskctlRuns_1 (q : Option Nat) (s : Slaw16_DiskctlRuns_1) : Option ((List Int) × (List Int) × (List Int) × (List Int) × (List Do) × Int × Int × Disk × Disk) := limQ q (fun s => (Wlaw16_DiskctlRuns_1 q s).run) s
theorem leLlaw16_DiskctlRuns_1 (k : Nat) (s : Slaw16_DiskctlRuns_1) : Le (Llaw16_DiskctlRuns_1 (some k) s) (Llaw16_DiskctlRuns_1 none s) := limQ_le (fun s => (TLe.ite (TLe.opt (lediskctl_Tick k _ _ _) fun _ => (TLe.opt (leref16_Tick k _ _ _) fun _ => TLe.rfl)) TLe.rfl)) s
structure Slaw16_DiskctlRuns_0 where
  t10 : (List Int)
  t11 : (List Int)
  t13 : (List Int)
  t14 : (List Int)
  t34 : (List Do)
  t35 : Int
  t36 : Int
  b0 : Disk
  b1 : Disk
noncomputable def Wlaw16_DiskctlRuns_0 (q : Option Nat) (s : Slaw16_DiskctlRuns_0) : Tree (Slaw16_DiskctlRuns_0 ⊕ (Bool ⊕ Unit)) :=
  .ite (decide (s.t36 < s.t35))
    (.ite (decide (0 ≤ s.t36))
      (.opt Do (s.t34[(s.t36).toNat]?) fun y352 =>
        .ite (decide (y352.kind = (0 : Int)))
          (.ite (decide ((21 : Int) = 0))
            .fail
            (.opt ((List Int) × (List Int) × (List Int) × (List Int) × (List Do) × Int × Int × Disk × Disk) (Llaw16_DiskctlRuns_1 q (Slaw16_DiskctlRuns_1.mk s.t10 s.t11 s.t13 s.t14 s.t34 s.t35 s.t36 (((IntKind.wrap .i64 (((BitVec.ofInt 64 y352.n &&& BitVec.ofInt 64 (31 : Int)).toNat : Int)))).tmod (21 : Int)) (0 : Int) s.b0 s.b1)) fun l355 =>
              .opt Bool (ref16_SameDisk q l355.2.2.2.2.2.2.2.1 l355.2.2.2.2.2.2.2.2) fun r366 =>
                .ite (!r366)
                  (.leaf (.inr (.inl false)))
                  (.opt Bool (ref16_SameInts q l355.1 l355.2.2.1) fun r367 =>
                    .ite (!r367)
                      (.leaf (.inr (.inl false)))
                      (.opt Bool (ref16_SameInts q l355.2.1 l355.2.2.2.1) fun r368 =>
                        .ite (!r368)
                          (.leaf (.inr (.inl false)))
                          (.leaf (.inl (Slaw16_DiskctlRuns_0.mk l355.1 l355.2.1 l355.2.2.1 l355.2.2.2.1 l355.2.2.2.2.1 l355.2.2.2.2.2.1 (IntKind.wrap .i64 (l355.2.2.2.2.2.2.1 + (1 : Int))) l355.2.2.2.2.2.2.2.1 l355.2.2.2.2.2.2.2.2)))))))
          (.ite (decide ((1 : Int) ≤ y352.kind))
            (.ite (decide (y352.kind ≤ (4 : Int)))
              (.opt (Disk × Bool) (diskctl_Write s.b0 (IntKind.wrap .i64 ((IntKind.wrap .i64 ((2 : Int) * y352.kind)) - (2 : Int))) y352.n) fun r356 =>
                .opt (Disk × Bool) (ref16_Write s.b1 (IntKind.wrap .i64 ((IntKind.wrap .i64 ((2 : Int) * y352.kind)) - (2 : Int))) y352.n) fun r357 =>
                  .opt Bool (ref16_SameDisk q r356.1 r357.1) fun r369 =>
                    .ite (!r369)
                      (.leaf (.inr (.inl false)))
                      (.opt Bool (ref16_SameInts q s.t10 s.t13) fun r370 =>
                        .ite (!r370)
                          (.leaf (.inr (.inl false)))
                          (.opt Bool (ref16_SameInts q s.t11 s.t14) fun r371 =>
                            .ite (!r371)
                              (.leaf (.inr (.inl false)))
                              (.leaf (.inl (Slaw16_DiskctlRuns_0.mk s.t10 s.t11 s.t13 s.t14 s.t34 s.t35 (IntKind.wrap .i64 (s.t36 + (1 : Int))) r356.1 r357.1))))))
              (.ite (decide (y352.kind = (5 : Int)))
                (.opt Disk (diskctl_Accept s.b0 y352.n) fun r358 =>
                  .opt Disk (ref16_Accept s.b1 y352.n) fun r359 =>
                    .opt Bool (ref16_SameDisk q r358 r359) fun r372 =>
                      .ite (!r372)
                        (.leaf (.inr (.inl false)))
                        (.opt Bool (ref16_SameInts q s.t10 s.t13) fun r373 =>
                          .ite (!r373)
                            (.leaf (.inr (.inl false)))
                            (.opt Bool (ref16_SameInts q s.t11 s.t14) fun r374 =>
                              .ite (!r374)
                                (.leaf (.inr (.inl false)))
                                (.leaf (.inl (Slaw16_DiskctlRuns_0.mk s.t10 s.t11 s.t13 s.t14 s.t34 s.t35 (IntKind.wrap .i64 (s.t36 + (1 : Int))) r358 r359))))))
                (.opt Disk (diskctl_Reset s.b0) fun r360 =>
                  .opt Disk (ref16_Reset s.b1) fun r361 =>
                    .opt Bool (ref16_SameDisk q r360 r361) fun r375 =>
                      .ite (!r375)
                        (.leaf (.inr (.inl false)))
                        (.opt Bool (ref16_SameInts q s.t10 s.t13) fun r376 =>
                          .ite (!r376)
                            (.leaf (.inr (.inl false)))
                            (.opt Bool (ref16_SameInts q s.t11 s.t14) fun r377 =>
                              .ite (!r377)
                                (.leaf (.inr (.inl false)))
                                (.leaf (.inl (Slaw16_DiskctlRuns_0.mk s.t10 s.t11 s.t13 s.t14 s.t34 s.t35 (IntKind.wrap .i64 (s.t36 + (1 : Int))) r360 r361))))))))
            (.ite (decide (y352.kind = (5 : Int)))
              (.opt Disk (diskctl_Accept s.b0 y352.n) fun r362 =>
                .opt Disk (ref16_Accept s.b1 y352.n) fun r363 =>
                  .opt Bool (ref16_SameDisk q r362 r363) fun r378 =>
                    .ite (!r378)
                      (.leaf (.inr (.inl false)))
                      (.opt Bool (ref16_SameInts q s.t10 s.t13) fun r379 =>
                        .ite (!r379)
                          (.leaf (.inr (.inl false)))
                          (.opt Bool (ref16_SameInts q s.t11 s.t14) fun r380 =>
                            .ite (!r380)
                              (.leaf (.inr (.inl false)))
                              (.leaf (.inl (Slaw16_DiskctlRuns_0.mk s.t10 s.t11 s.t13 s.t14 s.t34 s.t35 (IntKind.wrap .i64 (s.t36 + (1 : Int))) r362 r363))))))
              (.opt Disk (diskctl_Reset s.b0) fun r364 =>
                .opt Disk (ref16_Reset s.b1) fun r365 =>
                  .opt Bool (ref16_SameDisk q r364 r365) fun r381 =>
                    .ite (!r381)
                      (.leaf (.inr (.inl false)))
                      (.opt Bool (ref16_SameInts q s.t10 s.t13) fun r382 =>
                        .ite (!r382)
                          (.leaf (.inr (.inl false)))
                          (.opt Bool (ref16_SameInts q s.t11 s.t14) fun r383 =>
                            .ite (!r383)
                              (.leaf (.inr (.inl false)))
                              (.leaf (.inl (Slaw16_DiskctlRuns_0.mk s.t10 s.t11 s.t13 s.t14 s.t34 s.t35 (IntKind.wrap .i64 (s.t36 + (1 : Int))) r364 r365)))))))))
      .fail)
    (.leaf (.inr (.inr ())))
noncomputable def Llaw16_DiskctlRuns_0 (q : Option Nat) (s : Slaw16_DiskctlRuns_0) : Option (Bool ⊕ Unit) := limQ q (fun s => (Wlaw16_DiskctlRuns_0 q s).run) s
theorem leLlaw16_DiskctlRuns_0 (k : Nat) (s : Slaw16_DiskctlRuns_0) : Le (Llaw16_DiskctlRuns_0 (some k) s) (Llaw16_DiskctlRuns_0 none s) := limQ_le (fun s => (TLe.ite (TLe.ite (TLe.opt Le.rfl fun _ => (TLe.ite (TLe.ite TLe.rfl (TLe.opt (leLlaw16_DiskctlRuns_1 k _) fun _ => (TLe.opt (leref16_SameDisk k _ _) fun _ => (TLe.ite TLe.rfl (TLe.opt (leref16_SameInts k _ _) fun _ => (TLe.ite TLe.rfl (TLe.opt (leref16_SameInts k _ _) fun _ => TLe.rfl))))))) (TLe.ite (TLe.ite (TLe.opt Le.rfl fun _ => (TLe.opt Le.rfl fun _ => (TLe.opt (leref16_SameDisk k _ _) fun _ => (TLe.ite TLe.rfl (TLe.opt (leref16_SameInts k _ _) fun _ => (TLe.ite TLe.rfl (TLe.opt (leref16_SameInts k _ _) fun _ => TLe.rfl))))))) (TLe.ite (TLe.opt Le.rfl fun _ => (TLe.opt Le.rfl fun _ => (TLe.opt (leref16_SameDisk k _ _) fun _ => (TLe.ite TLe.rfl (TLe.opt (leref16_SameInts k _ _) fun _ => (TLe.ite TLe.rfl (TLe.opt (leref16_SameInts k _ _) fun _ => TLe.rfl))))))) (TLe.opt Le.rfl fun _ => (TLe.opt Le.rfl fun _ => (TLe.opt (leref16_SameDisk k _ _) fun _ => (TLe.ite TLe.rfl (TLe.opt (leref16_SameInts k _ _) fun _ => (TLe.ite TLe.rfl (TLe.opt (leref16_SameInts k _ _) fun _ => TLe.rfl))))))))) (TLe.ite (TLe.opt Le.rfl fun _ => (TLe.opt Le.rfl fun _ => (TLe.opt (leref16_SameDisk k _ _) fun _ => (TLe.ite TLe.rfl (TLe.opt (leref16_SameInts k _ _) fun _ => (TLe.ite TLe.rfl (TLe.opt (leref16_SameInts k _ _) fun _ => TLe.rfl))))))) (TLe.opt Le.rfl fun _ => (TLe.opt Le.rfl fun _ => (TLe.opt (leref16_SameDisk k _ _) fun _ => (TLe.ite TLe.rfl (TLe.opt (leref16_SameInts k _ _) fun _ => (TLe.ite TLe.rfl (TLe.opt (leref16_SameInts k _ _) fun _ => TLe.rfl))))))))))) TLe.rfl) TLe.rfl)) s
noncomputable def Tlaw16_DiskctlRuns (q : Option Nat) (x0 : Disk) (x1 : (List Int)) (x2 : (List Int)) (x3 : (List Do)) : Tree Bool :=
  .opt Bool (law16_few q x0 x1 x2) fun r349 =>
    .ite (!r349)
      (.opt Bool (law16_alive q) fun r350 =>
        .leaf (r350))
      (.ite (decide ((40 : Int) < (x3.length : Int)))
        (.opt Bool (law16_alive q) fun r351 =>
          .leaf (r351))
        (.opt (Bool ⊕ Unit) (Llaw16_DiskctlRuns_0 q (Slaw16_DiskctlRuns_0.mk x1 x2 x1 x2 x3 (x3.length : Int) (0 : Int) x0 x0)) fun l384 =>
          .ite (l384.isLeft)
            (.opt Bool (l384.getLeft?) fun a385 =>
              .leaf (a385))
            (.opt Unit (l384.getRight?) fun b386 =>
              .opt Bool (law16_alive q) fun r387 =>
                .leaf (r387))))
noncomputable def law16_DiskctlRuns (q : Option Nat) (x0 : Disk) (x1 : (List Int)) (x2 : (List Int)) (x3 : (List Do)) : Option Bool := (Tlaw16_DiskctlRuns q x0 x1 x2 x3).run
theorem lelaw16_DiskctlRuns (k : Nat) (x0 : Disk) (x1 : (List Int)) (x2 : (List Int)) (x3 : (List Do)) : Le (law16_DiskctlRuns (some k) x0 x1 x2 x3) (law16_DiskctlRuns none x0 x1 x2 x3) := (TLe.opt (lelaw16_few k _ _ _) fun _ => (TLe.ite (TLe.opt (lelaw16_alive k) fun _ => TLe.rfl) (TLe.ite (TLe.opt (lelaw16_alive k) fun _ => TLe.rfl) (TLe.opt (leLlaw16_DiskctlRuns_0 k _) fun _ => (TLe.ite TLe.rfl (TLe.opt Le.rfl fun _ => (TLe.opt (lelaw16_alive k) fun _ => TLe.rfl)))))))
noncomputable def Alaw16_DiskctlRuns : Arg U (Disk × (List Int) × (List Int) × (List Do) × Unit) := aA cDisk (aO (cSl 3) (aO (cSl 3) (aO (cSl 44) (aNil))))
noncomputable def Rlaw16_DiskctlRuns (r : Bool) : List (V U) × List (Blk U) := ([vO cBool r], [])
noncomputable def Slaw16_DiskctlRuns : List (V U) → List (Blk U) → Option (FnOut U) := mkSpec Alaw16_DiskctlRuns bNil (fun x _ => law16_DiskctlRuns none x.1 x.2.1 x.2.2.1 x.2.2.2.1) Rlaw16_DiskctlRuns
noncomputable def Plaw16_DiskctlRuns_0 (x : (Unit) × ((List Int) × Unit) × ((List Int) × Unit) × (Unit) × ((List Int) × Unit) × ((List Int) × Unit) × ((List Do) × Unit) × (Int × Unit) × (Int × Unit) × Unit) (g : (Disk × Unit) × (Disk × Unit) × Unit) : Slaw16_DiskctlRuns_0 := Slaw16_DiskctlRuns_0.mk x.2.1.1 x.2.2.1.1 x.2.2.2.2.1.1 x.2.2.2.2.2.1.1 x.2.2.2.2.2.2.1.1 x.2.2.2.2.2.2.2.1.1 x.2.2.2.2.2.2.2.2.1.1 g.1.1 g.2.1.1
noncomputable def tAlaw16_DiskctlRuns_0 : Tms U ((Unit) × ((List Int) × Unit) × ((List Int) × Unit) × (Unit) × ((List Int) × Unit) × ((List Int) × Unit) × ((List Do) × Unit) × (Int × Unit) × (Int × Unit) × Unit) := tO 9 (cK (.ptr 0 0) (cUnit)) (tO 10 (cPair (cSl 3) (cUnit)) (tO 11 (cPair (cSl 3) (cUnit)) (tO 12 (cK (.ptr 1 0) (cUnit)) (tO 13 (cPair (cSl 3) (cUnit)) (tO 14 (cPair (cSl 3) (cUnit)) (tO 34 (cPair (cSl 44) (cUnit)) (tO 35 (cPair (cInt .i64) (cUnit)) (tO 36 (cPair (cInt .i64) (cUnit)) (tNil)))))))))
noncomputable def tBlaw16_DiskctlRuns_0 : Bls U ((Disk × Unit) × (Disk × Unit) × Unit) := bC (cPair cDisk (cUnit)) (bC (cPair cDisk (cUnit)) (bNil))
noncomputable def eSlaw16_DiskctlRuns_0 (s : Slaw16_DiskctlRuns_0) : St U := { tm := [(9, .v (vO (cK (.ptr 0 0) (cUnit)) (()))), (10, .v (vO (cPair (cSl 3) (cUnit)) (s.t10, ()))), (11, .v (vO (cPair (cSl 3) (cUnit)) (s.t11, ()))), (12, .v (vO (cK (.ptr 1 0) (cUnit)) (()))), (13, .v (vO (cPair (cSl 3) (cUnit)) (s.t13, ()))), (14, .v (vO (cPair (cSl 3) (cUnit)) (s.t14, ()))), (34, .v (vO (cPair (cSl 44) (cUnit)) (s.t34, ()))), (35, .v (vO (cPair (cInt .i64) (cUnit)) (s.t35, ()))), (36, .v (vO (cPair (cInt .i64) (cUnit)) (s.t36, ())))], hp := [.cells ((cPair cDisk (cUnit) : Cdc U (Disk × Unit)).enc (s.b0, ())) none, .cells ((cPair cDisk (cUnit) : Cdc U (Disk × Unit)).enc (s.b1, ())) none] }
noncomputable def xSlaw16_DiskctlRuns_0 : (Bool ⊕ Unit) → Ex × St U
  | .inl r => (.ret, { tm := [(8, .v (vO (cPair cBool (cUnit)) (r, ())))], hp := [] })
  | .inr r => (.exit 0, { tm := [], hp := [] })
noncomputable def xTlaw16_DiskctlRuns_0 (y : (Bool ⊕ Unit)) : Tree (Ex × St U) := .ite y.isLeft (.opt Bool y.getLeft? fun r => .leaf (.ret, { tm := [(8, .v (vO (cPair cBool (cUnit)) (r, ())))], hp := [] })) (.opt Unit y.getRight? fun r => .leaf (.exit 0, { tm := [], hp := [] }))
noncomputable def hlaw16_DiskctlRuns_0 : Hd := { keep := [9, 10, 11, 12, 13, 14, 34, 35, 36], xkeep := [8], own := false }
noncomputable def Plaw16_DiskctlRuns_1 (x : (Unit) × ((List Int) × Unit) × ((List Int) × Unit) × (Unit) × ((List Int) × Unit) × ((List Int) × Unit) × ((List Do) × Unit) × (Int × Unit) × (Int × Unit) × (Int × Unit) × (Int × Unit) × Unit) (g : (Disk × Unit) × (Disk × Unit) × Unit) : Slaw16_DiskctlRuns_1 := Slaw16_DiskctlRuns_1.mk x.2.1.1 x.2.2.1.1 x.2.2.2.2.1.1 x.2.2.2.2.2.1.1 x.2.2.2.2.2.2.1.1 x.2.2.2.2.2.2.2.1.1 x.2.2.2.2.2.2.2.2.1.1 x.2.2.2.2.2.2.2.2.2.1.1 x.2.2.2.2.2.2.2.2.2.2.1.1 g.1.1 g.2.1.1
noncomputable def tAlaw16_DiskctlRuns_1 : Tms U ((Unit) × ((List Int) × Unit) × ((List Int) × Unit) × (Unit) × ((List Int) × Unit) × ((List Int) × Unit) × ((List Do) × Unit) × (Int × Unit) × (Int × Unit) × (Int × Unit) × (Int × Unit) × Unit) := tO 9 (cK (.ptr 0 0) (cUnit)) (tO 10 (cPair (cSl 3) (cUnit)) (tO 11 (cPair (cSl 3) (cUnit)) (tO 12 (cK (.ptr 1 0) (cUnit)) (tO 13 (cPair (cSl 3) (cUnit)) (tO 14 (cPair (cSl 3) (cUnit)) (tO 34 (cPair (cSl 44) (cUnit)) (tO 35 (cPair (cInt .i64) (cUnit)) (tO 36 (cPair (cInt .i64) (cUnit)) (tO 51 (cPair (cInt .i64) (cUnit)) (tO 52 (cPair (cInt .i64) (cUnit)) (tNil)))))))))))
noncomputable def tBlaw16_DiskctlRuns_1 : Bls U ((Disk × Unit) × (Disk × Unit) × Unit) := bC (cPair cDisk (cUnit)) (bC (cPair cDisk (cUnit)) (bNil))
noncomputable def eSlaw16_DiskctlRuns_1 (s : Slaw16_DiskctlRuns_1) : St U := { tm := [(9, .v (vO (cK (.ptr 0 0) (cUnit)) (()))), (10, .v (vO (cPair (cSl 3) (cUnit)) (s.t10, ()))), (11, .v (vO (cPair (cSl 3) (cUnit)) (s.t11, ()))), (12, .v (vO (cK (.ptr 1 0) (cUnit)) (()))), (13, .v (vO (cPair (cSl 3) (cUnit)) (s.t13, ()))), (14, .v (vO (cPair (cSl 3) (cUnit)) (s.t14, ()))), (34, .v (vO (cPair (cSl 44) (cUnit)) (s.t34, ()))), (35, .v (vO (cPair (cInt .i64) (cUnit)) (s.t35, ()))), (36, .v (vO (cPair (cInt .i64) (cUnit)) (s.t36, ()))), (51, .v (vO (cPair (cInt .i64) (cUnit)) (s.t51, ()))), (52, .v (vO (cPair (cInt .i64) (cUnit)) (s.t52, ())))], hp := [.cells ((cPair cDisk (cUnit) : Cdc U (Disk × Unit)).enc (s.b0, ())) none, .cells ((cPair cDisk (cUnit) : Cdc U (Disk × Unit)).enc (s.b1, ())) none] }
noncomputable def xSlaw16_DiskctlRuns_1 (r : ((List Int) × (List Int) × (List Int) × (List Int) × (List Do) × Int × Int × Disk × Disk)) : Ex × St U := (.exit 3, { tm := [(9, .v (vO (cK (.ptr 0 0) (cUnit)) (()))), (10, .v (vO (cPair (cSl 3) (cUnit)) (r.1, ()))), (11, .v (vO (cPair (cSl 3) (cUnit)) (r.2.1, ()))), (12, .v (vO (cK (.ptr 1 0) (cUnit)) (()))), (13, .v (vO (cPair (cSl 3) (cUnit)) (r.2.2.1, ()))), (14, .v (vO (cPair (cSl 3) (cUnit)) (r.2.2.2.1, ()))), (34, .v (vO (cPair (cSl 44) (cUnit)) (r.2.2.2.2.1, ()))), (35, .v (vO (cPair (cInt .i64) (cUnit)) (r.2.2.2.2.2.1, ()))), (36, .v (vO (cPair (cInt .i64) (cUnit)) (r.2.2.2.2.2.2.1, ())))], hp := [.cells ((cPair cDisk (cUnit) : Cdc U (Disk × Unit)).enc (r.2.2.2.2.2.2.2.1, ())) none, .cells ((cPair cDisk (cUnit) : Cdc U (Disk × Unit)).enc (r.2.2.2.2.2.2.2.2, ())) none] })
noncomputable def xTlaw16_DiskctlRuns_1 (r : ((List Int) × (List Int) × (List Int) × (List Int) × (List Do) × Int × Int × Disk × Disk)) : Tree (Ex × St U) := .leaf (xSlaw16_DiskctlRuns_1 r)
noncomputable def hlaw16_DiskctlRuns_1 : Hd := { keep := [9, 10, 11, 12, 13, 14, 34, 35, 36, 51, 52], xkeep := [8, 9, 10, 11, 12, 13, 14, 34, 35, 36], own := false }
noncomputable def Elaw16_DiskctlRuns : Env U := { P := Try.prog, cd := cd, fns := fns22, lps := (addL 0 hlaw16_DiskctlRuns_0 (mkLoop tAlaw16_DiskctlRuns_0 tBlaw16_DiskctlRuns_0 Plaw16_DiskctlRuns_0 (Llaw16_DiskctlRuns_0 none) xTlaw16_DiskctlRuns_0) (addL 1 hlaw16_DiskctlRuns_1 (mkLoop tAlaw16_DiskctlRuns_1 tBlaw16_DiskctlRuns_1 Plaw16_DiskctlRuns_1 (Llaw16_DiskctlRuns_1 none) xTlaw16_DiskctlRuns_1) noL)), frz := fun _r => false, nt := 132, n0 := 0 }
noncomputable def Blaw16_DiskctlRuns_0 : Code := (loopAt (Try.f5.body.getD .skip) 0 0).getD .skip
theorem roundlaw16_DiskctlRuns_0 (s : Slaw16_DiskctlRuns_0) : round Elaw16_DiskctlRuns hlaw16_DiskctlRuns_0 Blaw16_DiskctlRuns_0 0 (eSlaw16_DiskctlRuns_0 s) = (Wlaw16_DiskctlRuns_0 none s).map (sumE eSlaw16_DiskctlRuns_0 xSlaw16_DiskctlRuns_0) := by kernel_rfl
theorem lplaw16_DiskctlRuns_0 : LpOk Elaw16_DiskctlRuns Blaw16_DiskctlRuns_0 0 := mkLoop_ok (A := tAlaw16_DiskctlRuns_0) (B := tBlaw16_DiskctlRuns_0) (f := Plaw16_DiskctlRuns_0) (L := Llaw16_DiskctlRuns_0 none) (tO_ok (cK_ok cUnit_ok) (tO_ok (cPair_ok (cSl_ok 3) cUnit_ok) (tO_ok (cPair_ok (cSl_ok 3) cUnit_ok) (tO_ok (cK_ok cUnit_ok) (tO_ok (cPair_ok (cSl_ok 3) cUnit_ok) (tO_ok (cPair_ok (cSl_ok 3) cUnit_ok) (tO_ok (cPair_ok (cSl_ok 44) cUnit_ok) (tO_ok (cPair_ok (cInt_ok .i64) cUnit_ok) (tO_ok (cPair_ok (cInt_ok .i64) cUnit_ok) tNil_ok))))))))) (bC_ok (cPair_ok cDisk_ok cUnit_ok) (bC_ok (cPair_ok cDisk_ok cUnit_ok) bNil_ok)) (enc := eSlaw16_DiskctlRuns_0) (out := xTlaw16_DiskctlRuns_0) (outS := xSlaw16_DiskctlRuns_0) (step := Wlaw16_DiskctlRuns_0 none) (fun _ => rfl) (fun _ _ => by kernel_rfl) (by kernel_rfl) (fun b => by cases b <;> rfl) roundlaw16_DiskctlRuns_0
noncomputable def Blaw16_DiskctlRuns_1 : Code := (loopAt (Try.f5.body.getD .skip) 0 1).getD .skip
theorem roundlaw16_DiskctlRuns_1 (s : Slaw16_DiskctlRuns_1) : round Elaw16_DiskctlRuns hlaw16_DiskctlRuns_1 Blaw16_DiskctlRuns_1 1 (eSlaw16_DiskctlRuns_1 s) = (Wlaw16_DiskctlRuns_1 none s).map (sumE eSlaw16_DiskctlRuns_1 xSlaw16_DiskctlRuns_1) := by kernel_rfl
theorem lplaw16_DiskctlRuns_1 : LpOk Elaw16_DiskctlRuns Blaw16_DiskctlRuns_1 1 := mkLoop_ok (A := tAlaw16_DiskctlRuns_1) (B := tBlaw16_DiskctlRuns_1) (f := Plaw16_DiskctlRuns_1) (L := Llaw16_DiskctlRuns_1 none) (tO_ok (cK_ok cUnit_ok) (tO_ok (cPair_ok (cSl_ok 3) cUnit_ok) (tO_ok (cPair_ok (cSl_ok 3) cUnit_ok) (tO_ok (cK_ok cUnit_ok) (tO_ok (cPair_ok (cSl_ok 3) cUnit_ok) (tO_ok (cPair_ok (cSl_ok 3) cUnit_ok) (tO_ok (cPair_ok (cSl_ok 44) cUnit_ok) (tO_ok (cPair_ok (cInt_ok .i64) cUnit_ok) (tO_ok (cPair_ok (cInt_ok .i64) cUnit_ok) (tO_ok (cPair_ok (cInt_ok .i64) cUnit_ok) (tO_ok (cPair_ok (cInt_ok .i64) cUnit_ok) tNil_ok))))))))))) (bC_ok (cPair_ok cDisk_ok cUnit_ok) (bC_ok (cPair_ok cDisk_ok cUnit_ok) bNil_ok)) (enc := eSlaw16_DiskctlRuns_1) (out := xTlaw16_DiskctlRuns_1) (outS := xSlaw16_DiskctlRuns_1) (step := Wlaw16_DiskctlRuns_1 none) (fun _ => rfl) (fun _ _ => by kernel_rfl) (by kernel_rfl) (fun _ => rfl) roundlaw16_DiskctlRuns_1
theorem runlaw16_DiskctlRuns (x : Disk × (List Int) × (List Int) × (List Do) × Unit) (g : Unit) : execF Elaw16_DiskctlRuns Try.f5 (Alaw16_DiskctlRuns.enc x) (bNil.enc g) = (Tlaw16_DiskctlRuns none x.1 x.2.1 x.2.2.1 x.2.2.2.1).map Rlaw16_DiskctlRuns := by kernel_rfl
theorem oklaw16_DiskctlRuns : FnOk Try.prog cd 5 Slaw16_DiskctlRuns := mk_ok (E := Elaw16_DiskctlRuns) cd_ok fns22_ok Try.func5 (by kernel_rfl) (loops_of (addL_ok lplaw16_DiskctlRuns_0 (addL_ok lplaw16_DiskctlRuns_1 noL_ok))) (aA_ok cDisk_ok (aO_ok (cSl_ok 3) (aO_ok (cSl_ok 3) (aO_ok (cSl_ok 44) (aNil_ok))))) bNil_ok (T := fun x _ => Tlaw16_DiskctlRuns none x.1 x.2.1 x.2.2.1 x.2.2.2.1) (fun _ _ => rfl) runlaw16_DiskctlRuns
noncomputable def fns5 := addF 5 true Slaw16_DiskctlRuns fns22
theorem fns5_ok : ∀ f q t, fns5 f = some (q, t) → FnOk Try.prog cd f t := addF_ok oklaw16_DiskctlRuns fns22_ok
/-- emulator/drive.Right -/
structure Sdrive_Right_0 where
  t19 : (List (List UInt8))
  t20 : Int
  t21 : Int
  b0 : Drive
noncomputable def Wdrive_Right_0 (s : Sdrive_Right_0) : Tree (Sdrive_Right_0 ⊕ ((Bool × Drive) ⊕ Drive)) :=
  .ite (decide (s.t21 < s.t20))
    (.ite (decide (0 ≤ s.t21))
      (.opt (List UInt8) (s.t19[(s.t21).toNat]?) fun y388 =>
        .ite (!decide ((y388.length : Int) = (128 : Int)))
          (.leaf (.inr (.inl (false, s.b0))))
          (.leaf (.inl (Sdrive_Right_0.mk s.t19 s.t20 (IntKind.wrap .i64 (s.t21 + (1 : Int))) s.b0))))
      .fail)
    (.leaf (.inr (.inr s.b0)))
noncomputable def Ldrive_Right_0 (q : Option Nat) (s : Sdrive_Right_0) : Option ((Bool × Drive) ⊕ Drive) := limQ q (fun s => (Wdrive_Right_0 s).run) s
theorem leLdrive_Right_0 (k : Nat) (s : Sdrive_Right_0) : Le (Ldrive_Right_0 (some k) s) (Ldrive_Right_0 none s) := limQ_le (fun _ => Le.rfl) s
structure Sdrive_Right_1 where
  t5 : Int
  t30 : (List Int)
  t31 : Int
  t32 : Int
  b0 : Drive
noncomputable def Wdrive_Right_1 (s : Sdrive_Right_1) : Tree (Sdrive_Right_1 ⊕ (Bool ⊕ Unit)) :=
  .ite (decide (s.t32 < s.t31))
    (.ite (decide (0 ≤ s.t32))
      (.opt Int (s.t30[(s.t32).toNat]?) fun y392 =>
        .ite (decide (y392 ≤ s.t5))
          (.leaf (.inr (.inl false)))
          (.ite (decide ((s.b0.sectors.length : Int) ≤ y392))
            (.leaf (.inr (.inl false)))
            (.leaf (.inl (Sdrive_Right_1.mk y392 s.t30 s.t31 (IntKind.wrap .i64 (s.t32 + (1 : Int))) s.b0)))))
      .fail)
    (.leaf (.inr (.inr ())))
noncomputable def Ldrive_Right_1 (q : Option Nat) (s : Sdrive_Right_1) : Option (Bool ⊕ Unit) := limQ q (fun s => (Wdrive_Right_1 s).run) s
theorem leLdrive_Right_1 (k : Nat) (s : Sdrive_Right_1) : Le (Ldrive_Right_1 (some k) s) (Ldrive_Right_1 none s) := limQ_le (fun _ => Le.rfl) s
noncomputable def Tdrive_Right (q : Option Nat) (x0 : Drive) : Tree Bool :=
  .ite (decide ((x0.sectors.length : Int) < (1 : Int)))
    (.leaf (false))
    (.ite (decide ((256 : Int) < (x0.sectors.length : Int)))
      (.leaf (false))
      (.opt ((Bool × Drive) ⊕ Drive) (Ldrive_Right_0 q (Sdrive_Right_0.mk x0.sectors (x0.sectors.length : Int) (0 : Int) x0)) fun l389 =>
        .ite (l389.isLeft)
          (.opt (Bool × Drive) (l389.getLeft?) fun a390 =>
            .leaf (a390.1))
          (.opt Drive (l389.getRight?) fun b391 =>
            .opt (Bool ⊕ Unit) (Ldrive_Right_1 q (Sdrive_Right_1.mk (-1 : Int) b391.bad (b391.bad.length : Int) (0 : Int) b391)) fun l393 =>
              .ite (l393.isLeft)
                (.opt Bool (l393.getLeft?) fun a394 =>
                  .leaf (a394))
                (.opt Unit (l393.getRight?) fun b395 =>
                  .leaf (true)))))
noncomputable def drive_Right (q : Option Nat) (x0 : Drive) : Option Bool := (Tdrive_Right q x0).run
theorem ledrive_Right (k : Nat) (x0 : Drive) : Le (drive_Right (some k) x0) (drive_Right none x0) := (TLe.ite TLe.rfl (TLe.ite TLe.rfl (TLe.opt (leLdrive_Right_0 k _) fun _ => (TLe.ite TLe.rfl (TLe.opt Le.rfl fun _ => (TLe.opt (leLdrive_Right_1 k _) fun _ => TLe.rfl))))))
noncomputable def Adrive_Right : Arg U (Drive × Unit) := aA cDrive (aNil)
noncomputable def Rdrive_Right (r : Bool) : List (V U) × List (Blk U) := ([vO cBool r], [])
noncomputable def Sdrive_Right : List (V U) → List (Blk U) → Option (FnOut U) := mkSpec Adrive_Right bNil (fun x _ => drive_Right none x.1) Rdrive_Right
noncomputable def Pdrive_Right_0 (x : (Unit) × ((List (List UInt8)) × Unit) × (Int × Unit) × (Int × Unit) × Unit) (g : (Drive × Unit) × Unit) : Sdrive_Right_0 := Sdrive_Right_0.mk x.2.1.1 x.2.2.1.1 x.2.2.2.1.1 g.1.1
noncomputable def tAdrive_Right_0 : Tms U ((Unit) × ((List (List UInt8)) × Unit) × (Int × Unit) × (Int × Unit) × Unit) := tO 1 (cK (.ptr 0 0) (cUnit)) (tO 19 (cPair (cSl 9) (cUnit)) (tO 20 (cPair (cInt .i64) (cUnit)) (tO 21 (cPair (cInt .i64) (cUnit)) (tNil))))
noncomputable def tBdrive_Right_0 : Bls U ((Drive × Unit) × Unit) := bC (cPair cDrive (cUnit)) (bNil)
noncomputable def eSdrive_Right_0 (s : Sdrive_Right_0) : St U := { tm := [(1, .v (vO (cK (.ptr 0 0) (cUnit)) (()))), (19, .v (vO (cPair (cSl 9) (cUnit)) (s.t19, ()))), (20, .v (vO (cPair (cInt .i64) (cUnit)) (s.t20, ()))), (21, .v (vO (cPair (cInt .i64) (cUnit)) (s.t21, ())))], hp := [.cells ((cPair cDrive (cUnit) : Cdc U (Drive × Unit)).enc (s.b0, ())) none] }
noncomputable def xSdrive_Right_0 : ((Bool × Drive) ⊕ Drive) → Ex × St U
  | .inl r => (.ret, { tm := [(1, .v (vO (cK (.ptr 0 0) (cUnit)) (()))), (2, .v (vO (cPair cBool (cUnit)) (r.1, ())))], hp := [.cells ((cPair cDrive (cUnit) : Cdc U (Drive × Unit)).enc (r.2, ())) none] })
  | .inr r => (.exit 0, { tm := [(1, .v (vO (cK (.ptr 0 0) (cUnit)) (())))], hp := [.cells ((cPair cDrive (cUnit) : Cdc U (Drive × Unit)).enc (r, ())) none] })
noncomputable def xTdrive_Right_0 (y : ((Bool × Drive) ⊕ Drive)) : Tree (Ex × St U) := .ite y.isLeft (.opt (Bool × Drive) y.getLeft? fun r => .leaf (.ret, { tm := [(1, .v (vO (cK (.ptr 0 0) (cUnit)) (()))), (2, .v (vO (cPair cBool (cUnit)) (r.1, ())))], hp := [.cells ((cPair cDrive (cUnit) : Cdc U (Drive × Unit)).enc (r.2, ())) none] })) (.opt Drive y.getRight? fun r => .leaf (.exit 0, { tm := [(1, .v (vO (cK (.ptr 0 0) (cUnit)) (())))], hp := [.cells ((cPair cDrive (cUnit) : Cdc U (Drive × Unit)).enc (r, ())) none] }))
noncomputable def hdrive_Right_0 : Hd := { keep := [1, 19, 20, 21], xkeep := [1, 2], own := false }
noncomputable def Pdrive_Right_1 (x : (Unit) × (Int × Unit) × ((List Int) × Unit) × (Int × Unit) × (Int × Unit) × Unit) (g : (Drive × Unit) × Unit) : Sdrive_Right_1 := Sdrive_Right_1.mk x.2.1.1 x.2.2.1.1 x.2.2.2.1.1 x.2.2.2.2.1.1 g.1.1
noncomputable def tAdrive_Right_1 : Tms U ((Unit) × (Int × Unit) × ((List Int) × Unit) × (Int × Unit) × (Int × Unit) × Unit) := tO 1 (cK (.ptr 0 0) (cUnit)) (tO 5 (cPair (cInt .i64) (cUnit)) (tO 30 (cPair (cSl 3) (cUnit)) (tO 31 (cPair (cInt .i64) (cUnit)) (tO 32 (cPair (cInt .i64) (cUnit)) (tNil)))))
noncomputable def tBdrive_Right_1 : Bls U ((Drive × Unit) × Unit) := bC (cPair cDrive (cUnit)) (bNil)
noncomputable def eSdrive_Right_1 (s : Sdrive_Right_1) : St U := { tm := [(1, .v (vO (cK (.ptr 0 0) (cUnit)) (()))), (5, .v (vO (cPair (cInt .i64) (cUnit)) (s.t5, ()))), (30, .v (vO (cPair (cSl 3) (cUnit)) (s.t30, ()))), (31, .v (vO (cPair (cInt .i64) (cUnit)) (s.t31, ()))), (32, .v (vO (cPair (cInt .i64) (cUnit)) (s.t32, ())))], hp := [.cells ((cPair cDrive (cUnit) : Cdc U (Drive × Unit)).enc (s.b0, ())) none] }
noncomputable def xSdrive_Right_1 : (Bool ⊕ Unit) → Ex × St U
  | .inl r => (.ret, { tm := [(2, .v (vO (cPair cBool (cUnit)) (r, ())))], hp := [] })
  | .inr r => (.exit 2, { tm := [], hp := [] })
noncomputable def xTdrive_Right_1 (y : (Bool ⊕ Unit)) : Tree (Ex × St U) := .ite y.isLeft (.opt Bool y.getLeft? fun r => .leaf (.ret, { tm := [(2, .v (vO (cPair cBool (cUnit)) (r, ())))], hp := [] })) (.opt Unit y.getRight? fun r => .leaf (.exit 2, { tm := [], hp := [] }))
noncomputable def hdrive_Right_1 : Hd := { keep := [1, 5, 30, 31, 32], xkeep := [2], own := false }
noncomputable def Edrive_Right : Env U := { P := Try.prog, cd := cd, fns := fns5, lps := (addL 0 hdrive_Right_0 (mkLoop tAdrive_Right_0 tBdrive_Right_0 Pdrive_Right_0 (Ldrive_Right_0 none) xTdrive_Right_0) (addL 1 hdrive_Right_1 (mkLoop tAdrive_Right_1 tBdrive_Right_1 Pdrive_Right_1 (Ldrive_Right_1 none) xTdrive_Right_1) noL)), frz := fun _r => false, nt := 48, n0 := 0 }
noncomputable def Bdrive_Right_0 : Code := (loopAt (Try.f43.body.getD .skip) 0 0).getD .skip
theorem rounddrive_Right_0 (s : Sdrive_Right_0) : round Edrive_Right hdrive_Right_0 Bdrive_Right_0 0 (eSdrive_Right_0 s) = (Wdrive_Right_0 s).map (sumE eSdrive_Right_0 xSdrive_Right_0) := by kernel_rfl
theorem lpdrive_Right_0 : LpOk Edrive_Right Bdrive_Right_0 0 := mkLoop_ok (A := tAdrive_Right_0) (B := tBdrive_Right_0) (f := Pdrive_Right_0) (L := Ldrive_Right_0 none) (tO_ok (cK_ok cUnit_ok) (tO_ok (cPair_ok (cSl_ok 9) cUnit_ok) (tO_ok (cPair_ok (cInt_ok .i64) cUnit_ok) (tO_ok (cPair_ok (cInt_ok .i64) cUnit_ok) tNil_ok)))) (bC_ok (cPair_ok cDrive_ok cUnit_ok) bNil_ok) (enc := eSdrive_Right_0) (out := xTdrive_Right_0) (outS := xSdrive_Right_0) (step := Wdrive_Right_0) (fun _ => rfl) (fun _ _ => by kernel_rfl) (by kernel_rfl) (fun b => by cases b <;> rfl) rounddrive_Right_0
noncomputable def Bdrive_Right_1 : Code := (loopAt (Try.f43.body.getD .skip) 0 1).getD .skip
theorem rounddrive_Right_1 (s : Sdrive_Right_1) : round Edrive_Right hdrive_Right_1 Bdrive_Right_1 1 (eSdrive_Right_1 s) = (Wdrive_Right_1 s).map (sumE eSdrive_Right_1 xSdrive_Right_1) := by kernel_rfl
theorem lpdrive_Right_1 : LpOk Edrive_Right Bdrive_Right_1 1 := mkLoop_ok (A := tAdrive_Right_1) (B := tBdrive_Right_1) (f := Pdrive_Right_1) (L := Ldrive_Right_1 none) (tO_ok (cK_ok cUnit_ok) (tO_ok (cPair_ok (cInt_ok .i64) cUnit_ok) (tO_ok (cPair_ok (cSl_ok 3) cUnit_ok) (tO_ok (cPair_ok (cInt_ok .i64) cUnit_ok) (tO_ok (cPair_ok (cInt_ok .i64) cUnit_ok) tNil_ok))))) (bC_ok (cPair_ok cDrive_ok cUnit_ok) bNil_ok) (enc := eSdrive_Right_1) (out := xTdrive_Right_1) (outS := xSdrive_Right_1) (step := Wdrive_Right_1) (fun _ => rfl) (fun _ _ => by kernel_rfl) (by kernel_rfl) (fun b => by cases b <;> rfl) rounddrive_Right_1
theorem rundrive_Right (x : Drive × Unit) (g : Unit) : execF Edrive_Right Try.f43 (Adrive_Right.enc x) (bNil.enc g) = (Tdrive_Right none x.1).map Rdrive_Right := by kernel_rfl
theorem okdrive_Right : FnOk Try.prog cd 43 Sdrive_Right := mk_ok (E := Edrive_Right) cd_ok fns5_ok Try.func43 (by kernel_rfl) (loops_of (addL_ok lpdrive_Right_0 (addL_ok lpdrive_Right_1 noL_ok))) (aA_ok cDrive_ok (aNil_ok)) bNil_ok (T := fun x _ => Tdrive_Right none x.1) (fun _ _ => rfl) rundrive_Right
noncomputable def fns43 := addF 43 true Sdrive_Right fns5
theorem fns43_ok : ∀ f q t, fns43 f = some (q, t) → FnOk Try.prog cd f t := addF_ok okdrive_Right fns5_ok
/-- emulator/diskctl.isWord -/
noncomputable def Tdiskctl_isWord (x0 : Int) : Tree Bool :=
  .leaf (decide ((IntKind.wrap .i64 (((BitVec.ofInt 64 x0 &&& BitVec.ofInt 64 (65535 : Int)).toNat : Int))) = x0))
noncomputable def diskctl_isWord (x0 : Int) : Option Bool := (Tdiskctl_isWord x0).run
noncomputable def Adiskctl_isWord : Arg U (Int × Unit) := aO (cInt .i64) (aNil)
noncomputable def Rdiskctl_isWord (r : Bool) : List (V U) × List (Blk U) := ([vO cBool r], [])
noncomputable def Sdiskctl_isWord : List (V U) → List (Blk U) → Option (FnOut U) := mkSpec Adiskctl_isWord bNil (fun x _ => diskctl_isWord x.1) Rdiskctl_isWord
noncomputable def Ediskctl_isWord : Env U := { P := Try.prog, cd := cd, fns := fns43, lps := noL, frz := fun _r => false, nt := 7, n0 := 0 }
theorem rundiskctl_isWord (x : Int × Unit) (g : Unit) : execF Ediskctl_isWord Try.f44 (Adiskctl_isWord.enc x) (bNil.enc g) = (Tdiskctl_isWord x.1).map Rdiskctl_isWord := by kernel_rfl
theorem okdiskctl_isWord : FnOk Try.prog cd 44 Sdiskctl_isWord := mk_ok (E := Ediskctl_isWord) cd_ok fns43_ok Try.func44 (by kernel_rfl) (noLoops_body (by kernel_rfl)) (aO_ok (cInt_ok .i64) (aNil_ok)) bNil_ok (T := fun x _ => Tdiskctl_isWord x.1) (fun _ _ => rfl) rundiskctl_isWord
noncomputable def fns44 := addF 44 true Sdiskctl_isWord fns43
theorem fns44_ok : ∀ f q t, fns44 f = some (q, t) → FnOk Try.prog cd f t := addF_ok okdiskctl_isWord fns43_ok
/-- emulator/diskctl.Right -/
noncomputable def Tdiskctl_Right (q : Option Nat) (x0 : Disk) : Tree Bool :=
  .opt Bool (drive_Right q x0.drive) fun r396 =>
    .ite (!r396)
      (.leaf (false))
      (.ite (decide (x0.command < (0 : Int)))
        (.leaf (false))
        (.ite (decide ((3 : Int) < x0.command))
          (.leaf (false))
          (.opt Bool (diskctl_isWord x0.words) fun r397 =>
            .ite (!r397)
              (.leaf (false))
              (.opt Bool (diskctl_isWord x0.addr) fun r398 =>
                .ite (!r398)
                  (.leaf (false))
                  (.opt Bool (diskctl_isWord x0.start) fun r399 =>
                    .ite (!r399)
                      (.leaf (false))
                      (.ite (decide ((2 : Int) = 0))
                        .fail
                        (.ite (decide (((x0.addr).tmod (2 : Int)) = (1 : Int)))
                          (.leaf (false))
                          (.ite (decide (x0.left < (0 : Int)))
                            (.leaf (false))
                            (.ite (decide ((8 : Int) < x0.left))
                              (.leaf (false))
                              (.ite (!(x0.ready == (decide (x0.left = (0 : Int)))))
                                (.leaf (false))
                                (.ite (decide (x0.left = (0 : Int)))
                                  (.leaf (true))
                                  (.ite (!decide (x0.command = (0 : Int)))
                                    (.leaf (!decide (x0.words = (0 : Int))))
                                    (.leaf (false))))))))))))))
noncomputable def diskctl_Right (q : Option Nat) (x0 : Disk) : Option Bool := (Tdiskctl_Right q x0).run
theorem lediskctl_Right (k : Nat) (x0 : Disk) : Le (diskctl_Right (some k) x0) (diskctl_Right none x0) := (TLe.opt (ledrive_Right k _) fun _ => TLe.rfl)
noncomputable def Adiskctl_Right : Arg U (Disk × Unit) := aA cDisk (aNil)
noncomputable def Rdiskctl_Right (r : Bool) : List (V U) × List (Blk U) := ([vO cBool r], [])
noncomputable def Sdiskctl_Right : List (V U) → List (Blk U) → Option (FnOut U) := mkSpec Adiskctl_Right bNil (fun x _ => diskctl_Right none x.1) Rdiskctl_Right
noncomputable def Ediskctl_Right : Env U := { P := Try.prog, cd := cd, fns := fns44, lps := noL, frz := fun _r => false, nt := 70, n0 := 0 }
theorem rundiskctl_Right (x : Disk × Unit) (g : Unit) : execF Ediskctl_Right Try.f23 (Adiskctl_Right.enc x) (bNil.enc g) = (Tdiskctl_Right none x.1).map Rdiskctl_Right := by kernel_rfl
theorem okdiskctl_Right : FnOk Try.prog cd 23 Sdiskctl_Right := mk_ok (E := Ediskctl_Right) cd_ok fns44_ok Try.func23 (by kernel_rfl) (noLoops_body (by kernel_rfl)) (aA_ok cDisk_ok (aNil_ok)) bNil_ok (T := fun x _ => Tdiskctl_Right none x.1) (fun _ _ => rfl) rundiskctl_Right
noncomputable def fns23 := addF 23 true Sdiskctl_Right fns44
theorem fns23_ok : ∀ f q t, fns23 f = some (q, t) → FnOk Try.prog cd f t := addF_ok okdiskctl_Right fns44_ok
/-- emulator/emulatorlaw16.DiskctlTicks -/
structure Slaw16_DiskctlTicks_0 where
  t1 : (List Int)
  t2 : (List Int)
  t11 : (List Int)
  t12 : (List Int)
  t14 : (List Int)
  t15 : (List Int)
  t51 : Int
  t52 : Int
  b0 : Disk
  b1 : (List Int)
  b2 : (List Int)
  b3 : (List (List UInt8))
  b4 : Disk
  b5 : Disk
noncomputable def Wlaw16_DiskctlTicks_0 (s : Slaw16_DiskctlTicks_0) : Tree (Slaw16_DiskctlTicks_0 ⊕ (((List Int) × (List Int) × Bool × (List Int) × (List Int) × (List Int) × (List Int) × (List Int) × (List Int) × Disk × Disk) ⊕ ((List Int) × (List Int) × (List Int) × (List Int) × (List Int) × (List Int) × (List Int) × (List Int) × Disk × Disk))) :=
  .ite (decide (s.t52 < s.t51))
    (.ite (decide (0 ≤ s.t52))
      (.opt (List UInt8) (s.b0.drive.sectors[(s.t52).toNat]?) fun y416 =>
        .ite (decide (0 ≤ s.t52))
          (.ite (decide (s.t52 < (s.b3.length : Int)))
            (.opt (List UInt8) (s.b3[(s.t52).toNat]?) fun y417 =>
              .ite (!decide (y416 = y417))
                (.leaf (.inr (.inl (s.t1, s.t2, false, s.t11, s.t12, s.t14, s.t15, s.b1, s.b2, s.b4, s.b5))))
                (.leaf (.inl (Slaw16_DiskctlTicks_0.mk s.t1 s.t2 s.t11 s.t12 s.t14 s.t15 s.t51 (IntKind.wrap .i64 (s.t52 + (1 : Int))) s.b0 s.b1 s.b2 s.b3 s.b4 s.b5))))
            .fail)
          .fail)
      .fail)
    (.leaf (.inr (.inr (s.t1, s.t2, s.t11, s.t12, s.t14, s.t15, s.b1, s.b2, s.b4, s.b5))))
noncomputable def Llaw16_DiskctlTicks_0 (q : Option Nat) (s : Slaw16_DiskctlTicks_0) : Option (((List Int) × (List Int) × Bool × (List Int) × (List Int) × (List Int) × (List Int) × (List Int) × (List Int) × Disk × Disk) ⊕ ((List Int) × (List Int) × (List Int) × (List Int) × (List Int) × (List Int) × (List Int) × (List Int) × Disk × Disk)) := limQ q (fun s => (Wlaw16_DiskctlTicks_0 s).run) s
theorem leLlaw16_DiskctlTicks_0 (k : Nat) (s : Slaw16_DiskctlTicks_0) : Le (Llaw16_DiskctlTicks_0 (some k) s) (Llaw16_DiskctlTicks_0 none s) := limQ_le (fun _ => Le.rfl) s
noncomputable def Tlaw16_DiskctlTicks (q : Option Nat) (x0 : Disk) (x1 : (List Int)) (x2 : (List Int)) : Tree Bool :=
  .opt Bool (law16_few q x0 x1 x2) fun r412 =>
    .ite (!r412)
      (.opt Bool (law16_alive q) fun r413 =>
        .leaf (r413))
      (.ite (decide ((([] : List Int).length + x1.length) * 8 ≤ 140737488355328))
        (.ite (decide ((([] : List Int).length + x2.length) * 8 ≤ 140737488355328))
          (.ite (decide ((([] : List (List UInt8)).length + x0.drive.sectors.length) * 16 ≤ 140737488355328))
            (.opt (Disk × (List Int) × (List Int)) (diskctl_Tick q x0 x1 x2) fun r414 =>
              .opt (Disk × (List Int) × (List Int)) (ref16_Tick q x0 x1 x2) fun r415 =>
                .opt (((List Int) × (List Int) × Bool × (List Int) × (List Int) × (List Int) × (List Int) × (List Int) × (List Int) × Disk × Disk) ⊕ ((List Int) × (List Int) × (List Int) × (List Int) × (List Int) × (List Int) × (List Int) × (List Int) × Disk × Disk)) (Llaw16_DiskctlTicks_0 q (Slaw16_DiskctlTicks_0.mk x1 x2 r414.2.1 r414.2.2 r415.2.1 r415.2.2 ((([] : List (List UInt8)) ++ x0.drive.sectors).length : Int) (0 : Int) x0 (([] : List Int) ++ x1) (([] : List Int) ++ x2) (([] : List (List UInt8)) ++ x0.drive.sectors) r414.1 r415.1)) fun l418 =>
                  .ite (l418.isLeft)
                    (.opt ((List Int) × (List Int) × Bool × (List Int) × (List Int) × (List Int) × (List Int) × (List Int) × (List Int) × Disk × Disk) (l418.getLeft?) fun a419 =>
                      .leaf (a419.2.2.1))
                    (.opt ((List Int) × (List Int) × (List Int) × (List Int) × (List Int) × (List Int) × (List Int) × (List Int) × Disk × Disk) (l418.getRight?) fun b420 =>
                      .opt Bool (ref16_SameDisk q b420.2.2.2.2.2.2.2.2.1 b420.2.2.2.2.2.2.2.2.2) fun r421 =>
                        .ite (r421)
                          (.opt Bool (ref16_SameInts q b420.2.2.1 b420.2.2.2.2.1) fun r422 =>
                            .ite (r422)
                              (.opt Bool (ref16_SameInts q b420.2.2.2.1 b420.2.2.2.2.2.1) fun r423 =>
                                .ite (r423)
                                  (.opt Bool (ref16_SameInts q b420.1 b420.2.2.2.2.2.2.1) fun r424 =>
                                    .ite (r424)
                                      (.opt Bool (ref16_SameInts q b420.2.1 b420.2.2.2.2.2.2.2.1) fun r425 =>
                                        .ite (r425)
                                          (.opt Bool (diskctl_Right q b420.2.2.2.2.2.2.2.2.1) fun r426 =>
                                            .ite (r426)
                                              (.opt Bool (law16_alive q) fun r427 =>
                                                .leaf (r427))
                                              (.leaf (false)))
                                          (.leaf (false)))
                                      (.leaf (false)))
                                  (.leaf (false)))
                              (.leaf (false)))
                          (.leaf (false))))
            .fail)
          .fail)
        .fail)
noncomputable def law16_DiskctlTicks (q : Option Nat) (x0 : Disk) (x1 : (List Int)) (x2 : (List Int)) : Option Bool := (Tlaw16_DiskctlTicks q x0 x1 x2).run
theorem lelaw16_DiskctlTicks (k : Nat) (x0 : Disk) (x1 : (List Int)) (x2 : (List Int)) : Le (law16_DiskctlTicks (some k) x0 x1 x2) (law16_DiskctlTicks none x0 x1 x2) := (TLe.opt (lelaw16_few k _ _ _) fun _ => (TLe.ite (TLe.opt (lelaw16_alive k) fun _ => TLe.rfl) (TLe.ite (TLe.ite (TLe.ite (TLe.opt (lediskctl_Tick k _ _ _) fun _ => (TLe.opt (leref16_Tick k _ _ _) fun _ => (TLe.opt (leLlaw16_DiskctlTicks_0 k _) fun _ => (TLe.ite TLe.rfl (TLe.opt Le.rfl fun _ => (TLe.opt (leref16_SameDisk k _ _) fun _ => (TLe.ite (TLe.opt (leref16_SameInts k _ _) fun _ => (TLe.ite (TLe.opt (leref16_SameInts k _ _) fun _ => (TLe.ite (TLe.opt (leref16_SameInts k _ _) fun _ => (TLe.ite (TLe.opt (leref16_SameInts k _ _) fun _ => (TLe.ite (TLe.opt (lediskctl_Right k _) fun _ => (TLe.ite (TLe.opt (lelaw16_alive k) fun _ => TLe.rfl) TLe.rfl)) TLe.rfl)) TLe.rfl)) TLe.rfl)) TLe.rfl)) TLe.rfl))))))) TLe.rfl) TLe.rfl) TLe.rfl)))
noncomputable def Alaw16_DiskctlTicks : Arg U (Disk × (List Int) × (List Int) × Unit) := aA cDisk (aO (cSl 3) (aO (cSl 3) (aNil)))
noncomputable def Rlaw16_DiskctlTicks (r : Bool) : List (V U) × List (Blk U) := ([vO cBool r], [])
noncomputable def Slaw16_DiskctlTicks : List (V U) → List (Blk U) → Option (FnOut U) := mkSpec Alaw16_DiskctlTicks bNil (fun x _ => law16_DiskctlTicks none x.1 x.2.1 x.2.2.1) Rlaw16_DiskctlTicks
noncomputable def Plaw16_DiskctlTicks_0 (x : ((List Int) × Unit) × ((List Int) × Unit) × (Unit) × (Unit) × (Unit) × (Unit) × (Unit) × ((List Int) × Unit) × ((List Int) × Unit) × (Unit) × ((List Int) × Unit) × ((List Int) × Unit) × (Int × Unit) × (Int × Unit) × Unit) (g : (Disk × Unit) × (List Int) × (List Int) × (List (List UInt8)) × (Disk × Unit) × (Disk × Unit) × Unit) : Slaw16_DiskctlTicks_0 := Slaw16_DiskctlTicks_0.mk x.1.1 x.2.1.1 x.2.2.2.2.2.2.2.1.1 x.2.2.2.2.2.2.2.2.1.1 x.2.2.2.2.2.2.2.2.2.2.1.1 x.2.2.2.2.2.2.2.2.2.2.2.1.1 x.2.2.2.2.2.2.2.2.2.2.2.2.1.1 x.2.2.2.2.2.2.2.2.2.2.2.2.2.1.1 g.1.1 g.2.1 g.2.2.1 g.2.2.2.1 g.2.2.2.2.1.1 g.2.2.2.2.2.1.1
noncomputable def tAlaw16_DiskctlTicks_0 : Tms U (((List Int) × Unit) × ((List Int) × Unit) × (Unit) × (Unit) × (Unit) × (Unit) × (Unit) × ((List Int) × Unit) × ((List Int) × Unit) × (Unit) × ((List Int) × Unit) × ((List Int) × Unit) × (Int × Unit) × (Int × Unit) × Unit) := tO 1 (cPair (cSl 3) (cUnit)) (tO 2 (cPair (cSl 3) (cUnit)) (tO 3 (cK (.ptr 0 0) (cUnit)) (tO 7 (cK (.row 1 0) (cUnit)) (tO 8 (cK (.row 2 0) (cUnit)) (tO 9 (cK (.row 3 0) (cUnit)) (tO 10 (cK (.ptr 4 0) (cUnit)) (tO 11 (cPair (cSl 3) (cUnit)) (tO 12 (cPair (cSl 3) (cUnit)) (tO 13 (cK (.ptr 5 0) (cUnit)) (tO 14 (cPair (cSl 3) (cUnit)) (tO 15 (cPair (cSl 3) (cUnit)) (tO 51 (cPair (cInt .i64) (cUnit)) (tO 52 (cPair (cInt .i64) (cUnit)) (tNil))))))))))))))
noncomputable def tBlaw16_DiskctlTicks_0 : Bls U ((Disk × Unit) × (List Int) × (List Int) × (List (List UInt8)) × (Disk × Unit) × (Disk × Unit) × Unit) := bC (cPair cDisk (cUnit)) (bRv 3 0 (bRv 3 0 (bRv 9 0 (bC (cPair cDisk (cUnit)) (bC (cPair cDisk (cUnit)) (bNil))))))
noncomputable def eSlaw16_DiskctlTicks_0 (s : Slaw16_DiskctlTicks_0) : St U := { tm := [(1, .v (vO (cPair (cSl 3) (cUnit)) (s.t1, ()))), (2, .v (vO (cPair (cSl 3) (cUnit)) (s.t2, ()))), (3, .v (vO (cK (.ptr 0 0) (cUnit)) (()))), (7, .v (vO (cK (.row 1 0) (cUnit)) (()))), (8, .v (vO (cK (.row 2 0) (cUnit)) (()))), (9, .v (vO (cK (.row 3 0) (cUnit)) (()))), (10, .v (vO (cK (.ptr 4 0) (cUnit)) (()))), (11, .v (vO (cPair (cSl 3) (cUnit)) (s.t11, ()))), (12, .v (vO (cPair (cSl 3) (cUnit)) (s.t12, ()))), (13, .v (vO (cK (.ptr 5 0) (cUnit)) (()))), (14, .v (vO (cPair (cSl 3) (cUnit)) (s.t14, ()))), (15, .v (vO (cPair (cSl 3) (cUnit)) (s.t15, ()))), (51, .v (vO (cPair (cInt .i64) (cUnit)) (s.t51, ()))), (52, .v (vO (cPair (cInt .i64) (cUnit)) (s.t52, ())))], hp := [.cells ((cPair cDisk (cUnit) : Cdc U (Disk × Unit)).enc (s.b0, ())) none, .row 3 0 s.b1, .row 3 0 s.b2, .row 9 0 s.b3, .cells ((cPair cDisk (cUnit) : Cdc U (Disk × Unit)).enc (s.b4, ())) none, .cells ((cPair cDisk (cUnit) : Cdc U (Disk × Unit)).enc (s.b5, ())) none] }
noncomputable def xSlaw16_DiskctlTicks_0 : (((List Int) × (List Int) × Bool × (List Int) × (List Int) × (List Int) × (List Int) × (List Int) × (List Int) × Disk × Disk) ⊕ ((List Int) × (List Int) × (List Int) × (List Int) × (List Int) × (List Int) × (List Int) × (List Int) × Disk × Disk)) → Ex × St U
  | .inl r => (.ret, { tm := [(1, .v (vO (cPair (cSl 3) (cUnit)) (r.1, ()))), (2, .v (vO (cPair (cSl 3) (cUnit)) (r.2.1, ()))), (6, .v (vO (cPair cBool (cUnit)) (r.2.2.1, ()))), (7, .v (vO (cK (.row 0 0) (cUnit)) (()))), (8, .v (vO (cK (.row 1 0) (cUnit)) (()))), (10, .v (vO (cK (.ptr 2 0) (cUnit)) (()))), (11, .v (vO (cPair (cSl 3) (cUnit)) (r.2.2.2.1, ()))), (12, .v (vO (cPair (cSl 3) (cUnit)) (r.2.2.2.2.1, ()))), (13, .v (vO (cK (.ptr 3 0) (cUnit)) (()))), (14, .v (vO (cPair (cSl 3) (cUnit)) (r.2.2.2.2.2.1, ()))), (15, .v (vO (cPair (cSl 3) (cUnit)) (r.2.2.2.2.2.2.1, ())))], hp := [.row 3 0 r.2.2.2.2.2.2.2.1, .row 3 0 r.2.2.2.2.2.2.2.2.1, .cells ((cPair cDisk (cUnit) : Cdc U (Disk × Unit)).enc (r.2.2.2.2.2.2.2.2.2.1, ())) none, .cells ((cPair cDisk (cUnit) : Cdc U (Disk × Unit)).enc (r.2.2.2.2.2.2.2.2.2.2, ())) none] })
  | .inr r => (.exit 0, { tm := [(1, .v (vO (cPair (cSl 3) (cUnit)) (r.1, ()))), (2, .v (vO (cPair (cSl 3) (cUnit)) (r.2.1, ()))), (7, .v (vO (cK (.row 0 0) (cUnit)) (()))), (8, .v (vO (cK (.row 1 0) (cUnit)) (()))), (10, .v (vO (cK (.ptr 2 0) (cUnit)) (()))), (11, .v (vO (cPair (cSl 3) (cUnit)) (r.2.2.1, ()))), (12, .v (vO (cPair (cSl 3) (cUnit)) (r.2.2.2.1, ()))), (13, .v (vO (cK (.ptr 3 0) (cUnit)) (()))), (14, .v (vO (cPair (cSl 3) (cUnit)) (r.2.2.2.2.1, ()))), (15, .v (vO (cPair (cSl 3) (cUnit)) (r.2.2.2.2.2.1, ())))], hp := [.row 3 0 r.2.2.2.2.2.2.1, .row 3 0 r.2.2.2.2.2.2.2.1, .cells ((cPair cDisk (cUnit) : Cdc U (Disk × Unit)).enc (r.2.2.2.2.2.2.2.2.1, ())) none, .cells ((cPair cDisk (cUnit) : Cdc U (Disk × Unit)).enc (r.2.2.2.2.2.2.2.2.2, ())) none] })
noncomputable def xTlaw16_DiskctlTicks_0 (y : (((List Int) × (List Int) × Bool × (List Int) × (List Int) × (List Int) × (List Int) × (List Int) × (List Int) × Disk × Disk) ⊕ ((List Int) × (List Int) × (List Int) × (List Int) × (List Int) × (List Int) × (List Int) × (List Int) × Disk × Disk))) : Tree (Ex × St U) := .ite y.isLeft (.opt ((List Int) × (List Int) × Bool × (List Int) × (List Int) × (List Int) × (List Int) × (List Int) × (List Int) × Disk × Disk) y.getLeft? fun r => .leaf (.ret, { tm := [(1, .v (vO (cPair (cSl 3) (cUnit)) (r.1, ()))), (2, .v (vO (cPair (cSl 3) (cUnit)) (r.2.1, ()))), (6, .v (vO (cPair cBool (cUnit)) (r.2.2.1, ()))), (7, .v (vO (cK (.row 0 0) (cUnit)) (()))), (8, .v (vO (cK (.row 1 0) (cUnit)) (()))), (10, .v (vO (cK (.ptr 2 0) (cUnit)) (()))), (11, .v (vO (cPair (cSl 3) (cUnit)) (r.2.2.2.1, ()))), (12, .v (vO (cPair (cSl 3) (cUnit)) (r.2.2.2.2.1, ()))), (13, .v (vO (cK (.ptr 3 0) (cUnit)) (()))), (14, .v (vO (cPair (cSl 3) (cUnit)) (r.2.2.2.2.2.1, ()))), (15, .v (vO (cPair (cSl 3) (cUnit)) (r.2.2.2.2.2.2.1, ())))], hp := [.row 3 0 r.2.2.2.2.2.2.2.1, .row 3 0 r.2.2.2.2.2.2.2.2.1, .cells ((cPair cDisk (cUnit) : Cdc U (Disk × Unit)).enc (r.2.2.2.2.2.2.2.2.2.1, ())) none, .cells ((cPair cDisk (cUnit) : Cdc U (Disk × Unit)).enc (r.2.2.2.2.2.2.2.2.2.2, ())) none] })) (.opt ((List Int) × (List Int) × (List Int) × (List Int) × (List Int) × (List Int) × (List Int) × (List Int) × Disk × Disk) y.getRight? fun r => .leaf (.exit 0, { tm := [(1, .v (vO (cPair (cSl 3) (cUnit)) (r.1, ()))), (2, .v (vO (cPair (cSl 3) (cUnit)) (r.2.1, ()))), (7, .v (vO (cK (.row 0 0) (cUnit)) (()))), (8, .v (vO (cK (.row 1 0) (cUnit)) (()))), (10, .v (vO (cK (.ptr 2 0) (cUnit)) (()))), (11, .v (vO (cPair (cSl 3) (cUnit)) (r.2.2.1, ()))), (12, .v (vO (cPair (cSl 3) (cUnit)) (r.2.2.2.1, ()))), (13, .v (vO (cK (.ptr 3 0) (cUnit)) (()))), (14, .v (vO (cPair (cSl 3) (cUnit)) (r.2.2.2.2.1, ()))), (15, .v (vO (cPair (cSl 3) (cUnit)) (r.2.2.2.2.2.1, ())))], hp := [.row 3 0 r.2.2.2.2.2.2.1, .row 3 0 r.2.2.2.2.2.2.2.1, .cells ((cPair cDisk (cUnit) : Cdc U (Disk × Unit)).enc (r.2.2.2.2.2.2.2.2.1, ())) none, .cells ((cPair cDisk (cUnit) : Cdc U (Disk × Unit)).enc (r.2.2.2.2.2.2.2.2.2, ())) none] }))
noncomputable def hlaw16_DiskctlTicks_0 : Hd := { keep := [1, 2, 3, 7, 8, 9, 10, 11, 12, 13, 14, 15, 51, 52], xkeep := [1, 2, 6, 7, 8, 10, 11, 12, 13, 14, 15], own := false }
noncomputable def Elaw16_DiskctlTicks : Env U := { P := Try.prog, cd := cd, fns := fns23, lps := (addL 0 hlaw16_DiskctlTicks_0 (mkLoop tAlaw16_DiskctlTicks_0 tBlaw16_DiskctlTicks_0 Plaw16_DiskctlTicks_0 (Llaw16_DiskctlTicks_0 none) xTlaw16_DiskctlTicks_0) noL), frz := fun _r => bif Nat.beq _r 13 then true else false, nt := 97, n0 := 0 }
noncomputable def Blaw16_DiskctlTicks_0 : Code := (loopAt (Try.f6.body.getD .skip) 0 0).getD .skip
theorem roundlaw16_DiskctlTicks_0 (s : Slaw16_DiskctlTicks_0) : round Elaw16_DiskctlTicks hlaw16_DiskctlTicks_0 Blaw16_DiskctlTicks_0 0 (eSlaw16_DiskctlTicks_0 s) = (Wlaw16_DiskctlTicks_0 s).map (sumE eSlaw16_DiskctlTicks_0 xSlaw16_DiskctlTicks_0) := by kernel_rfl
theorem lplaw16_DiskctlTicks_0 : LpOk Elaw16_DiskctlTicks Blaw16_DiskctlTicks_0 0 := mkLoop_ok (A := tAlaw16_DiskctlTicks_0) (B := tBlaw16_DiskctlTicks_0) (f := Plaw16_DiskctlTicks_0) (L := Llaw16_DiskctlTicks_0 none) (tO_ok (cPair_ok (cSl_ok 3) cUnit_ok) (tO_ok (cPair_ok (cSl_ok 3) cUnit_ok) (tO_ok (cK_ok cUnit_ok) (tO_ok (cK_ok cUnit_ok) (tO_ok (cK_ok cUnit_ok) (tO_ok (cK_ok cUnit_ok) (tO_ok (cK_ok cUnit_ok) (tO_ok (cPair_ok (cSl_ok 3) cUnit_ok) (tO_ok (cPair_ok (cSl_ok 3) cUnit_ok) (tO_ok (cK_ok cUnit_ok) (tO_ok (cPair_ok (cSl_ok 3) cUnit_ok) (tO_ok (cPair_ok (cSl_ok 3) cUnit_ok) (tO_ok (cPair_ok (cInt_ok .i64) cUnit_ok) (tO_ok (cPair_ok (cInt_ok .i64) cUnit_ok) tNil_ok)))))))))))))) (bC_ok (cPair_ok cDisk_ok cUnit_ok) (bRv_ok (bRv_ok (bRv_ok (bC_ok (cPair_ok cDisk_ok cUnit_ok) (bC_ok (cPair_ok cDisk_ok cUnit_ok) bNil_ok)))))) (enc := eSlaw16_DiskctlTicks_0) (out := xTlaw16_DiskctlTicks_0) (outS := xSlaw16_DiskctlTicks_0) (step := Wlaw16_DiskctlTicks_0) (fun _ => rfl) (fun _ _ => by kernel_rfl) (by kernel_rfl) (fun b => by cases b <;> rfl) roundlaw16_DiskctlTicks_0
theorem runlaw16_DiskctlTicks (x : Disk × (List Int) × (List Int) × Unit) (g : Unit) : execF Elaw16_DiskctlTicks Try.f6 (Alaw16_DiskctlTicks.enc x) (bNil.enc g) = (Tlaw16_DiskctlTicks none x.1 x.2.1 x.2.2.1).map Rlaw16_DiskctlTicks := by kernel_rfl
theorem oklaw16_DiskctlTicks : FnOk Try.prog cd 6 Slaw16_DiskctlTicks := mk_ok (E := Elaw16_DiskctlTicks) cd_ok fns23_ok Try.func6 (by kernel_rfl) (loops_of (addL_ok lplaw16_DiskctlTicks_0 noL_ok)) (aA_ok cDisk_ok (aO_ok (cSl_ok 3) (aO_ok (cSl_ok 3) (aNil_ok)))) bNil_ok (T := fun x _ => Tlaw16_DiskctlTicks none x.1 x.2.1 x.2.2.1) (fun _ _ => rfl) runlaw16_DiskctlTicks
noncomputable def fns6 := addF 6 true Slaw16_DiskctlTicks fns23
theorem fns6_ok : ∀ f q t, fns6 f = some (q, t) → FnOk Try.prog cd f t := addF_ok oklaw16_DiskctlTicks fns23_ok
/-- emulator/emulatorref16.New -/
noncomputable def Tref16_New (x0 : Drive) : Tree Disk :=
  .ite (decide ((([] : List (List UInt8)).length + x0.sectors.length) * 16 ≤ 140737488355328))
    (.ite (decide ((([] : List Int).length + x0.bad.length) * 8 ≤ 140737488355328))
      (.leaf (Disk.mk (Drive.mk (([] : List (List UInt8)) ++ x0.sectors) (([] : List Int) ++ x0.bad)) false true false 0 0 0 0 0))
      .fail)
    .fail
noncomputable def ref16_New (x0 : Drive) : Option Disk := (Tref16_New x0).run
noncomputable def Aref16_New : Arg U (Drive × Unit) := aA cDrive (aNil)
noncomputable def Rref16_New (r : Disk) : List (V U) × List (Blk U) := ([vA cDisk r], [])
noncomputable def Sref16_New : List (V U) → List (Blk U) → Option (FnOut U) := mkSpec Aref16_New bNil (fun x _ => ref16_New x.1) Rref16_New
noncomputable def Eref16_New : Env U := { P := Try.prog, cd := cd, fns := fns6, lps := noL, frz := fun _r => false, nt := 15, n0 := 0 }
theorem runref16_New (x : Drive × Unit) (g : Unit) : execF Eref16_New Try.f25 (Aref16_New.enc x) (bNil.enc g) = (Tref16_New x.1).map Rref16_New := by kernel_rfl
theorem okref16_New : FnOk Try.prog cd 25 Sref16_New := mk_ok (E := Eref16_New) cd_ok fns6_ok Try.func25 (by kernel_rfl) (noLoops_body (by kernel_rfl)) (aA_ok cDrive_ok (aNil_ok)) bNil_ok (T := fun x _ => Tref16_New x.1) (fun _ _ => rfl) runref16_New
noncomputable def fns25 := addF 25 true Sref16_New fns6
theorem fns25_ok : ∀ f q t, fns25 f = some (q, t) → FnOk Try.prog cd f t := addF_ok okref16_New fns6_ok
/-- emulator/emulatorref16.Read -/
noncomputable def Tref16_Read (x0 : Disk) (x1 : Int) : Tree (Int × Bool) :=
  .ite (decide (x1 = (2 : Int)))
    (.leaf ((x0.words, true)))
    (.ite (decide (x1 = (4 : Int)))
      (.leaf ((x0.addr, true)))
      (.ite (decide (x1 = (6 : Int)))
        (.leaf ((x0.start, true)))
        (.ite (!decide (x1 = (0 : Int)))
          (.leaf (((0 : Int), false)))
          (.ite (x0.enable)
            (.ite (x0.ready)
              (.ite (x0.error)
                (.leaf ((IntKind.wrap .i64 ((IntKind.wrap .i64 ((IntKind.wrap .i64 ((IntKind.wrap .i64 ((2 : Int) * x0.command)) + (64 : Int))) + (128 : Int))) + (32768 : Int)), true)))
                (.leaf ((IntKind.wrap .i64 ((IntKind.wrap .i64 ((IntKind.wrap .i64 ((2 : Int) * x0.command)) + (64 : Int))) + (128 : Int)), true))))
              (.ite (x0.error)
                (.leaf ((IntKind.wrap .i64 ((IntKind.wrap .i64 ((IntKind.wrap .i64 ((2 : Int) * x0.command)) + (64 : Int))) + (32768 : Int)), true)))
                (.leaf ((IntKind.wrap .i64 ((IntKind.wrap .i64 ((2 : Int) * x0.command)) + (64 : Int)), true)))))
            (.ite (x0.ready)
              (.ite (x0.error)
                (.leaf ((IntKind.wrap .i64 ((IntKind.wrap .i64 ((IntKind.wrap .i64 ((2 : Int) * x0.command)) + (128 : Int))) + (32768 : Int)), true)))
                (.leaf ((IntKind.wrap .i64 ((IntKind.wrap .i64 ((2 : Int) * x0.command)) + (128 : Int)), true))))
              (.ite (x0.error)
                (.leaf ((IntKind.wrap .i64 ((IntKind.wrap .i64 ((2 : Int) * x0.command)) + (32768 : Int)), true)))
                (.leaf ((IntKind.wrap .i64 ((2 : Int) * x0.command), true)))))))))
noncomputable def ref16_Read (x0 : Disk) (x1 : Int) : Option (Int × Bool) := (Tref16_Read x0 x1).run
noncomputable def Aref16_Read : Arg U (Disk × Int × Unit) := aA cDisk (aO (cInt .i64) (aNil))
noncomputable def Rref16_Read (r : (Int × Bool)) : List (V U) × List (Blk U) := ([vO (cInt .i64) r.1, vO cBool r.2], [])
noncomputable def Sref16_Read : List (V U) → List (Blk U) → Option (FnOut U) := mkSpec Aref16_Read bNil (fun x _ => ref16_Read x.1 x.2.1) Rref16_Read
noncomputable def Eref16_Read : Env U := { P := Try.prog, cd := cd, fns := fns25, lps := noL, frz := fun _r => false, nt := 37, n0 := 0 }
theorem runref16_Read (x : Disk × Int × Unit) (g : Unit) : execF Eref16_Read Try.f27 (Aref16_Read.enc x) (bNil.enc g) = (Tref16_Read x.1 x.2.1).map Rref16_Read := by kernel_rfl
theorem okref16_Read : FnOk Try.prog cd 27 Sref16_Read := mk_ok (E := Eref16_Read) cd_ok fns25_ok Try.func27 (by kernel_rfl) (noLoops_body (by kernel_rfl)) (aA_ok cDisk_ok (aO_ok (cInt_ok .i64) (aNil_ok))) bNil_ok (T := fun x _ => Tref16_Read x.1 x.2.1) (fun _ _ => rfl) runref16_Read
noncomputable def fns27 := addF 27 true Sref16_Read fns25
theorem fns27_ok : ∀ f q t, fns27 f = some (q, t) → FnOk Try.prog cd f t := addF_ok okref16_Read fns25_ok
/-- emulator/emulatorlaw16.same -/
structure Slaw16_same_0 where
  t0 : (List Request)
  t1 : (List Request)
  t12 : Int
  t13 : Int
noncomputable def Wlaw16_same_0 (s : Slaw16_same_0) : Tree (Slaw16_same_0 ⊕ (Bool ⊕ Unit)) :=
  .ite (decide (s.t13 < s.t12))
    (.ite (decide (0 ≤ s.t13))
      (.opt Request (s.t0[(s.t13).toNat]?) fun y428 =>
        .ite (decide (0 ≤ s.t13))
          (.opt Request (s.t1[(s.t13).toNat]?) fun y429 =>
            .ite (!((decide (y428.priority = y429.priority)) && (decide (y428.vector = y429.vector))))
              (.leaf (.inr (.inl false)))
              (.leaf (.inl (Slaw16_same_0.mk s.t0 s.t1 s.t12 (IntKind.wrap .i64 (s.t13 + (1 : Int)))))))
          .fail)
      .fail)
    (.leaf (.inr (.inr ())))
noncomputable def Llaw16_same_0 (q : Option Nat) (s : Slaw16_same_0) : Option (Bool ⊕ Unit) := limQ q (fun s => (Wlaw16_same_0 s).run) s
theorem leLlaw16_same_0 (k : Nat) (s : Slaw16_same_0) : Le (Llaw16_same_0 (some k) s) (Llaw16_same_0 none s) := limQ_le (fun _ => Le.rfl) s
noncomputable def Tlaw16_same (q : Option Nat) (x0 : (List Request)) (x1 : (List Request)) : Tree Bool :=
  .ite (!decide ((x0.length : Int) = (x1.length : Int)))
    (.leaf (false))
    (.opt (Bool ⊕ Unit) (Llaw16_same_0 q (Slaw16_same_0.mk x0 x1 (x0.length : Int) (0 : Int))) fun l430 =>
      .ite (l430.isLeft)
        (.opt Bool (l430.getLeft?) fun a431 =>
          .leaf (a431))
        (.opt Unit (l430.getRight?) fun b432 =>
          .leaf (true)))
noncomputable def law16_same (q : Option Nat) (x0 : (List Request)) (x1 : (List Request)) : Option Bool := (Tlaw16_same q x0 x1).run
theorem lelaw16_same (k : Nat) (x0 : (List Request)) (x1 : (List Request)) : Le (law16_same (some k) x0 x1) (law16_same none x0 x1) := (TLe.ite TLe.rfl (TLe.opt (leLlaw16_same_0 k _) fun _ => TLe.rfl))
noncomputable def Alaw16_same : Arg U ((List Request) × (List Request) × Unit) := aO (cSl 76) (aO (cSl 76) (aNil))
noncomputable def Rlaw16_same (r : Bool) : List (V U) × List (Blk U) := ([vO cBool r], [])
noncomputable def Slaw16_same : List (V U) → List (Blk U) → Option (FnOut U) := mkSpec Alaw16_same bNil (fun x _ => law16_same none x.1 x.2.1) Rlaw16_same
noncomputable def Plaw16_same_0 (x : ((List Request) × Unit) × ((List Request) × Unit) × (Int × Unit) × (Int × Unit) × Unit) (_g : Unit) : Slaw16_same_0 := Slaw16_same_0.mk x.1.1 x.2.1.1 x.2.2.1.1 x.2.2.2.1.1
noncomputable def tAlaw16_same_0 : Tms U (((List Request) × Unit) × ((List Request) × Unit) × (Int × Unit) × (Int × Unit) × Unit) := tO 0 (cPair (cSl 76) (cUnit)) (tO 1 (cPair (cSl 76) (cUnit)) (tO 12 (cPair (cInt .i64) (cUnit)) (tO 13 (cPair (cInt .i64) (cUnit)) (tNil))))
noncomputable def tBlaw16_same_0 : Bls U (Unit) := bNil
noncomputable def eSlaw16_same_0 (s : Slaw16_same_0) : St U := { tm := [(0, .v (vO (cPair (cSl 76) (cUnit)) (s.t0, ()))), (1, .v (vO (cPair (cSl 76) (cUnit)) (s.t1, ()))), (12, .v (vO (cPair (cInt .i64) (cUnit)) (s.t12, ()))), (13, .v (vO (cPair (cInt .i64) (cUnit)) (s.t13, ())))], hp := [] }
noncomputable def xSlaw16_same_0 : (Bool ⊕ Unit) → Ex × St U
  | .inl r => (.ret, { tm := [(4, .v (vO (cPair cBool (cUnit)) (r, ())))], hp := [] })
  | .inr r => (.exit 0, { tm := [], hp := [] })
noncomputable def xTlaw16_same_0 (y : (Bool ⊕ Unit)) : Tree (Ex × St U) := .ite y.isLeft (.opt Bool y.getLeft? fun r => .leaf (.ret, { tm := [(4, .v (vO (cPair cBool (cUnit)) (r, ())))], hp := [] })) (.opt Unit y.getRight? fun r => .leaf (.exit 0, { tm := [], hp := [] }))
noncomputable def hlaw16_same_0 : Hd := { keep := [0, 1, 12, 13], xkeep := [4], own := false }
noncomputable def Elaw16_same : Env U := { P := Try.prog, cd := cd, fns := fns27, lps := (addL 0 hlaw16_same_0 (mkLoop tAlaw16_same_0 tBlaw16_same_0 Plaw16_same_0 (Llaw16_same_0 none) xTlaw16_same_0) noL), frz := fun _r => false, nt := 26, n0 := 0 }
noncomputable def Blaw16_same_0 : Code := (loopAt (Try.f28.body.getD .skip) 0 0).getD .skip
theorem roundlaw16_same_0 (s : Slaw16_same_0) : round Elaw16_same hlaw16_same_0 Blaw16_same_0 0 (eSlaw16_same_0 s) = (Wlaw16_same_0 s).map (sumE eSlaw16_same_0 xSlaw16_same_0) := by kernel_rfl
theorem lplaw16_same_0 : LpOk Elaw16_same Blaw16_same_0 0 := mkLoop_ok (A := tAlaw16_same_0) (B := tBlaw16_same_0) (f := Plaw16_same_0) (L := Llaw16_same_0 none) (tO_ok (cPair_ok (cSl_ok 76) cUnit_ok) (tO_ok (cPair_ok (cSl_ok 76) cUnit_ok) (tO_ok (cPair_ok (cInt_ok .i64) cUnit_ok) (tO_ok (cPair_ok (cInt_ok .i64) cUnit_ok) tNil_ok)))) bNil_ok (enc := eSlaw16_same_0) (out := xTlaw16_same_0) (outS := xSlaw16_same_0) (step := Wlaw16_same_0) (fun _ => rfl) (fun _ _ => by kernel_rfl) (by kernel_rfl) (fun b => by cases b <;> rfl) roundlaw16_same_0
theorem runlaw16_same (x : (List Request) × (List Request) × Unit) (g : Unit) : execF Elaw16_same Try.f28 (Alaw16_same.enc x) (bNil.enc g) = (Tlaw16_same none x.1 x.2.1).map Rlaw16_same := by kernel_rfl
theorem oklaw16_same : FnOk Try.prog cd 28 Slaw16_same := mk_ok (E := Elaw16_same) cd_ok fns27_ok Try.func28 (by kernel_rfl) (loops_of (addL_ok lplaw16_same_0 noL_ok)) (aO_ok (cSl_ok 76) (aO_ok (cSl_ok 76) (aNil_ok))) bNil_ok (T := fun x _ => Tlaw16_same none x.1 x.2.1) (fun _ _ => rfl) runlaw16_same
noncomputable def fns28 := addF 28 true Slaw16_same fns27
theorem fns28_ok : ∀ f q t, fns28 f = some (q, t) → FnOk Try.prog cd f t := addF_ok oklaw16_same fns27_ok
/-- emulator/diskctl.Requests -/
noncomputable def Tdiskctl_Requests (x0 : Disk) : Tree (List Request) :=
  .ite (!x0.enable)
    (.leaf ([]))
    (.ite (!x0.ready)
      (.leaf ([]))
      (.leaf ([Request.mk (5 : Int) (160 : Int)])))
noncomputable def diskctl_Requests (x0 : Disk) : Option (List Request) := (Tdiskctl_Requests x0).run
noncomputable def Adiskctl_Requests : Arg U (Disk × Unit) := aA cDisk (aNil)
noncomputable def Rdiskctl_Requests (r : (List Request)) : List (V U) × List (Blk U) := ([vO (cSl 76) r], [])
noncomputable def Sdiskctl_Requests : List (V U) → List (Blk U) → Option (FnOut U) := mkSpec Adiskctl_Requests bNil (fun x _ => diskctl_Requests x.1) Rdiskctl_Requests
noncomputable def Ediskctl_Requests : Env U := { P := Try.prog, cd := cd, fns := fns28, lps := noL, frz := fun _r => false, nt := 13, n0 := 0 }
theorem rundiskctl_Requests (x : Disk × Unit) (g : Unit) : execF Ediskctl_Requests Try.f29 (Adiskctl_Requests.enc x) (bNil.enc g) = (Tdiskctl_Requests x.1).map Rdiskctl_Requests := by kernel_rfl
theorem okdiskctl_Requests : FnOk Try.prog cd 29 Sdiskctl_Requests := mk_ok (E := Ediskctl_Requests) cd_ok fns28_ok Try.func29 (by kernel_rfl) (noLoops_body (by kernel_rfl)) (aA_ok cDisk_ok (aNil_ok)) bNil_ok (T := fun x _ => Tdiskctl_Requests x.1) (fun _ _ => rfl) rundiskctl_Requests
noncomputable def fns29 := addF 29 true Sdiskctl_Requests fns28
theorem fns29_ok : ∀ f q t, fns29 f = some (q, t) → FnOk Try.prog cd f t := addF_ok okdiskctl_Requests fns28_ok
/-- emulator/emulatorref16.Requests -/
noncomputable def Tref16_Requests (x0 : Disk) : Tree (List Request) :=
  .ite (x0.enable)
    (.ite (x0.ready)
      (.leaf ([Request.mk (5 : Int) (160 : Int)]))
      (.leaf ([])))
    (.leaf ([]))
noncomputable def ref16_Requests (x0 : Disk) : Option (List Request) := (Tref16_Requests x0).run
noncomputable def Aref16_Requests : Arg U (Disk × Unit) := aA cDisk (aNil)
noncomputable def Rref16_Requests (r : (List Request)) : List (V U) × List (Blk U) := ([vO (cSl 76) r], [])
noncomputable def Sref16_Requests : List (V U) → List (Blk U) → Option (FnOut U) := mkSpec Aref16_Requests bNil (fun x _ => ref16_Requests x.1) Rref16_Requests
noncomputable def Eref16_Requests : Env U := { P := Try.prog, cd := cd, fns := fns29, lps := noL, frz := fun _r => false, nt := 11, n0 := 0 }
theorem runref16_Requests (x : Disk × Unit) (g : Unit) : execF Eref16_Requests Try.f30 (Aref16_Requests.enc x) (bNil.enc g) = (Tref16_Requests x.1).map Rref16_Requests := by kernel_rfl
theorem okref16_Requests : FnOk Try.prog cd 30 Sref16_Requests := mk_ok (E := Eref16_Requests) cd_ok fns29_ok Try.func30 (by kernel_rfl) (noLoops_body (by kernel_rfl)) (aA_ok cDisk_ok (aNil_ok)) bNil_ok (T := fun x _ => Tref16_Requests x.1) (fun _ _ => rfl) runref16_Requests
noncomputable def fns30 := addF 30 true Sref16_Requests fns29
theorem fns30_ok : ∀ f q t, fns30 f = some (q, t) → FnOk Try.prog cd f t := addF_ok okref16_Requests fns29_ok
/-- emulator/emulatorlaw16.DiskctlRegisters -/
noncomputable def Tlaw16_DiskctlRegisters (q : Option Nat) (x0 : Disk) (x1 : Int) (x2 : Int) : Tree Bool :=
  .ite (decide ((64 : Int) < (x0.drive.sectors.length : Int)))
    (.opt Bool (law16_alive q) fun r433 =>
      .leaf (r433))
    (.ite (decide ((64 : Int) < (x0.drive.bad.length : Int)))
      (.opt Bool (law16_alive q) fun r434 =>
        .leaf (r434))
      (.opt Bool (diskctl_Right q x0) fun r435 =>
        .opt Bool (ref16_Right q x0) fun r436 =>
          .ite (!(r435 == r436))
            (.leaf (false))
            (.opt Disk (diskctl_New x0.drive) fun r437 =>
              .opt Disk (ref16_New x0.drive) fun r438 =>
                .opt Bool (ref16_SameDisk q r437 r438) fun r439 =>
                  .ite (!r439)
                    (.leaf (false))
                    (.opt Bool (ref16_Right q x0) fun r440 =>
                      .ite (!r440)
                        (.opt Bool (law16_alive q) fun r441 =>
                          .leaf (r441))
                        (.opt (Int × Bool) (diskctl_Read x0 x1) fun r442 =>
                          .opt (Int × Bool) (ref16_Read x0 x1) fun r443 =>
                            .opt (Disk × Bool) (diskctl_Write x0 x1 x2) fun r444 =>
                              .opt (Disk × Bool) (ref16_Write x0 x1 x2) fun r445 =>
                                .ite (!decide (r442.1 = r443.1))
                                  (.leaf (false))
                                  (.ite (!(r442.2 == r443.2))
                                    (.leaf (false))
                                    (.ite (!(r444.2 == r445.2))
                                      (.leaf (false))
                                      (.opt Bool (ref16_SameDisk q r444.1 r445.1) fun r446 =>
                                        .ite (!r446)
                                          (.leaf (false))
                                          (.ite (r444.2)
                                            (.opt Bool (diskctl_Right q r444.1) fun r447 =>
                                              .ite (!r447)
                                                (.leaf (false))
                                                (.opt Disk (diskctl_Reset x0) fun r448 =>
                                                  .opt Disk (ref16_Reset x0) fun r449 =>
                                                    .opt Bool (ref16_SameDisk q r448 r449) fun r450 =>
                                                      .ite (r450)
                                                        (.opt (List Request) (diskctl_Requests x0) fun r451 =>
                                                          .opt (List Request) (ref16_Requests x0) fun r452 =>
                                                            .opt Bool (law16_same q r451 r452) fun r453 =>
                                                              .ite (r453)
                                                                (.opt Disk (diskctl_Accept x0 x2) fun r454 =>
                                                                  .opt Disk (ref16_Accept x0 x2) fun r455 =>
                                                                    .opt Bool (ref16_SameDisk q r454 r455) fun r456 =>
                                                                      .ite (r456)
                                                                        (.opt Bool (law16_alive q) fun r457 =>
                                                                          .leaf (r457))
                                                                        (.leaf (false)))
                                                                (.leaf (false)))
                                                        (.leaf (false))))
                                            (.opt Disk (diskctl_Reset x0) fun r458 =>
                                              .opt Disk (ref16_Reset x0) fun r459 =>
                                                .opt Bool (ref16_SameDisk q r458 r459) fun r460 =>
                                                  .ite (r460)
                                                    (.opt (List Request) (diskctl_Requests x0) fun r461 =>
                                                      .opt (List Request) (ref16_Requests x0) fun r462 =>
                                                        .opt Bool (law16_same q r461 r462) fun r463 =>
                                                          .ite (r463)
                                                            (.opt Disk (diskctl_Accept x0 x2) fun r464 =>
                                                              .opt Disk (ref16_Accept x0 x2) fun r465 =>
                                                                .opt Bool (ref16_SameDisk q r464 r465) fun r466 =>
                                                                  .ite (r466)
                                                                    (.opt Bool (law16_alive q) fun r467 =>
                                                                      .leaf (r467))
                                                                    (.leaf (false)))
                                                            (.leaf (false)))
                                                    (.leaf (false))))))))))))
noncomputable def law16_DiskctlRegisters (q : Option Nat) (x0 : Disk) (x1 : Int) (x2 : Int) : Option Bool := (Tlaw16_DiskctlRegisters q x0 x1 x2).run
theorem lelaw16_DiskctlRegisters (k : Nat) (x0 : Disk) (x1 : Int) (x2 : Int) : Le (law16_DiskctlRegisters (some k) x0 x1 x2) (law16_DiskctlRegisters none x0 x1 x2) := (TLe.ite (TLe.opt (lelaw16_alive k) fun _ => TLe.rfl) (TLe.ite (TLe.opt (lelaw16_alive k) fun _ => TLe.rfl) (TLe.opt (lediskctl_Right k _) fun _ => (TLe.opt (leref16_Right k _) fun _ => (TLe.ite TLe.rfl (TLe.opt Le.rfl fun _ => (TLe.opt Le.rfl fun _ => (TLe.opt (leref16_SameDisk k _ _) fun _ => (TLe.ite TLe.rfl (TLe.opt (leref16_Right k _) fun _ => (TLe.ite (TLe.opt (lelaw16_alive k) fun _ => TLe.rfl) (TLe.opt Le.rfl fun _ => (TLe.opt Le.rfl fun _ => (TLe.opt Le.rfl fun _ => (TLe.opt Le.rfl fun _ => (TLe.ite TLe.rfl (TLe.ite TLe.rfl (TLe.ite TLe.rfl (TLe.opt (leref16_SameDisk k _ _) fun _ => (TLe.ite TLe.rfl (TLe.ite (TLe.opt (lediskctl_Right k _) fun _ => (TLe.ite TLe.rfl (TLe.opt Le.rfl fun _ => (TLe.opt Le.rfl fun _ => (TLe.opt (leref16_SameDisk k _ _) fun _ => (TLe.ite (TLe.opt Le.rfl fun _ => (TLe.opt Le.rfl fun _ => (TLe.opt (lelaw16_same k _ _) fun _ => (TLe.ite (TLe.opt Le.rfl fun _ => (TLe.opt Le.rfl fun _ => (TLe.opt (leref16_SameDisk k _ _) fun _ => (TLe.ite (TLe.opt (lelaw16_alive k) fun _ => TLe.rfl) TLe.rfl)))) TLe.rfl)))) TLe.rfl)))))) (TLe.opt Le.rfl fun _ => (TLe.opt Le.rfl fun _ => (TLe.opt (leref16_SameDisk k _ _) fun _ => (TLe.ite (TLe.opt Le.rfl fun _ => (TLe.opt Le.rfl fun _ => (TLe.opt (lelaw16_same k _ _) fun _ => (TLe.ite (TLe.opt Le.rfl fun _ => (TLe.opt Le.rfl fun _ => (TLe.opt (leref16_SameDisk k _ _) fun _ => (TLe.ite (TLe.opt (lelaw16_alive k) fun _ => TLe.rfl) TLe.rfl)))) TLe.rfl)))) TLe.rfl)))))))))))))))))))))))))
noncomputable def Alaw16_DiskctlRegisters : Arg U (Disk × Int × Int × Unit) := aA cDisk (aO (cInt .i64) (aO (cInt .i64) (aNil)))
noncomputable def Rlaw16_DiskctlRegisters (r : Bool) : List (V U) × List (Blk U) := ([vO cBool r], [])
noncomputable def Slaw16_DiskctlRegisters : List (V U) → List (Blk U) → Option (FnOut U) := mkSpec Alaw16_DiskctlRegisters bNil (fun x _ => law16_DiskctlRegisters none x.1 x.2.1 x.2.2.1) Rlaw16_DiskctlRegisters
noncomputable def Elaw16_DiskctlRegisters : Env U := { P := Try.prog, cd := cd, fns := fns30, lps := noL, frz := fun _r => false, nt := 124, n0 := 0 }
theorem runlaw16_DiskctlRegisters (x : Disk × Int × Int × Unit) (g : Unit) : execF Elaw16_DiskctlRegisters Try.f7 (Alaw16_DiskctlRegisters.enc x) (bNil.enc g) = (Tlaw16_DiskctlRegisters none x.1 x.2.1 x.2.2.1).map Rlaw16_DiskctlRegisters := by kernel_rfl
theorem oklaw16_DiskctlRegisters : FnOk Try.prog cd 7 Slaw16_DiskctlRegisters := mk_ok (E := Elaw16_DiskctlRegisters) cd_ok fns30_ok Try.func7 (by kernel_rfl) (noLoops_body (by kernel_rfl)) (aA_ok cDisk_ok (aO_ok (cInt_ok .i64) (aO_ok (cInt_ok .i64) (aNil_ok)))) bNil_ok (T := fun x _ => Tlaw16_DiskctlRegisters none x.1 x.2.1 x.2.2.1) (fun _ _ => rfl) runlaw16_DiskctlRegisters
noncomputable def fns7 := addF 7 true Slaw16_DiskctlRegisters fns30
theorem fns7_ok : ∀ f q t, fns7 f = some (q, t) → FnOk Try.prog cd f t := addF_ok oklaw16_DiskctlRegisters fns30_ok
end Go.Proofs.Ytenckckimagkkaa
