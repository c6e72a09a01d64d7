/- The iterator over the devices. -/
import Derived.RangeFuncNested
import Derived.RangeFuncBound
import Derived.RangeFuncCalls
import Derived.RangeFuncLeaves
import Derived.RangeFuncBox
import Derived.Shelf.Abstract
import Derived.Shelf.RegionOpen
import Derived.WalkKit
import Derived.OwnWalk
import Derived.OwnWalkIn
import Derived.TacticsInMore
import Derived.LoopNIn
import Derived.LoopIn
import Derived.Carry
import Derived.Laws.EntriesVeiled
import Derived.Laws.Rows
import Derived.KernelRfl
import Derived.Test.YtfdndagnolbnhaaGreatProg
section
set_option linter.unusedVariables false
namespace Go.Proofs.YtfdndagnolbnhaaGreat
open Go Go.RowKit Go.Shelf
attribute [local go_sem] Oper.semAt_some
def pt (b : Nat) : Value := .pointer (some ⟨b, 0, none⟩)
inductive Dev
  | clock (b : Nat)
  | disk (b : Nat)
  | tape (b : Nat)
  | line (i b : Nat)
def fn0 (f : Nat) : Value := .func (.func f) #[] #[]
def fn1 (f b : Nat) : Value := .func (.func f) #[] #[pt b]
def Dev.fs : Dev → Array Value
  | .clock b => #[fn1 117 b, fn0 119, fn1 121 b, fn1 123 b]
  | .disk b => #[fn0 126, fn0 128, fn1 130 b, fn1 132 b]
  | .tape b => #[fn0 135, fn0 137, fn1 139 b, fn1 141 b]
  | .line _ b => #[fn1 143 b, fn1 146 b, fn1 148 b, fn1 150 b]
def Dev.cap : Dev → Nat
  | .clock b => b
  | .disk b => b
  | .tape b => b
  | .line _ b => b
def Dev.lies (W : World) : Dev → Prop
  | .clock b => Boxed W b 159 (fn0 116)
  | .disk b => Boxed W b 160 (fn0 125)
  | .tape b => Boxed W b 161 (fn0 134)
  | .line i b => Boxed W b 3 (.int .i64 i)
theorem Boxed.below {W W' : World} {B t n₀ : Nat} {v : Value} (h : Boxed W B t v) (hb : Below n₀ W W') (hlt : B < n₀) : Boxed W' B t v := (hb.block B hlt).trans h
theorem Dev.lies.below {W W' : World} {n₀ : Nat} {d : Dev} (h : d.lies W) (hb : Below n₀ W W') (hlt : d.cap < n₀) : d.lies W' := by
  cases d <;> exact Boxed.below h hb hlt
theorem Dev.lies.lt {W : World} {d : Dev} (h : d.lies W) : d.cap < W.heap.size := by
  cases d <;> exact Boxed.lt h
theorem z1wj (w : World) : Calls Tryz.prog 68 #[] w fun e w' => ∃ d : Dev, e = .returned (.agg d.fs) ∧ d = .clock (w.heap.size + 1) ∧ Below w.heap.size w w' ∧ w'.heap.size = w.heap.size + 2 ∧ d.lies w' := by
  go_enter Tryz.func68, Tryz.ntmps68
  go_wp2
  refine bodyPost_ret (results_cell_row rfl _ _ w.heap.size 74 (Dev.clock (w.heap.size + 1)).fs (0, 0) _ rfl ((Below.heap_alloc _ _ _ (by simp)).trans (heap_alloc_new w _)) Tryz.underlying74 rfl (by kernel_rfl)) rfl ?_
  refine ⟨.clock (w.heap.size + 1), rfl, rfl, ((Below.refl _ w).alloc (Nat.le_refl _) _).alloc (by simp) _, by simp, ?_⟩
  have h := Boxed.new (w.alloc (.cells (Dev.clock (w.heap.size + 1)).fs 74)) 159 (fn0 116)
  rwa [World.size_alloc] at h
theorem z1yo (w : World) : Calls Tryz.prog 69 #[] w fun e w' => ∃ d : Dev, e = .returned (.agg d.fs) ∧ d = .disk (w.heap.size + 1) ∧ Below w.heap.size w w' ∧ w'.heap.size = w.heap.size + 2 ∧ d.lies w' := by
  go_enter Tryz.func69, Tryz.ntmps69
  go_wp2
  refine bodyPost_ret (results_cell_row rfl _ _ w.heap.size 74 (Dev.disk (w.heap.size + 1)).fs (0, 0) _ rfl ((Below.heap_alloc _ _ _ (by simp)).trans (heap_alloc_new w _)) Tryz.underlying74 rfl (by kernel_rfl)) rfl ?_
  refine ⟨.disk (w.heap.size + 1), rfl, rfl, ((Below.refl _ w).alloc (Nat.le_refl _) _).alloc (by simp) _, by simp, ?_⟩
  have h := Boxed.new (w.alloc (.cells (Dev.disk (w.heap.size + 1)).fs 74)) 160 (fn0 125)
  rwa [World.size_alloc] at h
theorem z1yq (w : World) : Calls Tryz.prog 70 #[] w fun e w' => ∃ d : Dev, e = .returned (.agg d.fs) ∧ d = .tape (w.heap.size + 1) ∧ Below w.heap.size w w' ∧ w'.heap.size = w.heap.size + 2 ∧ d.lies w' := by
  go_enter Tryz.func70, Tryz.ntmps70
  go_wp2
  refine bodyPost_ret (results_cell_row rfl _ _ w.heap.size 74 (Dev.tape (w.heap.size + 1)).fs (0, 0) _ rfl ((Below.heap_alloc _ _ _ (by simp)).trans (heap_alloc_new w _)) Tryz.underlying74 rfl (by kernel_rfl)) rfl ?_
  refine ⟨.tape (w.heap.size + 1), rfl, rfl, ((Below.refl _ w).alloc (Nat.le_refl _) _).alloc (by simp) _, by simp, ?_⟩
  have h := Boxed.new (w.alloc (.cells (Dev.tape (w.heap.size + 1)).fs 74)) 161 (fn0 134)
  rwa [World.size_alloc] at h
theorem z1yp (i : Nat) (w : World) : Calls Tryz.prog 71 #[.int .i64 i] w fun e w' => ∃ d : Dev, e = .returned (.agg d.fs) ∧ d = .line i w.heap.size ∧ Below w.heap.size w w' ∧ w'.heap.size = w.heap.size + 2 ∧ d.lies w' := by
  go_enter Tryz.func71, Tryz.ntmps71
  go_wp2
  refine bodyPost_ret (results_cell_row rfl _ _ (w.heap.size + 1) 74 (Dev.line i w.heap.size).fs (0, 0) _ rfl (heap_alloc2_new w _ _) Tryz.underlying74 rfl (by kernel_rfl)) rfl ?_
  refine ⟨.line i w.heap.size, rfl, rfl, ((Below.refl _ w).alloc (Nat.le_refl _) _).alloc (by simp) _, by simp, ?_⟩
  exact (Boxed.new w 3 (.int .i64 i)).alloc _
inductive Kind
  | clock
  | disk
  | tape
  | line (i : Nat)
def Dev.kind : Dev → Kind
  | .clock _ => .clock
  | .disk _ => .disk
  | .tape _ => .tape
  | .line i _ => .line i
def kindsOf (k : Nat) (b : Bool) : List Kind := [.clock] ++ (if b then [.disk, .tape] else []) ++ (List.range k).map .line ++ (if b then [] else [.disk, .tape])
def cellsOf (ds : List Dev) : List Value := ds.flatMap fun d => d.fs.toList
theorem z1x8 (d : Dev) : d.fs.size = 4 := by cases d <;> rfl
theorem z180 (w : World) (cs : Array Value) (t : TypeId) : ∀ j u, cs.toList[j]? = some u → (w.alloc (.cells cs t)).cell? ((⟨w.heap.size, 0, none⟩ : Addr).add j) = some u := by
  intro j u h
  have hh := heap_alloc_new w (.cells cs t)
  have e : ((⟨w.heap.size, 0, none⟩ : Addr).add j) = ⟨w.heap.size, j, none⟩ := by unfold Addr.add; split <;> simp_all
  rw [e]
  unfold World.cell?
  rw [hh]
  simpa using h
def Holds (n₀ : Nat) (W : World) (v : Value) (ds : List Dev) : Prop := W.ownsRow n₀ 74 4 v ds.length (cellsOf ds) ∧ ∀ d ∈ ds, d.lies W ∧ n₀ ≤ d.cap
theorem ownsRow_below {W W' : World} {n₀ e size n : Nat} {v : Value} {xs : List Value} (h : W.ownsRow n₀ e size v n xs) (hb : Below W.heap.size W W') : W'.ownsRow n₀ e size v n xs := by
  refine ⟨h.1, h.2.imp id ?_⟩
  rintro ⟨g, cap, cur, h1, h2, h3, h4⟩
  exact ⟨g, cap, cur, h1, h2, (hb.block g (Array.getElem?_eq_some_iff.1 h3).1).trans h3, h4⟩
theorem Holds.below {n₀ : Nat} {W W' : World} {v : Value} {ds : List Dev} (h : Holds n₀ W v ds) (hb : Below W.heap.size W W') : Holds n₀ W' v ds :=
  ⟨ownsRow_below h.1 hb, fun d hd => ⟨(h.2 d hd).1.below hb (h.2 d hd).1.lt, (h.2 d hd).2⟩⟩
theorem z18g {W : World} {d : Dev} (h : d.lies W) {n₀ n : Nat} {v : Value} {xs : List Value} (hr : W.ownsRow n₀ 74 4 v n xs) : some d.cap ≠ v.ownBlock := by
  cases d <;> exact Boxed.not_row h (by decide) hr
theorem ztn {W W' : World} {d : Dev} {row : Option Nat} (h : d.lies W) (hg : W.grownBy W' row) (hne : some d.cap ≠ row) : d.lies W' := by
  cases d <;> exact Boxed.kept h hg hne
theorem Holds.app {n₀ : Nat} {W W' : World} {v v' : Value} {ds ds2 : List Dev} (h : Holds n₀ W v ds) (h2 : ∀ d ∈ ds2, d.lies W ∧ n₀ ≤ d.cap) (hown : W'.ownsRow n₀ 74 4 v' (ds.length + ds2.length) (cellsOf ds ++ cellsOf ds2)) (hg : W.grownBy W' v.ownBlock) : Holds n₀ W' v' (ds ++ ds2) := by
  refine ⟨by rw [List.length_append, show cellsOf (ds ++ ds2) = cellsOf ds ++ cellsOf ds2 by simp [cellsOf]]; exact hown, fun d hd => ?_⟩
  rcases List.mem_append.1 hd with hd | hd
  · exact ⟨ztn (h.2 d hd).1 hg (z18g (h.2 d hd).1 h.1), (h.2 d hd).2⟩
  · exact ⟨ztn (h2 d hd).1 hg (z18g (h2 d hd).1 h.1), (h2 d hd).2⟩
theorem Holds.alloc {n₀ : Nat} {W : World} {v : Value} {ds : List Dev} (h : Holds n₀ W v ds) (o : Obj) : Holds n₀ (W.alloc o) v ds := h.below ((Below.refl _ W).alloc (Nat.le_refl _) o)
theorem info74 : (Tryz.prog.info? 74).map (fun i => (i.zero, i.size, i.bytes)) = some (some (.agg #[.nilFunc, .nilFunc, .nilFunc, .nilFunc]), 4, 32) := by kernel_rfl
theorem values_in (a : Option Addr) (n c : Nat) (w : World) : Calls Tryz.prog 72 #[.slice a n c] w fun e w' => e = .returned (.func (.func 152) #[] #[pt w.heap.size]) ∧ Boxed w' w.heap.size 117 (.slice a n c) ∧ Below w.heap.size w w' := by
  go_enter Tryz.func72, Tryz.ntmps72
  go_wp2
  go_ret
  exact ⟨rfl, Boxed.new w 117 _, (Below.refl _ w).alloc (Nat.le_refl _) _⟩
theorem z21g {W : World} {n₀ n : Nat} {v : Value} {xs : List Value} (h : W.ownsRow n₀ 74 4 v n xs) : ∃ a m c, v = .slice a m c := by
  rcases h.2 with ⟨rfl, _⟩ | ⟨g, cap, cur, rfl, _⟩
  · exact ⟨_, _, _, rfl⟩
  · exact ⟨_, _, _, rfl⟩
def dt (b c : Nat) : Array Value := #[fn0 126, fn0 128, fn1 130 b, fn1 132 b, fn0 135, fn0 137, fn1 139 c, fn1 141 c]
theorem z22p (b c : Nat) : ∀ u ∈ (dt b c).toList, u.oneCell' = true := by
  simp only [dt, List.mem_cons, List.not_mem_nil, or_false]
  rintro u (rfl | rfl | rfl | rfl | rfl | rfl | rfl | rfl) <;> rfl
theorem holds_one {W : World} {n₀ : Nat} {d : Dev} (hn : n₀ ≤ W.heap.size) (hl : d.lies W) (hc : n₀ ≤ d.cap) : Holds n₀ (W.alloc (.cells d.fs 74)) (.slice (some ⟨W.heap.size, 0, none⟩) 1 1) [d] := by
  have h := World.ownsRow_lit (base := n₀) (e := 74) (size := 4) W d.fs 1 hn (by decide) (z1x8 d)
  refine ⟨by simpa [cellsOf] using h, fun d' hd' => ?_⟩
  have hd' : d' = d := by simpa using hd'
  subst hd'
  exact ⟨hl.below ((Below.refl _ W).alloc (Nat.le_refl _) _) hl.lt, hc⟩
theorem Holds.one {n₀ : Nat} {W : World} {v : Value} {ds : List Dev} (h : Holds n₀ W v ds) : v.oneCell' = true := by
  rcases h.1.2 with ⟨rfl, _⟩ | ⟨g, cap, cur, rfl, _⟩ <;> rfl
theorem z22t (d : Dev) : ∀ u ∈ d.fs.toList, u.oneCell' = true := by
  cases d <;> simp [Dev.fs] <;> exact ⟨rfl, rfl, rfl, rfl⟩
set_option maxRecDepth 100000 in
set_option maxHeartbeats 2000000 in
theorem z1ol (k : Nat) (hk : k ≤ 100) (w : World) : Calls Tryz.prog 28 #[.int .i64 k, .bool false] w fun e w' => ∃ Bs v ds, e = .returned (.func (.func 152) #[] #[pt Bs]) ∧ Boxed w' Bs 117 v ∧ w.heap.size ≤ Bs ∧ ds.map Dev.kind = kindsOf k false ∧ Holds w.heap.size w' v ds ∧ Below w.heap.size w w' := by
  obtain ⟨i0, hi, hz0, hz1, hz2⟩ := info_parts info74
  go_enter Tryz.func28, Tryz.ntmps28
  go_wp2_with (first
    | (go_at_call 68; refine (z1wj _).mono ?_; rintro e w1 ⟨_, rfl, rfl, hb1, hs1, hl1⟩; dsimp only [Dev.fs, fn1, fn0, pt]))
  have H0 := holds_one (n₀ := w.heap.size) (W := w1) (d := .clock (w.heap.size + 1)) (by omega) hl1 (Nat.le_succ _)
  rw [hs1] at H0
  have B0 : Below w.heap.size w (w1.alloc (.cells (Dev.clock (w.heap.size + 1)).fs 74)) := hb1.alloc hb1.size _
  go_loopw [5, 16] (fun v i wr => ∃ (j : Nat) (ds : List Dev), j ≤ k ∧ i = .int .i64 j ∧ ds.map Dev.kind = [Kind.clock] ++ (List.range j).map .line ∧ Holds w.heap.size wr v ds ∧ Below w.heap.size w wr)
    (fun _ i _ => k - (intOf i).toNat)
  case atStart => exact ⟨0, [.clock (w.heap.size + 1)], Nat.zero_le _, rfl, rfl, H0, B0⟩
  case round =>
    obtain ⟨j, ds, hj, rfl, hk2, hH, hnx⟩ := hrel
    have hlen : ds.length = j + 1 := by have := congrArg List.length hk2; simpa [Nat.add_comm] using this
    have hsize := hnx.size
    go_wp2_with (first
      | (go_at_call 71; refine (z1yp j _).mono ?_; rintro e w2 ⟨_, rfl, rfl, hb2, hs2, hl2⟩; dsimp only [Dev.fs, fn1, fn0, pt])
      | (at_builtin; refine wpList_append_own _ rfl (.tmp 19) (.tmp 22) 117 rfl w.heap.size 74 i0 (.agg #[.nilFunc, .nilFunc, .nilFunc, .nilFunc]) 4 32 Tryz.underlying117 hi hz0 hz1 hz2 rfl (by decide) _ _ _ rfl ((hH.below hb2).alloc (.cells (Dev.line j wr.heap.size).fs 74)).1 ⟨wr.heap.size + 2, 0, none⟩ 1 1 (Dev.line j wr.heap.size).fs.toList rfl rfl (by rw [← hs2]; exact z180 w2 (Dev.line j wr.heap.size).fs 74) (z22t _) (by unfold maxLen; omega) (by omega) (by simp; omega) ?_; intro v1 w3 hown3 hgrow3 hnil3)
      | (go_at_call 69; refine (z1yo _).mono ?_; rintro e w4 ⟨_, rfl, rfl, hb4, hs4, hl4⟩; dsimp only [Dev.fs, fn1, fn0, pt])
      | (go_at_call 70; refine (z1yq _).mono ?_; rintro e w5 ⟨_, rfl, rfl, hb5, hs5, hl5⟩; rw [hs4] at hs5 hl5; dsimp only [Dev.fs, fn1, fn0, pt])
      | (at_builtin; refine wpList_append_own _ rfl (.tmp 27) (.tmp 30) 117 rfl w.heap.size 74 i0 (.agg #[.nilFunc, .nilFunc, .nilFunc, .nilFunc]) 4 32 Tryz.underlying117 hi hz0 hz1 hz2 rfl (by decide) _ _ _ rfl (((hH.below hb4).below hb5).alloc (.cells (dt (wr.heap.size + 1) (wr.heap.size + 3)) 74)).1 ⟨wr.heap.size + 4, 0, none⟩ 2 2 (dt (wr.heap.size + 1) (wr.heap.size + 3)).toList rfl rfl (by rw [show wr.heap.size + 4 = w5.heap.size by omega]; exact z180 w5 (dt (wr.heap.size + 1) (wr.heap.size + 3)) 74) (z22p _ _) (by unfold maxLen; omega) (by omega) (by simp; omega) ?_; intro v1 w3 hown3 hgrow3 hnil3)
      | (go_at_call 72; obtain ⟨qa, qn, qc, rfl⟩ := z21g hown3; refine (values_in _ _ _ _).mono ?_; rintro e w6 ⟨rfl, hbox, hb6⟩))
    · have hB2 : Below w.heap.size w w2 := hnx.trans (hb2.mono hsize)
      have hs2' := hB2.size
      refine ⟨⟨j + 1, ds ++ [.line j wr.heap.size], by omega, rfl, ?_, ?_, ?_⟩, by simp [intOf]; omega⟩
      · rw [List.map_append, hk2, List.range_succ, List.map_append, List.append_assoc]; rfl
      · refine ((hH.below hb2).alloc (.cells (Dev.line j wr.heap.size).fs 74)).app (ds2 := [.line j wr.heap.size]) (fun d hd => ?_) ?_ hgrow3
        · have hd : d = .line j wr.heap.size := by simpa using hd
          subst hd
          exact ⟨hl2.below ((Below.refl _ w2).alloc (Nat.le_refl _) _) hl2.lt, hsize⟩
        · rw [show cellsOf [Dev.line j wr.heap.size] = (Dev.line j wr.heap.size).fs.toList by simp [cellsOf]]; exact hown3
      · exact (hB2.alloc hs2' _).grown hgrow3 (by simp; omega) (fun r hr => (hH.1.lt r hr).1)
    · have hjk : j = k := by omega
      subst hjk
      have hB5 : Below w.heap.size w w5 := (hnx.trans (hb4.mono hsize)).trans (hb5.mono (by omega))
      have hs5' := hB5.size
      have hH3 := (((hH.below hb4).below hb5).alloc (.cells (dt (wr.heap.size + 1) (wr.heap.size + 3)) 74)).app (ds2 := [.disk (wr.heap.size + 1), .tape (wr.heap.size + 3)]) (fun d hd => ?_) (by rw [show cellsOf [Dev.disk (wr.heap.size + 1), Dev.tape (wr.heap.size + 3)] = (dt (wr.heap.size + 1) (wr.heap.size + 3)).toList by simp [cellsOf, Dev.fs, dt]]; exact hown3) hgrow3
      · have hB3 : Below w.heap.size w w3 := (hB5.alloc hs5' _).grown hgrow3 (by simp; omega) (fun r hr => (hH.1.lt r hr).1)
        go_ret
        refine ⟨w3.heap.size, _, _, rfl, hbox, hB3.size, ?_, hH3.below hb6, hB3.trans (hb6.mono hB3.size)⟩
        rw [List.map_append, hk2]
        simp [kindsOf, Dev.kind]
      · have hd : d = .disk (wr.heap.size + 1) ∨ d = .tape (wr.heap.size + 3) := by simpa using hd
        rcases hd with rfl | rfl
        · exact ⟨(hl4.below hb5 hl4.lt).below ((Below.refl _ w5).alloc (Nat.le_refl _) _) (hl4.below hb5 hl4.lt).lt, by simp [Dev.cap]; omega⟩
        · exact ⟨hl5.below ((Below.refl _ w5).alloc (Nat.le_refl _) _) hl5.lt, by simp [Dev.cap]; omega⟩
end Go.Proofs.YtfdndagnolbnhaaGreat
end
section
set_option linter.unusedVariables false
namespace Go.Proofs.YtfdndagnolbnhaaGreat
open Go Go.RowKit Go.Shelf
attribute [local go_sem] Oper.semAt_some
theorem z1x7 (d : Dev) : ∃ f0 c0 f1 c1 f2 c2 f3 c3, d.fs = #[.func (.func f0) #[] c0, .func (.func f1) #[] c1, .func (.func f2) #[] c2, .func (.func f3) #[] c3] := by
  cases d <;> exact ⟨_, _, _, _, _, _, _, _, rfl⟩
theorem z1xu (ds : List Dev) (i : Nat) (hi : i < ds.length) (c : Nat) (hc : c < 4) : (cellsOf ds)[i * 4 + c]? = ds[i].fs[c]? := by
  induction ds generalizing i with
  | nil => simp at hi
  | cons d ds ih =>
    have e : cellsOf (d :: ds) = d.fs.toList ++ cellsOf ds := by simp [cellsOf]
    have hl : d.fs.toList.length = 4 := by rw [Array.length_toList, z1x8]
    rw [e]
    cases i with
    | zero => rw [List.getElem?_append_left (by omega)]; simp
    | succ i =>
      rw [List.getElem?_append_right (by omega), hl, show (i + 1) * 4 + c - 4 = i * 4 + c by omega]
      exact ih i (by simpa using hi)
structure KeepsIn (a b : Nat) (W W' : World) : Prop where
  size : W.heap.size ≤ W'.heap.size
  block : ∀ k, a ≤ k → k < b → W'.heap[k]? = W.heap[k]?
theorem KeepsIn.refl (a b : Nat) (W : World) : KeepsIn a b W W := ⟨Nat.le_refl _, fun _ _ _ => rfl⟩
theorem KeepsIn.trans {a b : Nat} {X Y Z : World} (h : KeepsIn a b X Y) (k : KeepsIn a b Y Z) : KeepsIn a b X Z := ⟨Nat.le_trans h.size k.size, fun i h1 h2 => (k.block i h1 h2).trans (h.block i h1 h2)⟩
theorem KeepsIn.alloc (a : Nat) {b : Nat} {W : World} (hb : b ≤ W.heap.size) (o : Obj) : KeepsIn a b W (W.alloc o) := ⟨by simp, fun k _ hk => Below.heap_alloc W o k (by omega)⟩
theorem KeepsIn.cell {a b : Nat} {W W' : World} (h : KeepsIn a b W W') {p : Addr} (h1 : a ≤ p.block) (h2 : p.block < b) : W'.cell? p = W.cell? p := by
  unfold World.cell?; rw [h.block p.block h1 h2]
set_option maxRecDepth 100000 in
set_option maxHeartbeats 4000000 in
theorem z1yu (F : Fence) (n : Nat) (h7 : F.fn 152) (hro : F.round = none) (hn : 1 ≤ n) (l Bs lo n₀ b cap : Nat) (ds : List Dev) (hreach : ds.length ≤ 1000) (hb : b < n₀) (hlo : lo ≤ b) (J Jx : List Dev → World → Prop)
    (hY : ∀ pre x W, J pre W → ds[pre.length]? = some x → YieldAt F (n - 1) Tryz.prog l #[.agg x.fs] W fun e W' =>
      (e = .returned (.bool true) ∧ J (pre ++ [x]) W' ∧ KeepsIn lo n₀ W W') ∨ (e = .returned (.bool false) ∧ Jx (pre ++ [x]) W'))
    (W : World) (hJ : AbidesFrom W.heap.size J) (hJx : AbidesFrom W.heap.size Jx) (hn₀ : n₀ ≤ W.heap.size) (hBs : W.cell? ⟨Bs, 0, none⟩ = some (.slice (some ⟨b, 0, none⟩) ds.length cap)) (hc : ∀ j, j < ds.length * 4 → W.cell? ⟨b, j, none⟩ = (cellsOf ds)[j]?) (h0 : J [] W) :
    CallsIn F n Tryz.prog 152 #[.func (.yield l) #[] #[], .pointer (some ⟨Bs, 0, none⟩)] W fun e W' => (∃ v, e = .returned v) ∧
      ((∃ ys, ys = ds ∧ J ys W') ∨ (∃ pre, (∃ k, k ≤ ds.length ∧ pre = ds.take k) ∧ Jx pre W')) := by
  refine callsIn_of_wp Tryz.func152 rfl h7 ?_ hro
  simp only [Tryz.ntmps152, List.size_toArray, List.length_cons, List.length_nil, Nat.reduceAdd, Nat.reduceSub, Array.replicate_succ, Array.replicate_zero, List.push_toArray, List.append_toArray, List.nil_append, List.cons_append]
  gi_wp2
  gi_loopw [7] (fun i wr => ∃ k : Nat, k ≤ ds.length ∧ i = .int .i64 k ∧ J (ds.take k) wr ∧ KeepsIn lo n₀ W wr)
    (fun i _ => ds.length - (intOf i).toNat)
  case atStart => exact ⟨0, Nat.zero_le _, rfl, h0, KeepsIn.refl _ _ _⟩
  case round =>
    obtain ⟨k, hk, rfl, hJs, hnx⟩ := hrel
    have hsz := hnx.size
    by_cases hlt : k < ds.length
    · have hcx : ∀ c, c < 4 → wr.cell? ⟨b, k * 4 + c, none⟩ = ds[k].fs[c]? := fun c h4 => (hnx.cell (p := ⟨b, k * 4 + c, none⟩) hlo hb).trans ((hc _ (by omega)).trans (z1xu ds k hlt c h4))
      obtain ⟨f0, c0, f1, c1, f2, c2, f3, c3, hfs⟩ := z1x7 ds[k]
      have q0 := hcx 0 (by omega); have q1 := hcx 1 (by omega); have q2 := hcx 2 (by omega); have q3 := hcx 3 (by omega)
      rw [hfs] at q0 q1 q2 q3
      simp only [Nat.add_zero] at q0
      have q0 : wr.cell? ⟨b, k * 4, none⟩ = some (.func (.func f0) #[] c0) := q0
      have q1 : wr.cell? ⟨b, k * 4 + 1, none⟩ = some (.func (.func f1) #[] c1) := q1
      have q2 : wr.cell? ⟨b, k * 4 + 2, none⟩ = some (.func (.func f2) #[] c2) := q2
      have q3 : wr.cell? ⟨b, k * 4 + 3, none⟩ = some (.func (.func f3) #[] c3) := q3
      have hJ1 : J (ds.take k) (wr.alloc (.cells #[.func (.func f0) #[] c0, .func (.func f1) #[] c1, .func (.func f2) #[] c2, .func (.func f3) #[] c3] 74)) := hJ _ wr _ none hJs (World.grownBy_alloc wr _ none) (fun r e => by cases e)
      have hB1 : KeepsIn lo n₀ wr (wr.alloc (.cells #[.func (.func f0) #[] c0, .func (.func f1) #[] c1, .func (.func f2) #[] c2, .func (.func f3) #[] c3] 74)) := KeepsIn.alloc lo (by omega) _
      obtain ⟨fn, tmps, assign, body, hy, hR⟩ := hY (ds.take k) ds[k] _ hJ1 (by rw [List.length_take, Nat.min_eq_left hk, List.getElem?_eq_getElem hlt])
      rw [hfs] at hy
      have htk : ds.take k ++ [ds[k]] = ds.take (k + 1) := by simp
      rw [htk] at hR
      gi_wp2
      refine hR.mono ?_
      rintro e W3 (⟨rfl, hJ3, hk3⟩ | ⟨rfl, hJx3⟩)
      · gi_wp2
        go_roundw
        case rel => exact ⟨k + 1, by omega, by simp, hJ3, hnx.trans (hB1.trans hk3)⟩
        case measure => simp [intOf]; omega
      · gi_wp2
        refine bodyPost_ret (results_none rfl _ _ _) rfl ?_
        exact ⟨⟨_, rfl⟩, .inr ⟨_, ⟨k + 1, by omega, rfl⟩, hJx3⟩⟩
    · obtain rfl : k = ds.length := by omega
      gi_wp2
      go_end0
      rw [List.take_length] at hJs
      exact ⟨⟨_, rfl⟩, .inl ⟨_, rfl, hJs⟩⟩
theorem z1xx (F : Fence) (n : Nat) (h7 : F.fn 152) (hro : F.round = none) (hn : 1 ≤ n) (Bs n₀ base : Nat) (v : Value) (ds : List Dev) (hreach : ds.length ≤ 1000) (hpos : 0 < ds.length) (w : World) (hn₀ : w.heap.size = n₀)
    (hB : Boxed w Bs 117 v) (hH : Holds base w v ds) :
    SeqStopsK F n Tryz.prog 152 #[pt Bs] (fun d : { d : Dev // d ∈ ds } => #[Value.agg d.1.fs]) (KeepsIn base n₀) (fun ys => ys.map (·.1) = ds) (fun _ => True) ds.length w := fun l J Jx W hW hJ hJx hY h0 => by
  obtain ⟨hlen, hor⟩ := hH.1
  have lift : ∀ {K : List { d : Dev // d ∈ ds } → World → Prop} {m : Nat}, AbidesFrom m K → AbidesFrom m (fun (l : List Dev) W => ∃ l' : List { d : Dev // d ∈ ds }, l'.map (·.1) = l ∧ K l' W) := fun hK s A B row hs hg hr => by
    obtain ⟨l', e, h⟩ := hs
    exact ⟨l', e, hK l' A B row h hg hr⟩
  rcases hor with ⟨rfl, h00⟩ | ⟨g, cap, cur, rfl, hbg, hcell, hr1, hr2, hr3, hr4⟩
  · omega
  · have hg : g < w.heap.size := (Array.getElem?_eq_some_iff.1 hcell).1
    have hBW := (Boxed.below hB hW hB.lt).cell
    have hgW : W.heap[g]? = some (.cells cur 74 (0, 0)) := (hW.block g hg).trans hcell
    refine (z1yu F n h7 hro hn l Bs base n₀ g cap ds hreach (by omega) hbg (fun l W => ∃ l' : List { d : Dev // d ∈ ds }, l'.map (·.1) = l ∧ J l' W) (fun l W => ∃ l' : List { d : Dev // d ∈ ds }, l'.map (·.1) = l ∧ Jx l' W) ?_ W (lift hJ) (lift hJx) (by rw [← hn₀]; exact hW.size) hBW (fun j hj => ?_) ⟨[], rfl, h0⟩).mono ?_
    · rintro pre x W1 ⟨l', rfl, hj⟩ hx
      obtain ⟨fn, tmps, assign, body, hy, hR⟩ := hY l' ⟨x, List.mem_of_getElem? hx⟩ W1 hj (by
        rw [List.length_map] at hx
        exact (List.getElem?_eq_some_iff.1 hx).1)
      refine ⟨fn, tmps, assign, body, hy, hR.mono ?_⟩
      rintro e W' (⟨h1, h2, h3⟩ | ⟨h1, h2⟩)
      · exact .inl ⟨h1, ⟨_, by rw [List.map_append]; rfl, h2⟩, h3⟩
      · exact .inr ⟨h1, _, by rw [List.map_append]; rfl, h2⟩
    · have e : (cellsOf ds)[j]? = cur.toList[j]? := by rw [← hr4, List.getElem?_take_of_lt hj]
      rw [e]
      simp [World.cell?, hgW]
    · rintro e W' ⟨he, ⟨ys, rfl, l', hl', hj⟩ | ⟨pre, ⟨k, hk, rfl⟩, l', hl', hj⟩⟩
      · exact ⟨he, .inl ⟨l', hl', hj⟩⟩
      · exact ⟨he, .inr ⟨l', trivial, hj⟩⟩
end Go.Proofs.YtfdndagnolbnhaaGreat
end
