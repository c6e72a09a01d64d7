/- slices.Clone, told as a row of its own: from the library's contract at any address. -/
import Derived.Test.YtjhibcebipjbcaaAbFresh
import Derived.Shelf.SlicesE.Clone
set_option linter.unusedSimpArgs false
namespace Go.Ab
open Go.Shelf Go.RowKit Go.Lib Go.Proofs
variable {U : Nat → Type}
section
variable {P : Program} {cd : Cd U} {ρ : Ren}
set_option maxHeartbeats 2000000 in
set_option maxRecDepth 100000 in
theorem clone_at (L : SlLaysE0.n41 P ρ) (i0 : TypeInfo) (z : Value) (size bytes : Nat) (hi : P.info? (ρ.t 23) = some i0) (hz0 : i0.zero = some z) (hz1 : i0.size = size) (hz2 : i0.bytes = bytes) (hzs : z.cells.size = size) (hsz : 0 < size)
    (z23 : ∀ w, (Go.sizeOf (ρ.t 23)).run P w = .ok size w) (ad : Addr) (n c : Nat) (news : List Value) (w : World) (hl : news.length = n * size) (hn : n ≤ maxLen) (hbig : n * bytes ≤ 140737488355328)
    (hc : ∀ j u, news[j]? = some u → w.cell? (ad.add j) = some u) (h1 : ∀ u ∈ news, u.oneCell' = true) :
    Calls P (ρ.f 41) #[.slice (some ad) n c] w fun e w' => ∃ v', e = .returned v' ∧ w'.ownsRow w.heap.size (ρ.t 23) size v' n news ∧ v' ≠ .slice none 0 0 ∧ Below w.heap.size w w' := by
  have mixed := L.mixed; have t4 := L.t4; have a4 := L.a4; have z4 := L.z4; have v4 := L.v4; have t22 := L.t22; have a22 := L.a22; have z22 := L.z22; have v22 := L.v22
  have q22 : ∀ (w : World) (a : Option Addr) (n c n' c' : Nat), (binOp .eql (ρ.t 22) (.slice a n c) (.slice none n' c')).run P w = .ok (.bool a.isNone) w := fun w a n c n' c' => Lib.run_eql_slice_nil w _ _ a n c n' c' L.t22
  have u22 : ∀ w, Sem.run P (underlying (ρ.t 22)) w = .ok (TypeDesc.slice (ρ.t 23)) w := run_underlying t22
  have A : Aside (∀ j u, news[j]? = some u → w.cell? (ad.add j) = some u) := hc
  clear hc
  obtain ⟨_, _, FG⟩ := L.f41
  go_enter FG, SlBodyN.n41_ntmps ρ
  go_wp2_with (at_builtin; refine wpList_append_own _ rfl _ _ (ρ.t 22) rfl w.heap.size (ρ.t 23) i0 z size bytes t22 hi hz0 hz1 hz2 hzs hsz _ _ _ rfl (World.ownsRow_made w #[] 0 (Nat.le_refl _) (Nat.zero_le _) (by simp)) ad n c news rfl ?qc1 ?qc2 ?qc3 ?qc4 ?qc5 ?qc6 ?_)
  case qc1 => exact hl
  case qc2 =>
    intro j u hj
    exact Lib.cell?_alloc_some _ (A.out j u hj)
  case qc3 => exact h1
  case qc4 => rw [Nat.zero_add]; exact hn
  case qc5 => rw [Nat.zero_add]; exact hbig
  case qc6 => simp
  intro v' w1 hown hgrow hnil
  go_wp2
  go_ret
  refine ⟨v', rfl, by simpa using hown, ?_, ?_⟩
  · exact hnil
  · exact ((Below.refl _ w).alloc (Nat.le_refl _) _).grown hgrow (by simp) (by intro k hk; simp [Value.ownBlock] at hk; omega)
/-- what a clone comes to -/
def cloneF {α : Type} (bytes : Nat) (l : List α) : Option (List α) := if l.length * bytes ≤ 140737488355328 then some l else none
def cloneSpec (t bytes : Nat) (args : List (V U)) (hp : List (Blk U)) : Option (FnOut U) := match args, hp with
  | [.one (.sl t' l _)], [] => if h : t' = t then some ⟨List (U t), cloneF bytes (h ▸ l), fun l => .leaf ([.one (.row 0 0)], [.row t 0 l])⟩ else none
  | _, _ => none
theorem clone_ok (ok : CdOk P cd) (L : SlLaysE0.n41 P ρ) {f t bytes : Nat} {fn : Func} (hf : P.funcs[f]? = some fn) (hname : (fn.name == "runtime.NumGoroutine") = false) (hb : fn.body.isSome = true) (hff : ρ.f 41 = f) (htt : ρ.t 23 = t) {i0 : TypeInfo} {z : Value}
    (hi : P.info? t = some i0) (hz0 : i0.zero = some z) (hz2 : i0.bytes = bytes) (hzs : z.cells.size = i0.size) (hsz : 0 < i0.size) (hby : 0 < bytes) (z23 : ∀ w, (Go.sizeOf t).run P w = .ok i0.size w) : FnOk P cd f (cloneSpec t bytes) := by
  subst hff
  subst htt
  intro M Fz w hp args vargs hhr hargs r hs x hx p hp1
  unfold cloneSpec at hs
  split at hs
  · rename_i t' l full
    split at hs
    · rename_i e
      subst e
      injection hs with hs
      subst hs
      have hx : cloneF bytes l = some x := hx
      unfold cloneF at hx
      split at hx
      · rename_i hbig
        injection hx with hx
        subst hx
        have hp1 : some ([.one (.row 0 0)], [.row (ρ.t 23) 0 l]) = some p := hp1
        injection hp1 with hp1
        subst hp1
        refine ⟨fn, hf, hname, hb, ?_⟩
        obtain ⟨u, rfl⟩ : ∃ u, vargs = [u] := by
          have := hargs.1
          match vargs, this with
          | [u], _ => exact ⟨u, rfl⟩
        have h0 : R1 P cd M Fz w (.sl (ρ.t 23) l full) u := hargs.2 0 _ u rfl rfl
        have hsz' : P.cellsOf (ρ.t 23) = i0.size := by simp [Program.cellsOf, hi]
        -- where no block is held before
        have hM : ∀ b, M b = none := fun b => hhr.out b (Nat.zero_le _)
        have post : ∀ (v' : Value) (w' : World) (pos : Option Nat) (cap : Nat), Below w.heap.size w w' → (∀ k, pos = some k → w.heap.size ≤ k ∧ k < w'.heap.size) → RowV pos l.length cap v' → v'.oneCell' = true → RowPos P cd (fun b => if b = 0 then some (.row pos (ρ.t 23) 0 l.length cap) else none) Fz w' (ρ.t 23) l cap pos →
            Post P cd M Fz w (resD [.one (.row 0 0)]) [.row (ρ.t 23) 0 l] v' w' := by
          intro v' w' pos cap hbel hpos hrv hone hrow
          refine ⟨fun b => if b = 0 then some (.row pos (ρ.t 23) 0 l.length cap) else none, Fz, ?_, ?_, ?_, ?_, ⟨hbel.os, hbel.tape, hbel.output, hbel.size, fun k hk _ => hbel.block k hk⟩, ?_, fun k hk => .inl hk⟩
          · exact R1.row 0 0 pos (ρ.t 23) 0 l.length cap v' (by simp) (Nat.le_refl _) hone fun _ => hrv
          · refine ⟨fun b y hy => ?_, fun b hb => ?_, fun b b' i i' k h1 h2 h3 h4 => ?_, fun b i k h1 h2 h3 => ?_, fun k hk => ?_, fun b i k h1 h2 => ?_⟩
            · cases b with
              | zero =>
                simp at hy
                subst hy
                exact ⟨pos, cap, by simp, hrow⟩
              | succ b => simp at hy
            · have : b ≠ 0 := by simp at hb; omega
              simp [this]
            · by_cases hb : b = 0
              · by_cases hb' : b' = 0
                · rw [hb, hb']
                · simp [hb'] at h2
              · simp [hb] at h1
            · by_cases hb : b = 0
              · subst hb
                simp at h1
                subst h1
                have := (hpos k h2).1
                have := hhr.frz k h3
                omega
              · simp [hb] at h1
            · have := hhr.frz k hk
              have := hbel.size
              omega
            · by_cases hb : b = 0
              · subst hb
                simp at h1
                subst h1
                exact (hpos k h2).2
              · simp [hb] at h1
          · intro b i hb
            rw [hM b] at hb
            cases hb
          · intro k hk
            exact ⟨hk, hbel.block k (hhr.frz k hk)⟩
          · rintro k ⟨b, i, h1, h2⟩
            by_cases hb : b = 0
            · subst hb
              simp at h1
              subst h1
              exact .inr (hpos k h2).1
            · simp [hb] at h1
        cases h0 with
        | sl _ _ _ a cap g hfull hle hne hcells =>
          cases a with
          | none =>
            have hl0 : l = [] := by
              cases l with
              | nil => rfl
              | cons y l => obtain ⟨k, o, h, _⟩ := hne (by simp); cases h
            subst hl0
            refine (AnyE.slices_Clone_nil L 0 cap w).mono fun e w' ⟨he, hw⟩ => ⟨_, he, ?_⟩
            rw [hw]
            exact post _ w none 0 (Below.refl _ w) (fun k hk => by cases hk) ⟨none, rfl⟩ rfl rfl
          | some ad =>
            have hcell : ∀ j c, (l.flatMap (cd.enc (ρ.t 23)))[j]? = some c → w.cell? (ad.add j) = some (g j) := by
              intro j c hj
              have hnel : l ≠ [] := by rintro rfl; simp at hj
              obtain ⟨k, o, h1, _, h3⟩ := hne hnel
              injection h1 with h1
              subst h1
              have : (at0 k o).add j = at0 k (o + j) := by unfold Addr.add at0; split <;> simp_all
              rw [this]
              exact h3 j c hj
            have hlen : (l.flatMap (cd.enc (ρ.t 23))).length = l.length * i0.size := by rw [flat_len ok, hsz']
            have hml : l.length ≤ maxLen := by
              have : l.length ≤ l.length * bytes := Nat.le_mul_of_pos_right _ hby
              simp only [maxLen]; omega
            refine (clone_at L i0 z i0.size bytes hi hz0 rfl hz2 hzs hsz z23 ad l.length cap ((List.range (l.length * i0.size)).map g) w (by simp) hml hbig (fun j u hj => ?_) (fun u hu => ?_)).mono fun e w' ⟨v', he, hown, hnn, hbel⟩ => ⟨v', he, ?_⟩
            · rw [List.getElem?_map] at hj
              obtain ⟨j', hj', rfl⟩ := Option.map_eq_some_iff.1 hj
              have hlt := (List.getElem?_eq_some_iff.1 hj').1
              have : j' = j := by have := (List.getElem?_eq_some_iff.1 hj').2; simpa using this.symm
              subst this
              have hlt : j' < l.length * i0.size := by simpa using hlt
              exact hcell j' _ (List.getElem?_eq_getElem (by rw [hlen]; exact hlt))
            · obtain ⟨j, hj, rfl⟩ := List.mem_map.1 hu
              have hj : j < l.length * i0.size := by simpa using hj
              have hcj := List.getElem?_eq_getElem (show j < (l.flatMap (cd.enc (ρ.t 23))).length by rw [hlen]; exact hj)
              refine (hcells j _ hcj).scal ?_
              have := plain_flat ok hcj
              revert this
              generalize (l.flatMap (cd.enc (ρ.t 23)))[j] = cc
              intro hp
              cases cc <;> first | rfl | (simp [plainC] at hp)
            · obtain ⟨_, hv⟩ := hown
              rcases hv with ⟨hv, _⟩ | ⟨k, cap', cur, rfl, hk, hheap, hn1, hn2, hsize, htake⟩
              · exact absurd hv hnn
              · have hklt : k < w'.heap.size := (Array.getElem?_eq_some_iff.1 hheap).1
                refine post _ w' (some k) cap' hbel (fun k' e => by injection e with e; subst e; exact ⟨hk, hklt⟩) rfl rfl ⟨cur, ⟨hheap, hn1, hn2, by rw [hsize, hsz'], fun j c hj => ?_⟩⟩
                have hjl := (List.getElem?_eq_some_iff.1 hj).1
                rw [hlen] at hjl
                refine ⟨g j, ?_, ((hcells j c hj).plain ok (fun _ h => h) (plain_flat ok hj)).mono (Ext.refl _) fun k' hk' => ⟨hk', hbel.block k' (hhr.frz k' hk')⟩⟩
                have : cur.toList[j]? = some (g j) := by
                  have h2 : (cur.toList.take (l.length * i0.size))[j]? = some (g j) := by
                    rw [htake, List.getElem?_map, List.getElem?_range hjl]
                    rfl
                  rw [List.getElem?_take, if_pos hjl] at h2
                  exact h2
                simpa using this
      · cases hx
    · cases hs
  · cases hs
def cloneB (P : Program) (t bytes : Nat) : Bool := match P.info? t with
  | some i => (match i.zero with
    | some z => decide (z.cells.size = i.size) && decide (0 < i.size) && decide (i.bytes = bytes) && decide (0 < bytes)
    | none => false)
  | none => false
theorem clone_ok2 (ok : CdOk P cd) (L : SlLaysE0.n41 P ρ) {f t bytes : Nat} {fn : Func} (hf : P.funcs[f]? = some fn) (hname : (fn.name == "runtime.NumGoroutine") = false) (hb : fn.body.isSome = true) (hff : ρ.f 41 = f) (htt : ρ.t 23 = t) (hc : cloneB P t bytes = true) : FnOk P cd f (cloneSpec t bytes) := by
  unfold cloneB at hc
  split at hc
  · rename_i i hi
    split at hc
    · rename_i z hz
      simp only [Bool.and_eq_true, decide_eq_true_eq] at hc
      exact clone_ok ok L hf hname hb hff htt hi hz hc.1.2 hc.1.1.1 hc.1.1.2 hc.2 fun w => by simp [Go.sizeOf, typeInfo, hi]
    · cases hc
  · cases hc
end
end Go.Ab
