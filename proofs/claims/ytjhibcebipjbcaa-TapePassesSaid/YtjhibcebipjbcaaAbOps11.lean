/- Calls: blocks numbered anew, and back. -/
import Derived.Test.YtjhibcebipjbcaaAbClr
set_option linter.unusedSimpArgs false
namespace Go.Ab
variable {U : Nat → Type}
section
variable {P : Program} {cd : Cd U} {M M' M2 : Mp} {Fz Fz' : Nat → Prop} {w w' : World}

/-- What a new numbering must do. -/
structure Renum (M M2 : Mp) (g : Nat → Nat → Option (Nat × Nat)) : Prop where
  row : ∀ b v b' v' pos t ver len cap, M b = some (.row pos t ver len cap) → g b v = some (b', v') → v ≤ ver → ∃ ver', M2 b' = some (.row pos t ver' len cap) ∧ v' ≤ ver' ∧ (v' = ver' → v = ver)
  cell : ∀ b k b' v', M b = some (.cells k) → g b 0 = some (b', v') → M2 b' = some (.cells k)
theorem Renum.none (M M2 : Mp) : Renum M M2 fun _ _ => none := ⟨fun _ _ _ _ _ _ _ _ _ _ h => by simp at h, fun _ _ _ _ _ h => by simp at h⟩
theorem ren1_plain {g : Nat → Nat → Option (Nat × Nat)} {c : C U} (h : plainC c = true) : ren1 g c = c := by
  cases c <;> first | rfl | (simp [plainC] at h)
theorem plain_flat (ok : CdOk P cd) {t : Nat} {l : List (U t)} {j : Nat} {c : C U} (h : (l.flatMap (cd.enc t))[j]? = some c) : plainC c = true := by
  obtain ⟨x, _, hx⟩ := List.mem_flatMap.1 (List.mem_of_getElem? h)
  exact ok.plain _ x _ hx
theorem ren1_ok (ok : CdOk P cd) {g : Nat → Nat → Option (Nat × Nat)} (hg : Renum M M2 g) {c : C U} {v : Value} (h : R1 P cd M Fz w c v) : R1 P cd M2 Fz w (ren1 g c) v := by
  induction h with
  | unk v => exact .unk v
  | skp => exact .skp
  | kb b => exact .bool b
  | bool b => exact .bool b
  | int k n => exact .int k n
  | str s => exact .str s
  | nils => exact .nils
  | sl t l full a cap f h1 h0 h2 h3 ih =>
    refine .sl t l full a cap f h1 h0 h2 fun j c hj => ?_
    have := ih j c hj
    rwa [ren1_plain (plain_flat ok hj)] at this
  | row b v pos t ver len cap val h1 h2 h3 h4 =>
    simp only [ren1]
    split
    · rename_i b' v' hgg
      obtain ⟨ver', k1, k2, k3⟩ := hg.row b v b' v' pos t ver len cap h1 hgg h2
      exact .row b' v' pos t ver' len cap val k1 k2 h3 fun e => h4 (k3 e)
    · exact .unk _
  | own b v lo n pos t ver len cap val h1 h2 h3 h4 =>
    simp only [ren1]
    split
    · rename_i b' v' hgg
      obtain ⟨ver', k1, k2, k3⟩ := hg.row b v b' v' pos t ver len cap h1 hgg h2
      exact .own b' v' lo n pos t ver' len cap val k1 k2 h3 fun e => h4 (k3 e)
    · exact .unk _
  | ptr b o k h1 =>
    simp only [ren1]
    split
    · rename_i b' v' hgg
      exact .ptr b' o k (hg.cell b k b' v' h1 hgg)
    · exact .unk _
  | elp b v i sub pos t ver len cap val h1 h2 h3 h4 =>
    simp only [ren1]
    split
    · rename_i b' v' hgg
      obtain ⟨ver', k1, k2, k3⟩ := hg.row b v b' v' pos t ver len cap h1 hgg h2
      exact .elp b' v' i sub pos t ver' len cap val k1 k2 h3 fun e => h4 (k3 e)
    · exact .unk _
  | ap b o t i sub k h1 =>
    simp only [ren1]
    split
    · rename_i b' v' hgg
      exact .ap b' o t i sub k (hg.cell b k b' v' h1 hgg)
    · exact .unk _
  | xp t x sub k o f h1 h2 h3 ih => exact .xp t x sub k o f h1 h2 fun j c hj => (ren1_plain (g := g) (ok.plain t x c (List.mem_of_getElem? hj))) ▸ ih j c hj
  | fn f a c g h h1 h2 ih1 ih2 =>
    simp only [ren1]
    split
    · exact .fn f [] [] g h (fun j x hj => by simp at hj) (fun j x hj => by simp at hj)
    · exact .unk _
  | nilp => exact .nilp
  | mp l r es ck h1 h2 h3 h4 => exact .mp l r es ck h1 h2 h3 h4
theorem renC_ok (ok : CdOk P cd) {g : Nat → Nat → Option (Nat × Nat)} (hg : Renum M M2 g) {c : C U} {v : Value} (h : R1 P cd M Fz w c v) : R1 P cd M2 Fz w (renC g c) v := by
  cases c with
  | fn f a c =>
    cases h with
    | fn _ _ _ p q h1 h2 =>
      have := R1.fn (P := P) (cd := cd) (M := M2) (Fz := Fz) (w := w) f (a.map (ren1 g)) (c.map (ren1 g)) p q (fun j x hj => by
        rw [List.getElem?_map] at hj
        obtain ⟨y, hy, rfl⟩ := Option.map_eq_some_iff.1 hj
        exact ren1_ok ok hg (h1 j y hy)) (fun j x hj => by
        rw [List.getElem?_map] at hj
        obtain ⟨y, hy, rfl⟩ := Option.map_eq_some_iff.1 hj
        exact ren1_ok ok hg (h2 j y hy))
      simpa [renC] using this
  | _ => exact ren1_ok ok hg h
theorem renC_plain {g : Nat → Nat → Option (Nat × Nat)} {c : C U} (h : plainC c = true) : renC g c = c := by
  cases c <;> first | rfl | (simp [plainC] at h)
theorem ren_arr {g : Nat → Nat → Option (Nat × Nat)} {c : C U} {t n : Nat} {l : List (U t)} (e : renC g c = .arr t n l) : c = .arr t n l := by
  cases c with
  | arr t' n' l' => exact e
  | fn f a b => simp [renC] at e
  | _ => simp only [renC, ren1] at e; first | (cases e; done) | (split at e <;> cases e)
theorem leaf_one {c : C U} (h : ∀ t n l, c ≠ .arr t n l) : leaf cd c = [c] := by
  cases c <;> first | rfl | exact absurd rfl (h _ _ _)
theorem leaf_ren (ok : CdOk P cd) (g : Nat → Nat → Option (Nat × Nat)) (c : C U) : leaf cd (renC g c) = (leaf cd c).map (renC g) := by
  by_cases hc : ∃ t n l, c = .arr t n l
  · obtain ⟨t, n, l, rfl⟩ := hc
    simp only [leaf, renC, ren1]
    have : ∀ ll : List (C U), (∀ c ∈ ll, plainC c = true) → ll = ll.map (renC g) := by
      intro ll
      induction ll with
      | nil => intro _; rfl
      | cons c ll ih =>
        intro h
        rw [List.map_cons, renC_plain (h c (by simp)), ← ih fun c hc => h c (by simp [hc])]
    refine this _ fun c hc => ?_
    obtain ⟨x, _, hx⟩ := List.mem_flatMap.1 hc
    exact ok.plain _ x _ hx
  · have h1 : ∀ t n l, c ≠ .arr t n l := fun t n l e => hc ⟨t, n, l, e⟩
    have h2 : ∀ t n l, renC g c ≠ .arr t n l := fun t n l e => h1 t n l (ren_arr e)
    rw [leaf_one h1, leaf_one h2]
    rfl
theorem ren_leaves (ok : CdOk P cd) (g : Nat → Nat → Option (Nat × Nat)) : ∀ cs : List (C U), leaves cd (cs.map (renC g)) = (leaves cd cs).map (renC g)
  | [] => rfl
  | c :: cs => by rw [List.map_cons, leaves_cons, leaves_cons, ren_leaves ok g cs, leaf_ren ok, List.map_append]
theorem ren_okA {g : Nat → Nat → Option (Nat × Nat)} {cs : List (C U)} (h : okA cs) : okA (cs.map (renC g)) := by
  intro t n l hm
  obtain ⟨c, hc, e⟩ := List.mem_map.1 hm
  refine h t n l ?_
  have : c = .arr t n l := ren_arr e
  exact this ▸ hc
theorem RL.ren (ok : CdOk P cd) {g : Nat → Nat → Option (Nat × Nat)} (hg : Renum M M2 g) {cs : List (C U)} {vs : List Value} (h : RL P cd M Fz w cs vs) : RL P cd M2 Fz w (cs.map (renC g)) vs := by
  refine ⟨ren_okA h.1, by rw [ren_leaves ok, List.length_map]; exact h.2.1, fun j c v h1 h2 => ?_⟩
  rw [ren_leaves ok, List.getElem?_map] at h1
  obtain ⟨y, hy, rfl⟩ := Option.map_eq_some_iff.1 h1
  exact renC_ok ok hg (h.2.2 j y v hy h2)
theorem RV.ren (ok : CdOk P cd) {g : Nat → Nat → Option (Nat × Nat)} (hg : Renum M M2 g) {x : V U} {v : Value} (h : RV P cd M Fz w x v) : RV P cd M2 Fz w (renV g x) v := by
  cases x with
  | one c => exact renC_ok ok hg h
  | agg cs => obtain ⟨a, e, r⟩ := h; exact ⟨a, e, r.ren ok hg⟩
theorem RVs.ren (ok : CdOk P cd) {g : Nat → Nat → Option (Nat × Nat)} (hg : Renum M M2 g) {xs : List (V U)} {vs : List Value} (h : RVs P cd M Fz w xs vs) : RVs P cd M2 Fz w (xs.map (renV g)) vs := by
  refine ⟨by rw [List.length_map]; exact h.1, fun j x v h1 h2 => ?_⟩
  rw [List.getElem?_map] at h1
  obtain ⟨y, hy, rfl⟩ := Option.map_eq_some_iff.1 h1
  exact (h.2 j y v hy h2).ren ok hg
theorem resD_ren (ok : CdOk P cd) {g : Nat → Nat → Option (Nat × Nat)} (hg : Renum M M2 g) {xs : List (V U)} {v : Value} (h : RD P cd M Fz w (resD xs) v) : RD P cd M2 Fz w (resD (xs.map (renV g))) v := by
  unfold resD at *
  split at h
  · exact RV.ren ok hg h
  · rename_i l hl
    obtain ⟨a, rfl, r⟩ := h
    have e : resD (xs.map (renV g)) = .tup (xs.map (renV g)) := by
      unfold resD
      split
      · rename_i x hx
        exfalso
        match xs, hl, hx with
        | [y], hl, _ => exact hl y rfl
      · rfl
    unfold resD at e
    rw [e]
    exact ⟨a, rfl, r.ren ok hg⟩
end
end Go.Ab
