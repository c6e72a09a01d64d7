/- Regions in any order: all of it. -/
import Derived.Test.YtjhibcebipjbcaaAbOps17
set_option linter.unusedSimpArgs false
namespace Go.Ab
variable {U : Nat → Type}
def befF (acc : Array Nat) (o : Oper) : Nat := o.after.foldl (fun s e => if Region.binds .any e then s ||| 2 ^ e.on ||| acc.getD e.on 0 else s) 0
theorem bef_bits (acc : Array Nat) (p : Nat) : ∀ (l : List Edge) (s : Nat), (l.foldl (fun s e => if Region.binds .any e then s ||| 2 ^ e.on ||| acc.getD e.on 0 else s) s).testBit p = true →
    s.testBit p = true ∨ ∃ e ∈ l, Region.binds .any e = true ∧ (e.on = p ∨ (acc.getD e.on 0).testBit p = true)
  | [], s, h => .inl h
  | e :: l, s, h => by
    rw [List.foldl_cons] at h
    rcases bef_bits acc p l _ h with h' | ⟨e', h1, h2⟩
    · split at h'
      · rename_i hb
        simp only [Nat.testBit_or, Bool.or_eq_true] at h'
        rcases h' with (h' | h') | h'
        · exact .inl h'
        · refine .inr ⟨e, by simp, hb, .inl ?_⟩
          rw [Nat.testBit_two_pow] at h'
          exact of_decide_eq_true h'
        · exact .inr ⟨e, by simp, hb, .inr h'⟩
      · exact .inl h'
    · exact .inr ⟨e', by simp [h1], h2⟩
theorem bef_fold : ∀ (l : List Oper) (acc : Array Nat), (∀ j, j < acc.size → (l.foldl (fun acc o => acc.push (befF acc o)) acc).getD j 0 = acc.getD j 0) ∧
    ∀ k o, l[k]? = some o → ∃ acc' : Array Nat, (∀ m, acc'.getD m 0 = if m < acc.size + k then (l.foldl (fun acc o => acc.push (befF acc o)) acc).getD m 0 else 0) ∧
      (l.foldl (fun acc o => acc.push (befF acc o)) acc).getD (acc.size + k) 0 = befF acc' o
  | [], acc => ⟨fun _ _ => rfl, fun k o h => by simp at h⟩
  | o :: l, acc => by
    obtain ⟨h1, h2⟩ := bef_fold l (acc.push (befF acc o))
    rw [List.foldl_cons]
    have hold : ∀ j, j < acc.size → (acc.push (befF acc o)).getD j 0 = acc.getD j 0 := fun j hj => by
      simp only [Array.getD_eq_getD_getElem?, Array.getElem?_push, if_neg (Nat.ne_of_lt hj)]
    have hk : ∀ j, j < acc.size → (l.foldl (fun acc o => acc.push (befF acc o)) (acc.push (befF acc o))).getD j 0 = acc.getD j 0 := fun j hj => by
      rw [h1 j (by simp; omega), hold j hj]
    refine ⟨hk, fun k o' ho => ?_⟩
    cases k with
    | zero =>
      simp at ho
      subst ho
      refine ⟨acc, fun m => ?_, ?_⟩
      · split
        · rename_i hm; rw [hk m (by omega)]
        · rename_i hm
          simp [Array.getD_eq_getD_getElem?, Array.getElem?_eq_none (show acc.size ≤ m by omega)]
      · rw [Nat.add_zero, h1 acc.size (by simp)]
        simp [Array.getD_eq_getD_getElem?]
    | succ k =>
      obtain ⟨acc', h3, h4⟩ := h2 k o' (by simpa using ho)
      rw [Array.size_push] at h3 h4
      refine ⟨acc', fun m => ?_, ?_⟩
      · rw [h3 m, show acc.size + 1 + k = acc.size + (k + 1) by omega]
      · rw [← h4, show acc.size + 1 + k = acc.size + (k + 1) by omega]
theorem before_bit {ops : Array Oper} {i p : Nat} {o : Oper} (ho : ops[i]? = some o) (h : depB (Region.before ops) i p = true) :
    ∃ e ∈ o.after, Region.binds .any e = true ∧ (e.on = p ∨ (e.on < i ∧ depB (Region.before ops) e.on p = true)) := by
  have hb : Region.before ops = ops.toList.foldl (fun acc o => acc.push (befF acc o)) #[] := by
    unfold Region.before
    rw [← Array.foldl_toList]
    rfl
  obtain ⟨acc, h1, h2⟩ := (bef_fold ops.toList #[]).2 i o (by rw [Array.getElem?_toList]; exact ho)
  rw [← hb] at h1 h2
  simp only [List.size_toArray, List.length_nil, Nat.zero_add] at h1 h2
  unfold depB at h ⊢
  rw [h2] at h
  unfold befF at h
  rw [← Array.foldl_toList] at h
  rcases bef_bits acc p _ 0 h with h' | ⟨e, he, hbi, h'⟩
  · simp at h'
  · refine ⟨e, by simpa using he, hbi, ?_⟩
    rcases h' with h' | h'
    · exact .inl h'
    · rw [h1 e.on] at h'
      split at h'
      · rename_i hlt; exact .inr ⟨hlt, h'⟩
      · simp at h'
def Closed (ops : Array Oper) (listed : Array Bool) : Prop := ∀ i o, ops[i]? = some o → listed.getD i false = true → ∀ e ∈ o.after, Region.binds .any e = true → listed.getD e.on false = true
theorem dep_listed {ops : Array Oper} {listed : Array Bool} (hc : Closed ops listed) {p : Nat} : ∀ (n i : Nat) (o : Oper), i ≤ n → ops[i]? = some o → (∀ e ∈ o.after, Region.binds .any e = true → listed.getD e.on false = true) → depB (Region.before ops) i p = true → listed.getD p false = true := by
  intro n
  induction n with
  | zero =>
    intro i o hi ho he hd
    obtain ⟨e, h1, h2, h3⟩ := before_bit ho hd
    rcases h3 with rfl | ⟨h3, _⟩
    · exact he e h1 h2
    · omega
  | succ n ih =>
    intro i o hi ho he hd
    obtain ⟨e, h1, h2, h3⟩ := before_bit ho hd
    rcases h3 with rfl | ⟨h3, h4⟩
    · exact he e h1 h2
    · have hl := he e h1 h2
      have hilt := (Array.getElem?_eq_some_iff.1 ho).1
      have hoe := Array.getElem?_eq_getElem (show e.on < ops.size by omega)
      exact ih e.on _ (by omega) hoe (hc e.on _ hoe hl) h4
section
variable {E : Env U} {A F0 : Nat → Prop} {w0 : World} {I0 : Mp}
theorem afterOk_ok : ∀ (l : List Oper) (n : Nat), afterOk n l = true → ∀ k o, l[k]? = some o → ∀ e ∈ o.after, Region.binds .any e = true → e.on < n + k
  | [], _, _, _, _, h => by simp at h
  | o :: l, n, h, k, o', hk => by
    simp only [afterOk, cond_eq_ite] at h
    split at h
    · rename_i hc
      cases k with
      | zero =>
        simp at hk
        subst hk
        intro e he hb
        have := (Array.all_eq_true_iff_forall_mem.1 hc) e he
        simp only [hb, Bool.not_true, Bool.false_or] at this
        exact of_decide_eq_true (by simpa using this)
      | succ k =>
        intro e he hb
        have := afterOk_ok l (n + 1) h k o' (by simpa using hk) e he hb
        omega
    · cases h
theorem pairs1_ok {fps : Nat → Fp} {ops : Array Oper} {deps : Array Nat} {i : Nat} {x : Oper} : ∀ (l : List Oper) (j : Nat), pairs1 E fps ops deps i x l j = true → ∀ k o, l[k]? = some o → pairOk E fps ops deps i x (j + k) o = true
  | [], _, _, _, _, h => by simp at h
  | y :: l, j, h, k, o, hk => by
    simp only [pairs1, cond_eq_ite] at h
    split at h
    · rename_i hc
      cases k with
      | zero => simp at hk; subst hk; exact hc
      | succ k =>
        have := pairs1_ok l (j + 1) h k o (by simpa using hk)
        rwa [show j + 1 + k = j + (k + 1) by omega] at this
    · cases h
theorem pairsAll_ok {fps : Nat → Fp} {ops : Array Oper} {deps : Array Nat} : ∀ (l : List Oper) (j : Nat), pairsAll E fps ops deps l j = true → ∀ k m o o', k < m → l[k]? = some o → l[m]? = some o' → pairOk E fps ops deps (j + k) o (j + m) o' = true
  | [], _, _, _, _, _, _, _, h, _ => by simp at h
  | y :: l, j, h, k, m, o, o', hkm, hk, hm => by
    simp only [pairsAll, cond_eq_ite] at h
    split at h
    · rename_i hc
      obtain ⟨m, rfl⟩ : ∃ m', m = m' + 1 := ⟨m - 1, by omega⟩
      cases k with
      | zero =>
        simp at hk
        subst hk
        have := pairs1_ok l (j + 1) hc m o' (by simpa using hm)
        rwa [show j + 1 + m = j + (m + 1) by omega] at this
      | succ k =>
        have := pairsAll_ok l (j + 1) h k m o o' (by omega) (by simpa using hk) (by simpa using hm)
        rwa [show j + 1 + k = j + (k + 1) by omega, show j + 1 + m = j + (m + 1) by omega] at this
    · cases h
theorem tags_mem : ∀ (l : List Oper) (i id k : Nat) (o : Oper), l[k]? = some o → ∃ x ∈ tags l i id, x.i = i + k ∧ x.o = o
  | [], _, _, _, _, h => by simp at h
  | o :: l, i, id, 0, o', h => by
    simp at h
    subst h
    exact ⟨_, by simp only [tags]; exact List.mem_cons_self, rfl, rfl⟩
  | o :: l, i, id, k + 1, o', h => by
    obtain ⟨x, h1, h2, h3⟩ := tags_mem l (i + 1) (bif makes o then id + 1 else id) k o' (by simpa using h)
    exact ⟨x, by simp only [tags]; exact List.mem_cons_of_mem _ h1, by omega, h3⟩
theorem tags_sorted : ∀ (l : List Oper) (i id : Nat), (tags l i id).Pairwise fun x y => x.i < y.i
  | [], _, _ => .nil
  | o :: l, i, id => by
    simp only [tags]
    refine List.pairwise_cons.2 ⟨fun y hy => ?_, tags_sorted l _ _⟩
    have := (tags_get l _ _ y hy).1
    show i < y.i
    omega
def unl (tg : List Tg) (listed : Array Bool) : List Tg := tg.filter fun x => !listed.getD x.i true
theorem any_ok (ok : CdOk E.P E.cd) (env : ∀ f p s, E.fns f = some (p, s) → FnOk E.P E.cd f s) {r : Rg} (hdraw : r.draw = true) (hdeps : r.deps = Region.before r.ops) {nt : Nat} (hd : ∀ o ∈ r.ops.toList, ∀ t, o.dst = some t → t < nt)
    (hafter : afterOk 0 r.ops.toList = true) (hpairs : pairsAll E r.fps r.ops r.deps r.ops.toList 0 = true) {Q : Exit → Act → World → Prop} {σ' : St U} (hQ : ∀ a' w', RSt E.P E.cd nt A F0 w0 I0 σ' a' w' → Q .normal a' w') :
    ∀ (fuel : Nat) (listed : Array Bool) (σ : St U) (a : Act) (w : World), listed.size = r.ops.size → Closed r.ops listed → (unl (tags r.ops.toList 0 r.base) listed).length = fuel →
      steps E r (unl (tags r.ops.toList 0 r.base) listed) σ = some σ' → RSt E.P E.cd nt A F0 w0 I0 σ a w → wpAny E.P .any r.ops Q fuel listed a w := by
  have tg : ∀ x ∈ tags r.ops.toList 0 r.base, r.ops.toList[x.i]? = some x.o ∧ x.id = r.base + countM (r.ops.toList.take x.i) := fun x hx => by
    obtain ⟨_, h2, h3⟩ := tags_get _ _ _ x hx
    exact ⟨by simpa using h2, by simpa using h3⟩
  have mem_of_ready : ∀ (listed : Array Bool) i, i ∈ Region.ready .any r.ops listed → ∃ x ∈ unl (tags r.ops.toList 0 r.base) listed, x.i = i := by
    intro listed i hi
    obtain ⟨h1, o, h2, _⟩ := mem_ready.1 hi
    obtain ⟨x, h3, h4, _⟩ := tags_mem r.ops.toList 0 r.base i o (by rw [Array.getElem?_toList]; exact h2)
    rw [Nat.zero_add] at h4
    exact ⟨x, List.mem_filter.2 ⟨h3, by simp only [h4, h1]; rfl⟩, h4⟩
  intro fuel
  induction fuel with
  | zero =>
    intro listed σ a w _ _ hl hs h
    have hnil := List.eq_nil_of_length_eq_zero hl
    rw [hnil] at hs
    simp only [steps, Option.some.injEq] at hs
    subst hs
    refine ⟨?_, hQ a w h⟩
    cases hr : Region.ready .any r.ops listed with
    | nil => rfl
    | cons i l =>
      obtain ⟨x, hx, _⟩ := mem_of_ready listed i (by rw [hr]; simp)
      rw [hnil] at hx
      cases hx
  | succ fuel ih =>
    intro listed σ a w hsz hc hl hs h
    have hsorted : (unl (tags r.ops.toList 0 r.base) listed).Pairwise fun x y => x.i < y.i := (tags_sorted r.ops.toList 0 r.base).filter _
    refine ⟨fun hr => ?_, fun i hi => ?_⟩
    · exfalso
      cases hu : unl (tags r.ops.toList 0 r.base) listed with
      | nil => rw [hu] at hl; cases hl
      | cons x rest =>
        have hxm : x ∈ unl (tags r.ops.toList 0 r.base) listed := by rw [hu]; simp
        obtain ⟨hx1, hx2⟩ := List.mem_filter.1 hxm
        have hxo := (tg x hx1).1
        have hxr : x.i ∈ Region.ready .any r.ops listed := by
          refine mem_ready.2 ⟨by simpa using hx2, x.o, by rw [← Array.getElem?_toList]; exact hxo, fun e he hb => ?_⟩
          have hlt := afterOk_ok r.ops.toList 0 hafter x.i x.o hxo e he hb
          rw [Nat.zero_add] at hlt
          have hxl := (List.getElem?_eq_some_iff.1 hxo).1
          obtain ⟨z, hz1, hz2, _⟩ := tags_mem r.ops.toList 0 r.base e.on _ (List.getElem?_eq_getElem (show e.on < r.ops.toList.length by omega))
          rw [Nat.zero_add] at hz2
          by_cases hzl : listed.getD z.i true = true
          · rw [← hz2]
            have : z.i < listed.size := by simp at hxl; omega
            simp only [Array.getD_eq_getD_getElem?, Array.getElem?_eq_getElem this, Option.getD_some] at hzl ⊢
            exact hzl
          · have hzu : z ∈ unl (tags r.ops.toList 0 r.base) listed := List.mem_filter.2 ⟨hz1, by simpa using hzl⟩
            rw [hu] at hzu hsorted
            rcases List.mem_cons.1 hzu with rfl | hzr
            · omega
            · have := (List.pairwise_cons.1 hsorted).1 z hzr
              omega
        rw [hr] at hxr
        cases hxr
    · obtain ⟨hun, o, ho, hdone⟩ := mem_ready.1 hi
      obtain ⟨x, hx, hxi⟩ := mem_of_ready listed i hi
      subst hxi
      obtain ⟨pre, post, hu⟩ := List.append_of_mem hx
      obtain ⟨hx1, hx2⟩ := List.mem_filter.1 hx
      have hxo := (tg x hx1).1
      have hoo : x.o = o := by
        rw [Array.getElem?_toList, ho] at hxo
        exact (Option.some.inj hxo).symm
      subst hoo
      rw [hu] at hs hsorted hl
      obtain ⟨hp1, hp2, hp3⟩ := List.pairwise_append.1 hsorted
      have hind : ∀ y ∈ pre, Ind E r y x := by
        intro y hy
        have hyu : y ∈ unl (tags r.ops.toList 0 r.base) listed := by rw [hu]; simp [hy]
        obtain ⟨hy1, hy2⟩ := List.mem_filter.1 hyu
        have hlt : y.i < x.i := hp3 y hy x (by simp)
        have hyo := (tg y hy1).1
        have hpk := pairsAll_ok r.ops.toList 0 hpairs y.i x.i y.o x.o hlt hyo hxo
        rw [Nat.zero_add, Nat.zero_add] at hpk
        have hnd : depB r.deps x.i y.i = false := by
          cases hdd : depB r.deps x.i y.i with
          | false => rfl
          | true =>
            rw [hdeps] at hdd
            have := dep_listed hc x.i x.i x.o (Nat.le_refl _) ho hdone hdd
            have hys : y.i < listed.size := by
              have := (List.getElem?_eq_some_iff.1 hyo).1
              simp at this; omega
            simp only [Array.getD_eq_getD_getElem?, Array.getElem?_eq_getElem hys, Option.getD_some] at this hy2
            rw [this] at hy2
            cases hy2
        unfold pairOk at hpk
        rw [hnd] at hpk
        simp only [cond_false, Bool.and_eq_true, Bool.or_eq_true] at hpk
        refine ⟨hlt, hpk.1, ?_, hnd, hyo, hxo, (tg y hy1).2, (tg x hx1).2⟩
        rcases hpk.2 with ((h0 | h0) | h0) | h0
        · exact .inl (Nat.eq_of_beq_eq_true h0)
        · exact .inr (.inl (Nat.eq_of_beq_eq_true h0))
        · exact .inr (.inr (.inl ⟨Nat.eq_of_beq_eq_true h0.1, Nat.eq_of_beq_eq_true h0.2⟩))
        · exact .inr (.inr (.inr ⟨h0.1.1, by simpa using h0.1.2, by simpa using h0.2⟩))
      obtain ⟨σ1, hs1, hs2⟩ := steps_front hdraw pre post hind hs
      have hu2 : unl (tags r.ops.toList 0 r.base) (listed.setIfInBounds x.i true) = pre ++ post := by
        have hxl : x.i < listed.size := by
          have := (List.getElem?_eq_some_iff.1 hxo).1
          simp at this; omega
        have e1 : unl (tags r.ops.toList 0 r.base) (listed.setIfInBounds x.i true) = (unl (tags r.ops.toList 0 r.base) listed).filter fun y => y.i != x.i := by
          unfold unl
          rw [List.filter_filter]
          apply List.filter_congr
          intro y _
          by_cases hyx : x.i = y.i
          · have : (listed.setIfInBounds x.i true).getD y.i true = true := by
              rw [← hyx]
              simp [Array.getD_eq_getD_getElem?, hxl]
            simp [this, hyx]
          · rw [getD_set_ne true hyx]
            have : (y.i != x.i) = true := by simpa using Ne.symm hyx
            simp [this]
        rw [e1, hu, List.filter_append, List.filter_cons]
        have f1 : pre.filter (fun y => y.i != x.i) = pre := List.filter_eq_self.2 fun y hy => by
          have := hp3 y hy x (by simp)
          simp; omega
        have f2 : post.filter (fun y => y.i != x.i) = post := List.filter_eq_self.2 fun y hy => by
          have := (List.pairwise_cons.1 hp2).1 y hy
          simp; omega
        rw [f1, f2]
        simp
      have hxops : r.ops[x.i]? = some x.o := ho
      refine step_ok ok env hxops (hd x.o (List.mem_of_getElem? hxo)) hs1 h fun a' w' h' => ?_
      refine ih (listed.setIfInBounds x.i true) σ1 a' w' (by simpa using hsz) ?_ ?_ (by rw [hu2]; exact hs2) h'
      · intro j oj hj hlj e he hb
        by_cases hjx : x.i = j
        · subst hjx
          rw [ho] at hj
          injection hj with hj
          subst hj
          have := hdone e he hb
          by_cases hex : x.i = e.on
          · rw [← hex]
            rw [← hex] at this
            have h2 := hun
            have hxl : x.i < listed.size := by
              have := (List.getElem?_eq_some_iff.1 hxo).1
              simp at this; omega
            simp [Array.getD_eq_getD_getElem?, hxl]
          · rw [getD_set_ne false hex]; exact this
        · rw [getD_set_ne false hjx] at hlj
          have := hc j oj hj hlj e he hb
          by_cases hex : x.i = e.on
          · have hxl : x.i < listed.size := by
              have := (List.getElem?_eq_some_iff.1 hxo).1
              simp at this; omega
            rw [← hex]
            simp [Array.getD_eq_getD_getElem?, hxl]
          · rw [getD_set_ne false hex]; exact this
      · rw [hu2]
        simp only [List.length_append, List.length_cons] at hl ⊢
        omega
end
end Go.Ab
