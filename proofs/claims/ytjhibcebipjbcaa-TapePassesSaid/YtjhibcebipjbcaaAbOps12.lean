/- Calls: what a call comes to. -/
import Derived.Test.YtjhibcebipjbcaaAbOps11
set_option linter.unusedSimpArgs false
namespace Go.Ab
variable {U : Nat → Type}
section
variable {P : Program} {cd : Cd U} {M M' M2 : Mp} {Fz Fz' : Nat → Prop} {w w' : World}

/-- cells mapped one by one -/
theorem RL.mapC (hplain : ∀ t x c, c ∈ cd.enc t x → plainC c = true) {φ : C U → C U} (harr : ∀ t n l, φ (.arr t n l) = .arr t n l) (hna : ∀ c, (∀ t n l, c ≠ .arr t n l) → ∀ t n l, φ c ≠ .arr t n l)
    (h1 : ∀ c v, (∀ t n l, c ≠ .arr t n l) → R1 P cd M Fz w c v → R1 P cd M' Fz' w' (φ c) v) (h2 : ∀ c v, plainC c = true → R1 P cd M Fz w c v → R1 P cd M' Fz' w' c v)
    {cs : List (C U)} {vs : List Value} (h : RL P cd M Fz w cs vs) : RL P cd M' Fz' w' (cs.map φ) vs := by
  have key : ∀ cs : List (C U), (leaves cd (cs.map φ)).length = (leaves cd cs).length ∧ ∀ (j : Nat) c', (leaves cd (cs.map φ))[j]? = some c' → ∃ c, (leaves cd cs)[j]? = some c ∧ ((c' = φ c ∧ ∀ t n l, c ≠ .arr t n l) ∨ (c' = c ∧ plainC c = true)) := by
    intro cs
    induction cs with
    | nil => exact ⟨rfl, fun j c' hj => by simp [leaves] at hj⟩
    | cons c cs ih =>
      rw [List.map_cons, leaves_cons, leaves_cons]
      by_cases hc : ∃ t n l, c = .arr t n l
      · obtain ⟨t, n, l, rfl⟩ := hc
        rw [harr]
        refine ⟨by simp [ih.1], fun j c' hj => ?_⟩
        rcases Nat.lt_or_ge j (leaf cd (.arr t n l)).length with hlt | hge
        · rw [List.getElem?_append_left hlt] at hj
          refine ⟨c', by rw [List.getElem?_append_left hlt]; exact hj, .inr ⟨rfl, ?_⟩⟩
          obtain ⟨x, _, hx⟩ := List.mem_flatMap.1 (List.mem_of_getElem? (show ((l.flatMap (cd.enc t))[j]? = some c') from hj))
          exact hplain t x c' hx
        · rw [List.getElem?_append_right hge] at hj
          obtain ⟨c0, e1, e2⟩ := ih.2 _ c' hj
          exact ⟨c0, by rw [List.getElem?_append_right hge]; exact e1, e2⟩
      · have hc1 : ∀ t n l, c ≠ .arr t n l := fun t n l e => hc ⟨t, n, l, e⟩
        rw [leaf_one hc1, leaf_one (hna c hc1)]
        refine ⟨by simp [ih.1], fun j c' hj => ?_⟩
        cases j with
        | zero => simp at hj; exact ⟨c, rfl, .inl ⟨hj.symm, hc1⟩⟩
        | succ j =>
          simp only [List.singleton_append, List.getElem?_cons_succ] at hj
          obtain ⟨c0, e1, e2⟩ := ih.2 j c' hj
          exact ⟨c0, by simpa using e1, e2⟩
  refine ⟨?_, by rw [(key cs).1]; exact h.2.1, fun j c' v hj hv => ?_⟩
  · intro t n l hm
    obtain ⟨c, hc, e⟩ := List.mem_map.1 hm
    by_cases hca : ∃ t n l, c = .arr t n l
    · obtain ⟨t', n', l', rfl⟩ := hca
      rw [harr] at e
      exact h.1 t n l (e ▸ hc)
    · exact absurd e (hna c (fun t n l e => hca ⟨t, n, l, e⟩) t n l)
  · obtain ⟨c, e1, e2⟩ := (key cs).2 j c' hj
    have hr := h.2.2 j c v e1 hv
    rcases e2 with ⟨rfl, hn⟩ | ⟨rfl, hp⟩
    · exact h1 c v hn hr
    · exact h2 _ v hp hr
theorem R1.plain (ok : CdOk P cd) {c : C U} {v : Value} (h : R1 P cd M Fz w c v) (hf : ∀ k, Fz k → Fz' k) (hp : plainC c = true) : R1 P cd M' Fz' w c v := by
  induction h with
  | sl t l full a cap f h1 h0 h2 h3 ih =>
    exact .sl t l full a cap f h1 h0 (fun hl => let ⟨k, o, ha, hk, hc⟩ := h2 hl; ⟨k, o, ha, hf k hk, hc⟩) fun j c hj => ih j c hj (plain_flat ok hj)
  | bool b => exact .bool b
  | int k n => exact .int k n
  | str s => exact .str s
  | nilp => exact .nilp
  | mp l r es ck h1 h2 h3 h4 => exact .mp l r es ck (hf r h1) h2 h3 h4
  | _ => simp [plainC] at hp
theorem canC_ok {c : C U} {v : Value} (h : R1 P cd M Fz w c v) : R1 P cd M Fz w (canC c) v := by
  cases h with
  | kb b => exact .bool b
  | sl t l full a cap f h1 h0 h2 h3 => exact .sl t l false a cap f (fun e => by cases e) h0 h2 h3
  | unk v => exact .unk v
  | skp => exact .skp
  | bool b => exact .bool b
  | int k n => exact .int k n
  | str s => exact .str s
  | nils => exact .nils
  | row b v pos t ver len cap _ h1 h2 h3 h4 => exact .row b v pos t ver len cap _ h1 h2 h3 h4
  | own b v lo n pos t ver len cap _ h1 h2 h3 h4 => exact .own b v lo n pos t ver len cap _ h1 h2 h3 h4
  | ptr b o k h1 => exact .ptr b o k h1
  | elp b v i sub pos t ver len cap _ h1 h2 h3 h4 => exact .elp b v i sub pos t ver len cap _ h1 h2 h3 h4
  | ap b o t i sub k h1 => exact .ap b o t i sub k h1
  | xp t x sub k o f h1 h2 h3 => exact .xp t x sub k o f h1 h2 h3
  | fn f a c g k h1 h2 => exact .fn f a c g k h1 h2
  | nilp => exact .nilp
  | mp l r es ck h1 h2 h3 h4 => exact .mp l r es ck h1 h2 h3 h4
theorem RL.canp (hplain : ∀ t x c, c ∈ cd.enc t x → plainC c = true) {cs : List (C U)} {vs : List Value} (h : RL P cd M Fz w cs vs) : RL P cd M Fz w (cs.map canC) vs :=
  RL.mapC hplain (fun _ _ _ => rfl) (fun c hc t n l e => by cases c <;> first | exact hc _ _ _ rfl | cases e) (fun _ _ _ hr => canC_ok hr) (fun _ _ _ hr => hr) h
theorem RL.can (ok : CdOk P cd) {cs : List (C U)} {vs : List Value} (h : RL P cd M Fz w cs vs) : RL P cd M Fz w (cs.map canC) vs := RL.canp ok.plain h
theorem RV.can (ok : CdOk P cd) {x : V U} {v : Value} (h : RV P cd M Fz w x v) : RV P cd M Fz w (canV x) v := by
  cases x with
  | one c => exact canC_ok h
  | agg cs => obtain ⟨a, e, r⟩ := h; exact ⟨a, e, r.can ok⟩
theorem RVs.can (ok : CdOk P cd) {xs : List (V U)} {vs : List Value} (h : RVs P cd M Fz w xs vs) : RVs P cd M Fz w (xs.map canV) vs := by
  refine ⟨by rw [List.length_map]; exact h.1, fun j x v h1 h2 => ?_⟩
  rw [List.getElem?_map] at h1
  obtain ⟨y, hy, rfl⟩ := Option.map_eq_some_iff.1 h1
  exact (h.2 j y v hy h2).can ok
theorem HR.can (ok : CdOk P cd) {hp : List (Blk U)} (h : HR P cd M Fz hp w) : HR P cd M Fz (hp.map canB) w := by
  refine ⟨fun b x hx => ?_, fun b hb => h.out b (by simpa using hb), h.inj, h.apart, h.frz, h.lt⟩
  rw [List.getElem?_map] at hx
  obtain ⟨y, hy, rfl⟩ := Option.map_eq_some_iff.1 hx
  have hb := h.blk b y hy
  cases y with
  | dead => exact hb
  | cells cs => obtain ⟨k, arr, e, e1, e2, e3⟩ := hb; exact ⟨k, arr, e, e1, e2, e3.can ok⟩
  | row t v l => exact hb
theorem memN_ok : ∀ {l : List Nat} {x : Nat}, memN l x = true ↔ x ∈ l
  | [], x => by simp [memN]
  | y :: l, x => by
    simp only [memN, cond_eq_ite]
    split
    · rename_i h; simp [Nat.eq_of_beq_eq_true h]
    · rename_i h
      have : ¬ y = x := fun e => h (by simp [e])
      simp [memN_ok (l := l), Ne.symm this]
theorem nodupB_ok : ∀ {l : List Nat}, nodupB l = true → l.Nodup
  | [], _ => List.nodup_nil
  | x :: l, h => by
    simp only [nodupB, cond_eq_ite] at h
    split at h
    · cases h
    · rename_i hm
      exact List.nodup_cons.2 ⟨fun h' => hm (memN_ok.2 h'), nodupB_ok h⟩
theorem posN_none : ∀ {l : List Nat} {x j : Nat}, posN l x j = none ↔ x ∉ l
  | [], x, j => by simp [posN]
  | y :: l, x, j => by
    simp only [posN, cond_eq_ite]
    split
    · rename_i h; simp [Nat.eq_of_beq_eq_true h]
    · rename_i h
      have : ¬ y = x := fun e => h (by simp [e])
      rw [posN_none (l := l)]
      simp [Ne.symm this]
theorem posN_some : ∀ {l : List Nat} {x j k : Nat}, posN l x j = some k → j ≤ k ∧ l[k - j]? = some x
  | [], x, j, k, h => by simp [posN] at h
  | y :: l, x, j, k, h => by
    simp only [posN, cond_eq_ite] at h
    split at h
    · rename_i h'
      injection h with h
      subst h
      simp [Nat.eq_of_beq_eq_true h']
    · obtain ⟨h1, h2⟩ := posN_some h
      refine ⟨by omega, ?_⟩
      rw [show k - j = (k - (j + 1)) + 1 by omega]
      simpa using h2
theorem posN_get {l : List Nat} (hn : l.Nodup) {i x : Nat} (h : l[i]? = some x) : posN l x 0 = some i := by
  cases hp : posN l x 0 with
  | none => exact absurd (List.mem_of_getElem? h) (posN_none.1 hp)
  | some k =>
    obtain ⟨_, h2⟩ := posN_some hp
    rw [Nat.sub_zero] at h2
    have hi := (List.getElem?_eq_some_iff.1 h)
    have hk := (List.getElem?_eq_some_iff.1 h2)
    obtain ⟨hi1, hi2⟩ := hi
    obtain ⟨hk1, hk2⟩ := hk
    have hpw := List.pairwise_iff_getElem.1 hn
    rcases Nat.lt_trichotomy k i with hlt | rfl | hlt
    · exact absurd (hk2.trans hi2.symm) (hpw k i hk1 hi1 hlt)
    · rfl
    · exact absurd (hi2.trans hk2.symm) (hpw i k hi1 hk1 hlt)
theorem putGo_len (hp0 : List (Blk U)) (o0 : List Nat) : ∀ (rest : List (Blk U)) (j : Nat), (putBack.go hp0 o0 j rest).length = rest.length
  | [], _ => rfl
  | _ :: r, j => by simp [putBack.go, putGo_len hp0 o0 r]
theorem putGo_get (hp0 : List (Blk U)) (o0 : List Nat) : ∀ (rest : List (Blk U)) (j i : Nat), (putBack.go hp0 o0 j rest)[i]? = (rest[i]?).map (backB hp0 o0 (j + i))
  | [], _, _ => by simp [putBack.go]
  | b :: r, j, 0 => by simp [putBack.go]
  | b :: r, j, i + 1 => by
    simp only [putBack.go, List.getElem?_cons_succ]
    rw [putGo_get hp0 o0 r (j + 1) i, show j + 1 + i = j + (i + 1) by omega]
theorem putBack_ok (hp0 : List (Blk U)) (o0 : List Nat) : ∀ {order : List Nat} {j : Nat} {rest hp R : List (Blk U)}, order.Nodup → putBack hp0 o0 order j rest hp = some R →
    order.length ≤ rest.length ∧ R.length = hp.length + (rest.length - order.length) ∧ (∀ x, x < hp.length → x ∉ order → R[x]? = hp[x]?) ∧
    (∀ i x blk, order[i]? = some x → x < hp.length → rest[i]? = some blk → R[x]? = some (backB hp0 o0 (j + i) blk)) ∧
    (∀ i, R[hp.length + i]? = (rest[order.length + i]?).map (backB hp0 o0 (j + order.length + i)))
  | [], j, rest, hp, R, _, h => by
    simp only [putBack, Option.some.injEq] at h
    subst h
    refine ⟨by simp, by simp [putGo_len], fun x hx _ => by rw [List.getElem?_append_left hx], fun i x blk hi => by simp at hi, fun i => ?_⟩
    rw [List.getElem?_append_right (by omega), putGo_get]
    simp
  | b :: order, j, [], hp, R, _, h => by simp [putBack] at h
  | b :: order, j, blk :: rest, hp, R, hn, h => by
    simp only [putBack, setN_eq] at h
    obtain ⟨hb, hn⟩ := List.nodup_cons.1 hn
    obtain ⟨h1, h2, h3, h4, h5⟩ := putBack_ok hp0 o0 hn h
    rw [List.length_set] at h2 h3 h4 h5
    refine ⟨by simp; omega, by simp [h2], fun x hx hm => ?_, fun i x blk' hi hx hr => ?_, fun i => ?_⟩
    · simp only [List.mem_cons, not_or] at hm
      rw [h3 x hx hm.2, List.getElem?_set_ne (fun e => hm.1 e.symm)]
    · cases i with
      | zero =>
        simp at hi hr
        subst hi; subst hr
        rw [h3 b hx hb, List.getElem?_set_self hx]
        rfl
      | succ i =>
        simp at hi hr
        rw [h4 i x blk' hi hx hr]
        congr 2
        omega
    · rw [h5 i]
      simp only [List.length_cons]
      rw [show order.length + 1 + i = (order.length + i) + 1 by omega, List.getElem?_cons_succ]
      congr 2
      omega

/-! ### the smaller memory -/
def Inf.reset (n j : Nat) : Inf → Inf
  | .row pos t v len cap => .row pos t (ver0 n j v) len cap
  | i => i
def Inf.lift (v0 : Nat) : Inf → Inf
  | .row pos t v len cap => .row pos t (v0 + v) len cap
  | i => i
theorem Inf.reset_blk (n j : Nat) (i : Inf) : (i.reset n j).blk = i.blk := by cases i <;> rfl
theorem Inf.lift_blk (v : Nat) (i : Inf) : (i.lift v).blk = i.blk := by cases i <;> rfl
def small (n : Nat) (M : Mp) (order : List Nat) : Mp := fun j => (order[j]?).bind fun b => (M b).map (Inf.reset n j)
theorem small_held {n : Nat} {order : List Nat} {k : Nat} (h : Held (small n M order) k) : Held M k := by
  obtain ⟨j, i, h1, h2⟩ := h
  simp only [small] at h1
  obtain ⟨b, hb, h1⟩ := Option.bind_eq_some_iff.1 h1
  obtain ⟨i', hi', rfl⟩ := Option.map_eq_some_iff.1 h1
  exact ⟨b, i', hi', by rw [← h2, Inf.reset_blk]⟩
theorem into_renum {hp : List (Blk U)} (h : HR P cd M Fz hp w) (n : Nat) (order : List Nat) : Renum M (small n M order) (into n hp order) := by
  constructor
  · intro b v b' v' pos t ver len cap hm hg hv
    unfold into at hg
    split at hg
    · rename_i j hj
      obtain ⟨_, hj'⟩ := posN_some hj
      rw [nth_eq] at hg
      rw [Nat.sub_zero] at hj'
      split at hg
      · rename_i t2 v2 l2 hb
        rw [cond_eq_ite] at hg
        split at hg
        · rename_i hvv
          obtain rfl := Nat.eq_of_beq_eq_true hvv
          simp only [Option.some.injEq, Prod.mk.injEq] at hg
          obtain ⟨rfl, rfl⟩ := hg
          obtain ⟨pos', cap', e1, _⟩ := h.blk b _ hb
          rw [hm] at e1
          injection e1 with e1
          injection e1 with e1 e2 e3 e4 e5
          refine ⟨ver0 n j ver, ?_, by rw [e3]; exact Nat.le_refl _, fun _ => e3.symm⟩
          simp [small, hj', hm, Inf.reset]
        · cases hg
      · rename_i cs hb
        obtain ⟨k, arr, e, e1, _⟩ := h.blk b _ hb
        rw [hm] at e1
        cases e1
      · cases hg
    · cases hg
  · intro b k b' v' hm hg
    unfold into at hg
    split at hg
    · rename_i j hj
      obtain ⟨_, hj'⟩ := posN_some hj
      rw [nth_eq] at hg
      rw [Nat.sub_zero] at hj'
      split at hg
      · rename_i t2 v2 l2 hb
        obtain ⟨pos', cap', e1, _⟩ := h.blk b _ hb
        rw [hm] at e1
        cases e1
      · simp only [Option.some.injEq, Prod.mk.injEq] at hg
        obtain ⟨rfl, rfl⟩ := hg
        simp [small, hj', hm, Inf.reset]
      · cases hg
    · cases hg
theorem RowPos.ren {t : Nat} {l : List (U t)} {cap : Nat} {pos : Option Nat} (h : RowPos P cd M Fz w t l cap pos) (ok : CdOk P cd) : RowPos P cd M2 Fz w t l cap pos := by
  cases pos with
  | none => exact h
  | some k =>
    obtain ⟨cur, r⟩ := h
    refine ⟨cur, r.heap, r.le, r.max, r.size, fun j c hj => ?_⟩
    obtain ⟨v, h1, h2⟩ := r.cells j c hj
    refine ⟨v, h1, ?_⟩
    have := ren1_ok ok (Renum.none M M2) h2
    rwa [ren1_plain (plain_flat ok hj)] at this
theorem intoHp_len (n : Nat) (hp : List (Blk U)) (order : List Nat) : ∀ (l : List Nat) (j : Nat), (intoHp n hp order j l).length = l.length
  | [], _ => rfl
  | _ :: l, j => by simp [intoHp, intoHp_len n hp order l]
theorem intoHp_get (n : Nat) (hp : List (Blk U)) (order : List Nat) : ∀ (l : List Nat) (j i : Nat), (intoHp n hp order j l)[i]? = (l[i]?).map (intoB n hp order (j + i))
  | [], _, _ => by simp [intoHp]
  | b :: l, j, 0 => by simp [intoHp]
  | b :: l, j, i + 1 => by
    simp only [intoHp, List.getElem?_cons_succ]
    rw [intoHp_get n hp order l (j + 1) i, show j + 1 + i = j + (i + 1) by omega]
theorem small_hr (ok : CdOk P cd) {hp : List (Blk U)} (h : HR P cd M Fz hp w) (n : Nat) {order : List Nat} (hn : order.Nodup) : HR P cd (small n M order) Fz (intoHp n hp order 0 order) w := by
  have hren := into_renum h n order
  refine ⟨?_, ?_, ?_, ?_, h.frz, ?_⟩
  · intro j x hj
    rw [intoHp_get] at hj
    obtain ⟨b, hb, rfl⟩ := Option.map_eq_some_iff.1 hj
    unfold intoB
    rw [nth_eq]
    have hs : small n M order j = (M b).map (Inf.reset n j) := by simp [small, hb]
    rw [Nat.zero_add]
    split
    · rename_i cs hcs
      obtain ⟨k, arr, e, e1, e2, e3⟩ := h.blk b _ hcs
      exact ⟨k, arr, e, by rw [hs, e1]; rfl, e2, e3.ren ok hren⟩
    · rename_i t v l hl
      obtain ⟨pos, cap, e1, e2⟩ := h.blk b _ hl
      exact ⟨pos, cap, by rw [hs, e1]; rfl, e2.ren ok⟩
    · rename_i hx1 hx2
      show small n M order j = none
      rw [hs]
      cases hb' : hp[b]? with
      | none => rw [h.out b (List.getElem?_eq_none_iff.1 hb')]; rfl
      | some x =>
        cases x with
        | dead => rw [show M b = none from h.blk b _ hb']; rfl
        | cells cs => exact absurd hb' (hx1 cs)
        | row t v l => exact absurd hb' (hx2 t v l)
  · intro j hj
    rw [intoHp_len] at hj
    simp [small, List.getElem?_eq_none hj]
  · intro j j' i i' k h1 h2 h3 h4
    simp only [small] at h1 h2
    obtain ⟨b, hb, h1⟩ := Option.bind_eq_some_iff.1 h1
    obtain ⟨b', hb', h2⟩ := Option.bind_eq_some_iff.1 h2
    obtain ⟨i0, hi0, rfl⟩ := Option.map_eq_some_iff.1 h1
    obtain ⟨i1, hi1, rfl⟩ := Option.map_eq_some_iff.1 h2
    rw [Inf.reset_blk] at h3 h4
    have := h.inj b b' i0 i1 k hi0 hi1 h3 h4
    subst this
    have e1 := posN_get hn hb
    have e2 := posN_get hn hb'
    rw [e1] at e2
    exact Option.some.inj e2
  · intro j i k h1 h2
    obtain ⟨b, i', e1, e2⟩ := small_held ⟨j, i, h1, h2⟩
    exact h.apart b i' k e1 e2
  · intro j i k h1 h2
    obtain ⟨b, i', e1, e2⟩ := small_held ⟨j, i, h1, h2⟩
    exact h.lt b i' k e1 e2
theorem ltAll_ok {n : Nat} : ∀ {l : List Nat}, ltAll n l = true → ∀ x ∈ l, x < n
  | [], _, x, h => by simp at h
  | y :: l, e, x, h => by
    simp only [ltAll, cond_eq_ite] at e
    split at e
    · rename_i hy
      rcases List.mem_cons.1 h with rfl | h
      · exact of_decide_eq_true (by simpa using hy)
      · exact ltAll_ok e x h
    · cases e
def vr (hp : List (Blk U)) (x : Nat) : Nat := match hp[x]? with
  | some (.row _ v _) => v
  | _ => 0
theorem back_in {hp : List (Blk U)} {order : List Nat} {b b' v : Nat} (h : order[b]? = some b') : back hp order b v = some (b', vr hp b' + v) := by
  unfold back vr
  rw [nth_eq, h]
  simp only [nth_eq]
  split
  · rename_i hh; rw [hh]
  · rename_i hh
    split
    · rename_i hh'; exact absurd hh' (hh _ _ _)
    · simp
theorem back_out {hp : List (Blk U)} {order : List Nat} {b v : Nat} (h : order.length ≤ b) : back hp order b v = some (hp.length + (b - order.length), v) := by
  unfold back
  rw [nth_eq, List.getElem?_eq_none h]
/-- the memory after a call -/
def big (hp : List (Blk U)) (order : List Nat) (M M0 : Mp) : Mp := fun x =>
  if x < hp.length then (match posN order x 0 with | some j => (M0 j).map (Inf.lift (vr hp x)) | none => M x) else M0 (order.length + (x - hp.length))
theorem big_in {hp : List (Blk U)} {order : List Nat} (hn : order.Nodup) {M M0 : Mp} {j b : Nat} (hj : order[j]? = some b) (hb : b < hp.length) : big hp order M M0 b = (M0 j).map (Inf.lift (vr hp b)) := by
  simp [big, hb, posN_get hn hj]
theorem big_rest {hp : List (Blk U)} {order : List Nat} {M M0 : Mp} {b : Nat} (hj : b ∉ order) (hb : b < hp.length) : big hp order M M0 b = M b := by
  simp [big, hb, posN_none.2 hj]
theorem big_new {hp : List (Blk U)} {order : List Nat} {M M0 : Mp} (i : Nat) : big hp order M M0 (hp.length + i) = M0 (order.length + i) := by
  unfold big
  rw [if_neg (by omega), show hp.length + i - hp.length = i by omega]
theorem back_renum {hp : List (Blk U)} {order : List Nat} (hn : order.Nodup) (hlt : ∀ x ∈ order, x < hp.length) (M M0 : Mp) : Renum M0 (big hp order M M0) (back hp order) := by
  constructor
  · intro b v b' v' pos t ver len cap hm hg hv
    rcases Nat.lt_or_ge b order.length with hb | hb
    · have hb' := List.getElem?_eq_getElem hb
      rw [back_in hb'] at hg
      simp only [Option.some.injEq, Prod.mk.injEq] at hg
      obtain ⟨rfl, rfl⟩ := hg
      rw [big_in hn hb' (hlt _ (List.getElem_mem hb)), hm]
      exact ⟨vr hp order[b] + ver, rfl, by omega, by omega⟩
    · rw [back_out hb] at hg
      simp only [Option.some.injEq, Prod.mk.injEq] at hg
      obtain ⟨rfl, rfl⟩ := hg
      rw [big_new, show order.length + (b - order.length) = b by omega, hm]
      exact ⟨ver, rfl, hv, id⟩
  · intro b k b' v' hm hg
    rcases Nat.lt_or_ge b order.length with hb | hb
    · have hb' := List.getElem?_eq_getElem hb
      rw [back_in hb'] at hg
      simp only [Option.some.injEq, Prod.mk.injEq] at hg
      obtain ⟨rfl, rfl⟩ := hg
      rw [big_in hn hb' (hlt _ (List.getElem_mem hb)), hm]
      rfl
    · rw [back_out hb] at hg
      simp only [Option.some.injEq, Prod.mk.injEq] at hg
      obtain ⟨rfl, rfl⟩ := hg
      rw [big_new, show order.length + (b - order.length) = b by omega, hm]
theorem call_core (ok : CdOk P cd) {hp R hp0 : List (Blk U)} (h : HR P cd M Fz hp w) {order : List Nat} (hn : order.Nodup) (hlt : ∀ x ∈ order, x < hp.length) {xs : List (V U)} {v : Value}
    (hpost : Post P cd (small 0 M order) Fz w (resD xs) hp0 v w') (hpb : putBack hp order order 0 hp0 hp = some R) {d' : D U} (hd' : d' = resD (xs.map (renV (back hp order))) ∨ d' = resD (xs.map (renV fun _ _ => none))) : Post P cd M Fz w d' R v w' := by
  obtain ⟨M0, F', hd, hh, hext, hfrz, hkeep, hheld, hf1⟩ := hpost
  obtain ⟨hlen, hRl, hrest, hin, hnew⟩ := putBack_ok hp order hn hpb
  have hren := back_renum hn hlt M M0
  have hE : Ext M (big hp order M M0) := by
    intro b i hi
    have hb : b < hp.length := by
      rcases Nat.lt_or_ge b hp.length with h' | h'
      · exact h'
      · rw [h.out b h'] at hi; cases hi
    by_cases hm : b ∈ order
    · obtain ⟨j, hj⟩ := List.mem_iff_getElem?.1 hm
      rw [big_in hn hj hb]
      obtain ⟨i', e1, e2⟩ := hext j (i.reset 0 j) (by simp [small, hj, hi])
      rw [e1]
      refine ⟨_, rfl, ?_⟩
      cases i with
      | cells k => cases e2; exact .refl _
      | row pos t ver len cap =>
        have hv : vr hp b = ver := by
          have hx := List.getElem?_eq_getElem hb
          have hbk := h.blk b _ hx
          revert hbk hx
          generalize hp[b] = y
          intro hx hbk
          cases y with
          | dead => exact absurd (hi.symm.trans hbk) (by simp)
          | cells cs => obtain ⟨k, arr, e, e1, _⟩ := hbk; rw [hi] at e1; cases e1
          | row t' v' l =>
            obtain ⟨pos', cap', e1, _⟩ := hbk
            rw [hi] at e1
            injection e1 with e1
            injection e1 with e1 e2 e3
            simp [vr, hx, e3]
        rw [hv]
        cases e2 with
        | refl => exact .refl _
        | later _ q _ u _ v' _ m _ d hlt => exact .later _ _ _ _ _ _ _ _ _ _ (by omega)
    · rw [big_rest hm hb]
      exact ⟨i, hi, .refl _⟩
  have hHeld : ∀ k, Held (big hp order M M0) k → (∃ b i, b < hp.length ∧ b ∉ order ∧ M b = some i ∧ i.blk = some k) ∨ Held M0 k := by
    rintro k ⟨b, i, e1, e2⟩
    rcases Nat.lt_or_ge b hp.length with hb | hb
    · by_cases hm : b ∈ order
      · obtain ⟨j, hj⟩ := List.mem_iff_getElem?.1 hm
        rw [big_in hn hj hb] at e1
        obtain ⟨i', e3, rfl⟩ := Option.map_eq_some_iff.1 e1
        rw [Inf.lift_blk] at e2
        exact .inr ⟨j, i', e3, e2⟩
      · rw [big_rest hm hb] at e1
        exact .inl ⟨b, i, hb, hm, e1, e2⟩
    · rw [show b = hp.length + (b - hp.length) by omega, big_new] at e1
      exact .inr ⟨_, i, e1, e2⟩
  have hfree : ∀ b i k, b ∉ order → M b = some i → i.blk = some k → ¬ Held (small 0 M order) k := by
    rintro b i k hm e1 e2 ⟨j, i', e3, e4⟩
    simp only [small] at e3
    obtain ⟨b', hb', e3⟩ := Option.bind_eq_some_iff.1 e3
    obtain ⟨i0, hi0, rfl⟩ := Option.map_eq_some_iff.1 e3
    rw [Inf.reset_blk] at e4
    exact hm (h.inj b b' i i0 k e1 hi0 e2 e4 ▸ List.mem_of_getElem? hb')
  have hfree0 : ∀ b i k, b ∉ order → M b = some i → i.blk = some k → ¬ Held M0 k := by
    intro b i k hm e1 e2 hk
    rcases hheld k hk with h' | h'
    · exact hfree b i k hm e1 e2 h'
    · have := h.lt b i k e1 e2; omega
  have hsame : ∀ b i k, b ∉ order → M b = some i → i.blk = some k → w'.heap[k]? = w.heap[k]? := fun b i k hm e1 e2 => hkeep.old k (h.lt b i k e1 e2) (hfree b i k hm e1 e2)
  have hdd : RD P cd (big hp order M M0) F' w' d' v := by
    rcases hd' with rfl | rfl
    · exact resD_ren ok hren hd
    · exact resD_ren ok (Renum.none _ _) hd
  refine ⟨big hp order M M0, F', hdd, ⟨?_, ?_, ?_, ?_, hh.frz, ?_⟩, hE, hfrz, ?_, ?_, ?_⟩
  · intro b x hx
    rcases Nat.lt_or_ge b hp.length with hb | hb
    · by_cases hm : b ∈ order
      · obtain ⟨j, hj⟩ := List.mem_iff_getElem?.1 hm
        have hjl := (List.getElem?_eq_some_iff.1 hj).1
        have hbl := List.getElem?_eq_getElem (show j < hp0.length by omega)
        rw [hin j b _ hj hb hbl] at hx
        injection hx with hx
        subst hx
        have hb0 := hh.blk j _ hbl
        have hbg : big hp order M M0 b = (M0 j).map (Inf.lift (vr hp b)) := big_in hn hj hb
        rw [Nat.zero_add]
        revert hb0
        generalize hp0[j] = y
        intro hb0
        cases y with
        | dead => show big hp order M M0 b = none; rw [hbg, show M0 j = none from hb0]; rfl
        | cells cs =>
          obtain ⟨k, arr, e, e1, e2, e3⟩ := hb0
          exact ⟨k, arr, e, by rw [hbg, e1]; rfl, e2, e3.ren ok hren⟩
        | row t v l =>
          obtain ⟨pos, cap, e1, e2⟩ := hb0
          have : backB hp order j (.row t v l) = .row t (vr hp b + v) l := by
            unfold backB
            simp only [nth_eq, hj, vr]
            congr 1
            split
            · rename_i hh; simp [hh]
            · rename_i hh
              split
              · rename_i hh'; exact absurd hh' (hh _ _ _)
              · simp
          rw [this]
          exact ⟨pos, cap, by rw [hbg, e1]; rfl, e2.ren ok⟩
      · rw [hrest b hb hm] at hx
        have hb0 := h.blk b x hx
        have hbg : big hp order M M0 b = M b := big_rest hm hb
        cases x with
        | dead => exact hbg.trans hb0
        | cells cs =>
          obtain ⟨k, arr, e, e1, e2, e3⟩ := hb0
          exact ⟨k, arr, e, hbg.trans e1, (hsame b _ k hm e1 rfl).trans e2, e3.mono hE hfrz⟩
        | row t v l =>
          obtain ⟨pos, cap, e1, e2⟩ := hb0
          refine ⟨pos, cap, hbg.trans e1, ?_⟩
          cases pos with
          | none => exact e2
          | some k =>
            obtain ⟨cur, r⟩ := e2
            refine ⟨cur, (hsame b _ k hm e1 rfl).trans r.heap, r.le, r.max, r.size, fun j c hj => ?_⟩
            obtain ⟨v, h1, h2⟩ := r.cells j c hj
            exact ⟨v, h1, h2.mono hE hfrz⟩
    · rw [show b = hp.length + (b - hp.length) by omega, hnew] at hx
      obtain ⟨y, hy, rfl⟩ := Option.map_eq_some_iff.1 hx
      have hb0 := hh.blk _ y hy
      have hbg : big hp order M M0 b = M0 (order.length + (b - hp.length)) := by
        conv => lhs; rw [show b = hp.length + (b - hp.length) by omega]
        exact big_new _
      cases y with
      | dead => exact hbg.trans hb0
      | cells cs =>
        obtain ⟨k, arr, e, e1, e2, e3⟩ := hb0
        exact ⟨k, arr, e, hbg.trans e1, e2, e3.ren ok hren⟩
      | row t v l =>
        obtain ⟨pos, cap, e1, e2⟩ := hb0
        have : backB hp order (0 + order.length + (b - hp.length)) (.row t v l) = .row t v l := by
          unfold backB
          rw [nth_eq, List.getElem?_eq_none (by omega)]
        rw [this]
        exact ⟨pos, cap, hbg.trans e1, e2.ren ok⟩
  · intro b hb
    rw [show b = hp.length + (b - hp.length) by omega, big_new]
    exact hh.out _ (by omega)
  · intro b b' i i' k e1 e2 e3 e4
    rcases Nat.lt_or_ge b hp.length with hb | hb
    · by_cases hm : b ∈ order
      · obtain ⟨j, hj⟩ := List.mem_iff_getElem?.1 hm
        rw [big_in hn hj hb] at e1
        obtain ⟨i0, q1, rfl⟩ := Option.map_eq_some_iff.1 e1
        rw [Inf.lift_blk] at e3
        rcases Nat.lt_or_ge b' hp.length with hb' | hb'
        · by_cases hm' : b' ∈ order
          · obtain ⟨j', hj'⟩ := List.mem_iff_getElem?.1 hm'
            rw [big_in hn hj' hb'] at e2
            obtain ⟨i1, q2, rfl⟩ := Option.map_eq_some_iff.1 e2
            rw [Inf.lift_blk] at e4
            have := hh.inj j j' i0 i1 k q1 q2 e3 e4
            subst this
            rw [hj] at hj'
            exact Option.some.inj hj'
          · rw [big_rest hm' hb'] at e2
            exact absurd ⟨j, i0, q1, e3⟩ (hfree0 b' i' k hm' e2 e4)
        · rw [show b' = hp.length + (b' - hp.length) by omega, big_new] at e2
          have := hh.inj _ _ i0 i' k q1 e2 e3 e4
          have := (List.getElem?_eq_some_iff.1 hj).1
          omega
      · rw [big_rest hm hb] at e1
        rcases Nat.lt_or_ge b' hp.length with hb' | hb'
        · by_cases hm' : b' ∈ order
          · obtain ⟨j', hj'⟩ := List.mem_iff_getElem?.1 hm'
            rw [big_in hn hj' hb'] at e2
            obtain ⟨i1, q2, rfl⟩ := Option.map_eq_some_iff.1 e2
            rw [Inf.lift_blk] at e4
            exact absurd ⟨j', i1, q2, e4⟩ (hfree0 b i k hm e1 e3)
          · rw [big_rest hm' hb'] at e2
            exact h.inj b b' i i' k e1 e2 e3 e4
        · rw [show b' = hp.length + (b' - hp.length) by omega, big_new] at e2
          exact absurd ⟨_, i', e2, e4⟩ (hfree0 b i k hm e1 e3)
    · rw [show b = hp.length + (b - hp.length) by omega, big_new] at e1
      rcases Nat.lt_or_ge b' hp.length with hb' | hb'
      · by_cases hm' : b' ∈ order
        · obtain ⟨j', hj'⟩ := List.mem_iff_getElem?.1 hm'
          rw [big_in hn hj' hb'] at e2
          obtain ⟨i1, q2, rfl⟩ := Option.map_eq_some_iff.1 e2
          rw [Inf.lift_blk] at e4
          have := hh.inj _ _ i i1 k e1 q2 e3 e4
          have := (List.getElem?_eq_some_iff.1 hj').1
          omega
        · rw [big_rest hm' hb'] at e2
          exact absurd ⟨_, i, e1, e3⟩ (hfree0 b' i' k hm' e2 e4)
      · rw [show b' = hp.length + (b' - hp.length) by omega, big_new] at e2
        have := hh.inj _ _ i i' k e1 e2 e3 e4
        omega
  · intro b i k e1 e2 hf
    rcases hHeld k ⟨b, i, e1, e2⟩ with ⟨b', i', _, hm, e3, e4⟩ | ⟨j, i', e3, e4⟩
    · rcases hf1 k hf with h' | h' | h'
      · exact h.apart b' i' k e3 e4 h'
      · exact hfree b' i' k hm e3 e4 h'
      · have := h.lt b' i' k e3 e4; omega
    · exact hh.apart j i' k e3 e4 hf
  · intro b i k e1 e2
    rcases hHeld k ⟨b, i, e1, e2⟩ with ⟨b', i', _, hm, e3, e4⟩ | ⟨j, i', e3, e4⟩
    · have := h.lt b' i' k e3 e4
      have := hkeep.size
      omega
    · exact hh.lt j i' k e3 e4
  · exact ⟨hkeep.os, hkeep.tape, hkeep.output, hkeep.size, fun k hk hn => hkeep.old k hk fun hk' => hn (small_held hk')⟩
  · intro k hk
    rcases hHeld k hk with ⟨b', i', _, hm, e3, e4⟩ | hk'
    · exact .inl ⟨b', i', e3, e4⟩
    · rcases hheld k hk' with h' | h'
      · exact .inl (small_held h')
      · exact .inr h'
  · intro k hk
    rcases hf1 k hk with h' | h' | h'
    · exact .inl h'
    · exact .inr (.inl (small_held h'))
    · exact .inr (.inr h')

/-- What is known of a function. -/
def FnOk (P : Program) (cd : Cd U) (f : Nat) (spec : List (V U) → List (Blk U) → Option (FnOut U)) : Prop :=
  ∀ (M : Mp) (Fz : Nat → Prop) (w : World) (hp : List (Blk U)) (args : List (V U)) (vargs : List Value), HR P cd M Fz hp w → RVs P cd M Fz w args vargs → ∀ r, spec args hp = some r → ∀ x, r.o = some x → ∀ p, (r.out x).run = some p →
    ∃ fn, P.funcs[f]? = some fn ∧ (fn.name == "runtime.NumGoroutine") = false ∧ fn.body.isSome = true ∧ Calls P f vargs.toArray w fun e w' => ∃ v, e = .returned v ∧ Post P cd M Fz w (resD p.1) p.2 v w'
end
end Go.Ab
